/- Texts behind the law NetdispatchFlows, part 14 (no statement is proved here). -/
import Derived.Test.YtfobeapcmgjhbaaGreatDoorKNetdispatchFlows13
namespace Go.Proofs.YtfobeapcmgjhbaaGreatDoor.VE
open Go Go.RowKit
set_option linter.unusedVariables false
attribute [local irreducible] wrap64
attribute [local irreducible] rd
abbrev MT:=(List Int×List Int)×List (Int×Int)×List QT×List QT×List Int×Int
def brk (n:NetT) (k:Nat):BrT:=rY11 n.2.2.1 (k:Int)
def w1 (n:NetT) (t:List Int×List Int) (k:Nat):Int:=busS n t (brk n k).2.1
def w2 (n:NetT) (t:List Int×List Int) (k:Nat):Int:=busS n t (brk n k).2.2.1
def Bq (n:NetT) (k:Nat):Rat:=((1000000:Int):Rat) / (((brk n k).2.2.2.1*(brk n k).2.2.2.2.1:Int):Rat)
def Sq (n:NetT) (k:Nat):Rat:=(((brk n k).2.2.2.2.2.1:Int):Rat) / ((1000:Int):Rat)
def dd (n:NetT) (t:List Int×List Int) (k b:Nat):Rat:=(if w1 n t k=(b:Int) then 1 else 0) - (if w2 n t k=(b:Int) then 1 else 0)
structure ModP (n:NetT) (t:List Int×List Int) (m:MT):Prop where
 top:m.1=t
 wl:m.2.1.length=n.2.2.1.length
 w:∀k:Nat,k<n.2.2.1.length→rY4 m.2.1 (k:Int)=(w1 n t k,w2 n t k)
 B:Rw 6 n.2.2.1.length (Bq n) m.2.2.1
 S:Rw 6 n.2.2.1.length (Sq n) m.2.2.2.1
 pl:m.2.2.2.2.1.length=t.2.length
 p:∀i:Nat,i<t.2.length→rI64 m.2.2.2.2.1 (i:Int)=(i:Int) - 1
 rows:m.2.2.2.2.2=((t.2.length - 1:Nat):Int)
theorem brk_ok {n:NetT} (h:NetOk n) {k:Nat} (hk:k<n.2.2.1.length):BrP n (brk n k):=h.br _ (qeV (xs:=n.2.2.1) (i:=(k:Int)) (by omega) (by omega))
theorem w_rng {n:NetT} (h:NetOk n) {t:List Int×List Int} (ht:TopoP n t) {k:Nat} (hk:k<n.2.2.1.length):(0≤w1 n t k∧w1 n t k<t.2.length)∧0≤w2 n t k∧w2 n t k<t.2.length:=
 ⟨qe6 ht (brk_ok h hk).1,qe6 ht (brk_ok h hk).2.1⟩
theorem qd5 {xs:List Int} {v:Int} {j:Nat} (hj:j<xs.length):rI64 (xs++[v]) (j:Int)=rI64 xs (j:Int):=by
 have h2:=rI64_some (xs:=xs) (i:=(j:Int)) (by omega) (by omega)
 rw [show ((j:Int)).toNat=j from rfl] at h2
 exact qb6 _ _ _ (by rw [List.getElem?_append_left hj,h2])
theorem qdh {xs:List Int} {v:Int}:rI64 (xs++[v]) (xs.length:Int)=v:=qb6 _ _ _ (by rw [List.getElem?_append_right (Nat.le_refl _),Nat.sub_self];rfl)
theorem build_ev {n:NetT} (h:NetOk n) {t:List Int×List Int} (ht:TopoP n t) (hF:Ev (fun k=>qaM.f k n) t) (hi:∀i:Nat,i<t.2.length→rI64 t.2 (i:Int)=0):EvP (fun k=>qaH.f k n) (ModP n t):=by
 have l0:=h.l0
 have l2:=h.l2
 have li:=ht.li
 refine EvP.bindE hF ?_
 have hb:∀x∈t.1,0≤x∧x<(t.2.length:Int):=fun x hx=>by
  obtain ⟨i,hi,rfl⟩:=List.mem_iff_getElem.1 hx
  rw [rd_at t.1 i hi]
  exact ht.bus i (by rw [←ht.lb];exact hi)
 refine EvP.bind (qe7 n h t.1 ht.lb (t.2.length:Int) hb n.2.2.1.length 0 [] (Nat.zero_add _) rfl (fun i hi=>by omega)) (fun W hW=>?_)
 obtain ⟨W1,W2⟩:=hW
 -- the places
 have places:∀(Bs Ss:List QT),Rw 6 n.2.2.1.length (Bq n) Bs→Rw 6 n.2.2.1.length (Sq n) Ss→∀(m j:Nat) (last:Int) (pl:List Int),j+m=t.2.length→pl.length=j→(∀i:Nat,i<j→rI64 pl (i:Int)=(i:Int) - 1)→(j=0∧last=-1∨0<j∧last=0)→
   EvP (fun k=>qaH.l11 k last t.2 (t.2.length:Int) (j:Int) 0 t.1 t.2 W ((j - 1:Nat):Int) Bs Ss pl) (ModP n t):=by
  intro Bs Ss hB hS m
  induction m with
  |zero=>
   intro j last pl hj hl hp _
   have:j=t.2.length:=by omega
   subst this
   exact EvP.step (fun k=>qaH.l11_eq k ..) (EvP.neg (by omega) (EvP.ret ⟨rfl,W1,fun k hk=>W2 k (by omega),hB,hS,hl,hp,rfl⟩))
  |succ m ih=>
   intro j last pl hj hl hp hc
   have e0:=hi j (by omega)
   refine EvP.step (fun k=>qaH.l11_eq k ..) (EvP.pos (by omega) (EvP.pos (by omega) (EvP.pos (by omega) ?_)))
   rw [e0]
   rcases hc with ⟨c1,c2⟩|⟨c1,c2⟩
   ·subst c1
    refine EvP.pos (by omega) (EvP.pos (by show (pl.length+1)*8≤_;omega) ?_)
    rw [w64 (by omega) (by omega)]
    refine ih 1 0 (pl++[-1]) (by omega) (by rw [List.length_append,hl];rfl) (fun i h1=>?_) (Or.inr ⟨by omega,rfl⟩)
    have:i=0:=by omega
    subst this
    have:=qdh (xs:=pl) (v:=-1)
    rw [hl] at this
    rw [this];rfl
   ·refine EvP.neg (by omega) (EvP.pos (by show (pl.length+1)*8≤_;omega) ?_)
    rw [w64 (x:=(j:Int)+1) (by omega) (by omega),w64 (by omega) (by omega),c2,show ((j - 1:Nat):Int)+1=((j+1 - 1:Nat):Int) by omega]
    refine ih (j+1) 0 (pl++[((j - 1:Nat):Int)]) (by omega) (by rw [List.length_append,hl];rfl) (fun i h1=>?_) (Or.inr ⟨by omega,rfl⟩)
    by_cases e:i=j
    ·subst e
     have:=qdh (xs:=pl) (v:=((i - 1:Nat):Int))
     rw [hl] at this
     rw [this];omega
    ·rw [qd5 (by omega)]
     exact hp i (by omega)
 -- the branches
 have brs:∀(m j:Nat) (Bs Ss:List QT),j+m=n.2.2.1.length→Rw 6 j (Bq n) Bs→Rw 6 j (Sq n) Ss→EvP (fun k=>qaH.l4 k n.2.2.1 (n.2.2.1.length:Int) (j:Int) 0 t.1 t.2 t.1 t.2 W 0 Bs Ss) (ModP n t):=by
  intro m
  induction m with
  |zero=>
   intro j Bs Ss hj hB hS
   have:j=n.2.2.1.length:=by omega
   subst this
   exact EvP.step (fun k=>qaH.l4_eq k ..) (EvP.neg (by omega) (places Bs Ss hB hS t.2.length 0 (-1) [] (by omega) rfl (fun i hi=>by omega) (Or.inl ⟨rfl,rfl⟩)))
  |succ m ih=>
   intro j Bs Ss hj hB hS
   have ok:=(brk_ok h (show j<n.2.2.1.length by omega)).2.2
   unfold BrOk at ok
   obtain ⟨x1,x2,x3,x4,x5,x6,_⟩:=ok
   have hm:=mul_abs (a:=(brk n j).2.2.2.1) (b:=(brk n j).2.2.2.2.1) (A:=10000) (B:=1500) (by omega) x2 (by omega) x4
   have hBl:=hB.1
   have hSl:=hS.1
   refine EvP.step (fun k=>qaH.l4_eq k ..) (EvP.pos (by omega) (EvP.pos (by omega) (EvP.pos (by omega) ?_)))
   rw [w64 (x:=(rY11 n.2.2.1 (j:Int)).2.2.2.1*(rY11 n.2.2.1 (j:Int)).2.2.2.2.1) (by show _≤(brk n j).2.2.2.1*(brk n j).2.2.2.2.1;omega) (by show (brk n j).2.2.2.1*(brk n j).2.2.2.2.1≤_;omega),w64 (by omega) (by omega)]
   refine EvP.bind (qeL (by omega) (by omega)) (fun r3 h3=>EvP.bind (qeL (a:=(brk n j).2.2.2.1*(brk n j).2.2.2.2.1) (by omega) (by omega)) (fun r4 h4=>EvP.bind (quoQ_ev h3 h4 (by omega)) (fun r5 h5=>EvP.pos (by show (Bs.length+1)*56≤_;omega) ?_)))
   refine EvP.bind (qeL (a:=(brk n j).2.2.2.2.2.1) (by omega) (by omega)) (fun r6 h6=>EvP.bind (qeL (by omega) (by omega)) (fun r7 h7=>EvP.bind (quoQ_ev h6 h7 (by omega)) (fun r8 h8=>EvP.pos (by show (Ss.length+1)*56≤_;omega) ?_)))
   refine ih (j+1) _ _ (by omega) ((hB.app h5).congr (fun i hi=>?_)) ((hS.app h8).congr (fun i hi=>?_))
   ·by_cases e:i=j
    ·rw [if_pos e,e];rfl
    ·rw [if_neg e]
   ·by_cases e:i=j
    ·rw [if_pos e,e];rfl
    ·rw [if_neg e]
 exact brs n.2.2.1.length 0 [] [] (by omega) (Rw.nil _) (Rw.nil _)
end Go.Proofs.YtfobeapcmgjhbaaGreatDoor.VE
