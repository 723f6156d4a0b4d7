/- Texts behind the law NetdispatchFlows, part 18 (no statement is proved here). -/
import Derived.Test.YtfobeapcmgjhbaaGreatDoorKNetdispatchFlows17
namespace Go.Proofs.YtfobeapcmgjhbaaGreatDoor.VE
open Go Go.RowKit
set_option linter.unusedVariables false
attribute [local irreducible] wrap64
def Ts (n:Nat) (f:Nat→Rat) (l:List ByteArray):Prop:=l.length=n∧∀j:Nat,j<n→OutOk (rStr l (j:Int)) (f j)
theorem rStr_app1 {xs:List ByteArray} {v:ByteArray} {j:Nat} (hj:j<xs.length):rStr (xs++[v]) (j:Int)=rStr xs (j:Int):=by
 have h2:=rStr_some (xs:=xs) (i:=(j:Int)) (by omega) (by omega)
 rw [show ((j:Int)).toNat=j from rfl] at h2
 exact qeX _ _ _ (by rw [List.getElem?_append_left hj,h2])
theorem rStr_app2 {xs:List ByteArray} {v:ByteArray}:rStr (xs++[v]) (xs.length:Int)=v:=qeX _ _ _ (by rw [List.getElem?_append_right (Nat.le_refl _),Nat.sub_self];rfl)
theorem Ts.app {n:Nat} {f:Nat→Rat} {l:List ByteArray} (h:Ts n f l) {s:ByteArray} (hs:OutOk s (f n)):Ts (n+1) f (l++[s]):=by
 refine ⟨by rw [List.length_append,h.1];rfl,fun j hj=>?_⟩
 by_cases e:j=n
 ·subst e
  have:=rStr_app2 (xs:=l) (v:=s)
  rw [h.1] at this
  rw [this];exact hs
 ·rw [rStr_app1 (by rw [h.1];omega)]
  exact h.2 j (by omega)
theorem Ts.nil (f:Nat→Rat):Ts 0 f []:=⟨rfl,fun j hj=>absurd hj (by omega)⟩
theorem mout_ev {L n:Nat} {f:Nat→Rat} {xs:List QT} (h:Rw L n f xs) (hL:L≤6000000000) (hn:n≤1000):EvP (fun k=>qa3.f k xs) (fun r=>(r.2=0→Ts n f r.1∧∀j,j<n→Fit (f j))∧(r.2≠0→r.1=[])∧((∀j,j<n→Fit (f j))→r.2=0)):=by
 have loop:∀(d j:Nat) (l:List ByteArray),j+d=n→Ts j f l→(∀i,i<j→Fit (f i))→EvP (fun k=>qa3.l3 k xs (n:Int) (j:Int) l) (fun r=>(r.2=0→Ts n f r.1∧∀j,j<n→Fit (f j))∧(r.2≠0→r.1=[])∧((∀j,j<n→Fit (f j))→r.2=0)):=by
  intro d
  induction d with
  |zero=>
   intro j l hj hl hf
   have:j=n:=by omega
   subst this
   exact EvP.step (fun k=>qa3.l3_eq k ..) (EvP.neg (by omega) (EvP.ret ⟨fun _=>⟨hl,hf⟩,fun h=>absurd rfl h,fun _=>rfl⟩))
  |succ d ih=>
   intro j l hj hl hf
   have hx:=h.1
   have hll:=hl.1
   have hc:=h.2 j (by omega)
   refine EvP.step (fun k=>qa3.l3_eq k ..) (EvP.pos (by omega) (EvP.pos (by omega) (EvP.pos (by omega) (EvP.bindE (fits_ev hc (by omega)) ?_))))
   by_cases e:Fit (f j)
   ·rw [if_pos e]
    refine EvP.pos rfl (EvP.bindE (out_ev hc (by omega)) (EvP.pos (by show (l.length+1)*16≤_;omega) ?_))
    rw [w64 (by omega) (by omega)]
    refine ih (j+1) _ (by omega) (hl.app ⟨rfl,e⟩) (fun i hi=>?_)
    by_cases q:i=j
    ·rw [q];exact e
    ·exact hf i (by omega)
   ·rw [if_neg e]
    exact EvP.neg (by decide) (EvP.ret ⟨fun h=>absurd h (by show ¬(2:Int)=0;decide),fun _=>rfl,fun h=>absurd (h j (by omega)) e⟩)
 have:=loop n 0 [] (by omega) (Ts.nil _) (fun i hi=>by omega)
 rw [←h.1] at this
 rw [h.1] at this
 refine EvP.congr (fun k=>?_) this
 show qa3.l3 k xs (xs.length:Int) 0 []=_
 rw [h.1];rfl
def TsM (R W:Nat) (T:Mt) (l:List (List ByteArray)):Prop:=l.length=R∧∀i:Nat,i<R→Ts W (T i) (rL39 l (i:Int))
theorem rL39_app1 {g:List (List ByteArray)} {v:List ByteArray} {j:Nat} (hj:j<g.length):rL39 (g++[v]) (j:Int)=rL39 g (j:Int):=by
 have h2:=rL39_some (xs:=g) (i:=(j:Int)) (by omega) (by omega)
 rw [show ((j:Int)).toNat=j from rfl] at h2
 exact rL39_get _ _ _ (by rw [List.getElem?_append_left hj,h2])
theorem rL39_app2 {g:List (List ByteArray)} {v:List ByteArray}:rL39 (g++[v]) (g.length:Int)=v:=rL39_get _ _ _ (by rw [List.getElem?_append_right (Nat.le_refl _),Nat.sub_self];rfl)
theorem TsM.app {R W:Nat} {T:Mt} {l:List (List ByteArray)} (h:TsM R W T l) {x:List ByteArray} (hx:Ts W (T R) x):TsM (R+1) W T (l++[x]):=by
 refine ⟨by rw [List.length_append,h.1];rfl,fun i hi=>?_⟩
 by_cases e:i=R
 ·subst e
  have:=rL39_app2 (g:=l) (v:=x)
  rw [h.1] at this
  rw [this];exact hx
 ·rw [rL39_app1 (by rw [h.1];omega)]
  exact h.2 i (by omega)
theorem moutAll_ev {L R W:Nat} {T:Mt} {g:List (List QT)} (h:Gd L R W T g) (hL:L≤6000000000) (hR:R≤1000) (hW:W≤1000):EvP (fun k=>qaR.f k g) (fun r=>(r.2=0→TsM R W T r.1)∧(r.2≠0→r.1=[])):=by
 have loop:∀(d j:Nat) (l:List (List ByteArray)),j+d=R→TsM j W T l→EvP (fun k=>qaR.l3 k g (R:Int) (j:Int) l) (fun r=>(r.2=0→TsM R W T r.1)∧(r.2≠0→r.1=[])):=by
  intro d
  induction d with
  |zero=>
   intro j l hj hl
   have:j=R:=by omega
   subst this
   exact EvP.step (fun k=>qaR.l3_eq k ..) (EvP.neg (by omega) (EvP.ret ⟨fun _=>hl,fun h=>absurd rfl h⟩))
  |succ d ih=>
   intro j l hj hl
   have hx:=h.1
   have hll:=hl.1
   refine EvP.step (fun k=>qaR.l3_eq k ..) (EvP.pos (by omega) (EvP.pos (by omega) (EvP.pos (by omega) (EvP.bind (mout_ev (h.rowN (show j<R by omega)) hL hW) (fun r hr=>EvP.ite (fun e=>?_) (fun e=>?_))))))
   ·refine EvP.pos (by show (l.length+1)*24≤_;omega) ?_
    rw [w64 (by omega) (by omega)]
    exact ih (j+1) _ (by omega) (hl.app (hr.1 e).1)
   ·exact EvP.ret ⟨fun h=>absurd h e,fun _=>rfl⟩
 have:=loop R 0 [] (by omega) ⟨rfl,fun i hi=>absurd hi (by omega)⟩
 refine EvP.congr (fun k=>?_) this
 show qaR.l3 k g (g.length:Int) 0 []=_
 rw [h.1];rfl
def Fq (n:NetT) (t:List Int×List Int) (X:Mt) (k b:Nat):Rat:=if b=0 then 0 else Bq n k*(pot (fun i=>X i (b - 1)) (w1 n t k).toNat - pot (fun i=>X i (b - 1)) (w2 n t k).toNat)
def LT:Nat:=400000010
theorem place_ev {n:NetT} {t:List Int×List Int} {m:MT} (M:ModP n t m) {b:Nat} (hb:b<t.2.length):Ev (fun k=>qa4.f k m (b:Int)) ((b:Int) - 1):=by
 have:=M.pl
 refine Ev.pos (by omega) (Ev.pos (by omega) ?_)
 rw [M.p b hb]
 exact Ev.now _
theorem table_ev {n:NetT} (h:NetOk n) {t:List Int×List Int} (ht:TopoP n t) (hisl:∀i:Nat,i<t.2.length→rI64 t.2 (i:Int)=0) {m:MT} (M:ModP n t m) :
  EvP (fun k=>qal.f k m) (fun g=>∃X,Gd LT n.2.2.1.length t.2.length (Fq n t X) g∧InvP n t (t.2.length - 1) X):=by
 have l0:=h.l0
 have l2:=h.l2
 have li:=ht.li
 refine EvP.bind (inverse_ev h ht hisl M) (fun gX hX=>?_)
 obtain ⟨X,hX,hI⟩:=hX
 refine EvP.mono (P:=Gd LT n.2.2.1.length t.2.length (Fq n t X)) ?_ (fun g hg=>⟨X,hg,hI⟩)
 obtain ⟨⟨b0,i0⟩,W,Bs,Ss,pl,rows⟩:=m
 have htop:(b0,i0)=t:=M.top
 have hWl:W.length=n.2.2.1.length:=M.wl
 have hB:=M.B
 have hBl:Bs.length=n.2.2.1.length:=hB.1
 have hi0:i0.length=t.2.length:=by rw [←htop]
 have gl:=hX.1
 show EvP (fun k=>qal.l5 k gX (i0.length:Int) W (W.length:Int) 0 [] b0 i0 W Bs Ss pl rows) _
 rw [hi0]
 have outer:∀(d j:Nat) (g:List (List QT)),j+d=n.2.2.1.length→Gd LT j t.2.length (Fq n t X) g→EvP (fun k=>qal.l5 k gX (t.2.length:Int) W (W.length:Int) (j:Int) g b0 i0 W Bs Ss pl rows) (Gd LT n.2.2.1.length t.2.length (Fq n t X)):=by
  intro d
  induction d with
  |zero=>
   intro j g hj hg
   have:j=n.2.2.1.length:=by omega
   subst this
   exact EvP.step (fun k=>qal.l5_eq k ..) (EvP.neg (by omega) (EvP.ret hg))
  |succ d ih=>
   intro j g hj hg
   have hjb:j<n.2.2.1.length:=by omega
   have gl':=hg.1
   obtain ⟨⟨wa0,wa1⟩,wb0,wb1⟩:=w_rng h ht hjb
   obtain ⟨a,ha⟩:∃a:Nat,w1 n t j=(a:Int):=⟨(w1 n t j).toNat,by omega⟩
   obtain ⟨b,hb⟩:∃b:Nat,w2 n t j=(b:Int):=⟨(w2 n t j).toNat,by omega⟩
   have hw:rY4 W (j:Int)=((a:Int),(b:Int)):=by rw [←ha,←hb];exact M.w j hjb
   have hFq:∀c,Fq n t X j c=if c=0 then 0 else Bq n j*(pot (fun i=>X i (c - 1)) a - pot (fun i=>X i (c - 1)) b):=fun c=>by
    unfold Fq
    rw [ha,hb,Int.toNat_natCast,Int.toNat_natCast]
   -- the row's buses
   have inner:∀(e c:Nat) (row:List QT),c+e=t.2.length→Rw LT t.2.length (fun i=>if i<c then Fq n t X j i else 0) row→EvP (fun k=>qal.l9 k gX (t.2.length:Int) (j:Int) W (W.length:Int) (j:Int) (t.2.length:Int) (c:Int) b0 i0 W Bs Ss pl rows g [(a:Int),(b:Int)] row) (Gd LT n.2.2.1.length t.2.length (Fq n t X)):=by
    intro e
    induction e with
    |zero=>
     intro c row hc hrow
     refine EvP.step (fun k=>qal.l9_eq k ..) (EvP.neg (by omega) (EvP.pos (by omega) ?_))
     rw [w64 (by omega) (by omega)]
     refine ih (j+1) _ (by omega) ((hg.app hrow).congr (fun i _ q hq=>?_))
     by_cases e1:i=j
     ·rw [if_pos e1,if_pos (by omega),e1]
     ·rw [if_neg e1]
    |succ e ihe=>
     intro c row hc hrow
     have hrl:=hrow.1
     refine EvP.step (fun k=>qal.l9_eq k ..) (EvP.pos (by omega) (EvP.bindE (place_ev M (show c<t.2.length by omega)) ?_))
     refine EvP.ite (fun c0=>?_) (fun c0=>?_)
     ·have c0:(c:Int) - 1<0:=c0
      rw [w64 (by omega) (by omega)]
      refine ihe (c+1) row (by omega) (hrow.congr (fun i hi=>?_))
      have hc0:c=0:=by omega
      subst hc0
      by_cases q:i<0+1
      ·rw [if_neg (by omega),if_pos q,hFq,if_pos (by omega)]
      ·rw [if_neg (by omega),if_neg q]
     ·have c0:¬(c:Int) - 1<0:=c0
      obtain ⟨c',rfl⟩:∃c',c=c'+1:=⟨c - 1,by omega⟩
      rw [show ((c'+1:Nat):Int) - 1=(c':Int) by omega]
      -- the product and the store
      have fin:∀(x:QT),Rp (LG+LG+1) (pot (fun i=>X i c') a - pot (fun i=>X i c') b) x→EvP (fun k=>qal.l20 k gX (t.2.length:Int) (j:Int) ((c'+1:Nat):Int) W (W.length:Int) (j:Int) (t.2.length:Int) ((c'+1:Nat):Int) b0 i0 W Bs Ss pl rows g [(a:Int),(b:Int)] row x.1 x.2.1 x.2.2) (Gd LT n.2.2.1.length t.2.length (Fq n t X)):=by
       intro x hx
       refine EvP.step (fun k=>qal.qfC k ..) (EvP.pos (by omega) (EvP.pos (by omega) (EvP.bind (qeq (hB.2 j hjb) hx (by decide)) (fun r6 h6=>EvP.pos (by omega) (EvP.pos (by omega) ?_)))))
       rw [w64 (by omega) (by omega)]
       refine ihe (c'+1+1) _ (by omega) ((hrow.set (h6.up (by decide)) (show c'+1<t.2.length by omega)).congr (fun i hi=>?_))
       by_cases q:i=c'+1
       ·rw [if_pos q,if_pos (by omega),hFq,if_neg (by omega),q,Nat.add_sub_cancel]
       ·rw [if_neg q]
        by_cases q2:i<c'+1
        ·rw [if_pos q2,if_pos (by omega)]
        ·rw [if_neg q2,if_neg (by omega)]
      -- the second end
      have two:∀(x:QT),Rp LG (pot (fun i=>X i c') a) x→EvP (fun k=>qal.l17 k gX (t.2.length:Int) (j:Int) ((c'+1:Nat):Int) (c':Int) W (W.length:Int) (j:Int) (t.2.length:Int) ((c'+1:Nat):Int) b0 i0 W Bs Ss pl rows g [(a:Int),(b:Int)] row x.1 x.2.1 x.2.2) (Gd LT n.2.2.1.length t.2.length (Fq n t X)):=by
       intro x hx
       refine EvP.step (fun k=>qal.l17_eq k ..) (EvP.pos (by omega) (EvP.pos (by omega) (EvP.pos (two_1 _ _) ?_)))
       rw [pair_1]
       refine EvP.bindE (place_ev M (show b<t.2.length by omega)) (EvP.ite (fun b1=>?_) (fun b1=>?_))
       ·have b1:0≤(b:Int) - 1:=b1
        obtain ⟨b',rfl⟩:∃b',b=b'+1:=⟨b - 1,by omega⟩
        rw [show ((b'+1:Nat):Int) - 1=(b':Int) by omega]
        have s1:=hX.shp.2 b' (by omega)
        have hc:=hX.cell (i:=b') (j:=c') (by omega) (by omega)
        refine EvP.pos (by omega) (EvP.pos (by omega) (EvP.pos (by omega) (EvP.pos (by omega) (EvP.bind (qc7 hx hc (by decide)) (fun r5 h5=>fin r5 (h5.eq ?_))))))
        unfold pot
        rw [if_neg (show ¬b'+1=0 by omega),Nat.add_sub_cancel]
       ·have b1:¬0≤(b:Int) - 1:=b1
        refine fin x ((hx.up (by decide)).eq ?_)
        have:pot (fun i=>X i c') b=0:=by unfold pot;rw [if_pos (by omega)]
        rw [this];grind
      refine EvP.pos (by omega) (EvP.pos (by omega) (EvP.pos (two_0 _ _) ?_))
      rw [pair_0]
      refine EvP.bindE (place_ev M (show a<t.2.length by omega)) (EvP.ite (fun a1=>?_) (fun a1=>?_))
      ·have a1:0≤(a:Int) - 1:=a1
       obtain ⟨a',rfl⟩:∃a',a=a'+1:=⟨a - 1,by omega⟩
       rw [show ((a'+1:Nat):Int) - 1=(a':Int) by omega] at*
       have s1:=hX.shp.2 a' (by omega)
       have hc:=hX.cell (i:=a') (j:=c') (by omega) (by omega)
       refine EvP.pos (by omega) (EvP.pos (by omega) (EvP.pos (by omega) (EvP.pos (by omega) (two _ (hc.eq ?_)))))
       unfold pot
       rw [if_neg (show ¬a'+1=0 by omega),Nat.add_sub_cancel]
      ·have a1:¬0≤(a:Int) - 1:=a1
       refine two (false,[],[]) ((qeg (by decide)).eq ?_)
       unfold pot
       rw [if_pos (by omega)]
   refine EvP.step (fun k=>qal.l5_eq k ..) (EvP.pos (by omega) (EvP.pos (by omega) (EvP.pos (by omega) (EvP.pos rfl (EvP.pos (by omega) (EvP.pos (by omega) (EvP.pos (by omega) ?_)))))))
   rw [hw,Int.toNat_natCast,List.length_replicate]
   exact inner t.2.length 0 _ (by omega) ((Rw.zeros (by decide) t.2.length).congr (fun i hi=>(if_neg (by omega)).symm))
 exact outer n.2.2.1.length 0 [] (by omega) (Gd.nil _)
theorem factors_ev {n:NetT} (h:NetOk n) (hc:Ev (fun k=>qaf.f k n) 0) {t:List Int×List Int} (ht:TopoP n t) (hF:Ev (fun k=>qaM.f k n) t) (hisl:∀i:Nat,i<t.2.length→rI64 t.2 (i:Int)=0) :
  EvP (fun k=>qby.f k n) (fun r=>r.2=0→∃X,TsM n.2.2.1.length t.2.length (Fq n t X) r.1∧InvP n t (t.2.length - 1) X):=by
 have l0:=h.l0
 have l2:=h.l2
 have li:=ht.li
 refine EvP.bindE hc (EvP.pos rfl (EvP.bind (build_ev h ht hF hisl) (fun m M=>EvP.bind (table_ev h ht hisl M) (fun g hg=>?_))))
 obtain ⟨X,hX,hI⟩:=hg
 exact EvP.bind (moutAll_ev hX (by decide) (by omega) (by omega)) (fun r hr=>EvP.ret (fun e=>⟨X,hr.1 e,hI⟩))
end Go.Proofs.YtfobeapcmgjhbaaGreatDoor.VE
