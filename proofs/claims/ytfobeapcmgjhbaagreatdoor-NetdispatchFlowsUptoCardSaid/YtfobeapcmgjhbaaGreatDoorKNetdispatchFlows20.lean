/- Texts behind the law NetdispatchFlows, part 20 (no statement is proved here). -/
import Derived.Test.YtfobeapcmgjhbaaGreatDoorKNetdispatchFlows19
namespace Go.Proofs.YtfobeapcmgjhbaaGreatDoor.VE
open Go Go.RowKit
set_option linter.unusedVariables false
attribute [local irreducible] wrap64
def LF:Nat:=400000100
def Fl (n:NetT) (t:List Int×List Int) (x:Nat→Rat) (k:Nat):Rat:=Bq n k*(pot x (w1 n t k).toNat - pot x (w2 n t k).toNat - Sq n k)
theorem flow_ev {n:NetT} (h:NetOk n) {t:List Int×List Int} (ht:TopoP n t) {m:MT} (M:ModP n t m) {x:Nat→Rat} {az:List QT} (ha:Rw LG t.2.length (pot x) az) {k:Nat} (hk:k<n.2.2.1.length):EvP (fun f=>qbo.f f m (k:Int) az) (Rp LF (Fl n t x k)):=by
 have e1:=M.wl
 have e2:=M.B.1
 have e3:=M.S.1
 have e4:=ha.1
 obtain ⟨⟨wa0,wa1⟩,wb0,wb1⟩:=w_rng h ht hk
 refine EvP.pos (by omega) (EvP.pos (by omega) (EvP.pos rfl (EvP.pos (by omega) (EvP.pos (by omega) (EvP.pos (by omega) (EvP.pos (by omega) (EvP.pos (two_0 _ _) ?_)))))))
 rw [M.w k hk,pair_0,pair_1]
 refine EvP.pos (by omega) (EvP.pos (by omega) (EvP.pos (by omega) (EvP.pos (by omega) (EvP.pos (two_1 _ _) (EvP.pos (by omega) (EvP.pos (by omega) ?_))))))
 exact EvP.bind (qc7 (ha.get wa0 (by omega)) (ha.get wb0 (by omega)) (by decide)) (fun r1 h1=>EvP.pos (by omega) (EvP.pos (by omega) (EvP.bind (qc7 h1 (M.S.2 k hk) (by decide)) (fun r2 h2=>EvP.bind (qeq (M.B.2 k hk) h2 (by decide)) (fun r3 h3=>EvP.ret (h3.up (by decide)))))))
theorem flows_ev {n:NetT} (h:NetOk n) {t:List Int×List Int} (ht:TopoP n t) {m:MT} (M:ModP n t m) {x:Nat→Rat} {az:List QT} (ha:Rw LG t.2.length (pot x) az):EvP (fun f=>qaG.f f m az) (Rw LF n.2.2.1.length (Fl n t x)):=by
 have M0:=M
 obtain ⟨⟨b0,i0⟩,W,Bs,Ss,pl,rows⟩:=m
 have l2:=h.l2
 have hWl:W.length=n.2.2.1.length:=M.wl
 have loop:∀(d k:Nat) (out:List QT),k+d=n.2.2.1.length→Rw LF k (Fl n t x) out→EvP (fun f=>qaG.l3 f az (W.length:Int) (k:Int) b0 i0 W Bs Ss pl rows out) (Rw LF n.2.2.1.length (Fl n t x)):=by
  intro d
  induction d with
  |zero=>
   intro k out hk ho
   have:k=n.2.2.1.length:=by omega
   subst this
   exact EvP.step (fun f=>qaG.l3_eq f ..) (EvP.neg (by omega) (EvP.ret ho))
  |succ d ih=>
   intro k out hk ho
   have e1:=ho.1
   refine EvP.step (fun f=>qaG.l3_eq f ..) (EvP.pos (by omega) (EvP.bind (flow_ev h ht M0 ha (show k<n.2.2.1.length by omega)) (fun r1 h1=>EvP.pos (by show (out.length+1)*56≤_;omega) ?_)))
   rw [w64 (by omega) (by omega)]
   refine ih (k+1) _ (by omega) ((ho.app h1).congr (fun i hi=>?_))
   by_cases q:i=k
   ·rw [if_pos q,q]
   ·rw [if_neg q]
 exact loop n.2.2.1.length 0 [] (by omega) (Rw.nil _)
theorem fcheck_ev {n:NetT} (h:NetOk n) (hc:Ev (fun k=>qaf.f k n) 0) {t:List Int×List Int} (ht:TopoP n t) (hF:Ev (fun k=>qaM.f k n) t) (inj:List Int) (hb:inj.length≤140737488355328):EvP (fun k=>qaC.f k n inj) (fun r=>r=0→InjOk n inj):=by
 have l0:=h.l0
 have li:=ht.li
 have lb:=ht.lb
 refine EvP.bindE hc (EvP.pos rfl (EvP.ite (fun hl=>?_) (fun _=>EvP.ret (fun e=>absurd e (by decide)))))
 have hl:(inj.length:Int)=(n.1.length:Int):=hl
 have balance:∀(d k:Nat) (xs:List Int),k+d=xs.length→xs.length≤1000→(∀i:Nat,i<n.1.length→-100000≤rI64 inj (i:Int)∧rI64 inj (i:Int)≤100000)→EvP (fun f=>qaC.l20 f (xs.length:Int) (k:Int) xs) (fun r=>r=0→InjOk n inj):=by
  intro d
  induction d with
  |zero=>
   intro k xs hk hx hr
   exact EvP.step (fun f=>qaC.qfC f ..) (EvP.neg (by omega) (EvP.ret (fun _=>⟨by omega,hr⟩)))
  |succ d ih=>
   intro k xs hk hx hr
   refine EvP.step (fun f=>qaC.qfC f ..) (EvP.pos (by omega) (EvP.pos (by omega) (EvP.pos (by omega) (EvP.ite (fun _=>?_) (fun _=>EvP.ret (fun e=>absurd e (by decide)))))))
   rw [w64 (by omega) (by omega)]
   exact ih (k+1) xs (by omega) hx hr
 have hmem:∀x∈t.2,0≤x∧x<(t.2.length:Int):=fun x hx=>by
  obtain ⟨i,hi,rfl⟩:=List.mem_iff_getElem.1 hx
  rw [rd_at t.2 i hi]
  exact ht.isl i hi
 have sums:(∀i:Nat,i<n.1.length→-100000≤rI64 inj (i:Int)∧rI64 inj (i:Int)≤100000)→∀(c:Nat),(∀x∈t.2,x<(c:Int))→c≤1000→∀(d k:Nat) (xs:List Int),k+d=n.1.length→xs.length=c→EvP (fun f=>qaC.l15 f inj (inj.length:Int) (k:Int) t.1 t.2 xs) (fun r=>r=0→InjOk n inj):=by
  intro hr c hc1 hc2 d
  induction d with
  |zero=>
   intro k xs hk hx
   refine EvP.step (fun f=>qaC.l15_eq f ..) (EvP.neg (by omega) ?_)
   exact balance xs.length 0 xs (by omega) (by omega) hr
  |succ d ih=>
   intro k xs hk hx
   obtain ⟨u1,u2⟩:=ht.bus k (by omega)
   have v:=ht.isl (rI64 t.1 (k:Int)).toNat (by omega)
   have v2:=hc1 _ (qd4 (xs:=t.2) (i:=rI64 t.1 (k:Int)) u1 u2)
   rw [show (((rI64 t.1 (k:Int)).toNat:Nat):Int)=rI64 t.1 (k:Int) by omega] at v
   refine EvP.step (fun f=>qaC.l15_eq f ..) (EvP.pos (by omega) (EvP.pos (by omega) (EvP.pos (by omega) (EvP.pos (by omega) (EvP.pos (by omega) (EvP.pos (by omega) (EvP.pos (by omega) (EvP.pos v.1 (EvP.pos (by omega) (EvP.pos v.1 (EvP.pos (by omega) ?_)))))))))))
   rw [w64 (x:=(k:Int)+1) (by omega) (by omega)]
   exact ih (k+1) _ (by omega) (by rw [List.length_set];exact hx)
 have range:∀(d k:Nat),k+d=n.1.length→(∀i:Nat,i<k→-100000≤rI64 inj (i:Int)∧rI64 inj (i:Int)≤100000)→EvP (fun f=>qaC.l7 f inj inj (inj.length:Int) (k:Int) n.1 n.2.1 n.2.2.1 n.2.2.2.1 n.2.2.2.2.1 n.2.2.2.2.2) (fun r=>r=0→InjOk n inj):=by
  intro d
  induction d with
  |zero=>
   intro k hk hr
   have:k=n.1.length:=by omega
   subst this
   refine EvP.step (fun f=>qaC.l7_eq f ..) (EvP.neg (by omega) (EvP.bindE hF ?_))
   refine EvP.bind (cnt_run t.2 (by omega) (fun x hx=>⟨(hmem x hx).1,by have:=(hmem x hx).2;omega⟩) t.2.length 0 0 (Nat.zero_add _) (by omega) (by omega)) (fun c hc'=>?_)
   obtain ⟨c0,c1,c2⟩:=hc'
   rw [List.drop_zero] at c1
   have c3:=c2 t.2.length (by omega) (fun x hx=>(hmem x hx).2)
   obtain ⟨C,rfl⟩:∃C:Nat,c=(C:Int):=⟨c.toNat,by omega⟩
   refine EvP.pos (by omega) (EvP.pos (by omega) (EvP.pos (by omega) ?_))
   exact sums hr C c1 (by omega) n.1.length 0 _ (by omega) (by rw [List.length_replicate];rfl)
  |succ d ih=>
   intro k hk hr
   refine EvP.step (fun f=>qaC.l7_eq f ..) (EvP.pos (by omega) (EvP.pos (by omega) (EvP.pos (by omega) (EvP.ite (fun _=>EvP.ret (fun e=>absurd e (by decide))) (fun a=>EvP.ite (fun _=>EvP.ret (fun e=>absurd e (by decide))) (fun b=>?_))))))
   have a:¬rI64 inj (k:Int) < -100000:=a
   have b:¬100000<rI64 inj (k:Int):=b
   rw [w64 (by omega) (by omega)]
   refine ih (k+1) (by omega) (fun i hi=>?_)
   by_cases q:i=k
   ·rw [q];omega
   ·exact hr i (by omega)
 exact range n.1.length 0 (by omega) (fun i hi=>by omega)
def SolP (n:NetT) (t:List Int×List Int) (p x:Nat→Rat):Prop:=∀i,i<t.2.length - 1→sm (t.2.length - 1) (fun j=>Lap n t i j*x j)=rhsK n t p n.2.2.1.length i
theorem fsolve_ev {n:NetT} (h:NetOk n) (hc:Ev (fun k=>qaf.f k n) 0) {t:List Int×List Int} (ht:TopoP n t) (hF:Ev (fun k=>qaM.f k n) t) (hisl:∀i:Nat,i<t.2.length→rI64 t.2 (i:Int)=0) (inj:List Int) (hb:inj.length≤140737488355328) :
  EvP (fun k=>qbp.f k n inj) (fun r=>r.2=0→InjOk n inj∧∃x,SolP n t (Pb n t inj n.1.length) x∧Ts n.2.2.1.length (Fl n t x) r.1.2):=by
 have l0:=h.l0
 have l2:=h.l2
 have li:=ht.li
 refine EvP.bind (fcheck_ev h hc ht hF inj hb) (fun r1 h1=>EvP.ite (fun e=>?_) (fun e=>EvP.ret (fun e'=>absurd e' e)))
 have hi:=h1 e
 refine EvP.bind (build_ev h ht hF hisl) (fun m M=>EvP.bind (powers_ev h ht M hi) (fun ps hps=>EvP.bind (angles_ev h ht hisl M (fun b=>Pb_ok h t hi b) hps) (fun az haz=>?_)))
 obtain ⟨x,hx,hsol⟩:=haz
 refine EvP.bind (mout_ev hx (by decide) (by omega)) (fun r5 _=>EvP.ite (fun _=>?_) (fun e=>EvP.ret (fun e'=>absurd e' e)))
 refine EvP.bind (flows_ev h ht M hx) (fun fs hfs=>EvP.bind (mout_ev hfs (by decide) (by omega)) (fun r7 h7=>EvP.ite (fun e7=>EvP.ret (fun _=>⟨hi,x,hsol,(h7.1 e7).1⟩)) (fun e7=>EvP.ret (fun e'=>absurd e' e7))))
abbrev GrT:=Int×List Int×List Int×List (List QT)×List QT×List Int×Int
def genB (n:NetT) (t:List Int×List Int) (i:Nat):Int:=busS n t (rY13 n.2.2.2.1 (i:Int)).2.1
def loadB (n:NetT) (t:List Int×List Int) (i:Nat):Int:=busS n t (rY15 n.2.2.2.2.1 (i:Int)).2.1
def dem (n:NetT) (i:Nat):Int:=(rY15 n.2.2.2.2.1 (i:Int)).2.2
structure GrdP (n:NetT) (t:List Int×List Int) (X:Mt) (x0:Nat→Rat) (g:GrT):Prop where
 buses:g.1=(t.2.length:Int)
 gl:g.2.1.length=n.2.2.2.1.length
 gens:∀i:Nat,i<n.2.2.2.1.length→rI64 g.2.1 (i:Int)=genB n t i
 ll:g.2.2.1.length=n.2.2.2.2.1.length
 loads:∀i:Nat,i<n.2.2.2.2.1.length→rI64 g.2.2.1 (i:Int)=loadB n t i
 fac:Gd 2000 n.2.2.1.length t.2.length (Fq n t X) g.2.2.2.1
 base:Rw 2000 n.2.2.1.length (Fl n t x0) g.2.2.2.2.1
 lml:g.2.2.2.2.2.1.length=n.2.2.1.length
 lim:∀k:Nat,k<n.2.2.1.length→rI64 g.2.2.2.2.2.1 (k:Int)=(brk n k).2.2.2.2.2.2.1
 dem:((g.2.2.2.2.2.2:Int):Rat)=sm n.2.2.2.2.1.length (fun i=>((dem n i:Int):Rat))
 demr:0≤g.2.2.2.2.2.2∧g.2.2.2.2.2.2≤1200000
theorem gn_ok {n:NetT} (h:NetOk n) {i:Nat} (hi:i<n.2.2.2.1.length):(rY13 n.2.2.2.1 (i:Int)).2.1∈n.1:=(h.gn _ (rY13_mem (xs:=n.2.2.2.1) (i:=(i:Int)) (by omega) (by omega))).1
theorem ld_ok {n:NetT} (h:NetOk n) {i:Nat} (hi:i<n.2.2.2.2.1.length):(rY15 n.2.2.2.2.1 (i:Int)).2.1∈n.1∧0≤dem n i∧dem n i≤100000:=h.ld _ (rY15_mem (xs:=n.2.2.2.2.1) (i:=(i:Int)) (by omega) (by omega))
theorem of1_ev {n:NetT} (h:NetOk n) (hc:Ev (fun k=>qaf.f k n) 0) {t:List Int×List Int} (ht:TopoP n t) {s:ByteArray} (hs:s∈n.1):Ev (fun k=>qbb.f k s n.1 n.2.1 n.2.2.1 n.2.2.2.1 n.2.2.2.2.1 n.2.2.2.2.2 t.1 t.2) (busS n t s,n.1,n.2.1,n.2.2.1,n.2.2.2.1,n.2.2.2.2.1,n.2.2.2.2.2,t.1,t.2):=by
 have hi:=qbO hs
 have hl:=ht.lb
 have N:=node_ev h hc s
 rw [if_pos hs] at N
 exact Ev.bind N (Ev.pos hi.1 (Ev.pos (by show idxS n.1 s<(t.1.length:Int);omega) (Ev.now _)))
theorem grid_ev {n:NetT} (h:NetOk n) (hc:Ev (fun k=>qaf.f k n) 0) {t:List Int×List Int} (ht:TopoP n t) (hF:Ev (fun k=>qaM.f k n) t) (hisl:∀i:Nat,i<t.2.length→rI64 t.2 (i:Int)=0) :
  EvP (fun k=>qag.f k n) (fun r=>r.2=0→∃X x0,InvP n t (t.2.length - 1) X∧SolP n t (fun _=>0) x0∧GrdP n t X x0 r.1):=by
 have l0:=h.l0
 have l2:=h.l2
 have l3:=h.l3
 have l4:=h.l4
 have li:=ht.li
 have hTopo:Ev (fun k=>qbv.f k n) (t,0):=Ev.bind hc (Ev.pos rfl (Ev.bind hF (Ev.now _)))
 refine EvP.bindE hTopo (EvP.pos rfl ?_)
 -- the rows of the factors
 have rows:∀(X:Mt) (x0:Nat→Rat),InvP n t (t.2.length - 1) X→SolP n t (fun _=>0) x0→∀(ft:List (List ByteArray)) (at' bt:List ByteArray),TsM n.2.2.1.length t.2.length (Fq n t X) ft→Ts n.2.2.1.length (Fl n t x0) bt→∀(D:Int) (gs ls:List Int),gs.length=n.2.2.2.1.length→(∀i:Nat,i<n.2.2.2.1.length→rI64 gs (i:Int)=genB n t i)→ls.length=n.2.2.2.2.1.length→(∀i:Nat,i<n.2.2.2.2.1.length→rI64 ls (i:Int)=loadB n t i)→((D:Int):Rat)=sm n.2.2.2.2.1.length (fun i=>((dem n i:Int):Rat))→0≤D∧D≤1200000→
   ∀(d k:Nat) (fs:List (List QT)) (bs:List QT) (lm:List Int),k+d=n.2.2.1.length→Gd 2000 k t.2.length (Fq n t X) fs→Rw 2000 k (Fl n t x0) bs→lm.length=k→(∀i:Nat,i<k→rI64 lm (i:Int)=(brk n i).2.2.2.2.2.2.1)→
   EvP (fun f=>qag.l24 f ft n.2.2.1 (n.2.2.1.length:Int) (k:Int) 0 0 (t.2.length:Int) D at' bt [] gs ls fs bs lm) (fun r=>r.2=0→∃X x0,InvP n t (t.2.length - 1) X∧SolP n t (fun _=>0) x0∧GrdP n t X x0 r.1):=by
  intro X x0 hX hx0 ft at' bt hft hbt D gs ls g1 g2 q1 q2 d1 d2 d
  induction d with
  |zero=>
   intro k fs bs lm hk hfs hbs hl1 hl2
   have:k=n.2.2.1.length:=by omega
   subst this
   exact EvP.step (fun f=>qag.l24_eq f ..) (EvP.neg (by omega) (EvP.ret (fun _=>⟨X,x0,hX,hx0,rfl,g1,g2,q1,q2,hfs,hbs,hl1,hl2,d1,d2⟩)))
  |succ d ih=>
   intro k fs bs lm hk hfs hbs hl1 hl2
   have hkb:k<n.2.2.1.length:=by omega
   have e1:=hft.1
   have e2:=hfs.1
   have e3:=hbs.1
   have e4:=hbt.1
   have hr:=hft.2 k hkb
   have e5:=hr.1
   refine EvP.step (fun f=>qag.l24_eq f ..) (EvP.pos (by omega) (EvP.pos (by omega) (EvP.pos (by omega) (EvP.pos (by omega) (EvP.pos (by omega) ?_)))))
   rw [e5]
   have inner:∀(e j:Nat) (row:List QT),j+e=t.2.length→Rw 2000 j (Fq n t X k) row→
     EvP (fun f=>qag.l28 f ft (k:Int) n.2.2.1 (n.2.2.1.length:Int) (k:Int) (rL39 ft (k:Int)) (t.2.length:Int) (j:Int) 0 0 (t.2.length:Int) D at' bt (brk n k).1 (brk n k).2.1 (brk n k).2.2.1 (brk n k).2.2.2.1 (brk n k).2.2.2.2.1 (brk n k).2.2.2.2.2.1 (brk n k).2.2.2.2.2.2.1 (brk n k).2.2.2.2.2.2.2.1 (brk n k).2.2.2.2.2.2.2.2 row [] gs ls fs bs lm) (fun r=>r.2=0→∃X x0,InvP n t (t.2.length - 1) X∧SolP n t (fun _=>0) x0∧GrdP n t X x0 r.1):=by
    intro e
    induction e with
    |zero=>
     intro j row hj hrow
     have:j=t.2.length:=by omega
     subst this
     refine EvP.step (fun f=>qag.l28_eq f ..) (EvP.neg (by omega) (EvP.pos (by omega) (EvP.pos (by omega) (EvP.pos (by omega) (EvP.bind (in_ev (hbt.2 k hkb)) (fun r7 h7=>EvP.pos (by show (bs.length+1)*56≤_;omega) (EvP.pos (by show (lm.length+1)*8≤_;omega) ?_)))))))
     rw [w64 (by omega) (by omega)]
     refine ih (k+1) _ _ _ (by omega) ((hfs.app hrow).congr (fun i _ q _=>?_)) ((hbs.app h7).congr (fun i _=>?_)) (by rw [List.length_append,hl1];rfl) (fun i hi=>?_)
     ·by_cases c:i=k
      ·rw [if_pos c,c]
      ·rw [if_neg c]
     ·by_cases c:i=k
      ·rw [if_pos c,c]
      ·rw [if_neg c]
     ·by_cases c:i=k
      ·subst c
       have:=qdh (xs:=lm) (v:=(brk n i).2.2.2.2.2.2.1)
       rw [hl1] at this
       exact this
      ·rw [qd5 (by omega)]
       exact hl2 i (by omega)
    |succ e ihe=>
     intro j row hj hrow
     have e6:=hrow.1
     refine EvP.step (fun f=>qag.l28_eq f ..) (EvP.pos (by omega) (EvP.pos (by omega) (EvP.pos (by omega) (EvP.bind (in_ev (hr.2 j (by omega))) (fun r6 h6=>EvP.pos (by show (row.length+1)*56≤_;omega) ?_)))))
     rw [w64 (by omega) (by omega)]
     refine ihe (j+1) _ (by omega) ((hrow.app h6).congr (fun i _=>?_))
     by_cases c:i=j
     ·rw [if_pos c,c]
     ·rw [if_neg c]
   exact inner t.2.length 0 [] (by omega) (Rw.nil _)
 have loads:∀(gs:List Int),gs.length=n.2.2.2.1.length→(∀i:Nat,i<n.2.2.2.1.length→rI64 gs (i:Int)=genB n t i)→∀(d k:Nat) (ls:List Int) (D:Int),k+d=n.2.2.2.2.1.length→ls.length=k→(∀i:Nat,i<k→rI64 ls (i:Int)=loadB n t i)→((D:Int):Rat)=sm k (fun i=>((dem n i:Int):Rat))→0≤D∧D≤100000*(k:Int)→
   EvP (fun f=>qag.l12 f n.2.2.2.2.1 (n.2.2.2.2.1.length:Int) (k:Int) n.1 n.2.1 n.2.2.1 n.2.2.2.1 n.2.2.2.2.1 n.2.2.2.2.2 0 0 (t.2.length:Int) D [] gs ls [] t.1 t.2) (fun r=>r.2=0→∃X x0,InvP n t (t.2.length - 1) X∧SolP n t (fun _=>0) x0∧GrdP n t X x0 r.1):=by
  intro gs g1 g2 d
  induction d with
  |zero=>
   intro k ls D hk q1 q2 d1 d2
   have:k=n.2.2.2.2.1.length:=by omega
   subst this
   refine EvP.step (fun f=>qag.qb9 f ..) (EvP.neg (by omega) ?_)
   refine EvP.bind (factors_ev h hc ht hF hisl) (fun r4 h4=>EvP.ite (fun e4=>?_) (fun e4=>EvP.ret (fun e=>absurd e e4)))
   obtain ⟨X,hX,hI⟩:=h4 e4
   refine EvP.pos (by omega) (EvP.pos (by omega) (EvP.pos (by omega) ?_))
   refine EvP.bind (fsolve_ev h hc ht hF hisl (List.replicate (n.1.length:Int).toNat 0) (by rw [List.length_replicate];omega)) (fun r5 h5=>EvP.ite (fun e5=>?_) (fun e5=>EvP.ret (fun e=>absurd e e5)))
   obtain ⟨_,x0,hx0,hb⟩:=h5 e5
   refine rows X x0 hI (fun i hi=>?_) r4.1 r5.1.1 r5.1.2 hX hb D gs ls g1 g2 q1 q2 d1 (by omega) n.2.2.1.length 0 [] [] [] (by omega) (Gd.nil _) (Rw.nil _) rfl (fun i hi=>by omega)
   rw [hx0 i hi]
   unfold rhsK Pb
   rw [qcY (fun j hj=>?_)]
   rw [qb6 (List.replicate (n.1.length:Int).toNat 0) j 0 (by rw [List.getElem?_replicate,if_pos (by omega)])]
   split<;>rfl
  |succ d ih=>
   intro k ls D hk q1 q2 d1 d2
   obtain ⟨o1,o2,o3⟩:=ld_ok h (show k<n.2.2.2.2.1.length by omega)
   refine EvP.step (fun f=>qag.qb9 f ..) (EvP.pos (by omega) (EvP.pos (by omega) (EvP.pos (by omega) (EvP.bindE (of1_ev h hc ht o1) (EvP.pos (by show (ls.length+1)*8≤_;omega) ?_)))))
   have o2:0≤(rY15 n.2.2.2.2.1 (k:Int)).2.2:=o2
   have o3:(rY15 n.2.2.2.2.1 (k:Int)).2.2≤100000:=o3
   rw [w64 (x:=(k:Int)+1) (by omega) (by omega),w64 (by omega) (by omega)]
   refine ih (k+1) _ _ (by omega) (by rw [List.length_append,q1];rfl) (fun i hi=>?_) ?_ (by omega)
   ·by_cases c:i=k
    ·subst c
     have:=qdh (xs:=ls) (v:=busS n t (rY15 n.2.2.2.2.1 (i:Int)).2.1)
     rw [q1] at this
     exact this
    ·rw [qd5 (by omega)]
     exact q2 i (by omega)
   ·rw [qbi,Rat.intCast_add,d1];rfl
 have gens:∀(d k:Nat) (gs:List Int),k+d=n.2.2.2.1.length→gs.length=k→(∀i:Nat,i<k→rI64 gs (i:Int)=genB n t i)→
   EvP (fun f=>qag.l7 f n.2.2.2.1 (n.2.2.2.1.length:Int) (k:Int) n.1 n.2.1 n.2.2.1 n.2.2.2.1 n.2.2.2.2.1 n.2.2.2.2.2 0 0 (t.2.length:Int) 0 [] gs [] t.1 t.2) (fun r=>r.2=0→∃X x0,InvP n t (t.2.length - 1) X∧SolP n t (fun _=>0) x0∧GrdP n t X x0 r.1):=by
  intro d
  induction d with
  |zero=>
   intro k gs hk g1 g2
   have:k=n.2.2.2.1.length:=by omega
   subst this
   exact EvP.step (fun f=>qag.l7_eq f ..) (EvP.neg (by omega) (loads gs g1 g2 n.2.2.2.2.1.length 0 [] 0 (by omega) rfl (fun i hi=>by omega) rfl (by omega)))
  |succ d ih=>
   intro k gs hk g1 g2
   refine EvP.step (fun f=>qag.l7_eq f ..) (EvP.pos (by omega) (EvP.pos (by omega) (EvP.pos (by omega) (EvP.bindE (of1_ev h hc ht (gn_ok h (show k<n.2.2.2.1.length by omega))) (EvP.pos (by show (gs.length+1)*8≤_;omega) ?_)))))
   rw [w64 (by omega) (by omega)]
   refine ih (k+1) _ (by omega) (by rw [List.length_append,g1];rfl) (fun i hi=>?_)
   by_cases c:i=k
   ·subst c
    have:=qdh (xs:=gs) (v:=busS n t (rY13 n.2.2.2.1 (i:Int)).2.1)
    rw [g1] at this
    exact this
   ·rw [qd5 (by omega)]
    exact g2 i (by omega)
 exact gens n.2.2.2.1.length 0 [] (by omega) rfl (fun i hi=>by omega)
end Go.Proofs.YtfobeapcmgjhbaaGreatDoor.VE
