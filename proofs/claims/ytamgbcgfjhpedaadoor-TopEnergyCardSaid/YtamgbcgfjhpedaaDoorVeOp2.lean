/- One operation of the evaluator, sound (lemmas; no statement is proved here). -/
import Derived.Test.YtamgbcgfjhpedaaDoorVeOp
namespace Go.Proofs.YtamgbcgfjhpedaaDoor.VE
open Go Go.RowKit
section
variable {P : Program} {Γ : FuncId → Option Con} {C : Ctx} {G : Gh} {st : St} {w : World} {a : Act}
/-- The contracts hold. -/
def ΓOk (P : Program) (Γ : FuncId → Option Con) : Prop := ∀ f c, Γ f = some c → ConSound P f c ∧ ∃ fn, P.funcs[f]? = some fn ∧ (fn.name == "runtime.NumGoroutine") = false ∧ fn.body.isSome = true
theorem putO_kind {s : OSh} {l l' : List TV} {y : Obj} (e : putO s l = some (y, l')) : (y.live = true → s.isCaps = false) ∧ ∀ e t xs f, y = .row e t xs f → f = false := by
  unfold putO at e
  split at e
  · cases e
    exact ⟨fun _ => rfl, fun e t xs f h => by cases h; rfl⟩
  · split at e
    · cases e
      exact ⟨fun _ => rfl, fun e t xs f h => by cases h⟩
    · cases e
  · split at e
    · cases e
      exact ⟨(fun h => by cases h), (fun e t xs f h => by cases h)⟩
    · cases e
  · cases e
    exact ⟨(fun h => by cases h), (fun e t xs f h => by cases h)⟩
  · cases e
    exact ⟨(fun _ => rfl), (fun e t xs f h => by cases h)⟩
  · cases e
    exact ⟨(fun _ => rfl), (fun e t xs f h => by cases h)⟩
  · cases e
theorem putOs_kind : ∀ {ls : List (Nat × OSh)} {l : List TV} {os : List (Nat × Obj)}, putOs ls l = some os → ∀ d y, (d, y) ∈ os → ∃ s, (d, s) ∈ ls ∧ (y.live = true → s.isCaps = false) ∧ ∀ e t xs f, y = .row e t xs f → f = false
  | [], _, _, e, d, y, h => by cases e; cases h
  | (k, s) :: ls, l, os, e, d, y, h => by
    unfold putOs at e
    cases e1 : putO s l with
    | none => rw [e1] at e; cases e
    | some r =>
      obtain ⟨z, l1⟩ := r
      rw [e1] at e
      simp only at e
      cases e2 : putOs ls l1 with
      | none => rw [e2] at e; cases e
      | some os' =>
        rw [e2] at e
        cases e
        rcases List.mem_cons.1 h with h | h
        · cases h
          exact ⟨s, List.mem_cons_self, putO_kind e1⟩
        · obtain ⟨s', h1, h2⟩ := putOs_kind e2 d y h
          exact ⟨s', List.mem_cons_of_mem _ h1, h2⟩
theorem put_kind {c : Cut} {x : prods c.tys} {cms : List Cm} {os : List (Nat × Obj)} (e : c.put x = some (cms, os)) : ∀ d y, (d, y) ∈ os → ∃ s, (d, s) ∈ c.objs ∧ (y.live = true → s.isCaps = false) ∧ ∀ e t xs f, y = .row e t xs f → f = false := by
  unfold Cut.put at e
  split at e
  · split at e
    · rename_i h
      cases e
      exact putOs_kind h
    · cases e
  · cases e
theorem fx_of : ∀ {l : List (Nat × OSh)} {d : Nat} {s : OSh}, (d, s) ∈ l → s.isCaps = false → d ∈ fxOf l
  | (a, s') :: l, d, s, h, hs => by
    unfold fxOf
    rcases List.mem_cons.1 h with h | h
    · cases h
      rw [hs]; exact List.mem_cons_self
    · cases s'.isCaps with
      | true => exact fx_of h hs
      | false => exact List.mem_cons_of_mem _ (fx_of h hs)
theorem put_live {c : Cut} {x : prods c.tys} {cms : List Cm} {os : List (Nat × Obj)} (e : c.put x = some (cms, os)) (d : Nat) (h : (ofL os d).live = true) : d ∈ fxOf c.objs := by
  rcases upds_cases os (fun _ => Obj.no) d with ⟨_, h2⟩ | ⟨v, h1, h2⟩
  · have : ofL os d = .no := h2
    rw [this] at h; cases h
  · have hv : ofL os d = v := h2
    rw [hv] at h
    obtain ⟨s, q1, q2, _⟩ := put_kind e d v h1
    exact fx_of q1 (q2 h)
theorem ev_R (ht : TmR G st w a.tmps) (x : Operand) : SVR G st.o w (ev st x) (a.eval x) := by
  cases x with
  | tmp t => exact ht t
  | const v => exact ofValue_R v
  | global g => trivial
  | func f => exact ⟨rfl, rfl⟩
theorem ev_leaf (ht : TmR G st w a.tmps) (x : Operand) : LR G st.o w (ev st x).leaf (a.eval x) := fun _ h => (ev_R ht x).leaf h
theorem parts_R (ht : TmR G st w a.tmps) : ∀ {ps : List (Nat × Operand)} {l : List (Nat × List Lf)}, partsL st ps = some l → All2 (fun p q => p.1 = q.1 ∧ All2 (LfR G st.o w) p.2 q.2.cells.toList) l (ps.map fun p => (p.1, a.eval p.2))
  | [], _, e => by cases e; trivial
  | (i, x) :: ps, l, e => by
    unfold partsL at e
    cases e1 : (ev st x).cells with
    | none => rw [e1] at e; cases e
    | some c =>
      cases e2 : partsL st ps with
      | none => rw [e1, e2] at e; cases e
      | some r =>
        rw [e1, e2] at e
        cases e
        exact ⟨⟨rfl, cells_R (ev_R ht x) e1⟩, parts_R ht e2⟩
theorem argCms_R (ht : TmR G st w a.tmps) : ∀ (xs : List Operand), All2 (CmR G st.o w) (argCms st xs) (xs.map a.eval)
  | [] => trivial
  | x :: xs => ⟨(ev_R ht x).cm, argCms_R ht xs⟩
theorem wp_does {o : Oper} {m : Sem Value} {e : Eff} {next : Act → World → Prop} {Q : Exit → Act → World → Prop} (hx : execOp a.eval o = (do pure (Next.value (← m)))) (hd : Does P C G st.o w m e)
    (k : ∀ v w', StepR C G st.o w e v w' → next (a.put o.dst v) w') : o.wp P a w next Q := by
  obtain ⟨v, w', hr, hs⟩ := hd
  unfold Oper.wp
  rw [hx]
  have : (do pure (Next.value (← m)) : Sem Next).run P w = .ok (.value v) w' := by
    simp only [Sem.run_bind, hr, Result.andThen_ok, Sem.run_pure]
  rw [this, Oper.upon_value]
  exact k v w' hs
theorem wp_value {o : Oper} {v : Value} {e : Eff} {next : Act → World → Prop} {Q : Exit → Act → World → Prop} (hx : (execOp a.eval o).run P w = .ok (.value v) w) (hs : StepR C G st.o w e v w)
    (k : ∀ v w', StepR C G st.o w e v w' → next (a.put o.dst v) w') : o.wp P a w next Q := by
  unfold Oper.wp
  rw [hx, Oper.upon_value]
  exact k v w hs
theorem binP_ok (h : Core C G st.o w) {op : BinOp} {t : TypeId} {x y : Option Lf} {cs : List Chk} {e : Eff} (he : binP P op t x y = some (cs, e)) (hc : AllP cs) {x' y' : Operand} {u v : Value} (ha : LR G st.o w x u) (hb : LR G st.o w y v) :
    Does P C G st.o w (do eqGuard op t x' y' u v; binOp op t u v) e := by
  unfold binP at he
  split at he
  · exact binL_ok h he hc (fun p q _ hq => by cases hq) (fun e => by cases e) ha hb
  · exact binL_ok h he hc (fun p q _ hq => by cases hq) (fun e => by cases e) ha hb
  · split at he
    · rename_i el hu
      exact binL_ok h he hc (fun p q _ hq => by cases hq) (fun _ => ⟨el, hu⟩) ha hb
    · cases he
  · split at he
    · rename_i hu
      exact binB_ok h he hu ha hb
    · cases he
/-- A call by a contract. -/
theorem call_sound (hΓ : ΓOk P Γ) (h : Core C G st.o w) {f : FuncId} {c : Con} (hc : Γ f = some c) {dst : Nat} {cms : List Cm} {vals : Array Value} (hv : All2 (CmR G st.o w) cms vals.toList) {e : Eff} (he : callK c dst cms st.o some = some e)
    {next : Value → World → Prop} (k : ∀ v w', StepR C G st.o w e v w' → next v w') : Calls P f vals w fun e w' => ∃ v, e = .returned v ∧ next v w' := by
  unfold callK at he
  split at he
  · cases he
  · rename_i g x hg
    cases hx : c.sem x with
    | none => rw [hx] at he; cases he
    | some y =>
      rw [hx] at he
      simp only [Option.bind_some] at he
      split at he
      · cases he
      · rename_i cms2 os2 hp2
        split at he
        · cases he
        · rename_i hok
          split at he
          · cases he
          · rename_i fz hfz
            cases he
            obtain ⟨cms1, os1, hp1, V⟩ := grab_ok h hv hg
            have hdeep : ∀ d d', look g.ren d = some (some d') → (st.o d').isDeep = false := fun d d' hd => by
              have h9 := hok
              unfold callOk at h9
              simp only [Bool.and_eq_true] at h9
              have := List.all_eq_true.1 h9.1.1.1 d' (renIds_mem (look_mem hd))
              simpa using this
            have hcall := (hΓ f c hc).1 x y hx (renG G g) cms1 os1 w vals hp1 (call_in V hdeep) V.slots
            refine hcall.mono ?_
            rintro e' w2 ⟨vs, G2, cms2', os2', rfl, hp2', hc2, hr⟩
            rw [hp2] at hp2'
            cases hp2'
            exact ⟨_, rfl, k _ _ (call_out h _ V hc2 hr hok (put_live hp1) (fun d e t xs f hm => by
              obtain ⟨_, _, _, q⟩ := put_kind hp2 d _ hm
              exact q e t xs f rfl) hfz)⟩
theorem bnd_R {x : Option Lf} {j : Int} {v : Value} (h : bnd x = some j) (hx : LR G st.o w x v) : ∃ k, v = .int k j := by
  cases x with
  | none => cases h
  | some l =>
    cases l with
    | v t y =>
      cases t with
      | int k =>
        cases h
        exact ⟨k, hx.int⟩
      | _ => cases h
    | _ => cases h
theorem op_sound (hΓ : ΓOk P Γ) (h : Core C G st.o w) (ht : TmR G st w a.tmps) {o : Oper} {e : Eff} (e1 : opK P Γ o st some = some e) {next : Act → World → Prop} {Q : Exit → Act → World → Prop}
    (k : ∀ v w', StepR C G st.o w e v w' → next (a.put o.dst v) w') : o.wp P a w next Q := by
  unfold opK at e1
  split at e1
  · rename_i x hop
    cases e1
    exact wp_value (by simp [execOp, hop]) (StepR.pure h (ev_R ht x)) k
  · rename_i x hop
    cases e1
    exact wp_value (by simp [execOp, hop]) (StepR.pure h (ev_R ht x)) k
  · rename_i c x y hop
    have hb : ∃ d, a.eval c = .bool d ∧ e = ⟨match d with | true => ev st x | false => ev st y, [], []⟩ := by
      have hl := ev_leaf ht c
      unfold splitB at e1
      split at e1
      · rename_i q; exact ⟨true, (hl _ q).2, (Option.some.inj e1).symm⟩
      · rename_i q; exact ⟨false, (hl _ q).2, (Option.some.inj e1).symm⟩
      · rename_i p i q
        by_cases hp : p
        · rw [if_pos hp] at e1
          exact ⟨true, by rw [show a.eval c = .bool (@decide p i) from (hl _ q).2, @decide_eq_true _ i hp], (Option.some.inj e1).symm⟩
        · rw [if_neg hp] at e1
          exact ⟨false, by rw [show a.eval c = .bool (@decide p i) from (hl _ q).2, @decide_eq_false _ i hp], (Option.some.inj e1).symm⟩
      · rename_i p i q
        by_cases hp : p
        · rw [if_pos hp] at e1
          exact ⟨false, by rw [show a.eval c = .bool (!@decide p i) from (hl _ q).2, @decide_eq_true _ i hp]; rfl, (Option.some.inj e1).symm⟩
        · rw [if_neg hp] at e1
          exact ⟨true, by rw [show a.eval c = .bool (!@decide p i) from (hl _ q).2, @decide_eq_false _ i hp]; rfl, (Option.some.inj e1).symm⟩
      · rename_i z q
        have hz : [a.eval c] = [.bool z] := (hl _ q).2
        have hz' : a.eval c = .bool z := by simpa using hz
        by_cases hp : (z : Bool) = true
        · rw [if_pos hp] at e1
          exact ⟨true, by rw [hz', hp], (Option.some.inj e1).symm⟩
        · rw [if_neg hp] at e1
          exact ⟨false, by rw [hz', Bool.eq_false_iff.2 hp], (Option.some.inj e1).symm⟩
      · cases e1
    obtain ⟨d, hd, rfl⟩ := hb
    cases d with
    | true => exact wp_value (by simp [execOp, hop, hd, asBool]) (StepR.pure h (ev_R ht x)) k
    | false => exact wp_value (by simp [execOp, hop, hd, asBool]) (StepR.pure h (ev_R ht y)) k
  · rename_i t hop
    split at e1
    · rename_i d z hd hz
      obtain ⟨cs, h1, _⟩ := fin_some e1
      exact wp_does (by simp only [execOp, hop]) (allocL_ok h hz h1) k
    · cases e1
  · rename_i t x hop
    split at e1
    · rename_i d ls hd hz
      split at e1
      · obtain ⟨cs, h1, _⟩ := fin_some e1
        exact wp_does (by simp only [execOp, hop]) (box_ok h h1 (cells_R (ev_R ht x) hz)) k
      · cases e1
    · cases e1
  · rename_i t ps hop
    split at e1
    · rename_i l hl
      obtain ⟨cs, h1, _⟩ := fin_some e1
      exact wp_does (m := Instr.build t (ps.map fun x => (x.1, a.eval x.2))) (by simp only [execOp, hop]) (buildX_ok h h1 (by have := parts_R ht hl; simpa using this)) k
    · cases e1
  · rename_i t n ps hop
    split at e1
    · rename_i d l hd hl
      obtain ⟨cs, h1, _⟩ := fin_some e1
      exact wp_does (m := Instr.buildSlice t n (ps.map fun x => (x.1, a.eval x.2))) (by simp only [execOp, hop]) (buildSliceL_ok h h1 (by have := parts_R ht hl; simpa using this)) k
    · cases e1
  · rename_i t x hop
    obtain ⟨cs, h1, _⟩ := fin_some e1
    exact wp_does (by simp only [execOp, hop]) (loadL_ok h h1 (ev_leaf ht x)) k
  · rename_i t x y hop
    have hsd : ∃ w', (Instr.storeAt t (a.eval x) (a.eval y)).run P w = .ok () w' ∧ ∃ G', Core C G' (upds st.o e.wr) w' ∧ Ext G st.o w G' (upds st.o e.wr) w' ∧ e.sv = .u := by
      cases hk : takeL P t st.o (ev st x).leaf (ev st y) with
      | some r =>
        rw [hk] at e1
        obtain ⟨cs, h1, h2⟩ := fin_some e1
        rw [h1] at hk
        exact takeL_ok h hk h2 (ev_leaf ht x) (ev_R ht y)
      | none =>
        rw [hk] at e1
        try simp only at e1
        cases hk2 : storeArr P t st.o (ev st x).leaf (ev st y) with
        | some r =>
          rw [hk2] at e1
          obtain ⟨cs, h1, h2⟩ := fin_some e1
          rw [h1] at hk2
          exact storeArr_ok h hk2 h2 (ev_leaf ht x) (ev_R ht y)
        | none =>
          rw [hk2] at e1
          obtain ⟨cs, h1, _⟩ := fin_some e1
          exact storeL_ok h h1 (ev_leaf ht x) (ev_R ht y)
    obtain ⟨w', hr, G', k1, k2, k3⟩ := hsd
    unfold Oper.wp
    have : (execOp a.eval o).run P w = .ok .skip w' := by
      simp only [execOp, hop, Sem.run_bind, hr, Result.andThen_ok, Sem.run_pure]
    rw [this, Oper.upon_skip]
    exact k undef w' ⟨G', k1, k2, by rw [k3]; trivial⟩
  · rename_i x hop
    obtain ⟨cs, h1, _⟩ := fin_some e1
    obtain ⟨hn, hs⟩ := nilL_ok h h1 (ev_leaf ht x)
    refine wp_value (v := a.eval x) ?_ hs k
    cases hv : a.eval x with
    | pointer q => cases q <;> rw [hv] at hn <;> first | (simp [execOp, hop, hv]; done) | cases hn
    | nilIface => rw [hv] at hn; cases hn
    | nilFunc => rw [hv] at hn; cases hn
    | func fn b c => cases fn <;> rw [hv] at hn <;> first | (simp [execOp, hop, hv]; done) | cases hn
    | _ => simp [execOp, hop, hv]
  · rename_i op t x y t' hop
    split at e1
    · rename_i fs hu
      obtain ⟨cs, h1, _⟩ := fin_some e1
      exact wp_does (m := do eqGuard op t x y (a.eval x) (a.eval y); binOp op t (a.eval x) (a.eval y)) (by simp only [execOp, hop]) (binA_ok h hu h1 (ev_R ht x) (ev_R ht y)) k
    obtain ⟨cs, h1, h2⟩ := fin_some e1
    exact wp_does (m := do eqGuard op t x y (a.eval x) (a.eval y); binOp op t (a.eval x) (a.eval y)) (by simp only [execOp, hop]) (binP_ok h h1 h2 (ev_leaf ht x) (ev_leaf ht y)) k
  · rename_i op t x hop
    obtain ⟨cs, h1, _⟩ := fin_some e1
    exact wp_does (by simp only [execOp, hop]) (unL_ok h h1 (ev_leaf ht x)) k
  · rename_i t d x hop
    obtain ⟨cs, h1, _⟩ := fin_some e1
    exact wp_does (by simp only [execOp, hop]) (convX_ok h h1 (ev_leaf ht x)) k
  · rename_i f cs hop
    split at e1
    · rename_i hc
      cases e1
      have hcs : cs = #[] := by cases cs; simp_all
      subst hcs
      refine wp_does (m := Instr.makeFunc (.func f) #[] #[]) (by simp [execOp, hop]) ?_ k
      exact Does.pure h (v := .func (.func f) #[] #[]) (by simp [Instr.makeFunc]) ⟨rfl, rfl⟩
    · rename_i d x xs hd hc
      split at e1
      · rename_i hno
        cases e1
        refine wp_does (m := Instr.makeFunc (.func f) #[] (cs.map a.eval)) (by simp [execOp, hop]) ?_ k
        have hcs : cs.toList = x :: xs := hc
        have hall := argCms_R ht (x :: xs)
        have ex : Ext G st.o w { G with cap := upd G.cap d ((x :: xs).map a.eval) } (upd st.o d (.caps (argCms st (x :: xs)))) w := by
          refine ⟨fun _ h => h, fun _ _ => rfl, fun q hq => ?_⟩
          have hne : q ≠ d := by rintro rfl; exact hq hno
          rw [upd_ne _ _ hne]
          exact ⟨hq, Sim.refl _, fun _ => ⟨rfl, rfl, upd_ne _ _ hne, fun _ _ h => h⟩⟩
        refine ⟨.func (.func f) #[] (cs.map a.eval), w, by simp [Instr.makeFunc], { G with cap := upd G.cap d ((x :: xs).map a.eval) }, ?_, ex, rfl, ?_⟩
        · refine h.step ex (fun q => q = d) (fun q hq => ⟨upd_ne _ _ hq, rfl, rfl, upd_ne _ _ hq, rfl⟩) (fun _ _ _ _ _ => ⟨rfl, id⟩) ?_ ?_ (fun b hb => Or.inl hb) (Keeps.refl _ _ _) ?_
          · rintro q rfl
            show ObjR C { G with cap := upd G.cap q ((x :: xs).map a.eval) } (upd st.o q (.caps (argCms st (x :: xs)))) w q
            unfold ObjR
            rw [upd_self]
            show All2 _ _ (upd G.cap q ((x :: xs).map a.eval) q)
            rw [upd_self]
            exact hall.mono fun _ _ => CmR.mono ex
          · rintro q d' b1 b' hne rfl hl
            have hl' : (upd st.o q (.caps (argCms st (x :: xs))) q).live = true := hl
            rw [upd_self] at hl'
            cases hl'
          · rintro q hq rfl hn
            exact absurd hno hn
        · show OnCaps (upd st.o d (.caps (argCms st (x :: xs))) d) _
          rw [upd_self]
          show _ = Value.func (.func f) #[] (upd G.cap d ((x :: xs).map a.eval) d).toArray
          rw [upd_self, ← hcs]
          congr 1
          apply Array.ext'
          simp
      · cases e1
    · cases e1
  · rename_i t x y hop
    split at e1
    · rename_i d hd
      obtain ⟨cs, h1, h2⟩ := fin_some e1
      refine wp_does (by simp only [execOp, hop]) (makeSliceL_ok h h1 h2 (ev_leaf ht x) (ev_leaf ht y) (fun hs => ?_)) k
      unfold sameOp at hs
      split at hs
      · rw [Nat.eq_of_beq_eq_true hs]
      · cases hs
    · cases e1
  · rename_i t x lo hi hop
    split at e1
    · rename_i l r hl hr
      have hb : ∀ (y : Option Operand) (i : Option Int), optB st y = some i → BndR i (y.map a.eval) := by
        intro y i hy
        cases y with
        | none => cases hy; trivial
        | some z =>
          simp only [optB] at hy
          cases hz : bnd (ev st z).leaf with
          | none => rw [hz] at hy; cases hy
          | some j =>
            rw [hz] at hy
            cases hy
            exact bnd_R hz (ev_leaf ht z)
      split at e1
      · rename_i n el hu
        obtain ⟨cs, h1, h2⟩ := fin_some e1
        exact wp_does (by simp only [execOp, hop]; rfl) (sliceArrL_ok h hu h1 h2 (ev_leaf ht x) (hb lo l hl) (hb hi r hr)) k
      · obtain ⟨cs, h1, h2⟩ := fin_some e1
        exact wp_does (by simp only [execOp, hop]; rfl) (sliceL_ok h h1 h2 (ev_leaf ht x) (hb lo l hl) (hb hi r hr)) k
    · cases e1
  · rename_i t hop
    split at e1
    · rename_i d hd
      obtain ⟨cs, h1, _⟩ := fin_some e1
      exact wp_does (m := Instr.makeMap t none) (by simp [execOp, hop]) (makeMapL_ok h h1 t) k
    · cases e1
  · rename_i t x y hop
    obtain ⟨cs, h1, _⟩ := fin_some e1
    exact wp_does (by simp only [execOp, hop]) (lookupL_ok h h1 (ev_leaf ht x) (ev_leaf ht y)) k
  · rename_i t x y z hop
    obtain ⟨cs, h1, _⟩ := fin_some e1
    obtain ⟨w', hr, G', k1, k2, k3⟩ := mapUpdateL_ok h h1 (ev_leaf ht x) (ev_leaf ht y) (ev_leaf ht z)
    unfold Oper.wp
    have : (execOp a.eval o).run P w = .ok .skip w' := by
      simp only [execOp, hop, Sem.run_bind, hr, Result.andThen_ok, Sem.run_pure]
    rw [this, Oper.upon_skip]
    exact k undef w' ⟨G', k1, k2, by rw [k3]; trivial⟩
  · rename_i t x f hop
    obtain ⟨cs, h1, _⟩ := fin_some e1
    exact wp_does (by simp only [execOp, hop]) (fieldAddrL_ok h h1 (ev_leaf ht x)) k
  · rename_i t x f hop
    obtain ⟨cs, h1, _⟩ := fin_some e1
    exact wp_does (by simp only [execOp, hop]) (fieldL_ok h h1 (ev_R ht x)) k
  · rename_i t x y hop
    split at e1
    · rename_i el hu
      obtain ⟨cs, h1, h2⟩ := fin_some e1
      exact wp_does (by simp only [execOp, hop]) (indexAddrL_ok h hu h1 h2 (ev_leaf ht x) (ev_leaf ht y)) k
    · rename_i n el hu
      obtain ⟨cs, h1, h2⟩ := fin_some e1
      exact wp_does (by simp only [execOp, hop]) (indexArrL_ok h hu h1 h2 (ev_leaf ht x) (ev_leaf ht y)) k
    · cases e1
  · rename_i t x y hop
    split at e1
    · rename_i hu
      obtain ⟨cs, h1, h2⟩ := fin_some e1
      exact wp_does (by simp only [execOp, hop]) (indexL_ok h hu h1 h2 (ev_leaf ht x) (ev_leaf ht y)) k
    · rename_i n el hu
      obtain ⟨cs, h1, h2⟩ := fin_some e1
      exact wp_does (by simp only [execOp, hop]) (indexArrV_ok h hu h1 h2 (ev_R ht x) (ev_leaf ht y)) k
    · cases e1
  · rename_i x i hop
    split at e1
    · rename_i cs hcs
      split at e1
      · rename_i c hc
        cases e1
        have hx := ev_R ht x
        rw [hcs] at hx
        obtain ⟨vs, hvs, hall⟩ := hx
        have hl : i < vs.toList.length := by
          rw [← hall.length]
          exact (List.getElem?_eq_some_iff.1 hc).1
        have hv : vs[i]? = some (vs.toList[i]) := by
          rw [← Array.getElem?_toList, List.getElem?_eq_getElem hl]
        refine wp_does (m := Instr.extract (a.eval x) i) (by simp only [execOp, hop]) (Does.pure h (v := vs.toList[i]) (by simp only [hvs, Instr.extract, hv]; rfl) ?_) k
        exact hall.get i hc (List.getElem?_eq_getElem hl)
      · cases e1
    · cases e1
  · rename_i c hop
    split at e1
    · rename_i hcal
      split at e1
      · rename_i t x hty hx
        obtain ⟨cs, h1, _⟩ := fin_some e1
        have hargs : c.args.map a.eval = #[a.eval x] := by
          have : c.args = #[x] := by rw [← Array.toList_inj]; exact hx
          rw [this]; simp
        have htys : c.argTypes = #[t] := by rw [← Array.toList_inj]; exact hty
        exact wp_does (m := Builtin.len_ #[t] o.type #[a.eval x]) (by simp [execOp, hop, resolve, hcal, invoke, builtin, hargs, htys]) (lenL_ok h h1 (ev_leaf ht x) o.type) k
      · cases e1
    · rename_i hcal
      split at e1
      · rename_i t x hty hx
        obtain ⟨cs, h1, _⟩ := fin_some e1
        have hargs : c.args.map a.eval = #[a.eval x] := by
          have : c.args = #[x] := by rw [← Array.toList_inj]; exact hx
          rw [this]; simp
        have htys : c.argTypes = #[t] := by rw [← Array.toList_inj]; exact hty
        exact wp_does (m := Builtin.cap_ #[t] o.type #[a.eval x]) (by simp [execOp, hop, resolve, hcal, invoke, builtin, hargs, htys]) (capL_ok h h1 (ev_leaf ht x) o.type) k
      · cases e1
    · rename_i hcal
      split at e1
      · rename_i x l hx
        obtain ⟨cs, h1, _⟩ := fin_some e1
        refine wp_does (m := Builtin.min_ c.argTypes o.type (c.args.map a.eval)) (by simp [execOp, hop, resolve, hcal, invoke, builtin]) ?_ k
        have hargs : (c.args.map a.eval).toList = a.eval x :: l.map a.eval := by
          rw [Array.toList_map, hx]; rfl
        unfold Builtin.min_
        rw [hargs]
        exact foldL_ok h mn Builtin.min2 (fun k p q => by simp [Builtin.min2, mn]) _ _ _ _ h1 (ev_leaf ht x) (by
          have : ∀ l : List Operand, All2 (LR G st.o w) (l.map fun y => (ev st y).leaf) (l.map a.eval) := by
            intro l
            induction l with
            | nil => trivial
            | cons y l ih => exact ⟨ev_leaf ht y, ih⟩
          exact this l)
      · cases e1
    · rename_i hcal
      split at e1
      · rename_i x l hx
        obtain ⟨cs, h1, _⟩ := fin_some e1
        refine wp_does (m := Builtin.max_ c.argTypes o.type (c.args.map a.eval)) (by simp [execOp, hop, resolve, hcal, invoke, builtin]) ?_ k
        have hargs : (c.args.map a.eval).toList = a.eval x :: l.map a.eval := by
          rw [Array.toList_map, hx]; rfl
        unfold Builtin.max_
        rw [hargs]
        exact foldL_ok h mx Builtin.max2 (fun k p q => by simp [Builtin.max2, mx]) _ _ _ _ h1 (ev_leaf ht x) (by
          have : ∀ l : List Operand, All2 (LR G st.o w) (l.map fun y => (ev st y).leaf) (l.map a.eval) := by
            intro l
            induction l with
            | nil => trivial
            | cons y l ih => exact ⟨ev_leaf ht y, ih⟩
          exact this l)
      · cases e1
    · rename_i hcal
      split at e1
      · rename_i t t' x y hty hx
        obtain ⟨cs, h1, _⟩ := fin_some e1
        have hargs : c.args.map a.eval = #[a.eval x, a.eval y] := by
          have : c.args = #[x, y] := by rw [← Array.toList_inj]; exact hx
          rw [this]; simp
        have htys : c.argTypes = #[t, t'] := by rw [← Array.toList_inj]; exact hty
        exact wp_does (m := Builtin.copy_ #[t, t'] o.type #[a.eval x, a.eval y]) (by simp [execOp, hop, resolve, hcal, invoke, builtin, hargs, htys]) (copyL_ok h h1 (ev_leaf ht x) (ev_leaf ht y)) k
      · cases e1
    · rename_i hcal
      split at e1
      · rename_i t t' x y d hty hx hd
        split at e1
        · rename_i htt
          subst htt
          obtain ⟨cs, h1, h2⟩ := fin_some e1
          have hargs : c.args.map a.eval = #[a.eval x, a.eval y] := by
            have : c.args = #[x, y] := by rw [← Array.toList_inj]; exact hx
            rw [this]; simp
          have htys : c.argTypes = #[t, t] := by rw [← Array.toList_inj]; exact hty
          exact wp_does (m := Builtin.append_ #[t, t] o.type #[a.eval x, a.eval y]) (by simp [execOp, hop, resolve, hcal, invoke, builtin, hargs, htys]) (appendL_ok h h1 h2 (ev_leaf ht x) (ev_leaf ht y)) k
        · obtain ⟨cs, h1, h2⟩ := fin_some e1
          have hargs : c.args.map a.eval = #[a.eval x, a.eval y] := by
            have : c.args = #[x, y] := by rw [← Array.toList_inj]; exact hx
            rw [this]; simp
          have htys : c.argTypes = #[t, t'] := by rw [← Array.toList_inj]; exact hty
          exact wp_does (m := Builtin.append_ #[t, t'] o.type #[a.eval x, a.eval y]) (by simp [execOp, hop, resolve, hcal, invoke, builtin, hargs, htys]) (appendZ_ok h h1 h2 (ev_leaf ht x) (ev_leaf ht y)) k
      · cases e1
    · rename_i f hcal
      have go : ∀ {g : FuncId} {c' : Con} {cms : List Cm} {caps : List Value} {e' : Eff}, Γ g = some c' → a.eval f = .func (.func g) #[] caps.toArray → All2 (CmR G st.o w) cms (c.args.toList.map a.eval ++ caps) → callK c' (o.dst.getD 0) cms st.o some = some e' → (∀ v w', StepR C G st.o w e' v w' → next (a.put o.dst v) w') → o.wp P a w next Q := by
        intro g c' cms caps e' hg hf hcm hk hnext
        obtain ⟨_, fn, hfn, hname, hbody⟩ := hΓ g c' hg
        have hcalls := call_sound hΓ h hg (vals := c.args.map a.eval ++ caps.toArray) (by simpa using hcm) hk (next := fun v w' => next (a.put o.dst v) w') hnext
        unfold Oper.wp
        have hex : (execOp a.eval o).run P w = .ok (.enter g (c.args.map a.eval ++ caps.toArray)) w := by
          have hb : ¬ fn.body = none := by intro hq; rw [hq] at hbody; cases hbody
          have hn : ¬ fn.name = "runtime.NumGoroutine" := by simpa using hname
          simp [execOp, hop, resolve, hcal, Deferred.ofValue, hf, invoke, callFunc, hfn, hn, hb]
        rw [hex, Oper.upon_enter]
        refine hcalls.mono ?_
        rintro e'' w'' ⟨v, rfl, hv⟩
        exact hv
      split at e1
      · rename_i g hfl
        split at e1
        · rename_i c' hg
          have hf : a.eval f = .func (.func g) #[] #[] := (ev_leaf ht f _ hfl).2
          exact go (caps := []) hg hf (by rw [List.append_nil]; exact argCms_R ht _) e1 k
        · obtain ⟨cs, h1, _⟩ := fin_some e1
          have hf : a.eval f = .func (.func g) #[] #[] := (ev_leaf ht f _ hfl).2
          have hall : ∀ l : List Operand, All2 (LR G st.o w) (l.map fun y => (ev st y).leaf) (l.map a.eval) := by
            intro l
            induction l with
            | nil => trivial
            | cons y l ih => exact ⟨ev_leaf ht y, ih⟩
          obtain ⟨v, hr, hs⟩ := externL_ok h h1 (hall c.args.toList)
          refine wp_value (v := v) ?_ hs k
          have hargs : (c.args.toList.map a.eval).toArray = c.args.map a.eval := by
            apply Array.ext'
            simp
          rw [hargs] at hr
          simp [execOp, hop, resolve, hcal, Deferred.ofValue, hf, invoke, hr]
      · rename_i g d hfl
        split at e1
        · rename_i c' cs hg hd
          rw [callK_bind] at e1
          cases h1 : callK c' (o.dst.getD 0) (argCms st c.args.toList ++ cs) st.o some with
          | none => rw [h1] at e1; cases e1
          | some e2 =>
            rw [h1] at e1
            cases e1
            have hf : OnCaps (st.o d) (a.eval f = .func (.func g) #[] (G.cap d).toArray) := (ev_leaf ht f _ hfl).2
            rw [hd] at hf
            have hcap := h.ob d
            unfold ObjR at hcap
            rw [hd] at hcap
            exact go (caps := G.cap d) hg hf ((argCms_R ht _).append hcap) h1 (fun v w' hs => k v w' hs)
        · cases e1
      · rename_i cs x hfl
        obtain ⟨g, c', _, hg1, hg2, hk⟩ := fnK_some e1
        obtain ⟨g', q1, q2⟩ : ∃ f', cs[x]? = some f' ∧ [a.eval f] = [Value.func (.func f') #[] #[]] := (ev_leaf ht f _ hfl).2
        rw [Nat.sub_zero, q1] at hg1
        cases hg1
        have hf : a.eval f = .func (.func g) #[] #[] := by simpa using q2
        exact go (caps := []) hg2 hf (by rw [List.append_nil]; exact argCms_R ht _) hk k
      · cases e1
    · cases e1
  · cases e1
end
end Go.Proofs.YtamgbcgfjhpedaaDoor.VE
