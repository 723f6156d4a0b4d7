/- A whole function by the evaluator: its contract (lemmas; no statement is proved here). -/
import Derived.Test.YtamgbcgfjhpedaaDoorVeReg
import Derived.Test.YtamgbcgfjhpedaaDoorVeNorm
namespace Go.Proofs.YtamgbcgfjhpedaaDoor.VE
open Go Go.RowKit
section
variable {P : Program} {C : Ctx} {G : Gh} {st : St} {w : World} {a : Act}
/-- The state that a cut tells is all that is known. -/
theorem view_core {O : Nat → Obj} (h : Core C G O w) {c : Cut} {g : Gr} {cms : List Cm} {os : List (Nat × Obj)} {vs : List Value} (V : View C G O w c C.fx g cms os vs) : Core C (renG G g) (ofL os) w where
  ob := V.objs C (fun d d' b hd hl hm => (h.blockB hl hm).2.1)
  injB := V.inj
  F1 := V.F1
  F2 b hb := V.ren.F b (h.F2 b hb)
  F3 b hb := (V.F3 b hb).elim (h.F3 b) Or.inr
  keep := h.keep
  size := h.size
  fix d hd := by
    have hl := V.fixed d hd
    refine ⟨(V.keys d).2 ⟨_, hl⟩, fun hlv => ?_⟩
    obtain ⟨v1, v2⟩ := V.live d d hl
    have hlv' : (O d).live = true := by rw [← v1]; exact hlv
    obtain ⟨q1, q2, q3⟩ := (h.fix d hd).2 hlv'
    exact ⟨by simp only [renG, hl]; exact q1, by simp only [renG, hl]; exact q2, v2.trans q3⟩
theorem zip_get {α β : Type} : ∀ {l : List α} {m : List β} {x : α × β}, x ∈ l.zip m → ∃ i : Nat, l[i]? = some x.1 ∧ m[i]? = some x.2
  | [], _, _, h => by simp at h
  | _ :: _, [], _, h => by simp at h
  | a :: l, b :: m, x, h => by
    rw [List.zip_cons_cons] at h
    rcases List.mem_cons.1 h with rfl | h
    · exact ⟨0, rfl, rfl⟩
    · obtain ⟨i, h1, h2⟩ := zip_get h
      exact ⟨i + 1, by simpa using h1, by simpa using h2⟩
theorem cmsAt_R (ht : TmR G st w a.tmps) : ∀ l : List Nat, All2 (CmR G st.o w) (cmsAt st l) (l.map fun t => a.tmps.getD t undef)
  | [] => trivial
  | t :: l => ⟨(ht t).cm, cmsAt_R ht l⟩
/-- At a cut point. -/
theorem toK_sound {R : Type} {n : Nat} (h : Inv C st w n a G) {hh : Hint R} {r : R} (e : toK hh C.fx st = some r) : ∃ x G', hh.k x = some r ∧ Inv C (hh.c.st x) w n a G' := by
  unfold toK at e
  obtain ⟨G1, c1, hcm⟩ := normA_ok (goneOf hh.c.objs) (hh.c.slots.map (·.2)) hh.c.objs _ h.core (cmsAt_R h.tm (hh.c.slots.map (·.1)))
  revert c1 hcm e
  generalize norm (goneOf hh.c.objs) (hh.c.slots.map (·.2)) (cmsAt st (hh.c.slots.map (·.1))) st.o = nr
  obtain ⟨cs, o⟩ := nr
  intro e c1 hcm
  simp only at e c1 hcm
  split at e
  · rename_i g x hg
    obtain ⟨cms, os, hp, V⟩ := grab_ok c1 hcm hg
    refine ⟨x, renG G1 g, e, ?_, ?_, h.size, h.defers⟩
    · unfold Cut.st; rw [hp]
      exact view_core c1 V
    · intro t
      unfold Cut.st; rw [hp]
      show SVR (renG G1 g) (ofL os) w (upds (fun _ => SV.u) ((hh.c.slots.map (·.1)).zip (cms.map .c)) t) _
      rcases upds_cases ((hh.c.slots.map (·.1)).zip (cms.map .c)) (fun _ => SV.u) t with ⟨_, h2⟩ | ⟨v, h1, h2⟩
      · rw [h2]; trivial
      · rw [h2]
        obtain ⟨i, i1, i2⟩ := zip_get h1
        simp only at i1 i2
        rw [List.getElem?_map] at i2
        cases hc : cms[i]? with
        | none => rw [hc] at i2; cases i2
        | some cm =>
          rw [hc] at i2
          cases i2
          refine V.slots.get i hc ?_
          rw [List.getElem?_map, i1]; rfl
  · cases e

/-! the machine -/
/-- From here the function comes to an end. -/
def Runs (P : Program) (f : FuncId) (todo : List Item) (a : Act) (w : World) (Q : Ending → World → Prop) : Prop :=
  ∀ (b : Frame) (cs : List Frame), b.fn = f → b.kind = .normal → ∃ e w' fr, Q e w' ∧ Comes P (lone (b.at a todo) cs w) (lone fr cs w') e ∧ fr.fn = f ∧ fr.leaving P w' e
theorem Runs.one {f : FuncId} {todo todo' : List Item} {a : Act} {w : World} {Q : Ending → World → Prop} (hs : ∀ (b : Frame) cs, step P (lone (b.at a todo) cs w) = .next (lone (b.at a todo') cs w)) (h : Runs P f todo' a w Q) : Runs P f todo a w Q := by
  intro b cs hb hk
  obtain ⟨e, w', fr, h1, h2, h3, h4⟩ := h b cs hb hk
  exact ⟨e, w', fr, h1, Comes.of_steps (.one (hs b cs)) h2, h3, h4⟩
theorem Runs.region {f : FuncId} {c : Code} {k : List Item} {a : Act} {w : World} {Q : Ending → World → Prop} {R : Act → World → Prop} (hc : c.wp P (fun e a' w' => e = .normal ∧ R a' w') a w) (h : ∀ a' w', R a' w' → Runs P f k a' w' Q) : Runs P f (.code c :: k) a w Q := by
  intro b cs hb hk
  obtain ⟨e, a', w', ⟨rfl, hR⟩, harr⟩ := hc b k cs
  obtain ⟨e2, w2, fr, h1, h2, h3, h4⟩ := h a' w' hR b cs hb hk
  exact ⟨e2, w2, fr, h1, Comes.of_steps harr h2, h3, h4⟩
theorem Runs.ends {f : FuncId} {fn : Func} {todo todo' : List Item} {a : Act} {w : World} {Q : Ending → World → Prop} {v : Value} (hf : P.funcs[f]? = some fn) (hd : a.defers = []) (hr : (results fn a.tmps).run P w = .ok v w)
    (hs : ∀ (b : Frame) cs, step P (lone (b.at a todo) cs w) = .next (lone { b.at a todo' with mode := .returning } cs w)) (hq : Q (.returned v) w) : Runs P f todo a w Q := by
  intro b cs hb hk
  refine ⟨.returned v, w, { b.at a todo' with mode := .returning }, hq, Steps.one (hs b cs), hb, rfl, hd, hk, fn, ?_, hr⟩
  show P.funcs[b.fn]? = some fn
  rw [hb]; exact hf
/-- What a function leaves. -/
def Post (C : Ctx) (cout : Cut) (y : prods cout.tys) (e : Ending) (w' : World) : Prop :=
  ∃ vs G' cms' os', e = .returned (retVal vs) ∧ cout.put y = some (cms', os') ∧ Core C G' (ofL os') w' ∧ All2 (CmR G' (ofL os') w') cms' vs
def resOne (tmps : Array Value) : ResultVar → Sem Value
  | .tmp t => pure (tmps.getD t undef)
  | .cell x t => do loadVar t (← asAddr (tmps.getD x undef))
theorem results_eq (fn : Func) (tmps : Array Value) : results fn tmps = (do
    let vs ← fn.results.mapM (resOne tmps)
    return if h : vs.size = 1 then vs[0] else .tuple vs) := rfl
theorem res_R {n : Nat} (h : Inv C st w n a G) : ∀ {l : List ResultVar} {cs : List Cm}, resultCms P st l = some cs →
    ∃ vs : List Value, (l.mapM (resOne a.tmps)).run P w = .ok vs w ∧ All2 (CmR G st.o w) cs vs
  | [], cs, e => by cases e; exact ⟨[], rfl, trivial⟩
  | r :: l, cs, e => by
    unfold resultCms at e
    cases e1 : resultCms P st l with
    | none => rw [e1] at e; cases e
    | some cs1 =>
      rw [e1] at e
      obtain ⟨vs, h1, h2⟩ := res_R h e1
      cases r with
      | tmp t =>
        cases e
        refine ⟨a.tmps.getD t undef :: vs, ?_, (h.tm t).cm, h2⟩
        rw [List.mapM_cons, Sem.run_bind]
        show ((pure (a.tmps.getD t undef) : Sem Value).run P w).andThen _ = _
        rw [Sem.run_pure, Result.andThen_ok, Sem.run_bind, h1]
        rfl
      | cell x t =>
        simp only at e
        split at e
        · rename_i ef hl
          cases e
          obtain ⟨v, v1, v2, _⟩ := loadL_pure (P := P) (w := w) (a := a.tmps.getD x undef) h.core hl (fun y hy => (h.tm x).leaf hy)
          refine ⟨v :: vs, ?_, v2.cm, h2⟩
          have hp : ∃ q, a.tmps.getD x undef = .pointer (some q) := by
            unfold Instr.loadAt Instr.sureAddr at v1
            split at v1
            · rename_i q hq; exact ⟨q, hq⟩
            · simp at v1
          obtain ⟨q, hq⟩ := hp
          rw [hq] at v1
          rw [List.mapM_cons, Sem.run_bind]
          have : (resOne a.tmps (.cell x t)).run P w = .ok v w := by
            show (do loadVar t (← asAddr (a.tmps.getD x undef)) : Sem Value).run P w = .ok v w
            rw [hq]
            simpa [Instr.loadAt, Instr.sureAddr, asAddr] using v1
          rw [this, Result.andThen_ok, Sem.run_bind, h1]
          rfl
        · cases e
theorem retVal_eq (vs : List Value) : (if h : vs.toArray.size = 1 then vs.toArray[0] else .tuple vs.toArray) = retVal vs := by
  match vs with
  | [] => rfl
  | [v] => rfl
  | _ :: _ :: _ => rfl
theorem go_sound {n : Nat} (h : Inv C st w n a G) {fn : Func} {F : Fin P} (hfx : F.fixed = C.fx) (hres : fn.results.toList = F.res) {y : prods F.cout.tys} (e : F.go st = some y) : ∃ v, (results fn a.tmps).run P w = .ok v w ∧ Post C F.cout y (.returned v) w := by
  unfold Fin.go at e
  split at e
  · rename_i cs hcs
    obtain ⟨vs, h1, h2⟩ := res_R h hcs
    obtain ⟨G1, c1, hcm⟩ := normA_ok (goneOf F.cout.objs) (F.cout.slots.map (·.2)) F.cout.objs _ h.core h2
    revert c1 hcm e
    generalize norm (goneOf F.cout.objs) (F.cout.slots.map (·.2)) cs st.o = nr
    obtain ⟨cs', o⟩ := nr
    intro e c1 hcm
    simp only at e c1 hcm
    split at e
    · rename_i g x hg
      cases e
      rw [hfx] at hg
      obtain ⟨cms, os, hp, V⟩ := grab_ok c1 hcm hg
      refine ⟨retVal vs, ?_, vs, renG G1 g, cms, os, rfl, hp, view_core c1 V, V.slots⟩
      rw [results_eq, Sem.run_bind, Array.mapM_eq_mapM_toList, hres, Sem.run_map, h1]
      simp only [Result.andThen_ok, Sem.run_pure]
      rw [← retVal_eq]
    · cases e
  · cases e

/-! the code -/
def WF (S : List (Nat × List Oper × Bool × List Item)) : List Item → Prop
  | [] => True
  | .code c :: k => (∀ s ∈ sites c k, s ∈ S) ∧ WF S k
  | .inBlock _ :: k => WF S k
  | .inLoop b :: k => (∀ s ∈ sites b (.inLoop b :: k), s ∈ S) ∧ WF S k
  | _ :: _ => False
theorem exit_WF {S : List (Nat × List Oper × Bool × List Item)} {id : Nat} : ∀ {k k' : List Item}, exitTo id k = some k' → WF S k → WF S k'
  | [], _, e, _ => by cases e
  | .inBlock j :: k, k', e, h => by
    unfold exitTo at e
    split at e
    · cases e; exact h
    · exact exit_WF e h
  | .code c :: k, k', e, h => exit_WF (k := k) e h.2
  | .inLoop b :: k, k', e, h => exit_WF (k := k) e h.2
  | .inRegion _ _ :: _, _, _, h => h.elim
  | .inScope _ :: _, _, _, h => h.elim
  | .inRangeFunc _ :: _, _, _, h => h.elim
  | .endRangeFunc _ :: _, _, _, h => h.elim
  | .beginRound :: _, _, _, h => h.elim
  | .call _ _ _ _ :: _, _, _, h => h.elim
  | .extern _ _ :: _, _, _, h => h.elim
theorem site_WF {S : List (Nat × List Oper × Bool × List Item)} : ∀ (c : Code) {k : List Item}, WF S k → (∀ s ∈ sites c k, s ∈ S) → ∀ s ∈ sites c k, WF S s.2.2.2
  | .region id ops draw, k, hk, _, s, hs => by
    rw [List.mem_singleton.1 hs]; exact hk
  | .seq x y, k, hk, hS, s, hs => by
    have h1 : ∀ s ∈ sites y k, s ∈ S := fun s hs => hS s (List.mem_append_right _ hs)
    rcases List.mem_append.1 hs with hs | hs
    · exact site_WF x (k := .code y :: k) ⟨h1, hk⟩ (fun s hs => hS s (List.mem_append_left _ hs)) s hs
    · exact site_WF y hk h1 s hs
  | .cond c x y, k, hk, hS, s, hs => by
    rcases List.mem_append.1 hs with hs | hs
    · exact site_WF x hk (fun s hs => hS s (List.mem_append_left _ hs)) s hs
    · exact site_WF y hk (fun s hs => hS s (List.mem_append_right _ hs)) s hs
  | .block id b, k, hk, hS, s, hs => site_WF b (k := .inBlock id :: k) hk hS s hs
  | .loop b, k, hk, hS, s, hs => site_WF b (k := .inLoop b :: k) ⟨hS, hk⟩ hS s hs
  | .skip, _, _, _, _, hs => by cases hs
  | .rangeFunc _ _ _ _, _, _, _, _, hs => by cases hs
  | .exit _, _, _, _, _, hs => by cases hs
  | .scope _, _, _, _, _, hs => by cases hs
  | .label _, _, _, _, _, hs => by cases hs
  | .goto _, _, _, _, _, hs => by cases hs
  | .ret, _, _, _, _, hs => by cases hs
  | .refuse _, _, _, _, _, hs => by cases hs
/-- Each region's slots are there, and its operations hang on earlier ones. -/
def sitesOk (N : Nat) (S : List (Nat × List Oper × Bool × List Item)) : Bool := S.all fun s => (s.2.1.all fun o => match o.dst with | some d => decide (d < N) | none => true) && eldersOk s.2.1
theorem sitesOk_dst {N : Nat} {S : List (Nat × List Oper × Bool × List Item)} (h : sitesOk N S = true) {s : Nat × List Oper × Bool × List Item} (hs : s ∈ S) : (∀ o ∈ s.2.1, ∀ d, o.dst = some d → d < N) ∧ eldersOk s.2.1 = true := by
  have h1 := List.all_eq_true.1 h s hs
  rw [Bool.and_eq_true] at h1
  refine ⟨fun o ho d hd => ?_, h1.2⟩
  have := List.all_eq_true.1 h1.1 o ho
  rw [hd] at this
  exact of_decide_eq_true this
theorem mem_look {α : Type} : ∀ {l : List (Nat × α)} {d : Nat} {v : α}, nodupB (l.map (·.1)) = true → (d, v) ∈ l → look l d = some v
  | (k, v') :: l, d, v, hn, h => by
    obtain ⟨h1, h2⟩ := nodupB_cons hn
    rw [look_cons]
    rcases List.mem_cons.1 h with h | h
    · cases h; rw [if_pos rfl]
    · have : d ≠ k := fun hk => h1 (hk ▸ List.mem_map.2 ⟨(d, v), h, rfl⟩)
      rw [if_neg this]
      exact mem_look h2 h
/-- What a cut point promises. -/
def SoundK (P : Program) (C : Ctx) (f : FuncId) (N : Nat) (F : Fin P) (S : List (Nat × List Oper × Bool × List Item)) (T : Nat → Option (Hint (prods F.cout.tys))) : Prop :=
  ∀ id h x r, T id = some h → h.k x = some r → ∀ (ops : Array Oper) draw k, (id, ops.toList, draw, k) ∈ S → ∀ (a : Act) (w : World) (G : Gh), Inv C (h.c.st x) w N a G → Runs P f (.code (.region id ops draw) :: k) a w (Post C F.cout r)
variable {Γ : FuncId → Option Con}
theorem cond_R {x : Operand} {n : Nat} (h : Inv C st w n a G) {R : Type} {X : Bool → Option R} {r : R} (e : splitB (ev st x).leaf X = some r) : ∃ d, a.eval x = .bool d ∧ X d = some r := by
  have hl := ev_leaf h.tm x
  unfold splitB at e
  split at e
  · rename_i q; exact ⟨true, (hl _ q).2, e⟩
  · rename_i q; exact ⟨false, (hl _ q).2, e⟩
  · rename_i p i q
    have hv : a.eval x = .bool (@decide p i) := (hl _ q).2
    by_cases hp : p
    · rw [if_pos hp] at e
      exact ⟨true, by rw [hv, @decide_eq_true _ i hp], e⟩
    · rw [if_neg hp] at e
      exact ⟨false, by rw [hv, @decide_eq_false _ i hp], e⟩
  · rename_i p i q
    have hv : a.eval x = .bool (!@decide p i) := (hl _ q).2
    by_cases hp : p
    · rw [if_pos hp] at e
      exact ⟨false, by rw [hv, @decide_eq_true _ i hp]; rfl, e⟩
    · rw [if_neg hp] at e
      exact ⟨true, by rw [hv, @decide_eq_false _ i hp]; rfl, e⟩
  · rename_i z q
    have hz : [a.eval x] = [.bool z] := (hl _ q).2
    have hv : a.eval x = .bool z := by simpa using hz
    by_cases hp : (z : Bool) = true
    · rw [if_pos hp] at e
      exact ⟨true, by rw [hv, hp], e⟩
    · rw [if_neg hp] at e
      exact ⟨false, by rw [hv, Bool.eq_false_iff.2 hp], e⟩
  · cases e
theorem goK_sound (hΓ : ΓOk P Γ) (hm : P.follows .mixedOrders = true) {f : FuncId} {fn : Func} {N : Nat} {F : Fin P} {S : List (Nat × List Oper × Bool × List Item)} {T : Nat → Option (Hint (prods F.cout.tys))} (hf : P.funcs[f]? = some fn) (hfx : F.fixed = C.fx) (hres : fn.results.toList = F.res)
    (hS : sitesOk N S = true) (hK : SoundK P C f N F S T) : ∀ (m : Nat) (todo : List Item) {st : St} {a : Act} {w : World} {G : Gh} {r : prods F.cout.tys}, goK Γ F T m todo st = some r → WF S todo → Inv C st w N a G → Runs P f todo a w (Post C F.cout r)
  | 0, _, st, a, w, G, r, e, _, _ => by cases e
  | m + 1, [], st, a, w, G, r, e, _, h => by
    obtain ⟨v, h1, h2⟩ := go_sound h hfx hres (show F.go st = some r from e)
    exact Runs.ends hf h.defers h1 (fun b cs => step_end) h2
  | m + 1, .inBlock id :: k, st, a, w, G, r, e, hw, h => Runs.one (fun b cs => step_inBlock) (goK_sound hΓ hm hf hfx hres hS hK m k e hw h)
  | m + 1, .inLoop b :: k, st, a, w, G, r, e, hw, h => Runs.one (fun b' cs => step_inLoop) (goK_sound hΓ hm hf hfx hres hS hK m (.code b :: .inLoop b :: k) e ⟨hw.1, hw⟩ h)
  | m + 1, .code c :: k, st, a, w, G, r, e, hw, h => by
    cases c with
    | skip => exact Runs.one (fun b cs => step_skip) (goK_sound hΓ hm hf hfx hres hS hK m k e hw.2 h)
    | region id ops draw =>
      have hin : (id, ops.toList, draw, k) ∈ S := hw.1 _ (List.mem_singleton.2 rfl)
      have e' : (match T id with
        | some h => toK h F.fixed st
        | none => regK P Γ ops.toList draw st fun st' => goK Γ F T m k st') = some r := e
      cases hT : T id with
      | some hh =>
        rw [hT] at e'
        simp only at e'
        rw [hfx] at e'
        obtain ⟨x, G', hx, h'⟩ := toK_sound h e'
        exact hK id hh x r hT hx ops draw k hin a w G' h'
      | none =>
        rw [hT] at e'
        simp only at e'
        obtain ⟨hd, hel⟩ := sitesOk_dst hS hin
        obtain ⟨st', h1, h2⟩ := reg_sound (id := id) hΓ hm hd hel h e'
        exact Runs.region h2 fun a' w' ⟨G', h'⟩ => goK_sound hΓ hm hf hfx hres hS hK m k h1 hw.2 h'
    | seq x y =>
      refine Runs.one (fun b cs => step_seq) (goK_sound hΓ hm hf hfx hres hS hK m (.code x :: .code y :: k) e ⟨fun s hs => hw.1 s (List.mem_append_left _ hs), fun s hs => hw.1 s (List.mem_append_right _ hs), hw.2⟩ h)
    | cond c x y =>
      have hx : WF S (.code x :: k) := ⟨fun s hs => hw.1 s (List.mem_append_left _ hs), hw.2⟩
      have hy : WF S (.code y :: k) := ⟨fun s hs => hw.1 s (List.mem_append_right _ hs), hw.2⟩
      have key : ∀ d, a.eval c = .bool d → (match d with | true => goK Γ F T m (.code x :: k) st | false => goK Γ F T m (.code y :: k) st) = some r → Runs P f (.code (.cond c x y) :: k) a w (Post C F.cout r) := by
        intro d hd he
        cases d with
        | true => exact Runs.one (fun b cs => step_cond hd) (goK_sound hΓ hm hf hfx hres hS hK m (.code x :: k) he hx h)
        | false => exact Runs.one (fun b cs => step_cond hd) (goK_sound hΓ hm hf hfx hres hS hK m (.code y :: k) he hy h)
      have e' : (match (ev st c).leaf with
        | some (.q n p i) => @ite _ p i (@both _ (prodsDeq F.cout.tys) (goK Γ F T m (.code x :: k) st) (goK Γ F T m (.code y :: k) st)) (match n with
          | true => goK Γ F T m (.code x :: k) st
          | false => goK Γ F T m (.code y :: k) st)
        | z => splitB z fun d => match d with
          | true => goK Γ F T m (.code x :: k) st
          | false => goK Γ F T m (.code y :: k) st) = some r := e
      split at e'
      · rename_i nn p i hq
        obtain ⟨d, hd, hne⟩ := (ev_leaf h.tm c _ hq).2
        refine key d hd ?_
        by_cases hp : p
        · rw [if_pos hp] at e'
          unfold both at e'
          by_cases hb : goK Γ F T m (.code x :: k) st = goK Γ F T m (.code y :: k) st
          · rw [if_pos hb] at e'
            cases d with
            | true => exact e'
            | false => rw [hb] at e'; exact e'
          · rw [if_neg hb] at e'; cases e'
        · rw [if_neg hp] at e'
          have : d = nn := by
            cases d <;> cases nn <;> first | rfl | exact absurd (hne (by simp)) hp
          rw [this]
          exact e'
      · obtain ⟨d, hd, he⟩ := cond_R h e'
        exact key d hd he
    | block id b => exact Runs.one (fun b' cs => step_block) (goK_sound hΓ hm hf hfx hres hS hK m (.code b :: .inBlock id :: k) e hw h)
    | loop b => exact Runs.one (fun b' cs => step_loop) (goK_sound hΓ hm hf hfx hres hS hK m (.code b :: .inLoop b :: k) e ⟨hw.1, hw⟩ h)
    | exit id =>
      have e' : (match exitTo id k with
        | some k' => goK Γ F T m k' st
        | none => none) = some r := e
      cases hx : exitTo id k with
      | none => rw [hx] at e'; cases e'
      | some k' =>
        rw [hx] at e'
        exact Runs.one (fun b cs => step_exit hx) (goK_sound hΓ hm hf hfx hres hS hK m k' e' (exit_WF hx hw.2) h)
    | ret =>
      obtain ⟨v, h1, h2⟩ := go_sound h hfx hres (show F.go st = some r from e)
      exact Runs.ends hf h.defers h1 (fun b cs => step_ret) h2
    | _ => cases e
  | m + 1, .inRegion _ _ :: _, _, _, _, _, _, e, _, _ => by cases e
  | m + 1, .inScope _ :: _, _, _, _, _, _, e, _, _ => by cases e
  | m + 1, .inRangeFunc _ :: _, _, _, _, _, _, e, _, _ => by cases e
  | m + 1, .endRangeFunc _ :: _, _, _, _, _, _, e, _, _ => by cases e
  | m + 1, .beginRound :: _, _, _, _, _, _, e, _, _ => by cases e
  | m + 1, .call _ _ _ _ :: _, _, _, _, _, _, e, _, _ => by cases e
  | m + 1, .extern _ _ :: _, _, _, _, _, _, e, _, _ => by cases e
end
end Go.Proofs.YtamgbcgfjhpedaaDoor.VE
