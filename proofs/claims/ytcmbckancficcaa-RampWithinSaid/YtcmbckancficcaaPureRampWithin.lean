/- The pure statement of the law RampWithin; what its row says is proved behind it. -/
import Derived.Test.YtcmbckancficcaaVpRamp2
namespace Go.Proofs.Ytcmbckancficcaa.VE
open Go Go.RowKit
set_option linter.unusedVariables false
attribute [local irreducible] wrap64
/-- The row's pure statement. -/
def RampWithin.Pure : Prop := ∀ (a0 : List (Int × Int)) (a1 : Int) (a2 : Int) (a3 : Int) (a4 : List Int), OkV BY (.list 68 (.pair (.int .i64) (.int .i64))) a0 → OkV BY (.int .i64) a1 → OkV BY (.int .i64) a2 → OkV BY (.int .i64) a3 → OkV BY (.list 3 (.int .i64)) a4 → ∃ k, gridhallkeep3_RampWithin.f k a0 a1 a2 a3 a4 = some true
/-- Powers within ranges. -/
def InR (xs : List Pc) (ps : List Int) : Prop := ∀ (j : Nat) x p, xs[j]? = some x → ps[j]? = some p → x.1 ≤ p ∧ p ≤ x.2
structure RngI (xs : List Pc) : Prop where
  r : ∀ x ∈ xs, (0 ≤ x.1 ∧ x.1 ≤ 100000) ∧ (0 ≤ x.2 ∧ x.2 ≤ 100000)
theorem Sch.step {u d y : Int} {l : List Pc} {ps : List Int} (h : Sch u d y l ps) : ∀ (j : Nat) p q, ps[j]? = some p → ps[j + 1]? = some q → q ≤ p + u ∧ p - d ≤ q := by
  induction h with
  | nil => intro j p q h1; simp at h1
  | cons y x p l ps h1 h2 h ih =>
    intro j p' q' e1 e2
    cases j with
    | zero =>
      simp at e1 e2
      subst e1
      cases h with
      | nil => simp at e2
      | cons _ _ q _ _ _ h3 _ =>
        simp at e2
        subst e2
        exact h3
    | succ j => exact ih j p' q' (by simpa using e1) (by simpa using e2)
theorem back_loop {l : List Pc} {b u d : Int} (h : ROk l b u d) : ∀ (n : Nat) (xs : List Pc), xs.length = l.length → (n : Int) + 1 ≤ (xs.length : Int) → RngI xs → (∀ ps, Sch u d b l ps → InR xs ps) → EvP (fun k => ramp_Range.l15 k u d ((n : Int) - 1) xs) (fun r => r.2 = 0 ∧ r.1.length = l.length ∧ ∀ ps, Sch u d b l ps → InR r.1 ps) := by
  have hu := h.u
  have hd := h.d
  have hlen := h.len
  intro n
  induction n with
  | zero =>
    intro xs hx hn hr hin
    exact EvP.step (fun k => ramp_Range.l15_eq k _ _ _ _) (EvP.neg (by omega) (EvP.ret ⟨rfl, hx, hin⟩))
  | succ n ih =>
    intro xs hx hn hr hin
    have hn0 : (((n + 1 : Nat) : Int)) - 1 = (n : Int) := by omega
    have hlt : (n : Int) < (xs.length : Int) := by omega
    have hlt1 : (n : Int) + 1 < (xs.length : Int) := by omega
    have ra := hr.r _ (rY0_mem (i := (n : Int)) (by omega) hlt)
    have rb := hr.r _ (rY0_mem (i := (n : Int) + 1) (by omega) hlt1)
    have m1 := mx_ge (rY0 xs (n : Int)).1 ((rY0 xs ((n : Int) + 1)).1 - u)
    have m2 := mn_le (rY0 xs (n : Int)).2 ((rY0 xs ((n : Int) + 1)).2 + d)
    rw [hn0]
    refine EvP.step (fun k => ramp_Range.l15_eq k _ _ _ _) ?_
    rw [w64 (x := (n : Int) + 1) (by omega) (by omega), w64 (x := (rY0 xs ((n : Int) + 1)).1 - u) (by omega) (by omega), w64 (x := (n : Int) - 1) (by omega) (by omega)]
    have s1 : ((xs.set (n : Int).toNat (mx (rY0 xs (n : Int)).1 ((rY0 xs ((n : Int) + 1)).1 - u), (rY0 xs (n : Int)).2)).length : Int) = (xs.length : Int) := by rw [List.length_set]
    have e1 : rY0 (xs.set (n : Int).toNat (mx (rY0 xs (n : Int)).1 ((rY0 xs ((n : Int) + 1)).1 - u), (rY0 xs (n : Int)).2)) (n : Int) = (mx (rY0 xs (n : Int)).1 ((rY0 xs ((n : Int) + 1)).1 - u), (rY0 xs (n : Int)).2) := by rw [rY0_set _ (by omega) hlt (by omega), if_pos rfl]
    have e2 : rY0 (xs.set (n : Int).toNat (mx (rY0 xs (n : Int)).1 ((rY0 xs ((n : Int) + 1)).1 - u), (rY0 xs (n : Int)).2)) ((n : Int) + 1) = rY0 xs ((n : Int) + 1) := by rw [rY0_set _ (by omega) hlt (by omega), if_neg (by omega)]
    rw [e1, e2, s1, List.set_set, w64 (x := (rY0 xs ((n : Int) + 1)).2 + d) (by omega) (by omega)]
    dsimp only
    refine EvP.pos (by omega) (EvP.pos (by omega) (EvP.pos hlt (EvP.pos (by omega) (EvP.pos hlt1 (EvP.pos (by omega) (EvP.pos hlt (EvP.pos (by omega) (EvP.pos hlt (EvP.pos (by omega) (EvP.pos hlt1 (EvP.pos (by omega) (EvP.pos hlt ?_))))))))))))
    refine ih _ (by rw [List.length_set]; exact hx) (by rw [List.length_set]; omega) ⟨fun x hx' => ?_⟩ (fun ps hs j x p hj hp => ?_)
    · rcases List.mem_or_eq_of_mem_set hx' with hx' | rfl
      · exact hr.r x hx'
      · show (0 ≤ mx _ _ ∧ mx _ _ ≤ 100000) ∧ (0 ≤ mn _ _ ∧ mn _ _ ≤ 100000)
        omega
    · have hin' := hin ps hs
      rw [List.getElem?_set] at hj
      by_cases hjn : (n : Int).toNat = j
      · rw [if_pos hjn, if_pos (by omega)] at hj
        cases hj
        have hjn : j = n := by omega
        subst hjn
        have ha := rY0_some (xs := xs) (i := (j : Int)) (by omega) hlt
        rw [show (j : Int).toNat = j by omega] at ha
        have hb := rY0_some (xs := xs) (i := (j : Int) + 1) (by omega) hlt1
        rw [show ((j : Int) + 1).toNat = j + 1 by omega] at hb
        have k1 := hin' j _ p ha hp
        have hpl := hs.len
        have hq : ps[j + 1]? = some (ps[j + 1]'(by omega)) := List.getElem?_eq_getElem (by omega)
        have k2 := hin' (j + 1) _ _ hb hq
        have k3 := hs.step j p _ hp hq
        show mx _ _ ≤ p ∧ p ≤ mn _ _
        omega
      · rw [if_neg hjn] at hj
        exact hin' j x p hj hp
/-- Where a schedule of the first periods can end. -/
theorem range_loop {l : List Pc} {b u d : Int} (h : ROk l b u d) : ∀ (n : Nat) (i lo hi' : Int) (out : List Pc), 0 ≤ i → (l.length : Int) - i = n → (out.length : Int) = i → (0 ≤ lo ∧ lo ≤ 100000) → (0 ≤ hi' ∧ hi' ≤ 100000) → RngI out → (∀ ps, Sch u d b l ps → ∃ y qs, lo ≤ y ∧ y ≤ hi' ∧ Sch u d y (l.drop i.toNat) qs ∧ qs = ps.drop i.toNat ∧ InR out (ps.take i.toNat)) → EvP (fun k => ramp_Range.l7 k u d l (l.length : Int) i out lo hi') (fun r => (r.2 = 0 ∧ r.1.length = l.length ∧ ∀ ps, Sch u d b l ps → InR r.1 ps) ∨ (r.2 ≠ 0 ∧ r.1 = [] ∧ ∀ ps, Sch u d b l ps → False)) := by
  have hu := h.u
  have hd := h.d
  have hlen := h.len
  intro n
  induction n with
  | zero =>
    intro i lo hi' out h0 h1 h2 hlo hhi hr hin
    refine EvP.step (fun k => ramp_Range.l7_eq k _ _ _ _ _ _ _ _) (EvP.neg (by omega) ?_)
    rw [w64 (x := (out.length : Int) - 2) (by omega) (by omega)]
    have hin2 : ∀ ps, Sch u d b l ps → InR out ps := fun ps hs => by
      obtain ⟨y, qs, _, _, _, _, k⟩ := hin ps hs
      have hpl := hs.len
      rwa [List.take_of_length_le (by omega)] at k
    by_cases hz : out.length = 0
    · have ho : out = [] := List.eq_nil_of_length_eq_zero hz
      subst ho
      refine EvP.step (fun k => ramp_Range.l15_eq k _ _ _ _) (EvP.neg (by simp) (EvP.ret (Or.inl ⟨rfl, by simp at h2; simp; omega, hin2⟩)))
    · have := back_loop h (out.length - 1) out (by omega) (by omega) hr hin2
      rw [show (((out.length - 1 : Nat) : Int)) - 1 = (out.length : Int) - 2 by omega] at this
      exact this.mono (fun r hr => Or.inl hr)
  | succ n ih =>
    intro i lo hi' out h0 h1 h2 hlo hhi hr hin
    have hlt : i < (l.length : Int) := by omega
    have hx := h.lim _ (rY0_mem h0 hlt)
    have m1 := mx_ge (rY0 l i).1 (lo - d)
    have m2 := mn_le (rY0 l i).2 (hi' + u)
    refine EvP.step (fun k => ramp_Range.l7_eq k _ _ _ _ _ _ _ _) (EvP.pos hlt (EvP.pos h0 (EvP.pos hlt ?_)))
    rw [w64 (x := lo - d) (by omega) (by omega), w64 (x := hi' + u) (by omega) (by omega), w64 (x := i + 1) (by omega) (by omega)]
    rw [rY0_drop h0 hlt] at hin
    generalize hxx : rY0 l i = x at *
    refine EvP.ite (fun hc => EvP.ret (Or.inr ⟨by show (8 : Int) ≠ 0; decide, rfl, fun ps hs => ?_⟩)) (fun hc => EvP.pos (by rw [List.length_singleton]; omega) ?_)
    · obtain ⟨y, qs, y0, y1, hq, _, _⟩ := hin ps hs
      cases hq with
      | cons _ _ p _ _ a b _ => omega
    · refine ih (i + 1) _ _ _ (by omega) (by omega) (by rw [List.length_append, List.length_singleton]; omega) (by omega) (by omega) ⟨fun z hz => ?_⟩ (fun ps hs => ?_)
      · rcases List.mem_append.1 hz with hz | hz
        · exact hr.r z hz
        · rw [List.mem_singleton] at hz; subst hz
          show (0 ≤ mx _ _ ∧ mx _ _ ≤ 100000) ∧ (0 ≤ mn _ _ ∧ mn _ _ ≤ 100000)
          omega
      · obtain ⟨y, qs, y0, y1, hq, eq, k⟩ := hin ps hs
        cases hq with
        | cons _ _ p _ qs' a b hq' =>
          have hpl := hs.len
          have hip : i.toNat < ps.length := by omega
          have e := List.drop_eq_getElem_cons hip
          rw [← eq] at e
          injection e with e1 e2
          have ei : (i + 1).toNat = i.toNat + 1 := by omega
          refine ⟨p, qs', by omega, by omega, hq', by rw [ei]; exact e2, fun j z q hj hq'' => ?_⟩
          rw [ei] at hq''
          rw [List.getElem?_take] at hq''
          split at hq''
          · rename_i hji
            rcases Nat.lt_or_ge j out.length with hlt' | hge
            · rw [List.getElem?_append_left hlt'] at hj
              refine k j z q hj ?_
              rw [List.getElem?_take, if_pos (by omega)]
              exact hq''
            · rw [List.getElem?_append_right hge] at hj
              have hj0 : j = i.toNat := by omega
              subst hj0
              rw [show i.toNat - out.length = 0 by omega] at hj
              simp at hj
              subst hj
              rw [List.getElem?_eq_getElem hip] at hq''
              cases hq''
              rw [← e1]
              show mx _ _ ≤ p ∧ p ≤ mn _ _
              omega
          · cases hq''
theorem range_ev (l : List Pc) (b u d : Int) : EvP (fun k => ramp_Range.f k l b u d) (fun r => (ROk l b u d ∧ r.2 = 0 ∧ r.1.length = l.length ∧ ∀ ps, Sch u d b l ps → InR r.1 ps) ∨ (r.2 ≠ 0 ∧ r.1 = [] ∧ (ROk l b u d → ∀ ps, Sch u d b l ps → False))) := by
  unfold ramp_Range.f
  refine EvP.bind (rcheck_ev l b u d) (fun e he => EvP.ite (fun hz => ?_) (fun hz => EvP.ret (Or.inr ⟨hz, rfl, fun h => absurd (he.2 h) hz⟩)))
  have h := he.1 hz
  refine (range_loop h l.length 0 b b [] (by omega) (by omega) rfl h.b h.b ⟨fun x hx => (by cases hx)⟩ (fun ps hs => ⟨b, ps, Int.le_refl _, Int.le_refl _, hs, rfl, fun j x p hj => by simp at hj⟩)).mono (fun r hr => ?_)
  rcases hr with hr | ⟨h1, h2, h3⟩
  · exact Or.inl ⟨h, hr⟩
  · exact Or.inr ⟨h1, h2, fun _ => h3⟩
theorem in_loop (xs : List Pc) (ps : List Int) (hl : xs.length = ps.length) (h24 : ps.length ≤ 1000) (hin : InR xs ps) : ∀ (n : Nat) (i : Int), 0 ≤ i → (ps.length : Int) - i = n → EvP (fun k => gridhallkeep3_RampWithin.l14 k xs 0 0 ps (ps.length : Int) i) (fun r => r = true) := by
  intro n
  induction n with
  | zero =>
    intro i h0 h1
    exact EvP.step (fun k => gridhallkeep3_RampWithin.l14_eq k _ _ _ _ _ _) (EvP.neg (by omega) (EvP.pos rfl (EvP.ret rfl)))
  | succ n ih =>
    intro i h0 h1
    have hlt : i < (ps.length : Int) := by omega
    have hlx : i < (xs.length : Int) := by omega
    have k := hin _ _ _ (rY0_some h0 hlx) (rI64_some h0 hlt)
    refine EvP.step (fun k => gridhallkeep3_RampWithin.l14_eq k _ _ _ _ _ _) (EvP.pos hlt (EvP.pos h0 (EvP.pos hlt (EvP.neg (by omega) (EvP.pos h0 (EvP.pos hlx (EvP.neg (by omega) (EvP.pos h0 (EvP.pos hlx (EvP.neg (by omega) ?_))))))))))
    rw [w64 (x := i + 1) (by omega) (by omega)]
    exact ih (i + 1) (by omega) (by omega)
theorem dist_nonneg : ∀ (ts ps : List Int), 0 ≤ dist ts ps
  | [], ps => Int.le_refl _
  | _ :: _, [] => Int.le_refl _
  | t :: ts, p :: ps => by
    have := dist_nonneg ts ps
    have := mx_ge (p - t) (t - p)
    show 0 ≤ mx (p - t) (t - p) + dist ts ps
    omega
theorem dist_self : ∀ (ts : List Int), dist ts ts = 0
  | [] => rfl
  | t :: ts => by
    have := mx_ge (t - t) (t - t)
    show mx (t - t) (t - t) + dist ts ts = 0
    rw [dist_self ts]; omega
theorem dist_eq : ∀ (ts ps : List Int), ts.length = ps.length → dist ts ps = 0 → ts = ps
  | [], [], _, _ => rfl
  | [], _ :: _, h, _ => by simp at h
  | _ :: _, [], h, _ => by simp at h
  | t :: ts, p :: ps, h, hd => by
    have h0 := dist_nonneg ts ps
    have m := mx_ge (p - t) (t - p)
    have hd : mx (p - t) (t - p) + dist ts ps = 0 := hd
    have e1 : t = p := by omega
    rw [dist_eq ts ps (by simpa using h) (by omega), e1]
theorem Sch.rng' {u d y : Int} {l : List Pc} {ps : List Int} (h : Sch u d y l ps) (hl : ∀ x ∈ l, 0 ≤ x.1 ∧ x.1 ≤ x.2 ∧ x.2 ≤ 100000) : ∀ p ∈ ps, 0 ≤ p ∧ p ≤ 100000 := by
  induction h with
  | nil => intro p hp; cases hp
  | cons y x p l ps h1 h2 _ ih =>
    intro q hq
    rcases List.mem_cons.1 hq with rfl | hq
    · have := hl x (by simp); omega
    · exact ih (fun z hz => hl z (by simp [hz])) q hq
theorem Pure.RampWithin : RampWithin.Pure := by
  intro l b u d ps h0 h1 h2 h3 h4
  apply EvP.rounds
  unfold gridhallkeep3_RampWithin.f
  refine EvP.bindE feas0_ev (EvP.pos rfl (EvP.pos rfl (EvP.bindE near_ev (EvP.pos rfl (EvP.bind (range_ev l b u d) (fun x hx => EvP.bind (feas_ev l b u d ps) (fun f hf => EvP.bind (nearest_ev l b u d ps) (fun r hr => ?_))))))))
  rcases hf with ⟨hR, f2, f3⟩ | ⟨f1, f2, _⟩
  case inr => exact EvP.neg f2 (EvP.ret (by rw [f1]; rfl))
  refine EvP.pos f2 ?_
  rcases hx with ⟨_, x2, xl, xin⟩ | ⟨x2, x1, xno⟩
  case inr =>
    refine EvP.neg x2 (EvP.pos (by rw [x1]; rfl) (EvP.ret ?_))
    have : ¬ f.1 = true := fun h => xno hR ps (f3.1 h)
    simp [this]
  refine EvP.pos x2 (EvP.ite (fun hs => ?_) (fun hs => ?_))
  · have hs := f3.1 hs
    have hpl := hs.len
    have hlen := hR.len
    rcases hr with ⟨_, _, _, hr⟩ | ⟨hn, _⟩
    case inr => exact absurd ⟨hR, hpl, hs.rng' hR.lim⟩ hn
    cases hr with
    | none e _ hno => exact (hno ps hs).elim
    | ok xs sum hxs hd hm =>
      have := hm ps hs
      rw [dist_self] at this
      have := dist_nonneg ps xs
      have hz : sum = 0 := by omega
      subst hz
      exact in_loop x.1 ps (by omega) (by omega) (xin ps hs) ps.length 0 (by omega) (by omega)
  · refine EvP.ite (fun hz => EvP.ret (decide_eq_true ?_)) (fun _ => EvP.ret rfl)
    rcases hr with ⟨_, hpl, _, hr⟩ | ⟨_, _, _, r3⟩
    case inr => exact absurd hz r3
    cases hr with
    | none e he _ => exact absurd hz he
    | ok xs sum hxs hd hm =>
      have h0 := dist_nonneg ps xs
      show 0 < sum
      rcases Int.lt_or_le 0 sum with h | h
      · exact h
      · have e := dist_eq ps xs (by rw [hpl, hxs.len]) (by omega)
        subst e
        exact absurd (f3.2 hxs) hs
end Go.Proofs.Ytcmbckancficcaa.VE
