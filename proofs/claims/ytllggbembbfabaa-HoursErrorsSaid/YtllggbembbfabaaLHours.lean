/- What the printed functions Check, Errors and Band of package hours answer, and the law HoursErrors over numbers and lists. -/
import Derived.Test.YtllggbembbfabaaEvp
import Derived.Test.YtllggbembbfabaaStateHoursErrors
import Derived.Test.YtllggbembbfabaaPx3
import Derived.Test.YtllggbembbfabaaPx4
import Derived.Test.YtllggbembbfabaaPx5
import Derived.Test.YtllggbembbfabaaPx6
import Derived.Test.YtllggbembbfabaaPx7
namespace Go.Proofs.Ytllggbembbfabaa.P
set_option linter.unusedVariables false
set_option linter.unusedSimpArgs false
open Go.RowKit Go.Proofs.YtllggbembbfabaaW.PrintWords Go.Proofs.YtllggbembbfabaaW.PrintMore Go.Proofs.Ytllggbembbfabaa.Opn Go.Proofs.Ytllggbembbfabaa.Evp

abbrev RLim := S30
def SmallL (l : List Int) : Prop := ∀ x ∈ l, -100000 ≤ x ∧ x ≤ 100000
theorem dropI {l : List Int} {i : Int} (h0 : 0 ≤ i) (h1 : i < (l.length : Int)) : l.drop i.toNat = rd l i :: l.drop (i + 1).toNat := drop_getD 0 h0 h1

theorem hours_Check_loop (l : List Int) (hl : l.length ≤ 24) : ∀ (d : Nat) (i : Int), 0 ≤ i → i ≤ (l.length : Int) → (l.length : Int) - i = d →
    EvP (fun k => hours_Check.l0 k l (l.length : Int) i) (fun e => 0 ≤ e ∧ e ≤ 4 ∧ (e = 0 ↔ SmallL (l.drop i.toNat))) := by
  intro d
  induction d with
  | zero =>
    intro i h0 h1 hd
    refine EvP.step (fun k => by rw [hours_Check.l0]) ?_
    refine EvP.neg (by omega) (EvP.ret ⟨by omega, by omega, ?_⟩)
    rw [drop_end (by omega)]
    simp [SmallL]
  | succ d ih =>
    intro i h0 h1 hd
    refine EvP.step (fun k => by rw [hours_Check.l0]) ?_
    refine EvP.pos (by omega) (EvP.pos h0 (EvP.pos (by omega) ?_))
    rw [dropI h0 (by omega)]
    refine EvP.ite (fun c => EvP.ret ⟨by omega, by omega, fun h => by omega, fun h => ?_⟩) (fun c1 => EvP.ite (fun c => EvP.ret ⟨by omega, by omega, fun h => by omega, fun h => ?_⟩) (fun c2 => ?_))
    · have := h (rd l i) List.mem_cons_self
      omega
    · have := h (rd l i) List.mem_cons_self
      omega
    · rw [w64 (by omega) (by omega)]
      refine (ih (i + 1) (by omega) (by omega) (by omega)).mono fun e he => ⟨he.1, he.2.1, he.2.2.trans ?_⟩
      constructor
      · intro h x hx
        rcases List.mem_cons.1 hx with rfl | hx
        · omega
        · exact h x hx
      · intro h x hx
        exact h x (List.mem_cons_of_mem _ hx)
theorem hours_Check_some (l : List Int) : ∃ e, Ev (fun k => hours_Check.f k l) e ∧ 0 ≤ e ∧ e ≤ 4 ∧ (e = 0 ↔ l.length ≤ 24 ∧ SmallL l) := by
  have h : EvP (fun k => hours_Check.f k l) (fun e => 0 ≤ e ∧ e ≤ 4 ∧ (e = 0 ↔ l.length ≤ 24 ∧ SmallL l)) := by
    unfold hours_Check.f
    refine EvP.ite (fun c => EvP.ret ⟨by omega, by omega, fun h => by omega, fun h => by omega⟩) (fun c => ?_)
    refine (hours_Check_loop l (by omega) l.length 0 (by omega) (by omega) (by omega)).mono fun e he => ⟨he.1, he.2.1, he.2.2.trans ?_⟩
    exact ⟨fun h => ⟨by omega, h⟩, fun h => h.2⟩
  exact h

/-! errors: the greatest error, the sum, the squares -/
theorem sq_bound {d : Int} (h1 : -200000 ≤ d) (h2 : d ≤ 200000) : d ≤ d * d ∧ -d ≤ d * d ∧ 0 ≤ d * d ∧ d * d ≤ 40000000000 := by
  have h := mul_abs (a := d) (b := d) (A := 200000) (B := 200000) h1 h2 h1 h2
  have h0 : 0 ≤ d * d := by
    rcases Int.le_total 0 d with h | h
    · exact Int.mul_nonneg h h
    · exact Int.mul_nonneg_of_nonpos_of_nonpos h h
  refine ⟨?_, ?_, h0, by omega⟩
  · rcases (show 0 < d ∨ d ≤ 0 by omega) with h | h
    · have := Int.mul_nonneg (a := d) (b := d - 1) (by omega) (by omega)
      rw [Int.mul_sub] at this
      omega
    · omega
  · rcases (show d < 0 ∨ 0 ≤ d by omega) with h | h
    · have := Int.mul_nonneg_of_nonpos_of_nonpos (a := d) (b := d + 1) (by omega) (by omega)
      rw [Int.mul_add] at this
      omega
    · omega
theorem hours_Errors_loop (f a : List Int) (hl : f.length = a.length) (h24 : a.length ≤ 24) (hf : SmallL f) (ha : SmallL a) : ∀ (d : Nat) (i most sum square : Int), 0 ≤ i → i ≤ (a.length : Int) → (a.length : Int) - i = d →
    0 ≤ most → most ≤ 200000 → most ≤ square → sum ≤ square → -sum ≤ square → -(200000 * i) ≤ sum → sum ≤ 200000 * i → square ≤ 40000000000 * i → (∀ j, 0 ≤ j → j < i → rd a j - rd f j ≤ most ∧ rd f j - rd a j ≤ most) →
    EvP (fun k => hours_Errors.l0 k f most sum square a (a.length : Int) i) (fun r => r.2.2.2 = 0 ∧ 0 ≤ r.1 ∧ r.1 ≤ 200000 ∧ r.1 ≤ r.2.2.1 ∧ r.2.1 ≤ r.2.2.1 ∧ -r.2.1 ≤ r.2.2.1 ∧ -10000000 ≤ r.2.1 ∧ r.2.1 ≤ 10000000 ∧ ∀ j, 0 ≤ j → j < (a.length : Int) → rd a j - rd f j ≤ r.1 ∧ rd f j - rd a j ≤ r.1) := by
  intro d
  induction d with
  | zero =>
    intro i most sum square h0 h1 hd g1 g2 g3 g4 g5 g6 g7 g8 g9
    refine EvP.step (fun k => by rw [hours_Errors.l0]) ?_
    refine EvP.neg (by omega) (EvP.ret ⟨rfl, g1, g2, g3, g4, g5, by simp only; omega, by simp only; omega, fun j hj0 hj1 => g9 j hj0 (by omega)⟩)
  | succ d ih =>
    intro i most sum square h0 h1 hd g1 g2 g3 g4 g5 g6 g7 g8 g9
    refine EvP.step (fun k => by rw [hours_Errors.l0]) ?_
    refine EvP.pos (by omega) (EvP.pos h0 (EvP.pos (by omega) (EvP.pos (by omega) ?_)))
    have hx := hf (rd f i) (rd_mem h0 (by omega))
    have hy := ha (rd a i) (rd_mem h0 (by omega))
    have hs := sq_bound (d := rd a i - rd f i) (by omega) (by omega)
    rw [w64 (x := rd a i - rd f i) (by omega) (by omega), w64 (x := -(rd a i - rd f i)) (by omega) (by omega), w64 (x := sum + (rd a i - rd f i)) (by omega) (by omega), w64 (x := (rd a i - rd f i) * (rd a i - rd f i)) (by omega) (by omega), w64 (x := square + (rd a i - rd f i) * (rd a i - rd f i)) (by omega) (by omega), w64 (x := i + 1) (by omega) (by omega)]
    have m1 := mx_ge most (rd a i - rd f i)
    have m2 := mx_ge (mx most (rd a i - rd f i)) (-(rd a i - rd f i))
    refine ih (i + 1) _ _ _ (by omega) (by omega) (by omega) (by omega) (by omega) (by omega) (by omega) (by omega) (by omega) (by omega) (by omega) (fun j hj0 hj1 => ?_)
    by_cases hj : j = i
    · subst hj; omega
    · have := g9 j hj0 (by omega); omega

/-! the band -/
def bandOf (n most : Int) : RLim := ⟨mx 0 (n - most), mn 100000 (mx 0 (n + most))⟩
theorem ramp_Check_loop (l : List RLim) (hl : l.length ≤ 24) (hv : ∀ x ∈ l, 0 ≤ x.f0 ∧ x.f0 ≤ x.f1 ∧ x.f1 ≤ 100000) : ∀ (d : Nat) (i : Int), 0 ≤ i → i ≤ (l.length : Int) → (l.length : Int) - i = d → Ev (fun k => ramp_Check.l0 k 0 0 0 l (l.length : Int) i) 0 := by
  intro d
  induction d with
  | zero =>
    intro i h0 h1 hd
    refine Ev.step (fun k => by rw [ramp_Check.l0]) ?_
    refine Ev.neg (by omega) ?_
    iterate 6 (refine Ev.neg (by omega) ?_)
    exact Ev.now _
  | succ d ih =>
    intro i h0 h1 hd
    refine Ev.step (fun k => by rw [ramp_Check.l0]) ?_
    have hx := hv (rd_T30 l i) (getD_mem h0 (by omega))
    refine Ev.pos (by omega) (Ev.pos h0 (Ev.pos (by omega) (Ev.neg (by omega) (Ev.neg (by omega) (Ev.neg (by omega) ?_)))))
    rw [w64 (by omega) (by omega)]
    exact ih (i + 1) (by omega) (by omega) (by omega)
theorem hours_Band_loop (f : List Int) (hl : f.length ≤ 24) (hf : SmallL f) (most : Int) (h1 : 0 ≤ most) (h2 : most ≤ 100000) : ∀ (d : Nat) (i : Int) (out : List RLim), 0 ≤ i → i ≤ (f.length : Int) → (f.length : Int) - i = d → (out.length : Int) = i →
    (∀ x ∈ out, 0 ≤ x.f0 ∧ x.f0 ≤ x.f1 ∧ x.f1 ≤ 100000) → Ev (fun k => hours_Band.l0 k most out f (f.length : Int) i) (out ++ (f.drop i.toNat).map (bandOf · most), 0) := by
  intro d
  induction d with
  | zero =>
    intro i out h0 h1 hd ho hv
    refine Ev.step (fun k => by rw [hours_Band.l0]) ?_
    rw [drop_end (by omega), List.map_nil, List.append_nil]
    refine Ev.neg (by omega) (Ev.bind (a := 0) ?_ (Ev.now _))
    unfold ramp_Check.f
    exact Ev.neg (by omega) (ramp_Check_loop out (by omega) hv out.length 0 (by omega) (by omega) (by omega))
  | succ d ih =>
    intro i out h0 h1 hd ho hv
    refine Ev.step (fun k => by rw [hours_Band.l0]) ?_
    refine Ev.pos (by omega) (Ev.pos h0 (Ev.pos (by omega) (Ev.pos (by omega) ?_)))
    have hx := hf (rd f i) (rd_mem h0 (by omega))
    rw [dropI h0 (by omega), w64 (x := rd f i - most) (by omega) (by omega), w64 (x := rd f i + most) (by omega) (by omega), w64 (x := i + 1) (by omega) (by omega)]
    have h := ih (i + 1) (out ++ [bandOf (rd f i) most]) (by omega) (by omega) (by omega) (by simp; omega) (fun x hx' => by
      rcases List.mem_append.1 hx' with h | h
      · exact hv x h
      · rw [List.mem_singleton.1 h]
        unfold bandOf mx mn
        simp only
        split <;> split <;> (try split) <;> omega)
    rw [List.map_cons]
    rw [List.append_assoc] at h
    exact h
theorem hours_Band_in (f : List Int) (hl : f.length ≤ 24) (hf : SmallL f) (hc : Ev (fun k => hours_Check.f k f) 0) (most : Int) (h1 : 0 ≤ most) (h2 : most ≤ 100000) : Ev (fun k => hours_Band.f k f most) (f.map (bandOf · most), 0) := by
  unfold hours_Band.f
  refine Ev.bind hc (Ev.pos rfl (Ev.neg (by omega) ?_))
  rw [decide_eq_false (by omega)]
  refine Ev.step (fun k => by rw [hours_Band.j0]) (Ev.neg (by simp) ?_)
  have := hours_Band_loop f hl hf most h1 h2 f.length 0 [] (by omega) (by omega) (by omega) (by simp) (fun x h => by cases h)
  simpa using this

theorem errors_last (a : List Int) (l : List RLim) (hl : a.length ≤ 24) (hll : l.length = a.length) (hv : ∀ j, 0 ≤ j → j < (a.length : Int) → 0 ≤ rd a j → (rd_T30 l j).f0 ≤ rd a j ∧ rd a j ≤ (rd_T30 l j).f1) : ∀ (d : Nat) (i : Int), 0 ≤ i → i ≤ (a.length : Int) → (a.length : Int) - i = d →
    Ev (fun k => gridhallkeep3_HoursErrors.l0 k l a (a.length : Int) i) true := by
  intro d
  induction d with
  | zero =>
    intro i h0 h1 hd
    refine Ev.step (fun k => by rw [gridhallkeep3_HoursErrors.l0]) ?_
    exact Ev.neg (by omega) (Ev.now _)
  | succ d ih =>
    intro i h0 h1 hd
    refine Ev.step (fun k => by rw [gridhallkeep3_HoursErrors.l0]) ?_
    refine Ev.pos (by omega) (Ev.pos h0 (Ev.pos (by omega) ?_))
    have h := ih (i + 1) (by omega) (by omega) (by omega)
    rw [w64 (by omega) (by omega)]
    refine Ev.ite (fun c => ?_) (fun c => h)
    have hx := hv i h0 (by omega) (by omega)
    exact Ev.pos (by omega) (Ev.neg (by omega) (Ev.neg (by omega) h))

theorem hoursErrors_pure : HoursErrors.Pure := by
  intro f a _ _
  obtain ⟨ef, hef, _, _, hefe⟩ := hours_Check_some f
  obtain ⟨ea, hea, _, _, heae⟩ := hours_Check_some a
  refine Ev.rounds ?_
  unfold gridhallkeep3_HoursErrors.f
  have t1 : Ev (fun k => hours_Errors.f k [5, 5] [7, 4]) (2, 1, 5, 0) := Ev.of (fun k => hours_Errors.mono _ _ k) (k := 10) (by decide +kernel)
  refine Ev.bind t1 (Ev.pos rfl (Ev.pos rfl (Ev.pos rfl ?_)))
  refine Ev.step (fun k => by rw [gridhallkeep3_HoursErrors.j0]) (Ev.neg (by decide) ?_)
  have t2 : Ev (fun k => hours_Band.f k [5] 2) ([bandOf 5 2], 0) := by
    refine hours_Band_in [5] (by simp) (fun x hx => by simp at hx; omega) (Ev.of (fun k => hours_Check.mono _ k) (k := 5) (by decide +kernel)) 2 (by omega) (by omega)
  refine Ev.bind t2 (Ev.pos rfl (Ev.pos rfl (Ev.pos (by decide) ?_)))
  refine Ev.step (fun k => by rw [gridhallkeep3_HoursErrors.j1]) (Ev.neg (by decide) ?_)
  -- the errors themselves
  have bad : ∀ e : Int, e ≠ 0 → Ev (fun k => hours_Errors.f k f a) (0, 0, 0, e) → Ev (fun k => (hours_Errors.f k f a).bind fun bt132 => (if bt132.2.2.2 = 0 then (if bt132.1 > bt132.2.2.1 then (gridhallkeep3_HoursErrors.j2 k f a bt132.1 true) else (if bt132.2.1 > bt132.2.2.1 then (gridhallkeep3_HoursErrors.j2 k f a bt132.1 true) else (gridhallkeep3_HoursErrors.j2 k f a bt132.1 (decide ((wrap64 (-bt132.2.1)) > bt132.2.2.1))))) else (if bt132.1 = 0 then (if bt132.2.1 = 0 then (some (bt132.2.2.1 == 0)) else (some false)) else (some false)))) true := by
    intro e he h
    exact Ev.bind h (Ev.neg he (Ev.pos rfl (Ev.pos rfl (Ev.now _))))
  by_cases cf : ef = 0
  · by_cases ca : ea = 0
    · subst cf; subst ca
      obtain ⟨f24, hf⟩ := hefe.1 rfl
      obtain ⟨a24, ha⟩ := heae.1 rfl
      by_cases cl : f.length = a.length
      · have h : EvP (fun k => hours_Errors.f k f a) (fun r => r.2.2.2 = 0 ∧ 0 ≤ r.1 ∧ r.1 ≤ 200000 ∧ r.1 ≤ r.2.2.1 ∧ r.2.1 ≤ r.2.2.1 ∧ -r.2.1 ≤ r.2.2.1 ∧ -10000000 ≤ r.2.1 ∧ r.2.1 ≤ 10000000 ∧ ∀ j, 0 ≤ j → j < (a.length : Int) → rd a j - rd f j ≤ r.1 ∧ rd f j - rd a j ≤ r.1) := by
          unfold hours_Errors.f
          refine EvP.bindE hef (EvP.pos rfl (EvP.bindE hea (EvP.pos rfl (EvP.pos (by omega) ?_))))
          exact hours_Errors_loop f a cl a24 hf ha a.length 0 0 0 0 (by omega) (by omega) (by omega) (by omega) (by omega) (by omega) (by omega) (by omega) (by omega) (by omega) (by omega) (fun j h0 h1 => by omega)
        obtain ⟨⟨most, sum, square, e⟩, hr, g0, g1, g2, g3, g4, g5, g6, g7, g8⟩ := h
        simp only at g0 g1 g2 g3 g4 g5 g6 g7 g8
        refine Ev.bind hr (Ev.pos g0 (Ev.neg (by simp only; omega) (Ev.neg (by simp only; omega) ?_)))
        simp only
        rw [w64 (by omega) (by omega), decide_eq_false (by omega)]
        refine Ev.step (fun k => by rw [gridhallkeep3_HoursErrors.j2]) (Ev.neg (by simp) ?_)
        have hm := mn_le most 100000
        refine Ev.bind (hours_Band_in f f24 hf hef (mn most 100000) (by omega) (by omega)) (Ev.pos rfl ?_)
        refine Ev.step (f := fun k => if decide (most > 100000) = true then some true else gridhallkeep3_HoursErrors.l0 k (f.map (bandOf · (mn most 100000))) a (a.length : Int) 0) (fun k => by rw [gridhallkeep3_HoursErrors.j3]; rfl) (Ev.ite (fun _ => Ev.now _) (fun c => ?_))
        have hmost : mn most 100000 = most := by simp at c; omega
        refine errors_last a _ a24 (by simp; exact cl) (fun j h0 h1 hp => ?_) a.length 0 (by omega) (by omega) (by omega)
        have hj := g8 j h0 h1
        have e1 : rd_T30 (f.map (bandOf · (mn most 100000))) j = bandOf (rd f j) most := by
          unfold rd_T30 rd
          rw [hmost, List.getD_eq_getElem?_getD, List.getElem?_map, List.getD_eq_getElem?_getD, List.getElem?_eq_getElem (by omega)]
          rfl
        have hy := ha (rd a j) (rd_mem h0 h1)
        show (rd_T30 (f.map (bandOf · (mn most 100000))) j).f0 ≤ rd a j ∧ rd a j ≤ (rd_T30 (f.map (bandOf · (mn most 100000))) j).f1
        rw [e1]
        unfold bandOf mx mn
        simp only
        split <;> split <;> (try split) <;> omega
      · refine bad 3 (by omega) ?_
        unfold hours_Errors.f
        exact Ev.bind hef (Ev.pos rfl (Ev.bind hea (Ev.pos rfl (Ev.neg (by omega) (Ev.now _)))))
    · refine bad ea ca ?_
      subst cf
      unfold hours_Errors.f
      exact Ev.bind hef (Ev.pos rfl (Ev.bind hea (Ev.neg ca (Ev.now _))))
  · refine bad ef cf ?_
    unfold hours_Errors.f
    exact Ev.bind hef (Ev.neg cf (Ev.now _))
end Go.Proofs.Ytllggbembbfabaa.P
