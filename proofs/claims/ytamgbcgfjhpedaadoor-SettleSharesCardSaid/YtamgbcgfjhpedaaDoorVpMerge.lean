/- Stable merging and sorting of lists (lemmas; no statement is proved here). -/
import Derived.Test.YtamgbcgfjhpedaaDoorVpEv
namespace Go.Proofs.YtamgbcgfjhpedaaDoor.Srt
set_option linter.unusedVariables false
set_option linter.unusedSimpArgs false
section
variable {α : Type}
/-- A strict weak order. -/
structure SWO (lt : α → α → Bool) : Prop where
  asymm : ∀ {x y}, lt x y = true → lt y x = false
  neg : ∀ {x y z}, lt x y = false → lt y z = false → lt x z = false
theorem SWO.irrefl {lt : α → α → Bool} (h : SWO lt) (x : α) : lt x x = false := by
  cases hx : lt x x with
  | false => rfl
  | true => have := h.asymm hx; rw [hx] at this; cases this
/-- x < y ≤ z -/
theorem SWO.lt_le {lt : α → α → Bool} (h : SWO lt) {x y z : α} (h1 : lt x y = true) (h2 : lt z y = false) : lt x z = true := by
  cases hx : lt x z with
  | true => rfl
  | false => have := h.neg hx h2; rw [h1] at this; cases this
/-- x ≤ y < z -/
theorem SWO.le_lt {lt : α → α → Bool} (h : SWO lt) {x y z : α} (h1 : lt y x = false) (h2 : lt y z = true) : lt x z = true := by
  cases hx : lt x z with
  | true => rfl
  | false => have := h.neg h1 hx; rw [h2] at this; cases this
theorem SWO.trans {lt : α → α → Bool} (h : SWO lt) {x y z : α} (h1 : lt x y = true) (h2 : lt y z = true) : lt x z = true := h.lt_le h1 (h.asymm h2)
variable (lt : α → α → Bool)
/-- The left list's elements go first where neither is less. -/
def mrg : List α → List α → List α
  | [], r => r
  | x :: l, [] => x :: l
  | x :: l, y :: r => if lt y x = true then y :: mrg (x :: l) r else x :: mrg l (y :: r)
termination_by l r => l.length + r.length
theorem mrg_nil_left (r : List α) : mrg lt [] r = r := by unfold mrg; rfl
theorem mrg_nil_right (l : List α) : mrg lt l [] = l := by cases l <;> unfold mrg <;> rfl
theorem mrg_cons (x : α) (l : List α) (y : α) (r : List α) : mrg lt (x :: l) (y :: r) = if lt y x = true then y :: mrg lt (x :: l) r else x :: mrg lt l (y :: r) := by
  conv => lhs; unfold mrg
variable {lt}
theorem mrg_assoc (h : SWO lt) : ∀ (n : Nat) (a b c : List α), a.length + b.length + c.length ≤ n → mrg lt (mrg lt a b) c = mrg lt a (mrg lt b c)
  | _, [], b, c, _ => by rw [mrg_nil_left, mrg_nil_left]
  | _, a :: a', [], c, _ => by rw [mrg_nil_right, mrg_nil_left]
  | _, a :: a', b :: b', [], _ => by rw [mrg_nil_right, mrg_nil_right]
  | 0, a :: a', b :: b', c :: c', hn => by simp at hn
  | n + 1, a :: a', b :: b', c :: c', hn => by
    simp only [List.length_cons] at hn
    have i1 := mrg_assoc h n (a :: a') (b :: b') c' (by simp only [List.length_cons]; omega)
    have i2 := mrg_assoc h n (a :: a') b' (c :: c') (by simp only [List.length_cons]; omega)
    have i3 := mrg_assoc h n a' (b :: b') (c :: c') (by simp only [List.length_cons]; omega)
    rw [mrg_cons lt a a' b b', mrg_cons lt b b' c c']
    rw [mrg_cons lt a a' b b'] at i1
    rw [mrg_cons lt b b' c c'] at i3
    cases hba : lt b a with
    | true =>
      rw [hba, if_pos rfl] at i1
      rw [if_pos rfl, mrg_cons]
      cases hcb : lt c b with
      | true =>
        rw [if_pos rfl, if_pos rfl, mrg_cons, if_pos (h.trans hcb hba), i1]
      | false =>
        rw [if_neg (by simp), if_neg (by simp), mrg_cons, if_pos hba, i2]
    | false =>
      rw [hba, if_neg (by simp)] at i1
      rw [if_neg (by simp), mrg_cons]
      cases hca : lt c a with
      | true =>
        have hcb : lt c b = true := h.lt_le hca hba
        rw [if_pos rfl, hcb, if_pos rfl, mrg_cons, if_pos hca, i1]
      | false =>
        rw [if_neg (by simp)]
        cases hcb : lt c b with
        | true =>
          rw [hcb, if_pos rfl] at i3
          rw [if_pos rfl, mrg_cons, if_neg (by simp [hca]), i3]
        | false =>
          rw [hcb, if_neg (by simp)] at i3
          rw [if_neg (by simp), mrg_cons, if_neg (by simp [hba]), i3]
theorem mrg_left (l2 : List α) : ∀ (l1 r : List α), (∀ x ∈ l1, ∀ y ∈ r, lt y x = false) → mrg lt (l1 ++ l2) r = l1 ++ mrg lt l2 r
  | [], r, _ => rfl
  | x :: l1, [], _ => by rw [mrg_nil_right, mrg_nil_right]
  | x :: l1, y :: r, h => by
    rw [List.cons_append, mrg_cons, if_neg (by rw [h x List.mem_cons_self y List.mem_cons_self]; simp), mrg_left l2 l1 (y :: r) (fun z hz => h z (List.mem_cons_of_mem _ hz))]
    rfl
theorem mrg_right (r2 : List α) : ∀ (l2 r1 : List α), (∀ x ∈ l2, ∀ y ∈ r1, lt y x = true) → mrg lt l2 (r1 ++ r2) = r1 ++ mrg lt l2 r2
  | l2, [], _ => rfl
  | [], y :: r1, _ => by rw [mrg_nil_left, mrg_nil_left]
  | x :: l2, y :: r1, h => by
    rw [List.cons_append, mrg_cons, if_pos (h x List.mem_cons_self y List.mem_cons_self), mrg_right r2 (x :: l2) r1 (fun z hz w hw => h z hz w (List.mem_cons_of_mem _ hw))]
    rfl
/-- Two merges one behind the other. -/
theorem mrg_split (l2 r2 : List α) : ∀ (n : Nat) (l1 r1 : List α), l1.length + r1.length ≤ n → (∀ x ∈ l1, ∀ y ∈ r2, lt y x = false) → (∀ x ∈ l2, ∀ y ∈ r1, lt y x = true) → mrg lt (l1 ++ l2) (r1 ++ r2) = mrg lt l1 r1 ++ mrg lt l2 r2
  | _, [], r1, _, _, h2 => by rw [List.nil_append, mrg_right r2 l2 r1 h2, mrg_nil_left]
  | _, x :: l1, [], _, h1, _ => by rw [List.nil_append, mrg_left l2 (x :: l1) r2 h1, mrg_nil_right]
  | 0, x :: l1, y :: r1, hn, _, _ => by simp at hn
  | n + 1, x :: l1, y :: r1, hn, h1, h2 => by
    simp only [List.length_cons] at hn
    have i1 := mrg_split l2 r2 n (x :: l1) r1 (by simp only [List.length_cons]; omega) h1 (fun z hz w hw => h2 z hz w (List.mem_cons_of_mem _ hw))
    have i2 := mrg_split l2 r2 n l1 (y :: r1) (by simp only [List.length_cons]; omega) (fun z hz => h1 z (List.mem_cons_of_mem _ hz)) h2
    rw [List.cons_append, List.cons_append, mrg_cons, mrg_cons]
    cases hc : lt y x with
    | true => rw [if_pos rfl, if_pos rfl]; rw [List.cons_append] at i1; rw [i1]; rfl
    | false => rw [if_neg (by simp), if_neg (by simp)]; rw [List.cons_append] at i2; rw [i2]; rfl
/-- The stable sort: each element behind those that are not greater. -/
def ssort (lt : α → α → Bool) (l : List α) : List α := l.foldl (fun acc x => mrg lt acc [x]) []
theorem ssort_snoc (l : List α) (x : α) : ssort lt (l ++ [x]) = mrg lt (ssort lt l) [x] := by simp [ssort]
theorem ssort_append (h : SWO lt) (a : List α) : ∀ (n : Nat) (b : List α), b.length = n → ssort lt (a ++ b) = mrg lt (ssort lt a) (ssort lt b)
  | 0, b, hb => by
    rw [List.eq_nil_of_length_eq_zero hb, List.append_nil, show ssort lt ([] : List α) = [] from rfl, mrg_nil_right]
  | n + 1, b, hb => by
    have hne : b ≠ [] := by intro h; rw [h] at hb; simp at hb
    obtain ⟨c, x, rfl⟩ : ∃ c x, b = c ++ [x] := ⟨b.dropLast, b.getLast hne, (List.dropLast_concat_getLast hne).symm⟩
    rw [← List.append_assoc, ssort_snoc, ssort_snoc, ssort_append h a n c (by simpa using hb), mrg_assoc h _ _ _ _ (Nat.le_refl _)]
theorem mrg_perm : ∀ (n : Nat) (l r : List α), l.length + r.length ≤ n → (mrg lt l r).Perm (l ++ r)
  | _, [], r, _ => by rw [mrg_nil_left]; exact List.Perm.refl _
  | _, x :: l, [], _ => by rw [mrg_nil_right, List.append_nil]
  | 0, x :: l, y :: r, h => by simp at h
  | n + 1, x :: l, y :: r, h => by
    simp only [List.length_cons] at h
    rw [mrg_cons]
    split
    · have := mrg_perm n (x :: l) r (by simp only [List.length_cons]; omega)
      exact (this.cons y).trans (List.perm_middle.symm)
    · have := mrg_perm n l (y :: r) (by simp only [List.length_cons]; omega)
      exact this.cons x
theorem mrg_length (l r : List α) : (mrg lt l r).length = l.length + r.length := by
  rw [(mrg_perm _ l r (Nat.le_refl _)).length_eq, List.length_append]
theorem ssort_perm (h : SWO lt) : ∀ (l : List α), (ssort lt l).Perm l
  | [] => List.Perm.refl _
  | x :: l => by
    have e : x :: l = [x] ++ l := rfl
    rw [e, ssort_append h [x] _ l rfl]
    refine (mrg_perm _ _ _ (Nat.le_refl _)).trans ?_
    exact List.Perm.append (by rw [show ssort lt [x] = mrg lt [] [x] from rfl, mrg_nil_left]) (ssort_perm h l)
theorem ssort_length (h : SWO lt) (l : List α) : (ssort lt l).length = l.length := (ssort_perm h l).length_eq
/-- No element is less than one before it. -/
def Srtd (lt : α → α → Bool) (l : List α) : Prop := l.Pairwise fun x y => lt y x = false
theorem mrg_sorted (h : SWO lt) : ∀ (n : Nat) (l r : List α), l.length + r.length ≤ n → Srtd lt l → Srtd lt r → Srtd lt (mrg lt l r)
  | _, [], r, _, _, hr => by rw [mrg_nil_left]; exact hr
  | _, x :: l, [], _, hl, _ => by rw [mrg_nil_right]; exact hl
  | 0, x :: l, y :: r, hn, _, _ => by simp at hn
  | n + 1, x :: l, y :: r, hn, hl, hr => by
    simp only [List.length_cons] at hn
    unfold Srtd at hl hr ⊢
    rw [List.pairwise_cons] at hl hr
    rw [mrg_cons]
    cases hc : lt y x with
    | true =>
      rw [if_pos rfl, List.pairwise_cons]
      refine ⟨fun z hz => ?_, mrg_sorted h n (x :: l) r (by simp only [List.length_cons]; omega) (List.pairwise_cons.2 hl) hr.2⟩
      have hz' := (mrg_perm _ (x :: l) r (Nat.le_refl _)).mem_iff.1 hz
      rcases List.mem_append.1 hz' with hz' | hz'
      · have hxz : lt z x = false := by
          rcases List.mem_cons.1 hz' with rfl | hz'
          · exact h.irrefl _
          · exact hl.1 z hz'
        exact h.neg hxz (h.asymm hc)
      · exact hr.1 z hz'
    | false =>
      rw [if_neg (by simp), List.pairwise_cons]
      refine ⟨fun z hz => ?_, mrg_sorted h n l (y :: r) (by simp only [List.length_cons]; omega) hl.2 (List.pairwise_cons.2 hr)⟩
      have hz' := (mrg_perm _ l (y :: r) (Nat.le_refl _)).mem_iff.1 hz
      rcases List.mem_append.1 hz' with hz' | hz'
      · exact hl.1 z hz'
      · rcases List.mem_cons.1 hz' with rfl | hz'
        · exact hc
        · exact h.neg (hr.1 z hz') hc
theorem ssort_sorted (h : SWO lt) : ∀ (n : Nat) (l : List α), l.length = n → Srtd lt (ssort lt l)
  | 0, l, hl => by rw [List.eq_nil_of_length_eq_zero hl]; exact List.Pairwise.nil
  | n + 1, l, hl => by
    have hne : l ≠ [] := by intro h; rw [h] at hl; simp at hl
    obtain ⟨c, x, rfl⟩ : ∃ c x, l = c ++ [x] := ⟨l.dropLast, l.getLast hne, (List.dropLast_concat_getLast hne).symm⟩
    rw [ssort_snoc]
    exact mrg_sorted h _ _ _ (Nat.le_refl _) (ssort_sorted h n c (by simpa using hl)) (List.pairwise_singleton _ _)
/-- By a number: a strict weak order. -/
theorem swo_key (f : α → Int) : SWO (fun x y => decide (f x < f y)) := ⟨fun h => by simp at h ⊢; omega, fun h1 h2 => by simp at h1 h2 ⊢; omega⟩
/-- By a number and, where it is the same, another one. -/
theorem swo_key2 (f g : α → Int) : SWO (fun x y => decide (f x < f y ∨ f x = f y ∧ g x < g y)) := ⟨fun h => by simp at h ⊢; omega, fun h1 h2 => by simp at h1 h2 ⊢; omega⟩
end
end Go.Proofs.YtamgbcgfjhpedaaDoor.Srt
