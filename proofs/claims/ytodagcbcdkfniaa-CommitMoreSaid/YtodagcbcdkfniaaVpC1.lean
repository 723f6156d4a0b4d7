import Derived.Test.YtodagcbcdkfniaaVpPDuB
import Derived.Test.YtodagcbcdkfniaaVpSortE
namespace Go.Proofs.Ytodagcbcdkfniaa.VE
open Go Go.RowKit
set_option linter.unusedVariables false
attribute [local irreducible] wrap64
/-! ### commitments: pieces above the least powers, given out by price (no statement is proved here) -/
abbrev St3 := Int × Int × Int
def Sorted (ps : List Pc) : Prop := ps.Pairwise fun x y => x.2 ≤ y.2
/-- The steps behind the first k units. -/
def restP : Int → List Pc → List Pc
  | _, [] => []
  | k, p :: ps => if mn k p.1 < p.1 then (p.1 - mn k p.1, p.2) :: restP (k - mn k p.1) ps else restP (k - mn k p.1) ps
theorem restP_mem : ∀ (ps : List Pc) (k : Int), ∀ q ∈ restP k ps, ∃ p ∈ ps, q.2 = p.2 ∧ 0 < q.1
  | [], _, q, h => by cases h
  | p :: ps, k, q, h => by
    unfold restP at h
    split at h
    · rcases List.mem_cons.1 h with rfl | h
      · exact ⟨p, by simp, rfl, by show 0 < p.1 - mn k p.1; omega⟩
      · obtain ⟨x, hx, h1, h2⟩ := restP_mem ps _ q h
        exact ⟨x, by simp [hx], h1, h2⟩
    · obtain ⟨x, hx, h1, h2⟩ := restP_mem ps _ q h
      exact ⟨x, by simp [hx], h1, h2⟩
theorem restP_nn (ps : List Pc) (k : Int) : Nn (restP k ps) := fun q hq => by
  obtain ⟨_, _, _, h⟩ := restP_mem ps k q hq
  omega
theorem restP_le : ∀ (ps : List Pc) (k : Int), 0 ≤ k → Nn ps → ∀ q ∈ restP k ps, ∃ p ∈ ps, q.2 = p.2 ∧ q.1 ≤ p.1
  | [], _, _, _, q, h => by cases h
  | p :: ps, k, hk, hn, q, h => by
    have hp := hn p (by simp)
    have hm := mn_le k p.1
    have hn' : Nn ps := fun x hx => hn x (by simp [hx])
    unfold restP at h
    split at h
    · rcases List.mem_cons.1 h with rfl | h
      · exact ⟨p, by simp, rfl, by show p.1 - mn k p.1 ≤ p.1; omega⟩
      · obtain ⟨x, hx, h1, h2⟩ := restP_le ps _ (by omega) hn' q h
        exact ⟨x, by simp [hx], h1, h2⟩
    · obtain ⟨x, hx, h1, h2⟩ := restP_le ps _ (by omega) hn' q h
      exact ⟨x, by simp [hx], h1, h2⟩
theorem restP_len : ∀ (ps : List Pc) (k : Int), (restP k ps).length ≤ ps.length
  | [], _ => Nat.le_refl _
  | p :: ps, k => by
    have := restP_len ps (k - mn k p.1)
    unfold restP
    split <;> simp only [List.length_cons] <;> omega
theorem restP_sorted : ∀ (ps : List Pc) (k : Int), Sorted ps → Sorted (restP k ps)
  | [], _, _ => List.Pairwise.nil
  | p :: ps, k, h => by
    obtain ⟨h1, h2⟩ := List.pairwise_cons.1 h
    have ih := restP_sorted ps (k - mn k p.1) h2
    unfold restP
    split
    · refine List.pairwise_cons.2 ⟨fun q hq => ?_, ih⟩
      obtain ⟨x, hx, e, _⟩ := restP_mem ps _ q hq
      have := h1 x hx
      show p.2 ≤ q.2
      omega
    · exact ih
theorem restP_total : ∀ (ps : List Pc) (k : Int), Nn ps → 0 ≤ k → k ≤ total ps → total (restP k ps) = total ps - k
  | [], k, _, h0, h1 => by rw [total_nil] at h1; show total [] = total [] - k; rw [total_nil]; omega
  | p :: ps, k, hn, h0, h1 => by
    have hp := hn p (by simp)
    have hm := mn_le k p.1
    have hn' : Nn ps := fun x hx => hn x (by simp [hx])
    have ht := total_nonneg _ hn'
    rw [total_cons] at h1
    have ih := restP_total ps (k - mn k p.1) hn' (by omega) (by omega)
    unfold restP
    split
    · rw [total_cons, total_cons, ih]
      show p.1 - mn k p.1 + _ = _
      omega
    · rw [total_cons, ih]; omega
/-- What is above the first k units costs what the rest costs. -/
theorem restP_cost : ∀ (ps : List Pc) (k y : Int), Nn ps → 0 ≤ k → 0 ≤ y → vAt ps (k + y) = vAt ps k + vAt (restP k ps) y
  | [], k, y, _, _, _ => by show vAt [] _ = vAt [] _ + vAt [] _; rfl
  | p :: ps, k, y, hn, h0, hy => by
    have hp := hn p (by simp)
    have hn' : Nn ps := fun x hx => hn x (by simp [hx])
    unfold restP
    by_cases hk : k < p.1
    · have e1 : mn k p.1 = k := mn_of_le (by omega)
      have e2 : mn p.1 k = k := by rw [mn_comm]; exact e1
      rw [e1, if_pos hk, vAt_cons, vAt_cons, vAt_cons, e2, Int.sub_self]
      show mn p.1 (k + y) * p.2 + vAt ps (k + y - mn p.1 (k + y)) = k * p.2 + vAt ps 0 + (mn (p.1 - k) y * p.2 + vAt (restP 0 ps) (y - mn (p.1 - k) y))
      have e3 : mn p.1 (k + y) = k + mn (p.1 - k) y := by unfold mn; split <;> split <;> omega
      have hm := mn_le (p.1 - k) y
      have ih := restP_cost ps 0 (y - mn (p.1 - k) y) hn' (by omega) (by omega)
      rw [Int.zero_add] at ih
      rw [e3, show k + y - (k + mn (p.1 - k) y) = y - mn (p.1 - k) y by omega, ih, Int.add_mul]
      omega
    · have e1 : mn k p.1 = p.1 := mn_of_ge (by omega)
      have e2 : mn p.1 k = p.1 := by rw [mn_comm]; exact e1
      rw [e1, if_neg (by omega), vAt_cons, vAt_cons, e2]
      have e3 : mn p.1 (k + y) = p.1 := mn_of_le (by omega)
      have ih := restP_cost ps (k - p.1) y hn' (by omega) hy
      rw [e3, show k + y - p.1 = k - p.1 + y by omega, ih]
      omega
def byPrice (x y : St3) : Bool := decide (x.2.2 < y.2.2)
/-- The steps with their generators' numbers. -/
def tags : Int → List (List Pc) → List St3
  | _, [] => []
  | i, o :: l => o.map (fun p => (i, p.1, p.2)) ++ tags (i + 1) l
def untag (T : List St3) : List Pc := T.map fun t => (t.2.1, t.2.2)
/-- What a generator gets, and what it costs, when D is given out in order. -/
def gU (i : Int) : List St3 → Int → Int
  | [], _ => 0
  | t :: T, D => (if t.1 = i then mn t.2.1 D else 0) + gU i T (D - mn t.2.1 D)
def gC (i : Int) : List St3 → Int → Int
  | [], _ => 0
  | t :: T, D => (if t.1 = i then mn t.2.1 D * t.2.2 else 0) + gC i T (D - mn t.2.1 D)
def linU (i : Int) (g : Int → Int) : List St3 → Int
  | [] => 0
  | t :: T => (if t.1 = i then t.2.1 * g t.2.2 else 0) + linU i g T
theorem linU_perm (i : Int) (g : Int → Int) {a b : List St3} (h : a.Perm b) : linU i g a = linU i g b := by
  induction h with
  | nil => rfl
  | cons x _ ih => simp only [linU]; rw [ih]
  | swap x y l => simp only [linU]; omega
  | trans _ _ h1 h2 => rw [h1, h2]
theorem linU_append (i : Int) (g : Int → Int) : ∀ (a b : List St3), linU i g (a ++ b) = linU i g a + linU i g b
  | [], b => by simp [linU]
  | t :: a, b => by
    show _ + linU i g (a ++ b) = _ + linU i g a + linU i g b
    rw [linU_append i g a b]; omega
theorem linU_map (i j : Int) (g : Int → Int) : ∀ (ps : List Pc), linU i g (ps.map fun p => (j, p.1, p.2)) = if j = i then lin g ps else 0
  | [] => by simp [linU, lin]
  | p :: ps => by
    have := linU_map i j g ps
    show (if j = i then p.1 * g p.2 else 0) + linU i g (ps.map fun p => (j, p.1, p.2)) = _
    rw [this, lin_cons]
    split <;> omega
theorem linU_none (i : Int) (g : Int → Int) : ∀ (l : List (List Pc)) (j : Int), i < j → linU i g (tags j l) = 0
  | [], _, _ => rfl
  | o :: l, j, h => by
    show linU i g (o.map (fun p => (j, p.1, p.2)) ++ tags (j + 1) l) = 0
    rw [linU_append, linU_map, if_neg (by omega), linU_none i g l (j + 1) (by omega)]; rfl
theorem linU_tags (g : Int → Int) : ∀ (l : List (List Pc)) (j : Int) (n : Nat) (o : List Pc), l[n]? = some o → linU (j + (n : Int)) g (tags j l) = lin g o
  | [], _, _, _, h => by simp at h
  | x :: l, j, n, o, h => by
    show linU _ g (x.map (fun p => (j, p.1, p.2)) ++ tags (j + 1) l) = _
    rw [linU_append, linU_map]
    cases n with
    | zero =>
      simp at h
      subst h
      rw [if_pos (by omega), linU_none _ g l (j + 1) (by omega)]; omega
    | succ n =>
      rw [if_neg (by omega)]
      have := linU_tags g l (j + 1) n o (by simpa using h)
      rw [show j + ((n + 1 : Nat) : Int) = j + 1 + (n : Int) by omega, this]; omega
/-- Any share costs at least what the offer asks for it (by a price s). -/
theorem unit_cost (i s : Int) : ∀ (T : List St3) (D : Int), (∀ t ∈ T, 0 ≤ t.2.1) → 0 ≤ D → s * gU i T D - linU i (fun t => pos (s - t)) T ≤ gC i T D
  | [], D, _, _ => by simp [gU, gC, linU]
  | t :: T, D, hT, h0 => by
    have ht := hT t (by simp)
    have hm := mn_le t.2.1 D
    have ih := unit_cost i s T (D - mn t.2.1 D) (fun x hx => hT x (by simp [hx])) (by omega)
    show s * ((if t.1 = i then mn t.2.1 D else 0) + gU i T (D - mn t.2.1 D)) - ((if t.1 = i then t.2.1 * pos (s - t.2.2) else 0) + linU i (fun t => pos (s - t)) T) ≤ (if t.1 = i then mn t.2.1 D * t.2.2 else 0) + gC i T (D - mn t.2.1 D)
    rw [Int.mul_add]
    by_cases h : t.1 = i
    · rw [if_pos h, if_pos h, if_pos h]
      have key : mn t.2.1 D * (s - t.2.2) ≤ t.2.1 * pos (s - t.2.2) := by
        unfold pos
        split
        · have := Int.mul_nonneg (a := t.2.1 - mn t.2.1 D) (b := s - t.2.2) (by omega) (by omega)
          rw [Int.sub_mul] at this; omega
        · have := Int.mul_nonneg (a := mn t.2.1 D) (b := -(s - t.2.2)) (by omega) (by omega)
          rw [Int.mul_neg] at this
          rw [Int.mul_zero]; omega
      rw [Int.mul_sub, Int.mul_comm (mn t.2.1 D) s] at key
      omega
    · rw [if_neg h, if_neg h, if_neg h, Int.mul_zero]; omega
def sumR (f : Int → Int) : Nat → Int → Int
  | 0, _ => 0
  | n + 1, j => f j + sumR f n (j + 1)
theorem sumR_add (f g : Int → Int) : ∀ (n : Nat) (j : Int), sumR (fun i => f i + g i) n j = sumR f n j + sumR g n j
  | 0, _ => rfl
  | n + 1, j => by
    show f j + g j + sumR (fun i => f i + g i) n (j + 1) = f j + sumR f n (j + 1) + (g j + sumR g n (j + 1))
    rw [sumR_add f g n (j + 1)]; omega
theorem sumR_one (u v : Int) : ∀ (n : Nat) (j : Int), sumR (fun i => if u = i then v else 0) n j = if j ≤ u ∧ u < j + (n : Int) then v else 0
  | 0, j => by
    rw [if_neg (by omega)]; rfl
  | n + 1, j => by
    show (if u = j then v else 0) + sumR (fun i => if u = i then v else 0) n (j + 1) = _
    rw [sumR_one u v n (j + 1)]
    split <;> split <;> split <;> omega
theorem sumR_zero : ∀ (n : Nat) (j : Int), sumR (fun _ => 0) n j = 0
  | 0, _ => rfl
  | n + 1, j => by
    show 0 + sumR (fun _ => 0) n (j + 1) = 0
    rw [sumR_zero n (j + 1)]; rfl
/-- All shares together. -/
theorem all_U (L : Nat) : ∀ (T : List St3) (D : Int), (∀ t ∈ T, 0 ≤ t.2.1 ∧ 0 ≤ t.1 ∧ t.1 < (L : Int)) → 0 ≤ D → sumR (fun i => gU i T D) L 0 = mn (total (untag T)) D ∧ sumR (fun i => gC i T D) L 0 = vAt (untag T) D
  | [], D, _, h0 => by
    show sumR (fun _ => 0) L 0 = mn (total []) D ∧ sumR (fun _ => 0) L 0 = vAt [] D
    rw [sumR_zero, total_nil, mn_of_le h0]
    exact ⟨rfl, rfl⟩
  | t :: T, D, hT, h0 => by
    obtain ⟨t0, t1, t2⟩ := hT t (by simp)
    have hm := mn_le t.2.1 D
    obtain ⟨i1, i2⟩ := all_U L T (D - mn t.2.1 D) (fun x hx => hT x (by simp [hx])) (by omega)
    have hn : Nn (untag T) := fun p hp => by
      obtain ⟨x, hx, rfl⟩ := List.mem_map.1 hp
      exact (hT x (by simp [hx])).1
    have ht := total_nonneg _ hn
    constructor
    · show sumR (fun i => (if t.1 = i then mn t.2.1 D else 0) + gU i T (D - mn t.2.1 D)) L 0 = mn (total ((t.2.1, t.2.2) :: untag T)) D
      rw [sumR_add, sumR_one, if_pos (by omega), i1, total_cons]
      show mn t.2.1 D + mn (total (untag T)) (D - mn t.2.1 D) = mn (t.2.1 + total (untag T)) D
      unfold mn; split <;> split <;> split <;> omega
    · show sumR (fun i => (if t.1 = i then mn t.2.1 D * t.2.2 else 0) + gC i T (D - mn t.2.1 D)) L 0 = vAt ((t.2.1, t.2.2) :: untag T) D
      rw [sumR_add, sumR_one, if_pos (by omega), i2, vAt_cons]
theorem gU_rng (i : Int) : ∀ (T : List St3) (D : Int), (∀ t ∈ T, 0 ≤ t.2.1) → 0 ≤ D → 0 ≤ gU i T D ∧ gU i T D ≤ linU i (fun _ => 1) T
  | [], D, _, _ => by simp [gU, linU]
  | t :: T, D, hT, h0 => by
    have ht := hT t (by simp)
    have hm := mn_le t.2.1 D
    have ih := gU_rng i T (D - mn t.2.1 D) (fun x hx => hT x (by simp [hx])) (by omega)
    show 0 ≤ (if t.1 = i then mn t.2.1 D else 0) + gU i T (D - mn t.2.1 D) ∧ (if t.1 = i then mn t.2.1 D else 0) + gU i T (D - mn t.2.1 D) ≤ (if t.1 = i then t.2.1 * 1 else 0) + linU i (fun _ => 1) T
    split <;> omega
theorem untag_tags : ∀ (l : List (List Pc)) (j : Int), untag (tags j l) = l.flatten
  | [], _ => rfl
  | o :: l, j => by
    show untag (o.map (fun p => (j, p.1, p.2)) ++ tags (j + 1) l) = o ++ l.flatten
    have : untag (o.map (fun p => (j, p.1, p.2)) ++ tags (j + 1) l) = untag (o.map (fun p => (j, p.1, p.2))) ++ untag (tags (j + 1) l) := by unfold untag; rw [List.map_append]
    rw [this, untag_tags l (j + 1)]
    congr 1
    unfold untag
    rw [List.map_map]
    conv => rhs; rw [← List.map_id o]
    rfl
theorem tags_mem : ∀ (l : List (List Pc)) (j : Int), ∀ t ∈ tags j l, j ≤ t.1 ∧ t.1 < j + (l.length : Int) ∧ (t.2.1, t.2.2) ∈ l.flatten
  | [], j, t, ht => by cases ht
  | o :: l, j, t, ht => by
    have ht : t ∈ o.map (fun p => (j, p.1, p.2)) ++ tags (j + 1) l := ht
    rw [List.length_cons]
    rcases List.mem_append.1 ht with ht | ht
    · obtain ⟨p, hp, rfl⟩ := List.mem_map.1 ht
      exact ⟨Int.le_refl _, by show j < _; omega, by rw [List.flatten_cons]; exact List.mem_append.2 (Or.inl hp)⟩
    · have := tags_mem l (j + 1) t ht
      exact ⟨by omega, by omega, by rw [List.flatten_cons]; exact List.mem_append.2 (Or.inr this.2.2)⟩
theorem tags_len : ∀ (l : List (List Pc)) (j : Int), (tags j l).length = l.flatten.length
  | [], _ => rfl
  | o :: l, j => by
    show (o.map (fun p => (j, p.1, p.2)) ++ tags (j + 1) l).length = (o ++ l.flatten).length
    rw [List.length_append, List.length_append, List.length_map, tags_len l (j + 1)]
/-- What powers above the least ones cost. -/
def costR : List (List Pc) → List Int → Int
  | ps :: l, x :: xs => vAt ps x + costR l xs
  | _, _ => 0
/-- Powers that the rests allow. -/
def FitR : List (List Pc) → List Int → Prop
  | [], [] => True
  | ps :: l, x :: xs => (0 ≤ x ∧ x ≤ total ps) ∧ FitR l xs
  | _, _ => False
theorem fitR_bound (p : Int) : ∀ (l : List (List Pc)) (xs : List Int), (∀ ps ∈ l, Nn ps) → FitR l xs → p * xs.sum - lin (fun t => pos (p - t)) l.flatten ≤ costR l xs
  | [], [], _, _ => by simp [lin, costR]
  | ps :: l, x :: xs, hn, h => by
    have := fitR_bound p l xs (fun q hq => hn q (by simp [hq])) h.2
    have c := conj_bound p ps x (hn ps (by simp)) h.1.1 h.1.2
    rw [List.sum_cons, List.flatten_cons, lin_append, Int.mul_add]
    show _ ≤ vAt ps x + costR l xs
    omega
  | [], _ :: _, _, h => h.elim
  | _ :: _, [], _, h => h.elim
theorem fitR_sum : ∀ (l : List (List Pc)) (xs : List Int), FitR l xs → 0 ≤ xs.sum ∧ xs.sum ≤ total l.flatten
  | [], [], _ => by simp [total]
  | ps :: l, x :: xs, h => by
    have := fitR_sum l xs h.2
    have := h.1
    rw [List.sum_cons, List.flatten_cons, total_append]
    omega
  | [], _ :: _, h => h.elim
  | _ :: _, [], h => h.elim
structure GreedyP (l : List (List Pc)) (d : Int) (xs : List Int) : Prop where
  fit : FitR l xs
  sum : xs.sum = d
  best : ∀ ys, FitR l ys → ys.sum = d → costR l xs ≤ costR l ys
/-- The powers that the greedy rule gives cost least. -/
theorem greedy_best {l : List (List Pc)} (h : ∀ ps ∈ l, Nn ps ∧ Sorted ps) {T : List St3} (hp : T.Perm (tags 0 l)) (hs : Sorted (untag T)) {d : Int} (h0 : 0 ≤ d) (ht : d ≤ total l.flatten) {xs : List Int} (hl : xs.length = l.length) (hx : ∀ (n : Nat) x, xs[n]? = some x → x = gU (n : Int) T d) : GreedyP l d xs := by
  have hnf : Nn l.flatten := fun p hp => by
    obtain ⟨ps, h1, h2⟩ := List.mem_flatten.1 hp
    exact (h ps h1).1 p h2
  have hT : ∀ t ∈ T, 0 ≤ t.2.1 ∧ 0 ≤ t.1 ∧ t.1 < (l.length : Int) := fun t ht => by
    have := tags_mem l 0 t (hp.mem_iff.1 ht)
    have := hnf _ this.2.2
    exact ⟨this, by omega, by omega⟩
  have hpu : (untag T).Perm l.flatten := by
    rw [← untag_tags l 0]
    exact hp.map _
  have htot : total (untag T) = total l.flatten := by rw [← lin_one, ← lin_one, lin_perm _ hpu]
  have hnn : Nn (untag T) := fun q hq => hnf q (hpu.mem_iff.1 hq)
  obtain ⟨p, h1, h2⟩ := exists_slope' (untag T) d hnn hs h0 (by omega)
  obtain ⟨a1, a2⟩ := all_U l.length T d hT h0
  have dual' : vAt (untag T) d = p * d - lin (fun t => pos (p - t)) l.flatten := by
    have hle := lin_le p (untag T)
    have := vAt_at p (untag T) (d - lin (ltF p) (untag T)) hnn hs (by omega) (by omega)
    rw [show lin (ltF p) (untag T) + (d - lin (ltF p) (untag T)) = d by omega] at this
    rw [this, ← lin_perm _ hpu, lin_pos', Int.sub_mul, Int.mul_comm d p, Int.mul_comm (lin (ltF p) (untag T)) p]; omega
  have both' : ∀ (m : List (List Pc)) (ys : List Int) (j : Nat), ys.length = m.length → (∀ ps ∈ m, Nn ps ∧ Sorted ps) → (∀ (n : Nat) o, m[n]? = some o → l[j + n]? = some o) → (∀ (n : Nat) x, ys[n]? = some x → x = gU ((j + n : Nat) : Int) T d) → FitR m ys ∧ ys.sum = sumR (fun i => gU i T d) m.length (j : Int) ∧ costR m ys ≤ sumR (fun i => gC i T d) m.length (j : Int) := by
    intro m
    induction m with
    | nil =>
      intro ys j hyl _ _ _
      rw [List.eq_nil_of_length_eq_zero hyl]
      exact ⟨trivial, rfl, Int.le_refl _⟩
    | cons o m ih =>
      intro ys j hyl hO hm hy
      cases ys with
      | nil => simp at hyl
      | cons y ys =>
        obtain ⟨b0, b1, b2⟩ := ih ys (j + 1) (by simpa using hyl) (fun q hq => hO q (by simp [hq])) (fun n o ho => by
          have := hm (n + 1) o (by simpa using ho)
          rwa [show j + (n + 1) = j + 1 + n by omega] at this) (fun n x hn => by
          have := hy (n + 1) x (by simpa using hn)
          rwa [show j + (n + 1) = j + 1 + n by omega] at this)
        have ey := hy 0 y rfl
        have eo := hm 0 o rfl
        rw [Nat.add_zero] at ey eo
        obtain ⟨ho1, ho2⟩ := hO o (by simp)
        have hg : ∀ g, linU (j : Int) g T = lin g o := fun g => by
          rw [linU_perm _ _ hp]
          have := linU_tags g l 0 j o eo
          rwa [Int.zero_add] at this
        have hr := gU_rng (j : Int) T d (fun t ht => (hT t ht).1) h0
        rw [hg, lin_one] at hr
        rw [← ey] at hr
        obtain ⟨s, s1, s2⟩ := exists_slope' o y ho1 ho2 hr.1 hr.2
        have hle := lin_le s o
        have c2 := vAt_at s o (y - lin (ltF s) o) ho1 ho2 (by omega) (by omega)
        rw [show lin (ltF s) o + (y - lin (ltF s) o) = y by omega] at c2
        have c3 := unit_cost (j : Int) s T d (fun t ht => (hT t ht).1) h0
        rw [hg, lin_pos', ← ey] at c3
        rw [Int.sub_mul, Int.mul_comm y s, Int.mul_comm (lin (ltF s) o) s] at c2
        rw [show ((j + 1 : Nat) : Int) = (j : Int) + 1 by omega] at b1 b2
        refine ⟨⟨hr, b0⟩, ?_, ?_⟩
        · rw [List.sum_cons, b1, ey]; rfl
        · show vAt o y + costR m ys ≤ gC (j : Int) T d + sumR (fun i => gC i T d) m.length ((j : Int) + 1)
          omega
  obtain ⟨k0, k1, k2⟩ := both' l xs 0 hl h (fun n o ho => by rwa [Nat.zero_add]) (fun n x hn => by rw [Nat.zero_add]; exact hx n x hn)
  rw [show ((0 : Nat) : Int) = 0 from rfl, a1, mn_of_ge (by omega)] at k1
  rw [show ((0 : Nat) : Int) = 0 from rfl, a2, dual'] at k2
  refine ⟨k0, k1, fun ys hy hs' => ?_⟩
  have := fitR_bound p l ys (fun q hq => (h q hq).1) hy
  rw [hs'] at this
  omega
end Go.Proofs.Ytodagcbcdkfniaa.VE
