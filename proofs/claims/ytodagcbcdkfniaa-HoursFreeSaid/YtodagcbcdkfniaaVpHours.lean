import Derived.Test.YtodagcbcdkfniaaVpDisp
namespace Go.Proofs.Ytodagcbcdkfniaa.VE
open Go Go.RowKit
set_option linter.unusedVariables false
attribute [local irreducible] wrap64
def hours_stepSrt : Srt.NSys (Ty.T Y2) (Unit) (List (Ty.T Y2)) (Int) where
  z := Ty.dflt Y2
  fst := fun r => r
  snd := fun _ => ()
  pk := fun x _ => x
  cf := fun r => r
  cs := fun _ => ()
  cmp := fun k a b s => hours_Change_1.f k a b 
  il1 := fun k y0 y1 y2 xs s => slices_insertionSortCmpFunc_hours_step.l1 k y0 y1 y2 xs 
  il4 := fun k y0 y1 y2 y3 xs s => slices_insertionSortCmpFunc_hours_step.l4 k y0 y1 y2 y3 xs 
  wl1 := fun k y0 y1 y2 y3 xs s => slices_swapRangeCmpFunc_hours_step.l1 k y0 y1 y2 y3 xs 
  rl2 := fun k y0 y1 y2 xs s => slices_rotateCmpFunc_hours_step.l2 k y0 y1 y2 xs 
  ml9 := fun k y0 y1 xs s => slices_symMergeCmpFunc_hours_step.l9 k y0 y1 xs 
  ml3 := fun k y0 y1 y2 xs s => slices_symMergeCmpFunc_hours_step.l3 k y0 y1 y2 xs 
  ml21 := fun k y0 y1 xs s => slices_symMergeCmpFunc_hours_step.l21 k y0 y1 xs 
  ml15 := fun k y0 y1 y2 xs s => slices_symMergeCmpFunc_hours_step.l15 k y0 y1 y2 xs 
  mf := fun k y0 y1 y2 xs s => slices_symMergeCmpFunc_hours_step.f k y0 y1 y2 xs 
  ml32 := fun k y0 y1 y2 y3 y4 y5 y6 xs s => slices_symMergeCmpFunc_hours_step.l32 k y0 y1 y2 y3 y4 y5 y6 xs 
  ml33 := fun k y0 y1 y2 y3 y4 y5 y6 y7 xs s => slices_symMergeCmpFunc_hours_step.l33 k y0 y1 y2 y3 y4 y5 y6 y7 xs 
  ml41 := fun k y0 y1 y2 y3 y4 xs s => slices_symMergeCmpFunc_hours_step.l41 k y0 y1 y2 y3 y4 xs 
  sl7 := fun k y0 y1 xs s => slices_stableCmpFunc_hours_step.l7 k y0 y1 xs 
  sl9 := fun k y0 y1 y2 y3 xs s => slices_stableCmpFunc_hours_step.l9 k y0 y1 y2 y3 xs 
  sl2 := fun k y0 y1 y2 y3 xs s => slices_stableCmpFunc_hours_step.l2 k y0 y1 y2 y3 xs 
theorem hours_stepSrt_eqs : Srt.NEqs hours_stepSrt where
  e1 := fun _ _ => rfl
  e2 := fun _ _ => rfl
  i1z := fun _ _ _ _ _ => rfl
  i4z := fun _ _ _ _ _ _ => rfl
  w1z := fun _ _ _ _ _ _ => rfl
  r2z := fun _ _ _ _ _ => rfl
  m9z := fun _ _ _ _ => rfl
  m3z := fun _ _ _ _ _ => rfl
  m21z := fun _ _ _ _ => rfl
  m15z := fun _ _ _ _ _ => rfl
  mfz := fun _ _ _ _ _ => rfl
  m32z := fun _ _ _ _ _ _ _ _ _ => rfl
  m33z := fun _ _ _ _ _ _ _ _ _ _ => rfl
  m41z := fun _ _ _ _ _ _ _ => rfl
  s7z := fun _ _ _ _ => rfl
  s9z := fun _ _ _ _ _ _ => rfl
  s2z := fun _ _ _ _ _ _ => rfl
  il1 := fun _ _ _ _ _ _ => rfl
  il4 := fun _ _ _ _ _ _ _ => rfl
  wl1 := fun _ _ _ _ _ _ _ => rfl
  rl2 := fun _ _ _ _ _ _ => rfl
  ml9 := fun _ _ _ _ _ => rfl
  ml3 := fun _ _ _ _ _ _ => rfl
  ml21 := fun _ _ _ _ _ => rfl
  ml15 := fun _ _ _ _ _ _ => rfl
  mf := fun _ _ _ _ _ _ => rfl
  ml32 := fun _ _ _ _ _ _ _ _ _ _ => rfl
  ml33 := fun _ _ _ _ _ _ _ _ _ _ _ => rfl
  ml41 := fun _ _ _ _ _ _ _ _ => rfl
  sl7 := fun _ _ _ _ _ => rfl
  sl9 := fun _ _ _ _ _ _ _ => rfl
  sl2 := fun _ _ _ _ _ _ _ => rfl
/-! sums and slopes (no statement is proved here) -/
theorem lin_pos' (s : Int) : ∀ ps : List Pc, lin (fun t => pos (s - t)) ps = s * lin (ltF s) ps - lin (idF s) ps
  | [] => by simp [lin]
  | q :: ps => by
    rw [lin_cons, lin_cons, lin_cons, lin_pos' s ps, Int.mul_add]
    unfold pos ltF idF
    by_cases h : q.2 < s
    · rw [if_pos (by omega), if_pos h, if_pos h, Int.mul_one, Int.mul_sub, Int.mul_comm s q.1]; omega
    · rw [if_neg (by omega), if_neg h, if_neg h]; simp
theorem lt_zero' {s : Int} : ∀ ps : List Pc, (∀ q ∈ ps, s ≤ q.2) → lin (ltF s) ps = 0
  | [], _ => rfl
  | q :: ps, h => by
    have hq := h q (by simp)
    have e : ltF s q.2 = 0 := by unfold ltF; rw [if_neg (by omega)]
    rw [lin_cons, e, lt_zero' ps (fun x hx => h x (by simp [hx]))]; simp
theorem le_zero' {s : Int} : ∀ ps : List Pc, (∀ q ∈ ps, s < q.2) → lin (leF s) ps = 0
  | [], _ => rfl
  | q :: ps, h => by
    have hq := h q (by simp)
    have e : leF s q.2 = 0 := by unfold leF; rw [if_neg (by omega)]
    rw [lin_cons, e, le_zero' ps (fun x hx => h x (by simp [hx]))]; simp
theorem exists_slope' : ∀ (ps : List Pc) (d : Int), Nn ps → (ps.Pairwise fun x y => x.2 ≤ y.2) → 0 ≤ d → d ≤ total ps → ∃ s, lin (ltF s) ps ≤ d ∧ d ≤ lin (leF s) ps
  | [], d, _, _, h0, h1 => by
    rw [total_nil] at h1
    exact ⟨0, h0, h1⟩
  | q :: ps, d, hn, hs, h0, h1 => by
    have hq := hn q (by simp)
    have hn' : Nn ps := fun x hx => hn x (by simp [hx])
    have hs' := List.pairwise_cons.1 hs
    rw [total_cons] at h1
    rcases Int.le_total d q.1 with hd | hd
    · refine ⟨q.2, ?_, ?_⟩
      · rw [lt_zero' _ (fun x hx => by
          rcases List.mem_cons.1 hx with rfl | hx
          · exact Int.le_refl _
          · exact hs'.1 x hx)]
        exact h0
      · have e : leF q.2 q.2 = 1 := by unfold leF; rw [if_pos (Int.le_refl _)]
        have := lin_nonneg (fun t => (leF_n q.2 t).1) ps hn'
        rw [lin_cons, e]; omega
    · by_cases he : d = q.1
      · refine ⟨q.2, ?_, ?_⟩
        · rw [lt_zero' _ (fun x hx => by
            rcases List.mem_cons.1 hx with rfl | hx
            · exact Int.le_refl _
            · exact hs'.1 x hx)]
          exact h0
        · have e : leF q.2 q.2 = 1 := by unfold leF; rw [if_pos (Int.le_refl _)]
          have := lin_nonneg (fun t => (leF_n q.2 t).1) ps hn'
          rw [lin_cons, e]; omega
      · obtain ⟨s, s1, s2⟩ := exists_slope' ps (d - q.1) hn' hs'.2 (by omega) (by omega)
        have hqs : q.2 ≤ s := by
          apply Classical.byContradiction
          intro hc
          rw [le_zero' ps (fun x hx => by have := hs'.1 x hx; omega)] at s2
          omega
        have e1 : leF s q.2 = 1 := by unfold leF; rw [if_pos hqs]
        have h2 := ltF_n s q.2
        have := Int.mul_nonneg (a := q.1) (b := 1 - ltF s q.2) hq (by omega)
        rw [Int.mul_sub, Int.mul_one] at this
        refine ⟨s, ?_, ?_⟩
        · rw [lin_cons]; omega
        · rw [lin_cons, e1]; omega
/-! ### package hours: Change without limits (no statement is proved here) -/
abbrev St3 := Int × Int × Int
def byPrice (x y : St3) : Bool := decide (x.2.2 < y.2.2)
theorem byPrice_swo : Srt.SWO byPrice := Srt.swo_key (fun x : St3 => x.2.2)
theorem compare_ev (p q : Int) : ∃ c, Ev (fun k => cmp_Compare_int.f k p q) c ∧ (c < 0 ↔ p < q) := by
  have hn : ∀ (x : Int), Ev (fun k => cmp_isNaN_int.f k x) false := fun x => by
    unfold cmp_isNaN_int.f
    rw [show (!decide (x = x)) = false by simp]
    exact Ev.now _
  unfold cmp_Compare_int.f
  by_cases h1 : p < q
  · exact ⟨-1, Ev.bind (hn p) (Ev.bind (hn q) (Ev.neg (by simp) (Ev.neg (by simp) (Ev.pos h1 (Ev.now _))))), by omega⟩
  · by_cases h2 : q < p
    · exact ⟨1, Ev.bind (hn p) (Ev.bind (hn q) (Ev.neg (by simp) (Ev.neg (by simp) (Ev.neg h1 (Ev.pos h2 (Ev.now _)))))), by omega⟩
    · exact ⟨0, Ev.bind (hn p) (Ev.bind (hn q) (Ev.neg (by simp) (Ev.neg (by simp) (Ev.neg h1 (Ev.neg h2 (Ev.now _)))))), by omega⟩
theorem steps_cmp : Srt.Cmp (hours_stepSrt.at ()) byPrice (fun _ => True) := by
  intro x y _ _
  obtain ⟨c, ⟨K, hK⟩, hi⟩ := compare_ev x.2.2 y.2.2
  refine ⟨c, ⟨K, fun k hk => ?_⟩, by rw [hi]; simp [byPrice]⟩
  show (hours_Change_1.f k x y).map (fun r => r) = some c
  unfold hours_Change_1.f
  have : cmp_Compare_int.f k x.2.2 y.2.2 = some c := hK k hk
  rw [this]; rfl
theorem ssteps_ev (l : List St3) (hl : l.length ≤ 1000000) : Ev (fun k => slices_SortStableFunc_hours_step.f k l) (Srt.ssort byPrice l) := by
  have := Srt.nstable (N := hours_stepSrt) (s := ()) hours_stepSrt_eqs (fun _ _ _ _ _ => rfl) (fun r => rfl) byPrice_swo steps_cmp l (fun _ _ => trivial) (by omega)
  unfold slices_SortStableFunc_hours_step.f slices_stableCmpFunc_hours_step.f
  exact Ev.bind this (Ev.now _)
/-- The steps with their generators' numbers. -/
def tags : Int → List Ofr → List St3
  | _, [] => []
  | i, o :: l => o.2.map (fun p => (i, p.1, p.2)) ++ tags (i + 1) l
def untag (T : List St3) : List Pc := T.map fun t => (t.2.1, t.2.2)
/-- What a generator gets, and what it costs, when D is given out in order. -/
def gU (i : Int) : List St3 → Int → Int
  | [], _ => 0
  | t :: T, D => (if t.1 = i then mn t.2.1 D else 0) + gU i T (D - mn t.2.1 D)
def gC (i : Int) : List St3 → Int → Int
  | [], _ => 0
  | t :: T, D => (if t.1 = i then mn t.2.1 D * t.2.2 else 0) + gC i T (D - mn t.2.1 D)
def linU (i : Int) (g : Int → Int) : List St3 → Int
  | [] => 0
  | t :: T => (if t.1 = i then t.2.1 * g t.2.2 else 0) + linU i g T
theorem linU_perm (i : Int) (g : Int → Int) {a b : List St3} (h : a.Perm b) : linU i g a = linU i g b := by
  induction h with
  | nil => rfl
  | cons x _ ih => simp only [linU]; rw [ih]
  | swap x y l => simp only [linU]; omega
  | trans _ _ h1 h2 => rw [h1, h2]
theorem linU_append (i : Int) (g : Int → Int) : ∀ (a b : List St3), linU i g (a ++ b) = linU i g a + linU i g b
  | [], b => by simp [linU]
  | t :: a, b => by
    show _ + linU i g (a ++ b) = _ + linU i g a + linU i g b
    rw [linU_append i g a b]; omega
theorem linU_map (i j : Int) (g : Int → Int) : ∀ (ps : List Pc), linU i g (ps.map fun p => (j, p.1, p.2)) = if j = i then lin g ps else 0
  | [] => by simp [linU, lin]
  | p :: ps => by
    have := linU_map i j g ps
    show (if j = i then p.1 * g p.2 else 0) + linU i g (ps.map fun p => (j, p.1, p.2)) = _
    rw [this, lin_cons]
    split <;> omega
theorem linU_none (i : Int) (g : Int → Int) : ∀ (l : List Ofr) (j : Int), i < j → linU i g (tags j l) = 0
  | [], _, _ => rfl
  | o :: l, j, h => by
    show linU i g (o.2.map (fun p => (j, p.1, p.2)) ++ tags (j + 1) l) = 0
    rw [linU_append, linU_map, if_neg (by omega), linU_none i g l (j + 1) (by omega)]; rfl
theorem linU_tags (g : Int → Int) : ∀ (l : List Ofr) (j : Int) (n : Nat) (o : Ofr), l[n]? = some o → linU (j + (n : Int)) g (tags j l) = lin g o.2
  | [], _, _, _, h => by simp at h
  | x :: l, j, n, o, h => by
    show linU _ g (x.2.map (fun p => (j, p.1, p.2)) ++ tags (j + 1) l) = _
    rw [linU_append, linU_map]
    cases n with
    | zero =>
      simp at h
      subst h
      rw [if_pos (by omega), linU_none _ g l (j + 1) (by omega)]; omega
    | succ n =>
      rw [if_neg (by omega)]
      have := linU_tags g l (j + 1) n o (by simpa using h)
      rw [show j + ((n + 1 : Nat) : Int) = j + 1 + (n : Int) by omega, this]; omega
/-- Any share costs at least what the offer asks for it (by a price s). -/
theorem unit_cost (i s : Int) : ∀ (T : List St3) (D : Int), (∀ t ∈ T, 0 ≤ t.2.1) → 0 ≤ D → s * gU i T D - linU i (fun t => pos (s - t)) T ≤ gC i T D
  | [], D, _, _ => by simp [gU, gC, linU]
  | t :: T, D, hT, h0 => by
    have ht := hT t (by simp)
    have hm := mn_le t.2.1 D
    have ih := unit_cost i s T (D - mn t.2.1 D) (fun x hx => hT x (by simp [hx])) (by omega)
    show s * ((if t.1 = i then mn t.2.1 D else 0) + gU i T (D - mn t.2.1 D)) - ((if t.1 = i then t.2.1 * pos (s - t.2.2) else 0) + linU i (fun t => pos (s - t)) T) ≤ (if t.1 = i then mn t.2.1 D * t.2.2 else 0) + gC i T (D - mn t.2.1 D)
    rw [Int.mul_add]
    by_cases h : t.1 = i
    · rw [if_pos h, if_pos h, if_pos h]
      have key : mn t.2.1 D * (s - t.2.2) ≤ t.2.1 * pos (s - t.2.2) := by
        unfold pos
        split
        · have := Int.mul_nonneg (a := t.2.1 - mn t.2.1 D) (b := s - t.2.2) (by omega) (by omega)
          rw [Int.sub_mul] at this; omega
        · have := Int.mul_nonneg (a := mn t.2.1 D) (b := -(s - t.2.2)) (by omega) (by omega)
          rw [Int.mul_neg] at this
          rw [Int.mul_zero]; omega
      rw [Int.mul_sub, Int.mul_comm (mn t.2.1 D) s] at key
      omega
    · rw [if_neg h, if_neg h, if_neg h, Int.mul_zero]; omega
def sumR (f : Int → Int) : Nat → Int → Int
  | 0, _ => 0
  | n + 1, j => f j + sumR f n (j + 1)
theorem sumR_add (f g : Int → Int) : ∀ (n : Nat) (j : Int), sumR (fun i => f i + g i) n j = sumR f n j + sumR g n j
  | 0, _ => rfl
  | n + 1, j => by
    show f j + g j + sumR (fun i => f i + g i) n (j + 1) = f j + sumR f n (j + 1) + (g j + sumR g n (j + 1))
    rw [sumR_add f g n (j + 1)]; omega
theorem sumR_one (u v : Int) : ∀ (n : Nat) (j : Int), sumR (fun i => if u = i then v else 0) n j = if j ≤ u ∧ u < j + (n : Int) then v else 0
  | 0, j => by
    rw [if_neg (by omega)]; rfl
  | n + 1, j => by
    show (if u = j then v else 0) + sumR (fun i => if u = i then v else 0) n (j + 1) = _
    rw [sumR_one u v n (j + 1)]
    split <;> split <;> split <;> omega
theorem sumR_zero : ∀ (n : Nat) (j : Int), sumR (fun _ => 0) n j = 0
  | 0, _ => rfl
  | n + 1, j => by
    show 0 + sumR (fun _ => 0) n (j + 1) = 0
    rw [sumR_zero n (j + 1)]; rfl
/-- All shares together. -/
theorem all_U (L : Nat) : ∀ (T : List St3) (D : Int), (∀ t ∈ T, 0 ≤ t.2.1 ∧ 0 ≤ t.1 ∧ t.1 < (L : Int)) → 0 ≤ D → sumR (fun i => gU i T D) L 0 = mn (total (untag T)) D ∧ sumR (fun i => gC i T D) L 0 = vAt (untag T) D
  | [], D, _, h0 => by
    show sumR (fun _ => 0) L 0 = mn (total []) D ∧ sumR (fun _ => 0) L 0 = vAt [] D
    rw [sumR_zero, total_nil, mn_of_le h0]
    exact ⟨rfl, rfl⟩
  | t :: T, D, hT, h0 => by
    obtain ⟨t0, t1, t2⟩ := hT t (by simp)
    have hm := mn_le t.2.1 D
    obtain ⟨i1, i2⟩ := all_U L T (D - mn t.2.1 D) (fun x hx => hT x (by simp [hx])) (by omega)
    have hn : Nn (untag T) := fun p hp => by
      obtain ⟨x, hx, rfl⟩ := List.mem_map.1 hp
      exact (hT x (by simp [hx])).1
    have ht := total_nonneg _ hn
    constructor
    · show sumR (fun i => (if t.1 = i then mn t.2.1 D else 0) + gU i T (D - mn t.2.1 D)) L 0 = mn (total ((t.2.1, t.2.2) :: untag T)) D
      rw [sumR_add, sumR_one, if_pos (by omega), i1, total_cons]
      show mn t.2.1 D + mn (total (untag T)) (D - mn t.2.1 D) = mn (t.2.1 + total (untag T)) D
      unfold mn; split <;> split <;> split <;> omega
    · show sumR (fun i => (if t.1 = i then mn t.2.1 D * t.2.2 else 0) + gC i T (D - mn t.2.1 D)) L 0 = vAt ((t.2.1, t.2.2) :: untag T) D
      rw [sumR_add, sumR_one, if_pos (by omega), i2, vAt_cons]
theorem gU_rng (i : Int) : ∀ (T : List St3) (D : Int), (∀ t ∈ T, 0 ≤ t.2.1) → 0 ≤ D → 0 ≤ gU i T D ∧ gU i T D ≤ linU i (fun _ => 1) T
  | [], D, _, _ => by simp [gU, linU]
  | t :: T, D, hT, h0 => by
    have ht := hT t (by simp)
    have hm := mn_le t.2.1 D
    have ih := gU_rng i T (D - mn t.2.1 D) (fun x hx => hT x (by simp [hx])) (by omega)
    show 0 ≤ (if t.1 = i then mn t.2.1 D else 0) + gU i T (D - mn t.2.1 D) ∧ (if t.1 = i then mn t.2.1 D else 0) + gU i T (D - mn t.2.1 D) ≤ (if t.1 = i then t.2.1 * 1 else 0) + linU i (fun _ => 1) T
    split <;> omega
/-- The powers that the greedy rule gives cost what dispatch.Best costs. -/
theorem greedy_best {l : List Ofr} (h : OffOk l) {T : List St3} (hp : T.Perm (tags 0 l)) (hs : (untag T).Pairwise fun x y => x.2 ≤ y.2) {d p : Int} (h0 : 0 ≤ d) (ht : d ≤ total (steps l)) (h1 : lin (ltF p) (steps l) ≤ d) (h2 : d ≤ lin (leF p) (steps l)) {xs : List Int} (hl : xs.length = l.length) (hx : ∀ (n : Nat) x, xs[n]? = some x → x = gU (n : Int) T d) : costSum l xs = lin (idF p) (steps l) + (d - lin (ltF p) (steps l)) * p := by
  have htag : ∀ (l : List Ofr) (j : Int), untag (tags j l) = steps l := by
    intro l
    induction l with
    | nil => intro j; rfl
    | cons o l ih =>
      intro j
      show untag (o.2.map (fun p => (j, p.1, p.2)) ++ tags (j + 1) l) = o.2 ++ steps l
      have : untag (o.2.map (fun p => (j, p.1, p.2)) ++ tags (j + 1) l) = untag (o.2.map (fun p => (j, p.1, p.2))) ++ untag (tags (j + 1) l) := by unfold untag; rw [List.map_append]
      rw [this, ih (j + 1)]
      congr 1
      unfold untag
      rw [List.map_map]
      conv => rhs; rw [← List.map_id o.2]
      rfl
  have hmem : ∀ (l : List Ofr) (j : Int), ∀ t ∈ tags j l, j ≤ t.1 ∧ t.1 < j + (l.length : Int) ∧ (t.2.1, t.2.2) ∈ steps l := by
    intro l
    induction l with
    | nil => intro j t ht; cases ht
    | cons o l ih =>
      intro j t ht
      have ht : t ∈ o.2.map (fun p => (j, p.1, p.2)) ++ tags (j + 1) l := ht
      rw [List.length_cons]
      rcases List.mem_append.1 ht with ht | ht
      · obtain ⟨p, hp, rfl⟩ := List.mem_map.1 ht
        exact ⟨Int.le_refl _, by show j < _; omega, by rw [steps_cons]; exact List.mem_append.2 (Or.inl hp)⟩
      · have := ih (j + 1) t ht
        exact ⟨by omega, by omega, by rw [steps_cons]; exact List.mem_append.2 (Or.inr this.2.2)⟩
  have hT : ∀ t ∈ T, 0 ≤ t.2.1 ∧ 0 ≤ t.1 ∧ t.1 < (l.length : Int) := fun t ht => by
    have := hmem l 0 t (hp.mem_iff.1 ht)
    have := h.nn _ this.2.2
    exact ⟨this, by omega, by omega⟩
  have hpu : (untag T).Perm (steps l) := by
    rw [← htag l 0]
    exact hp.map _
  have htot : total (untag T) = total (steps l) := by rw [← lin_one, ← lin_one, lin_perm _ hpu]
  have hnn : Nn (untag T) := fun q hq => h.nn q (hpu.mem_iff.1 hq)
  obtain ⟨a1, a2⟩ := all_U l.length T d hT h0
  have dual' : vAt (untag T) d = p * d - lin (fun t => pos (p - t)) (steps l) := by
    have hle := lin_le p (untag T)
    have e1 := lin_perm (ltF p) hpu
    have e2 := lin_perm (leF p) hpu
    have := vAt_at p (untag T) (d - lin (ltF p) (untag T)) hnn hs (by omega) (by omega)
    rw [show lin (ltF p) (untag T) + (d - lin (ltF p) (untag T)) = d by omega] at this
    rw [this, lin_pos', lin_perm (idF p) hpu, e1, Int.sub_mul, Int.mul_comm d p, Int.mul_comm (lin (ltF p) (steps l)) p]; omega
  have hbest : lin (idF p) (steps l) + (d - lin (ltF p) (steps l)) * p = p * d - lin (fun t => pos (p - t)) (steps l) := by
    rw [lin_pos', Int.sub_mul, Int.mul_comm d p, Int.mul_comm (lin (ltF p) (steps l)) p]; omega
  -- from below, and from above
  have both' : ∀ (m : List Ofr) (ys : List Int) (j : Nat), ys.length = m.length → OffOk m → (∀ (n : Nat) o, m[n]? = some o → l[j + n]? = some o) → (∀ (n : Nat) x, ys[n]? = some x → x = gU ((j + n : Nat) : Int) T d) → p * sumR (fun i => gU i T d) m.length (j : Int) - lin (fun t => pos (p - t)) (steps m) ≤ costSum m ys ∧ costSum m ys ≤ sumR (fun i => gC i T d) m.length (j : Int) := by
    intro m
    induction m with
    | nil =>
      intro ys j _ _ _ _
      show p * 0 - 0 ≤ (0 : Int) ∧ (0 : Int) ≤ 0
      rw [Int.mul_zero]; omega
    | cons o m ih =>
      intro ys j hyl hO hm hy
      cases ys with
      | nil => simp at hyl
      | cons y ys =>
        obtain ⟨b1, b2⟩ := ih ys (j + 1) (by simpa using hyl) hO.tail (fun n o ho => by
          have := hm (n + 1) o (by simpa using ho)
          rwa [show j + (n + 1) = j + 1 + n by omega] at this) (fun n x hn => by
          have := hy (n + 1) x (by simpa using hn)
          rwa [show j + (n + 1) = j + 1 + n by omega] at this)
        have ey := hy 0 y rfl
        have eo := hm 0 o rfl
        rw [Nat.add_zero] at ey eo
        have ho := (hO o (by simp)).2
        have hg : ∀ g, linU (j : Int) g T = lin g o.2 := fun g => by
          rw [linU_perm _ _ hp]
          have := linU_tags g l 0 j o eo
          rwa [Int.zero_add] at this
        have hr := gU_rng (j : Int) T d (fun t ht => (hT t ht).1) h0
        rw [hg, lin_one] at hr
        rw [← ey] at hr
        have c1 := conj_bound p o.2 y ho.nn hr.1 hr.2
        obtain ⟨s, s1, s2⟩ := exists_slope' o.2 y ho.nn ho.srt hr.1 hr.2
        have hle := lin_le s o.2
        have c2 := vAt_at s o.2 (y - lin (ltF s) o.2) ho.nn ho.srt (by omega) (by omega)
        rw [show lin (ltF s) o.2 + (y - lin (ltF s) o.2) = y by omega] at c2
        have c3 := unit_cost (j : Int) s T d (fun t ht => (hT t ht).1) h0
        rw [hg, lin_pos', ← ey] at c3
        rw [Int.sub_mul, Int.mul_comm y s, Int.mul_comm (lin (ltF s) o.2) s] at c2
        show p * (gU (j : Int) T d + sumR (fun i => gU i T d) m.length ((j : Int) + 1)) - lin (fun t => pos (p - t)) (steps (o :: m)) ≤ (if 0 ≤ y ∧ y ≤ total o.2 then vAt o.2 y else 0) + costSum m ys ∧ (if 0 ≤ y ∧ y ≤ total o.2 then vAt o.2 y else 0) + costSum m ys ≤ gC (j : Int) T d + sumR (fun i => gC i T d) m.length ((j : Int) + 1)
        rw [if_pos hr, ← ey, Int.mul_add, steps_cons, lin_append]
        rw [show ((j + 1 : Nat) : Int) = (j : Int) + 1 by omega] at b1 b2
        omega
  obtain ⟨k1, k2⟩ := both' l xs 0 hl h (fun n o ho => by rwa [Nat.zero_add]) (fun n x hn => by rw [Nat.zero_add]; exact hx n x hn)
  rw [show ((0 : Nat) : Int) = 0 from rfl, a1, mn_of_ge (by omega)] at k1
  rw [show ((0 : Nat) : Int) = 0 from rfl, a2, dual'] at k2
  rw [hbest]; omega
end Go.Proofs.Ytodagcbcdkfniaa.VE
