/- The stable sort of slices: merging in place, and the whole (lemmas; no statement is proved here). -/
import Derived.Test.YtamgbcgfjhpedaaDoorVpSortG
namespace Go.Proofs.YtamgbcgfjhpedaaDoor.Srt
open Go Go.RowKit Go.Proofs.YtamgbcgfjhpedaaDoor.VE
set_option linter.unusedVariables false
set_option linter.unusedSimpArgs false
section
variable {α : Type} {S : Sys α} {lt : α → α → Bool} {Ok : α → Prop}
theorem split_at (L : List α) (t : Nat) (h : t < L.length) : ∃ La x Lb, L = La ++ x :: Lb ∧ La.length = t := by
  refine ⟨L.take t, L[t], L.drop (t + 1), ?_, ?_⟩
  · rw [← List.drop_eq_getElem_cons h, List.take_append_drop]
  · rw [List.length_take]; omega
theorem m1_run (hS : Eqs S) (x : α) (T : List α) (i : Int) : ∀ (R1 A : List α) (kk : Int), kk = A.length → i = kk + 1 + R1.length → (i + T.length : Int) ≤ 1152921504606846976 → Ev (fun k => S.m1 k (A ++ x :: (R1 ++ T)) i kk) (A ++ (R1 ++ x :: T))
  | [], A, kk, hk, hi, hl => by
    simp only [List.length_nil] at hi
    refine Ev.step (fun k => hS.m1 k _ _ _) ?_
    rw [w64 (x := i - 1) (by omega) (by omega)]
    exact Ev.neg (by omega) (Ev.now _)
  | y :: R1, A, kk, hk, hi, hl => by
    simp only [List.length_cons] at hi
    have e1 : wrap64 (i - 1) = i - 1 := w64 (by omega) (by omega)
    have e2 : wrap64 (kk + 1) = kk + 1 := w64 (by omega) (by omega)
    have el : ((A ++ x :: (y :: R1 ++ T)).length : Int) = A.length + R1.length + 2 + T.length := by simp; omega
    have r1 : S.rd (A ++ x :: (y :: R1 ++ T)) kk = x := rdE _ A x (y :: R1 ++ T) _ (by simp) (by omega)
    have r2 : S.rd (A ++ x :: (y :: R1 ++ T)) (kk + 1) = y := rdE _ (A ++ [x]) y (R1 ++ T) _ (by simp) (by simp; omega)
    have es : ((A ++ x :: (y :: R1 ++ T)).set kk.toNat y).set (kk + 1).toNat x = A ++ [y] ++ x :: (R1 ++ T) := by
      have := swap_lo A x [] y (R1 ++ T) kk.toNat (kk + 1).toNat (by omega) (by simp; omega)
      rw [show A ++ [y] ++ x :: (R1 ++ T) = A ++ y :: ([] ++ x :: (R1 ++ T)) by simp, ← this]; simp
    have ih := m1_run hS x T i R1 (A ++ [y]) (kk + 1) (by simp; omega) (by omega) hl
    refine Ev.step (fun k => hS.m1 k _ _ _) ?_
    simp only [e1, e2, r1, r2, es]
    refine Ev.pos (by omega) (Ev.pos (by omega) (Ev.pos (by omega) (Ev.pos (by omega) (Ev.pos (by omega) ?_))))
    rw [show A ++ [y] ++ (R1 ++ x :: T) = A ++ (y :: R1 ++ x :: T) by simp] at ih
    exact ih
theorem m3_run (hS : Eqs S) (y : α) (P : List α) (i : Int) (hi : i = P.length) : ∀ (n : Nat) (L2 T : List α) (kk : Int), L2.length = n → kk = P.length + L2.length → (kk + 1 + T.length : Int) ≤ 1152921504606846976 → Ev (fun k => S.m3 k (P ++ (L2 ++ y :: T)) i kk) (P ++ y :: (L2 ++ T))
  | 0, L2, T, kk, hn, hk, hl => by
    have : L2 = [] := List.eq_nil_of_length_eq_zero hn
    subst this
    simp only [List.length_nil] at hk
    refine Ev.step (fun k => hS.m3 k _ _ _) ?_
    exact Ev.neg (by omega) (Ev.now _)
  | n + 1, L2, T, kk, hn, hk, hl => by
    have hne : L2 ≠ [] := by intro h; rw [h] at hn; simp at hn
    obtain ⟨L2', z, rfl⟩ : ∃ c x, L2 = c ++ [x] := ⟨L2.dropLast, L2.getLast hne, (List.dropLast_concat_getLast hne).symm⟩
    simp only [List.length_append, List.length_cons, List.length_nil] at hn hk
    have e1 : wrap64 (kk - 1) = kk - 1 := w64 (by omega) (by omega)
    have el : ((P ++ (L2' ++ [z] ++ y :: T)).length : Int) = P.length + L2'.length + 2 + T.length := by simp; omega
    have r1 : S.rd (P ++ (L2' ++ [z] ++ y :: T)) kk = y := rdE _ (P ++ (L2' ++ [z])) y T _ (by simp) (by simp; omega)
    have r2 : S.rd (P ++ (L2' ++ [z] ++ y :: T)) (kk - 1) = z := rdE _ (P ++ L2') z (y :: T) _ (by simp) (by simp; omega)
    have es : ((P ++ (L2' ++ [z] ++ y :: T)).set kk.toNat z).set (kk - 1).toNat y = P ++ (L2' ++ y :: (z :: T)) := by
      have := swap_hi (P ++ L2') z [] y T (kk - 1).toNat kk.toNat (by simp; omega) (by simp; omega)
      rw [show P ++ (L2' ++ y :: (z :: T)) = (P ++ L2') ++ y :: ([] ++ z :: T) by simp, ← this]; simp
    have ih := m3_run hS y P i hi n L2' (z :: T) (kk - 1) (by omega) (by omega) (by simp; omega)
    refine Ev.step (fun k => hS.m3 k _ _ _) ?_
    simp only [e1, r1, r2, es]
    refine Ev.pos (by omega) (Ev.pos (by omega) (Ev.pos (by omega) (Ev.pos (by omega) (Ev.pos (by omega) ?_))))
    rw [show P ++ y :: (L2' ++ [z] ++ T) = P ++ y :: (L2' ++ z :: T) by simp]
    exact ih
theorem m0_run (hS : Eqs S) (hs : SWO lt) (hc : Cmp S lt Ok) (d A R B : List α) (x : α) (a m : Int) (ha : a = A.length) (hm : m = a + 1) (hx : Ok x) (hd : d = A ++ x :: (R ++ B)) (hl : (d.length : Int) ≤ 1152921504606846976) (hO : ∀ y ∈ R, Ok y) (r : List α) (hpost : ∀ R1 R2, R = R1 ++ R2 → (∀ y ∈ R1, lt y x = true) → (∀ y ∈ R2, lt y x = false) → Ev (fun k => S.m1 k d (m + R1.length) a) r) : ∀ (n : Nat) (R1 Rm R2 : List α) (i j : Int), Rm.length ≤ n → R = R1 ++ (Rm ++ R2) → i = m + R1.length → j = i + Rm.length → (∀ y ∈ R1, lt y x = true) → (∀ y ∈ R2, lt y x = false) → Srtd lt Rm → Ev (fun k => S.m0 k d a i j) r := by
  have el : (d.length : Int) = A.length + 1 + R.length + B.length := by rw [hd]; simp; omega
  intro n
  induction n with
  | zero =>
    intro R1 Rm R2 i j hn hR hi hj h1 h2 hso
    have : Rm = [] := List.eq_nil_of_length_eq_zero (by omega)
    subst this
    simp only [List.length_nil] at hj
    refine Ev.step (fun k => hS.m0 k _ _ _ _) (Ev.neg (by omega) ?_)
    rw [hi]
    exact hpost R1 R2 (by rw [hR]; rfl) h1 h2
  | succ n ih =>
    intro R1 Rm R2 i j hn hR hi hj h1 h2 hso
    have elR : R.length = R1.length + (Rm.length + R2.length) := by rw [hR]; simp
    refine Ev.step (fun k => hS.m0 k _ _ _ _) (Ev.ite (fun hij => ?_) (fun hij => ?_))
    · have eh : half i j = (i + j) / 2 := half_eq (by omega) (by omega) (by omega) (by omega)
      obtain ⟨Ra, y, Rb, hRm, hla⟩ := split_at Rm ((i + j) / 2 - i).toNat (by omega)
      have elm : Rm.length = Ra.length + 1 + Rb.length := by rw [hRm]; simp; omega
      have e1 : wrap64 ((i + j) / 2 + 1) = (i + j) / 2 + 1 := w64 (by omega) (by omega)
      have r1 : S.rd d ((i + j) / 2) = y := rdE _ (A ++ x :: (R1 ++ Ra)) y (Rb ++ (R2 ++ B)) _ (by rw [hd, hR, hRm]; simp) (by simp; omega)
      have r2 : S.rd d a = x := rdE _ A x (R ++ B) _ hd ha
      simp only [eh, e1, r1, r2]
      refine Ev.pos (by omega) (Ev.pos (by omega) (Ev.pos (by omega) (Ev.pos (by omega) ?_)))
      obtain ⟨c, hcE, hcI⟩ := hc y x (hO y (by rw [hR, hRm]; simp)) hx
      refine Ev.bind hcE ?_
      rw [hRm] at hso
      have hp := List.pairwise_append.1 hso
      have hp2 := List.pairwise_cons.1 hp.2.1
      refine Ev.ite (fun hlt => ?_) (fun hge => ?_)
      · have hyx : lt y x = true := hcI.1 hlt
        refine ih (R1 ++ (Ra ++ [y])) Rb R2 _ _ (by omega) (by rw [hR, hRm]; simp) (by simp; omega) (by omega) (fun v hv => ?_) h2 hp2.2
        rcases List.mem_append.1 hv with hv | hv
        · exact h1 v hv
        · rcases List.mem_append.1 hv with hv | hv
          · exact hs.le_lt (hp.2.2 v hv y (by simp)) hyx
          · rw [List.mem_singleton] at hv; subst hv; exact hyx
      · have hyx : lt y x = false := by
          cases hq : lt y x with
          | false => rfl
          | true => exact absurd (hcI.2 hq) hge
        refine ih R1 Ra (y :: (Rb ++ R2)) _ _ (by omega) (by rw [hR, hRm]; simp) (by omega) (by omega) h1 (fun v hv => ?_) hp.1
        rcases List.mem_cons.1 hv with rfl | hv
        · exact hyx
        · rcases List.mem_append.1 hv with hv | hv
          · exact hs.neg (hp2.1 v hv) hyx
          · exact h2 v hv
    · have : Rm = [] := List.eq_nil_of_length_eq_zero (by omega)
      subst this
      rw [hi]
      exact hpost R1 R2 (by rw [hR]; rfl) h1 h2
theorem m2_run (hS : Eqs S) (hs : SWO lt) (hc : Cmp S lt Ok) (d A L B : List α) (y : α) (a m : Int) (ha : a = A.length) (hm : m = a + L.length) (hy : Ok y) (hd : d = A ++ (L ++ y :: B)) (hl : (d.length : Int) ≤ 1152921504606846976) (hO : ∀ y ∈ L, Ok y) (r : List α) (hpost : ∀ L1 L2, L = L1 ++ L2 → (∀ z ∈ L1, lt y z = false) → (∀ z ∈ L2, lt y z = true) → Ev (fun k => S.m3 k d (a + L1.length) m) r) : ∀ (n : Nat) (L1 Lm L2 : List α) (i j : Int), Lm.length ≤ n → L = L1 ++ (Lm ++ L2) → i = a + L1.length → j = i + Lm.length → (∀ z ∈ L1, lt y z = false) → (∀ z ∈ L2, lt y z = true) → Srtd lt Lm → Ev (fun k => S.m2 k d m i j) r := by
  have el : (d.length : Int) = A.length + L.length + 1 + B.length := by rw [hd]; simp; omega
  intro n
  induction n with
  | zero =>
    intro L1 Lm L2 i j hn hL hi hj h1 h2 hso
    have : Lm = [] := List.eq_nil_of_length_eq_zero (by omega)
    subst this
    simp only [List.length_nil] at hj
    refine Ev.step (fun k => hS.m2 k _ _ _ _) (Ev.neg (by omega) ?_)
    rw [hi]
    exact hpost L1 L2 (by rw [hL]; rfl) h1 h2
  | succ n ih =>
    intro L1 Lm L2 i j hn hL hi hj h1 h2 hso
    have elL : L.length = L1.length + (Lm.length + L2.length) := by rw [hL]; simp
    refine Ev.step (fun k => hS.m2 k _ _ _ _) (Ev.ite (fun hij => ?_) (fun hij => ?_))
    · have eh : half i j = (i + j) / 2 := half_eq (by omega) (by omega) (by omega) (by omega)
      obtain ⟨La, z, Lb, hLm, hla⟩ := split_at Lm ((i + j) / 2 - i).toNat (by omega)
      have elm : Lm.length = La.length + 1 + Lb.length := by rw [hLm]; simp; omega
      have e1 : wrap64 ((i + j) / 2 + 1) = (i + j) / 2 + 1 := w64 (by omega) (by omega)
      have r1 : S.rd d ((i + j) / 2) = z := rdE _ (A ++ (L1 ++ La)) z (Lb ++ (L2 ++ y :: B)) _ (by rw [hd, hL, hLm]; simp) (by simp; omega)
      have r2 : S.rd d m = y := rdE _ (A ++ L) y B _ (by rw [hd]; simp) (by simp; omega)
      simp only [eh, e1, r1, r2]
      refine Ev.pos (by omega) (Ev.pos (by omega) (Ev.pos (by omega) (Ev.pos (by omega) ?_)))
      obtain ⟨c, hcE, hcI⟩ := hc y z hy (hO z (by rw [hL, hLm]; simp))
      refine Ev.bind hcE ?_
      rw [hLm] at hso
      have hp := List.pairwise_append.1 hso
      have hp2 := List.pairwise_cons.1 hp.2.1
      refine Ev.ite (fun hlt => ?_) (fun hge => ?_)
      · have hyz : lt y z = true := hcI.1 hlt
        refine ih L1 La (z :: (Lb ++ L2)) _ _ (by omega) (by rw [hL, hLm]; simp) (by omega) (by omega) h1 (fun v hv => ?_) hp.1
        rcases List.mem_cons.1 hv with rfl | hv
        · exact hyz
        · rcases List.mem_append.1 hv with hv | hv
          · exact hs.lt_le hyz (hp2.1 v hv)
          · exact h2 v hv
      · have hyz : lt y z = false := by
          cases hq : lt y z with
          | false => rfl
          | true => exact absurd (hcI.2 hq) hge
        refine ih (L1 ++ (La ++ [z])) Lb L2 _ _ (by omega) (by rw [hL, hLm]; simp) (by simp; omega) (by omega) (fun v hv => ?_) h2 hp2.2
        rcases List.mem_append.1 hv with hv | hv
        · exact h1 v hv
        · rcases List.mem_append.1 hv with hv | hv
          · exact hs.neg hyz (hp.2.2 v hv z (by simp))
          · rw [List.mem_singleton] at hv; subst hv; exact hyz
    · have : Lm = [] := List.eq_nil_of_length_eq_zero (by omega)
      subst this
      rw [hi]
      exact hpost L1 L2 (by rw [hL]; rfl) h1 h2
theorem l4_run (hS : Eqs S) (hs : SWO lt) (hc : Cmp S lt Ok) (d A L R B : List α) (a m b mid n p : Int) (ha : a = A.length) (hm : m = a + L.length) (hb : b = m + R.length) (hp : p = n - 1) (hd : d = A ++ (L ++ (R ++ B))) (hl : (d.length : Int) ≤ 576460752303423488) (hOL : ∀ y ∈ L, Ok y) (hOR : ∀ y ∈ R, Ok y) (sL : Srtd lt L) (sR : Srtd lt R) (res : List α) (hpost : ∀ (L1 L2 R1 R2 : List α) (s : Int), L = L1 ++ L2 → R = R1 ++ R2 → s = a + L1.length → n - s = m + R1.length → (∀ x ∈ L1, ∀ y ∈ R2, lt y x = false) → (∀ x ∈ L2, ∀ y ∈ R1, lt y x = true) → Ev (fun k => if s < m then (if m < wrap64 (n - s) then ((S.r0 k d m (wrap64 (m - s)) (wrap64 (wrap64 (n - s) - m))).bind fun t => S.j7 k t a b mid s (wrap64 (n - s))) else S.j7 k d a b mid s (wrap64 (n - s))) else S.j7 k d a b mid s (wrap64 (n - s))) res) : ∀ (g : Nat) (s r : Int), (r - s).toNat ≤ g → s ≤ r → a ≤ s → r ≤ m → m ≤ n - r → n - s ≤ b → (∀ x ∈ L.take (s - a).toNat, ∀ y ∈ R.drop (n - s - m).toNat, lt y x = false) → (∀ x ∈ L.drop (r - a).toNat, ∀ y ∈ R.take (n - r - m).toNat, lt y x = true) → Ev (fun k => S.l4 k d a m b mid n s r p) res := by
  have el : (d.length : Int) = A.length + L.length + R.length + B.length := by rw [hd]; simp; omega
  have done : ∀ (s r : Int), r = s → a ≤ s → r ≤ m → m ≤ n - r → n - s ≤ b → (∀ x ∈ L.take (s - a).toNat, ∀ y ∈ R.drop (n - s - m).toNat, lt y x = false) → (∀ x ∈ L.drop (r - a).toNat, ∀ y ∈ R.take (n - r - m).toNat, lt y x = true) → Ev (fun k => if s < m then (if m < wrap64 (n - s) then ((S.r0 k d m (wrap64 (m - s)) (wrap64 (wrap64 (n - s) - m))).bind fun t => S.j7 k t a b mid s (wrap64 (n - s))) else S.j7 k d a b mid s (wrap64 (n - s))) else S.j7 k d a b mid s (wrap64 (n - s))) res := by
    intro s r hsr h1 h2 h3 h4 hI hJ
    subst hsr
    exact hpost (L.take (r - a).toNat) (L.drop (r - a).toNat) (R.take (n - r - m).toNat) (R.drop (n - r - m).toNat) r (List.take_append_drop _ _).symm (List.take_append_drop _ _).symm (by rw [List.length_take]; omega) (by rw [List.length_take]; omega) hI hJ
  intro g
  induction g with
  | zero =>
    intro s r hg h0 h1 h2 h3 h4 hI hJ
    refine Ev.step (fun k => hS.l4 k _ _ _ _ _ _ _ _ _) (Ev.neg (by omega) ?_)
    exact done s r (by omega) h1 h2 h3 h4 hI hJ
  | succ g ih =>
    intro s r hg h0 h1 h2 h3 h4 hI hJ
    refine Ev.step (fun k => hS.l4 k _ _ _ _ _ _ _ _ _) (Ev.ite (fun hsr => ?_) (fun hsr => done s r (by omega) h1 h2 h3 h4 hI hJ))
    have eh : half s r = (s + r) / 2 := half_eq (by omega) (by omega) (by omega) (by omega)
    obtain ⟨c, hcd⟩ : ∃ c, c = (s + r) / 2 := ⟨_, rfl⟩
    rw [← hcd] at eh
    obtain ⟨La, x, Lb, hL, hla⟩ := split_at L (c - a).toNat (by omega)
    obtain ⟨Ra, y, Rb, hR, hra⟩ := split_at R (p - c - m).toNat (by omega)
    have e1 : wrap64 (c + 1) = c + 1 := w64 (by omega) (by omega)
    have e2 : wrap64 (p - c) = p - c := w64 (by omega) (by omega)
    have r1 : S.rd d c = x := rdE _ (A ++ La) x (Lb ++ (R ++ B)) _ (by rw [hd, hL]; simp) (by simp; omega)
    have r2 : S.rd d (p - c) = y := rdE _ (A ++ (L ++ Ra)) y (Rb ++ B) _ (by rw [hd, hR]; simp) (by simp; omega)
    simp only [eh, e1, e2, r1, r2]
    refine Ev.pos (by omega) (Ev.pos (by omega) (Ev.pos (by omega) (Ev.pos (by omega) ?_)))
    obtain ⟨cc, hcE, hcI⟩ := hc y x (hOR y (by rw [hR]; simp)) (hOL x (by rw [hL]; simp))
    refine Ev.bind hcE ?_
    have pL := List.pairwise_append.1 (hL ▸ sL)
    have pL2 := List.pairwise_cons.1 pL.2.1
    have pR := List.pairwise_append.1 (hR ▸ sR)
    have pR2 := List.pairwise_cons.1 pR.2.1
    refine Ev.ite (fun hlt => ?_) (fun hge => ?_)
    · have hyx : lt y x = true := hcI.1 hlt
      refine ih s c (by omega) (by omega) h1 (by omega) (by omega) h4 hI (fun u hu v hv => ?_)
      rw [hL, List.drop_left' (by omega)] at hu
      rw [hR, show Ra ++ y :: Rb = (Ra ++ [y]) ++ Rb by simp, List.take_left' (by simp; omega)] at hv
      have hvx : lt v x = true := by
        rcases List.mem_append.1 hv with hv | hv
        · exact hs.le_lt (pR.2.2 v hv y (by simp)) hyx
        · rw [List.mem_singleton] at hv; subst hv; exact hyx
      rcases List.mem_cons.1 hu with rfl | hu
      · exact hvx
      · exact hs.lt_le hvx (pL2.1 u hu)
    · have hyx : lt y x = false := by
        cases hq : lt y x with
        | false => rfl
        | true => exact absurd (hcI.2 hq) hge
      refine ih (c + 1) r (by omega) (by omega) (by omega) h2 h3 (by omega) (fun u hu v hv => ?_) hJ
      rw [hL, show La ++ x :: Lb = (La ++ [x]) ++ Lb by simp, List.take_left' (by simp; omega)] at hu
      rw [hR, List.drop_left' (by omega)] at hv
      have hvx : lt v x = false := by
        rcases List.mem_cons.1 hv with rfl | hv
        · exact hyx
        · exact hs.neg (pR2.1 v hv) hyx
      rcases List.mem_append.1 hu with hu | hu
      · exact hs.neg hvx (pL.2.2 u hu x (by simp))
      · rw [List.mem_singleton] at hu; subst hu; exact hvx
/-- What symMerge does. -/
def MfOk (S : Sys α) (lt : α → α → Bool) (Ok : α → Prop) (n : Nat) : Prop := ∀ (A L R B : List α) (a m b : Int), L.length + R.length ≤ n → L ≠ [] → R ≠ [] → a = A.length → m = a + L.length → b = m + R.length → (b + B.length : Int) ≤ 576460752303423488 → (∀ y ∈ L, Ok y) → (∀ y ∈ R, Ok y) → Srtd lt L → Srtd lt R → Ev (fun k => S.mf k (A ++ (L ++ (R ++ B))) a m b) (A ++ (mrg lt L R ++ B))
theorem second_run {n : Nat} (hM : MfOk S lt Ok n) (A L R B : List α) (a m b : Int) (hn : L.length + R.length ≤ n) (ha : a = A.length) (hm : m = a + L.length) (hb : b = m + R.length) (hl : (b + B.length : Int) ≤ 576460752303423488) (hOL : ∀ y ∈ L, Ok y) (hOR : ∀ y ∈ R, Ok y) (sL : Srtd lt L) (sR : Srtd lt R) : Ev (fun k => if a < m then (if m < b then ((S.mf k (A ++ (L ++ (R ++ B))) a m b).bind fun t => some t) else some (A ++ (L ++ (R ++ B)))) else some (A ++ (L ++ (R ++ B)))) (A ++ (mrg lt L R ++ B)) := by
  cases L with
  | nil =>
    simp only [List.length_nil] at hm
    rw [mrg_nil_left]
    exact Ev.neg (by omega) (Ev.now _)
  | cons x L =>
    simp only [List.length_cons] at hm
    refine Ev.pos (by omega) ?_
    cases R with
    | nil =>
      simp only [List.length_nil] at hb
      rw [mrg_nil_right]
      exact Ev.neg (by omega) (Ev.now _)
    | cons y R =>
      simp only [List.length_cons] at hb
      refine Ev.pos (by omega) (Ev.bind (hM A (x :: L) (y :: R) B a m b hn (by simp) (by simp) ha (by simp; omega) (by simp; omega) hl hOL hOR sL sR) (Ev.now _))
theorem j7_run (hS : Eqs S) {n : Nat} (hM : MfOk S lt Ok n) (A L1 R1 L2 R2 B : List α) (a s mid e b : Int) (h1 : L1.length + R1.length ≤ n) (h2 : L2.length + R2.length ≤ n) (ha : a = A.length) (hs' : s = a + L1.length) (hmid : mid = s + R1.length) (he : e = mid + L2.length) (hb : b = e + R2.length) (hl : (b + B.length : Int) ≤ 576460752303423488) (o1 : ∀ y ∈ L1, Ok y) (o2 : ∀ y ∈ R1, Ok y) (o3 : ∀ y ∈ L2, Ok y) (o4 : ∀ y ∈ R2, Ok y) (s1 : Srtd lt L1) (s2 : Srtd lt R1) (s3 : Srtd lt L2) (s4 : Srtd lt R2) : Ev (fun k => S.j7 k (A ++ (L1 ++ (R1 ++ (L2 ++ (R2 ++ B))))) a b mid s e) (A ++ (mrg lt L1 R1 ++ (mrg lt L2 R2 ++ B))) := by
  have hsec := second_run hM (A ++ mrg lt L1 R1) L2 R2 B mid e b h2 (by rw [List.length_append, mrg_length]; omega) he hb hl o3 o4 s3 s4
  rw [show A ++ mrg lt L1 R1 ++ (L2 ++ (R2 ++ B)) = A ++ (mrg lt L1 R1 ++ (L2 ++ (R2 ++ B))) by simp, show A ++ mrg lt L1 R1 ++ (mrg lt L2 R2 ++ B) = A ++ (mrg lt L1 R1 ++ (mrg lt L2 R2 ++ B)) by simp] at hsec
  have hno : L1 = [] ∨ R1 = [] → Ev (fun k => S.tl k (A ++ (L1 ++ (R1 ++ (L2 ++ (R2 ++ B))))) b mid e) (A ++ (mrg lt L1 R1 ++ (mrg lt L2 R2 ++ B))) := by
    intro h
    have : L1 ++ (R1 ++ (L2 ++ (R2 ++ B))) = mrg lt L1 R1 ++ (L2 ++ (R2 ++ B)) := by
      rcases h with rfl | rfl
      · rw [mrg_nil_left]; simp
      · rw [mrg_nil_right]; simp
    rw [this]
    exact hsec
  refine Ev.step (fun k => hS.j7 k _ _ _ _ _ _) (Ev.ite (fun h => ?_) (fun h => hno (Or.inl (List.eq_nil_of_length_eq_zero (by omega)))))
  refine Ev.ite (fun hR => ?_) (fun hR => hno (Or.inr (List.eq_nil_of_length_eq_zero (by omega))))
  exact Ev.bind (hM A L1 R1 (L2 ++ (R2 ++ B)) a s mid h1 (by intro h0; rw [h0] at hs'; simp at hs'; omega) (by intro h0; rw [h0] at hmid; simp at hmid; omega) ha hs' hmid (by simp; omega) o1 o2 s1 s2) hsec
theorem mf_run (hS : Eqs S) (hs : SWO lt) (hc : Cmp S lt Ok) : ∀ n, MfOk S lt Ok n := by
  intro n
  induction n with
  | zero => intro A L R B a m b h hL; exact absurd (List.eq_nil_of_length_eq_zero (by omega)) hL
  | succ n ih =>
    intro A L R B a m b hn hL hR ha hm hb hl hOL hOR sL sR
    have pL := List.length_pos_iff.2 hL
    have pR := List.length_pos_iff.2 hR
    have el : ((A ++ (L ++ (R ++ B))).length : Int) = A.length + L.length + R.length + B.length := by simp; omega
    have e1 : wrap64 (m - a) = m - a := w64 (by omega) (by omega)
    have e2 : wrap64 (b - m) = b - m := w64 (by omega) (by omega)
    refine Ev.step (fun k => hS.mf k _ _ _ _) ?_
    rw [e1, e2]
    refine Ev.ite (fun h1 => ?_) (fun h1 => Ev.ite (fun h2 => ?_) (fun h2 => ?_))
    · obtain ⟨x, rfl⟩ : ∃ x, L = [x] := List.length_eq_one_iff.1 (by omega)
      simp only [List.length_singleton] at hm el hn
      refine m0_run hS hs hc (A ++ ([x] ++ (R ++ B))) A R B x a m ha hm (hOL x (by simp)) (by simp) (by omega) hOR _ (fun R1 R2 hR12 g1 g2 => ?_) _ [] R [] m b (Nat.le_refl _) (by simp) (by simp) hb (by simp) (by simp) sR
      have hlen : R.length = R1.length + R2.length := by rw [hR12]; simp
      have := m1_run hS x (R2 ++ B) (m + R1.length) R1 A a ha (by omega) (by simp; omega)
      rw [hR12, one_mrg R1 R2 x g1 g2]
      rw [show A ++ ([x] ++ (R1 ++ R2 ++ B)) = A ++ x :: (R1 ++ (R2 ++ B)) by simp, show A ++ (R1 ++ x :: R2 ++ B) = A ++ (R1 ++ x :: (R2 ++ B)) by simp]
      exact this
    · obtain ⟨y, rfl⟩ : ∃ y, R = [y] := List.length_eq_one_iff.1 (by omega)
      refine m2_run hS hs hc (A ++ (L ++ ([y] ++ B))) A L B y a m ha hm (hOR y (by simp)) (by simp) (by omega) hOL _ (fun L1 L2 hL12 g1 g2 => ?_) _ [] L [] a m (Nat.le_refl _) (by simp) (by simp) hm (by simp) (by simp) sL
      have hlen : L.length = L1.length + L2.length := by rw [hL12]; simp
      have := m3_run hS y (A ++ L1) (a + L1.length) (by simp; omega) _ L2 B m rfl (by simp; omega) (by simp at hb; omega)
      rw [hL12, mrg_one L1 L2 y g1 g2]
      rw [show A ++ (L1 ++ L2 ++ ([y] ++ B)) = A ++ L1 ++ (L2 ++ y :: B) by simp, show A ++ (L1 ++ y :: L2 ++ B) = A ++ L1 ++ y :: (L2 ++ B) by simp]
      exact this
    · have eh : half a b = (a + b) / 2 := half_eq (by omega) (by omega) (by omega) (by omega)
      obtain ⟨mid, hmid⟩ : ∃ mid, mid = (a + b) / 2 := ⟨_, rfl⟩
      rw [eh, ← hmid]
      have e3 : wrap64 (mid + m) = mid + m := w64 (by omega) (by omega)
      have e4 : wrap64 (mid + m - b) = mid + m - b := w64 (by omega) (by omega)
      rw [e3, e4]
      have hpost : ∀ (L1 L2 R1 R2 : List α) (s : Int), L = L1 ++ L2 → R = R1 ++ R2 → s = a + L1.length → mid + m - s = m + R1.length → (∀ x ∈ L1, ∀ y ∈ R2, lt y x = false) → (∀ x ∈ L2, ∀ y ∈ R1, lt y x = true) → Ev (fun k => if s < m then (if m < wrap64 (mid + m - s) then ((S.r0 k (A ++ (L ++ (R ++ B))) m (wrap64 (m - s)) (wrap64 (wrap64 (mid + m - s) - m))).bind fun t => S.j7 k t a b mid s (wrap64 (mid + m - s))) else S.j7 k (A ++ (L ++ (R ++ B))) a b mid s (wrap64 (mid + m - s))) else S.j7 k (A ++ (L ++ (R ++ B))) a b mid s (wrap64 (mid + m - s))) (A ++ (mrg lt L R ++ B)) := by
        intro L1 L2 R1 R2 s hL12 hR12 hs1 hs2 g1 g2
        have l1 : L.length = L1.length + L2.length := by rw [hL12]; simp
        have l2 : R.length = R1.length + R2.length := by rw [hR12]; simp
        have e5 : wrap64 (mid + m - s) = mid + m - s := w64 (by omega) (by omega)
        rw [hL12] at sL hOL
        rw [hR12] at sR hOR
        have q1 := List.pairwise_append.1 sL
        have q2 := List.pairwise_append.1 sR
        have hfin : A ++ (mrg lt L R ++ B) = A ++ (mrg lt L1 R1 ++ (mrg lt L2 R2 ++ B)) := by
          rw [hL12, hR12, mrg_split L2 R2 _ L1 R1 (Nat.le_refl _) g1 g2]; simp
        have h7 := j7_run hS ih A L1 R1 L2 R2 B a s mid (mid + m - s) b (by omega) (by omega) ha hs1 (by omega) (by omega) (by omega) hl (fun v hv => hOL v (by simp [hv])) (fun v hv => hOR v (by simp [hv])) (fun v hv => hOL v (by simp [hv])) (fun v hv => hOR v (by simp [hv])) q1.1 q2.1 q1.2.1 q2.2.1
        rw [e5, hfin]
        have hno : L2 = [] ∨ R1 = [] → Ev (fun k => S.j7 k (A ++ (L ++ (R ++ B))) a b mid s (mid + m - s)) (A ++ (mrg lt L1 R1 ++ (mrg lt L2 R2 ++ B))) := by
          intro h
          have : A ++ (L ++ (R ++ B)) = A ++ (L1 ++ (R1 ++ (L2 ++ (R2 ++ B)))) := by
            rw [hL12, hR12]
            rcases h with rfl | rfl <;> simp
          rw [this]
          exact h7
        refine Ev.ite (fun hsm => ?_) (fun hsm => hno (Or.inl (List.eq_nil_of_length_eq_zero (by omega))))
        refine Ev.ite (fun hme => ?_) (fun hme => hno (Or.inr (List.eq_nil_of_length_eq_zero (by omega))))
        have e6 : wrap64 (m - s) = (L2.length : Int) := by rw [w64 (by omega) (by omega)]; omega
        have e7 : wrap64 (mid + m - s - m) = (R1.length : Int) := by rw [w64 (by omega) (by omega)]; omega
        rw [e6, e7]
        have hr := r0_run hS m _ (A ++ L1) L2 R1 (R2 ++ B) (Nat.le_refl _) (by intro h0; rw [h0] at l1; simp at l1; omega) (by intro h0; rw [h0, List.length_nil] at hs2; omega) (by rw [List.length_append]; omega) (by rw [List.length_append, List.length_append]; omega)
        rw [show A ++ L1 ++ (L2 ++ (R1 ++ (R2 ++ B))) = A ++ (L ++ (R ++ B)) by rw [hL12, hR12]; simp, show A ++ L1 ++ (R1 ++ (L2 ++ (R2 ++ B))) = A ++ (L1 ++ (R1 ++ (L2 ++ (R2 ++ B)))) by simp] at hr
        exact Ev.bind hr h7
      have e8 : wrap64 (mid + m - 1) = mid + m - 1 := w64 (by omega) (by omega)
      refine Ev.ite (fun hgt => ?_) (fun hle => ?_)
      · refine Ev.step (fun k => hS.j4 k _ _ _ _ _ _ _ _) ?_
        rw [e8]
        refine l4_run hS hs hc _ A L R B a m b mid (mid + m) (mid + m - 1) ha hm hb rfl rfl (by omega) hOL hOR sL sR _ hpost _ (mid + m - b) mid (Nat.le_refl _) (by omega) (by omega) (by omega) (by omega) (by omega) (fun x hx y hy => ?_) (fun x hx y hy => ?_)
        · rw [show (mid + m - (mid + m - b) - m).toNat = R.length by omega, List.drop_length] at hy
          simp at hy
        · rw [show (mid + m - mid - m).toNat = 0 by omega] at hy
          simp at hy
      · refine Ev.step (fun k => hS.j4 k _ _ _ _ _ _ _ _) ?_
        rw [e8]
        refine l4_run hS hs hc _ A L R B a m b mid (mid + m) (mid + m - 1) ha hm hb rfl rfl (by omega) hOL hOR sL sR _ hpost _ a m (Nat.le_refl _) (by omega) (by omega) (by omega) (by omega) (by omega) (fun x hx y hy => ?_) (fun x hx y hy => ?_)
        · rw [show (a - a).toNat = 0 by omega] at hx
          simp at hx
        · rw [show (m - a).toNat = L.length by omega, List.drop_length] at hx
          simp at hx
/-- A list whose parts of some length are sorted, each for itself. -/
inductive Blk (lt : α → α → Bool) (bs : Nat) : List α → List α → Prop
  | last (l : List α) : l.length ≤ bs → Blk lt bs l (ssort lt l)
  | more (c l d : List α) : c.length = bs → Blk lt bs l d → Blk lt bs (c ++ l) (ssort lt c ++ d)
theorem Blk.len (hs : SWO lt) {bs : Nat} {l d : List α} (h : Blk lt bs l d) : d.length = l.length := by
  induction h with
  | last l h => exact ssort_length hs l
  | more c l d hc h ih => rw [List.length_append, List.length_append, ih, ssort_length hs]
theorem Blk.short (hs : SWO lt) {bs : Nat} {l d : List α} (h : Blk lt bs l d) (hl : l.length ≤ bs) : d = ssort lt l := by
  cases h with
  | last l h => rfl
  | more c l d hc h =>
    rw [List.length_append] at hl
    have : l = [] := List.eq_nil_of_length_eq_zero (by omega)
    subst this
    have hd : d = [] := List.eq_nil_of_length_eq_zero (by rw [Blk.len hs h]; rfl)
    rw [hd, List.append_nil, List.append_nil]
theorem Blk.head (hs : SWO lt) {bs : Nat} {l d : List α} (h : Blk lt bs l d) (hl : bs ≤ l.length) : ∃ c l' d', l = c ++ l' ∧ d = ssort lt c ++ d' ∧ c.length = bs ∧ Blk lt bs l' d' := by
  cases h with
  | last l h => exact ⟨l, [], [], by simp, by simp, by omega, Blk.last [] (by simp)⟩
  | more c l d hc h => exact ⟨c, l, d, rfl, rfl, hc, h⟩
theorem s2_run (hS : Eqs S) (hs : SWO lt) (hc : Cmp S lt Ok) (bs : Nat) (n : Int) (r : List α) (hbs : 0 < bs) (hn : n ≤ 288230376151711744) (hbn : (bs : Int) < n) : ∀ (N : Nat) (A l d : List α) (a : Int), l.length ≤ N → a = A.length → n = a + l.length → (∀ y ∈ l, Ok y) → Blk lt bs l d → (∀ d', Blk lt (2 * bs) l d' → Ev (fun k => S.s1 k (A ++ d') n (2 * bs : Nat)) r) → Ev (fun k => S.s2 k (A ++ d) n bs a (a + 2 * bs)) r := by
  intro N
  induction N with
  | zero =>
    intro A l d a hN ha hna hO hB hpost
    have e2 : wrap64 ((bs : Int) * 2) = ((2 * bs : Nat) : Int) := by rw [w64 (by omega) (by omega)]; omega
    have e3 : wrap64 (a + bs) = a + bs := w64 (by omega) (by omega)
    refine Ev.step (fun k => hS.s2 k _ _ _ _ _) (Ev.neg (by omega) ?_)
    rw [e2, e3]
    refine Ev.neg (by omega) (hpost d ?_)
    rw [Blk.short hs hB (by omega)]
    exact Blk.last l (by omega)
  | succ N ih =>
    intro A l d a hN ha hna hO hB hpost
    have e1 : wrap64 (2 * (bs : Int)) = 2 * bs := w64 (by omega) (by omega)
    have e2 : wrap64 ((bs : Int) * 2) = ((2 * bs : Nat) : Int) := by rw [w64 (by omega) (by omega)]; omega
    have e3 : wrap64 (a + bs) = a + bs := w64 (by omega) (by omega)
    refine Ev.step (fun k => hS.s2 k _ _ _ _ _) ?_
    rw [e1, e2, e3]
    refine Ev.ite (fun hle => ?_) (fun hgt => Ev.ite (fun hlt => ?_) (fun hge => ?_))
    · obtain ⟨c1, l1, d1, hl1, hd1, hc1, hB1⟩ := Blk.head hs hB (by omega)
      have ll1 : l.length = c1.length + l1.length := by rw [hl1]; simp
      obtain ⟨c2, l2, d2, hl2, hd2, hc2, hB2⟩ := Blk.head hs hB1 (by omega)
      have ll2 : l1.length = c2.length + l2.length := by rw [hl2]; simp
      have ld2 := Blk.len hs hB2
      have e4 : wrap64 (a + 2 * bs + 2 * bs) = a + 2 * bs + 2 * bs := w64 (by omega) (by omega)
      rw [e4]
      have hm := mf_run hS hs hc _ A (ssort lt c1) (ssort lt c2) d2 a (a + bs) (a + 2 * bs) (Nat.le_refl _) (by intro h0; have := ssort_length hs c1; rw [h0] at this; simp at this; omega) (by intro h0; have := ssort_length hs c2; rw [h0] at this; simp at this; omega) ha (by rw [ssort_length hs]; omega) (by rw [ssort_length hs]; omega) (by omega) (fun y hy => hO y (by rw [hl1]; have := (ssort_perm hs c1).mem_iff.1 hy; simp [this])) (fun y hy => hO y (by rw [hl1, hl2]; have := (ssort_perm hs c2).mem_iff.1 hy; simp [this])) (ssort_sorted hs _ _ rfl) (ssort_sorted hs _ _ rfl)
      rw [hd1, hd2]
      refine Ev.bind hm ?_
      rw [← ssort_append hs c1 _ c2 rfl]
      have := ih (A ++ ssort lt (c1 ++ c2)) l2 d2 (a + 2 * bs) (by omega) (by rw [List.length_append, ssort_length hs, List.length_append]; omega) (by omega) (fun y hy => hO y (by rw [hl1, hl2]; simp [hy])) hB2 (fun d' hd' => ?_)
      · rw [show A ++ ssort lt (c1 ++ c2) ++ d2 = A ++ (ssort lt (c1 ++ c2) ++ d2) by simp] at this
        exact this
      · rw [show A ++ ssort lt (c1 ++ c2) ++ d' = A ++ (ssort lt (c1 ++ c2) ++ d') by simp]
        refine hpost _ ?_
        rw [hl1, hl2, show c1 ++ (c2 ++ l2) = (c1 ++ c2) ++ l2 by simp]
        exact Blk.more _ _ _ (by simp; omega) hd'
    · obtain ⟨c1, l1, d1, hl1, hd1, hc1, hB1⟩ := Blk.head hs hB (by omega)
      have ll1 : l.length = c1.length + l1.length := by rw [hl1]; simp
      have hd2 := Blk.short hs hB1 (by omega)
      have hm := mf_run hS hs hc _ A (ssort lt c1) (ssort lt l1) [] a (a + bs) n (Nat.le_refl _) (by intro h0; have := ssort_length hs c1; rw [h0] at this; simp at this; omega) (by intro h0; have := ssort_length hs l1; rw [h0] at this; simp at this; omega) ha (by rw [ssort_length hs]; omega) (by rw [ssort_length hs]; omega) (by simp; omega) (fun y hy => hO y (by rw [hl1]; have := (ssort_perm hs c1).mem_iff.1 hy; simp [this])) (fun y hy => hO y (by rw [hl1]; have := (ssort_perm hs l1).mem_iff.1 hy; simp [this])) (ssort_sorted hs _ _ rfl) (ssort_sorted hs _ _ rfl)
      rw [List.append_nil, List.append_nil, ← ssort_append hs c1 _ l1 rfl, ← hl1] at hm
      rw [hd1, hd2]
      exact Ev.bind hm (hpost _ (Blk.last l (by omega)))
    · refine hpost d ?_
      rw [Blk.short hs hB (by omega)]
      exact Blk.last l (by omega)
theorem s1_run (hS : Eqs S) (hs : SWO lt) (hc : Cmp S lt Ok) (n : Int) (l : List α) (hln : n = l.length) (hn : n ≤ 288230376151711744) (hO : ∀ y ∈ l, Ok y) : ∀ (N : Nat) (bs : Nat) (d : List α), l.length - bs ≤ N → 0 < bs → Blk lt bs l d → Ev (fun k => S.s1 k d n bs) (ssort lt l) := by
  intro N
  induction N with
  | zero =>
    intro bs d hN hbs hB
    refine Ev.step (fun k => hS.s1 k _ _ _) (Ev.neg (by omega) ?_)
    rw [Blk.short hs hB (by omega)]
    exact Ev.now _
  | succ N ih =>
    intro bs d hN hbs hB
    refine Ev.step (fun k => hS.s1 k _ _ _) (Ev.ite (fun hlt => ?_) (fun hge => ?_))
    · rw [w64 (x := 2 * (bs : Int)) (by omega) (by omega)]
      have := s2_run hS hs hc bs n (ssort lt l) hbs hn hlt _ [] l d 0 (Nat.le_refl _) (by simp) (by omega) hO hB (fun d' hd' => ih (2 * bs) d' (by omega) (by omega) hd')
      rw [show (0 : Int) + 2 * bs = 2 * bs by omega] at this
      exact this
    · rw [Blk.short hs hB (by omega)]
      exact Ev.now _
theorem s0_run (hS : Eqs S) (hs : SWO lt) (hc : Cmp S lt Ok) (bs : Nat) (n : Int) (r : List α) (hbs : 0 < bs) (hb2 : bs ≤ 1000) (hn : n ≤ 288230376151711744) : ∀ (N : Nat) (A l : List α) (a : Int), l.length ≤ N → a = A.length → n = a + l.length → (∀ y ∈ l, Ok y) → (∀ d, Blk lt bs l d → Ev (fun k => S.s1 k (A ++ d) n bs) r) → Ev (fun k => S.s0 k (A ++ l) n bs a (a + bs)) r := by
  intro N
  induction N with
  | zero =>
    intro A l a hN ha hna hO hpost
    refine Ev.step (fun k => hS.s0 k _ _ _ _ _) (Ev.neg (by omega) ?_)
    have := ins_run hS hs hc A l [] a n ha hna (by simp; omega) hO
    rw [List.append_nil, List.append_nil] at this
    exact Ev.bind this (hpost _ (Blk.last l (by omega)))
  | succ N ih =>
    intro A l a hN ha hna hO hpost
    refine Ev.step (fun k => hS.s0 k _ _ _ _ _) (Ev.ite (fun hle => ?_) (fun hgt => ?_))
    · have hcl : l.take bs ++ l.drop bs = l := List.take_append_drop _ _
      have lc : (l.take bs).length = bs := by rw [List.length_take]; omega
      have ld : (l.drop bs).length = l.length - bs := List.length_drop
      have := ins_run hS hs hc A (l.take bs) (l.drop bs) a (a + bs) ha (by omega) (by omega) (fun y hy => hO y (List.mem_of_mem_take hy))
      rw [hcl] at this
      refine Ev.bind this ?_
      rw [w64 (x := a + bs + bs) (by omega) (by omega)]
      have hk := ih (A ++ ssort lt (l.take bs)) (l.drop bs) (a + bs) (by omega) (by rw [List.length_append, ssort_length hs]; omega) (by omega) (fun y hy => hO y (List.mem_of_mem_drop hy)) (fun d hd => ?_)
      · rw [show A ++ ssort lt (l.take bs) ++ l.drop bs = A ++ (ssort lt (l.take bs) ++ l.drop bs) by simp] at hk
        exact hk
      · rw [show A ++ ssort lt (l.take bs) ++ d = A ++ (ssort lt (l.take bs) ++ d) by simp]
        refine hpost _ ?_
        have := Blk.more (lt := lt) (l.take bs) (l.drop bs) d lc hd
        rw [hcl] at this
        exact this
    · have := ins_run hS hs hc A l [] a n ha hna (by simp; omega) hO
      rw [List.append_nil, List.append_nil] at this
      exact Ev.bind this (hpost _ (Blk.last l (by omega)))
/-- The whole: the stable sort. -/
theorem stable_run (hS : Eqs S) (hs : SWO lt) (hc : Cmp S lt Ok) (l : List α) (hO : ∀ y ∈ l, Ok y) (hn : (l.length : Int) ≤ 288230376151711744) : Ev (fun k => S.s0 k l (l.length : Int) 20 0 20) (ssort lt l) := by
  have := s0_run hS hs hc 20 (l.length : Int) (ssort lt l) (by omega) (by omega) hn _ [] l 0 (Nat.le_refl _) (by simp) (by omega) hO (fun d hd => by
    have := s1_run hS hs hc (l.length : Int) l rfl hn hO _ 20 d (Nat.le_refl _) (by omega) hd
    rw [List.nil_append]
    exact this)
  rw [List.nil_append] at this
  exact this
end
end Go.Proofs.YtamgbcgfjhpedaaDoor.Srt
