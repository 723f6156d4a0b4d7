/- Texts of the claim, put together: LSortH, LCmp, LReserve, LReserve2, LReserve3. -/
import Derived.Test.YtfcifmbddikflaaCReserveKept31
import Derived.Test.YtfcifmbddikflaaCReserveKept20
import Derived.Test.YtfcifmbddikflaaCReserveKept19
import Derived.Test.YtfcifmbddikflaaCReserveKept22
import Derived.Test.YtfcifmbddikflaaCReserveKept23
import Derived.Test.YtfcifmbddikflaaCReserveKept24
import Derived.Test.YtfcifmbddikflaaCReserveKept25
import Derived.Test.YtfcifmbddikflaaCReserveKept26
namespace Go.Proofs.Ytfcifmbddikflaa.Srt
open Go.RowKit Go.Proofs.YtfcifmbddikflaaW.PrintWords Go.Proofs.YtfcifmbddikflaaW.PrintMore Go.Proofs.Ytfcifmbddikflaa.Evp
set_option linter.unusedVariables false
set_option linter.unusedSimpArgs false
section
variable {α : Type} {S : Sys α} {lt : α → α → Bool} {Ok : α → Prop}
theorem split_at (L : List α) (t : Nat) (h : t < L.length) : ∃ La x Lb, L = La ++ x :: Lb ∧ La.length = t := by
  refine ⟨L.take t, L[t], L.drop (t + 1), ?_, ?_⟩
  ·rw [← List.drop_eq_getElem_cons h, List.take_append_drop]
  · rw [List.length_take]; omega
theorem m1_run (hS : Eqs S) (x : α) (T : List α) (i : Int) : ∀ (R1 A : List α) (kk : Int), kk = A.length → i = kk + 1 + R1.length → (i + T.length : Int) ≤ 1152921504606846976 → Ev (fun k => S.m1 k (A ++ x :: (R1 ++ T)) i kk) (A ++ (R1 ++ x :: T))
  | [], A, kk, hk, hi, hl => by
    simp only [List.length_nil] at hi
    refine Ev.step (fun k => hS.m1 k _ _ _) ?_
    rw [w64 (x := i - 1) (by omega) (by omega)]; exact Ev.neg (by omega) (Ev.now _)
  | y :: R1, A, kk, hk, hi, hl => by
    simp only [List.length_cons] at hi
    have e1 : wrap64 (i - 1) = i - 1 := w64 (by omega) (by omega)
    have e2 : wrap64 (kk + 1) = kk + 1 := w64 (by omega) (by omega)
    have el : ((A ++ x :: (y :: R1 ++ T)).length : Int) = A.length + R1.length + 2 + T.length := by simp; omega
    have r1 : S.rd (A ++ x :: (y :: R1 ++ T)) kk = x := rdE _ A x (y :: R1 ++ T) _ (by simp) (by omega)
    have r2 : S.rd (A ++ x :: (y :: R1 ++ T)) (kk + 1) = y := rdE _ (A ++ [x]) y (R1 ++ T) _ (by simp) (by simp; omega)
    have es : ((A ++ x :: (y :: R1 ++ T)).set kk.toNat y).set (kk + 1).toNat x = A ++ [y] ++ x :: (R1 ++ T) := by
      have := swap_lo A x [] y (R1 ++ T) kk.toNat (kk + 1).toNat (by omega) (by simp; omega)
      rw [show A ++ [y] ++ x :: (R1 ++ T) = A ++ y :: ([] ++ x :: (R1 ++ T)) by simp, ← this]; simp
    have ih := m1_run hS x T i R1 (A ++ [y]) (kk + 1) (by simp; omega) (by omega) hl
    refine Ev.step (fun k => hS.m1 k _ _ _) ?_
    simp only [e1, e2, r1, r2, es]
    refine Ev.pos (by omega) (Ev.pos (by omega) (Ev.pos (by omega) (Ev.pos (by omega) (Ev.pos (by omega) ?_))))
    rw [show A ++ [y] ++ (R1 ++ x :: T) = A ++ (y :: R1 ++ x :: T) by simp] at ih
    exact ih
theorem m3_run (hS : Eqs S) (y : α) (P : List α) (i : Int) (hi : i = P.length) : ∀ (n : Nat) (L2 T : List α) (kk : Int), L2.length = n → kk = P.length + L2.length → (kk + 1 + T.length : Int) ≤ 1152921504606846976 → Ev (fun k => S.m3 k (P ++ (L2 ++ y :: T)) i kk) (P ++ y :: (L2 ++ T))
  | 0, L2, T, kk, hn, hk, hl => by
    have : L2 = [] := List.eq_nil_of_length_eq_zero hn
    subst this; simp only [List.length_nil] at hk
    refine Ev.step (fun k => hS.m3 k _ _ _) ?_
    exact Ev.neg (by omega) (Ev.now _)
  | n + 1, L2, T, kk, hn, hk, hl => by
    have hne : L2 ≠ [] := by intro h; rw [h] at hn; simp at hn
    obtain ⟨L2', z, rfl⟩ : ∃ c x, L2 = c ++ [x] := ⟨L2.dropLast, L2.getLast hne, (List.dropLast_concat_getLast hne).symm⟩
    simp only [List.length_append, List.length_cons, List.length_nil] at hn hk
    have e1 : wrap64 (kk - 1) = kk - 1 := w64 (by omega) (by omega)
    have el : ((P ++ (L2' ++ [z] ++ y :: T)).length : Int) = P.length + L2'.length + 2 + T.length := by simp; omega
    have r1 : S.rd (P ++ (L2' ++ [z] ++ y :: T)) kk = y := rdE _ (P ++ (L2' ++ [z])) y T _ (by simp) (by simp; omega)
    have r2 : S.rd (P ++ (L2' ++ [z] ++ y :: T)) (kk - 1) = z := rdE _ (P ++ L2') z (y :: T) _ (by simp) (by simp; omega)
    have es : ((P ++ (L2' ++ [z] ++ y :: T)).set kk.toNat z).set (kk - 1).toNat y = P ++ (L2' ++ y :: (z :: T)) := by
      have := swap_hi (P ++ L2') z [] y T (kk - 1).toNat kk.toNat (by simp; omega) (by simp; omega)
      rw [show P ++ (L2' ++ y :: (z :: T)) = (P ++ L2') ++ y :: ([] ++ z :: T) by simp, ← this]; simp
    have ih := m3_run hS y P i hi n L2' (z :: T) (kk - 1) (by omega) (by omega) (by simp; omega)
    refine Ev.step (fun k => hS.m3 k _ _ _) ?_
    simp only [e1, r1, r2, es]
    refine Ev.pos (by omega) (Ev.pos (by omega) (Ev.pos (by omega) (Ev.pos (by omega) (Ev.pos (by omega) ?_))))
    rw [show P ++ y :: (L2' ++ [z] ++ T) = P ++ y :: (L2' ++ z :: T) by simp]
    exact ih
theorem m0_run (hS : Eqs S) (hs : SWO lt) (hc : Cmp S lt Ok) (d A R B : List α) (x : α) (a m : Int) (ha : a = A.length) (hm : m = a + 1) (hx : Ok x) (hd : d = A ++ x :: (R ++ B)) (hl : (d.length : Int) ≤ 1152921504606846976) (hO : ∀ y ∈ R, Ok y) (r : List α) (hpost : ∀ R1 R2, R = R1 ++ R2 → (∀ y ∈ R1, lt y x = true) → (∀ y ∈ R2, lt y x = false) → Ev (fun k => S.m1 k d (m + R1.length) a) r) : ∀ (n : Nat) (R1 Rm R2 : List α) (i j : Int), Rm.length ≤ n → R = R1 ++ (Rm ++ R2) → i = m + R1.length → j = i + Rm.length → (∀ y ∈ R1, lt y x = true) → (∀ y ∈ R2, lt y x = false) → Srtd lt Rm → Ev (fun k => S.m0 k d a i j) r := by
  have el : (d.length : Int) = A.length + 1 + R.length + B.length := by rw [hd]; simp; omega
  intro n; induction n with
  | zero =>
    intro R1 Rm R2 i j hn hR hi hj h1 h2 hso; have : Rm = [] := List.eq_nil_of_length_eq_zero (by omega)
    subst this; simp only [List.length_nil] at hj
    refine Ev.step (fun k => hS.m0 k _ _ _ _) (Ev.neg (by omega) ?_)
    rw [hi]; exact hpost R1 R2 (by rw [hR]; rfl) h1 h2
  | succ n ih =>
    intro R1 Rm R2 i j hn hR hi hj h1 h2 hso; have elR : R.length = R1.length + (Rm.length + R2.length) := by rw [hR]; simp
    refine Ev.step (fun k => hS.m0 k _ _ _ _) (Ev.ite (fun hij => ?_) (fun hij => ?_))
    · have eh : half i j = (i + j) / 2 := half_eq (by omega) (by omega) (by omega) (by omega)
      obtain ⟨Ra, y, Rb, hRm, hla⟩ := split_at Rm ((i + j) / 2 - i).toNat (by omega)
      have elm : Rm.length = Ra.length + 1 + Rb.length := by rw [hRm]; simp; omega
      have e1 : wrap64 ((i + j) / 2 + 1) = (i + j) / 2 + 1 := w64 (by omega) (by omega)
      have r1 : S.rd d ((i + j) / 2) = y := rdE _ (A ++ x :: (R1 ++ Ra)) y (Rb ++ (R2 ++ B)) _ (by rw [hd, hR, hRm]; simp) (by simp; omega)
      have r2 : S.rd d a = x := rdE _ A x (R ++ B) _ hd ha
      simp only [eh, e1, r1, r2]
      refine Ev.pos (by omega) (Ev.pos (by omega) (Ev.pos (by omega) (Ev.pos (by omega) ?_)))
      obtain ⟨c, hcE, hcI⟩ := hc y x (hO y (by rw [hR, hRm]; simp)) hx
      refine Ev.bind hcE ?_
      rw [hRm] at hso; have hp := List.pairwise_append.1 hso
      have hp2 := List.pairwise_cons.1 hp.2.1
      refine Ev.ite (fun hlt => ?_) (fun hge => ?_)
      · have hyx : lt y x = true := hcI.1 hlt
        refine ih (R1 ++ (Ra ++ [y])) Rb R2 _ _ (by omega) (by rw [hR, hRm]; simp) (by simp; omega) (by omega) (fun v hv => ?_) h2 hp2.2
        rcases List.mem_append.1 hv with hv | hv
        · exact h1 v hv
        · rcases List.mem_append.1 hv with hv | hv
          · exact hs.le_lt (hp.2.2 v hv y (by simp)) hyx
          · rw [List.mem_singleton] at hv; subst hv; exact hyx
      · have hyx : lt y x = false := by
          cases hq : lt y x with
          | false => rfl
          | true => exact absurd (hcI.2 hq) hge
        refine ih R1 Ra (y :: (Rb ++ R2)) _ _ (by omega) (by rw [hR, hRm]; simp) (by omega) (by omega) h1 (fun v hv => ?_) hp.1
        rcases List.mem_cons.1 hv with rfl | hv
        · exact hyx
        · rcases List.mem_append.1 hv with hv | hv
          · exact hs.neg (hp2.1 v hv) hyx
          · exact h2 v hv
    · have : Rm = [] := List.eq_nil_of_length_eq_zero (by omega)
      subst this; rw [hi]; exact hpost R1 R2 (by rw [hR]; rfl) h1 h2
theorem m2_run (hS : Eqs S) (hs : SWO lt) (hc : Cmp S lt Ok) (d A L B : List α) (y : α) (a m : Int) (ha : a = A.length) (hm : m = a + L.length) (hy : Ok y) (hd : d = A ++ (L ++ y :: B)) (hl : (d.length : Int) ≤ 1152921504606846976) (hO : ∀ y ∈ L, Ok y) (r : List α) (hpost : ∀ L1 L2, L = L1 ++ L2 → (∀ z ∈ L1, lt y z = false) → (∀ z ∈ L2, lt y z = true) → Ev (fun k => S.m3 k d (a + L1.length) m) r) : ∀ (n : Nat) (L1 Lm L2 : List α) (i j : Int), Lm.length ≤ n → L = L1 ++ (Lm ++ L2) → i = a + L1.length → j = i + Lm.length → (∀ z ∈ L1, lt y z = false) → (∀ z ∈ L2, lt y z = true) → Srtd lt Lm → Ev (fun k => S.m2 k d m i j) r := by
  have el : (d.length : Int) = A.length + L.length + 1 + B.length := by rw [hd]; simp; omega
  intro n; induction n with
  | zero =>
    intro L1 Lm L2 i j hn hL hi hj h1 h2 hso; have : Lm = [] := List.eq_nil_of_length_eq_zero (by omega)
    subst this; simp only [List.length_nil] at hj
    refine Ev.step (fun k => hS.m2 k _ _ _ _) (Ev.neg (by omega) ?_)
    rw [hi]; exact hpost L1 L2 (by rw [hL]; rfl) h1 h2
  | succ n ih =>
    intro L1 Lm L2 i j hn hL hi hj h1 h2 hso; have elL : L.length = L1.length + (Lm.length + L2.length) := by rw [hL]; simp
    refine Ev.step (fun k => hS.m2 k _ _ _ _) (Ev.ite (fun hij => ?_) (fun hij => ?_))
    · have eh : half i j = (i + j) / 2 := half_eq (by omega) (by omega) (by omega) (by omega)
      obtain ⟨La, z, Lb, hLm, hla⟩ := split_at Lm ((i + j) / 2 - i).toNat (by omega)
      have elm : Lm.length = La.length + 1 + Lb.length := by rw [hLm]; simp; omega
      have e1 : wrap64 ((i + j) / 2 + 1) = (i + j) / 2 + 1 := w64 (by omega) (by omega)
      have r1 : S.rd d ((i + j) / 2) = z := rdE _ (A ++ (L1 ++ La)) z (Lb ++ (L2 ++ y :: B)) _ (by rw [hd, hL, hLm]; simp) (by simp; omega)
      have r2 : S.rd d m = y := rdE _ (A ++ L) y B _ (by rw [hd]; simp) (by simp; omega)
      simp only [eh, e1, r1, r2]
      refine Ev.pos (by omega) (Ev.pos (by omega) (Ev.pos (by omega) (Ev.pos (by omega) ?_)))
      obtain ⟨c, hcE, hcI⟩ := hc y z hy (hO z (by rw [hL, hLm]; simp))
      refine Ev.bind hcE ?_
      rw [hLm] at hso; have hp := List.pairwise_append.1 hso
      have hp2 := List.pairwise_cons.1 hp.2.1
      refine Ev.ite (fun hlt => ?_) (fun hge => ?_)
      · have hyz : lt y z = true := hcI.1 hlt
        refine ih L1 La (z :: (Lb ++ L2)) _ _ (by omega) (by rw [hL, hLm]; simp) (by omega) (by omega) h1 (fun v hv => ?_) hp.1
        rcases List.mem_cons.1 hv with rfl | hv
        · exact hyz
        · rcases List.mem_append.1 hv with hv | hv
          · exact hs.lt_le hyz (hp2.1 v hv)
          · exact h2 v hv
      · have hyz : lt y z = false := by
          cases hq : lt y z with
          | false => rfl
          | true => exact absurd (hcI.2 hq) hge
        refine ih (L1 ++ (La ++ [z])) Lb L2 _ _ (by omega) (by rw [hL, hLm]; simp) (by simp; omega) (by omega) (fun v hv => ?_) h2 hp2.2
        rcases List.mem_append.1 hv with hv | hv
        · exact h1 v hv
        · rcases List.mem_append.1 hv with hv | hv
          · exact hs.neg hyz (hp.2.2 v hv z (by simp))
          · rw [List.mem_singleton] at hv; subst hv; exact hyz
    · have : Lm = [] := List.eq_nil_of_length_eq_zero (by omega)
      subst this; rw [hi]; exact hpost L1 L2 (by rw [hL]; rfl) h1 h2
theorem l4_run (hS : Eqs S) (hs : SWO lt) (hc : Cmp S lt Ok) (d A L R B : List α) (a m b mid n p : Int) (ha : a = A.length) (hm : m = a + L.length) (hb : b = m + R.length) (hp : p = n - 1) (hd : d = A ++ (L ++ (R ++ B))) (hl : (d.length : Int) ≤ 576460752303423488) (hOL : ∀ y ∈ L, Ok y) (hOR : ∀ y ∈ R, Ok y) (sL : Srtd lt L) (sR : Srtd lt R) (res : List α) (hpost : ∀ (L1 L2 R1 R2 : List α) (s : Int), L = L1 ++ L2 → R = R1 ++ R2 → s = a + L1.length → n - s = m + R1.length → (∀ x ∈ L1, ∀ y ∈ R2, lt y x = false) → (∀ x ∈ L2, ∀ y ∈ R1, lt y x = true) → Ev (fun k => if s < m then S.j6 k d a m b mid s (wrap64 (n - s)) (decide (m < wrap64 (n - s))) else S.j6 k d a m b mid s (wrap64 (n - s)) false) res) : ∀ (g : Nat) (s r : Int), (r - s).toNat ≤ g → s ≤ r → a ≤ s → r ≤ m → m ≤ n - r → n - s ≤ b → (∀ x ∈ L.take (s - a).toNat, ∀ y ∈ R.drop (n - s - m).toNat, lt y x = false) → (∀ x ∈ L.drop (r - a).toNat, ∀ y ∈ R.take (n - r - m).toNat, lt y x = true) → Ev (fun k => S.l4 k d a m b mid n s r p) res := by
  have el : (d.length : Int) = A.length + L.length + R.length + B.length := by rw [hd]; simp; omega
  have done : ∀ (s r : Int), r = s → a ≤ s → r ≤ m → m ≤ n - r → n - s ≤ b → (∀ x ∈ L.take (s - a).toNat, ∀ y ∈ R.drop (n - s - m).toNat, lt y x = false) → (∀ x ∈ L.drop (r - a).toNat, ∀ y ∈ R.take (n - r - m).toNat, lt y x = true) → Ev (fun k => if s < m then S.j6 k d a m b mid s (wrap64 (n - s)) (decide (m < wrap64 (n - s))) else S.j6 k d a m b mid s (wrap64 (n - s)) false) res := by
    intro s r hsr h1 h2 h3 h4 hI hJ; subst hsr; exact hpost (L.take (r - a).toNat) (L.drop (r - a).toNat) (R.take (n - r - m).toNat) (R.drop (n - r - m).toNat) r (List.take_append_drop _ _).symm (List.take_append_drop _ _).symm (by rw [List.length_take]; omega) (by rw [List.length_take]; omega) hI hJ
  intro g; induction g with
  | zero =>
    intro s r hg h0 h1 h2 h3 h4 hI hJ; refine Ev.step (fun k => hS.l4 k _ _ _ _ _ _ _ _ _) (Ev.neg (by omega) ?_)
    exact done s r (by omega) h1 h2 h3 h4 hI hJ
  | succ g ih =>
    intro s r hg h0 h1 h2 h3 h4 hI hJ; refine Ev.step (fun k => hS.l4 k _ _ _ _ _ _ _ _ _) (Ev.ite (fun hsr => ?_) (fun hsr => done s r (by omega) h1 h2 h3 h4 hI hJ))
    have eh : half s r = (s + r) / 2 := half_eq (by omega) (by omega) (by omega) (by omega)
    obtain ⟨c, hcd⟩ : ∃ c, c = (s + r) / 2 := ⟨_, rfl⟩
    rw [← hcd] at eh; obtain ⟨La, x, Lb, hL, hla⟩ := split_at L (c - a).toNat (by omega)
    obtain ⟨Ra, y, Rb, hR, hra⟩ := split_at R (p - c - m).toNat (by omega)
    have e1 : wrap64 (c + 1) = c + 1 := w64 (by omega) (by omega)
    have e2 : wrap64 (p - c) = p - c := w64 (by omega) (by omega)
    have r1 : S.rd d c = x := rdE _ (A ++ La) x (Lb ++ (R ++ B)) _ (by rw [hd, hL]; simp) (by simp; omega)
    have r2 : S.rd d (p - c) = y := rdE _ (A ++ (L ++ Ra)) y (Rb ++ B) _ (by rw [hd, hR]; simp) (by simp; omega)
    simp only [eh, e1, e2, r1, r2]
    refine Ev.pos (by omega) (Ev.pos (by omega) (Ev.pos (by omega) (Ev.pos (by omega) ?_)))
    obtain ⟨cc, hcE, hcI⟩ := hc y x (hOR y (by rw [hR]; simp)) (hOL x (by rw [hL]; simp))
    refine Ev.bind hcE ?_
    have pL := List.pairwise_append.1 (hL ▸ sL)
    have pL2 := List.pairwise_cons.1 pL.2.1
    have pR := List.pairwise_append.1 (hR ▸ sR)
    have pR2 := List.pairwise_cons.1 pR.2.1
    refine Ev.ite (fun hlt => ?_) (fun hge => ?_)
    · have hyx : lt y x = true := hcI.1 hlt
      refine ih s c (by omega) (by omega) h1 (by omega) (by omega) h4 hI (fun u hu v hv => ?_)
      rw [hL, List.drop_left' (by omega)] at hu; rw [hR, show Ra ++ y :: Rb = (Ra ++ [y]) ++ Rb by simp, List.take_left' (by simp; omega)] at hv
      have hvx : lt v x = true := by
        rcases List.mem_append.1 hv with hv | hv
        · exact hs.le_lt (pR.2.2 v hv y (by simp)) hyx
        · rw [List.mem_singleton] at hv; subst hv; exact hyx
      rcases List.mem_cons.1 hu with rfl | hu
      · exact hvx
      · exact hs.lt_le hvx (pL2.1 u hu)
    · have hyx : lt y x = false := by
        cases hq : lt y x with
        | false => rfl
        | true => exact absurd (hcI.2 hq) hge
      refine ih (c + 1) r (by omega) (by omega) (by omega) h2 h3 (by omega) (fun u hu v hv => ?_) hJ
      rw [hL, show La ++ x :: Lb = (La ++ [x]) ++ Lb by simp, List.take_left' (by simp; omega)] at hu
      rw [hR, List.drop_left' (by omega)] at hv; have hvx : lt v x = false := by
        rcases List.mem_cons.1 hv with rfl | hv
        · exact hyx
        · exact hs.neg (pR2.1 v hv) hyx
      rcases List.mem_append.1 hu with hu | hu
      · exact hs.neg hvx (pL.2.2 u hu x (by simp))
      · rw [List.mem_singleton] at hu; subst hu; exact hvx
def MfOk (S : Sys α) (lt : α → α → Bool) (Ok : α → Prop) (n : Nat) : Prop := ∀ (A L R B : List α) (a m b : Int), L.length + R.length ≤ n → L ≠ [] → R ≠ [] → a = A.length → m = a + L.length → b = m + R.length → (b + B.length : Int) ≤ 576460752303423488 → (∀ y ∈ L, Ok y) → (∀ y ∈ R, Ok y) → Srtd lt L → Srtd lt R → Ev (fun k => S.mf k (A ++ (L ++ (R ++ B))) a m b) (A ++ (mrg lt L R ++ B))
theorem second_run {n : Nat} (hM : MfOk S lt Ok n) (A L R B : List α) (a m b : Int) (hn : L.length + R.length ≤ n) (ha : a = A.length) (hm : m = a + L.length) (hb : b = m + R.length) (hl : (b + B.length : Int) ≤ 576460752303423488) (hOL : ∀ y ∈ L, Ok y) (hOR : ∀ y ∈ R, Ok y) (sL : Srtd lt L) (sR : Srtd lt R) : Ev (fun k => if a < m then (if m < b then ((S.mf k (A ++ (L ++ (R ++ B))) a m b).bind fun t => some t) else some (A ++ (L ++ (R ++ B)))) else some (A ++ (L ++ (R ++ B)))) (A ++ (mrg lt L R ++ B)) := by
  cases L with
  | nil =>
    simp only [List.length_nil] at hm
    rw [mrg_nil_left]; exact Ev.neg (by omega) (Ev.now _)
  | cons x L =>
    simp only [List.length_cons] at hm
    refine Ev.pos (by omega) ?_
    cases R with
    | nil =>
      simp only [List.length_nil] at hb
      rw [mrg_nil_right]; exact Ev.neg (by omega) (Ev.now _)
    | cons y R =>
      simp only [List.length_cons] at hb
      refine Ev.pos (by omega) (Ev.bind (hM A (x :: L) (y :: R) B a m b hn (by simp) (by simp) ha (by simp; omega) (by simp; omega) hl hOL hOR sL sR) (Ev.now _))
theorem j7_run (hS : Eqs S) {n : Nat} (hM : MfOk S lt Ok n) (A L1 R1 L2 R2 B : List α) (a s mid e b : Int) (h1 : L1.length + R1.length ≤ n) (h2 : L2.length + R2.length ≤ n) (ha : a = A.length) (hs' : s = a + L1.length) (hmid : mid = s + R1.length) (he : e = mid + L2.length) (hb : b = e + R2.length) (hl : (b + B.length : Int) ≤ 576460752303423488) (o1 : ∀ y ∈ L1, Ok y) (o2 : ∀ y ∈ R1, Ok y) (o3 : ∀ y ∈ L2, Ok y) (o4 : ∀ y ∈ R2, Ok y) (s1 : Srtd lt L1) (s2 : Srtd lt R1) (s3 : Srtd lt L2) (s4 : Srtd lt R2) : Ev (fun k => S.j7 k (A ++ (L1 ++ (R1 ++ (L2 ++ (R2 ++ B))))) a b mid s e) (A ++ (mrg lt L1 R1 ++ (mrg lt L2 R2 ++ B))) := by
  have hsec := second_run hM (A ++ mrg lt L1 R1) L2 R2 B mid e b h2 (by rw [List.length_append, mrg_length]; omega) he hb hl o3 o4 s3 s4
  rw [show A ++ mrg lt L1 R1 ++ (L2 ++ (R2 ++ B)) = A ++ (mrg lt L1 R1 ++ (L2 ++ (R2 ++ B))) by simp, show A ++ mrg lt L1 R1 ++ (mrg lt L2 R2 ++ B) = A ++ (mrg lt L1 R1 ++ (mrg lt L2 R2 ++ B)) by simp] at hsec; have hno : L1 = [] ∨ R1 = [] → Ev (fun k => S.j8 k (A ++ (L1 ++ (R1 ++ (L2 ++ (R2 ++ B))))) a b mid s e false) (A ++ (mrg lt L1 R1 ++ (mrg lt L2 R2 ++ B))) := by
    intro h; have : L1 ++ (R1 ++ (L2 ++ (R2 ++ B))) = mrg lt L1 R1 ++ (L2 ++ (R2 ++ B)) := by
      rcases h with rfl | rfl
      · rw [mrg_nil_left]; simp
      · rw [mrg_nil_right]; simp
    rw [this]; refine Ev.step (fun k => hS.j8 k _ _ _ _ _ _ _) (Ev.neg (by simp) ?_)
    exact hsec
  refine Ev.step (fun k => hS.j7 k _ _ _ _ _ _) (Ev.ite (fun h => ?_) (fun h => hno (Or.inl (List.eq_nil_of_length_eq_zero (by omega)))))
  by_cases hR : s < mid
  · rw [decide_eq_true hR]; refine Ev.step (fun k => hS.j8 k _ _ _ _ _ _ _) (Ev.pos rfl ?_)
    refine Ev.bind (hM A L1 R1 (L2 ++ (R2 ++ B)) a s mid h1 (by intro h0; rw [h0] at hs'; simp at hs'; omega) (by intro h0; rw [h0] at hmid; simp at hmid; omega) ha hs' hmid (by simp; omega) o1 o2 s1 s2) hsec
  · rw [decide_eq_false hR]; exact hno (Or.inr (List.eq_nil_of_length_eq_zero (by omega)))
theorem mf_run (hS : Eqs S) (hs : SWO lt) (hc : Cmp S lt Ok) : ∀ n, MfOk S lt Ok n := by
  intro n; induction n with
  | zero => intro A L R B a m b h hL; exact absurd (List.eq_nil_of_length_eq_zero (by omega)) hL
  | succ n ih =>
    intro A L R B a m b hn hL hR ha hm hb hl hOL hOR sL sR; have pL := List.length_pos_iff.2 hL
    have pR := List.length_pos_iff.2 hR
    have el : ((A ++ (L ++ (R ++ B))).length : Int) = A.length + L.length + R.length + B.length := by simp; omega
    have e1 : wrap64 (m - a) = m - a := w64 (by omega) (by omega)
    have e2 : wrap64 (b - m) = b - m := w64 (by omega) (by omega)
    refine Ev.step (fun k => hS.mf k _ _ _ _) ?_
    rw [e1, e2]; refine Ev.ite (fun h1 => ?_) (fun h1 => Ev.ite (fun h2 => ?_) (fun h2 => ?_))
    · obtain ⟨x, rfl⟩ : ∃ x, L = [x] := List.length_eq_one_iff.1 (by omega)
      simp only [List.length_singleton] at hm el hn
      refine m0_run hS hs hc (A ++ ([x] ++ (R ++ B))) A R B x a m ha hm (hOL x (by simp)) (by simp) (by omega) hOR _ (fun R1 R2 hR12 g1 g2 => ?_) _ [] R [] m b (Nat.le_refl _) (by simp) (by simp) hb (by simp) (by simp) sR
      have hlen : R.length = R1.length + R2.length := by rw [hR12]; simp
      have := m1_run hS x (R2 ++ B) (m + R1.length) R1 A a ha (by omega) (by simp; omega)
      rw [hR12, one_mrg R1 R2 x g1 g2]; rw [show A ++ ([x] ++ (R1 ++ R2 ++ B)) = A ++ x :: (R1 ++ (R2 ++ B)) by simp, show A ++ (R1 ++ x :: R2 ++ B) = A ++ (R1 ++ x :: (R2 ++ B)) by simp]
      exact this
    · obtain ⟨y, rfl⟩ : ∃ y, R = [y] := List.length_eq_one_iff.1 (by omega)
      refine m2_run hS hs hc (A ++ (L ++ ([y] ++ B))) A L B y a m ha hm (hOR y (by simp)) (by simp) (by omega) hOL _ (fun L1 L2 hL12 g1 g2 => ?_) _ [] L [] a m (Nat.le_refl _) (by simp) (by simp) hm (by simp) (by simp) sL
      have hlen : L.length = L1.length + L2.length := by rw [hL12]; simp
      have := m3_run hS y (A ++ L1) (a + L1.length) (by simp; omega) _ L2 B m rfl (by simp; omega) (by simp at hb; omega)
      rw [hL12, mrg_one L1 L2 y g1 g2]; rw [show A ++ (L1 ++ L2 ++ ([y] ++ B)) = A ++ L1 ++ (L2 ++ y :: B) by simp, show A ++ (L1 ++ y :: L2 ++ B) = A ++ L1 ++ y :: (L2 ++ B) by simp]
      exact this
    · have eh : half a b = (a + b) / 2 := half_eq (by omega) (by omega) (by omega) (by omega)
      obtain ⟨mid, hmid⟩ : ∃ mid, mid = (a + b) / 2 := ⟨_, rfl⟩
      rw [eh, ← hmid]; have e3 : wrap64 (mid + m) = mid + m := w64 (by omega) (by omega)
      have e4 : wrap64 (mid + m - b) = mid + m - b := w64 (by omega) (by omega)
      rw [e3, e4]; have hpost : ∀ (L1 L2 R1 R2 : List α) (s : Int), L = L1 ++ L2 → R = R1 ++ R2 → s = a + L1.length → mid + m - s = m + R1.length → (∀ x ∈ L1, ∀ y ∈ R2, lt y x = false) → (∀ x ∈ L2, ∀ y ∈ R1, lt y x = true) → Ev (fun k => if s < m then S.j6 k (A ++ (L ++ (R ++ B))) a m b mid s (wrap64 (mid + m - s)) (decide (m < wrap64 (mid + m - s))) else S.j6 k (A ++ (L ++ (R ++ B))) a m b mid s (wrap64 (mid + m - s)) false) (A ++ (mrg lt L R ++ B)) := by
        intro L1 L2 R1 R2 s hL12 hR12 hs1 hs2 g1 g2; have l1 : L.length = L1.length + L2.length := by rw [hL12]; simp
        have l2 : R.length = R1.length + R2.length := by rw [hR12]; simp
        have e5 : wrap64 (mid + m - s) = mid + m - s := w64 (by omega) (by omega)
        rw [hL12] at sL hOL; rw [hR12] at sR hOR; have q1 := List.pairwise_append.1 sL
        have q2 := List.pairwise_append.1 sR
        have hfin : A ++ (mrg lt L R ++ B) = A ++ (mrg lt L1 R1 ++ (mrg lt L2 R2 ++ B)) := by
          rw [hL12, hR12, mrg_split L2 R2 _ L1 R1 (Nat.le_refl _) g1 g2]; simp
        have h7 := j7_run hS ih A L1 R1 L2 R2 B a s mid (mid + m - s) b (by omega) (by omega) ha hs1 (by omega) (by omega) (by omega) hl (fun v hv => hOL v (by simp [hv])) (fun v hv => hOR v (by simp [hv])) (fun v hv => hOL v (by simp [hv])) (fun v hv => hOR v (by simp [hv])) q1.1 q2.1 q1.2.1 q2.2.1
        rw [e5, hfin]; have hno : L2 = [] ∨ R1 = [] → Ev (fun k => S.j6 k (A ++ (L ++ (R ++ B))) a m b mid s (mid + m - s) false) (A ++ (mrg lt L1 R1 ++ (mrg lt L2 R2 ++ B))) := by
          intro h; have : A ++ (L ++ (R ++ B)) = A ++ (L1 ++ (R1 ++ (L2 ++ (R2 ++ B)))) := by
            rw [hL12, hR12]; rcases h with rfl | rfl <;> simp
          rw [this]; exact Ev.step (fun k => hS.j6 k _ _ _ _ _ _ _ _) (Ev.neg (by simp) h7)
        refine Ev.ite (fun hsm => ?_) (fun hsm => hno (Or.inl (List.eq_nil_of_length_eq_zero (by omega))))
        by_cases hme : m < mid + m - s
        · rw [decide_eq_true hme]; have e6 : wrap64 (m - s) = (L2.length : Int) := by rw [w64 (by omega) (by omega)]; omega
          have e7 : wrap64 (mid + m - s - m) = (R1.length : Int) := by rw [w64 (by omega) (by omega)]; omega
          refine Ev.step (fun k => hS.j6 k _ _ _ _ _ _ _ _) (Ev.pos rfl ?_)
          rw [e6, e7]; have hr := r0_run hS m _ (A ++ L1) L2 R1 (R2 ++ B) (Nat.le_refl _) (by intro h0; rw [h0] at l1; simp at l1; omega) (by intro h0; rw [h0, List.length_nil] at hs2; omega) (by rw [List.length_append]; omega) (by rw [List.length_append, List.length_append]; omega)
          rw [show A ++ L1 ++ (L2 ++ (R1 ++ (R2 ++ B))) = A ++ (L ++ (R ++ B)) by rw [hL12, hR12]; simp, show A ++ L1 ++ (R1 ++ (L2 ++ (R2 ++ B))) = A ++ (L1 ++ (R1 ++ (L2 ++ (R2 ++ B)))) by simp] at hr
          exact Ev.bind hr h7
        · rw [decide_eq_false hme]; exact hno (Or.inr (List.eq_nil_of_length_eq_zero (by omega)))
      have e8 : wrap64 (mid + m - 1) = mid + m - 1 := w64 (by omega) (by omega)
      refine Ev.ite (fun hgt => ?_) (fun hle => ?_)
      · refine Ev.step (fun k => hS.j4 k _ _ _ _ _ _ _ _) ?_
        rw [e8]; refine l4_run hS hs hc _ A L R B a m b mid (mid + m) (mid + m - 1) ha hm hb rfl rfl (by omega) hOL hOR sL sR _ hpost _ (mid + m - b) mid (Nat.le_refl _) (by omega) (by omega) (by omega) (by omega) (by omega) (fun x hx y hy => ?_) (fun x hx y hy => ?_)
        · rw [show (mid + m - (mid + m - b) - m).toNat = R.length by omega, List.drop_length] at hy; simp at hy
        · rw [show (mid + m - mid - m).toNat = 0 by omega] at hy; simp at hy
      · refine Ev.step (fun k => hS.j4 k _ _ _ _ _ _ _ _) ?_
        rw [e8]; refine l4_run hS hs hc _ A L R B a m b mid (mid + m) (mid + m - 1) ha hm hb rfl rfl (by omega) hOL hOR sL sR _ hpost _ a m (Nat.le_refl _) (by omega) (by omega) (by omega) (by omega) (by omega) (fun x hx y hy => ?_) (fun x hx y hy => ?_)
        · rw [show (a - a).toNat = 0 by omega] at hx; simp at hx
        · rw [show (m - a).toNat = L.length by omega, List.drop_length] at hx; simp at hx
inductive Blk (lt : α → α → Bool) (bs : Nat) : List α → List α → Prop
  | last (l : List α) : l.length ≤ bs → Blk lt bs l (ssort lt l)
  | more (c l d : List α) : c.length = bs → Blk lt bs l d → Blk lt bs (c ++ l) (ssort lt c ++ d)
theorem Blk.len (hs : SWO lt) {bs : Nat} {l d : List α} (h : Blk lt bs l d) : d.length = l.length := by
  induction h with
  | last l h => exact qbn hs l
  | more c l d hc h ih => rw [List.length_append, List.length_append, ih, qbn hs]
theorem Blk.short (hs : SWO lt) {bs : Nat} {l d : List α} (h : Blk lt bs l d) (hl : l.length ≤ bs) : d = ssort lt l := by
  cases h with
  | last l h => rfl
  | more c l d hc h =>
    rw [List.length_append] at hl; have : l = [] := List.eq_nil_of_length_eq_zero (by omega)
    subst this; have hd : d = [] := List.eq_nil_of_length_eq_zero (by rw [Blk.len hs h]; rfl)
    rw [hd, List.append_nil, List.append_nil]
theorem Blk.head (hs : SWO lt) {bs : Nat} {l d : List α} (h : Blk lt bs l d) (hl : bs ≤ l.length) : ∃ c l' d', l = c ++ l' ∧ d = ssort lt c ++ d' ∧ c.length = bs ∧ Blk lt bs l' d' := by
  cases h with
  | last l h => exact ⟨l, [], [], by simp, by simp, by omega, Blk.last [] (by simp)⟩
  | more c l d hc h => exact ⟨c, l, d, rfl, rfl, hc, h⟩
theorem s2_run (hS : Eqs S) (hs : SWO lt) (hc : Cmp S lt Ok) (bs : Nat) (n : Int) (r : List α) (hbs : 0 < bs) (hn : n ≤ 288230376151711744) (hbn : (bs : Int) < n) : ∀ (N : Nat) (A l d : List α) (a : Int), l.length ≤ N → a = A.length → n = a + l.length → (∀ y ∈ l, Ok y) → Blk lt bs l d → (∀ d', Blk lt (2 * bs) l d' → Ev (fun k => S.s1 k (A ++ d') n (2 * bs : Nat)) r) → Ev (fun k => S.s2 k (A ++ d) n bs a (a + 2 * bs)) r := by
  intro N; induction N with
  | zero =>
    intro A l d a hN ha hna hO hB hpost; have e2 : wrap64 ((bs : Int) * 2) = ((2 * bs : Nat) : Int) := by rw [w64 (by omega) (by omega)]; omega
    have e3 : wrap64 (a + bs) = a + bs := w64 (by omega) (by omega)
    refine Ev.step (fun k => hS.s2 k _ _ _ _ _) (Ev.neg (by omega) ?_)
    rw [e2, e3]; refine Ev.neg (by omega) (hpost d ?_)
    rw [Blk.short hs hB (by omega)]; exact Blk.last l (by omega)
  | succ N ih =>
    intro A l d a hN ha hna hO hB hpost; have e1 : wrap64 (2 * (bs : Int)) = 2 * bs := w64 (by omega) (by omega)
    have e2 : wrap64 ((bs : Int) * 2) = ((2 * bs : Nat) : Int) := by rw [w64 (by omega) (by omega)]; omega
    have e3 : wrap64 (a + bs) = a + bs := w64 (by omega) (by omega)
    refine Ev.step (fun k => hS.s2 k _ _ _ _ _) ?_
    rw [e1, e2, e3]; refine Ev.ite (fun hle => ?_) (fun hgt => Ev.ite (fun hlt => ?_) (fun hge => ?_))
    · obtain ⟨c1, l1, d1, hl1, hd1, hc1, hB1⟩ := Blk.head hs hB (by omega)
      have ll1 : l.length = c1.length + l1.length := by rw [hl1]; simp
      obtain ⟨c2, l2, d2, hl2, hd2, hc2, hB2⟩ := Blk.head hs hB1 (by omega)
      have ll2 : l1.length = c2.length + l2.length := by rw [hl2]; simp
      have ld2 := Blk.len hs hB2
      have e4 : wrap64 (a + 2 * bs + 2 * bs) = a + 2 * bs + 2 * bs := w64 (by omega) (by omega)
      rw [e4]; have hm := mf_run hS hs hc _ A (ssort lt c1) (ssort lt c2) d2 a (a + bs) (a + 2 * bs) (Nat.le_refl _) (by intro h0; have := qbn hs c1; rw [h0] at this; simp at this; omega) (by intro h0; have := qbn hs c2; rw [h0] at this; simp at this; omega) ha (by rw [qbn hs]; omega) (by rw [qbn hs]; omega) (by omega) (fun y hy => hO y (by rw [hl1]; have := (qbu hs c1).mem_iff.1 hy; simp [this])) (fun y hy => hO y (by rw [hl1, hl2]; have := (qbu hs c2).mem_iff.1 hy; simp [this])) (qbL hs _ _ rfl) (qbL hs _ _ rfl)
      rw [hd1, hd2]; refine Ev.bind hm ?_
      rw [← ssort_append hs c1 _ c2 rfl]; have := ih (A ++ ssort lt (c1 ++ c2)) l2 d2 (a + 2 * bs) (by omega) (by rw [List.length_append, qbn hs, List.length_append]; omega) (by omega) (fun y hy => hO y (by rw [hl1, hl2]; simp [hy])) hB2 (fun d' hd' => ?_)
      · rw [show A ++ ssort lt (c1 ++ c2) ++ d2 = A ++ (ssort lt (c1 ++ c2) ++ d2) by simp] at this; exact this
      · rw [show A ++ ssort lt (c1 ++ c2) ++ d' = A ++ (ssort lt (c1 ++ c2) ++ d') by simp]; refine hpost _ ?_
        rw [hl1, hl2, show c1 ++ (c2 ++ l2) = (c1 ++ c2) ++ l2 by simp]; exact Blk.more _ _ _ (by simp; omega) hd'
    · obtain ⟨c1, l1, d1, hl1, hd1, hc1, hB1⟩ := Blk.head hs hB (by omega)
      have ll1 : l.length = c1.length + l1.length := by rw [hl1]; simp
      have hd2 := Blk.short hs hB1 (by omega)
      have hm := mf_run hS hs hc _ A (ssort lt c1) (ssort lt l1) [] a (a + bs) n (Nat.le_refl _) (by intro h0; have := qbn hs c1; rw [h0] at this; simp at this; omega) (by intro h0; have := qbn hs l1; rw [h0] at this; simp at this; omega) ha (by rw [qbn hs]; omega) (by rw [qbn hs]; omega) (by simp; omega) (fun y hy => hO y (by rw [hl1]; have := (qbu hs c1).mem_iff.1 hy; simp [this])) (fun y hy => hO y (by rw [hl1]; have := (qbu hs l1).mem_iff.1 hy; simp [this])) (qbL hs _ _ rfl) (qbL hs _ _ rfl)
      rw [List.append_nil, List.append_nil, ← ssort_append hs c1 _ l1 rfl, ← hl1] at hm; rw [hd1, hd2]; exact Ev.bind hm (hpost _ (Blk.last l (by omega)))
    · refine hpost d ?_
      rw [Blk.short hs hB (by omega)]; exact Blk.last l (by omega)
theorem s1_run (hS : Eqs S) (hs : SWO lt) (hc : Cmp S lt Ok) (n : Int) (l : List α) (hln : n = l.length) (hn : n ≤ 288230376151711744) (hO : ∀ y ∈ l, Ok y) : ∀ (N : Nat) (bs : Nat) (d : List α), l.length - bs ≤ N → 0 < bs → Blk lt bs l d → Ev (fun k => S.s1 k d n bs) (ssort lt l) := by
  intro N; induction N with
  | zero =>
    intro bs d hN hbs hB; refine Ev.step (fun k => hS.s1 k _ _ _) (Ev.neg (by omega) ?_)
    rw [Blk.short hs hB (by omega)]; exact Ev.now _
  | succ N ih =>
    intro bs d hN hbs hB; refine Ev.step (fun k => hS.s1 k _ _ _) (Ev.ite (fun hlt => ?_) (fun hge => ?_))
    · rw [w64 (x := 2 * (bs : Int)) (by omega) (by omega)]; have := s2_run hS hs hc bs n (ssort lt l) hbs hn hlt _ [] l d 0 (Nat.le_refl _) (by simp) (by omega) hO hB (fun d' hd' => ih (2 * bs) d' (by omega) (by omega) hd')
      rw [show (0 : Int) + 2 * bs = 2 * bs by omega] at this; exact this
    · rw [Blk.short hs hB (by omega)]; exact Ev.now _
theorem s0_run (hS : Eqs S) (hs : SWO lt) (hc : Cmp S lt Ok) (bs : Nat) (n : Int) (r : List α) (hbs : 0 < bs) (hb2 : bs ≤ 1000) (hn : n ≤ 288230376151711744) : ∀ (N : Nat) (A l : List α) (a : Int), l.length ≤ N → a = A.length → n = a + l.length → (∀ y ∈ l, Ok y) → (∀ d, Blk lt bs l d → Ev (fun k => S.s1 k (A ++ d) n bs) r) → Ev (fun k => S.s0 k (A ++ l) n bs a (a + bs)) r := by
  intro N; induction N with
  | zero =>
    intro A l a hN ha hna hO hpost; refine Ev.step (fun k => hS.s0 k _ _ _ _ _) (Ev.neg (by omega) ?_)
    have := ins_run hS hs hc A l [] a n ha hna (by simp; omega) hO
    rw [List.append_nil, List.append_nil] at this; exact Ev.bind this (hpost _ (Blk.last l (by omega)))
  | succ N ih =>
    intro A l a hN ha hna hO hpost; refine Ev.step (fun k => hS.s0 k _ _ _ _ _) (Ev.ite (fun hle => ?_) (fun hgt => ?_))
    · have hcl : l.take bs ++ l.drop bs = l := List.take_append_drop _ _
      have lc : (l.take bs).length = bs := by rw [List.length_take]; omega
      have ld : (l.drop bs).length = l.length - bs := List.length_drop
      have := ins_run hS hs hc A (l.take bs) (l.drop bs) a (a + bs) ha (by omega) (by omega) (fun y hy => hO y (List.mem_of_mem_take hy))
      rw [hcl] at this; refine Ev.bind this ?_
      rw [w64 (x := a + bs + bs) (by omega) (by omega)]; have hk := ih (A ++ ssort lt (l.take bs)) (l.drop bs) (a + bs) (by omega) (by rw [List.length_append, qbn hs]; omega) (by omega) (fun y hy => hO y (List.mem_of_mem_drop hy)) (fun d hd => ?_)
      · rw [show A ++ ssort lt (l.take bs) ++ l.drop bs = A ++ (ssort lt (l.take bs) ++ l.drop bs) by simp] at hk; exact hk
      · rw [show A ++ ssort lt (l.take bs) ++ d = A ++ (ssort lt (l.take bs) ++ d) by simp]; refine hpost _ ?_
        have := Blk.more (lt := lt) (l.take bs) (l.drop bs) d lc hd
        rw [hcl] at this; exact this
    · have := ins_run hS hs hc A l [] a n ha hna (by simp; omega) hO
      rw [List.append_nil, List.append_nil] at this; exact Ev.bind this (hpost _ (Blk.last l (by omega)))
theorem stable_run (hS : Eqs S) (hs : SWO lt) (hc : Cmp S lt Ok) (l : List α) (hO : ∀ y ∈ l, Ok y) (hn : (l.length : Int) ≤ 288230376151711744) : Ev (fun k => S.s0 k l (l.length : Int) 20 0 20) (ssort lt l) := by
  have := s0_run hS hs hc 20 (l.length : Int) (ssort lt l) (by omega) (by omega) hn _ [] l 0 (Nat.le_refl _) (by simp) (by omega) hO (fun d hd => by
    have := s1_run hS hs hc (l.length : Int) l rfl hn hO _ 20 d (Nat.le_refl _) (by omega) hd
    rw [List.nil_append]; exact this)
  rw [List.nil_append] at this; exact this
end
end Go.Proofs.Ytfcifmbddikflaa.Srt
namespace Go.Proofs.Ytfcifmbddikflaa.P
set_option linter.unusedVariables false
set_option linter.unusedSimpArgs false
open Go.RowKit Go.Proofs.YtfcifmbddikflaaW.PrintWords Go.Proofs.YtfcifmbddikflaaW.PrintMore Go.Proofs.Ytfcifmbddikflaa.Opn Go.Proofs.Ytfcifmbddikflaa.Evp
def cmpI (a b : Int) : Int := if a < b then -1 else if b < a then 1 else 0
theorem compare_ev (a b : Int) : cmp_Compare_int.f a b = some (cmpI a b) := by
  unfold cmp_Compare_int.f cmp_isNaN_int.f cmpI
  simp
  split
  ·rfl
  · split <;> rfl
theorem or2_ev (x y : Int) : Ev (fun k => qaZ.f k [x, y]) (if x = 0 then y else x) := by
  unfold qaZ.f
  refine Ev.step (fun k => by rw [qaZ.l0]) ?_
  simp only [List.length_cons, List.length_nil]
  refine Ev.pos (by omega) (Ev.pos (by omega) (Ev.pos (by omega) ?_))
  have e0 : rd [x, y] 0 = x := rfl
  have e1 : rd [x, y] 1 = y := rfl
  have w1 : wrap64 (0 + 1) = 1 := (w64 (by omega) (by omega)).trans (by omega)
  have w2 : wrap64 (1 + 1) = 2 := (w64 (by omega) (by omega)).trans (by omega)
  simp only [e0, e1, w1]
  by_cases hx : x = 0
  · subst hx; simp only [if_true]
    refine Ev.step (fun k => by rw [qaZ.l0]) ?_
    refine Ev.pos (by omega) (Ev.pos (by omega) (Ev.pos (by simp) ?_))
    simp only [e1, w2]
    refine Ev.ite (fun hy => ?_) (fun hy => Ev.now _)
    subst hy; refine Ev.step (fun k => by rw [qaZ.l0]) ?_
    exact Ev.neg (by simp) (Ev.now _)
  · simp only [if_neg hx]
    exact Ev.now _
def lt2 {α : Type} (f g : α → Int) (x y : α) : Bool := decide (f x < f y ∨ f x = f y ∧ g x < g y)
theorem lt2_swo {α : Type} (f g : α → Int) : Srt.SWO (lt2 f g) := Srt.swo_key2 f g
theorem cmp2_lt (a b c d : Int) : ((if cmpI a b = 0 then cmpI c d else cmpI a b) < 0) ↔ (a < b ∨ a = b ∧ c < d) := by
  unfold cmpI
  split <;> split <;> (try split) <;> (try split) <;> (try split) <;> omega
end Go.Proofs.Ytfcifmbddikflaa.P
namespace Go.Proofs.Ytfcifmbddikflaa.P
set_option linter.unusedVariables false
set_option linter.unusedSimpArgs false
open Go.RowKit Go.Proofs.YtfcifmbddikflaaW.PrintWords Go.Proofs.YtfcifmbddikflaaW.PrintMore Go.Proofs.Ytfcifmbddikflaa.Opn Go.Proofs.Ytfcifmbddikflaa.Evp
abbrev RU := S32
abbrev Part := S102
def reserve_partCmp (k : Nat) (x y : Part) : Option Int := qaC.f k x.f0 x.f1 x.f2 y.f0 y.f1 y.f2
def reserve_partSys : Srt.Sys S102 where
  z := z102
  cmp := reserve_partCmp
  i0 := qaf.l0
  i1 := qaf.l1
  w0 := qal.l0
  r0 := qak.l0
  m0 := qaa.l0
  m1 := qaa.l1
  m2 := qaa.l2
  m3 := qaa.l3
  j4 := qaa.j4
  l4 := qaa.l4
  j6 := qaa.j6
  j7 := qaa.j7
  j8 := qaa.j8
  mf := qaa.f
  s0 := qai.l0
  s1 := qai.l1
  s2 := qai.l2
theorem reserve_partEqs : Srt.Eqs reserve_partSys where
  i0 := fun k x0 x1 x2 x8 => rfl
  i1 := fun k x0 x1 x2 x8 x9 => rfl
  w0 := fun k x0 x1 x2 x3 x10 => rfl
  r0 := fun k x0 x2 x10 x11 => rfl
  m0 := fun k x0 x1 x10 x11 => rfl
  m1 := fun k x0 x10 x13 => rfl
  m2 := fun k x0 x2 x14 x15 => rfl
  m3 := fun k x0 x14 x17 => rfl
  j4 := fun k x0 x1 x2 x3 x18 x19 x20 x21 => rfl
  l4 := fun k x0 x1 x2 x3 x18 x19 x20 x21 x22 => rfl
  j6 := fun k x0 x1 x2 x3 x18 x20 x24 x185 => rfl
  j7 := fun k x0 x1 x3 x18 x20 x24 => rfl
  j8 := fun k x0 x1 x3 x18 x20 x24 x199 => rfl
  mf := fun k l0 a1 a2 a3 => rfl
  s0 := fun k x0 x1 x6 x7 x8 => rfl
  s1 := fun k x0 x1 x6 => rfl
  s2 := fun k x0 x1 x6 x7 x8 => rfl
theorem reserve_part_sort {lt : S102 → S102 → Bool} {Ok : S102 → Prop} (hs : Srt.SWO lt) (hc : Srt.Cmp reserve_partSys lt Ok) (l : List S102) (hO : ∀ y ∈ l, Ok y) (hn : (l.length : Int) ≤ 288230376151711744) : Ev (fun k => qau.f k l) (Srt.ssort lt l) := by
  unfold qau.f
  exact Ev.bind (Srt.stable_run (S := reserve_partSys) reserve_partEqs hs hc l hO hn) (Ev.now _)
def ltP : Part → Part → Bool := lt2 (fun x => x.f2) (fun x => x.f0)
theorem reserve_cmp : Srt.Cmp reserve_partSys ltP (fun _ => True) := by
  intro x y _ _; refine ⟨_, ?_, (cmp2_lt x.f2 y.f2 x.f0 y.f0).trans (by simp [ltP, lt2])⟩
  show Ev (fun k => qaC.f k x.f0 x.f1 x.f2 y.f0 y.f1 y.f2) _
  unfold qaC.f
  simp only [compare_ev, Option.bind_some]
  exact Ev.bind (or2_ev _ _) (Ev.now _)
theorem dropU {l : List RU} {i : Int} (h0 : 0 ≤ i) (h1 : i < (l.length : Int)) : l.drop i.toNat = qam l i :: l.drop (i + 1).toNat := drop_getD _ h0 h1
theorem dropPt {l : List Part} {i : Int} (h0 : 0 ≤ i) (h1 : i < (l.length : Int)) : l.drop i.toNat = qag l i :: l.drop (i + 1).toNat := drop_getD _ h0 h1
def offersOf (l : List RU) : List Offer := l.map (fun u => u.f0)
theorem offersOf_length (l : List RU) : (offersOf l).length = l.length := by simp [offersOf]
theorem take_snoc {l : List RU} {i : Int} (h0 : 0 ≤ i) (h1 : i < (l.length : Int)) : offersOf (l.take (i + 1).toNat) = offersOf (l.take i.toNat) ++ [(qam l i).f0] := by
  have e : (i + 1).toNat = i.toNat + 1 := by omega
  have hl : i.toNat < l.length := by omega
  unfold offersOf
  rw [e, List.take_succ_eq_append_getElem hl, List.map_append]; congr 1
  unfold qam
  rw [List.getD_eq_getElem?_getD, List.getElem?_eq_getElem hl]; rfl
def RuOk (l : List RU) : Prop := ∀ u ∈ l, 0 ≤ u.f1 ∧ u.f1 ≤ 100000
theorem rcheck_some (l : List RU) (ho : okOffers (offersOf l)) (hlen : (l.length : Int) ≤ 2932031007317) : ∃ c e, Ev (fun k => qaH.f k (offersOf l)) c ∧ Ev (fun k => qaF.f k l) e ∧ (c ≠ 0 → e = c) ∧ (e = 0 → AllOk (offersOf l) ∧ c = 0 ∧ RuOk l) := by
  obtain ⟨c, hc, _, _, hcc⟩ := checkAll_some (offersOf l) ho
  have l1 : ∀ (d : Nat) (i : Int), 0 ≤ i → i ≤ (l.length : Int) → (l.length : Int) - i = d → EvP (fun k => qaF.l1 k l (l.length : Int) i) (fun e => e = 0 → RuOk (l.drop i.toNat)) := by
    intro d; induction d with
    | zero =>
      intro i h0 h1 hd; refine EvP.step (fun k => by rw [qaF.l1]) ?_
      rw [drop_end (by omega)]; exact EvP.neg (by omega) (EvP.ret (fun _ u hu => by cases hu))
    | succ d ih =>
      intro i h0 h1 hd; have w1 : wrap64 (i + 1) = i + 1 := w64 (by omega) (by omega)
      refine EvP.step (fun k => by rw [qaF.l1]) ?_
      rw [dropU h0 (by omega), w1]; refine EvP.pos (by omega) (EvP.pos h0 (EvP.pos (by omega) (EvP.ite (fun h => EvP.ret (fun h => by omega)) (fun h2 => EvP.ite (fun h => EvP.ret (fun h => by omega)) (fun h3 => ?_)))))
      refine EvP.mono (ih (i + 1) (by omega) (by omega) (by omega)) (fun e he h => ?_)
      intro u hu; rcases List.mem_cons.1 hu with rfl | hu
      · exact ⟨by omega, by omega⟩
      · exact he h u hu
  have l0 : ∀ (d : Nat) (i : Int), 0 ≤ i → i ≤ (l.length : Int) → (l.length : Int) - i = d → EvP (fun k => qaF.l0 k l (offersOf (l.take i.toNat)) l (l.length : Int) i) (fun e => (c ≠ 0 → e = c) ∧ (e = 0 → AllOk (offersOf l) ∧ c = 0 ∧ RuOk l)) := by
    intro d; induction d with
    | zero =>
      intro i h0 h1 hd; refine EvP.step (fun k => by rw [qaF.l0]) ?_
      refine EvP.neg (by omega) ?_
      rw [List.take_of_length_le (by omega)]; refine EvP.bindE hc (EvP.ite (fun h => ?_) (fun h => EvP.ret ⟨fun _ => rfl, fun h' => absurd h' h⟩))
      refine EvP.mono (l1 l.length 0 (by omega) (by omega) (by omega)) (fun e he => ⟨fun h' => absurd h h', fun h' => ⟨hcc h, h, ?_⟩⟩)
      simpa using he h'
    | succ d ih =>
      intro i h0 h1 hd; have w1 : wrap64 (i + 1) = i + 1 := w64 (by omega) (by omega)
      have hl : (offersOf (l.take i.toNat)).length ≤ l.length := by rw [offersOf_length, List.length_take]; omega
      refine EvP.step (fun k => by rw [qaF.l0]) ?_
      refine EvP.pos (by omega) (EvP.pos h0 (EvP.pos (by omega) (EvP.pos (by omega) ?_)))
      rw [w1, ← take_snoc h0 (by omega)]; exact ih (i + 1) (by omega) (by omega) (by omega)
  obtain ⟨e, h1, h2, h3⟩ := l0 l.length 0 (by omega) (by omega) (by omega)
  exact ⟨c, e, hc, h1, h2, h3⟩
def roomU (u : RU) : Int := mn u.f1 (sumO u.f0.f1)
def roomA : List RU → Int
  | [] => 0
  | u :: r => roomU u + roomA r
structure Fit (l : List RU) : Prop where
  ok : AllOk (offersOf l)
  all : Ev (fun k => qaH.f k (offersOf l)) 0
  ru : RuOk l
  chk : Ev (fun k => qaF.f k l) 0
theorem Fit.len {l : List RU} (h : Fit l) : l.length ≤ 10 := by have := h.ok.1; rwa [offersOf_length] at this
theorem Fit.valid {l : List RU} (h : Fit l) {u : RU} (hu : u ∈ l) : ValidO u.f0.f1 := h.ok.v _ (List.mem_map_of_mem (f := fun u => u.f0) hu)
theorem room_bound {l : List RU} (h : Fit l) {u : RU} (hu : u ∈ l) : 0 ≤ roomU u ∧ roomU u ≤ sumO u.f0.f1 ∧ sumO u.f0.f1 ≤ 100000 := by
  have h1 := (h.valid hu).sum
  have h2 := h.ru u hu
  have := mn_le u.f1 (sumO u.f0.f1)
  unfold roomU
  omega
theorem room_ev {l : List RU} (h : Fit l) {u : RU} (hu : u ∈ l) : Ev (fun k => qa3.f k u.f0.f0 u.f0.f1 u.f1) (roomU u) := by
  unfold qa3.f
  exact Ev.bind (offer_Most_ev _ (h.valid hu)) (Ev.now _)
theorem rd_in {l : List RU} {i : Int} (h0 : 0 ≤ i) (h1 : i < (l.length : Int)) : qam l i ∈ l := getD_mem (d := z32) h0 h1
theorem possible_loop {l : List RU} (h : Fit l) : ∀ (d : Nat) (i acc : Int), 0 ≤ i → i ≤ (l.length : Int) → (l.length : Int) - i = d → 0 ≤ acc → acc ≤ 100000 * i → Ev (fun k => qaG.l0 k acc l (l.length : Int) i) (acc + roomA (l.drop i.toNat), 0) := by
  have hlen := h.len; intro d; induction d with
  | zero =>
    intro i acc h0 h1 hd ha hb; refine Ev.step (fun k => by rw [qaG.l0]) ?_
    rw [drop_end (by omega)]; simp only [roomA, Int.add_zero]
    exact Ev.neg (by omega) (Ev.now _)
  | succ d ih =>
    intro i acc h0 h1 hd ha hb; refine Ev.step (fun k => by rw [qaG.l0]) ?_
    have hb2 := room_bound h (rd_in h0 (show i < (l.length : Int) by omega))
    refine Ev.pos (by omega) (Ev.pos h0 (Ev.pos (by omega) (Ev.bind (room_ev h (rd_in h0 (by omega))) ?_)))
    rw [dropU h0 (by omega), w64 (x := acc + _) (by omega) (by omega), w64 (x := i + 1) (by omega) (by omega)]; simp only [roomA]
    rw [← Int.add_assoc]; exact ih (i + 1) _ (by omega) (by omega) (by omega) (by omega) (by omega)
theorem possible_ev {l : List RU} (h : Fit l) : Ev (fun k => qaG.f k l) (roomA l, 0) := by
  unfold qaG.f
  refine Ev.bind h.chk (Ev.pos rfl ?_)
  have := possible_loop h l.length 0 0 (by omega) (by omega) (by omega) (by omega) (by omega)
  simpa using this
theorem possible_bad {l : List RU} {e : Int} (h : Ev (fun k => qaF.f k l) e) (he : e ≠ 0) : Ev (fun k => qaG.f k l) (0, e) := by
  unfold qaG.f
  exact Ev.bind h (Ev.neg he (Ev.now _))
def stepB (i : Int) : Int → List OStep → List Part
  | _, [] => []
  | knee, s :: r => (if mn knee s.f0 > 0 then [⟨i, mn knee s.f0, s.f1⟩] else []) ++ stepB i (knee - mn knee s.f0) r
def stepA (i : Int) : Int → List OStep → List Part
  | _, [] => []
  | knee, s :: r => (if mn knee s.f0 < s.f0 then [⟨i, s.f0 - mn knee s.f0, s.f1⟩] else []) ++ stepA i (knee - mn knee s.f0) r
def unitB : Int → List RU → List Part
  | _, [] => []
  | i, u :: r => stepB i (sumO u.f0.f1 - roomU u) u.f0.f1 ++ unitB (i + 1) r
def unitA : Int → List RU → List Part
  | _, [] => []
  | i, u :: r => stepA i (sumO u.f0.f1 - roomU u) u.f0.f1 ++ unitA (i + 1) r
theorem stepB_length (i : Int) : ∀ (st : List OStep) (knee : Int), (stepB i knee st).length ≤ st.length
  | [], _ => by simp [stepB]
  | s :: r, knee => by
    have := stepB_length i r (knee - mn knee s.f0)
    simp only [stepB, List.length_append, List.length_cons]
    split <;> simp <;> omega
theorem stepA_length (i : Int) : ∀ (st : List OStep) (knee : Int), (stepA i knee st).length ≤ st.length
  | [], _ => by simp [stepA]
  | s :: r, knee => by
    have := stepA_length i r (knee - mn knee s.f0)
    simp only [stepA, List.length_append, List.length_cons]
    split <;> simp <;> omega
theorem unitB_length {l : List RU} (h : ∀ u ∈ l, u.f0.f1.length ≤ 12) : ∀ (i : Int), (unitB i l).length ≤ 12 * l.length := by
  induction l with
  | nil => intro i; simp [unitB]
  | cons u r ih =>
    intro i; have h1 := ih (fun v hv => h v (List.mem_cons_of_mem _ hv)) (i + 1)
    have h2 := stepB_length i u.f0.f1 (sumO u.f0.f1 - roomU u)
    have h3 := h u List.mem_cons_self
    simp only [unitB, List.length_append, List.length_cons]
    omega
theorem unitA_length {l : List RU} (h : ∀ u ∈ l, u.f0.f1.length ≤ 12) : ∀ (i : Int), (unitA i l).length ≤ 12 * l.length := by
  induction l with
  | nil => intro i; simp [unitA]
  | cons u r ih =>
    intro i; have h1 := ih (fun v hv => h v (List.mem_cons_of_mem _ hv)) (i + 1)
    have h2 := stepA_length i u.f0.f1 (sumO u.f0.f1 - roomU u)
    have h3 := h u List.mem_cons_self
    simp only [unitA, List.length_append, List.length_cons]
    omega
theorem parts_inner (l : List RU) (i : Int) (st : List OStep) (hst : st.length ≤ 12) (hr : RangeO st) (r : List Part × List Part) : ∀ (d : Nat) (j knee : Int) (x4 x5 : List Part), 0 ≤ j → j ≤ (st.length : Int) → (st.length : Int) - j = d → 0 ≤ knee → knee ≤ 100000 → x4.length + (st.length - j.toNat) ≤ 1000000 → x5.length + (st.length - j.toNat) ≤ 1000000 → Ev (fun k => qaD.l0 k (x4 ++ stepB i knee (st.drop j.toNat)) (x5 ++ stepA i knee (st.drop j.toNat)) l (l.length : Int) (wrap64 (i + 1))) r → Ev (fun k => qaD.l1 k x4 x5 i knee l (l.length : Int) i st (st.length : Int) j) r := by
  intro d; induction d with
  | zero =>
    intro j knee x4 x5 h0 h1 hd hk hk2 hy4 hy5 he; refine Ev.step (fun k => by rw [qaD.l1]) ?_
    rw [drop_end (by omega)] at he; simp only [stepB, stepA, List.append_nil] at he
    exact Ev.neg (by omega) he
  | succ d ih =>
    intro j knee x4 x5 h0 h1 hd hk hk2 hy4 hy5 he; refine Ev.step (fun k => by rw [qaD.l1]) ?_
    have hx := hr _ (getD_mem (d := z41) h0 (show j < (st.length : Int) by omega))
    rw [dropS h0 (by omega)] at he; obtain ⟨s, hs⟩ : ∃ s, s = qaI st j := ⟨_, rfl⟩
    have hx' : 1 ≤ s.f0 ∧ s.f0 ≤ 100000 := by rw [hs]; exact ⟨hx.1, hx.2.1⟩
    rw [← hs] at he ⊢
    have hm := mn_le knee s.f0
    have w1 : wrap64 (j + 1) = j + 1 := w64 (by omega) (by omega)
    have w2 : wrap64 (knee - mn knee s.f0) = knee - mn knee s.f0 := w64 (by omega) (by omega)
    have w3 : wrap64 (s.f0 - mn knee s.f0) = s.f0 - mn knee s.f0 := w64 (by omega) (by omega)
    rw [w1, w2, w3]; simp only [stepB, stepA] at he
    refine Ev.pos (by omega) (Ev.pos h0 (Ev.pos (by omega) (Ev.ite (fun hp => Ev.pos (by omega) (Ev.binds ?_)) (fun hp => ?_))))
    · rw [if_pos hp] at he; refine Ev.ite (fun hq => Ev.pos (by omega) ?_) (fun hq => ?_)
      · rw [if_pos hq] at he; refine ih (j + 1) _ _ _ (by omega) (by omega) (by omega) (by omega) (by omega) (by simp; omega) (by simp; omega) ?_
        simpa only [List.append_assoc] using he
      · rw [if_neg hq] at he; refine ih (j + 1) _ _ _ (by omega) (by omega) (by omega) (by omega) (by omega) (by simp; omega) (by omega) ?_
        simpa only [List.append_assoc, List.nil_append] using he
    · rw [if_neg hp] at he; refine Ev.ite (fun hq => Ev.pos (by omega) ?_) (fun hq => ?_)
      · rw [if_pos hq] at he; refine ih (j + 1) _ _ _ (by omega) (by omega) (by omega) (by omega) (by omega) (by omega) (by simp; omega) ?_
        simpa only [List.append_assoc, List.nil_append] using he
      · rw [if_neg hq] at he; refine ih (j + 1) _ _ _ (by omega) (by omega) (by omega) (by omega) (by omega) (by omega) (by omega) ?_
        simpa only [List.append_assoc, List.nil_append] using he
end Go.Proofs.Ytfcifmbddikflaa.P
namespace Go.Proofs.Ytfcifmbddikflaa.P
set_option linter.unusedVariables false
set_option linter.unusedSimpArgs false
open Go.RowKit Go.Proofs.YtfcifmbddikflaaW.PrintWords Go.Proofs.YtfcifmbddikflaaW.PrintMore Go.Proofs.Ytfcifmbddikflaa.Opn Go.Proofs.Ytfcifmbddikflaa.Evp
theorem parts_loop {l : List RU} (h : Fit l) : ∀ (d : Nat) (i : Int) (x4 x5 : List Part), 0 ≤ i → i ≤ (l.length : Int) → (l.length : Int) - i = d → x4.length + 12 * d ≤ 1000 → x5.length + 12 * d ≤ 1000 → Ev (fun k => qaD.l0 k x4 x5 l (l.length : Int) i) (Srt.ssort ltP (x4 ++ unitB i (l.drop i.toNat)), Srt.ssort ltP (x5 ++ unitA i (l.drop i.toNat))) := by
  have hlen := h.len; intro d; induction d with
  | zero =>
    intro i x4 x5 h0 h1 hd h4 h5; refine Ev.step (fun k => by rw [qaD.l0]) ?_
    rw [drop_end (by omega)]; simp only [unitB, unitA, List.append_nil]
    refine Ev.neg (by omega) (Ev.bind (reserve_part_sort (lt2_swo _ _) reserve_cmp x4 (fun _ _ => trivial) (by omega)) (Ev.bind (reserve_part_sort (lt2_swo _ _) reserve_cmp x5 (fun _ _ => trivial) (by omega)) ?_))
    exact Ev.now _
  | succ d ih =>
    intro i x4 x5 h0 h1 hd h4 h5; have hu := rd_in h0 (show i < (l.length : Int) by omega)
    have hv := h.valid hu
    have hb := room_bound h hu
    have w1 : wrap64 (i + 1) = i + 1 := w64 (by omega) (by omega)
    have w2 : wrap64 (sumO (qam l i).f0.f1 - roomU (qam l i)) = sumO (qam l i).f0.f1 - roomU (qam l i) := w64 (by omega) (by omega)
    refine Ev.step (fun k => by rw [qaD.l0]) ?_
    refine Ev.pos (by omega) (Ev.pos h0 (Ev.pos (by omega) (Ev.bind (offer_Most_ev _ hv) (Ev.bind (room_ev h hu) ?_))))
    rw [w2]; have l1 := hv.1; have lB := stepB_length i (qam l i).f0.f1 (sumO (qam l i).f0.f1 - roomU (qam l i))
    have lA := stepA_length i (qam l i).f0.f1 (sumO (qam l i).f0.f1 - roomU (qam l i))
    refine parts_inner l i _ l1 hv.range _ _ 0 _ x4 x5 (by omega) (by omega) rfl (by omega) (by omega) (by omega) (by omega) ?_
    rw [w1]; have := ih (i + 1) (x4 ++ stepB i (sumO (qam l i).f0.f1 - roomU (qam l i)) (qam l i).f0.f1) (x5 ++ stepA i (sumO (qam l i).f0.f1 - roomU (qam l i)) (qam l i).f0.f1) (by omega) (by omega) (by omega) (by rw [List.length_append]; omega) (by rw [List.length_append]; omega)
    rw [dropU h0 (by omega)]; simp only [unitB, unitA]
    simpa only [List.append_assoc, Int.toNat_zero, List.drop_zero] using this
theorem parts_ev {l : List RU} (h : Fit l) : Ev (fun k => qaD.f k l) (Srt.ssort ltP (unitB 0 l), Srt.ssort ltP (unitA 0 l)) := by
  have hlen := h.len; unfold qaD.f
  have := parts_loop h l.length 0 [] [] (by omega) (by omega) (by omega) (by simp; omega) (by simp; omega)
  simpa using this
def sumP : List Part → Int
  | [] => 0
  | p :: r => p.f1 + sumP r
theorem sumP_append : ∀ (a b : List Part), sumP (a ++ b) = sumP a + sumP b
  | [], b => by simp [sumP]
  | p :: a, b => by simp only [List.cons_append, sumP, sumP_append a b]; omega
theorem sumP_perm {a b : List Part} (h : a.Perm b) : sumP a = sumP b := by
  induction h with
  | nil => rfl
  | cons x _ ih => simp only [sumP, ih]
  | swap x y l => simp only [sumP]; omega
  | trans _ _ h1 h2 => rw [h1, h2]
theorem step_sums (i : Int) : ∀ (st : List OStep) (knee : Int), 0 ≤ knee → RangeO st → sumP (stepB i knee st) = mn knee (sumO st) ∧ sumP (stepA i knee st) = sumO st - mn knee (sumO st)
  | [], knee, hk, _ => by
    have := mn_le knee 0
    simp only [stepB, stepA, sumP, sumO]
    omega
  | s :: r, knee, hk, hr => by
    have hs := hr s List.mem_cons_self
    have hm := mn_le knee s.f0
    have ih := step_sums i r (knee - mn knee s.f0) (by omega) hr.tail
    have hn := sumO_nonneg hr.tail
    have m1 := mn_le (knee - mn knee s.f0) (sumO r)
    have m2 := mn_le knee (s.f0 + sumO r)
    simp only [stepB, stepA, sumP_append, sumO, ih.1, ih.2]
    constructor
    · split <;> simp only [sumP] <;> omega
    · split <;> simp only [sumP] <;> omega
theorem unit_sums : ∀ (l : List RU) (i : Int), (∀ u ∈ l, RangeO u.f0.f1 ∧ 0 ≤ roomU u ∧ roomU u ≤ sumO u.f0.f1) → sumP (unitA i l) = roomA l ∧ sumP (unitB i l) + sumP (unitA i l) = sumA (offersOf l)
  | [], i, _ => by simp [unitA, unitB, sumP, roomA, offersOf, sumA]
  | u :: r, i, h => by
    have ih := unit_sums r (i + 1) (fun v hv => h v (List.mem_cons_of_mem _ hv))
    have hu := h u List.mem_cons_self
    have hs := step_sums i u.f0.f1 (sumO u.f0.f1 - roomU u) (by omega) hu.1
    have hm := mn_le (sumO u.f0.f1 - roomU u) (sumO u.f0.f1)
    have he : sumA (offersOf (u :: r)) = sumO u.f0.f1 + sumA (offersOf r) := rfl
    simp only [unitA, unitB, sumP_append, roomA, he]
    omega
def PartOk (n : Int) (p : Part) : Prop := 0 ≤ p.f0 ∧ p.f0 < n ∧ 1 ≤ p.f1 ∧ p.f1 ≤ 100000 ∧ -1000000 ≤ p.f2 ∧ p.f2 ≤ 1000000
theorem step_ok (i : Int) (n : Int) (h0 : 0 ≤ i) (h1 : i < n) : ∀ (st : List OStep) (knee : Int), 0 ≤ knee → RangeO st → (∀ p ∈ stepB i knee st, PartOk n p) ∧ (∀ p ∈ stepA i knee st, PartOk n p)
  | [], knee, _, _ => ⟨fun p hp => by simp [stepB] at hp, fun p hp => by simp [stepA] at hp⟩
  | s :: r, knee, hk, hr => by
    have hs := hr s List.mem_cons_self
    have hm := mn_le knee s.f0
    have ih := step_ok i n h0 h1 r (knee - mn knee s.f0) (by omega) hr.tail
    constructor
    · intro p hp; simp only [stepB] at hp
      rcases List.mem_append.1 hp with hp | hp
      · split at hp
        · rw [List.mem_singleton] at hp; subst hp; unfold PartOk
          dsimp only
          omega
        · cases hp
      · exact ih.1 p hp
    · intro p hp; simp only [stepA] at hp
      rcases List.mem_append.1 hp with hp | hp
      · split at hp
        · rw [List.mem_singleton] at hp; subst hp; unfold PartOk
          dsimp only
          omega
        · cases hp
      · exact ih.2 p hp
theorem unit_ok (n : Int) : ∀ (l : List RU) (i : Int), 0 ≤ i → i + l.length ≤ n → (∀ u ∈ l, RangeO u.f0.f1 ∧ 0 ≤ roomU u ∧ roomU u ≤ sumO u.f0.f1) → (∀ p ∈ unitB i l, PartOk n p) ∧ (∀ p ∈ unitA i l, PartOk n p)
  | [], i, _, _, _ => ⟨fun p hp => by simp [unitB] at hp, fun p hp => by simp [unitA] at hp⟩
  | u :: r, i, h0, h1, h => by
    simp only [List.length_cons] at h1
    have ih := unit_ok n r (i + 1) (by omega) (by omega) (fun v hv => h v (List.mem_cons_of_mem _ hv))
    have hu := h u List.mem_cons_self
    have hs := step_ok i n h0 (by omega) u.f0.f1 (sumO u.f0.f1 - roomU u) (by omega) hu.1
    constructor
    · intro p hp; simp only [unitB] at hp
      rcases List.mem_append.1 hp with hp | hp
      · exact hs.1 p hp
      · exact ih.1 p hp
    · intro p hp; simp only [unitA] at hp
      rcases List.mem_append.1 hp with hp | hp
      · exact hs.2 p hp
      · exact ih.2 p hp
theorem Fit.units {l : List RU} (h : Fit l) : ∀ u ∈ l, RangeO u.f0.f1 ∧ 0 ≤ roomU u ∧ roomU u ≤ sumO u.f0.f1 := fun u hu => ⟨(h.valid hu).range, (room_bound h hu).1, (room_bound h hu).2.1⟩
structure Parts (n : Int) (L : List Part) : Prop where
  len : L.length ≤ 120
  ok : ∀ p ∈ L, PartOk n p
  up : L.Pairwise fun x y => x.f2 ≤ y.f2
theorem ltP_swo : Srt.SWO ltP := lt2_swo _ _
theorem Parts.sort {n : Int} {L : List Part} (hl : L.length ≤ 120) (ho : ∀ p ∈ L, PartOk n p) : Parts n (Srt.ssort ltP L) := by
  refine ⟨by rw [Srt.qbn ltP_swo]; exact hl, fun p hp => ho p ((Srt.qbu ltP_swo L).mem_iff.1 hp), ?_⟩
  refine List.Pairwise.imp ?_ (Srt.qbL ltP_swo _ L rfl)
  intro x y hxy; simp only [ltP, lt2, decide_eq_false_iff_not] at hxy
  omega
theorem sumP_nonneg {n : Int} : ∀ {L : List Part}, (∀ p ∈ L, PartOk n p) → 0 ≤ sumP L ∧ sumP L ≤ 100000 * L.length
  | [], _ => by simp [sumP]
  | p :: r, h => by
    have h1 := h p List.mem_cons_self
    have h2 := sumP_nonneg (L := r) (fun q hq => h q (List.mem_cons_of_mem _ hq))
    unfold PartOk at h1
    simp only [sumP, List.length_cons]
    omega
theorem rp_in {L : List Part} {i : Int} (h0 : 0 ≤ i) (h1 : i < (L.length : Int)) : qag L i ∈ L := getD_mem (d := z102) h0 h1
theorem total_loop {n : Int} {L : List Part} (h : Parts n L) : ∀ (d : Nat) (i acc : Int), 0 ≤ i → i ≤ (L.length : Int) → (L.length : Int) - i = d → 0 ≤ acc → acc ≤ 100000 * i → Ev (fun k => qaQ.l0 k acc L (L.length : Int) i) (acc + sumP (L.drop i.toNat)) := by
  have hlen := h.len; intro d; induction d with
  | zero =>
    intro i acc h0 h1 hd ha hb; refine Ev.step (fun k => by rw [qaQ.l0]) ?_
    rw [drop_end (by omega)]; simp only [sumP, Int.add_zero]
    exact Ev.neg (by omega) (Ev.now _)
  | succ d ih =>
    intro i acc h0 h1 hd ha hb; have hb2 := h.ok _ (rp_in h0 (show i < (L.length : Int) by omega))
    unfold PartOk at hb2
    refine Ev.step (fun k => by rw [qaQ.l0]) ?_
    refine Ev.pos (by omega) (Ev.pos h0 (Ev.pos (by omega) ?_))
    rw [dropPt h0 (by omega), w64 (x := acc + _) (by omega) (by omega), w64 (x := i + 1) (by omega) (by omega)]; simp only [sumP]
    rw [← Int.add_assoc]; exact ih (i + 1) _ (by omega) (by omega) (by omega) (by omega) (by omega)
theorem total_ev {n : Int} {L : List Part} (h : Parts n L) : Ev (fun k => qaQ.f k L) (sumP L) := by
  unfold qaQ.f
  have := total_loop h L.length 0 0 (by omega) (by omega) (by omega) (by omega) (by omega)
  simpa using this
def takeP : List Part → Int → List Int
  | [], _ => []
  | p :: r, x => mn p.f1 x :: takeP r (x - mn p.f1 x)
theorem taken_loop {n : Int} {L : List Part} (h : Parts n L) : ∀ (d : Nat) (i x : Int) (done : List Int), 0 ≤ i → i ≤ (L.length : Int) → (L.length : Int) - i = d → (done.length : Int) = i → 0 ≤ x → x ≤ 1000000000 → Ev (fun k => qaM.l0 k x (done ++ List.replicate d 0) L (L.length : Int) i) (done ++ takeP (L.drop i.toNat) x) := by
  have hlen := h.len; intro d; induction d with
  | zero =>
    intro i x done h0 h1 hd hdl hx hx2; refine Ev.step (fun k => by rw [qaM.l0]) ?_
    rw [drop_end (by omega)]; simp only [takeP]
    exact Ev.neg (by omega) (Ev.now _)
  | succ d ih =>
    intro i x done h0 h1 hd hdl hx hx2; have hb2 := h.ok _ (rp_in h0 (show i < (L.length : Int) by omega))
    unfold PartOk at hb2
    have hm := mn_le (qag L i).f1 x
    have el : ((done ++ List.replicate (d + 1) 0).length : Int) = L.length := by simp; omega
    refine Ev.step (fun k => by rw [qaM.l0]) ?_
    refine Ev.pos (by omega) (Ev.pos h0 (Ev.pos (by omega) (Ev.pos (by omega) (Ev.binds ?_))))
    rw [set_mid hdl, dropPt h0 (by omega)]; have er : rd (done ++ [mn (qag L i).f1 x] ++ List.replicate d 0) i = mn (qag L i).f1 x := by
      unfold rd
      rw [show i.toNat = done.length by omega]; simp [List.getD_eq_getElem?_getD]
    rw [er, w64 (x := x - _) (by omega) (by omega), w64 (x := i + 1) (by omega) (by omega)]; have := ih (i + 1) (x - mn (qag L i).f1 x) (done ++ [mn (qag L i).f1 x]) (by omega) (by omega) (by omega) (by simp; omega) (by omega) (by omega)
    simpa only [takeP, List.append_assoc, List.singleton_append] using this
theorem taken_ev {n : Int} {L : List Part} (h : Parts n L) {x : Int} (hx : 0 ≤ x) (hx2 : x ≤ 1000000000) : Ev (fun k => qaM.f k L x) (takeP L x) := by
  have hlen := h.len; unfold qaM.f
  refine Ev.pos (by omega) (Ev.pos (by omega) ?_)
  have := taken_loop h L.length 0 x [] (by omega) (by omega) (by omega) (by simp) hx hx2
  simpa using this
def gI (b : List Int) (j : Nat) : Int := b.getD j 0
def gP (B : List Part) (j : Nat) : Part := B.getD j z102
structure Use (L : List Part) (v : List Int) : Prop where
  len : v.length = L.length
  rng : ∀ j, j < L.length → 0 ≤ gI v j ∧ gI v j ≤ (gP L j).f1
  grd : ∀ j j', j < j' → j' < L.length → 0 < gI v j' → gI v j = (gP L j).f1
theorem takeP_use {n : Int} : ∀ (L : List Part) (x : Int), (∀ p ∈ L, PartOk n p) → 0 ≤ x → Use L (takeP L x) ∧ sumI (takeP L x) = mn x (sumP L) ∧ (x = 0 → ∀ j, gI (takeP L x) j = 0)
  | [], x, _, hx => by
    have := mn_le x 0
    refine ⟨⟨rfl, fun j hj => by simp at hj, fun j j' h1 h2 => by simp at h2⟩, ?_, fun _ j => ?_⟩
    · simp only [takeP, sumI, sumP]; omega
    · simp [gI, takeP]
  | p :: r, x, h, hx => by
    have hp := h p List.mem_cons_self
    have hr : ∀ q ∈ r, PartOk n q := fun q hq => h q (List.mem_cons_of_mem _ hq)
    have hs := sumP_nonneg hr
    unfold PartOk at hp
    have hm := mn_le p.f1 x
    obtain ⟨ih1, ih2, ih3⟩ := takeP_use r (x - mn p.f1 x) hr (by omega)
    have m1 := mn_le (x - mn p.f1 x) (sumP r)
    have m2 := mn_le x (p.f1 + sumP r)
    refine ⟨⟨by simp [takeP, ih1.len], ?_, ?_⟩, ?_, ?_⟩
    · intro j hj; cases j with
      | zero => simp [gI, gP, takeP]; omega
      | succ j =>
        have := ih1.rng j (by simpa using hj)
        simpa [gI, gP, takeP] using this
    · intro j j' h1 h2 h3
      cases j' with
      | zero => omega
      | succ j' =>
        have h3' : 0 < gI (takeP r (x - mn p.f1 x)) j' := by simpa [gI, takeP] using h3
        cases j with
        | zero =>
          have : x - mn p.f1 x ≠ 0 := fun h0 => by have := ih3 h0 j'; omega
          simp [gI, gP, takeP]
          omega
        | succ j =>
          have := ih1.grd j j' (by omega) (by simpa using h2) h3'
          simpa [gI, gP, takeP] using this
    · simp only [takeP, sumI, sumP, ih2]
      omega
    · intro h0 j; have e0 : mn p.f1 x = 0 := by omega
      cases j with
      | zero => simp [gI, takeP, e0]
      | succ j =>
        have := ih3 (by omega) j
        simpa [gI, takeP] using this
end Go.Proofs.Ytfcifmbddikflaa.P
namespace Go.Proofs.Ytfcifmbddikflaa.P
set_option linter.unusedVariables false
set_option linter.unusedSimpArgs false
open Go.RowKit Go.Proofs.YtfcifmbddikflaaW.PrintWords Go.Proofs.YtfcifmbddikflaaW.PrintMore Go.Proofs.Ytfcifmbddikflaa.Opn Go.Proofs.Ytfcifmbddikflaa.Evp
theorem gI_set {b : List Int} {i : Nat} {v : Int} (h : i < b.length) (j : Nat) : gI (b.set i v) j = if j = i then v else gI b j := by
  unfold gI
  rw [List.getD_eq_getElem?_getD, List.getElem?_set, List.getD_eq_getElem?_getD]; by_cases e : i = j
  · subst e; simp [h]
  ·rw [if_neg e, if_neg (by omega)]
theorem sumI_set : ∀ {b : List Int} {i : Nat} {v : Int}, i < b.length → sumI (b.set i v) = sumI b - gI b i + v
  | x :: b, 0, v, _ => by simp [sumI, gI]; omega
  | x :: b, i + 1, v, h => by
    have := sumI_set (b := b) (i := i) (v := v) (by simpa using h)
    simp only [List.set_cons_succ, sumI, this]
    simp [gI]
    omega
  | [], _, _, h => by simp at h
theorem up_le {n : Int} {L : List Part} (h : Parts n L) {j j' : Nat} (h1 : j ≤ j') (h2 : j' < L.length) : (gP L j).f2 ≤ (gP L j').f2 := by
  by_cases e : j = j'
  · subst e; exact Int.le_refl _
  · have := List.pairwise_iff_getElem.1 h.up j j' (by omega) h2 (by omega)
    unfold gP
    rw [List.getD_eq_getElem?_getD, List.getD_eq_getElem?_getD, List.getElem?_eq_getElem h2, List.getElem?_eq_getElem (show j < L.length by omega)]; exact this
theorem gP_ok {n : Int} {L : List Part} (h : Parts n L) {j : Nat} (hj : j < L.length) : PartOk n (gP L j) := by
  unfold gP
  rw [List.getD_eq_getElem?_getD, List.getElem?_eq_getElem hj]; exact h.ok _ (List.getElem_mem _)
theorem sumI_le_all : ∀ {v : List Int}, (∀ x ∈ v, 0 ≤ x) → ∀ x ∈ v, x ≤ sumI v ∧ 0 ≤ sumI v
  | y :: v, h, x, hx => by
    have h0 := h y List.mem_cons_self
    rcases List.mem_cons.1 hx with rfl | hx
    · have : 0 ≤ sumI v := by
        cases v with
        | nil => simp [sumI]
        | cons z v => exact (sumI_le_all (fun w hw => h w (List.mem_cons_of_mem _ hw)) z List.mem_cons_self).2
      simp only [sumI]; omega
    · have := sumI_le_all (fun w hw => h w (List.mem_cons_of_mem _ hw)) x hx
      simp only [sumI]; omega
  | [], _, x, hx => by cases hx
structure Swap (B A : List Part) (D cap : Int) (b a : List Int) : Prop where
  ub : Use B b
  ua : Use A a
  c2 : ∀ x y, x < A.length → y < B.length → 0 < gI a x → gI b y < (gP B y).f1 → (gP A x).f2 ≤ (gP B y).f2
  sum : sumI b + sumI a = D
  cap : sumI a ≤ cap
structure Ended (B A : List Part) (D cap : Int) (b a : List Int) : Prop where
  sw : Swap B A D cap b a
  fin : sumI a = cap ∨ ∀ x y, x < B.length → y < A.length → 0 < gI b x → gI a y < (gP A y).f1 → (gP B x).f2 ≤ (gP A y).f2
theorem better_loop {n : Int} {B A : List Part} (hB : Parts n B) (hA : Parts n A) (D cap : Int) : ∀ (M : Nat) (b a : List Int) (most i k : Int), (i + 1) + (A.length - k) + most ≤ M → Swap B A D cap b a → most = cap - sumI a → most ≤ 1000000000 → -1 ≤ i → i < B.length → 0 ≤ k → k ≤ A.length → (∀ j : Nat, i < j → j < B.length → gI b j = 0) → (∀ j : Nat, (j : Int) < k → gI a j = (gP A j).f1) → EvP (fun kk => qaq.l0 kk B A b a most i k) (fun r => Ended B A D cap r.1 r.2) := by
  have hlB := hB.len; have hlA := hA.len; intro M; induction M with
  | zero =>
    intro b a most i k hM hs hmost hmb hi0 hi1 hk0 hk1 hZ hF; have hc := hs.cap; have e1 : i = -1 := by omega
    refine EvP.step (fun kk => by rw [qaq.l0]) (EvP.neg (by omega) (EvP.step (fun kk => by rw [qaq.j1]) (EvP.neg (by simp) (EvP.ret (show Ended B A D cap b a from ⟨hs, Or.inr ?_⟩)))))
    intro x y hx hy h1 h2; have := hZ x (by omega) hx
    omega
  | succ M ih =>
    intro b a most i k hM hs hmost hmb hi0 hi1 hk0 hk1 hZ hF; have hc := hs.cap; have stop : (i < 0 ∨ k = A.length ∨ most ≤ 0) → EvP (fun kk => qaq.j1 kk B A b a most i k false) (fun r => Ended B A D cap r.1 r.2) := by
      intro h; refine EvP.step (fun kk => by rw [qaq.j1]) (EvP.neg (by simp) (EvP.ret (show Ended B A D cap b a from ⟨hs, ?_⟩)))
      rcases h with h | h | h
      · refine Or.inr (fun x y hx hy h1 h2 => ?_)
        have := hZ x (by omega) hx
        omega
      · refine Or.inr (fun x y hx hy h1 h2 => ?_)
        have := hF y (by omega)
        omega
      · exact Or.inl (by omega)
    refine EvP.step (fun kk => by rw [qaq.l0]) (EvP.ite (fun h1 => EvP.ite (fun h2 => ?_) (fun h2 => stop (by omega))) (fun h1 => stop (by omega)))
    by_cases h3 : most > 0
    · rw [decide_eq_true h3]; refine EvP.step (fun kk => by rw [qaq.j1]) (EvP.pos rfl (EvP.pos (by omega) (EvP.pos (by have := hs.ub.len; omega) ?_)))
      obtain ⟨ii, hii⟩ : ∃ ii : Nat, (ii : Int) = i := ⟨i.toNat, by omega⟩
      obtain ⟨kk', hkk⟩ : ∃ ii : Nat, (ii : Int) = k := ⟨k.toNat, by omega⟩
      have rb : rd b i = gI b ii := by unfold rd gI; rw [show i.toNat = ii by omega]
      have ra : rd a k = gI a kk' := by unfold rd gI; rw [show k.toNat = kk' by omega]
      have rB : qag B i = gP B ii := by unfold qag gP; rw [show i.toNat = ii by omega]
      have rA : qag A k = gP A kk' := by unfold qag gP; rw [show k.toNat = kk' by omega]
      have tb : i.toNat = ii := by omega
      have ta : k.toNat = kk' := by omega
      have gb := hs.ub.rng ii (by omega)
      have ga := hs.ua.rng kk' (by omega)
      have oB := gP_ok hB (show ii < B.length by omega)
      have oA := gP_ok hA (show kk' < A.length by omega)
      have lb := hs.ub.len; have la := hs.ua.len; unfold PartOk at oB oA
      have w1 : wrap64 (i - 1) = i - 1 := w64 (by omega) (by omega)
      have w2 : wrap64 (k + 1) = k + 1 := w64 (by omega) (by omega)
      have w3 : wrap64 ((gP A kk').f1 - gI a kk') = (gP A kk').f1 - gI a kk' := w64 (by omega) (by omega)
      simp only [rb, ra, rB, rA, w1, w2, w3, tb, ta]
      refine EvP.ite (fun h4 => ?_) (fun h4 => EvP.pos (by omega) (EvP.pos (by omega) (EvP.pos (by omega) (EvP.ite (fun h5 => ?_) (fun h5 => EvP.pos (by omega) (EvP.ite (fun h6 => ?_) (fun h6 => ?_)))))))
      · refine ih b a most (i - 1) k (by omega) hs hmost hmb (by omega) (by omega) hk0 hk1 (fun j hj1 hj2 => ?_) hF
        by_cases e : j = ii
        · rw [e]; exact h4
        · exact hZ j (by omega) hj2
      · refine ih b a most i (k + 1) (by omega) hs hmost hmb hi0 hi1 (by omega) (by omega) hZ (fun j hj => ?_)
        by_cases e : j = kk'
        · rw [e]; exact h5
        · exact hF j (by omega)
      · refine EvP.ret (show Ended B A D cap b a from ⟨hs, Or.inr (fun x y hx hy h7 h8 => ?_)⟩)
        have x1 : x ≤ ii := by
          by_cases e : x ≤ ii
          · exact e
          · have := hZ x (by omega) hx; omega
        have y1 : kk' ≤ y := by
          by_cases e : kk' ≤ y
          · exact e
          · have := hF y (by omega); omega
        have u1 := up_le hB x1 (by omega)
        have u2 := up_le hA y1 hy
        omega
      · have m1 := mn_le (gI b ii) ((gP A kk').f1 - gI a kk')
        have m2 := mn_le (mn (gI b ii) ((gP A kk').f1 - gI a kk')) most
        obtain ⟨v, hv⟩ : ∃ v, v = mn (mn (gI b ii) ((gP A kk').f1 - gI a kk')) most := ⟨_, rfl⟩
        rw [← hv] at m2 ⊢
        have w4 : wrap64 (gI b ii - v) = gI b ii - v := w64 (by omega) (by omega)
        have w5 : wrap64 (gI a kk' + v) = gI a kk' + v := w64 (by omega) (by omega)
        have w6 : wrap64 (most - v) = most - v := w64 (by omega) (by omega)
        rw [w4, w5, w6]; have sb := sumI_set (b := b) (i := ii) (v := gI b ii - v) (by omega)
        have sa := sumI_set (b := a) (i := kk') (v := gI a kk' + v) (by omega)
        have gb' := gI_set (b := b) (i := ii) (v := gI b ii - v) (by omega)
        have ga' := gI_set (b := a) (i := kk') (v := gI a kk' + v) (by omega)
        have az : ∀ j, kk' < j → j < A.length → gI a j = 0 := by
          intro j hj1 hj2; have r1 := hs.ua.rng j hj2
          by_cases e : 0 < gI a j
          · exact absurd (hs.ua.grd kk' j hj1 hj2 e) h5
          · omega
        have bf : ∀ j, j < ii → gI b j = (gP B j).f1 := fun j hj => hs.ub.grd j ii hj (by omega) (by omega)
        refine ih (b.set ii (gI b ii - v)) (a.set kk' (gI a kk' + v)) (most - v) i k (by omega) ⟨⟨by rw [List.length_set]; exact lb, ?_, ?_⟩, ⟨by rw [List.length_set]; exact la, ?_, ?_⟩, ?_, ?_, ?_⟩ (by omega) (by omega) hi0 hi1 hk0 hk1 ?_ ?_
        · intro j hj; rw [gb' j]; have := hs.ub.rng j hj
          split
          · subst j; omega
          · exact this
        · intro j j' h7 h8 h9
          rw [gb' j'] at h9; rw [gb' j]; split at h9
          · subst j'; rw [if_neg (by omega)]; exact bf j h7
          · split
            · subst j; have := hZ j' (by omega) h8
              omega
            · exact hs.ub.grd j j' h7 h8 h9
        · intro j hj; rw [ga' j]; have := hs.ua.rng j hj
          split
          · subst j; omega
          · exact this
        · intro j j' h7 h8 h9
          rw [ga' j'] at h9; rw [ga' j]; split at h9
          · subst j'; rw [if_neg (by omega)]; exact hF j (by omega)
          · split
            · subst j; have := az j' (by omega) h8
              omega
            · exact hs.ua.grd j j' h7 h8 h9
        · intro x y hx hy h7 h8; rw [ga' x] at h7; rw [gb' y] at h8; have x1 : x ≤ kk' := by
            by_cases e : x ≤ kk'
            · exact e
            · rw [if_neg (by omega)] at h7; have := az x (by omega) hx
              omega
          have y1 : ii ≤ y := by
            by_cases e : ii ≤ y
            · exact e
            · rw [if_neg (by omega)] at h8; have := bf y (by omega)
              omega
          have u1 := up_le hA x1 (by omega)
          have u2 := up_le hB y1 hy
          omega
        · rw [sb, sa]; have := hs.sum; omega
        · rw [sa]; omega
        · intro j hj1 hj2; rw [gb' j, if_neg (by omega)]; exact hZ j hj1 hj2
        · intro j hj; rw [ga' j, if_neg (by omega)]; exact hF j hj
    · rw [decide_eq_false h3]; exact stop (by omega)
theorem better_ev {n : Int} {B A : List Part} (hB : Parts n B) (hA : Parts n A) {D cap : Int} {b a : List Int} {most : Int} (hs : Swap B A D cap b a) (hmost : most = cap - sumI a) (hmb : most ≤ 1000000000) : EvP (fun k => qaq.f k B A b a most) (fun r => Ended B A D cap r.1 r.2) := by
  have hlB := hB.len; have hc := hs.cap; have hlA := hA.len; unfold qaq.f
  rw [w64 (x := (B.length : Int) - 1) (by omega) (by omega)]; exact better_loop hB hA D cap ((B.length : Int) + A.length + most).toNat b a most _ 0 (by omega) hs hmost hmb (by omega) (by omega) (by omega) (by omega) (fun j h1 h2 => by omega) (fun j h => by omega)
def addP : List Part → List Int → List Int → List Int
  | p :: P, v :: V, o => addP P V (o.set p.f0.toNat (gI o p.f0.toNat + v))
  | _, _, o => o
def sumU (u : Int) : List Part → List Int → Int
  | p :: P, v :: V => (if p.f0 = u then v else 0) + sumU u P V
  | _, _ => 0
theorem qbS : ∀ (P : List Part) (V o : List Int), (addP P V o).length = o.length
  | p :: P, v :: V, o => by simp only [addP]; rw [qbS P V, List.length_set]
  | [], _, _ => rfl
  | _ :: _, [], _ => rfl
theorem addP_at {n : Int} : ∀ (P : List Part) (V o : List Int), (∀ p ∈ P, PartOk n p) → (o.length : Int) = n → ∀ u : Nat, (u : Int) < n → gI (addP P V o) u = gI o u + sumU u P V
  | p :: P, v :: V, o, h, ho, u, hu => by
    have hp := h p List.mem_cons_self
    unfold PartOk at hp
    simp only [addP, sumU]
    rw [addP_at P V _ (fun q hq => h q (List.mem_cons_of_mem _ hq)) (by rw [List.length_set]; exact ho) u hu, gI_set (by omega)]
    by_cases e : p.f0 = u
    · rw [if_pos (by omega), if_pos e, show p.f0.toNat = u by omega]; omega
    · rw [if_neg (by omega), if_neg e]; omega
  | [], V, o, _, _, u, _ => by simp [addP, sumU]
  | _ :: _, [], o, _, _, u, _ => by simp [addP, sumU]
theorem addP_sum {n : Int} : ∀ (P : List Part) (V o : List Int), (∀ p ∈ P, PartOk n p) → (o.length : Int) = n → P.length = V.length → sumI (addP P V o) = sumI o + sumI V
  | p :: P, v :: V, o, h, ho, hl => by
    have hp := h p List.mem_cons_self
    unfold PartOk at hp
    simp only [addP, sumI]
    rw [addP_sum P V _ (fun q hq => h q (List.mem_cons_of_mem _ hq)) (by rw [List.length_set]; exact ho) (by simpa using hl), sumI_set (by omega)]
    omega
  | [], [], o, _, _, _ => by simp [addP, sumI]
  | [], _ :: _, _, _, _, h => by simp at h
  | _ :: _, [], _, _, _, h => by simp at h
theorem addP_nonneg {n : Int} : ∀ (P : List Part) (V o : List Int), (∀ p ∈ P, PartOk n p) → (o.length : Int) = n → (∀ v ∈ V, 0 ≤ v) → (∀ x ∈ o, 0 ≤ x) → ∀ x ∈ addP P V o, 0 ≤ x
  | p :: P, v :: V, o, h, ho, hV, hO => by
    have hp := h p List.mem_cons_self
    unfold PartOk at hp
    simp only [addP]
    refine addP_nonneg P V _ (fun q hq => h q (List.mem_cons_of_mem _ hq)) (by rw [List.length_set]; exact ho) (fun w hw => hV w (List.mem_cons_of_mem _ hw)) (fun x hx => ?_)
    rcases List.mem_or_eq_of_mem_set hx with hx | rfl
    · exact hO x hx
    · have h1 := hV v List.mem_cons_self
      have h2 : gI o p.f0.toNat ∈ o := by
        unfold gI
        rw [List.getD_eq_getElem?_getD, List.getElem?_eq_getElem (show p.f0.toNat < o.length by omega)]; exact List.getElem_mem _
      have := hO _ h2
      omega
  | [], V, o, _, _, _, hO => by simpa [addP] using hO
  | _ :: _, [], o, _, _, _, hO => by simpa [addP] using hO
theorem gI_mem {v : List Int} {j : Nat} (h : j < v.length) : gI v j ∈ v := by
  unfold gI
  rw [List.getD_eq_getElem?_getD, List.getElem?_eq_getElem h]; exact List.getElem_mem _
theorem Use.nonneg {L : List Part} {v : List Int} (h : Use L v) : ∀ x ∈ v, 0 ≤ x := by
  intro x hx; obtain ⟨j, hj, rfl⟩ := List.mem_iff_getElem.1 hx
  have := (h.rng j (by have := h.len; omega)).1
  unfold gI at this
  rwa [List.getD_eq_getElem?_getD, List.getElem?_eq_getElem hj] at this
end Go.Proofs.Ytfcifmbddikflaa.P
