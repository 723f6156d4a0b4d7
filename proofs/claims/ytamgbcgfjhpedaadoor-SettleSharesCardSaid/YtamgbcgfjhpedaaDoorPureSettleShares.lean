/- The pure statement of the law SettleShares; what its row says is proved behind it. -/
import Derived.Test.YtamgbcgfjhpedaaDoorVpSA
namespace Go.Proofs.YtamgbcgfjhpedaaDoor.VE
open Go Go.RowKit
set_option linter.unusedVariables false
attribute [local irreducible] wrap64
attribute [local irreducible] rd
theorem ok_size {p : ByteArray} {q : Rat} (h : OutOk p q) : p.size ≤ 5000 := by
  obtain ⟨e, f1, f2⟩ := h
  rw [e, of_size (outL_byte q)]
  unfold outL
  rw [List.length_append, List.length_append]
  split <;> split <;> simp only [List.length_cons, List.length_nil] <;> omega
/-! the order of the raised ones -/
def Kept (lt : Int → Int → Bool) (l : List Int) : Prop := l.Pairwise fun x y => lt y x = false ∧ (lt x y = false → x < y)
theorem ins_kept {lt : Int → Int → Bool} (h : Srt.SWO lt) (z : Int) : ∀ (l : List Int), Kept lt l → (∀ y ∈ l, y < z) → Kept lt (Srt.mrg lt l [z])
  | [], _, _ => by rw [Srt.mrg_nil_left]; exact List.pairwise_singleton _ _
  | y :: l, hk, hz => by
    rw [Srt.mrg_cons]
    obtain ⟨h1, h2⟩ := List.pairwise_cons.1 hk
    by_cases hc : lt z y = true
    · rw [if_pos hc, Srt.mrg_nil_right]
      refine List.pairwise_cons.2 ⟨fun w hw => ?_, hk⟩
      have hzw : lt z w = true := by
        rcases List.mem_cons.1 hw with rfl | hw
        · exact hc
        · exact h.lt_le hc (h1 w hw).1
      exact ⟨h.asymm hzw, fun e => by rw [hzw] at e; cases e⟩
    · have hc' : lt z y = false := by simpa using hc
      rw [if_neg hc]
      have ih := ins_kept h z l h2 (fun w hw => hz w (by simp [hw]))
      refine List.pairwise_cons.2 ⟨fun w hw => ?_, ih⟩
      have hw := (Srt.mrg_perm (lt := lt) _ l [z] (Nat.le_refl _)).mem_iff.1 hw
      rcases List.mem_append.1 hw with hw | hw
      · exact h1 w hw
      · rw [List.mem_singleton.1 hw]
        exact ⟨hc', fun _ => hz y (by simp)⟩
theorem ssort_kept {lt : Int → Int → Bool} (h : Srt.SWO lt) : ∀ n : Nat, Kept lt (Srt.ssort lt (idxs n))
  | 0 => List.Pairwise.nil
  | n + 1 => by
    rw [idxs_succ, Srt.ssort_snoc]
    refine ins_kept h _ _ (ssort_kept h n) (fun y hy => ?_)
    have hy := (Srt.ssort_perm h (idxs n)).mem_iff.1 hy
    unfold idxs at hy
    obtain ⟨i, hi, rfl⟩ := List.mem_map.1 hy
    rw [List.mem_range] at hi
    omega
theorem taken_mono (g : Nat → Rat) {L n a b : Nat} (ha : a < L) (hb : b < L) (h : g b < g a ∨ g a = g b ∧ a < b) (hm : (b : Int) ∈ (Srt.ssort (byFr g) (idxs L)).take n) : (a : Int) ∈ (Srt.ssort (byFr g) (idxs L)).take n := by
  apply Classical.byContradiction
  intro hn
  have hk := ssort_kept (byFr_swo g) L
  have hp := Srt.ssort_perm (byFr_swo g) (idxs L)
  have hma : (a : Int) ∈ Srt.ssort (byFr g) (idxs L) := hp.mem_iff.2 (by
    unfold idxs
    exact List.mem_map.2 ⟨a, List.mem_range.2 ha, rfl⟩)
  rw [← List.take_append_drop n (Srt.ssort (byFr g) (idxs L))] at hma hk
  have hd : (a : Int) ∈ (Srt.ssort (byFr g) (idxs L)).drop n := (List.mem_append.1 hma).resolve_left hn
  obtain ⟨h1, h2⟩ := (List.pairwise_append.1 hk).2.2 _ hm _ hd
  unfold byFr at h1 h2
  have h1 := of_decide_eq_false h1
  simp only [Int.toNat_natCast] at h1 h2
  rcases h with h | ⟨h, hl⟩
  · exact h1 h
  · have := h2 (decide_eq_false (by grind))
    omega
theorem floor_mono {x y : Rat} (h : x ≤ y) : x.floor ≤ y.floor := by
  apply Classical.byContradiction
  intro hc
  have h1 := Rat.floor_le x
  have h2 := Rat.lt_floor_add_one y
  have h3 : ((y.floor + 1 : Int) : Rat) ≤ (x.floor : Rat) := by exact_mod_cast (by omega : y.floor + 1 ≤ x.floor)
  grind
theorem part_mono (g : Nat → Rat) {L n a b : Nat} (ha : a < L) (hb : b < L) (h : g a < g b ∨ g a = g b ∧ b < a ∨ n = 0 ∧ g a ≤ g b) :
    (g a).floor + (if (a : Int) ∈ (Srt.ssort (byFr fun i => fr (g i)) (idxs L)).take n then 1 else 0) ≤ (g b).floor + (if (b : Int) ∈ (Srt.ssort (byFr fun i => fr (g i)) (idxs L)).take n then 1 else 0) := by
  have hle : g a ≤ g b := by grind
  have hf := floor_mono hle
  by_cases hlt : (g a).floor < (g b).floor
  · split <;> split <;> omega
  · have hfe : (g a).floor = (g b).floor := by omega
    by_cases hm : (a : Int) ∈ (Srt.ssort (byFr fun i => fr (g i)) (idxs L)).take n
    · have hmb := taken_mono (fun i => fr (g i)) (n := n) hb ha (by
        show fr (g a) < fr (g b) ∨ fr (g b) = fr (g a) ∧ b < a
        unfold fr
        rw [hfe]
        rcases h with h | ⟨h, h'⟩ | ⟨h, _⟩
        · exact Or.inl (by grind)
        · exact Or.inr ⟨by grind, h'⟩
        · rw [h] at hm; cases hm) hm
      rw [if_pos hm, if_pos hmb]; omega
    · rw [if_neg hm]
      split <;> omega
/-! settle.Shares -/
def SharesP (c : Int) (ps : List ByteArray) (r : List Int × Int) : Prop := (r.2 ≠ 0 → r.1 = []) ∧ (r.2 = 0 → ps.length ≤ 256 ∧ ∃ (f g : Nat → Rat) (n : Nat), (∀ i : Nat, i < ps.length → OutOk (rStr ps (i : Int)) (f i) ∧ g i = (c : Rat) * f i / sumQ f ps.length) ∧ 0 < sumQ f ps.length ∧ sumQ (fun i => fr (g i)) ps.length = ((n : Int) : Rat) ∧ n ≤ ps.length ∧ r.1.length = ps.length ∧
  ∀ i : Nat, i < ps.length → (-1000000000000000 ≤ (g i).floor ∧ (g i).floor ≤ 1000000000000000) ∧ rI64 r.1 (i : Int) = (g i).floor + (if (i : Int) ∈ (Srt.ssort (byFr fun i => fr (g i)) (idxs ps.length)).take n then 1 else 0))
theorem shares_out (c : Int) (hc0 : -1000000000000000 ≤ c) (hc1 : c ≤ 1000000000000000) (ps : List ByteArray) (hb : ps.length ≤ 256) (f : Nat → Rat) (hf : ∀ i : Nat, i < ps.length → OutOk (rStr ps (i : Int)) (f i)) (s : Bool × List Int × List Int) (hs : Rp 600000 (sumQ f ps.length) s) (hS : 0 < sumQ f ps.length) : ∀ (m j : Nat) (xo : List ByteArray), j + m = ps.length → xo.length = j → (∀ i : Nat, i < j → OutOk (rStr xo (i : Int)) ((c : Rat) * f i / sumQ f ps.length)) →
    EvP (fun k => settle_Shares.l21 k c ps (ps.length : Int) (j : Int) s.1 s.2.1 s.2.2 xo) (SharesP c ps)
  | 0, j, xo, hj, hl, ho => by
    have hj : j = ps.length := by omega
    subst hj
    refine EvP.step (fun k => settle_Shares.l21_eq k _ _ _ _ _ _ _ _) (EvP.neg (by omega) (EvP.bind (round_ex (ps := xo) (fun x hx => ?_)) (fun r hr => EvP.ret ?_)))
    · obtain ⟨i, hi, rfl⟩ := List.mem_iff_getElem.1 hx
      have h1 := ho i (by omega)
      rw [rStr_get xo i xo[i] (List.getElem?_eq_getElem hi)] at h1
      exact Nat.le_trans (ok_size h1) (by omega)
    · refine ⟨hr.1, fun e => ?_⟩
      obtain ⟨f', n, g1, g2, g3, g4, g5⟩ := hr.2 e
      rw [hl] at g1 g2 g3 g4 g5
      exact ⟨hb, f, f', n, fun i hi => ⟨hf i hi, (outOk_uniq (ho i hi).1 (g1 i hi)).symm⟩, hS, g2, g3, g4, g5⟩
  | m + 1, j, xo, hj, hl, ho => by
    refine EvP.step (fun k => settle_Shares.l21_eq k _ _ _ _ _ _ _ _) (EvP.pos (by omega) (EvP.pos (by omega) (EvP.pos (by omega) (EvP.bind (int_ev (a := c) (by omega) (by omega)) (fun w hw => EvP.bind (in_ev (hf j (by omega))) (fun x hx => EvP.bind (mulQ_ev hw hx (by omega)) (fun y hy => EvP.bind (quoQ_ev hy hs (by omega)) (fun z hz => EvP.bindE (fits_ev hz (by omega)) ?_))))))))
    by_cases hF : Fit ((c : Rat) * f j / sumQ f ps.length)
    · rw [if_pos hF]
      refine EvP.pos rfl (EvP.bindE (out_ev hz (by omega)) (EvP.pos (by rw [List.length_singleton]; omega) ?_))
      rw [w64 (x := (j : Int) + 1) (by omega) (by omega)]
      refine shares_out c hc0 hc1 ps hb f hf s hs hS m (j + 1) _ (by omega) (by rw [List.length_append, List.length_singleton, hl]) (fun i hi => ?_)
      by_cases hij : i < j
      · have h := ho i hij
        have hg := rStr_some (xs := xo) (i := (i : Int)) (by omega) (by omega)
        rw [rStr_get (xo ++ [_]) i (rStr xo (i : Int)) (by rw [List.getElem?_append_left (by omega)]; exact hg)]
        exact h
      · have : i = j := by omega
        subst this
        rw [rStr_get (xo ++ [_]) i _ (by rw [List.getElem?_append_right (by omega), hl, Nat.sub_self]; rfl)]
        exact ⟨rfl, hF⟩
    · rw [if_neg hF]
      exact EvP.neg (by decide) (EvP.ret ⟨fun _ => rfl, fun e => absurd e (by decide)⟩)
theorem sumQ_nn (f : Nat → Rat) : ∀ n : Nat, (∀ i, i < n → 0 ≤ f i) → 0 ≤ sumQ f n
  | 0, _ => by show (0 : Rat) ≤ 0; grind
  | n + 1, h => by
    have h1 := sumQ_nn f n (fun i hi => h i (by omega))
    have h2 := h n (by omega)
    show 0 ≤ sumQ f n + f n
    grind
theorem shares_run (c : Int) (hc0 : -1000000000000000 ≤ c) (hc1 : c ≤ 1000000000000000) (ps : List ByteArray) (hb : ps.length ≤ 256) (f : Nat → Rat) (hf : ∀ i : Nat, i < ps.length → OutOk (rStr ps (i : Int)) (f i)) : ∀ (m j : Nat) (s : Bool × List Int × List Int), j + m = ps.length → Rp (2001 * j + 3) (sumQ f j) s → (∀ i : Nat, i < j → 0 ≤ f i) →
    EvP (fun k => settle_Shares.l10 k c ps ps (ps.length : Int) (j : Int) s.1 s.2.1 s.2.2) (SharesP c ps)
  | 0, j, s, hj, hs, hn => by
    have hj : j = ps.length := by omega
    subst hj
    refine EvP.step (fun k => settle_Shares.l10_eq k _ _ _ _ _ _ _ _) (EvP.neg (by omega) (EvP.bindE (sign_ev hs) (EvP.ite (fun _ => EvP.ret ⟨fun _ => rfl, fun e => absurd e (by decide)⟩) (fun h => ?_))))
    have h0 := sumQ_nn f ps.length hn
    have h1 : sumQ f ps.length ≠ 0 := fun e => h ((sgnQ_zero _).2 e)
    exact shares_out c hc0 hc1 ps hb f hf s (hs.up (by omega)) (by grind) ps.length 0 [] (by omega) rfl (fun i hi => by omega)
  | m + 1, j, s, hj, hs, hn => by
    refine EvP.step (fun k => settle_Shares.l10_eq k _ _ _ _ _ _ _ _) (EvP.pos (by omega) (EvP.pos (by omega) (EvP.pos (by omega) (EvP.bind (in_ev (hf j (by omega))) (fun x hx => EvP.bindE (sign_ev hx) (EvP.ite (fun _ => EvP.ret ⟨fun _ => rfl, fun e => absurd e (by decide)⟩) (fun h => EvP.bind (addQ_ev hs hx (by omega)) (fun y hy => ?_))))))))
    have h : ¬ sgnQ (f j) < 0 := h
    have h0 : 0 ≤ f j := by
      have : ¬ f j < 0 := fun e => h ((sgnQ_neg _).2 e)
      grind
    rw [w64 (x := (j : Int) + 1) (by omega) (by omega)]
    refine shares_run c hc0 hc1 ps hb f hf m (j + 1) y (by omega) (hy.up (by omega)) (fun i hi => ?_)
    by_cases hij : i < j
    · exact hn i hij
    · rw [show i = j by omega]; exact h0
theorem shares_ex {c : Int} {ps : List ByteArray} (hs : ∀ x ∈ ps, x.size ≤ 140737488355328) : EvP (fun k => settle_Shares.f k c ps) (SharesP c ps) := by
  refine EvP.ite (fun h => EvP.ret ⟨fun _ => rfl, fun e => absurd e (by decide)⟩) (fun h => ?_)
  have h : ¬ 256 < (ps.length : Int) := h
  refine EvP.bind (checkAll_ex (by omega) hs) (fun r hr => EvP.ite (fun e => ?_) (fun e => EvP.ret ⟨fun _ => rfl, fun e' => absurd e' e⟩))
  obtain ⟨f, hf⟩ := choose_q (hr e)
  refine EvP.ite (fun _ => EvP.ret ⟨fun _ => rfl, fun e => absurd e (by decide)⟩) (fun c0 => EvP.ite (fun _ => EvP.ret ⟨fun _ => rfl, fun e => absurd e (by decide)⟩) (fun c1 => ?_))
  have c0 : ¬ c < -1000000000000000 := c0
  have c1 : ¬ 1000000000000000 < c := c1
  exact EvP.bind (int_ev (a := 0) (by omega) (by omega)) (fun s hs => shares_run c (by omega) (by omega) ps (by omega) f hf ps.length 0 s (by omega) hs (fun i hi => by omega))
/-- The row's pure statement. -/
def SettleShares.Pure : Prop := ∀ (a0 : Int) (a1 : List ByteArray), OkV BY (.int .i64) a0 → OkV BY (.list 28 .str) a1 → ∃ k, gridhallkeep3_SettleShares.f k a0 a1 = some true
def sumI (r : List Int) : Nat → Int
  | 0 => 0
  | n + 1 => sumI r n + rI64 r (n : Int)
theorem sumI_q (r : List Int) : ∀ n, ((sumI r n : Int) : Rat) = sumQ (fun i => ((rI64 r (i : Int) : Int) : Rat)) n
  | 0 => rfl
  | n + 1 => by
    show ((sumI r n + rI64 r (n : Int) : Int) : Rat) = sumQ (fun i => ((rI64 r (i : Int) : Int) : Rat)) n + _
    rw [Rat.intCast_add, sumI_q r n]
theorem sumI_rng (r : List Int) (B : Int) (hB : 0 ≤ B) : ∀ n : Nat, (∀ i : Nat, i < n → -B ≤ rI64 r (i : Int) ∧ rI64 r (i : Int) ≤ B) → -(B * n) ≤ sumI r n ∧ sumI r n ≤ B * n
  | 0, _ => by show -(B * 0) ≤ 0 ∧ 0 ≤ B * 0; omega
  | n + 1, h => by
    have ih := sumI_rng r B hB n (fun i hi => h i (by omega))
    have hn := h n (by omega)
    have e : B * ((n + 1 : Nat) : Int) = B * (n : Int) + B := by rw [show ((n + 1 : Nat) : Int) = (n : Int) + 1 from rfl, Int.mul_add, Int.mul_one]
    show -(B * ((n + 1 : Nat) : Int)) ≤ sumI r n + rI64 r (n : Int) ∧ sumI r n + rI64 r (n : Int) ≤ B * ((n + 1 : Nat) : Int)
    omega
theorem law_in (c : Int) (ps : List ByteArray) (hb : ps.length ≤ 1000000) (r : List Int) (hl : r.length = ps.length) (f : Nat → Rat) (hf : ∀ i : Nat, i < ps.length → OutOk (rStr ps (i : Int)) (f i)) (j : Nat) (hj : j < ps.length) (S : Int)
    (H : 0 ≤ c → ∀ i : Nat, i < j → (f i < f j → rI64 r (i : Int) ≤ rI64 r (j : Int)) ∧ (f j ≤ f i → rI64 r (j : Int) ≤ rI64 r (i : Int)))
    (next : EvP (fun k => gridhallkeep3_SettleShares.l9 k c ps r S r (r.length : Int) ((j : Int) + 1)) (fun x => x = true)) : ∀ (m i : Nat), i + m = j →
    EvP (fun k => gridhallkeep3_SettleShares.l13 k c ps r S (j : Int) (rI64 r (j : Int)) r (r.length : Int) (j : Int) (j : Int) (i : Int)) (fun x => x = true)
  | 0, i, hi => by
    refine EvP.step (fun k => gridhallkeep3_SettleShares.l13_eq k _ _ _ _ _ _ _ _ _ _ _) (EvP.neg (by omega) ?_)
    rw [w64 (x := (j : Int) + 1) (by omega) (by omega)]
    exact next
  | m + 1, i, hi => by
    have ih := law_in c ps hb r hl f hf j hj S H next m (i + 1) (by omega)
    have hi0 : (0 : Int) ≤ (i : Int) := by omega
    have hi1 : (i : Int) < (r.length : Int) := by omega
    refine EvP.step (fun k => gridhallkeep3_SettleShares.l13_eq k _ _ _ _ _ _ _ _ _ _ _) (EvP.pos (by omega) (EvP.pos (by omega) (EvP.pos (by omega) (EvP.pos (by omega) (EvP.pos (by omega) (EvP.bindE (compare_ev (hf i (by omega)) (hf j hj)) (EvP.pos rfl ?_)))))))
    rw [w64 (x := (i : Int) + 1) (by omega) (by omega)]
    have s1 := sgnQ_neg (f i - f j)
    have s2 := sgnQ_zero (f i - f j)
    have s3 := sgnQ_pos (f i - f j)
    have H' := fun h => H h i (by omega)
    generalize sgnQ (f i - f j) = s at s1 s2 s3 ⊢
    refine EvP.ite (fun hc => ?_) (fun hc => ih)
    have H := H' hc
    rcases Int.lt_trichotomy s 0 with h | h | h
    · have hq := H.1 (by have := s1.1 h; grind)
      have n1 : ¬ (rI64 r (j : Int) < rI64 r (i : Int)) := by omega
      have n2 : ¬ 0 < s := by omega
      have n3 : ¬ s = 0 := by omega
      exact EvP.pos h (EvP.pos hi0 (EvP.pos hi1 (EvP.neg n1 (EvP.neg n2 (EvP.neg n3 ih)))))
    · have hq := H.2 (by have := s2.1 h; grind)
      have n1 : ¬ (rI64 r (i : Int) < rI64 r (j : Int)) := by omega
      have n2 : ¬ 0 < s := by omega
      have n3 : ¬ s < 0 := by omega
      exact EvP.neg n3 (EvP.neg n2 (EvP.pos h (EvP.pos hi0 (EvP.pos hi1 (EvP.neg n1 ih)))))
    · have hq := H.2 (by have := s3.1 h; grind)
      have n1 : ¬ (rI64 r (i : Int) < rI64 r (j : Int)) := by omega
      have n2 : ¬ s = 0 := by omega
      have n3 : ¬ s < 0 := by omega
      exact EvP.neg n3 (EvP.pos h (EvP.pos hi0 (EvP.pos hi1 (EvP.neg n1 (EvP.neg n2 ih)))))
theorem law_out (c : Int) (ps : List ByteArray) (hb : ps.length ≤ 1000) (r : List Int) (hl : r.length = ps.length) (f : Nat → Rat) (hf : ∀ i : Nat, i < ps.length → OutOk (rStr ps (i : Int)) (f i)) (hr : ∀ i : Nat, i < ps.length → -1000000000000001 ≤ rI64 r (i : Int) ∧ rI64 r (i : Int) ≤ 1000000000000001)
    (H : 0 ≤ c → ∀ j i : Nat, i < j → j < ps.length → (f i < f j → rI64 r (i : Int) ≤ rI64 r (j : Int)) ∧ (f j ≤ f i → rI64 r (j : Int) ≤ rI64 r (i : Int))) (hsum : sumI r ps.length = c) : ∀ (m j : Nat), j + m = ps.length →
    EvP (fun k => gridhallkeep3_SettleShares.l9 k c ps r (sumI r j) r (r.length : Int) (j : Int)) (fun x => x = true)
  | 0, j, hj => by
    have hj : j = ps.length := by omega
    subst hj
    exact EvP.step (fun k => gridhallkeep3_SettleShares.l9_eq k _ _ _ _ _ _ _) (EvP.neg (by omega) (EvP.pos hsum (EvP.ret (by rw [hl]; exact decide_eq_true rfl))))
  | m + 1, j, hj => by
    have ih := law_out c ps hb r hl f hf hr H hsum m (j + 1) (by omega)
    have hrng := sumI_rng r 1000000000000001 (by omega) (j + 1) (fun i hi => hr i (by omega))
    have es : sumI r (j + 1) = sumI r j + rI64 r (j : Int) := rfl
    refine EvP.step (fun k => gridhallkeep3_SettleShares.l9_eq k _ _ _ _ _ _ _) (EvP.pos (by omega) (EvP.pos (by omega) (EvP.pos (by omega) ?_)))
    rw [← es, w64 (x := sumI r (j + 1)) (by omega) (by omega)]
    exact law_in c ps (by omega) r hl f hf j (by omega) _ (fun hc i hi => H hc j i hi (by omega)) ih j 0 (by omega)
theorem tenth : Ev (fun k => settle_Shares.f k 10 [ByteArray.mk #[49], ByteArray.mk #[49], ByteArray.mk #[49]]) ([4, 3, 3], 0) := Ev.far 100 (fun k => by kernel_rfl)
theorem tenth2 : Ev (fun k => slices_Equal_int.f k [4, 3, 3] [4, 3, 3]) true := Ev.far 10 (fun k => by kernel_rfl)
theorem sumQ_zero : ∀ n : Nat, sumQ (fun _ => 0) n = 0
  | 0 => rfl
  | n + 1 => by show sumQ (fun _ => 0) n + 0 = 0; rw [sumQ_zero n]; grind
theorem sumQ_scale (f : Nat → Rat) (a : Rat) : ∀ n : Nat, sumQ (fun i => a * f i) n = a * sumQ f n
  | 0 => by show (0 : Rat) = a * 0; grind
  | n + 1 => by show sumQ (fun i => a * f i) n + a * f n = a * (sumQ f n + f n); rw [sumQ_scale f a n]; grind
theorem Pure.SettleShares : SettleShares.Pure := by
  intro a0 a1 _ ok
  have hs : ∀ x ∈ a1, x.size ≤ 140737488355328 := fun x hx => Nat.le_trans (ok.2 x hx) (by omega)
  refine EvP.rounds (EvP.bindE tenth (EvP.pos rfl (EvP.bindE tenth2 (EvP.pos rfl ?_))))
  refine EvP.bind (shares_ex (c := a0) hs) (fun r hr => EvP.ite (fun e => ?_) (fun e => ?_))
  · obtain ⟨hb, f, g, n, g1, g2, g3, g4, g5, g6⟩ := hr.2 e
    have n0 : a0 = 0 → n = 0 := by
      intro e0
      have e1 : sumQ (fun i => fr (g i)) a1.length = sumQ (fun _ => 0) a1.length := sumQ_congr _ (fun i hi => by
        show fr (g i) = 0
        have : g i = 0 := by
          rw [(g1 i hi).2, e0, show ((0 : Int) : Rat) = 0 from rfl]
          grind
        rw [this]
        show (0 : Rat) - (((0 : Rat).floor : Int) : Rat) = 0
        rw [show (0 : Rat).floor = 0 from rfl, show ((0 : Int) : Rat) = 0 from rfl]
        grind)
      rw [e1, sumQ_zero] at g3
      have : ((0 : Int) : Rat) = ((n : Int) : Rat) := g3
      have : (0 : Int) = (n : Int) := by exact_mod_cast this
      omega
    have gS : ∀ i : Nat, i < a1.length → g i * sumQ f a1.length = (a0 : Rat) * f i := by
      intro i hi
      rw [(g1 i hi).2]
      generalize sumQ f a1.length = S at g2 ⊢
      have : S ≠ 0 := by grind
      grind
    have ord : ∀ i j : Nat, i < a1.length → j < a1.length → 0 ≤ a0 → (f i < f j → g i < g j ∨ n = 0 ∧ g i ≤ g j) ∧ (f i = f j → g i = g j) := by
      intro i j hi hj hc
      have h1 := gS i hi
      have h2 := gS j hj
      refine ⟨fun hlt => ?_, fun he => ?_⟩
      · by_cases h0 : a0 = 0
        · refine Or.inr ⟨n0 h0, ?_⟩
          have z : ∀ k : Nat, k < a1.length → g k = 0 := fun k hk => by
            rw [(g1 k hk).2, h0, show ((0 : Int) : Rat) = 0 from rfl]
            grind
          rw [z i hi, z j hj]
          grind
        · refine Or.inl ?_
          apply Classical.byContradiction
          intro hn
          have p0 : (0 : Rat) < (a0 : Rat) := by
            have : ((0 : Int) : Rat) < (a0 : Rat) := by exact_mod_cast (by omega : 0 < a0)
            exact this
          generalize sumQ f a1.length = S at g2 h1 h2
          have q1 : 0 < (a0 : Rat) * (f j - f i) := Rat.mul_pos p0 (by grind)
          have q2 : 0 ≤ (g i - g j) * S := Rat.mul_nonneg (by grind) (by grind)
          grind
      · rw [(g1 i hi).2, (g1 j hj).2, he]
    have ht : ∀ i : Nat, i < a1.length → ((rI64 r.1 (i : Int) : Int) : Rat) = g i - (fr (g i) - takes ((Srt.ssort (byFr fun i => fr (g i)) (idxs a1.length)).take n) (i : Int)) := by
      intro i hi
      rw [(g6 i hi).2]
      unfold takes fr
      split <;> grind
    refine law_out a0 a1 (by omega) r.1 g5 f (fun i hi => (g1 i hi).1) (fun i hi => ?_) (fun hc j i hij hj => ?_) ?_ a1.length 0 (Nat.zero_add _)
    · have := (g6 i hi).1
      rw [(g6 i hi).2]
      split <;> omega
    · rw [(g6 i (by omega)).2, (g6 j hj).2]
      refine ⟨fun h => part_mono g (by omega) hj ?_, fun h => part_mono g hj (by omega) ?_⟩
      · rcases (ord i j (by omega) hj hc).1 h with h | h
        · exact Or.inl h
        · exact Or.inr (Or.inr h)
      · by_cases he : f j = f i
        · exact Or.inr (Or.inl ⟨(ord j i hj (by omega) hc).2 he, hij⟩)
        · rcases (ord j i hj (by omega) hc).1 (by grind) with h | h
          · exact Or.inl h
          · exact Or.inr (Or.inr h)
    · have e1 := sumI_q r.1 a1.length
      rw [sumQ_congr _ ht, sumQ_sub, sumQ_sub, takes_sum (fun i => fr (g i)) a1.length n g4, g3] at e1
      have e2 : sumQ g a1.length = sumQ (fun i => (a0 : Rat) / sumQ f a1.length * f i) a1.length := sumQ_congr _ (fun i hi => by
        rw [(g1 i hi).2]
        generalize sumQ f a1.length = S
        grind)
      rw [e2, sumQ_scale] at e1
      have e3 : ((sumI r.1 a1.length : Int) : Rat) = (a0 : Rat) := by
        rw [e1]
        generalize sumQ f a1.length = S at g2 ⊢
        have : S ≠ 0 := by grind
        grind
      exact_mod_cast e3
  · rw [hr.1 e]
    exact EvP.ret rfl
end Go.Proofs.YtamgbcgfjhpedaaDoor.VE
