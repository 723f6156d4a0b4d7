import Derived.Test.YtodagcbcdkfniaaVpAucA
namespace Go.Proofs.Ytodagcbcdkfniaa.VE
open Go Go.RowKit
set_option linter.unusedVariables false
attribute [local irreducible] wrap64
/-- The two sides' indices. -/
structure Sides (l : List Ord) (B S : List Int) : Prop where
  nb : B.Nodup
  ns : S.Nodup
  dis : ∀ x ∈ B, ∀ y ∈ S, x ≠ y
  inB : ∀ x ∈ B, InL l x
  inS : ∀ x ∈ S, InL l x
  sb : B.Pairwise (fun x y => priceAt l y ≤ priceAt l x)
  ss : S.Pairwise (fun x y => priceAt l x ≤ priceAt l y)
structure AInv (l : List Ord) (fs B S : List Int) (i k Q : Int) : Prop where
  len : fs.length = l.length
  hb : Half l fs B i
  hs : Half l fs S k
  qb : sumF fs B = Q
  qs : sumF fs S = Q
  fit : ∀ x ∈ B, ∀ y ∈ S, 0 < fl fs x → 0 < fl fs y → priceAt l y ≤ priceAt l x
theorem Half.next {l : List Ord} {fs B : List Int} {i : Int} (h : Half l fs B i) (hlt : i < (B.length : Int)) : fl B i ∈ B ∧ 0 ≤ fl fs (fl B i) ∧ fl fs (fl B i) < pwr l (fl B i) := by
  obtain ⟨B1, B2, e, hi, h1, h2⟩ := h.split
  cases B2 with
  | nil => rw [e, List.append_nil] at hlt; omega
  | cons b B3 =>
    have hbi : fl B i = b := rd_get (t := .int .i64) B B1.length b (by rw [e]; simp) ▸ (by rw [hi])
    rw [hbi]
    exact ⟨by rw [e]; simp, (h2 b B3 rfl).1⟩
/-- Who has something is no worse than the next one (in the side's order R). -/
theorem Half.ahead {l : List Ord} {fs B : List Int} {i : Int} (h : Half l fs B i) (hlt : i < (B.length : Int)) {R : Int → Int → Prop} (hR : B.Pairwise R) (x : Int) (hx : x ∈ B) (hne : x ≠ fl B i) (hp : fl fs x ≠ 0) : R x (fl B i) := by
  obtain ⟨B1, B2, e, hi, h1, h2⟩ := h.split
  cases B2 with
  | nil => rw [e, List.append_nil] at hlt; omega
  | cons b B3 =>
    have hbi : fl B i = b := rd_get (t := .int .i64) B B1.length b (by rw [e]; simp) ▸ (by rw [hi])
    rw [hbi] at hne ⊢
    rw [e] at hR hx
    rcases List.mem_append.1 hx with hx | hx
    · exact (List.pairwise_append.1 hR).2.2 x hx b (by simp)
    · rcases List.mem_cons.1 hx with hx | hx
      · exact absurd hx hne
      · exact absurd ((h2 b B3 rfl).2 x hx) hp
theorem AInv.step {l : List Ord} {fs B S : List Int} {i k Q : Int} (hS : Sides l B S) (hp : ∀ o ∈ l, 1 ≤ o.2.2.1 ∧ o.2.2.1 ≤ 100000) (h : AInv l fs B S i k Q) (hi : i < (B.length : Int)) (hk : k < (S.length : Int)) (hpr : priceAt l (fl S k) ≤ priceAt l (fl B i)) {n : Int} (hn : n = mn (pwr l (fl B i) - fl fs (fl B i)) (pwr l (fl S k) - fl fs (fl S k))) {fs' : List Int} (hfs : fs' = (fs.set (fl B i).toNat (fl fs (fl B i) + n)).set (fl S k).toNat (fl fs (fl S k) + n)) :
    0 < n ∧ AInv l fs' B S (if fl fs' (fl B i) = pwr l (fl B i) then i + 1 else i) (if fl fs' (fl S k) = pwr l (fl S k) then k + 1 else k) (Q + n) ∧ (fl fs' (fl B i) = pwr l (fl B i) ∨ fl fs' (fl S k) = pwr l (fl S k)) := by
  obtain ⟨mb, b0, b1⟩ := h.hb.next hi
  obtain ⟨ms, s0, s1⟩ := h.hs.next hk
  obtain ⟨ib0, ib1⟩ := hS.inB _ mb
  obtain ⟨is0, is1⟩ := hS.inS _ ms
  have hne := hS.dis _ mb _ ms
  have hm := mn_le (pwr l (fl B i) - fl fs (fl B i)) (pwr l (fl S k) - fl fs (fl S k))
  rw [← hn] at hm
  have hpow : ∀ j, InL l j → 1 ≤ pwr l j := fun j hj => (hp _ (rd_mem (t := Y2) hj.1 hj.2)).1
  have hl := h.len
  have e1 : ∀ j, 0 ≤ j → fl fs' j = if j = fl S k then fl fs (fl S k) + n else if j = fl B i then fl fs (fl B i) + n else fl fs j := fun j hj => by
    rw [hfs, fl_set _ _ _ _ is0 (by rw [List.length_set]; omega) hj, fl_set _ _ _ _ ib0 (by omega) hj]
  have eb : fl fs' (fl B i) = fl fs (fl B i) + n := by rw [e1 _ ib0, if_neg hne, if_pos rfl]
  have es : fl fs' (fl S k) = fl fs (fl S k) + n := by rw [e1 _ is0, if_pos rfl]
  obtain ⟨hb', qb'⟩ := h.hb.step hi (n := n) (by omega) hS.nb (fun j hj => hpow j (hS.inB j hj)) eb (by omega) (fun j hj hjn => by
    rw [e1 j (hS.inB j hj).1, if_neg (hS.dis j hj _ ms), if_neg hjn])
  obtain ⟨hs', qs'⟩ := h.hs.step hk (n := n) (by omega) hS.ns (fun j hj => hpow j (hS.inS j hj)) es (by omega) (fun j hj hjn => by
    rw [e1 j (hS.inS j hj).1, if_neg hjn, if_neg (fun hx => hS.dis _ mb j hj hx.symm)])
  refine ⟨by omega, ⟨by rw [hfs, List.length_set, List.length_set]; exact hl, hb', hs', by rw [qb', h.qb], by rw [qs', h.qs], fun x hx y hy hfx hfy => ?_⟩, by omega⟩
  have hx' : priceAt l (fl B i) ≤ priceAt l x := by
    by_cases hxb : x = fl B i
    · rw [hxb]; exact Int.le_refl _
    · rw [e1 x (hS.inB x hx).1, if_neg (hS.dis x hx _ ms), if_neg hxb] at hfx
      exact h.hb.ahead hi hS.sb x hx hxb (by omega)
  have hy' : priceAt l y ≤ priceAt l (fl S k) := by
    by_cases hys : y = fl S k
    · rw [hys]; exact Int.le_refl _
    · rw [e1 y (hS.inS y hy).1, if_neg hys, if_neg (fun hz => hS.dis _ mb y hy hz.symm)] at hfy
      exact h.hs.ahead hk hS.ss y hy hys (by omega)
  omega
/-- The price of a result. -/
def priceOf (l : List Ord) (fs : List Int) (Q : Int) : Int := if 0 < Q then wrap64 ((boundsL l fs (-2000000) 2000000).1 + wrap64 (Int.tdiv (wrap64 ((boundsL l fs (-2000000) 2000000).2 - (boundsL l fs (-2000000) 2000000).1)) 2)) else 0
/-- Where the auction ends. -/
structure AEnd (l : List Ord) (fs B S : List Int) (Q : Int) : Prop where
  fin : ∃ i k, AInv l fs B S i k Q ∧ 0 ≤ i ∧ 0 ≤ k ∧ ((B.length : Int) ≤ i ∨ (S.length : Int) ≤ k ∨ priceAt l (fl B i) < priceAt l (fl S k))
def APost (l : List Ord) (B S : List Int) (r : (Int × Int × List Int) × Int) : Prop := ∃ fs Q, r = ((priceOf l fs Q, Q, fs), 0) ∧ AEnd l fs B S Q
/-! ### the auction's end is a cleared one; no statement is proved here -/
theorem idxs_mem (b : Bool) : ∀ (l : List Ord) (i j : Int), j ∈ idxs b l i ↔ ∃ (n : Nat) (o : Ord), l[n]? = some o ∧ o.2.1 = b ∧ j = i + (n : Int)
  | [], i, j => by simp [idxs]
  | o :: l, i, j => by
    have ih := idxs_mem b l (i + 1) j
    constructor
    · intro h
      unfold idxs at h
      split at h
      · rename_i hb
        rcases List.mem_cons.1 h with rfl | h
        · exact ⟨0, o, rfl, hb, by omega⟩
        · obtain ⟨n, p, a, b, c⟩ := ih.1 h
          exact ⟨n + 1, p, by simpa using a, b, by omega⟩
      · obtain ⟨n, p, a, b, c⟩ := ih.1 h
        exact ⟨n + 1, p, by simpa using a, b, by omega⟩
    · rintro ⟨n, p, a, c, d⟩
      unfold idxs
      cases n with
      | zero =>
        simp at a
        subst a
        rw [if_pos c, d]
        simp
      | succ n =>
        have := ih.2 ⟨n, p, by simpa using a, c, by omega⟩
        split
        · exact List.mem_cons.2 (Or.inr this)
        · exact this
theorem idxs_nodup (b : Bool) : ∀ (l : List Ord) (i : Int), (idxs b l i).Nodup
  | [], i => by simp [idxs]
  | o :: l, i => by
    have ih := idxs_nodup b l (i + 1)
    unfold idxs
    split
    · refine List.nodup_cons.2 ⟨fun h => ?_, ih⟩
      have := idxs_range b l (i + 1) i h
      omega
    · exact ih
theorem sideOf_perm (l : List Ord) (b : Bool) : (sideOf l b).Perm (idxs b l 0) := Srt.ssort_perm (better_swo l b) _
theorem sideOf_mem (l : List Ord) (b : Bool) (j : Int) : j ∈ sideOf l b ↔ ∃ (n : Nat) (o : Ord), l[n]? = some o ∧ o.2.1 = b ∧ j = (n : Int) := by
  rw [(sideOf_perm l b).mem_iff, idxs_mem]
  constructor
  · rintro ⟨n, o, h1, h2, h3⟩
    exact ⟨n, o, h1, h2, by omega⟩
  · rintro ⟨n, o, h1, h2, h3⟩
    exact ⟨n, o, h1, h2, by omega⟩
theorem sideOf_len (l : List Ord) (b : Bool) : (sideOf l b).length ≤ l.length := by
  rw [(sideOf_perm l b).length_eq]
  have : ∀ (l : List Ord) (i : Int), (idxs b l i).length ≤ l.length := by
    intro l
    induction l with
    | nil => intro i; simp [idxs]
    | cons o l ih =>
      intro i
      have := ih (i + 1)
      unfold idxs
      split <;> simp <;> omega
  exact this l 0
theorem sides_of (l : List Ord) : Sides l (sideOf l true) (sideOf l false) where
  nb := (sideOf_perm l true).nodup_iff.2 (idxs_nodup true l 0)
  ns := (sideOf_perm l false).nodup_iff.2 (idxs_nodup false l 0)
  dis := fun x hx y hy e => by
    obtain ⟨n, o, h1, h2, h3⟩ := (sideOf_mem l true x).1 hx
    obtain ⟨m, p, k1, k2, k3⟩ := (sideOf_mem l false y).1 hy
    have : n = m := by omega
    subst this
    rw [h1] at k1
    cases k1
    rw [h2] at k2
    cases k2
  inB := fun x hx => by
    obtain ⟨n, o, h1, h2, h3⟩ := (sideOf_mem l true x).1 hx
    have := (List.getElem?_eq_some_iff.1 h1).1
    exact ⟨by omega, by omega⟩
  inS := fun x hx => by
    obtain ⟨n, o, h1, h2, h3⟩ := (sideOf_mem l false x).1 hx
    have := (List.getElem?_eq_some_iff.1 h1).1
    exact ⟨by omega, by omega⟩
  sb := by
    have := Srt.ssort_sorted (better_swo l true) _ (idxs true l 0) rfl
    unfold Srt.Srtd at this
    refine List.Pairwise.imp (fun {x y} h => ?_) this
    unfold better at h
    simp at h
    exact h
  ss := by
    have := Srt.ssort_sorted (better_swo l false) _ (idxs false l 0) rfl
    unfold Srt.Srtd at this
    refine List.Pairwise.imp (fun {x y} h => ?_) this
    unfold better at h
    simp at h
    exact h
theorem sumF_perm {fs : List Int} {B C : List Int} (h : B.Perm C) : sumF fs B = sumF fs C := by
  induction h with
  | nil => rfl
  | cons x _ ih => simp only [sumF]; rw [ih]
  | swap x y l => simp only [sumF]; omega
  | trans _ _ h1 h2 => rw [h1, h2]
theorem sumF_idxs (b : Bool) (fs : List Int) : ∀ (l : List Ord) (i : Int), 0 ≤ i → (fs.length : Int) = i + (l.length : Int) → sumF fs (idxs b l i) = sideSum b l (fs.drop i.toNat)
  | [], i, _, _ => by simp [idxs, sumF, sideSum]
  | o :: l, i, h0, h1 => by
    rw [List.length_cons] at h1
    have ih := sumF_idxs b fs l (i + 1) (by omega) (by omega)
    rw [drop_rd (t := .int .i64) (xs := fs) h0 (by omega)]
    unfold idxs sideSum
    split
    · simp only [sumF]
      rw [ih]
    · rw [ih]; omega
theorem sumF_side (b : Bool) (fs : List Int) (l : List Ord) (h : fs.length = l.length) : sumF fs (sideOf l b) = sideSum b l fs := by
  rw [sumF_perm (sideOf_perm l b), sumF_idxs b fs l 0 (by omega) (by omega)]
  rfl
theorem Half.rng {l : List Ord} {fs B : List Int} {i : Int} (h : Half l fs B i) (hB : ∀ j ∈ B, 1 ≤ pwr l j) : ∀ j ∈ B, 0 ≤ fl fs j ∧ fl fs j ≤ pwr l j := by
  obtain ⟨B1, B2, e, hi, h1, h2⟩ := h.split
  intro j hj
  have hp := hB j hj
  rw [e] at hj
  rcases List.mem_append.1 hj with hj | hj
  · have := h1 j hj; omega
  · cases B2 with
    | nil => cases hj
    | cons b B3 =>
      obtain ⟨k1, k2⟩ := h2 b B3 rfl
      rcases List.mem_cons.1 hj with rfl | hj
      · omega
      · have := k2 j hj; omega
theorem Half.unf {l : List Ord} {fs B : List Int} {i : Int} (h : Half l fs B i) {R : Int → Int → Prop} (hR : B.Pairwise R) (x : Int) (hx : x ∈ B) (hu : fl fs x < pwr l x) : i < (B.length : Int) ∧ (x = fl B i ∨ R (fl B i) x) := by
  obtain ⟨B1, B2, e, hi, h1, h2⟩ := h.split
  rw [e] at hx hR
  rcases List.mem_append.1 hx with hx | hx
  · have := h1 x hx; omega
  · cases B2 with
    | nil => cases hx
    | cons b B3 =>
      have hbi : fl B i = b := rd_get (t := .int .i64) B B1.length b (by rw [e]; simp) ▸ (by rw [hi])
      refine ⟨by rw [e]; simp; omega, ?_⟩
      rw [hbi]
      rcases List.mem_cons.1 hx with hx | hx
      · exact Or.inl hx
      · exact Or.inr ((List.pairwise_cons.1 (List.pairwise_append.1 hR).2.1).1 x hx)
theorem at_rd {l : List Ord} {fs : List Int} {j : Nat} {o : Ord} {f : Int} (h : At l fs j o f) : rd Y2 l (j : Int) = o ∧ fl fs (j : Int) = f := ⟨rd_get (t := Y2) l j o h.1, rd_get (t := .int .i64) fs j f h.2⟩
theorem cleared_of {l : List Ord} {fs : List Int} {Q : Int} (hp : ∀ o ∈ l, 1 ≤ o.2.2.1 ∧ o.2.2.1 ≤ 100000) (h : AEnd l fs (sideOf l true) (sideOf l false) Q) : Cleared l fs Q := by
  obtain ⟨i, k, h, hi, hk, he⟩ := h.fin
  have hS := sides_of l
  have pwB : ∀ b, ∀ j ∈ sideOf l b, 1 ≤ pwr l j := fun b j hj => by
    obtain ⟨n, o, h1, h2, h3⟩ := (sideOf_mem l b j).1 hj
    have e : rd Y2 l j = o := by rw [h3]; exact rd_get (t := Y2) l n o h1
    show 1 ≤ (rd Y2 l j).2.2.1
    rw [e]
    exact (hp o (List.mem_of_getElem? h1)).1
  have mem : ∀ {j : Nat} {o : Ord} {f : Int}, At l fs j o f → (j : Int) ∈ sideOf l o.2.1 := fun {j o f} hj => (sideOf_mem l _ _).2 ⟨j, o, hj.1, rfl, rfl⟩
  have prc : ∀ {j : Nat} {o : Ord} {f : Int}, At l fs j o f → priceAt l (j : Int) = o.2.2.2 ∧ pwr l (j : Int) = o.2.2.1 ∧ fl fs (j : Int) = f := fun {j o f} hj => by
    obtain ⟨e1, e2⟩ := at_rd hj
    unfold priceAt pwr
    rw [e1]
    exact ⟨rfl, rfl, e2⟩
  have half : ∀ b, ∃ ib, Half l fs (sideOf l b) ib ∧ ib = (if b = true then i else k) := fun b => by
    cases b with
    | true => exact ⟨i, h.hb, rfl⟩
    | false => exact ⟨k, h.hs, rfl⟩
  have max : ∀ i j o p f g, At l fs i o f → At l fs j p g → o.2.1 = true → p.2.1 = false → f < o.2.2.1 → g < p.2.2.1 → o.2.2.2 < p.2.2.2 := by
    intro x y o p f g hx hy ho hp' hf hg
    have mx := mem hx
    have my := mem hy
    rw [ho] at mx
    rw [hp'] at my
    obtain ⟨a1, a2, a3⟩ := prc hx
    obtain ⟨b1, b2, b3⟩ := prc hy
    obtain ⟨u1, u2⟩ := h.hb.unf hS.sb _ mx (by omega)
    obtain ⟨v1, v2⟩ := h.hs.unf hS.ss _ my (by omega)
    have e1 : priceAt l (x : Int) ≤ priceAt l (fl (sideOf l true) i) := by
      rcases u2 with u2 | u2
      · rw [u2]; exact Int.le_refl _
      · exact u2
    have e2 : priceAt l (fl (sideOf l false) k) ≤ priceAt l (y : Int) := by
      rcases v2 with v2 | v2
      · rw [v2]; exact Int.le_refl _
      · exact v2
    rcases he with he | he | he <;> omega
  refine { len := h.len, rng := fun j o f hj => ?_, buy := ?_, sell := ?_, ord := ?_, max := max }
  · obtain ⟨ib, hb, _⟩ := half o.2.1
    have := hb.rng (pwB _) _ (mem hj)
    obtain ⟨_, b2, b3⟩ := prc hj
    omega
  · rw [← sumF_side true fs l h.len]; exact h.qb
  · rw [← sumF_side false fs l h.len]; exact h.qs
  · intro x y o p f g hx hy hu hd
    obtain ⟨a1, a2, a3⟩ := prc hx
    obtain ⟨b1, b2, b3⟩ := prc hy
    have mx := mem hx
    have my := mem hy
    rcases hu with ⟨ho, hu⟩ | ⟨ho, hu⟩
    · rw [ho] at mx
      rcases hd with ⟨hq, hd⟩ | ⟨hq, hd⟩
      · rw [hq] at my
        obtain ⟨u1, u2⟩ := h.hb.unf hS.sb _ mx (by omega)
        have e1 : priceAt l (x : Int) ≤ priceAt l (fl (sideOf l true) i) := by
          rcases u2 with u2 | u2
          · rw [u2]; exact Int.le_refl _
          · exact u2
        have e2 : priceAt l (fl (sideOf l true) i) ≤ priceAt l (y : Int) := by
          by_cases hy' : (y : Int) = fl (sideOf l true) i
          · rw [hy']; exact Int.le_refl _
          · exact h.hb.ahead u1 hS.sb _ my hy' (by omega)
        omega
      · have := max _ _ _ _ _ _ hx hy ho (by simpa using hq) hu hd
        omega
    · have ho : o.2.1 = false := by simpa using ho
      rw [ho] at mx
      rcases hd with ⟨hq, hd⟩ | ⟨hq, hd⟩
      · rw [hq] at my
        have := h.fit _ my _ mx (by omega) (by omega)
        omega
      · have hq : p.2.1 = false := by simpa using hq
        rw [hq] at my
        obtain ⟨v1, v2⟩ := h.hs.unf hS.ss _ my (by omega)
        have e2 : priceAt l (fl (sideOf l false) k) ≤ priceAt l (y : Int) := by
          rcases v2 with v2 | v2
          · rw [v2]; exact Int.le_refl _
          · exact v2
        have e1 : priceAt l (x : Int) ≤ priceAt l (fl (sideOf l false) k) := by
          by_cases hx' : (x : Int) = fl (sideOf l false) k
          · rw [hx']; exact Int.le_refl _
          · exact h.hs.ahead v1 hS.ss _ mx hx' (by omega)
        omega
theorem clear_tail (l : List Ord) (hl : l.length ≤ 32) (B S : List Int) (fs : List Int) (hf : fs.length = l.length) (Q : Int) (h : AEnd l fs B S Q) : EvP (fun k => if 0 < Q then (auction_bounds.f k l (0, Q, fs)).bind fun r => (if (2 : Int) ≠ 0 then some ((wrap64 (r.1 + (wrap64 (Int.tdiv (wrap64 (r.2 - r.1)) 2))), Q, fs), 0) else none) else some ((0, Q, fs), 0)) (APost l B S) := by
  refine EvP.ite (fun hq => ?_) (fun hq => EvP.ret ⟨fs, Q, by unfold priceOf; rw [if_neg hq], h⟩)
  refine EvP.bindE (bounds_ev l fs hf hl 0 Q) (EvP.pos (by decide) (EvP.ret ⟨fs, Q, by unfold priceOf; rw [if_pos hq], h⟩))
theorem clear_loop (l : List Ord) (hl : l.length ≤ 32) (hp : ∀ o ∈ l, 1 ≤ o.2.2.1 ∧ o.2.2.1 ≤ 100000) (B S : List Int) (hS : Sides l B S) (hBl : B.length ≤ 32) (hSl : S.length ≤ 32) (x y : Int) : ∀ (n : Nat) (i k Q : Int) (fs : List Int), 0 ≤ i → 0 ≤ k → ((B.length : Int) - i) + ((S.length : Int) - k) ≤ n → i ≤ (B.length : Int) → k ≤ (S.length : Int) → 0 ≤ Q → Q ≤ 100000 * (64 - ((B.length : Int) - i) - ((S.length : Int) - k)) + 10000000 → AInv l fs B S i k Q → EvP (fun kk => auction_Clear.l7 kk l B S i k x y 0 Q fs) (APost l B S) := by
  intro n
  induction n with
  | zero =>
    intro i k Q fs h0 h1 hn hi hk hq0 hq h
    refine EvP.step (fun kk => auction_Clear.l7_eq kk _ _ _ _ _ _ _ _ _ _) (EvP.neg (by omega) ?_)
    exact clear_tail l hl B S fs h.len Q ⟨i, k, h, h0, h1, Or.inl (by omega)⟩
  | succ n ih =>
    intro i k Q fs h0 h1 hn hi hk hq0 hq h
    refine EvP.step (fun kk => auction_Clear.l7_eq kk _ _ _ _ _ _ _ _ _ _) (EvP.ite (fun hib => ?_) (fun hib => clear_tail l hl B S fs h.len Q ⟨i, k, h, h0, h1, Or.inl (by omega)⟩))
    refine EvP.ite (fun hks => ?_) (fun hks => clear_tail l hl B S fs h.len Q ⟨i, k, h, h0, h1, Or.inr (Or.inl (by omega))⟩)
    obtain ⟨mb, b0, b1⟩ := h.hb.next hib
    obtain ⟨ms, s0, s1⟩ := h.hs.next hks
    obtain ⟨ib0, ib1⟩ := hS.inB _ mb
    obtain ⟨is0, is1⟩ := hS.inS _ ms
    have hlen := h.len
    have pb := hp _ (rd_mem (t := Y2) ib0 ib1)
    have ps := hp _ (rd_mem (t := Y2) is0 is1)
    have q1 : fl B i < (fs.length : Int) := by omega
    have q2 : fl S k < (fs.length : Int) := by omega
    simp only [fl, pwr] at b0 b1 s0 s1 ib0 ib1 is0 is1 pb ps
    repeat (refine EvP.pos (by first | assumption | omega) ?_)
    refine EvP.ite (fun hpr => ?_) (fun hpr => clear_tail l hl B S fs h.len Q ⟨i, k, h, h0, h1, Or.inr (Or.inr (Int.lt_of_not_ge hpr))⟩)
    rw [w64 (x := (rd Y2 l (rd (.int .i64) B i)).2.2.1 - rd (.int .i64) fs (rd (.int .i64) B i)) (by omega) (by omega), w64 (x := (rd Y2 l (rd (.int .i64) S k)).2.2.1 - rd (.int .i64) fs (rd (.int .i64) S k)) (by omega) (by omega)]
    generalize hn' : mn ((rd Y2 l (rd (.int .i64) B i)).2.2.1 - rd (.int .i64) fs (rd (.int .i64) B i)) ((rd Y2 l (rd (.int .i64) S k)).2.2.1 - rd (.int .i64) fs (rd (.int .i64) S k)) = m
    have hm := mn_le ((rd Y2 l (rd (.int .i64) B i)).2.2.1 - rd (.int .i64) fs (rd (.int .i64) B i)) ((rd Y2 l (rd (.int .i64) S k)).2.2.1 - rd (.int .i64) fs (rd (.int .i64) S k))
    rw [hn'] at hm
    rw [w64 (x := rd (.int .i64) fs (rd (.int .i64) B i) + m) (by omega) (by omega), w64 (x := rd (.int .i64) fs (rd (.int .i64) S k) + m) (by omega) (by omega), w64 (x := Q + m) (by omega) (by omega)]
    obtain ⟨m0, hA, hor⟩ := h.step hS hp hib hks hpr (n := m) hn'.symm rfl
    generalize hfs : (fs.set (rd (.int .i64) B i).toNat (rd (.int .i64) fs (rd (.int .i64) B i) + m)).set (rd (.int .i64) S k).toNat (rd (.int .i64) fs (rd (.int .i64) S k) + m) = fs' at hA hor ⊢
    have hlen' := hA.len
    have q3 : fl B i < (fs'.length : Int) := by simp only [fl]; omega
    have q4 : fl S k < (fs'.length : Int) := by simp only [fl]; omega
    simp only [fl] at q3 q4
    have h13 : ∀ i' : Int, i' = (if fl fs' (fl B i) = pwr l (fl B i) then i + 1 else i) → EvP (fun kk => auction_Clear.l13 kk l B S i' k (rd (.int .i64) S k) x y 0 (Q + m) fs') (APost l B S) := by
      intro i' hi'
      rw [← hi'] at hA
      refine EvP.step (fun kk => auction_Clear.l13_eq kk _ _ _ _ _ _ _ _ _ _ _) ?_
      repeat (refine EvP.pos (by first | assumption | omega) ?_)
      refine EvP.ite (fun hf => ?_) (fun hf => ?_)
      · rw [if_pos hf] at hA
        rw [w64 (x := k + 1) (by omega) (by omega)]
        have hii : i ≤ i' ∧ i' ≤ i + 1 := by rw [hi']; split <;> omega
        have hib' : i' ≤ (B.length : Int) := by omega
        exact ih i' (k + 1) (Q + m) fs' (by omega) (by omega) (by omega) hib' (by omega) (by omega) (by omega) hA
      · rw [if_neg hf] at hA
        have hi1 : i' = i + 1 := by
          rw [hi', if_pos]
          rcases hor with ho | ho
          · exact ho
          · exact absurd ho hf
        subst hi1
        exact ih (i + 1) k (Q + m) fs' (by omega) (by omega) (by omega) (by omega) (by omega) (by omega) (by omega) hA
    have hsz : ((fs.set (rd (.int .i64) B i).toNat (rd (.int .i64) fs (rd (.int .i64) B i) + m)).length : Int) = (l.length : Int) := by rw [List.length_set]; omega
    rw [hsz]
    clear hsz
    repeat (refine EvP.pos (by first | assumption | omega) ?_)
    refine EvP.ite (fun hf => ?_) (fun hf => ?_)
    · rw [w64 (x := i + 1) (by omega) (by omega)]
      exact h13 (i + 1) (by rw [if_pos hf])
    · exact h13 i (by rw [if_neg hf])
theorem ainv0 (l : List Ord) (hp : ∀ o ∈ l, 1 ≤ o.2.2.1 ∧ o.2.2.1 ≤ 100000) (z : List Int) (hz : z = List.replicate l.length 0) : AInv l z (sideOf l true) (sideOf l false) 0 0 0 := by
  have h0 : ∀ j, fl z j = 0 := fun j => by
    rw [hz]
    unfold fl rd
    rw [List.getD_eq_getElem?_getD, List.getElem?_replicate]
    split <;> rfl
  have hs0 : ∀ B : List Int, sumF z B = 0 := by
    intro B
    induction B with
    | nil => rfl
    | cons j B ih => simp only [sumF]; rw [h0, ih]; rfl
  have half : ∀ b, Half l z (sideOf l b) 0 := fun b => ⟨[], sideOf l b, rfl, rfl, (fun j hj => by cases hj), fun c B3 e => by
    have hc : c ∈ sideOf l b := by rw [e]; simp
    obtain ⟨n, o, h1, h2, h3⟩ := (sideOf_mem l b c).1 hc
    have e' : rd Y2 l c = o := by rw [h3]; exact rd_get (t := Y2) l n o h1
    have := (hp o (List.mem_of_getElem? h1)).1
    rw [h0]
    unfold pwr
    rw [e']
    exact ⟨⟨by omega, by omega⟩, fun j _ => h0 j⟩⟩
  exact ⟨by rw [hz, List.length_replicate], half true, half false, hs0 _, hs0 _, fun x _ y _ h => by rw [h0] at h; omega⟩
/-- What Clear answers. -/
inductive ClearPost (l : List Ord) : (Int × Int × List Int) × Int → Prop where
  | bad (e : Int) (h : e ≠ 0) (hc : Ev (fun k => auction_Check.f k l) e) : ClearPost l ((0, 0, []), e)
  | ok (fs : List Int) (Q : Int) (hl : OkL l) (hc : Ev (fun k => auction_Check.f k l) 0) (h : Cleared l fs Q) (h0 : 0 ≤ Q) : ClearPost l ((priceOf l fs Q, Q, fs), 0)
theorem clear_ev (l : List Ord) (hn : Named l) : EvP (fun k => auction_Clear.f k l) (ClearPost l) := by
  unfold auction_Clear.f
  obtain ⟨e, hce, he⟩ := acheck_some l hn
  refine EvP.bindE hce (EvP.ite (fun hz => ?_) (fun hz => EvP.ret (.bad e hz hce)))
  have hO := he hz
  have hl := hO.len
  subst hz
  repeat (refine EvP.pos (by omega) ?_)
  refine EvP.bindE (side_ev l hl true) (EvP.bindE (side_ev l hl false) ?_)
  have b1 := sideOf_len l true
  have b2 := sideOf_len l false
  refine (clear_loop l hl hO.pw _ _ (sides_of l) (by omega) (by omega) 0 0 64 0 0 0 _ (by omega) (by omega) (by omega) (by omega) (by omega) (by omega) (by omega) (ainv0 l hO.pw _ (by simp))).mono (fun r hr => ?_)
  obtain ⟨fs, Q, rfl, hE⟩ := hr
  have hC := cleared_of hO.pw hE
  exact .ok fs Q hO hce hC (by rw [← hC.buy]; exact sideSum_nonneg _ _ _ hC.toFits)
end Go.Proofs.Ytodagcbcdkfniaa.VE
