import Derived.Test.YtamgbcgfjhpedaaDoorVpR2
namespace Go.Proofs.YtamgbcgfjhpedaaDoor.VE
open Go Go.RowKit
set_option linter.unusedVariables false
attribute [local irreducible] wrap64
/-! ### rat: Check, In (no statement is proved here) -/
attribute [local irreducible] rd
theorem split_uniq {c : Int} : ∀ {a b a' b' : List Int}, a ++ c :: b = a' ++ c :: b' → c ∉ a → c ∉ a' → a = a' ∧ b = b'
  | [], b, [], b', h, _, _ => by simpa using h
  | [], b, y :: a', b', h, _, h2 => by
    rw [List.nil_append, List.cons_append, List.cons.injEq] at h
    exact absurd (by rw [h.1]; simp) h2
  | x :: a, b, [], b', h, h1, _ => by
    rw [List.nil_append, List.cons_append, List.cons.injEq] at h
    exact absurd (by rw [h.1]; simp) h1
  | x :: a, b, y :: a', b', h, h1, h2 => by
    rw [List.cons_append, List.cons_append, List.cons.injEq] at h
    obtain ⟨e1, e2⟩ := split_uniq h.2 (fun hm => h1 (by simp [hm])) (fun hm => h2 (by simp [hm]))
    exact ⟨by rw [h.1, e1], e2⟩
theorem byte_tail {s : ByteArray} {a b : List Int} (h : bytesL s = a ++ b) : (∀ x ∈ a, 0 ≤ x ∧ x < 256) ∧ (∀ x ∈ b, 0 ≤ x ∧ x < 256) :=
  ⟨fun x hx => bytesL_rng s x (by rw [h]; simp [hx]), fun x hx => bytesL_rng s x (by rw [h]; simp [hx])⟩
theorem pre_ev (s : ByteArray) : Ev (fun k => stringslite_HasPrefix.f k s (ByteArray.mk #[45])) (decide ((bytesL s).head? = some 45)) := by
  have hl := bytesL_len s
  have z : ((ByteArray.mk #[45]).size : Int) = 1 := rfl
  refine Ev.ite (fun h => Ev.pos h (Ev.pos (by decide) ?_)) (fun h => ?_)
  · have h : ((ByteArray.mk #[45]).size : Int) ≤ (s.size : Int) := h
    have e : (s.extract (Int.toNat 0) (Int.toNat ((ByteArray.mk #[45]).size : Int)) = ByteArray.mk #[45]) ↔ ((bytesL s).head? = some 45) := by
      have e1 : bytesL (s.extract (Int.toNat 0) (Int.toNat ((ByteArray.mk #[45]).size : Int))) = (bytesL s).take 1 := by
        rw [bytesL_extract]; rfl
      cases hb : bytesL s with
      | nil => rw [hb] at hl; simp at hl; omega
      | cons x t =>
        rw [hb] at e1
        constructor
        · intro e2
          rw [e2] at e1
          have e1 : [(45 : Int)] = [x] := e1
          rw [List.head?_cons]
          exact congrArg some (List.cons.inj e1).1.symm
        · intro e2
          rw [List.head?_cons, Option.some.injEq] at e2
          refine bytesL_inj ?_
          rw [e1, e2]; rfl
    rw [show decide ((bytesL s).head? = some 45) = decide (s.extract (Int.toNat 0) (Int.toNat ((ByteArray.mk #[45]).size : Int)) = ByteArray.mk #[45]) by simp only [e]]
    exact Ev.now _
  · have h : ¬ ((ByteArray.mk #[45]).size : Int) ≤ (s.size : Int) := h
    have e : bytesL s = [] := List.eq_nil_of_length_eq_zero (by omega)
    rw [e]
    exact Ev.now _
theorem cutp_neg {s : ByteArray} {t : List Int} (h : bytesL s = 45 :: t) : Ev (fun k => strings_CutPrefix.f k s (ByteArray.mk #[45])) (ofBytes t, true) := by
  have hl := bytesL_len s
  have hp := pre_ev s
  rw [h, List.head?_cons, decide_eq_true rfl] at hp
  rw [h, List.length_cons] at hl
  have e : s.extract (Int.toNat ((ByteArray.mk #[45]).size : Int)) (Int.toNat (s.size : Int)) = ofBytes t := by
    refine bytesL_inj ?_
    rw [bytesL_extract, h, bytesL_of (byte_tail (a := [45]) h).2, show Int.toNat (s.size : Int) = s.size from rfl, List.take_of_length_le (by rw [List.length_cons]; omega)]; rfl
  refine Ev.bind (a := (ofBytes t, true)) (Ev.bind hp (Ev.pos rfl (Ev.pos (by decide) (Ev.pos (by show (1 : Int) ≤ _; omega) ?_)))) (Ev.now _)
  rw [e]
  exact Ev.now _
theorem cutp_pos {s : ByteArray} (h : (bytesL s).head? ≠ some 45) : Ev (fun k => strings_CutPrefix.f k s (ByteArray.mk #[45])) (s, false) := by
  have hp := pre_ev s
  rw [decide_eq_false h] at hp
  exact Ev.bind (a := (s, false)) (Ev.bind hp (Ev.neg (by decide) (Ev.now _))) (Ev.now _)
theorem idx_ev (s : ByteArray) : Ev (fun k => stringslite_Index.f k s (ByteArray.mk #[47])) (idxB s 47) := by
  refine Ev.neg (by decide) (Ev.ite (fun h => ?_) (fun h => Ev.pos (by decide) (Ev.pos (by decide) (Ev.pos (by decide) (Ev.bind (a := idxB s 47) (Ev.now _) (Ev.now _))))))
  have h : ByteArray.mk #[47] = s := h
  rw [← h]
  exact Ev.now _
theorem cut_yes {s : ByteArray} {a b : List Int} (h : bytesL s = a ++ 47 :: b) (ha : (47 : Int) ∉ a) (hb : s.size ≤ 9000000000000000) : Ev (fun k => strings_Cut.f k s (ByteArray.mk #[47])) (ofBytes a, ofBytes b, true) := by
  have hl := bytesL_len s
  have hi : idxB s 47 = (a.length : Int) := by
    rcases idx47 s with ⟨h1, _⟩ | ⟨a', b', h1, h2, h3⟩
    · exact absurd (by rw [h]; simp) h1
    · rw [h] at h1
      rw [h3, (split_uniq h1 ha h2).1]
  have hx := idx_ev s
  rw [hi] at hx
  have bb := (byte_tail (a := a ++ [47]) (b := b) (by rw [h]; simp)).2
  have ba := (byte_tail h).1
  rw [h, List.length_append, List.length_cons] at hl
  have z : ((ByteArray.mk #[47]).size : Int) = 1 := rfl
  have e1 : s.extract (Int.toNat 0) (Int.toNat (a.length : Int)) = ofBytes a := by
    refine bytesL_inj ?_
    rw [bytesL_extract, h, bytesL_of ba, show Int.toNat (a.length : Int) = a.length from rfl, List.take_left]; rfl
  have e2 : s.extract (Int.toNat ((a.length : Int) + 1)) (Int.toNat (s.size : Int)) = ofBytes b := by
    refine bytesL_inj ?_
    rw [bytesL_extract, h, bytesL_of bb, show Int.toNat (s.size : Int) = s.size from rfl, show Int.toNat ((a.length : Int) + 1) = a.length + 1 from rfl, List.take_of_length_le (by rw [List.length_append, List.length_cons]; omega), ← List.drop_drop, List.drop_left]; rfl
  refine Ev.bind (a := (ofBytes a, ofBytes b, true)) (Ev.bind hx ?_) (Ev.now _)
  rw [z, w64 (x := (a.length : Int) + 1) (by omega) (by omega), e1, e2]
  exact Ev.pos (by omega) (Ev.pos (by omega) (Ev.pos (by omega) (Ev.pos (by omega) (Ev.pos (by omega) (Ev.now _)))))
theorem cut_no {s : ByteArray} (h : (47 : Int) ∉ bytesL s) : Ev (fun k => strings_Cut.f k s (ByteArray.mk #[47])) (s, ByteArray.empty, false) := by
  have hi : idxB s 47 = -1 := by
    rcases idx47 s with ⟨_, h2⟩ | ⟨a', b', h1, _, _⟩
    · exact h2
    · exact absurd (by rw [h1]; simp) h
  have hx := idx_ev s
  rw [hi] at hx
  exact Ev.bind (a := (s, ByteArray.empty, false)) (Ev.bind hx (Ev.neg (by omega) (Ev.now _))) (Ev.now _)
/-- A rational's text. -/
def OutOk (p : ByteArray) (q : Rat) : Prop := p = ofBytes (outL q) ∧ Fit q
def bodyL (q : Rat) : List Int := txtN q.num.natAbs ++ (if q.den = 1 then [] else 47 :: txtN q.den)
theorem body_byte (q : Rat) : ∀ x ∈ bodyL q, 0 ≤ x ∧ x < 256 := fun x hx => outL_byte q x (by unfold outL; unfold bodyL at hx; exact List.mem_append_right _ hx)
theorem ds_no {l : List Int} (h : Ds l) {c : Int} (hc : c < 48) : c ∉ l := fun hm => by have := h c hm; omega
theorem parts_ev (q : Rat) (hf : Fit q) : Ev (fun k => strings_CutPrefix.f k (ofBytes (outL q)) (ByteArray.mk #[45])) (ofBytes (bodyL q), decide (q.num < 0)) ∧
    Ev (fun k => strings_Cut.f k (ofBytes (bodyL q)) (ByteArray.mk #[47])) (ofBytes (txtN q.num.natAbs), (if q.den = 1 then ByteArray.empty else ofBytes (txtN q.den)), decide (q.den ≠ 1)) := by
  have hob := bytesL_of (outL_byte q)
  have hbb := bytesL_of (body_byte q)
  obtain ⟨n1, n2, n3⟩ := txtN_ok q.num.natAbs
  constructor
  · by_cases h : q.num < 0
    · rw [decide_eq_true h]
      refine cutp_neg ?_
      rw [hob]; unfold outL; rw [if_pos h]; rfl
    · have e : outL q = bodyL q := by unfold outL bodyL; rw [if_neg h]; rfl
      rw [decide_eq_false h, e]
      refine cutp_pos ?_
      rw [hbb]
      unfold bodyL
      cases ht : txtN q.num.natAbs with
      | nil => exact absurd ht n3
      | cons x t =>
        rw [List.cons_append, List.head?_cons]
        intro e
        have := n1 x (by rw [ht]; simp)
        have := Option.some.inj e
        omega
  · by_cases h : q.den = 1
    · have e : bodyL q = txtN q.num.natAbs := by unfold bodyL; rw [if_pos h, List.append_nil]
      rw [if_pos h, e, show decide (q.den ≠ 1) = false by simp [h]]
      refine cut_no ?_
      rw [bytesL_of n1.byte]
      exact ds_no n1 (by omega)
    · have e : bodyL q = txtN q.num.natAbs ++ 47 :: txtN q.den := by unfold bodyL; rw [if_neg h]
      rw [if_neg h, show decide (q.den ≠ 1) = true by simp [h]]
      refine cut_yes (by rw [hbb, e]) (ds_no n1 (by omega)) ?_
      rw [of_size (body_byte q), e, List.length_append, List.length_cons]
      have := hf.1
      have := hf.2
      omega
theorem size_dl {n : Nat} (h : (txtN n).length ≤ 2000) : dl n ≤ 2000 := Nat.le_trans (len_txt n) h
theorem read_txt {n : Nat} (h : (txtN n).length ≤ 2000) : Ev (fun k => nat_Read.f k (ofBytes (txtN n))) (dig n) := by
  obtain ⟨n1, n2, _⟩ := txtN_ok n
  have := read_ev (s := ofBytes (txtN n)) (by rw [bytesL_of n1.byte]; exact n1) (by rw [of_size n1.byte]; omega)
  rw [bytesL_of n1.byte, n2] at this
  exact this
theorem chk_txt {n : Nat} (h : (txtN n).length ≤ 2000) : Ev (fun k => nat_Check.f k (ofBytes (txtN n))) 0 := by
  obtain ⟨r, hr, _, h1⟩ := check_ev (s := ofBytes (txtN n)) (by rw [of_size (txtN_ok n).1.byte]; omega)
  rw [← h1.2 (decOk_of h)]
  exact hr
theorem in_ev {p : ByteArray} {q : Rat} (h : OutOk p q) : EvP (fun k => rat_In.f k p) (Rp 2000 q) := by
  obtain ⟨rfl, hf⟩ := h
  obtain ⟨h1, h2⟩ := parts_ev q hf
  refine EvP.bindE h1 (EvP.bindE h2 (EvP.bindE (read_txt hf.1) (EvP.bindE of1 ?_)))
  by_cases hd : q.den = 1
  · refine EvP.neg (by simp [hd]) (EvP.ret ⟨rfl, rfl, Or.inl (by rw [hd]), size_dl hf.1, size_dl hf.2⟩)
  · rw [if_neg hd]
    exact EvP.pos (by simp [hd]) (EvP.bindE (read_txt hf.2) (EvP.ret ⟨rfl, rfl, Or.inl rfl, size_dl hf.1, size_dl hf.2⟩))
theorem txt_zero : txtN 0 = [48] := rfl
theorem of_txt_inj {m n : Nat} (h : ofBytes (txtN m) = ofBytes (txtN n)) : m = n := by
  have := congrArg bytesL h
  rw [bytesL_of (txtN_ok m).1.byte, bytesL_of (txtN_ok n).1.byte] at this
  exact txt_inj this
theorem b48 : ByteArray.mk #[48] = ofBytes (txtN 0) := rfl
theorem b49 : ByteArray.mk #[49] = ofBytes (txtN 1) := by rw [txt_one]; rfl
theorem ratCheck_ok {p : ByteArray} {q : Rat} (h : OutOk p q) : Ev (fun k => rat_Check.f k p) 0 := by
  obtain ⟨rfl, hf⟩ := h
  obtain ⟨h1, h2⟩ := parts_ev q hf
  have g : Ev (fun k => (nat_Read.f k (ofBytes (txtN q.num.natAbs))).bind fun r5 => (nat_Read.f k (ofBytes (txtN q.den))).bind fun r6 => (nat_N_Gcd.f k r5 r6).bind fun r7 => (nat_Of.f k 1).bind fun r8 => (nat_N_Cmp.f k r7 r8).bind fun r9 => if r9 = 0 then some 0 else some 3) (0 : Int) := by
    have a1 := size_dl hf.1
    have a2 := size_dl hf.2
    unfold dl at a1 a2
    refine Ev.bind (read_txt hf.1) (Ev.bind (read_txt hf.2) (Ev.bind (gcd_ev (by omega) (by omega)) (Ev.bind of1 (Ev.bind (cmp_ev ?_) ?_))))
    · rw [q.reduced]; show (dig 1).length ≤ _; have := dl_one; unfold dl at this; omega
    · rw [q.reduced, show ((1 : Nat) : Int) = 1 from rfl, cmpI_eq]
      exact Ev.pos rfl (Ev.now _)
  refine Ev.bind h1 (Ev.bind h2 (Ev.bind (chk_txt hf.1) ?_))
  by_cases hd : q.den = 1
  · rw [if_pos hd, show decide (q.den ≠ 1) = false by simp [hd]]
    refine Ev.neg (by simp) (Ev.step (fun k => rat_Check.l6_eq k _ _ _ _ _ _) (Ev.neg (by simp) (Ev.neg (by simp) (Ev.ite (fun hn => Ev.neg ?_ (Ev.pos rfl (Ev.pos rfl (Ev.neg (by simp) (Ev.now _))))) (fun hn => Ev.pos rfl (Ev.pos rfl (Ev.neg (by simp) (Ev.now _))))))))
    intro e
    have hn : decide (q.num < 0) = true := hn
    have hn := of_decide_eq_true hn
    rw [b48] at e
    have := of_txt_inj e
    omega
  · rw [if_neg hd, show decide (q.den ≠ 1) = true by simp [hd]]
    have c0 : ¬ ofBytes (txtN q.den) = ByteArray.mk #[48] := fun e => q.den_nz (of_txt_inj (e.trans b48))
    have c1 : ¬ ofBytes (txtN q.den) = ByteArray.mk #[49] := fun e => hd (of_txt_inj (e.trans b49))
    refine Ev.pos rfl (Ev.bind (chk_txt hf.2) (Ev.step (fun k => rat_Check.l6_eq k _ _ _ _ _ _) (Ev.neg (by decide) (Ev.neg (by decide) (Ev.ite (fun hn => Ev.neg ?_ (Ev.pos rfl (Ev.pos rfl (Ev.pos rfl (Ev.neg c0 (Ev.neg c1 g)))))) (fun hn => Ev.pos rfl (Ev.pos rfl (Ev.pos rfl (Ev.neg c0 (Ev.neg c1 g))))))))))
    intro e
    have hn : decide (q.num < 0) = true := hn
    have hn := of_decide_eq_true hn
    have := of_txt_inj (e.trans b48)
    omega
end Go.Proofs.YtamgbcgfjhpedaaDoor.VE
