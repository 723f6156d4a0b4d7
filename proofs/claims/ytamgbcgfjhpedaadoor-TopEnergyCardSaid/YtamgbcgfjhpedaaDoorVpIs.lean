import Derived.Test.YtamgbcgfjhpedaaDoorVpNt2
import Derived.Test.YtamgbcgfjhpedaaDoorVpRAG
namespace Go.Proofs.YtamgbcgfjhpedaaDoor.VE
open Go Go.RowKit
set_option linter.unusedVariables false
attribute [local irreducible] wrap64
/-! ### islands, swing (no statement is proved here) -/
theorem set_rd3 (xs : List (Int × Int × Int)) (a : Nat) (v : Int × Int × Int) (ha : a < xs.length) (i : Nat) : rY5 (xs.set a v) (i : Int) = if i = a then v else rY5 xs (i : Int) := by
  have := rY5_set (xs := xs) (i := (a : Int)) v (by omega) (by omega) (j := (i : Int)) (by omega)
  rw [show ((a : Int)).toNat = a from rfl] at this
  rw [this]
  by_cases h : i = a
  · subst h; rw [if_pos rfl, if_pos rfl]
  · rw [if_neg (by omega), if_neg h]
theorem set_rdS (xs : List (Int × Int × Int × Int × ByteArray)) (a : Nat) (v : Int × Int × Int × Int × ByteArray) (ha : a < xs.length) (i : Nat) : rY19 (xs.set a v) (i : Int) = if i = a then v else rY19 xs (i : Int) := by
  have := rY19_set (xs := xs) (i := (a : Int)) v (by omega) (by omega) (j := (i : Int)) (by omega)
  rw [show ((a : Int)).toNat = a from rfl] at this
  rw [this]
  by_cases h : i = a
  · subst h; rw [if_pos rfl, if_pos rfl]
  · rw [if_neg (by omega), if_neg h]
def PlP (n : NetT) (r : List Int × Int) : Prop := r.1.length = n.1.length ∧ 0 ≤ r.2 ∧ r.2 ≤ 24 ∧ ∀ i : Nat, i < n.1.length → 0 ≤ rI64 r.1 (i : Int) ∧ rI64 r.1 (i : Int) < r.2
theorem places_run (n : NetT) (h : NetOk n) (t : List Int × List Int) (ht : TopoP n t) : ∀ (m j : Nat) (many : Int) (out : List Int), j + m = n.1.length → out.length = n.1.length → 0 ≤ many → many ≤ 24 → (∀ i : Nat, i < j → 0 ≤ rI64 out (i : Int) ∧ rI64 out (i : Int) < many) →
    EvP (fun k => islands_places.l4 k many t.1 (t.1.length : Int) (j : Int) t.1 t.2 out) (PlP n)
  | 0, j, many, out, hj, hl, h0, h1, ho => by
    have hb := ht.lb
    exact EvP.step (fun k => islands_places.l4_eq k _ _ _ _ _ _ _) (EvP.neg (by omega) (EvP.ret ⟨hl, h0, h1, fun i hi => ho i (by omega)⟩))
  | m + 1, j, many, out, hj, hl, h0, h1, ho => by
    have hb := ht.lb
    have hl0 := h.l0
    have hli := ht.li
    have b := ht.bus j (by omega)
    have c := ht.isl (rI64 t.1 (j : Int)).toNat (by omega)
    rw [show (((rI64 t.1 (j : Int)).toNat : Nat) : Int) = rI64 t.1 (j : Int) by omega] at c
    have hs := set_rd out j (rI64 t.2 (rI64 t.1 (j : Int))) (by omega)
    have e := hs j
    rw [if_pos rfl] at e
    obtain ⟨g1, g2, g3⟩ := mx_ge many (rI64 t.2 (rI64 t.1 (j : Int)) + 1)
    refine EvP.step (fun k => islands_places.l4_eq k _ _ _ _ _ _ _) (EvP.pos (by omega) (EvP.pos (by omega) (EvP.pos (by omega) (EvP.pos b.1 (EvP.pos b.2 (EvP.pos (by omega) (EvP.pos (by omega) (EvP.pos (by omega) (EvP.pos (by rw [List.length_set]; omega) ?_)))))))))
    rw [show ((j : Int)).toNat = j from rfl, e, w64 (x := rI64 t.2 (rI64 t.1 (j : Int)) + 1) (by omega) (by omega), w64 (x := (j : Int) + 1) (by omega) (by omega)]
    refine places_run n h t ht m (j + 1) _ _ (by omega) (by rw [List.length_set]; exact hl) (by omega) (by omega) (fun i hi => ?_)
    rw [hs i]
    split
    · omega
    · have := ho i (by omega); omega
theorem places_ex {n : NetT} (h : NetOk n) (hc : Ev (fun k => netmodel_Check.f k n) 0) : EvP (fun k => islands_places.f k n) (PlP n) := by
  have hl0 := h.l0
  refine EvP.bind (topoOf_ex h hc) (fun t ht => EvP.pos (by omega) (EvP.pos (by omega) (EvP.pos (by omega) ?_)))
  have hb := ht.2.lb
  exact places_run n h t.1 ht.2 n.1.length 0 0 _ (Nat.zero_add _) (by rw [List.length_replicate]; rfl) (by omega) (by omega) (fun i hi => by omega)
theorem at_ev {n : NetT} (h : NetOk n) (hc : Ev (fun k => netmodel_Check.f k n) 0) {pl : List Int × Int} (hp : PlP n pl) {s : ByteArray} (hs : s ∈ n.1) : Ev (fun k => islands_at.f k n pl.1 s) (rI64 pl.1 (idxS n.1 s)) := by
  have hi := idxS_mem hs
  have hl := hp.1
  have N := node_ev h hc s
  rw [if_pos hs] at N
  exact Ev.bind N (Ev.pos hi.1 (Ev.pos (by show idxS n.1 s < (pl.1.length : Int); omega) (Ev.now _)))
theorem pl_at {n : NetT} {pl : List Int × Int} (hp : PlP n pl) {s : ByteArray} (hs : s ∈ n.1) : ∃ p : Nat, rI64 pl.1 (idxS n.1 s) = (p : Int) ∧ (p : Int) < pl.2 := by
  have hi := idxS_mem hs
  have := hp.2.2.2 (idxS n.1 s).toNat (by omega)
  rw [show (((idxS n.1 s).toNat : Nat) : Int) = idxS n.1 s by omega] at this
  exact ⟨(rI64 pl.1 (idxS n.1 s)).toNat, by omega, by omega⟩
def DemP (M : Nat) (B : Int) (xs : List (Int × Int × Int)) : Prop := xs.length = M ∧ ∀ i : Nat, i < M → 0 ≤ (rY5 xs (i : Int)).2.2 ∧ (rY5 xs (i : Int)).2.2 ≤ B
theorem of14 (n : NetT) (h : NetOk n) (hc : Ev (fun k => netmodel_Check.f k n) 0) (pl : List Int × Int) (hp : PlP n pl) : ∀ (m j : Nat) (xs : List (Int × Int × Int)), j + m = n.2.2.2.2.1.length → DemP pl.2.toNat (100000 * j) xs →
    EvP (fun k => islands_Of.l14 k pl.1 n.2.2.2.2.1 (n.2.2.2.2.1.length : Int) (j : Int) n.1 n.2.1 n.2.2.1 n.2.2.2.1 n.2.2.2.2.1 n.2.2.2.2.2 xs) (fun r => r.2 = 0 ∧ DemP pl.2.toNat 1200000 r.1)
  | 0, j, xs, hj, hx => by
    have hl := h.l4
    exact EvP.step (fun k => islands_Of.l14_eq k _ _ _ _ _ _ _ _ _ _ _) (EvP.neg (by omega) (EvP.ret ⟨rfl, hx.1, fun i hi => ⟨(hx.2 i hi).1, by have := (hx.2 i hi).2; show (rY5 xs (i : Int)).2.2 ≤ _; omega⟩⟩))
  | m + 1, j, xs, hj, hx => by
    have hl := h.l4
    have hd := h.ld _ (rY15_mem (xs := n.2.2.2.2.1) (i := (j : Int)) (by omega) (by omega))
    obtain ⟨p, p1, p2⟩ := pl_at hp hd.1
    have A := at_ev h hc hp hd.1
    rw [p1] at A
    have hxl := hx.1
    have hxp := hx.2 p (by omega)
    refine EvP.step (fun k => islands_Of.l14_eq k _ _ _ _ _ _ _ _ _ _ _) (EvP.pos (by omega) (EvP.pos (by omega) (EvP.pos (by omega) (EvP.bindE A (EvP.pos (by omega) (EvP.pos (by omega) (EvP.pos (by omega) (EvP.pos (by omega) ?_))))))))
    rw [show ((p : Int)).toNat = p from rfl, w64 (x := (rY5 xs (p : Int)).2.2 + (rY15 n.2.2.2.2.1 (j : Int)).2.2) (by omega) (by omega), w64 (x := (j : Int) + 1) (by omega) (by omega)]
    refine of14 n h hc pl hp m (j + 1) _ (by omega) ⟨by rw [List.length_set]; exact hxl, fun i hi => ?_⟩
    rw [set_rd3 xs p _ (by omega) i]
    have := hx.2 i hi
    split
    · show 0 ≤ _ + _ ∧ _ + _ ≤ _
      omega
    · omega
theorem of7 (n : NetT) (h : NetOk n) (hc : Ev (fun k => netmodel_Check.f k n) 0) (pl : List Int × Int) (hp : PlP n pl) : ∀ (m j : Nat) (xs : List (Int × Int × Int)), j + m = n.2.2.2.1.length → DemP pl.2.toNat 0 xs →
    EvP (fun k => islands_Of.l7 k pl.1 n.2.2.2.1 (n.2.2.2.1.length : Int) (j : Int) n.1 n.2.1 n.2.2.1 n.2.2.2.1 n.2.2.2.2.1 n.2.2.2.2.2 xs) (fun r => r.2 = 0 ∧ DemP pl.2.toNat 1200000 r.1)
  | 0, j, xs, hj, hx => EvP.step (fun k => islands_Of.l7_eq k _ _ _ _ _ _ _ _ _ _ _) (EvP.neg (by omega) (of14 n h hc pl hp _ 0 xs (Nat.zero_add _) hx))
  | m + 1, j, xs, hj, hx => by
    have hl := h.l3
    have hd := h.gn _ (rY13_mem (xs := n.2.2.2.1) (i := (j : Int)) (by omega) (by omega))
    obtain ⟨p, p1, p2⟩ := pl_at hp hd.1
    have A := at_ev h hc hp hd.1
    rw [p1] at A
    have hxl := hx.1
    refine EvP.step (fun k => islands_Of.l7_eq k _ _ _ _ _ _ _ _ _ _ _) (EvP.pos (by omega) (EvP.pos (by omega) (EvP.pos (by omega) (EvP.bindE A (EvP.pos (by omega) (EvP.pos (by omega) ?_))))))
    rw [show ((p : Int)).toNat = p from rfl, w64 (x := (j : Int) + 1) (by omega) (by omega)]
    refine of7 n h hc pl hp m (j + 1) _ (by omega) ⟨by rw [List.length_set, List.length_set]; exact hxl, fun i hi => ?_⟩
    rw [set_rd3 _ p _ (by rw [List.length_set]; omega) i]
    have h1 := hx.2 i hi
    have h2 := set_rd3 xs p
    split
    · subst_vars
      show 0 ≤ (rY5 (xs.set _ _) (_ : Int)).2.2 ∧ (rY5 (xs.set _ _) (_ : Int)).2.2 ≤ 0
      rw [h2 _ (by omega), if_pos rfl]
      exact h1
    · rw [h2 _ (by omega), if_neg (by assumption)]
      exact h1
theorem islOf_ex {n : NetT} (h : NetOk n) (hc : Ev (fun k => netmodel_Check.f k n) 0) {pl : List Int × Int} (hpl : Ev (fun k => islands_places.f k n) pl) (hp : PlP n pl) : EvP (fun k => islands_Of.f k n) (fun r => r.2 = 0 ∧ DemP pl.2.toNat 1200000 r.1) := by
  have h0 := hp.2.1
  have h1 := hp.2.2.1
  refine EvP.bindE hc (EvP.pos rfl (EvP.bindE hpl (EvP.pos h0 (EvP.pos (by omega) (EvP.pos (by omega) ?_)))))
  refine of7 n h hc pl hp _ 0 _ (Nat.zero_add _) ⟨by rw [List.length_replicate], fun i hi => ?_⟩
  rw [rY5_get (List.replicate pl.2.toNat (0, 0, 0)) i (0, 0, 0) (by rw [List.getElem?_replicate, if_pos hi])]
  exact ⟨Int.le_refl _, Int.le_refl _⟩
theorem cut_ev (a lo hi : Int) (h : lo ≤ hi) (h1 : -4611686018427387904 ≤ lo) (h2 : hi ≤ 4611686018427387904) (h3 : hi - lo ≤ 1000000000000000000) : EvP (fun k => gridhallref4_Cut.f k a lo hi) (fun r => lo ≤ r ∧ r ≤ hi) := by
  unfold gridhallref4_Cut.f
  rw [w64 (x := hi - lo) (by omega) (by omega), w64 (x := hi - lo + 1) (by omega) (by omega)]
  generalize hs : hi - lo + 1 = s
  have a1 := Int.tmod_lt_of_pos a (b := s) (by omega)
  have a2 := Int.lt_tmod_of_pos a (b := s) (by omega)
  refine EvP.pos (by omega) (EvP.ite (fun hn => EvP.ret ?_) (fun hn => EvP.ret ?_))
  · have hn : Int.tmod a s < 0 := hn
    rw [w64 (x := Int.tmod a s + s) (by omega) (by omega), w64 (x := lo + _) (by omega) (by omega)]
    omega
  · have hn : ¬ Int.tmod a s < 0 := hn
    rw [w64 (x := lo + _) (by omega) (by omega)]
    omega
/-! swing -/
def swT (x : Int × Int × Int × Int × ByteArray) : Prop := 1 ≤ x.1 ∧ x.1 ≤ 50 ∧ x.2.1 = 0 ∧ 0 ≤ x.2.2.1 ∧ x.2.2.1 ≤ 1000 ∧ 0 ≤ x.2.2.2.1 ∧ x.2.2.2.1 ≤ 1200000
theorem swCheck_ev {x : Int × Int × Int × Int × ByteArray} (h : swT x) {q : Rat} (hq : OutOk x.2.2.2.2 q) : Ev (fun k => swing_Check.f k x) (if 100000 < x.2.2.2.1 then 4 else 0) := by
  obtain ⟨h1, h2, h3, h4, h5, h6, h7⟩ := h
  refine Ev.neg (by omega) (Ev.neg (by omega) (Ev.neg (by omega) (Ev.neg (by omega) (Ev.neg (by omega) (Ev.neg (by omega) (Ev.neg (by omega) ?_))))))
  by_cases h : 100000 < x.2.2.2.1
  · rw [if_pos h]
    exact Ev.pos h (Ev.now _)
  · rw [if_neg h]
    exact Ev.neg h (Ev.bind (ratCheck_ok hq) (Ev.now _))
theorem fit_part {a b : Int} (ha : -10000000 ≤ a ∧ a ≤ 10000000) (hb : 1 ≤ b ∧ b ≤ 1000) : Fit ((a : Rat) / (b : Rat)) := by
  have e : (a : Rat) / (b : Rat) = mkRat a b.toNat := by
    rw [Rat.mkRat_eq_div, ← Rat.intCast_natCast, show ((b.toNat : Nat) : Int) = b by omega]
  rw [e]
  have hn : (mkRat a b.toNat).num.natAbs ≤ 10000000 := by
    rw [Rat.num_mkRat, if_neg (by omega)]
    have : (a / (Nat.gcd b.toNat a.natAbs : Nat)).natAbs ≤ a.natAbs := by
      exact Int.natAbs_ediv_le_natAbs _ _
    omega
  have hd : (mkRat a b.toNat).den ≤ 1000 := by
    rw [Rat.den_mkRat, if_neg (by omega)]
    have := Nat.div_le_self b.toNat (Nat.gcd b.toNat a.natAbs)
    omega
  have t1 := txt_len (mkRat a b.toNat).num.natAbs
  have t2 := txt_len (mkRat a b.toNat).den
  have d1 := dl_i64 (n := (mkRat a b.toNat).num.natAbs) (by omega)
  have d2 := dl_i64 (n := (mkRat a b.toNat).den) (by omega)
  exact ⟨by omega, by omega⟩
theorem swText_ev {L : Nat} {q : Rat} {r : Bool × List Int × List Int} (h : Rp L q r) (hL : L ≤ 90000000000) (hF : Fit q) : Ev (fun k => swing_text.f k r) (ofBytes (outL q), 0) := by
  have F := fits_ev h hL
  rw [if_pos hF] at F
  exact Ev.bind F (Ev.pos rfl (Ev.bind (out_ev h hL) (Ev.now _)))
theorem swStep_ev {x : Int × Int × Int × Int × ByteArray} (h : swT x) (hq : OutOk x.2.2.2.2 0) : EvP (fun k => swing_Step.f k x) (fun r => (100000 < x.2.2.2.1 → r.2 = 4) ∧ (¬ 100000 < x.2.2.2.1 → r = ((x.1, x.2.1, x.2.2.1, x.2.2.2.1, ofBytes (outL (((x.2.2.1 - x.2.2.2.1 : Int) : Rat) / (x.1 : Rat)))), 0))) := by
  have C := swCheck_ev h hq
  obtain ⟨h1, h2, h3, h4, h5, h6, h7⟩ := h
  by_cases hb : 100000 < x.2.2.2.1
  · rw [if_pos hb] at C
    exact EvP.bindE C (EvP.neg (by decide) (EvP.ret ⟨fun _ => rfl, fun e => absurd hb e⟩))
  · rw [if_neg hb] at C
    refine EvP.bindE C (EvP.pos rfl (EvP.bind (in_ev hq) (fun f hf => ?_)))
    have X : EvP (fun k => swing_excess.f k x f) (Rp 3000 ((x.2.2.1 - x.2.2.2.1 : Int) : Rat)) := by
      unfold swing_excess.f
      rw [w64 (x := x.2.2.1 - x.2.2.2.1) (by omega) (by omega)]
      refine EvP.bind (int_ev (by omega) (by omega)) (fun a ha => EvP.bind (int_ev (a := x.2.1) (by omega) (by omega)) (fun b hb => EvP.bind (mulQ_ev hb hf (by omega)) (fun c hc => EvP.bind (subQ_ev ha hc (by omega)) (fun d hd => EvP.ret ?_))))
      rw [Rat.mul_zero, show ((x.2.2.1 - x.2.2.2.1 : Int) : Rat) - 0 = ((x.2.2.1 - x.2.2.2.1 : Int) : Rat) by grind] at hd
      exact hd.up (by omega)
    have S : EvP (fun k => swing_step.f k x f) (Rp 9000 (((x.2.2.1 - x.2.2.2.1 : Int) : Rat) / (x.1 : Rat))) := by
      refine EvP.bind X (fun a ha => EvP.bind (int_ev (a := x.1) (by omega) (by omega)) (fun b hb => EvP.bind (quoQ_ev ha hb (by omega)) (fun c hc => EvP.bind (addQ_ev hf hc (by omega)) (fun d hd => EvP.ret ?_))))
      rw [Rat.zero_add] at hd
      exact hd.up (by omega)
    refine EvP.bind S (fun g hg => EvP.bindE (swText_ev hg (by omega) (fit_part (by omega) (by omega))) (EvP.pos rfl (EvP.ret ⟨fun e => absurd e hb, fun _ => rfl⟩)))
theorem swMom_ev {x : Int × Int × Int × Int × ByteArray} (h : swT x) (hb : ¬ 100000 < x.2.2.2.1) {d : Int} (hd : -10000000 ≤ d ∧ d ≤ 10000000) (hq : OutOk x.2.2.2.2 ((d : Rat) / (x.1 : Rat))) : Ev (fun k => swing_Momentum.f k x) (ofBytes (outL (d : Rat)), 0) := by
  have C := swCheck_ev h hq
  rw [if_neg hb] at C
  obtain ⟨h1, h2, _⟩ := h
  refine EvP.ev (EvP.bindE C (EvP.pos rfl (EvP.bind (int_ev (a := x.1) (by omega) (by omega)) (fun a ha => EvP.bind (in_ev hq) (fun b hb => EvP.bind (mulQ_ev ha hb (by omega)) (fun c hc => ?_))))))
  have e : (x.1 : Rat) * ((d : Rat) / (x.1 : Rat)) = (d : Rat) := by
    have : (x.1 : Rat) ≠ 0 := fun e => by
      have : x.1 = 0 := by exact_mod_cast e
      omega
    generalize (x.1 : Rat) = u at this ⊢
    grind
  rw [e] at hc
  exact EvP.bindE (swText_ev hc (by omega) (fit_int (by omega) (by omega))) (EvP.ret rfl)
end Go.Proofs.YtamgbcgfjhpedaaDoor.VE
