import Derived.Test.YtodagcbcdkfniaaVpSortE
import Derived.Test.YtodagcbcdkfniaaG3D
namespace Go.Proofs.Ytodagcbcdkfniaa.VE
open Go Go.RowKit
set_option linter.unusedVariables false
attribute [local irreducible] wrap64
/- package offer: named, Check (lemmas; no statement is proved here). -/
theorem EvP.no {α : Type} {P : α → Prop} {g : Nat → Option α} (h : False) : EvP g P := h.elim
theorem offer_named_loop (s : ByteArray) (hs : s.size ≤ 140737488351232) : ∀ (d : Nat) (i : Int), 0 ≤ i → (s.size : Int) - i ≤ d → EvP (fun k => offer_named.l4 k s (s.size : Int) i) (fun _ => True) := by
  intro d
  induction d with
  | zero =>
    intro i h0 h1
    exact EvP.step (fun k => offer_named.l4_eq k _ _ _) (EvP.neg (by omega) (EvP.ret trivial))
  | succ d ih =>
    intro i h0 h1
    refine EvP.step (fun k => offer_named.l4_eq k _ _ _) (EvP.ite (fun h => ?_) (fun h => EvP.ret trivial))
    rw [w64 (x := i + 1) (by omega) (by omega)]
    have h3 := ih (i + 1) (by omega) (by omega)
    repeat' first
      | exact h3
      | exact EvP.ret trivial
      | (exact EvP.no (by omega))
      | refine EvP.ite (fun h => ?_) (fun h => ?_)
theorem offer_named_some (s : ByteArray) (hs : s.size ≤ 140737488351232) : EvP (fun k => offer_named.f k s) (fun _ => True) := by
  have h3 := offer_named_loop s hs (s.size) 0 (by omega) (by omega)
  have hz : s ≠ ByteArray.empty → 0 < s.size := fun h => by
    rcases Nat.eq_zero_or_pos s.size with h0 | h0
    · exact absurd (ByteArray.size_eq_zero_iff.1 h0) h
    · exact h0
  unfold offer_named.f
  repeat' first
    | exact h3
    | exact EvP.ret trivial
    | (exact EvP.no (by omega))
    | (exact EvP.no (by have := hz (by assumption); omega))
    | refine EvP.ite (fun h => ?_) (fun h => ?_)
/-- An offer of one step. -/
structure Step1 (s : ByteArray) (x : Int × Int) (e : Int) : Prop where
  ev : Ev (fun k => offer_Check.f k (s, [x])) e
  pw : e = 0 → 1 ≤ x.1 ∧ x.1 ≤ 100000
  pr : e = 0 → -1000000 ≤ x.2 ∧ x.2 ≤ 1000000
theorem offer_one (s : ByteArray) (hs : s.size ≤ 140737488351232) (x : Int × Int) : ∃ e, Step1 s x e := by
  obtain ⟨b, hb, _⟩ := offer_named_some s hs
  cases b with
  | false => exact ⟨6, Ev.bind hb (Ev.neg (by simp) (Ev.now _)), by omega, by omega⟩
  | true =>
    have key : EvP (fun k => offer_Check.l7 k 0 [x] (([x] : List (Int × Int)).length : Int) 0 s [x]) (fun e => (e = 0 → 1 ≤ x.1 ∧ x.1 ≤ 100000) ∧ (e = 0 → -1000000 ≤ x.2 ∧ x.2 ≤ 1000000)) := by
      have hr : rd Y0 [x] 0 = x := rfl
      have hl : (([x] : List (Int × Int)).length : Int) = 1 := rfl
      refine EvP.step (fun k => offer_Check.l7_eq k _ _ _ _ _ _) ?_
      rw [hr, hl]
      refine EvP.pos (by omega) (EvP.pos (by omega) (EvP.pos (by omega) ?_))
      refine EvP.ite (fun h => EvP.ret ⟨by omega, by omega⟩) (fun h1 => ?_)
      have h1 : ¬ x.1 < 1 := h1
      refine EvP.ite (fun h => EvP.ret ⟨by omega, by omega⟩) (fun h2 => ?_)
      have h2 : ¬ 100000 < x.1 := h2
      refine EvP.ite (fun h => EvP.ret ⟨by omega, by omega⟩) (fun h3 => ?_)
      have h3 : ¬ x.2 < -1000000 := h3
      refine EvP.ite (fun h => EvP.ret ⟨by omega, by omega⟩) (fun h4 => ?_)
      have h4 : ¬ 1000000 < x.2 := h4
      refine EvP.neg (by omega) ?_
      rw [w64 (x := 0 + x.1) (by omega) (by omega)]
      refine EvP.neg (by omega) ?_
      refine EvP.step (fun k => offer_Check.l7_eq k _ _ _ _ _ _) ?_
      refine EvP.neg (by rw [w64 (by omega) (by omega)]; omega) (EvP.ret ⟨fun _ => by omega, fun _ => by omega⟩)
    obtain ⟨e, he, h1, h2⟩ := key
    refine ⟨e, ?_, h1, h2⟩
    exact Ev.bind hb (Ev.pos rfl (Ev.neg (by show ¬ (12 : Int) < (([x] : List (Int × Int)).length : Int); simp) he))
/- package auction (lemmas; no statement is proved here). -/
abbrev Ord := ByteArray × Bool × Int × Int
def Named (l : List Ord) : Prop := ∀ o ∈ l, o.1.size ≤ 140737488351232
/-- Orders in their ranges. -/
structure OkL (l : List Ord) : Prop where
  len : l.length ≤ 32
  pw : ∀ o ∈ l, 1 ≤ o.2.2.1 ∧ o.2.2.1 ≤ 100000
  pr : ∀ o ∈ l, -1000000 ≤ o.2.2.2 ∧ o.2.2.2 ≤ 1000000
theorem idx_loop (l : List Ord) (hl : l.length ≤ 1000) (a : ByteArray) (b : Bool) (c d : Int) : ∀ (n : Nat) (i : Int), 0 ≤ i → (l.length : Int) - i ≤ n → EvP (fun k => slices_IndexFunc_api_AuctionOrder.l2 k l (l.length : Int) i a b c d) (fun _ => True) := by
  intro n
  induction n with
  | zero =>
    intro i h0 h1
    exact EvP.step (fun k => slices_IndexFunc_api_AuctionOrder.l2_eq k _ _ _ _ _ _ _) (EvP.neg (by omega) (EvP.ret trivial))
  | succ n ih =>
    intro i h0 h1
    refine EvP.step (fun k => slices_IndexFunc_api_AuctionOrder.l2_eq k _ _ _ _ _ _ _) (EvP.ite (fun h => ?_) (fun h => EvP.ret trivial))
    refine EvP.pos h0 (EvP.pos (by omega) ?_)
    refine EvP.bindE (Ev.now _) (EvP.ite (fun h => EvP.ret trivial) (fun h => ?_))
    rw [w64 (x := i + 1) (by omega) (by omega)]
    exact ih (i + 1) (by omega) (by omega)
theorem contains_some (l : List Ord) (hl : l.length ≤ 1000) (a : ByteArray) (b : Bool) (c d : Int) : EvP (fun k => slices_ContainsFunc_api_AuctionOrder.f k l a b c d) (fun _ => True) := by
  unfold slices_ContainsFunc_api_AuctionOrder.f slices_IndexFunc_api_AuctionOrder.f
  exact EvP.bind (idx_loop l hl a b c d l.length 0 (by omega) (by omega)) (fun r _ => EvP.ret trivial)
theorem acheck_loop (l : List Ord) (hn : Named l) (hl : l.length ≤ 32) : ∀ (n : Nat) (i : Int), 0 ≤ i → (l.length : Int) - i ≤ n → EvP (fun k => auction_Check.l4 k l l (l.length : Int) i) (fun e => e = 0 → ∀ j : Nat, i ≤ j → ∀ o, l[j]? = some o → (1 ≤ o.2.2.1 ∧ o.2.2.1 ≤ 100000) ∧ (-1000000 ≤ o.2.2.2 ∧ o.2.2.2 ≤ 1000000)) := by
  intro n
  induction n with
  | zero =>
    intro i h0 h1
    refine EvP.step (fun k => auction_Check.l4_eq k _ _ _ _) (EvP.neg (by omega) (EvP.ret ?_))
    intro _ j hj o ho
    have := (List.getElem?_eq_some_iff.1 ho).1
    omega
  | succ n ih =>
    intro i h0 h1
    refine EvP.step (fun k => auction_Check.l4_eq k _ _ _ _) (EvP.ite (fun h => ?_) (fun h => EvP.ret ?_))
    · refine EvP.pos h0 (EvP.pos h ?_)
      obtain ⟨e, he⟩ := offer_one (rd Y2 l i).1 (hn _ (rd_mem h0 h)) (rd Y2 l i).2.2
      refine EvP.bindE he.ev (EvP.ite (fun hz => ?_) (fun hz => EvP.ret (fun h => absurd h hz)))
      refine EvP.pos (by omega) (EvP.pos h0 ?_)
      refine EvP.bind (contains_some (l.take i.toNat) (by rw [List.length_take]; omega) _ _ _ _) (fun r _ => EvP.ite (fun _ => EvP.ret (by omega)) (fun _ => ?_))
      rw [w64 (x := i + 1) (by omega) (by omega)]
      refine (ih (i + 1) (by omega) (by omega)).mono (fun e' h' hz' j hj o ho => ?_)
      by_cases hji : i + 1 ≤ (j : Int)
      · exact h' hz' j hji o ho
      · have : (j : Int) = i := by omega
        subst this
        have hr : rd Y2 l (j : Int) = o := rd_get (t := Y2) l j o ho
        rw [hr] at he
        exact ⟨he.pw hz, he.pr hz⟩
    · intro _ j hj o ho
      have := (List.getElem?_eq_some_iff.1 ho).1
      omega
theorem acheck_some (l : List Ord) (hn : Named l) : EvP (fun k => auction_Check.f k l) (fun e => e = 0 → OkL l) := by
  unfold auction_Check.f
  refine EvP.ite (fun h => EvP.ret (by omega)) (fun h => ?_)
  refine (acheck_loop l hn (by omega) l.length 0 (by omega) (by omega)).mono (fun e he hz => ?_)
  have := he hz
  refine ⟨by omega, fun o ho => ?_, fun o ho => ?_⟩
  · obtain ⟨j, hj⟩ := List.getElem?_of_mem ho
    exact (this j (by omega) o hj).1
  · obtain ⟨j, hj⟩ := List.getElem?_of_mem ho
    exact (this j (by omega) o hj).2
def intSrt : Srt.NSys (Ty.T (.int .i64)) ((Bool) × (List (ByteArray × Bool × Int × Int))) (List (Ty.T (.int .i64)) × (Bool) × (List (ByteArray × Bool × Int × Int))) (Int × (Bool) × (List (ByteArray × Bool × Int × Int))) where
  z := Ty.dflt (.int .i64)
  fst := fun r => r.1
  snd := fun r => r.2
  pk := fun x s => (x, s)
  cf := fun r => r.1
  cs := fun r => r.2
  cmp := fun k a b s => auction_side_1.f k a b s.1 s.2
  il1 := fun k y0 y1 y2 xs s => slices_insertionSortCmpFunc_int.l1 k y0 y1 y2 xs s.1 s.2
  il4 := fun k y0 y1 y2 y3 xs s => slices_insertionSortCmpFunc_int.l4 k y0 y1 y2 y3 xs s.1 s.2
  wl1 := fun k y0 y1 y2 y3 xs s => slices_swapRangeCmpFunc_int.l1 k y0 y1 y2 y3 xs s.1 s.2
  rl2 := fun k y0 y1 y2 xs s => slices_rotateCmpFunc_int.l2 k y0 y1 y2 xs s.1 s.2
  ml9 := fun k y0 y1 xs s => slices_symMergeCmpFunc_int.l9 k y0 y1 xs s.1 s.2
  ml3 := fun k y0 y1 y2 xs s => slices_symMergeCmpFunc_int.l3 k y0 y1 y2 xs s.1 s.2
  ml21 := fun k y0 y1 xs s => slices_symMergeCmpFunc_int.l21 k y0 y1 xs s.1 s.2
  ml15 := fun k y0 y1 y2 xs s => slices_symMergeCmpFunc_int.l15 k y0 y1 y2 xs s.1 s.2
  mf := fun k y0 y1 y2 xs s => slices_symMergeCmpFunc_int.f k y0 y1 y2 xs s.1 s.2
  ml32 := fun k y0 y1 y2 y3 y4 y5 y6 xs s => slices_symMergeCmpFunc_int.l32 k y0 y1 y2 y3 y4 y5 y6 xs s.1 s.2
  ml33 := fun k y0 y1 y2 y3 y4 y5 y6 y7 xs s => slices_symMergeCmpFunc_int.l33 k y0 y1 y2 y3 y4 y5 y6 y7 xs s.1 s.2
  ml41 := fun k y0 y1 y2 y3 y4 xs s => slices_symMergeCmpFunc_int.l41 k y0 y1 y2 y3 y4 xs s.1 s.2
  sl7 := fun k y0 y1 xs s => slices_stableCmpFunc_int.l7 k y0 y1 xs s.1 s.2
  sl9 := fun k y0 y1 y2 y3 xs s => slices_stableCmpFunc_int.l9 k y0 y1 y2 y3 xs s.1 s.2
  sl2 := fun k y0 y1 y2 y3 xs s => slices_stableCmpFunc_int.l2 k y0 y1 y2 y3 xs s.1 s.2
theorem intSrt_eqs : Srt.NEqs intSrt where
  e1 := fun _ _ => rfl
  e2 := fun _ _ => rfl
  i1z := fun _ _ _ _ _ => rfl
  i4z := fun _ _ _ _ _ _ => rfl
  w1z := fun _ _ _ _ _ _ => rfl
  r2z := fun _ _ _ _ _ => rfl
  m9z := fun _ _ _ _ => rfl
  m3z := fun _ _ _ _ _ => rfl
  m21z := fun _ _ _ _ => rfl
  m15z := fun _ _ _ _ _ => rfl
  mfz := fun _ _ _ _ _ => rfl
  m32z := fun _ _ _ _ _ _ _ _ _ => rfl
  m33z := fun _ _ _ _ _ _ _ _ _ _ => rfl
  m41z := fun _ _ _ _ _ _ _ => rfl
  s7z := fun _ _ _ _ => rfl
  s9z := fun _ _ _ _ _ _ => rfl
  s2z := fun _ _ _ _ _ _ => rfl
  il1 := fun _ _ _ _ _ _ => rfl
  il4 := fun _ _ _ _ _ _ _ => rfl
  wl1 := fun _ _ _ _ _ _ _ => rfl
  rl2 := fun _ _ _ _ _ _ => rfl
  ml9 := fun _ _ _ _ _ => rfl
  ml3 := fun _ _ _ _ _ _ => rfl
  ml21 := fun _ _ _ _ _ => rfl
  ml15 := fun _ _ _ _ _ _ => rfl
  mf := fun _ _ _ _ _ _ => rfl
  ml32 := fun _ _ _ _ _ _ _ _ _ _ => rfl
  ml33 := fun _ _ _ _ _ _ _ _ _ _ _ => rfl
  ml41 := fun _ _ _ _ _ _ _ _ => rfl
  sl7 := fun _ _ _ _ _ => rfl
  sl9 := fun _ _ _ _ _ _ _ => rfl
  sl2 := fun _ _ _ _ _ _ _ => rfl
/-- An order's price, by its index. -/
def priceAt (l : List Ord) (i : Int) : Int := (rd Y2 l i).2.2.2
/-- The better order goes first. -/
def better (l : List Ord) (b : Bool) (x y : Int) : Bool := if b = true then decide (priceAt l y < priceAt l x) else decide (priceAt l x < priceAt l y)
theorem better_swo (l : List Ord) (b : Bool) : Srt.SWO (better l b) where
  asymm := fun {x y} h => by
    unfold better at h ⊢
    cases b <;> simp only [if_true, Bool.false_eq_true, if_false, decide_eq_true_eq, decide_eq_false_iff_not] at h ⊢ <;> omega
  neg := fun {x y z} h1 h2 => by
    unfold better at h1 h2 ⊢
    cases b <;> simp only [if_true, Bool.false_eq_true, if_false, decide_eq_false_iff_not] at h1 h2 ⊢ <;> omega
theorem compare_ev (p q : Int) : ∃ c, Ev (fun k => cmp_Compare_int.f k p q) c ∧ (c < 0 ↔ p < q) := by
  have hn : ∀ (x : Int), Ev (fun k => cmp_isNaN_int.f k x) false := fun x => by
    unfold cmp_isNaN_int.f
    rw [show (!decide (x = x)) = false by simp]
    exact Ev.now _
  unfold cmp_Compare_int.f
  by_cases h1 : p < q
  · exact ⟨-1, Ev.bind (hn p) (Ev.bind (hn q) (Ev.neg (by simp) (Ev.neg (by simp) (Ev.pos h1 (Ev.now _))))), by omega⟩
  · by_cases h2 : q < p
    · exact ⟨1, Ev.bind (hn p) (Ev.bind (hn q) (Ev.neg (by simp) (Ev.neg (by simp) (Ev.neg h1 (Ev.pos h2 (Ev.now _)))))), by omega⟩
    · exact ⟨0, Ev.bind (hn p) (Ev.bind (hn q) (Ev.neg (by simp) (Ev.neg (by simp) (Ev.neg h1 (Ev.neg h2 (Ev.now _)))))), by omega⟩
def InL (l : List Ord) (i : Int) : Prop := 0 ≤ i ∧ i < (l.length : Int)
theorem side_cmp (l : List Ord) (b : Bool) : Srt.Cmp (intSrt.at (b, l)) (better l b) (InL l) := by
  intro x y hx hy
  obtain ⟨x0, x1⟩ := hx
  obtain ⟨y0, y1⟩ := hy
  cases b with
  | true =>
    obtain ⟨c, hc, hi⟩ := compare_ev (priceAt l y) (priceAt l x)
    refine ⟨c, ?_, by rw [hi]; simp [better]⟩
    obtain ⟨K, hK⟩ := hc
    refine ⟨K, fun k hk => ?_⟩
    show (auction_side_1.f k x y true l).map (fun r => r.1) = some c
    unfold auction_side_1.f
    rw [if_pos rfl, if_pos y0, if_pos y1, if_pos x0, if_pos x1]
    have : cmp_Compare_int.f k (rd Y2 l y).2.2.2 (rd Y2 l x).2.2.2 = some c := hK k hk
    rw [this]; rfl
  | false =>
    obtain ⟨c, hc, hi⟩ := compare_ev (priceAt l x) (priceAt l y)
    refine ⟨c, ?_, by rw [hi]; simp [better]⟩
    obtain ⟨K, hK⟩ := hc
    refine ⟨K, fun k hk => ?_⟩
    show (auction_side_1.f k x y false l).map (fun r => r.1) = some c
    unfold auction_side_1.f
    rw [if_neg (by simp), if_pos x0, if_pos x1, if_pos y0, if_pos y1]
    have : cmp_Compare_int.f k (rd Y2 l x).2.2.2 (rd Y2 l y).2.2.2 = some c := hK k hk
    rw [this]; rfl
theorem side_keeps (l : List Ord) (b : Bool) : ∀ k x y r, intSrt.cmp k x y (b, l) = some r → intSrt.cs r = (b, l) := by
  intro k x y r h
  have h' : auction_side_1.f k x y b l = some r := h
  show r.2 = (b, l)
  unfold auction_side_1.f at h'
  repeat' first
    | (cases h'; done)
    | (obtain ⟨c, _, h'⟩ := Option.bind_eq_some_iff.1 h'; injection h' with h'; subst h'; rfl)
    | split at h'
/-- The indices of one side's orders, from i on. -/
def idxs (b : Bool) : List Ord → Int → List Int
  | [], _ => []
  | o :: l, i => if o.2.1 = b then i :: idxs b l (i + 1) else idxs b l (i + 1)
theorem idxs_range (b : Bool) : ∀ (l : List Ord) (i : Int), ∀ j ∈ idxs b l i, i ≤ j ∧ j < i + (l.length : Int)
  | [], _, _, h => by cases h
  | o :: l, i, j, h => by
    unfold idxs at h
    rw [List.length_cons]
    split at h
    · rcases List.mem_cons.1 h with rfl | h
      · omega
      · have := idxs_range b l (i + 1) j h; omega
    · have := idxs_range b l (i + 1) j h; omega
def sideOf (l : List Ord) (b : Bool) : List Int := Srt.ssort (better l b) (idxs b l 0)
theorem side_loop (l : List Ord) (hl : l.length ≤ 32) (b : Bool) : ∀ (n : Nat) (i : Int) (out : List Int), 0 ≤ i → (l.length : Int) - i = n → (out.length : Int) ≤ i → (∀ j ∈ out, InL l j) → Ev (fun k => auction_side.l3 k l (l.length : Int) i l b out) (Srt.ssort (better l b) (out ++ idxs b (l.drop i.toNat) i)) := by
  intro n
  induction n with
  | zero =>
    intro i out h0 h1 h2 h3
    rw [drop_end (by omega)]
    refine Ev.step (fun k => auction_side.l3_eq k _ _ _ _ _ _) (Ev.neg (by omega) ?_)
    have := Srt.nstable (N := intSrt) (s := (b, l)) intSrt_eqs (side_keeps l b) (fun r => rfl) (better_swo l b) (side_cmp l b) out h3 (by omega)
    show Ev _ (Srt.ssort (better l b) (out ++ []))
    rw [List.append_nil]
    refine Ev.bind (a := (Srt.ssort (better l b) out, b, l)) ?_ (Ev.now _)
    unfold slices_SortStableFunc_int.f slices_stableCmpFunc_int.f
    exact Ev.bind this (Ev.now _)
  | succ n ih =>
    intro i out h0 h1 h2 h3
    have hlt : i < (l.length : Int) := by omega
    rw [drop_rd (t := Y2) h0 hlt]
    refine Ev.step (fun k => auction_side.l3_eq k _ _ _ _ _ _) (Ev.pos hlt (Ev.pos h0 (Ev.pos hlt ?_)))
    rw [w64 (x := i + 1) (by omega) (by omega)]
    refine Ev.ite (fun hb => ?_) (fun hb => ?_)
    · refine Ev.pos (by rw [List.length_singleton]; omega) ?_
      have := ih (i + 1) (out ++ [i]) (by omega) (by omega) (by rw [List.length_append, List.length_singleton]; omega) (fun j hj => by
        rcases List.mem_append.1 hj with hj | hj
        · exact h3 j hj
        · rw [List.mem_singleton] at hj; subst hj; exact ⟨h0, hlt⟩)
      rw [List.append_assoc] at this
      unfold idxs
      rw [if_pos hb]
      exact this
    · have := ih (i + 1) out (by omega) (by omega) (by omega) h3
      unfold idxs
      rw [if_neg hb]
      exact this
theorem side_ev (l : List Ord) (hl : l.length ≤ 32) (b : Bool) : Ev (fun k => auction_side.f k l b) (sideOf l b) := by
  have := side_loop l hl b l.length 0 [] (by omega) (by omega) (by simp) (by simp)
  exact this
/-- Whether an order with so much of it traded is a bound from below; from above. -/
def lowUp (o : Ord) (f : Int) : Prop := (o.2.1 = true ∧ f < o.2.2.1) ∨ (¬ o.2.1 = true ∧ 0 < f)
def highDn (o : Ord) (f : Int) : Prop := (o.2.1 = true ∧ 0 < f) ∨ (¬ o.2.1 = true ∧ f < o.2.2.1)
instance (o : Ord) (f : Int) : Decidable (lowUp o f) := by unfold lowUp; infer_instance
instance (o : Ord) (f : Int) : Decidable (highDn o f) := by unfold highDn; infer_instance
def boundsL : List Ord → List Int → Int → Int → Int × Int
  | o :: l, f :: fs, lo, hi => boundsL l fs (if lowUp o f then mx lo o.2.2.2 else lo) (if highDn o f then mn hi o.2.2.2 else hi)
  | _, _, lo, hi => (lo, hi)
theorem bounds_loop (l : List Ord) (fs : List Int) (hf : fs.length = l.length) (hl : l.length ≤ 32) (p q : Int) : ∀ (n : Nat) (i lo hi : Int), 0 ≤ i → (l.length : Int) - i = n → Ev (fun k => auction_bounds.l3 k lo hi l (l.length : Int) i p q fs) (boundsL (l.drop i.toNat) (fs.drop i.toNat) lo hi) := by
  intro n
  induction n with
  | zero =>
    intro i lo hi h0 h1
    rw [drop_end (xs := l) (by omega), drop_end (xs := fs) (by omega)]
    exact Ev.step (fun k => auction_bounds.l3_eq k _ _ _ _ _ _ _ _) (Ev.neg (by omega) (Ev.now _))
  | succ n ih =>
    intro i lo hi h0 h1
    have hlt : i < (l.length : Int) := by omega
    have hlf : i < (fs.length : Int) := by omega
    rw [drop_rd (t := Y2) h0 hlt, drop_rd (t := .int .i64) (xs := fs) h0 hlf]
    unfold boundsL
    -- the second half
    have h7 : ∀ lo' , Ev (fun k => auction_bounds.l7 k lo' hi i l (l.length : Int) i p q fs (rd Y2 l i).1 (rd Y2 l i).2.1 (rd Y2 l i).2.2.1 (rd Y2 l i).2.2.2) (boundsL (l.drop (i + 1).toNat) (fs.drop (i + 1).toNat) lo' (if highDn (rd Y2 l i) (rd (.int .i64) fs i) then mn hi (rd Y2 l i).2.2.2 else hi)) := by
      intro lo'
      have ih' := fun hi' => ih (i + 1) lo' hi' (by omega) (by omega)
      refine Ev.step (fun k => auction_bounds.l7_eq k _ _ _ _ _ _ _ _ _ _ _ _ _) ?_
      rw [w64 (x := i + 1) (by omega) (by omega)]
      by_cases hb : (rd Y2 l i).2.1 = true
      · refine Ev.pos hb (Ev.pos h0 (Ev.pos hlf (Ev.ite (fun hp => ?_) (fun hp => Ev.pos hb ?_))))
        · rw [if_pos (c := highDn _ _) (Or.inl ⟨hb, hp⟩)]; exact ih' _
        · rw [if_neg (c := highDn _ _) (by rintro (⟨_, h⟩ | ⟨h, _⟩) <;> first | exact hp (by assumption) | exact absurd hb (by assumption) | exact hb (by assumption))]; exact ih' _
      · refine Ev.neg hb (Ev.neg hb (Ev.pos h0 (Ev.pos hlf (Ev.ite (fun hp => ?_) (fun hp => ?_)))))
        · rw [if_pos (c := highDn _ _) (Or.inr ⟨hb, hp⟩)]; exact ih' _
        · rw [if_neg (c := highDn _ _) (by rintro (⟨h, _⟩ | ⟨_, h⟩) <;> first | exact hp (by assumption) | exact absurd hb (by assumption) | exact hb (by assumption))]; exact ih' _
    refine Ev.step (fun k => auction_bounds.l3_eq k _ _ _ _ _ _ _ _) (Ev.pos hlt (Ev.pos h0 (Ev.pos hlt ?_)))
    by_cases hb : (rd Y2 l i).2.1 = true
    · refine Ev.pos hb (Ev.pos h0 (Ev.pos hlf (Ev.ite (fun hp => ?_) (fun hp => Ev.pos hb ?_))))
      · rw [if_pos (c := lowUp _ _) (Or.inl ⟨hb, hp⟩)]; exact h7 _
      · rw [if_neg (c := lowUp _ _) (by rintro (⟨_, h⟩ | ⟨h, _⟩) <;> first | exact hp (by assumption) | exact absurd hb (by assumption) | exact hb (by assumption))]; exact h7 _
    · refine Ev.neg hb (Ev.neg hb (Ev.pos h0 (Ev.pos hlf (Ev.ite (fun hp => ?_) (fun hp => ?_)))))
      · rw [if_pos (c := lowUp _ _) (Or.inr ⟨hb, hp⟩)]; exact h7 _
      · rw [if_neg (c := lowUp _ _) (by rintro (⟨h, _⟩ | ⟨_, h⟩) <;> first | exact hp (by assumption) | exact absurd hb (by assumption) | exact hb (by assumption))]; exact h7 _
theorem bounds_ev (l : List Ord) (fs : List Int) (hf : fs.length = l.length) (hl : l.length ≤ 32) (p q : Int) : Ev (fun k => auction_bounds.f k l (p, q, fs)) (boundsL l fs (-2000000) 2000000) := by
  have := bounds_loop l fs hf hl p q l.length 0 (-2000000) 2000000 (by omega) (by omega)
  exact this
/-- How much of order j. -/
abbrev fl (fs : List Int) (j : Int) : Int := rd (.int .i64) fs j
abbrev pwr (l : List Ord) (j : Int) : Int := (rd Y2 l j).2.2.1
def sumF (fs : List Int) : List Int → Int
  | [] => 0
  | j :: B => fl fs j + sumF fs B
/-- One side while the auction runs: the first i orders are full, those behind the next one empty. -/
structure Half (l : List Ord) (fs B : List Int) (i : Int) : Prop where
  split : ∃ B1 B2, B = B1 ++ B2 ∧ i = B1.length ∧ (∀ j ∈ B1, fl fs j = pwr l j) ∧ (∀ b B3, B2 = b :: B3 → (0 ≤ fl fs b ∧ fl fs b < pwr l b) ∧ ∀ j ∈ B3, fl fs j = 0)
theorem fl_set (fs : List Int) (b j v : Int) (h0 : 0 ≤ b) (h1 : b < (fs.length : Int)) (hj : 0 ≤ j) : fl (fs.set b.toNat v) j = if j = b then v else fl fs j := by
  unfold fl rd
  rw [List.getD_eq_getElem?_getD, List.getD_eq_getElem?_getD, List.getElem?_set]
  by_cases h : j = b
  · subst h
    rw [if_pos rfl, if_pos rfl, if_pos (by omega)]; rfl
  · rw [if_neg h, if_neg (by omega)]
theorem sumF_congr {fs fs' : List Int} : ∀ {B : List Int}, (∀ j ∈ B, fl fs' j = fl fs j) → sumF fs' B = sumF fs B
  | [], _ => rfl
  | j :: B, h => by
    unfold sumF
    rw [h j (by simp), sumF_congr (fun x hx => h x (by simp [hx]))]
theorem sumF_append (fs : List Int) : ∀ (B C : List Int), sumF fs (B ++ C) = sumF fs B + sumF fs C
  | [], C => by simp [sumF]
  | j :: B, C => by
    rw [List.cons_append]
    simp only [sumF]
    rw [sumF_append fs B C]; omega
/-- One step of one side: b gets n more. -/
theorem Half.step {l : List Ord} {fs fs' B : List Int} {i : Int} (h : Half l fs B i) (hlt : i < (B.length : Int)) {n : Int} (hn : 0 ≤ n) (hnd : B.Nodup) (hB : ∀ j ∈ B, 1 ≤ pwr l j) (hb : fl fs' (fl B i) = fl fs (fl B i) + n) (hle : fl fs (fl B i) + n ≤ pwr l (fl B i)) (ho : ∀ j ∈ B, j ≠ fl B i → fl fs' j = fl fs j) :
    Half l fs' B (if fl fs' (fl B i) = pwr l (fl B i) then i + 1 else i) ∧ sumF fs' B = sumF fs B + n := by
  obtain ⟨B1, B2, e, hi, h1, h2⟩ := h.split
  cases B2 with
  | nil => rw [e, List.append_nil] at hlt; omega
  | cons b B3 =>
    have hbi : fl B i = b := rd_get (t := .int .i64) B B1.length b (by rw [e]; simp) ▸ (by rw [hi])
    rw [hbi] at hb hle ho ⊢
    obtain ⟨⟨p0, p1⟩, p2⟩ := h2 b B3 rfl
    rw [e] at hnd
    have hnd2 := List.nodup_append.1 hnd
    have hb1 : b ∉ B1 := fun hx => hnd2.2.2 b hx b (by simp) rfl
    have hb3 : b ∉ B3 := (List.nodup_cons.1 hnd2.2.1).1
    have o1 : ∀ j ∈ B1, fl fs' j = fl fs j := fun j hj => ho j (by rw [e]; simp [hj]) (fun hx => hb1 (hx ▸ hj))
    have o3 : ∀ j ∈ B3, fl fs' j = fl fs j := fun j hj => ho j (by rw [e]; simp [hj]) (fun hx => hb3 (hx ▸ hj))
    constructor
    · by_cases hf : fl fs' b = pwr l b
      · rw [if_pos hf]
        refine ⟨B1 ++ [b], B3, by rw [e]; simp, by rw [List.length_append, List.length_singleton]; omega, fun j hj => ?_, fun c B4 hc => ?_⟩
        · rcases List.mem_append.1 hj with hj | hj
          · rw [o1 j hj]; exact h1 j hj
          · rw [List.mem_singleton] at hj; subst hj; exact hf
        · have hcm : c ∈ B3 := by rw [hc]; simp
          rw [o3 c hcm, p2 c hcm]
          refine ⟨⟨by omega, ?_⟩, fun j hj => ?_⟩
          · have := hB c (by rw [e]; simp [hcm]); omega
          · have hjm : j ∈ B3 := by rw [hc]; simp [hj]
            rw [o3 j hjm]; exact p2 j hjm
      · rw [if_neg hf]
        refine ⟨B1, b :: B3, e, hi, fun j hj => by rw [o1 j hj]; exact h1 j hj, fun c B4 hc => ?_⟩
        cases hc
        refine ⟨⟨by omega, by omega⟩, fun j hj => by rw [o3 j hj]; exact p2 j hj⟩
    · rw [e, sumF_append, sumF_append]
      simp only [sumF]
      rw [sumF_congr o1, sumF_congr o3]; omega
/-! ### what a cleared auction is; no statement is proved here -/
/-- Order j is o, and f of it are traded. -/
def At (l : List Ord) (fs : List Int) (j : Nat) (o : Ord) (f : Int) : Prop := l[j]? = some o ∧ fs[j]? = some f
theorem At.cons {l : List Ord} {fs : List Int} {j : Nat} {o : Ord} {f : Int} (x : Ord) (y : Int) (h : At l fs j o f) : At (x :: l) (y :: fs) (j + 1) o f := ⟨by simpa using h.1, by simpa using h.2⟩
theorem At.zero (x : Ord) (y : Int) (l : List Ord) (fs : List Int) : At (x :: l) (y :: fs) 0 x y := ⟨rfl, rfl⟩
theorem At.cases {x : Ord} {y : Int} {l : List Ord} {fs : List Int} {j : Nat} {o : Ord} {f : Int} (h : At (x :: l) (y :: fs) j o f) : (j = 0 ∧ o = x ∧ f = y) ∨ ∃ i, j = i + 1 ∧ At l fs i o f := by
  cases j with
  | zero =>
    obtain ⟨h1, h2⟩ := h
    simp at h1 h2
    exact Or.inl ⟨rfl, h1.symm, h2.symm⟩
  | succ i => exact Or.inr ⟨i, rfl, by simpa using h.1, by simpa using h.2⟩
/-- The bounds: what they are. -/
structure Bnds (l : List Ord) (fs : List Int) (lo hi : Int) (r : Int × Int) : Prop where
  l0 : lo ≤ r.1
  h0 : r.2 ≤ hi
  l1 : ∀ j o f, At l fs j o f → lowUp o f → o.2.2.2 ≤ r.1
  h1 : ∀ j o f, At l fs j o f → highDn o f → r.2 ≤ o.2.2.2
  l2 : r.1 = lo ∨ ∃ j o f, At l fs j o f ∧ lowUp o f ∧ r.1 = o.2.2.2
  h2 : r.2 = hi ∨ ∃ j o f, At l fs j o f ∧ highDn o f ∧ r.2 = o.2.2.2
theorem boundsL_bnds : ∀ (l : List Ord) (fs : List Int) (lo hi : Int), fs.length = l.length → Bnds l fs lo hi (boundsL l fs lo hi)
  | [], fs, lo, hi, _ => by
    have hn : ∀ (j : Nat) (o : Ord) (f : Int), ¬ At [] fs j o f := fun j o f h => by
      have := h.1
      simp at this
    unfold boundsL
    exact ⟨Int.le_refl _, Int.le_refl _, fun j o f h => absurd h (hn j o f), fun j o f h => absurd h (hn j o f), Or.inl rfl, Or.inl rfl⟩
  | o :: l, [], lo, hi, h => by simp at h
  | o :: l, f :: fs, lo, hi, h => by
    have hl : fs.length = l.length := by simpa using h
    have ih := boundsL_bnds l fs (if lowUp o f then mx lo o.2.2.2 else lo) (if highDn o f then mn hi o.2.2.2 else hi) hl
    unfold boundsL
    generalize boundsL l fs (if lowUp o f then mx lo o.2.2.2 else lo) (if highDn o f then mn hi o.2.2.2 else hi) = r at ih ⊢
    have m1 := mx_ge lo o.2.2.2
    have m2 := mn_le hi o.2.2.2
    have a0 := ih.l0
    have b0 := ih.h0
    refine ⟨?_, ?_, fun j p g hj hp => ?_, fun j p g hj hp => ?_, ?_, ?_⟩
    · split at a0 <;> omega
    · split at b0 <;> omega
    · rcases hj.cases with ⟨_, rfl, rfl⟩ | ⟨i, rfl, hi⟩
      · rw [if_pos hp] at a0; omega
      · exact ih.l1 i p g hi hp
    · rcases hj.cases with ⟨_, rfl, rfl⟩ | ⟨i, rfl, hi⟩
      · rw [if_pos hp] at b0; omega
      · exact ih.h1 i p g hi hp
    · rcases ih.l2 with e | ⟨j, p, g, hj, hp, e⟩
      · by_cases hu : lowUp o f
        · rw [if_pos hu] at e
          rcases m1.2.2 with m | m
          · exact Or.inl (by omega)
          · exact Or.inr ⟨0, o, f, At.zero _ _ _ _, hu, by omega⟩
        · rw [if_neg hu] at e; exact Or.inl e
      · exact Or.inr ⟨j + 1, p, g, hj.cons _ _, hp, e⟩
    · rcases ih.h2 with e | ⟨j, p, g, hj, hp, e⟩
      · by_cases hu : highDn o f
        · rw [if_pos hu] at e
          rcases m2.2.2 with m | m
          · exact Or.inl (by omega)
          · exact Or.inr ⟨0, o, f, At.zero _ _ _ _, hu, by omega⟩
        · rw [if_neg hu] at e; exact Or.inl e
      · exact Or.inr ⟨j + 1, p, g, hj.cons _ _, hp, e⟩
/-- The sum of one side. -/
def sideSum (b : Bool) : List Ord → List Int → Int
  | o :: l, f :: fs => (if o.2.1 = b then f else 0) + sideSum b l fs
  | _, _ => 0
structure Fits (l : List Ord) (fs : List Int) : Prop where
  len : fs.length = l.length
  rng : ∀ j o f, At l fs j o f → 0 ≤ f ∧ f ≤ o.2.2.1
structure Cleared (l : List Ord) (fs : List Int) (Q : Int) : Prop extends Fits l fs where
  buy : sideSum true l fs = Q
  sell : sideSum false l fs = Q
  ord : ∀ i j o p f g, At l fs i o f → At l fs j p g → lowUp o f → highDn p g → o.2.2.2 ≤ p.2.2.2
  max : ∀ i j o p f g, At l fs i o f → At l fs j p g → o.2.1 = true → p.2.1 = false → f < o.2.2.1 → g < p.2.2.1 → o.2.2.2 < p.2.2.2
theorem Fits.tail {o : Ord} {f : Int} {l : List Ord} {fs : List Int} (h : Fits (o :: l) (f :: fs)) : Fits l fs := ⟨by simpa using h.len, fun j p g hj => h.rng _ _ _ (hj.cons _ _)⟩
theorem Fits.head {o : Ord} {f : Int} {l : List Ord} {fs : List Int} (h : Fits (o :: l) (f :: fs)) : 0 ≤ f ∧ f ≤ o.2.2.1 := h.rng 0 _ _ (At.zero _ _ _ _)
theorem sideSum_nonneg (b : Bool) : ∀ (l : List Ord) (fs : List Int), Fits l fs → 0 ≤ sideSum b l fs
  | [], fs, _ => by simp [sideSum]
  | _ :: _, [], _ => by simp [sideSum]
  | o :: l, f :: fs, h => by
    have := sideSum_nonneg b l fs h.tail
    have := h.head
    unfold sideSum
    split <;> omega
theorem sideSum_le (b : Bool) : ∀ (l : List Ord) (fs : List Int), Fits l fs → (∀ o ∈ l, o.2.2.1 ≤ 100000) → sideSum b l fs ≤ 100000 * l.length
  | [], fs, _, _ => by simp [sideSum]
  | _ :: _, [], _, _ => by simp [sideSum]; omega
  | o :: l, f :: fs, h, hp => by
    have := sideSum_le b l fs h.tail (fun x hx => hp x (by simp [hx]))
    have := h.head
    have := hp o (by simp)
    rw [List.length_cons]
    unfold sideSum
    split <;> omega
/-- Who has all has at least as much: all sums grow with the fills. -/
theorem sideSum_mono (b : Bool) : ∀ (l : List Ord) (fs gs : List Int), fs.length = l.length → gs.length = l.length → (∀ (j : Nat) o f g, l[j]? = some o → fs[j]? = some f → gs[j]? = some g → o.2.1 = b → f ≤ g) → sideSum b l fs ≤ sideSum b l gs
  | [], fs, gs, _, _, _ => by simp [sideSum]
  | _ :: _, [], _, h, _, _ => by simp at h
  | _ :: _, _ :: _, [], _, h, _ => by simp at h
  | o :: l, f :: fs, g :: gs, h1, h2, h => by
    have := sideSum_mono b l fs gs (by simpa using h1) (by simpa using h2) (fun j o' f' g' a1 a2 a3 a4 => h (j + 1) o' f' g' (by simpa using a1) (by simpa using a2) (by simpa using a3) a4)
    unfold sideSum
    by_cases hb : o.2.1 = b
    · rw [if_pos hb, if_pos hb]
      have := h 0 o f g rfl rfl rfl hb
      omega
    · rw [if_neg hb, if_neg hb]; omega
theorem sideSum_less {b : Bool} {l : List Ord} {fs gs : List Int} (h1 : fs.length = l.length) (h2 : gs.length = l.length) (h : sideSum b l gs < sideSum b l fs) : ∃ j o f g, At l fs j o f ∧ At l gs j o g ∧ o.2.1 = b ∧ g < f := by
  apply Classical.byContradiction
  intro hn
  have := sideSum_mono b l fs gs h1 h2 (fun j o f g a1 a2 a3 a4 => by
    apply Classical.byContradiction
    intro hc
    exact hn ⟨j, o, f, g, ⟨a1, a2⟩, ⟨a1, a3⟩, a4, by omega⟩)
  omega
/-- Equal sums and no greater: the same. -/
theorem sideSum_same (b : Bool) : ∀ (l : List Ord) (fs gs : List Int), fs.length = l.length → gs.length = l.length → (∀ (j : Nat) o f g, l[j]? = some o → fs[j]? = some f → gs[j]? = some g → o.2.1 = b → f ≤ g) → sideSum b l gs ≤ sideSum b l fs → ∀ (j : Nat) o f g, l[j]? = some o → fs[j]? = some f → gs[j]? = some g → o.2.1 = b → f = g
  | [], fs, gs, _, _, _ => by intro _ j o f g h; simp at h
  | _ :: _, [], _, h, _, _ => by simp at h
  | _ :: _, _ :: _, [], _, h, _ => by simp at h
  | o :: l, f :: fs, g :: gs, h1, h2, h => by
    intro hs j o' f' g' a1 a2 a3 a4
    have ht : ∀ (j : Nat) o f g, l[j]? = some o → fs[j]? = some f → gs[j]? = some g → o.2.1 = b → f ≤ g := fun j o' f' g' a1 a2 a3 a4 => h (j + 1) o' f' g' (by simpa using a1) (by simpa using a2) (by simpa using a3) a4
    have hm := sideSum_mono b l fs gs (by simpa using h1) (by simpa using h2) ht
    have h0 : o.2.1 = b → f ≤ g := h 0 o f g rfl rfl rfl
    have hs' : sideSum b l gs ≤ sideSum b l fs ∧ (o.2.1 = b → f = g) := by
      unfold sideSum at hs
      by_cases hb : o.2.1 = b
      · rw [if_pos hb, if_pos hb] at hs
        have := h0 hb
        exact ⟨by omega, fun _ => by omega⟩
      · rw [if_neg hb, if_neg hb] at hs
        exact ⟨by omega, fun h => absurd h hb⟩
    cases j with
    | zero =>
      simp at a1 a2 a3
      subst a1 a2 a3
      exact hs'.2 a4
    | succ j => exact sideSum_same b l fs gs (by simpa using h1) (by simpa using h2) ht hs'.1 j o' f' g' (by simpa using a1) (by simpa using a2) (by simpa using a3) a4
theorem sideSum_snoc (b : Bool) (o : Ord) (f : Int) : ∀ (l : List Ord) (fs : List Int), fs.length = l.length → sideSum b (l ++ [o]) (fs ++ [f]) = sideSum b l fs + (if o.2.1 = b then f else 0)
  | [], [], _ => by simp [sideSum]
  | [], _ :: _, h => by simp at h
  | _ :: _, [], h => by simp at h
  | x :: l, y :: fs, h => by
    have := sideSum_snoc b o f l fs (by simpa using h)
    rw [List.cons_append, List.cons_append]
    unfold sideSum
    rw [this]; omega
/-- A further order to sell: as much is traded. -/
theorem more_power {l : List Ord} {o : Ord} {fs gs : List Int} {Q R : Int} (ho : o.2.1 = false) (h : Cleared l fs Q) (k : Cleared (l ++ [o]) gs R) : Q ≤ R := by
  apply Classical.byContradiction
  intro hc
  have hc : R < Q := by omega
  have hl : (fs ++ [0]).length = (l ++ [o]).length := by simp [h.len]
  have e1 : sideSum true (l ++ [o]) (fs ++ [0]) = Q := by
    rw [sideSum_snoc _ _ _ _ _ h.len, h.buy, ho]; simp
  have e2 : sideSum false (l ++ [o]) (fs ++ [0]) = Q := by
    rw [sideSum_snoc _ _ _ _ _ h.len, h.sell, ho]; simp
  obtain ⟨i, x, f, g, a1, a2, a3, a4⟩ := sideSum_less (b := true) (fs := fs ++ [0]) hl k.len (by rw [e1, k.buy]; exact hc)
  obtain ⟨j, y, p, q, b1, b2, b3, b4⟩ := sideSum_less (b := false) (fs := fs ++ [0]) hl k.len (by rw [e2, k.sell]; exact hc)
  have old : ∀ (j : Nat) (x : Ord) (f g : Int), At (l ++ [o]) (fs ++ [0]) j x f → At (l ++ [o]) gs j x g → g < f → At l fs j x f := by
    intro j x f g c1 c2 c3
    obtain ⟨d1, d2⟩ := c1
    have := k.rng _ _ _ c2
    rcases Nat.lt_or_ge j l.length with hj | hj
    · rw [List.getElem?_append_left hj] at d1
      rw [List.getElem?_append_left (by rw [h.len]; exact hj)] at d2
      exact ⟨d1, d2⟩
    · rw [List.getElem?_append_right (by rw [h.len]; exact hj)] at d2
      have h0 : f = 0 := by
        rcases Nat.eq_zero_or_pos (j - fs.length) with z | z
        · rw [z] at d2; simpa using d2.symm
        · rw [List.getElem?_eq_none (by simp; omega)] at d2; cases d2
      omega
  have o1 := old _ _ _ _ a1 a2 a4
  have o2 := old _ _ _ _ b1 b2 b4
  have f1 := h.rng _ _ _ o1
  have f2 := h.rng _ _ _ o2
  have g1 := k.rng _ _ _ a2
  have g2 := k.rng _ _ _ b2
  have m := k.max _ _ _ _ _ _ a2 b2 a3 b3 (by omega) (by omega)
  have m2 := h.ord _ _ _ _ _ _ o2 o1 (Or.inr ⟨by rw [b3]; simp, by omega⟩) (Or.inl ⟨a3, by omega⟩)
  omega
theorem Cleared.lh {l : List Ord} {fs : List Int} {Q : Int} (h : Cleared l fs Q) (hp : ∀ o ∈ l, -1000000 ≤ o.2.2.2 ∧ o.2.2.2 ≤ 1000000) {r : Int × Int} (b : Bnds l fs (-2000000) 2000000 r) : r.1 ≤ r.2 := by
  have hm : ∀ j o f, At l fs j o f → o ∈ l := fun j o f hj => List.mem_of_getElem? hj.1
  rcases b.l2 with e | ⟨i, o, f, ho, hu, e⟩
  · rcases b.h2 with e' | ⟨j, p, g, hj, hd, e'⟩
    · omega
    · have := hp p (hm _ _ _ hj); omega
  · have := hp o (hm _ _ _ ho)
    rcases b.h2 with e' | ⟨j, p, g, hj, hd, e'⟩
    · omega
    · have := h.ord _ _ _ _ _ _ ho hj hu hd; omega
theorem half_mono {a b c d : Int} (h1 : a ≤ b) (h2 : c ≤ d) (h3 : a ≤ c) (h4 : b ≤ d) : a + Int.tdiv (c - a) 2 ≤ b + Int.tdiv (d - b) 2 := by
  rw [Int.tdiv_eq_ediv_of_nonneg (by omega), Int.tdiv_eq_ediv_of_nonneg (by omega)]; omega
theorem half_in {a c : Int} (h3 : a ≤ c) : a ≤ a + Int.tdiv (c - a) 2 ∧ a + Int.tdiv (c - a) 2 ≤ c := by
  rw [Int.tdiv_eq_ediv_of_nonneg (by omega)]; omega
/-- The price does not rise. -/
theorem more_price {l : List Ord} {o : Ord} {fs gs : List Int} {Q R : Int} (ho : o.2.1 = false) (h : Cleared l fs Q) (k : Cleared (l ++ [o]) gs R) (hp : ∀ x ∈ l ++ [o], -1000000 ≤ x.2.2.2 ∧ x.2.2.2 ≤ 1000000) {r s : Int × Int} (b : Bnds l fs (-2000000) 2000000 r) (c : Bnds (l ++ [o]) gs (-2000000) 2000000 s) : s.1 + Int.tdiv (s.2 - s.1) 2 ≤ r.1 + Int.tdiv (r.2 - r.1) 2 := by
  have hQ := more_power ho h k
  have lr := h.lh (fun x hx => hp x (by simp [hx])) b
  have ls := k.lh hp c
  by_cases key : s.2 ≤ r.1
  · have := half_in lr
    have := half_in ls
    omega
  have hl : (fs ++ [0]).length = (l ++ [o]).length := by simp [h.len]
  have e1 : sideSum true (l ++ [o]) (fs ++ [0]) = Q := by
    rw [sideSum_snoc _ _ _ _ _ h.len, h.buy, ho]; simp
  have e2 : sideSum false (l ++ [o]) (fs ++ [0]) = Q := by
    rw [sideSum_snoc _ _ _ _ _ h.len, h.sell, ho]; simp
  -- what stands in the old list
  have old : ∀ (j : Nat) (x : Ord) (f : Int), At (l ++ [o]) (fs ++ [0]) j x f → (At l fs j x f ∨ (x = o ∧ f = 0 ∧ j = l.length)) := by
    intro j x f c1
    obtain ⟨d1, d2⟩ := c1
    rcases Nat.lt_or_ge j l.length with hj | hj
    · rw [List.getElem?_append_left hj] at d1
      rw [List.getElem?_append_left (by rw [h.len]; exact hj)] at d2
      exact Or.inl ⟨d1, d2⟩
    · rw [List.getElem?_append_right (by rw [h.len]; exact hj)] at d2
      rw [List.getElem?_append_right hj] at d1
      rcases Nat.eq_zero_or_pos (j - l.length) with z | z
      · rw [h.len, z] at d2; rw [z] at d1
        exact Or.inr ⟨by simpa using d1.symm, by simpa using d2.symm, by omega⟩
      · rw [List.getElem?_eq_none (by simp; omega)] at d1; cases d1
  -- a buyer that got more
  have k1 : ∀ (j : Nat) x g f, (l ++ [o])[j]? = some x → gs[j]? = some g → (fs ++ [0])[j]? = some f → x.2.1 = true → g ≤ f := by
    intro j x g f a1 a2 a3 a4
    apply Classical.byContradiction
    intro hc
    apply key
    have g1 := k.rng _ _ _ ⟨a1, a2⟩
    rcases old j x f ⟨a1, a3⟩ with hx | ⟨hx, _, _⟩
    · have f1 := h.rng _ _ _ hx
      have := c.h1 _ _ _ ⟨a1, a2⟩ (Or.inl ⟨a4, by omega⟩)
      have := b.l1 _ _ _ hx (Or.inl ⟨a4, by omega⟩)
      omega
    · rw [hx, ho] at a4; cases a4
  have s1 := sideSum_mono true (l ++ [o]) gs (fs ++ [0]) k.len hl k1
  rw [e1, k.buy] at s1
  have hQR : Q = R := by omega
  -- a seller that got less
  have k2 : ∀ (j : Nat) x f g, (l ++ [o])[j]? = some x → (fs ++ [0])[j]? = some f → gs[j]? = some g → x.2.1 = false → f ≤ g := by
    intro j x f g a1 a2 a3 a4
    apply Classical.byContradiction
    intro hc
    apply key
    have g1 := k.rng _ _ _ ⟨a1, a3⟩
    rcases old j x f ⟨a1, a2⟩ with hx | ⟨hx, hz, _⟩
    · have f1 := h.rng _ _ _ hx
      have := c.h1 _ _ _ ⟨a1, a3⟩ (Or.inr ⟨by rw [a4]; simp, by omega⟩)
      have := b.l1 _ _ _ hx (Or.inr ⟨by rw [a4]; simp, by omega⟩)
      omega
    · omega
  have t1 := sideSum_same true (l ++ [o]) gs (fs ++ [0]) k.len hl k1 (by rw [e1, k.buy]; omega)
  have t2 := sideSum_same false (l ++ [o]) (fs ++ [0]) gs hl k.len k2 (by rw [e2, k.sell]; omega)
  have same : ∀ (j : Nat) x f g, (l ++ [o])[j]? = some x → (fs ++ [0])[j]? = some f → gs[j]? = some g → f = g := by
    intro j x f g a1 a2 a3
    cases hb : x.2.1 with
    | true => exact (t1 j x g f a1 a3 a2 hb).symm
    | false => exact t2 j x f g a1 a2 a3 hb
  have up : ∀ (j : Nat) x f, At l fs j x f → At (l ++ [o]) gs j x f := by
    intro j x f ⟨d1, d2⟩
    have hj := (List.getElem?_eq_some_iff.1 d1).1
    have u1 : (l ++ [o])[j]? = some x := by rw [List.getElem?_append_left hj]; exact d1
    have u2 : (fs ++ [0])[j]? = some f := by rw [List.getElem?_append_left (by rw [h.len]; exact hj)]; exact d2
    have hg : j < gs.length := by rw [k.len]; simp; omega
    have := same j x f gs[j] u1 u2 (List.getElem?_eq_getElem hg)
    exact ⟨u1, by rw [List.getElem?_eq_getElem hg, this]⟩
  have dn : ∀ (j : Nat) x g, At (l ++ [o]) gs j x g → (At l fs j x g ∨ (x = o ∧ g = 0)) := by
    intro j x g ⟨d1, d2⟩
    have hj := (List.getElem?_eq_some_iff.1 d1).1
    have hf : j < (fs ++ [0]).length := by rw [hl]; exact hj
    have := same j x _ g d1 (List.getElem?_eq_getElem hf) d2
    rcases old j x _ ⟨d1, List.getElem?_eq_getElem hf⟩ with hx | ⟨hx, hz, _⟩
    · rw [this] at hx; exact Or.inl hx
    · exact Or.inr ⟨hx, by omega⟩
  have lle : s.1 ≤ r.1 := by
    rcases c.l2 with e | ⟨j, x, g, hj, hu, e⟩
    · have := b.l0; omega
    · rcases dn _ _ _ hj with hx | ⟨hx, hz⟩
      · have := b.l1 _ _ _ hx hu; omega
      · rcases hu with ⟨u, _⟩ | ⟨_, u⟩
        · rw [hx, ho] at u; cases u
        · omega
  have hle : s.2 ≤ r.2 := by
    rcases b.h2 with e | ⟨j, x, g, hj, hu, e⟩
    · have := c.h0; omega
    · have := c.h1 _ _ _ (up _ _ _ hj) hu; omega
  exact half_mono lle hle ls lr
end Go.Proofs.Ytodagcbcdkfniaa.VE
