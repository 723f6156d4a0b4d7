import Derived.Test.YtcmbckancficcaaVpSortE
import Derived.Test.YtcmbckancficcaaVpCvxM
import Derived.Test.YtcmbckancficcaaGRD
namespace Go.Proofs.Ytcmbckancficcaa.VE
open Go Go.RowKit
set_option linter.unusedVariables false
attribute [local irreducible] wrap64
def api_ConvexPieceSrt : Srt.NSys (Ty.T Y0) (Unit) (List (Ty.T Y0)) (Int) where
  z := Ty.dflt Y0
  fst := fun r => r
  snd := fun _ => ()
  pk := fun x _ => x
  cf := fun r => r
  cs := fun _ => ()
  cmp := fun k a b s => convexpl_made_1.f k a b 
  il1 := fun k y0 y1 y2 xs s => slices_insertionSortCmpFunc_api_ConvexPiece.l1 k y0 y1 y2 xs 
  il4 := fun k y0 y1 y2 y3 xs s => slices_insertionSortCmpFunc_api_ConvexPiece.l4 k y0 y1 y2 y3 xs 
  wl1 := fun k y0 y1 y2 y3 xs s => slices_swapRangeCmpFunc_api_ConvexPiece.l1 k y0 y1 y2 y3 xs 
  rl2 := fun k y0 y1 y2 xs s => slices_rotateCmpFunc_api_ConvexPiece.l2 k y0 y1 y2 xs 
  ml9 := fun k y0 y1 xs s => slices_symMergeCmpFunc_api_ConvexPiece.l9 k y0 y1 xs 
  ml3 := fun k y0 y1 y2 xs s => slices_symMergeCmpFunc_api_ConvexPiece.l3 k y0 y1 y2 xs 
  ml21 := fun k y0 y1 xs s => slices_symMergeCmpFunc_api_ConvexPiece.l21 k y0 y1 xs 
  ml15 := fun k y0 y1 y2 xs s => slices_symMergeCmpFunc_api_ConvexPiece.l15 k y0 y1 y2 xs 
  mf := fun k y0 y1 y2 xs s => slices_symMergeCmpFunc_api_ConvexPiece.f k y0 y1 y2 xs 
  ml32 := fun k y0 y1 y2 y3 y4 y5 y6 xs s => slices_symMergeCmpFunc_api_ConvexPiece.l32 k y0 y1 y2 y3 y4 y5 y6 xs 
  ml33 := fun k y0 y1 y2 y3 y4 y5 y6 y7 xs s => slices_symMergeCmpFunc_api_ConvexPiece.l33 k y0 y1 y2 y3 y4 y5 y6 y7 xs 
  ml41 := fun k y0 y1 y2 y3 y4 xs s => slices_symMergeCmpFunc_api_ConvexPiece.l41 k y0 y1 y2 y3 y4 xs 
  sl7 := fun k y0 y1 xs s => slices_stableCmpFunc_api_ConvexPiece.l7 k y0 y1 xs 
  sl9 := fun k y0 y1 y2 y3 xs s => slices_stableCmpFunc_api_ConvexPiece.l9 k y0 y1 y2 y3 xs 
  sl2 := fun k y0 y1 y2 y3 xs s => slices_stableCmpFunc_api_ConvexPiece.l2 k y0 y1 y2 y3 xs 
theorem api_ConvexPieceSrt_eqs : Srt.NEqs api_ConvexPieceSrt where
  e1 := fun _ _ => rfl
  e2 := fun _ _ => rfl
  i1z := fun _ _ _ _ _ => rfl
  i4z := fun _ _ _ _ _ _ => rfl
  w1z := fun _ _ _ _ _ _ => rfl
  r2z := fun _ _ _ _ _ => rfl
  m9z := fun _ _ _ _ => rfl
  m3z := fun _ _ _ _ _ => rfl
  m21z := fun _ _ _ _ => rfl
  m15z := fun _ _ _ _ _ => rfl
  mfz := fun _ _ _ _ _ => rfl
  m32z := fun _ _ _ _ _ _ _ _ _ => rfl
  m33z := fun _ _ _ _ _ _ _ _ _ _ => rfl
  m41z := fun _ _ _ _ _ _ _ => rfl
  s7z := fun _ _ _ _ => rfl
  s9z := fun _ _ _ _ _ _ => rfl
  s2z := fun _ _ _ _ _ _ => rfl
  il1 := fun _ _ _ _ _ _ => rfl
  il4 := fun _ _ _ _ _ _ _ => rfl
  wl1 := fun _ _ _ _ _ _ _ => rfl
  rl2 := fun _ _ _ _ _ _ => rfl
  ml9 := fun _ _ _ _ _ => rfl
  ml3 := fun _ _ _ _ _ _ => rfl
  ml21 := fun _ _ _ _ _ => rfl
  ml15 := fun _ _ _ _ _ _ => rfl
  mf := fun _ _ _ _ _ _ => rfl
  ml32 := fun _ _ _ _ _ _ _ _ _ _ => rfl
  ml33 := fun _ _ _ _ _ _ _ _ _ _ _ => rfl
  ml41 := fun _ _ _ _ _ _ _ _ => rfl
  sl7 := fun _ _ _ _ _ => rfl
  sl9 := fun _ _ _ _ _ _ _ => rfl
  sl2 := fun _ _ _ _ _ _ _ => rfl
/-! ### package convexpl: the walks (no statement is proved here) -/
def prevOf (l : List Pc) (i : Int) : Option Int := if 0 < i then some (rY0 l (i - 1)).2 else none
theorem okP_cons (prev : Option Int) (a v : Int) (p : Pc) (ps : List Pc) : okP prev a v (p :: ps) ↔ (1 ≤ p.1 ∧ p.1 ≤ 2000000) ∧ (-10000000 ≤ p.2 ∧ p.2 ≤ 10000000) ∧ (∀ s, prev = some s → s < p.2) ∧ a + p.1 ≤ 1000000 ∧ (-1000000000000000 ≤ v + p.1 * p.2 ∧ v + p.1 * p.2 ≤ 1000000000000000) ∧ okP (some p.2) (a + p.1) (v + p.1 * p.2) ps := Iff.rfl
theorem ccheck_loop (l : List Pc) (hl : l.length ≤ 64) (y z : Int) : ∀ (n : Nat) (i a v : Int), 0 ≤ i → (l.length : Int) - i = n → (-1000000 ≤ a ∧ a ≤ 1000000) → (-1000000000000000 ≤ v ∧ v ≤ 1000000000000000) → EvP (fun k => convexpl_Check.l7 k a v l (l.length : Int) i y z l) (fun e => e = 0 ↔ okP (prevOf l i) a v (l.drop i.toNat)) := by
  intro n
  induction n with
  | zero =>
    intro i a v h0 h1 ha hv
    rw [drop_end (by omega)]
    exact EvP.step (fun k => convexpl_Check.l7_eq k _ _ _ _ _ _ _ _) (EvP.neg (by omega) (EvP.ret ⟨fun _ => trivial, fun _ => rfl⟩))
  | succ n ih =>
    intro i a v h0 h1 ha hv
    have hlt : i < (l.length : Int) := by omega
    rw [rY0_drop h0 hlt]
    have hnx : prevOf l (i + 1) = some (rY0 l i).2 := by
      unfold prevOf
      rw [if_pos (by omega), show i + 1 - 1 = i by omega]
    have ih' := fun a v => ih (i + 1) a v (by omega) (by omega)
    rw [hnx] at ih'
    generalize hp : rY0 l i = p at ih' ⊢
    rw [okP_cons]
    refine EvP.step (fun k => convexpl_Check.l7_eq k _ _ _ _ _ _ _ _) (EvP.pos hlt (EvP.pos h0 (EvP.pos hlt ?_)))
    rw [hp]
    refine EvP.ite (fun h => EvP.ret ⟨fun hz => absurd hz (by decide), fun hk => by have := hk.1; omega⟩) (fun c1 => ?_)
    refine EvP.ite (fun h => EvP.ret ⟨fun hz => absurd hz (by decide), fun hk => by have := hk.1; omega⟩) (fun c2 => ?_)
    refine EvP.ite (fun h => EvP.ret ⟨fun hz => absurd hz (by decide), fun hk => by have := hk.2.1; omega⟩) (fun c3 => ?_)
    refine EvP.ite (fun h => EvP.ret ⟨fun hz => absurd hz (by decide), fun hk => by have := hk.2.1; omega⟩) (fun c4 => ?_)
    have m := mul_abs (a := p.1) (b := p.2) (A := 2000000) (B := 10000000) (by omega) (by omega) (by omega) (by omega)
    rw [w64 (x := i + 1) (by omega) (by omega), w64 (x := a + p.1) (by omega) (by omega), w64 (x := p.1 * p.2) (by omega) (by omega), w64 (x := v + p.1 * p.2) (by omega) (by omega)]
    have rest : (∀ s, prevOf l i = some s → s < p.2) → EvP (fun k => if 1000000 < a + p.1 then some 4 else if v + p.1 * p.2 < -1000000000000000 then some 4 else if 1000000000000000 < v + p.1 * p.2 then some 4 else convexpl_Check.l7 k (a + p.1) (v + p.1 * p.2) l (l.length : Int) (i + 1) y z l) (fun e => e = 0 ↔ (1 ≤ p.1 ∧ p.1 ≤ 2000000) ∧ (-10000000 ≤ p.2 ∧ p.2 ≤ 10000000) ∧ (∀ s, prevOf l i = some s → s < p.2) ∧ a + p.1 ≤ 1000000 ∧ (-1000000000000000 ≤ v + p.1 * p.2 ∧ v + p.1 * p.2 ≤ 1000000000000000) ∧ okP (some p.2) (a + p.1) (v + p.1 * p.2) (l.drop (i + 1).toNat)) := by
      intro hpr
      refine EvP.ite (fun h => EvP.ret ⟨fun hz => absurd hz (by decide), fun hk => by have := hk.2.2.2.1; omega⟩) (fun d1 => ?_)
      refine EvP.ite (fun h => EvP.ret ⟨fun hz => absurd hz (by decide), fun hk => by have := hk.2.2.2.2.1; omega⟩) (fun d2 => ?_)
      refine EvP.ite (fun h => EvP.ret ⟨fun hz => absurd hz (by decide), fun hk => by have := hk.2.2.2.2.1; omega⟩) (fun d3 => ?_)
      refine (ih' (a + p.1) (v + p.1 * p.2) (by omega) (by omega)).mono (fun e he => ⟨fun hz => ⟨by omega, by omega, hpr, by omega, by omega, he.1 hz⟩, fun hk => he.2 hk.2.2.2.2.2⟩)
    refine EvP.ite (fun hi => ?_) (fun hi => ?_)
    · rw [w64 (x := i - 1) (by omega) (by omega)]
      have hpi : prevOf l i = some (rY0 l (i - 1)).2 := by unfold prevOf; rw [if_pos hi]
      refine EvP.pos (by omega) (EvP.pos (by omega) (EvP.ite (fun h => EvP.ret ⟨fun hz => absurd hz (by decide), fun hk => ?_⟩) (fun h => ?_)))
      · have := hk.2.2.1 _ hpi
        omega
      · exact rest (fun s hs => by rw [hpi] at hs; cases hs; omega)
    · exact rest (fun s hs => by unfold prevOf at hs; rw [if_neg hi] at hs; cases hs)
theorem ccheck_ev (f : Cv) : EvP (fun k => convexpl_Check.f k f) (fun e => e = 0 ↔ Valid f) := by
  unfold convexpl_Check.f
  refine EvP.ite (fun h => EvP.ret ⟨fun hz => absurd hz (by decide), fun hk => by have := hk.1; omega⟩) (fun c1 => ?_)
  refine EvP.ite (fun h => EvP.ret ⟨fun hz => absurd hz (by decide), fun hk => by have := hk.2.1; omega⟩) (fun c2 => ?_)
  refine EvP.ite (fun h => EvP.ret ⟨fun hz => absurd hz (by decide), fun hk => by have := hk.2.1; omega⟩) (fun c3 => ?_)
  refine EvP.ite (fun h => EvP.ret ⟨fun hz => absurd hz (by decide), fun hk => by have := hk.2.2.1; omega⟩) (fun c4 => ?_)
  refine EvP.ite (fun h => EvP.ret ⟨fun hz => absurd hz (by decide), fun hk => by have := hk.2.2.1; omega⟩) (fun c5 => ?_)
  refine (ccheck_loop f.2.2 (by omega) f.1 f.2.1 f.2.2.length 0 f.1 f.2.1 (by omega) (by omega) (by omega) (by omega)).mono (fun e he => ?_)
  rw [he]
  exact ⟨fun h => ⟨by omega, by omega, by omega, h⟩, fun h => h.2.2.2⟩
theorem ccheck_yes {f : Cv} (h : Valid f) : Ev (fun k => convexpl_Check.f k f) 0 := by
  obtain ⟨e, he, hi⟩ := ccheck_ev f
  rw [hi.2 h] at he
  exact he
theorem high_loop (l : List Pc) (hl : l.length ≤ 64) : ∀ (n : Nat) (i a : Int), 0 ≤ i → (l.length : Int) - i = n → Nn (l.drop i.toNat) → -1000000 ≤ a → a + total (l.drop i.toNat) ≤ 1000000 → Ev (fun k => convexpl_high.l3 k a l (l.length : Int) i) (a + total (l.drop i.toNat)) := by
  intro n
  induction n with
  | zero =>
    intro i a h0 h1 hn ha hv
    rw [drop_end (by omega), total_nil, Int.add_zero]
    exact Ev.step (fun k => convexpl_high.l3_eq k _ _ _ _) (Ev.neg (by omega) (Ev.now _))
  | succ n ih =>
    intro i a h0 h1 hn ha hv
    have hlt : i < (l.length : Int) := by omega
    rw [rY0_drop h0 hlt] at hn hv ⊢
    have hn' : Nn (l.drop (i + 1).toNat) := fun q hq => hn q (List.mem_cons_of_mem _ hq)
    have ht := total_nonneg _ hn'
    have hp := hn _ (List.mem_cons_self ..)
    rw [total_cons] at hv ⊢
    refine Ev.step (fun k => convexpl_high.l3_eq k _ _ _ _) (Ev.pos hlt (Ev.pos h0 (Ev.pos hlt ?_)))
    rw [w64 (x := i + 1) (by omega) (by omega), w64 (x := a + (rY0 l i).1) (by omega) (by omega), ← Int.add_assoc]
    exact ih (i + 1) _ (by omega) (by omega) hn' (by omega) (by omega)
theorem high_ev {f : Cv} (h : Valid f) : Ev (fun k => convexpl_high.f k f) (hi f) := by
  have := high_loop f.2.2 h.1 f.2.2.length 0 f.1 (by omega) (by omega) h.ok.sp.nn h.2.1.1 h.ok.top
  exact this
theorem value_loop (l : List Pc) (hl : l.length ≤ 64) (hp : ∀ p ∈ l, (0 ≤ p.1 ∧ p.1 ≤ 2000000) ∧ (-10000000 ≤ p.2 ∧ p.2 ≤ 10000000)) (x : Int) (hx : -1000000 ≤ x ∧ x ≤ 1000000) : ∀ (n : Nat) (i v a : Int), 0 ≤ i → (l.length : Int) - i = n → -1000000 ≤ a → a ≤ x → -(1000000000000000 + 20000000000000 * i) ≤ v → v ≤ 1000000000000000 + 20000000000000 * i → Ev (fun k => convexpl_value.l3 k x v a l (l.length : Int) i) (v + vAt (l.drop i.toNat) (x - a)) := by
  intro n
  induction n with
  | zero =>
    intro i v a h0 h1 ha hax hv1 hv2
    rw [drop_end (by omega), show v + vAt [] (x - a) = v by simp [vAt]]
    exact Ev.step (fun k => convexpl_value.l3_eq k _ _ _ _ _ _) (Ev.neg (by omega) (Ev.now _))
  | succ n ih =>
    intro i v a h0 h1 ha hax hv1 hv2
    have hlt : i < (l.length : Int) := by omega
    obtain ⟨⟨p0, p1⟩, p2, p3⟩ := hp _ (rY0_mem h0 hlt)
    rw [rY0_drop h0 hlt, vAt_cons]
    have hm := mn_le (rY0 l i).1 (x - a)
    have m := mul_abs (a := mn (rY0 l i).1 (x - a)) (b := (rY0 l i).2) (A := 2000000) (B := 10000000) (by omega) (by omega) (by omega) (by omega)
    refine Ev.step (fun k => convexpl_value.l3_eq k _ _ _ _ _ _) (Ev.pos hlt (Ev.pos h0 (Ev.pos hlt ?_)))
    rw [w64 (x := i + 1) (by omega) (by omega), w64 (x := x - a) (by omega) (by omega), w64 (x := mn (rY0 l i).1 (x - a) * (rY0 l i).2) (by omega) (by omega), w64 (x := v + _) (by omega) (by omega), w64 (x := a + _) (by omega) (by omega), ← Int.add_assoc]
    have := ih (i + 1) (v + mn (rY0 l i).1 (x - a) * (rY0 l i).2) (a + mn (rY0 l i).1 (x - a)) (by omega) (by omega) (by omega) (by omega) (by omega) (by omega)
    rw [show x - (a + mn (rY0 l i).1 (x - a)) = x - a - mn (rY0 l i).1 (x - a) by omega] at this
    exact this
theorem value_ev {f : Cv} (h : Valid f) {x : Int} (h0 : f.1 ≤ x) (h1 : x ≤ hi f) : Ev (fun k => convexpl_value.f k f x) (V f x) := by
  have h2 := h.hi_ge
  have h3 := h.2.1
  have h4 := h.2.2.1
  have := value_loop f.2.2 h.1 (fun p hp => ⟨⟨h.ok.sp.nn p hp, h.ok.long p hp⟩, h.ok.slope p hp⟩) x (by omega) f.2.2.length 0 f.2.1 f.1 (by omega) (by omega) (by omega) (by omega) (by omega) (by omega)
  exact this
/-- At: right answers, and 0 with an error. -/
structure AtP (f : Cv) (x : Int) (r : Int × Int) : Prop where
  iff : r.2 = 0 ↔ Valid f ∧ f.1 ≤ x ∧ x ≤ hi f
  val : r.2 = 0 → r.1 = V f x
  zero : r.2 ≠ 0 → r.1 = 0
theorem at_ev (f : Cv) (x : Int) : EvP (fun k => convexpl_At.f k f x) (AtP f x) := by
  unfold convexpl_At.f
  refine EvP.bind (ccheck_ev f) (fun e he => EvP.ite (fun hz => ?_) (fun hz => EvP.ret ⟨⟨fun h => absurd h hz, fun h => absurd (he.2 h.1) hz⟩, fun h => absurd h hz, fun _ => rfl⟩))
  have hV := he.1 hz
  refine EvP.ite (fun h => EvP.ret ⟨⟨fun h => absurd h (by decide), fun hk => by omega⟩, fun h => absurd h (by decide), fun _ => rfl⟩) (fun c1 => EvP.bindE (high_ev hV) ?_)
  refine EvP.ite (fun h => EvP.ret ⟨⟨fun h => absurd h (by decide), fun hk => by omega⟩, fun h => absurd h (by decide), fun _ => rfl⟩) (fun c2 => EvP.bindE (value_ev hV (by omega) (by omega)) (EvP.ret ⟨⟨fun _ => ⟨hV, by omega, by omega⟩, fun _ => rfl⟩, fun _ => rfl, fun h => absurd rfl h⟩))
theorem slopes_ev : Ev (fun k => gridhallkeep3_slopes.f k) true := Ev.far 20 (fun k => by kernel_rfl)
/-! the sort of pieces -/
theorem compare_ev (p q : Int) : ∃ c, Ev (fun k => cmp_Compare_int.f k p q) c ∧ (c < 0 ↔ p < q) := by
  have hn : ∀ (x : Int), Ev (fun k => cmp_isNaN_int.f k x) false := fun x => by
    unfold cmp_isNaN_int.f
    rw [show (!decide (x = x)) = false by simp]
    exact Ev.now _
  unfold cmp_Compare_int.f
  by_cases h1 : p < q
  · exact ⟨-1, Ev.bind (hn p) (Ev.bind (hn q) (Ev.neg (by simp) (Ev.neg (by simp) (Ev.pos h1 (Ev.now _))))), by omega⟩
  · by_cases h2 : q < p
    · exact ⟨1, Ev.bind (hn p) (Ev.bind (hn q) (Ev.neg (by simp) (Ev.neg (by simp) (Ev.neg h1 (Ev.pos h2 (Ev.now _)))))), by omega⟩
    · exact ⟨0, Ev.bind (hn p) (Ev.bind (hn q) (Ev.neg (by simp) (Ev.neg (by simp) (Ev.neg h1 (Ev.neg h2 (Ev.now _)))))), by omega⟩
theorem pieces_cmp : Srt.Cmp (api_ConvexPieceSrt.at ()) bySlope (fun _ => True) := by
  intro x y _ _
  obtain ⟨c, ⟨K, hK⟩, hi⟩ := compare_ev x.2 y.2
  refine ⟨c, ⟨K, fun k hk => ?_⟩, by rw [hi]; simp [bySlope]⟩
  show (convexpl_made_1.f k x y).map (fun r => r) = some c
  unfold convexpl_made_1.f
  have : cmp_Compare_int.f k x.2 y.2 = some c := hK k hk
  rw [this]; rfl
theorem sort_ev (l : List Pc) (hl : l.length ≤ 1000000) : Ev (fun k => slices_SortStableFunc_api_ConvexPiece.f k l) (Srt.ssort bySlope l) := by
  have := Srt.nstable (N := api_ConvexPieceSrt) (s := ()) api_ConvexPieceSrt_eqs (fun _ _ _ _ _ => rfl) (fun r => rfl) bySlope_swo pieces_cmp l (fun _ _ => trivial) (by omega)
  unfold slices_SortStableFunc_api_ConvexPiece.f slices_stableCmpFunc_api_ConvexPiece.f
  exact Ev.bind this (Ev.now _)
theorem rd_last (r : List Pc) (q : Pc) : rY0 (r ++ [q]) (r.length : Int) = q := rY0_get _ r.length q (by simp)
theorem set_last (r : List Pc) (q x : Pc) : (r ++ [q]).set r.length x = r ++ [x] := by simp
inductive MadeP (low v : Int) (ps : List Pc) : Cv × Int × List Pc → Prop where
  | ok (s : List Pc) (h : Valid (low, v, nrm ps)) : MadeP low v ps ((low, v, nrm ps), 0, s)
  | bad (s : List Pc) (h : ¬ Valid (low, v, nrm ps)) : MadeP low v ps ((0, 0, []), 2, s)
theorem made_loop (low v : Int) (ps l : List Pc) (hl : l.length ≤ 1000) (hp : ∀ p ∈ l, 0 ≤ p.1 ∧ p.1 ≤ 1000000000) (he : pushes [] l = nrm ps) (b c : Int) : ∀ (n : Nat) (i : Int) (acc : List Pc), 0 ≤ i → (l.length : Int) - i = n → (acc.length : Int) ≤ i → Nn acc → total acc ≤ 1000000000 * i → pushes acc (l.drop i.toNat) = nrm ps → EvP (fun k => convexpl_made.l4 k (l.length : Int) i l b c low v acc) (MadeP low v ps) := by
  intro n
  induction n with
  | zero =>
    intro i acc h0 h1 ha hn ht hk
    rw [drop_end (by omega)] at hk
    have hk : acc = nrm ps := hk
    subst hk
    refine EvP.step (fun k => convexpl_made.l4_eq k _ _ _ _ _ _ _ _) (EvP.neg (by omega) (EvP.bind (ccheck_ev (low, v, nrm ps)) (fun e he => EvP.ite (fun hz => EvP.ret (.ok l (he.1 hz))) (fun hz => EvP.ret (.bad l (fun h => hz (he.2 h)))))))
  | succ n ih =>
    intro i acc h0 h1 ha hn ht hk
    have hlt : i < (l.length : Int) := by omega
    obtain ⟨p0, p1⟩ := hp _ (rY0_mem h0 hlt)
    rw [rY0_drop h0 hlt] at hk
    have hk : pushes (push acc (rY0 l i)) (l.drop (i + 1).toNat) = nrm ps := hk
    refine EvP.step (fun k => convexpl_made.l4_eq k _ _ _ _ _ _ _ _) (EvP.pos hlt (EvP.pos h0 (EvP.pos hlt ?_)))
    rw [w64 (x := i + 1) (by omega) (by omega), w64 (x := (acc.length : Int) - 1) (by omega) (by omega)]
    generalize rY0 l i = p at *
    refine EvP.ite (fun hz => ?_) (fun hz => ?_)
    · have e : push acc p = acc := by unfold push; rw [if_pos hz]
      rw [e] at hk
      exact ih (i + 1) acc (by omega) (by omega) (by omega) hn (by omega) hk
    · rcases snoc_cases acc with rfl | ⟨r, q, rfl⟩
      · have e : push [] p = [p] := by rw [push_nil, if_neg hz]
        rw [e] at hk
        have hT : total [p] ≤ 1000000000 * (i + 1) := by rw [total_cons, total_nil]; omega
        have hN : Nn [p] := fun x hx => by rw [List.mem_singleton] at hx; subst hx; exact p0
        have hL : (([p] : List Pc).length : Int) ≤ i + 1 := by rw [List.length_singleton]; omega
        refine EvP.neg (by simp) (EvP.pos (by simp) ?_)
        exact ih (i + 1) [p] (by omega) (by omega) hL hN hT hk
      · have hlen : ((r ++ [q]).length : Int) - 1 = (r.length : Int) := by rw [List.length_append, List.length_singleton]; omega
        have hq : 0 ≤ q.1 := hn q (by simp)
        have hr : Nn r := fun x hx => hn x (by simp [hx])
        have htr := total_nonneg r hr
        rw [total_append, total_cons, total_nil] at ht
        rw [hlen, rd_last]
        have g1 : (r.length : Int) < ((r ++ [q]).length : Int) := by omega
        refine EvP.pos (by omega) (EvP.pos (by omega) (EvP.pos g1 (EvP.ite (fun he => ?_) (fun he => ?_))))
        · have e : push (r ++ [q]) p = r ++ [(q.1 + p.1, q.2)] := by rw [push_snoc, if_neg hz, if_pos he]
          rw [e] at hk
          rw [w64 (x := q.1 + p.1) (by omega) (by omega), show Int.toNat (r.length : Int) = r.length by omega, set_last]
          refine EvP.pos (by omega) (EvP.pos g1 (EvP.pos (by omega) (EvP.pos g1 ?_)))
          refine ih (i + 1) _ (by omega) (by omega) ?_ ?_ ?_ hk
          · rw [List.length_append, List.length_singleton] at ha ⊢; omega
          · intro x hx
            rcases List.mem_append.1 hx with hx | hx
            · exact hr x hx
            · rw [List.mem_singleton] at hx; subst hx
              show 0 ≤ q.1 + p.1; omega
          · rw [total_append, total_cons, total_nil]
            show total r + (q.1 + p.1 + 0) ≤ _
            omega
        · have e : push (r ++ [q]) p = (r ++ [q]) ++ [p] := by rw [push_snoc, if_neg hz, if_neg he]
          rw [e] at hk
          have hL : (((r ++ [q]) ++ [p]).length : Int) ≤ i + 1 := by rw [List.length_append, List.length_singleton]; omega
          have hN : Nn ((r ++ [q]) ++ [p]) := fun x hx => by
            rcases List.mem_append.1 hx with hx | hx
            · exact hn x hx
            · rw [List.mem_singleton] at hx; subst hx; exact p0
          have hT : total ((r ++ [q]) ++ [p]) ≤ 1000000000 * (i + 1) := by rw [total_append, total_append, total_cons, total_cons, total_nil]; omega
          refine EvP.pos (by rw [List.length_singleton]; omega) ?_
          exact ih (i + 1) _ (by omega) (by omega) hL hN hT hk
theorem made_ev (low v : Int) (ps : List Pc) (hl : ps.length ≤ 1000) (hp : ∀ p ∈ ps, 0 ≤ p.1 ∧ p.1 ≤ 1000000000) : EvP (fun k => convexpl_made.f k low v ps) (MadeP low v ps) := by
  have hpm := Srt.ssort_perm bySlope_swo ps
  unfold convexpl_made.f
  refine EvP.bindE (sort_ev ps (by omega)) ?_
  exact made_loop low v ps (Srt.ssort bySlope ps) (by rw [hpm.length_eq]; exact hl) (fun p h => hp p (hpm.mem_iff.1 h)) rfl 0 0 (Srt.ssort bySlope ps).length 0 [] (by omega) (by omega) (by simp) (fun q hq => by cases hq) (by simp [total]) rfl
/-! ### within, fine (no statement is proved here) -/
theorem within_ev (a lo hi : Int) (ha : -9223372036854775808 ≤ a ∧ a ≤ 9223372036854775807) (h : lo ≤ hi) (h1 : -4611686018427387904 ≤ lo) (h2 : hi ≤ 4611686018427387904) (h3 : hi - lo ≤ 1000000000000000000) : EvP (fun k => gridhallkeep3_within.f k a lo hi) (fun r => lo ≤ r ∧ r ≤ hi) := by
  unfold gridhallkeep3_within.f
  rw [w64 (x := hi - lo) (by omega) (by omega), w64 (x := hi - lo + 1) (by omega) (by omega)]
  refine EvP.pos (by omega) (EvP.pos (by omega) (EvP.ret ?_))
  generalize hs : hi - lo + 1 = s
  have t1 : -s < Int.tmod a s ∧ Int.tmod a s < s := by
    have a1 := Int.tmod_lt_of_pos a (b := s) (by omega)
    have a2 := Int.lt_tmod_of_pos a (b := s) (by omega)
    omega
  rw [w64 (x := Int.tmod a s + s) (by omega) (by omega)]
  have t2 : 0 ≤ Int.tmod (Int.tmod a s + s) s ∧ Int.tmod (Int.tmod a s + s) s < s := ⟨Int.tmod_nonneg _ (by omega), Int.tmod_lt_of_pos _ (by omega)⟩
  rw [w64 (x := lo + _) (by omega) (by omega)]
  omega
theorem fine_loop (l : List Int) (hl : l.length ≤ 1000) : ∀ (n : Nat) (i : Int), 0 ≤ i → (l.length : Int) - i = n → Ev (fun k => slices_IndexFunc_api_Errno.l2 k l (l.length : Int) i) (if (l.drop i.toNat).all (fun e => decide (e = 0)) = true then -1 else i + ((l.drop i.toNat).takeWhile (fun e => decide (e = 0))).length) := by
  intro n
  induction n with
  | zero =>
    intro i h0 h1
    rw [drop_end (by omega)]
    exact Ev.step (fun k => slices_IndexFunc_api_Errno.l2_eq k _ _ _) (Ev.neg (by omega) (Ev.now _))
  | succ n ih =>
    intro i h0 h1
    have hlt : i < (l.length : Int) := by omega
    rw [rI64_drop (xs := l) h0 hlt]
    refine Ev.step (fun k => slices_IndexFunc_api_Errno.l2_eq k _ _ _) (Ev.pos hlt (Ev.pos h0 (Ev.pos hlt ?_)))
    refine Ev.bind (a := !decide (rI64 l i = 0)) (Ev.now _) ?_
    have ih' := ih (i + 1) (by omega) (by omega)
    rw [w64 (x := i + 1) (by omega) (by omega)]
    by_cases hz : rI64 l i = 0
    · refine Ev.neg (by simp [hz]) ?_
      simp only [List.all_cons, List.takeWhile_cons, hz, decide_true, Bool.true_and, if_true, List.length_cons]
      have e : i + (((l.drop (i + 1).toNat).takeWhile (fun e => decide (e = 0))).length + 1 : Nat) = i + 1 + (((l.drop (i + 1).toNat).takeWhile (fun e => decide (e = 0))).length : Int) := by omega
      rw [e]
      exact ih'
    · refine Ev.pos (by simp [hz]) ?_
      simp only [List.all_cons, List.takeWhile_cons, hz, decide_false, Bool.false_and, Bool.false_eq_true, if_false, List.length_nil]
      simpa using Ev.now i
theorem fine_ev (l : List Int) (hl : l.length ≤ 1000) : Ev (fun k => gridhallkeep3_fine.f k l) (l.all (fun e => decide (e = 0))) := by
  have h := fine_loop l hl l.length 0 (by omega) (by omega)
  unfold gridhallkeep3_fine.f slices_ContainsFunc_api_Errno.f slices_IndexFunc_api_Errno.f
  refine Ev.bind (Ev.bind h (Ev.now _)) ?_
  rw [show (0 : Int).toNat = 0 from rfl, List.drop_zero]
  cases hb : l.all (fun e => decide (e = 0)) with
  | true => simpa using Ev.now true
  | false =>
    simp only [Bool.false_eq_true, if_false]
    rw [decide_eq_true (p := (0 : Int) ≤ 0 + ((l.takeWhile (fun e => decide (e = 0))).length : Int)) (by omega)]
    exact Ev.now _
end Go.Proofs.Ytcmbckancficcaa.VE
