import Derived.Test.YtamgbcgfjhpedaaDoorVpR6
import Derived.Test.YtamgbcgfjhpedaaDoorVpSortE
namespace Go.Proofs.YtamgbcgfjhpedaaDoor.VE
open Go Go.RowKit
set_option linter.unusedVariables false
attribute [local irreducible] wrap64
def intSrt : Srt.NSys (Ty.T (.int .i64)) ((List (Bool × List Int × List Int))) (List (Ty.T (.int .i64)) × (List (Bool × List Int × List Int))) (Int × (List (Bool × List Int × List Int))) where
  z := Ty.dflt (.int .i64)
  fst := fun r => r.1
  snd := fun r => r.2
  pk := fun x s => (x, s)
  cf := fun r => r.1
  cs := fun r => r.2
  cmp := fun k a b s => settle_Round_1.f k a b s
  il1 := fun k y0 y1 y2 xs s => slices_insertionSortCmpFunc_int.l1 k y0 y1 y2 xs s
  il4 := fun k y0 y1 y2 y3 xs s => slices_insertionSortCmpFunc_int.l4 k y0 y1 y2 y3 xs s
  wl1 := fun k y0 y1 y2 y3 xs s => slices_swapRangeCmpFunc_int.l1 k y0 y1 y2 y3 xs s
  rl2 := fun k y0 y1 y2 xs s => slices_rotateCmpFunc_int.l2 k y0 y1 y2 xs s
  ml9 := fun k y0 y1 xs s => slices_symMergeCmpFunc_int.l9 k y0 y1 xs s
  ml3 := fun k y0 y1 y2 xs s => slices_symMergeCmpFunc_int.l3 k y0 y1 y2 xs s
  ml21 := fun k y0 y1 xs s => slices_symMergeCmpFunc_int.l21 k y0 y1 xs s
  ml15 := fun k y0 y1 y2 xs s => slices_symMergeCmpFunc_int.l15 k y0 y1 y2 xs s
  mf := fun k y0 y1 y2 xs s => slices_symMergeCmpFunc_int.f k y0 y1 y2 xs s
  ml32 := fun k y0 y1 y2 y3 y4 y5 y6 xs s => slices_symMergeCmpFunc_int.l32 k y0 y1 y2 y3 y4 y5 y6 xs s
  ml33 := fun k y0 y1 y2 y3 y4 y5 y6 y7 xs s => slices_symMergeCmpFunc_int.l33 k y0 y1 y2 y3 y4 y5 y6 y7 xs s
  ml41 := fun k y0 y1 y2 y3 y4 xs s => slices_symMergeCmpFunc_int.l41 k y0 y1 y2 y3 y4 xs s
  sl7 := fun k y0 y1 xs s => slices_stableCmpFunc_int.l7 k y0 y1 xs s
  sl9 := fun k y0 y1 y2 y3 xs s => slices_stableCmpFunc_int.l9 k y0 y1 y2 y3 xs s
  sl2 := fun k y0 y1 y2 y3 xs s => slices_stableCmpFunc_int.l2 k y0 y1 y2 y3 xs s
theorem intSrt_eqs : Srt.NEqs intSrt where
  e1 := fun _ _ => rfl
  e2 := fun _ _ => rfl
  i1z := fun _ _ _ _ _ => rfl
  i4z := fun _ _ _ _ _ _ => rfl
  w1z := fun _ _ _ _ _ _ => rfl
  r2z := fun _ _ _ _ _ => rfl
  m9z := fun _ _ _ _ => rfl
  m3z := fun _ _ _ _ _ => rfl
  m21z := fun _ _ _ _ => rfl
  m15z := fun _ _ _ _ _ => rfl
  mfz := fun _ _ _ _ _ => rfl
  m32z := fun _ _ _ _ _ _ _ _ _ => rfl
  m33z := fun _ _ _ _ _ _ _ _ _ _ => rfl
  m41z := fun _ _ _ _ _ _ _ => rfl
  s7z := fun _ _ _ _ => rfl
  s9z := fun _ _ _ _ _ _ => rfl
  s2z := fun _ _ _ _ _ _ => rfl
  il1 := fun _ _ _ _ _ _ => rfl
  il4 := fun _ _ _ _ _ _ _ => rfl
  wl1 := fun _ _ _ _ _ _ _ => rfl
  rl2 := fun _ _ _ _ _ _ => rfl
  ml9 := fun _ _ _ _ _ => rfl
  ml3 := fun _ _ _ _ _ _ => rfl
  ml21 := fun _ _ _ _ _ => rfl
  ml15 := fun _ _ _ _ _ _ => rfl
  mf := fun _ _ _ _ _ _ => rfl
  ml32 := fun _ _ _ _ _ _ _ _ _ _ => rfl
  ml33 := fun _ _ _ _ _ _ _ _ _ _ _ => rfl
  ml41 := fun _ _ _ _ _ _ _ _ => rfl
  sl7 := fun _ _ _ _ _ => rfl
  sl9 := fun _ _ _ _ _ _ _ => rfl
  sl2 := fun _ _ _ _ _ _ _ => rfl
/-! ### package settle: Round's parts (no statement is proved here) -/
attribute [local irreducible] rd
def fr (q : Rat) : Rat := q - (q.floor : Rat)
theorem fr_rng (q : Rat) : 0 ≤ fr q ∧ fr q < 1 := by
  have h1 := Rat.floor_le q
  have h2 := Rat.lt_floor_add_one q
  unfold fr
  have h3 : ((q.floor + 1 : Int) : Rat) = (q.floor : Rat) + 1 := by grind
  rw [h3] at h2
  constructor <;> grind
def sumQ (g : Nat → Rat) : Nat → Rat
  | 0 => 0
  | n + 1 => sumQ g n + g n
def byFr (g : Nat → Rat) (a b : Int) : Bool := decide (g b.toNat < g a.toNat)
theorem byFr_swo (g : Nat → Rat) : Srt.SWO (byFr g) := by
  constructor
  · intro x y h
    unfold byFr at h ⊢
    have h := of_decide_eq_true h
    exact decide_eq_false (by grind)
  · intro x y z h1 h2
    unfold byFr at h1 h2 ⊢
    have h1 := of_decide_eq_false h1
    have h2 := of_decide_eq_false h2
    exact decide_eq_false (by grind)
theorem round1_ev {rest : List (Bool × List Int × List Int)} {g : Nat → Rat} (h : ∀ i, i < rest.length → Rp 2004 (g i) (rY2 rest (i : Int))) {x y : Int} (hx : 0 ≤ x ∧ x < rest.length) (hy : 0 ≤ y ∧ y < rest.length) : Ev (fun k => settle_Round_1.f k x y rest) (sgnQ (g y.toNat - g x.toNat), rest) := by
  have e1 := h x.toNat (by omega)
  have e2 := h y.toNat (by omega)
  rw [show ((x.toNat : Nat) : Int) = x by omega] at e1
  rw [show ((y.toNat : Nat) : Int) = y by omega] at e2
  exact Ev.pos hy.1 (Ev.pos hy.2 (Ev.pos hx.1 (Ev.pos hx.2 (Ev.bind (cmpQ_ev e2 e1 (by omega)) (Ev.now _)))))
theorem fr_cmp {rest : List (Bool × List Int × List Int)} {g : Nat → Rat} (h : ∀ i, i < rest.length → Rp 2004 (g i) (rY2 rest (i : Int))) : Srt.Cmp (intSrt.at rest) (byFr g) (fun x => 0 ≤ x ∧ x < rest.length) := by
  intro x y hx hy
  obtain ⟨K, hK⟩ := round1_ev h hx hy
  refine ⟨sgnQ (g y.toNat - g x.toNat), ⟨K, fun k hk => ?_⟩, ?_⟩
  · show (settle_Round_1.f k x y rest).map (fun r => r.1) = some _
    have this : settle_Round_1.f k x y rest = some (sgnQ (g (Int.toNat y) - g (Int.toNat x)), rest) := hK k hk
    rw [this]; rfl
  · rw [sgnQ_neg]
    unfold byFr
    rw [decide_eq_true_iff]
    constructor <;> intro h <;> grind
theorem round1_stays (k : Nat) (a b : Int) (rest : List (Bool × List Int × List Int)) (r : Int × List (Bool × List Int × List Int)) (h : settle_Round_1.f k a b rest = some r) : r.2 = rest := by
  unfold settle_Round_1.f at h
  split at h
  · split at h
    · split at h
      · split at h
        · obtain ⟨c, _, hc⟩ := Option.bind_eq_some_iff.1 h
          rw [← Option.some.inj hc]
        · cases h
      · cases h
    · cases h
  · cases h
theorem ssort_ev {rest : List (Bool × List Int × List Int)} {g : Nat → Rat} (h : ∀ i, i < rest.length → Rp 2004 (g i) (rY2 rest (i : Int))) (idx : List Int) (hi : ∀ x ∈ idx, 0 ≤ x ∧ x < rest.length) (hl : idx.length ≤ 1000000) : Ev (fun k => slices_SortStableFunc_int.f k idx rest) (Srt.ssort (byFr g) idx, rest) := by
  have := Srt.nstable (N := intSrt) (s := rest) intSrt_eqs (fun k a b r hr => round1_stays k a b rest r hr) (fun r => rfl) (byFr_swo g) (fr_cmp h) idx hi (by omega)
  unfold slices_SortStableFunc_int.f slices_stableCmpFunc_int.f
  exact Ev.bind this (Ev.now _)
/-- The taken ones are raised by one. -/
theorem bump_run (t : List Int) (L : Nat) (hL : L ≤ 1000000) (hn : t.Nodup) (hr : ∀ x ∈ t, 0 ≤ x ∧ x < L) : ∀ (m j : Nat) (out : List Int), j + m = t.length → t.length ≤ 1000000 → out.length = L → (∀ i : Nat, i < L → -1000000000000000 ≤ rI64 out i ∧ rI64 out i ≤ 1000000000000000 + (if (i : Int) ∈ t.drop j then 0 else 1)) →
    EvP (fun k => settle_Round.l27 k t (t.length : Int) (j : Int) out) (fun r => r.2 = 0 ∧ r.1.length = L ∧ ∀ i : Nat, i < L → rI64 r.1 i = rI64 out i + (if (i : Int) ∈ t.drop j then 1 else 0))
  | 0, j, out, hj, ht, ho, hb => by
    rw [List.drop_eq_nil_of_le (by omega)]
    exact EvP.step (fun k => settle_Round.l27_eq k _ _ _ _) (EvP.neg (by omega) (EvP.ret ⟨rfl, ho, fun i hi => by simp⟩))
  | m + 1, j, out, hj, ht, ho, hb => by
    have hdr := rI64_drop (xs := t) (i := (j : Int)) (by omega) (by omega)
    rw [show ((j : Int)).toNat = j from rfl, show ((j : Int) + 1).toNat = j + 1 from rfl] at hdr
    have hm := hr _ (rI64_mem (xs := t) (i := (j : Int)) (by omega) (by omega))
    have hnd : rI64 t (j : Int) ∉ t.drop (j + 1) := by
      have := hn.sublist (List.drop_sublist j t)
      rw [hdr, List.nodup_cons] at this
      exact this.1
    rw [hdr] at hb ⊢
    refine EvP.step (fun k => settle_Round.l27_eq k _ _ _ _) ?_
    generalize rI64 t (j : Int) = x at hm hnd hb ⊢
    obtain ⟨a, rfl⟩ : ∃ a : Nat, x = (a : Int) := ⟨x.toNat, by omega⟩
    have ha := hb a (by omega)
    rw [if_pos (by simp)] at ha
    rw [w64 (x := rI64 out (a : Int) + 1) (by omega) (by omega), w64 (x := (j : Int) + 1) (by omega) (by omega)]
    refine EvP.pos (by omega) (EvP.pos (by omega) (EvP.pos (by omega) (EvP.pos (by omega) (EvP.pos (by omega) (EvP.pos (by omega) (EvP.pos (by omega) ?_))))))
    have hset : ∀ i : Nat, rI64 (out.set ((a : Int)).toNat (rI64 out (a : Int) + 1)) (i : Int) = if (i : Int) = (a : Int) then rI64 out (a : Int) + 1 else rI64 out (i : Int) := fun i => rI64_set (xs := out) (i := (a : Int)) _ (by omega) (by omega) (by omega)
    refine (bump_run t L hL hn hr m (j + 1) _ (by omega) ht (by rw [List.length_set, ho]) (fun i hi => ?_)).mono ?_
    · rw [hset]
      have := hb i hi
      by_cases hia : (i : Int) = (a : Int)
      · rw [if_pos hia, if_neg (by rw [hia]; exact hnd)]; omega
      · rw [if_neg hia]
        by_cases hin : (i : Int) ∈ t.drop (j + 1)
        · rw [if_pos hin]; rw [if_pos (by simp [hin])] at this; exact this
        · rw [if_neg hin]; rw [if_neg (by simp [hin]; omega)] at this; exact this
    · rintro r ⟨h1, h2, h3⟩
      refine ⟨h1, h2, fun i hi => ?_⟩
      rw [h3 i hi, hset]
      by_cases hia : (i : Int) = (a : Int)
      · rw [if_pos hia, hia, if_neg hnd, if_pos (by simp)]; omega
      · rw [if_neg hia]
        by_cases hin : (i : Int) ∈ t.drop (j + 1)
        · rw [if_pos hin, if_pos (by simp [hin])]
        · rw [if_neg hin, if_neg (by simp [hin]; omega)]
end Go.Proofs.YtamgbcgfjhpedaaDoor.VE
