/- The pure statement of the law CommitMore; what its row says is proved behind it. -/
import Derived.Test.YtodagcbcdkfniaaVpCA
namespace Go.Proofs.Ytodagcbcdkfniaa.VE
open Go Go.RowKit
set_option linter.unusedVariables false
attribute [local irreducible] wrap64
/-- The row's pure statement. -/
def CommitMore.Pure : Prop := ∀ (a0 : List ((ByteArray × Int × Int × Int × Int × Int × Int × Int) × (ByteArray × List (Int × Int)) × Bool × Int × Int)) (a1 : List Int), OkV BY (.list 33 (.pair (.pair .str (.pair (.int .i64) (.pair (.int .i64) (.pair (.int .i64) (.pair (.int .i64) (.pair (.int .i64) (.pair (.int .i64) (.int .i64)))))))) (.pair (.pair .str (.list 72 (.pair (.int .i64) (.int .i64)))) (.pair .bool (.pair (.int .i64) (.int .i64)))))) a0 → OkV BY (.list 3 (.int .i64)) a1 → ∃ k, gridhallkeep3_CommitMore.f k a0 a1 = some true
theorem alone_ev : Ev (fun k => gridhallkeep3_alone.f k) aloneU := Ev.far 1 (fun k => by kernel_rfl)
theorem alone_best : Ev (fun k => commit_Best.f k [aloneU] [12, 0]) ([[12, -1]], 75, 0) := Ev.far 60 (fun k => by kernel_rfl)
theorem vAt_nn : ∀ (ps : List Pc) (x : Int), Nn ps → (∀ q ∈ ps, 0 ≤ q.2) → 0 ≤ x → 0 ≤ vAt ps x
  | [], _, _, _, _ => Int.le_refl _
  | p :: ps, x, hn, hp, hx => by
    have h1 := hn p (by simp)
    have h2 := hp p (by simp)
    have hm := mn_le p.1 x
    have := vAt_nn ps (x - mn p.1 x) (fun q hq => hn q (by simp [hq])) (fun q hq => hp q (by simp [hq])) (by omega)
    have m := Int.mul_nonneg (a := mn p.1 x) (b := p.2) (by omega) h2
    rw [vAt_cons]; omega
theorem colCost_nn : ∀ (l : List Un) (xs : List Int), (∀ u ∈ l, Nn u.2.1.2 ∧ ∀ q ∈ u.2.1.2, 0 ≤ q.2) → 0 ≤ colCost l xs
  | [], _, _ => Int.le_refl _
  | _ :: _, [], _ => Int.le_refl _
  | u :: l, x :: xs, h => by
    obtain ⟨h1, h2⟩ := h u (by simp)
    have hx := mx_ge x 0
    have := vAt_nn u.2.1.2 (mx x 0) h1 h2 (by omega)
    have := colCost_nn l xs (fun v hv => h v (by simp [hv]))
    show 0 ≤ vAt u.2.1.2 (mx x 0) + colCost l xs
    omega
theorem more_loop (l : List Un) (dm : List Int) (hll : l.length ≤ 140737488351232) (R : Bool → Prop) (ht : R true) (cont : (∀ u ∈ l, ∀ q, u.2.1.2[0]? = some q → 0 ≤ q.2) → EvP (fun k => (commit_Best.f k l dm).bind fun r3 => if (wrap64 ((dm.length : Int) - 1)) ≤ (dm.length : Int) then if 0 ≤ (wrap64 ((dm.length : Int) - 1)) then (commit_Best.f k l (dm.take (wrap64 ((dm.length : Int) - 1)).toNat)).bind fun r4 => if r3.2.2 = 0 then if r4.2.2 = 0 then some (decide (r4.2.1 ≤ r3.2.1)) else some false else some true else none else none) R) : ∀ (n : Nat) (i : Int), 0 ≤ i → (l.length : Int) - i = n → ((∀ u ∈ l.drop i.toNat, ∀ q, u.2.1.2[0]? = some q → 0 ≤ q.2) → (∀ u ∈ l, ∀ q, u.2.1.2[0]? = some q → 0 ≤ q.2)) → EvP (fun k => gridhallkeep3_CommitMore.l7 k l dm l (l.length : Int) i) R := by
  intro n
  induction n with
  | zero =>
    intro i h0 h1 hb
    rw [drop_end (by omega)] at hb
    exact EvP.step (fun k => gridhallkeep3_CommitMore.l7_eq k _ _ _ _ _) (EvP.neg (by omega) (cont (hb (fun u hu => by cases hu))))
  | succ n ih =>
    intro i h0 h1 hb
    have hlt : i < (l.length : Int) := by omega
    rw [rY10_drop h0 hlt] at hb
    refine EvP.step (fun k => gridhallkeep3_CommitMore.l7_eq k _ _ _ _ _) (EvP.pos hlt (EvP.pos h0 (EvP.pos hlt ?_)))
    generalize rY10 l i = u at *
    rw [w64 (x := i + 1) (by omega) (by omega)]
    refine EvP.ite (fun hp => EvP.pos (by omega) (EvP.pos hp (EvP.ite (fun _ => EvP.ret ht) (fun hq => ?_)))) (fun hp => ?_)
    · refine ih (i + 1) (by omega) (by omega) (fun hR => hb (fun v hv q hg => ?_))
      rcases List.mem_cons.1 hv with rfl | hv
      · have := rY0_get v.2.1.2 0 q hg
        have e : rY0 v.2.1.2 0 = q := this
        rw [e] at hq
        omega
      · exact hR v hv q hg
    · refine ih (i + 1) (by omega) (by omega) (fun hR => hb (fun v hv q hg => ?_))
      rcases List.mem_cons.1 hv with rfl | hv
      · have : v.2.1.2 = [] := List.eq_nil_of_length_eq_zero (by omega)
        rw [this] at hg
        cases hg
      · exact hR v hv q hg
theorem Pure.CommitMore : CommitMore.Pure := by
  intro l dm hl hdm
  have hs : SzL l := fun u hu => by
    have := hl.2 u hu
    exact ⟨this.1.1, this.2.1.1⟩
  refine EvP.rounds ?_
  unfold gridhallkeep3_CommitMore.f
  refine EvP.bindE alone_ev (EvP.bindE alone_best (EvP.pos rfl (EvP.pos rfl (EvP.ite (fun _ => EvP.ret rfl) (fun hne => ?_)))))
  have by1 : BY 3 = BY 3 - 1 + 1 := by kernel_rfl
  have by2 : BY 33 = BY 33 - 1 + 1 := by kernel_rfl
  have hdl : dm.length ≤ 140737488351232 := by
    have h := hdm.1
    rw [by1, Nat.mul_add] at h
    omega
  have hll : l.length ≤ 140737488351232 := by
    have h := hl.1
    rw [by2, Nat.mul_add] at h
    omega
  refine more_loop l dm hll (fun x => x = true) rfl (fun hpos => ?_) l.length 0 (by omega) (by omega) (by rw [show (0 : Int).toNat = 0 from rfl, List.drop_zero]; exact fun h => h)
  have w1 : wrap64 ((dm.length : Int) - 1) = (dm.length : Int) - 1 := w64 (by omega) (by omega)
  obtain ⟨b, hb, hB⟩ := cbest_ev l hs dm
  obtain ⟨b2, hb2, hB2⟩ := cbest_ev l hs (dm.take (dm.length - 1))
  refine EvP.bindE hb ?_
  rw [w1]
  refine EvP.pos (by omega) (EvP.pos (by omega) ?_)
  rw [show ((dm.length : Int) - 1).toNat = dm.length - 1 by omega]
  refine EvP.bindE hb2 (EvP.ite (fun hz => ?_) (fun _ => EvP.ret rfl))
  have hA := hB.all hz
  have hU : UnitsOk l := hA.ok
  have hS := hB.good hz
  have hAdl := hA.dlen
  have hA2 : AllU l (dm.take (dm.length - 1)) := ⟨hA.len, by rw [List.length_take]; omega, hA.ok, fun x hx => hA.dms x (List.mem_of_mem_take hx), hA.any⟩
  obtain ⟨f, c', h1, h2⟩ := hS.run
  have hrows := hS.rows
  have hsums := hS.sums
  have hn : dm.length = (dm.length - 1) + 1 := by omega
  obtain ⟨s', col, f', c2, sc, e, r1, r2, r3, r4, r5, r6⟩ := runsL_split l b.1 f c' (dm.length - 1) (by rw [← hn]; exact hrows) h1
  rw [e] at hsums h2
  have hsv := (Served.of_snocs (s := s') (col := col) (dm := dm) (t := dm.length - 1) (by omega) r1 (by omega)).1 (by rw [← hn, List.take_length]; exact hsums)
  have sch : Sched l (dm.take (dm.length - 1)) s' (c2 + pcostL l s') := ⟨r2, by rw [List.length_take, Nat.min_eq_left (by omega)]; exact r1, ⟨f', c2, r4, rfl⟩, hsv.1⟩
  obtain ⟨k1, k2⟩ := hB2.min hA2 s' _ sch
  have hst := runsL_states l s' f' c2 _ hU r1 r4
  have hsc := (nextL_ok l f' col f sc hU hst.1 r5).2.1
  have hcc := colCost_nn l col (fun u hu => by
    have ho := (hU u hu).oo
    refine ⟨ho.nn, fun q hq => ?_⟩
    obtain ⟨ps, hps⟩ : ∃ ps, u.2.1.2 = ps := ⟨_, rfl⟩
    have hsr := ho.srt
    have hp0 := hpos u hu
    rw [hps] at hq hsr hp0
    cases ps with
    | nil => cases hq
    | cons p ps =>
      have h0 := hp0 p rfl
      rcases List.mem_cons.1 hq with rfl | hq
      · exact h0
      · have := (List.pairwise_cons.1 hsr).1 q hq
        omega)
  rw [snocs_cost l s' col r2 r3] at h2
  have hle : b2.2.1 ≤ b.2.1 := by omega
  refine EvP.pos k1 ?_
  rw [decide_eq_true hle]
  exact EvP.ret rfl
end Go.Proofs.Ytodagcbcdkfniaa.VE
