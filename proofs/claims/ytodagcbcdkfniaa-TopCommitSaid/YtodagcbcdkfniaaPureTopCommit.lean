/- The pure statement of the law TopCommit; what its row says is proved behind it. -/
import Derived.Test.YtodagcbcdkfniaaVpCA
namespace Go.Proofs.Ytodagcbcdkfniaa.VE
open Go Go.RowKit
set_option linter.unusedVariables false
attribute [local irreducible] wrap64
/-- The row's pure statement. -/
def TopCommit.Pure : Prop := ∀ (a0 : List ((ByteArray × Int × Int × Int × Int × Int × Int × Int) × (ByteArray × List (Int × Int)) × Bool × Int × Int)) (a1 : List Int) (a2 : List Int), OkV BY (.list 33 (.pair (.pair .str (.pair (.int .i64) (.pair (.int .i64) (.pair (.int .i64) (.pair (.int .i64) (.pair (.int .i64) (.pair (.int .i64) (.int .i64)))))))) (.pair (.pair .str (.list 72 (.pair (.int .i64) (.int .i64)))) (.pair .bool (.pair (.int .i64) (.int .i64)))))) a0 → OkV BY (.list 3 (.int .i64)) a1 → OkV BY (.list 3 (.int .i64)) a2 → ∃ k, gridhalltop_TopCommit.f k a0 a1 a2 = some true
theorem two_ev : Ev (fun k => gridhalltop_bTwo.f k (ByteArray.mk #[65])) (ByteArray.mk #[65], [(10, 5), (10, 8)]) := Ev.far 1 (fun k => by kernel_rfl)
theorem alone_best : Ev (fun k => commit_Best.f k [aloneU] [12, 0]) ([[12, -1]], 75, 0) := Ev.far 60 (fun k => by kernel_rfl)
theorem alone_bound : Ev (fun k => dual_Bound.f k [aloneU] [12] [5]) (60, 0) := Ev.far 60 (fun k => by kernel_rfl)
theorem alone_run : Ev (fun k => unit_Run.f k (ByteArray.mk #[65], 0, 20, 20, 20, 1, 1, 9) (false, 5, 0) [12]) ([(true, 1, 12)], 9, 0) := Ev.far 20 (fun k => by kernel_rfl)
theorem alone_serve : Ev (fun k => commit_Serve.f k [aloneU] [true] 12) ([12], 66, 0) := Ev.far 60 (fun k => by kernel_rfl)
theorem cserve_ev {l : List Un} {dm : List Int} (hA : AllU l dm) {on : List Bool} (hon : on.length = l.length) {d : Int} (hd : d ∈ dm) {r : SvR} (hr : Ev (fun k => commit_serve.f k l on d) r) (hz : r.2.2 = true) : Ev (fun k => commit_Serve.f k l on d) (r.1, r.2.1, 0) := by
  unfold commit_Serve.f
  refine Ev.bind (hA.any [d] (by simp) (fun x hx => by rw [List.mem_singleton.1 hx]; exact hA.dms d hd)) (Ev.pos rfl (Ev.pos (by omega) (Ev.bind hr (Ev.pos hz (Ev.now _)))))
theorem colAt_len (s : List (List Int)) (t : Nat) : (colAt s t).length = s.length := by unfold colAt; rw [List.length_map]
theorem top_l37 {l : List Un} {dm : List Int} (hl : l.length ≤ 3) (s : List (List Int)) (hsl : s.length = l.length) (hr : RowsLen s dm.length) (n0 v : Int) (t : Nat) (ht : t < dm.length) (hdl : dm.length ≤ 8) (d : Int) (R : Bool → Prop) (cont : EvP (fun k => (commit_Serve.f k l ((colAt s t).map fun x => decide (0 ≤ x)) d).bind fun r9 => if r9.2.2 = 0 then gridhalltop_TopCommit.l33 k l s n0 (wrap64 (v + r9.2.1)) dm (dm.length : Int) (wrap64 ((t : Int) + 1)) else some false) R) : ∀ (n : Nat) (i : Int) (acc : List Bool), 0 ≤ i → (l.length : Int) - i = n → acc.length ≤ i.toNat → acc ++ ((colAt (s.drop i.toNat) t).map fun x => decide (0 ≤ x)) = ((colAt s t).map fun x => decide (0 ≤ x)) → EvP (fun k => gridhalltop_TopCommit.l37 k l s n0 v (t : Int) d dm (dm.length : Int) (t : Int) (l.length : Int) i acc) R := by
  intro n
  induction n with
  | zero =>
    intro i acc h0 h1 ha he
    rw [drop_end (by omega)] at he
    have he : acc ++ [] = ((colAt s t).map fun x => decide (0 ≤ x)) := he
    rw [List.append_nil] at he
    refine EvP.step (fun k => gridhalltop_TopCommit.l37_eq k _ _ _ _ _ _ _ _ _ _ _ _) (EvP.neg (by omega) ?_)
    rw [he]
    exact cont
  | succ n ih =>
    intro i acc h0 h1 ha he
    have hls : i < (s.length : Int) := by omega
    have hsr : s.drop i.toNat = rd (.list 3 (.int .i64)) s i :: s.drop (i + 1).toNat := drop_rd (t := .list 3 (.int .i64)) (xs := s) h0 hls
    have hm : rd (.list 3 (.int .i64)) s i ∈ s := rd_mem (t := .list 3 (.int .i64)) (xs := s) h0 hls
    have hrl := hr _ hm
    have hlt' : (t : Int) < ((rd (.list 3 (.int .i64)) s i).length : Int) := by rw [hrl]; omega
    rw [hsr] at he
    refine EvP.step (fun k => gridhalltop_TopCommit.l37_eq k _ _ _ _ _ _ _ _ _ _ _ _) (EvP.pos (by omega) (EvP.pos h0 (EvP.pos hls (EvP.pos (by omega) (EvP.pos hlt' (EvP.pos (by rw [List.length_singleton]; omega) ?_))))))
    rw [w64 (x := i + 1) (by omega) (by omega)]
    refine ih (i + 1) _ (by omega) (by omega) (by rw [List.length_append, List.length_singleton]; omega) ?_
    rw [List.append_assoc]
    exact he
theorem top_l33 {l : List Un} {dm : List Int} (hA : AllU l dm) (s : List (List Int)) (hsl : s.length = l.length) (hr : RowsLen s dm.length) (hc : ColsServed l s dm) (hcol : ∀ t, -3600000000000 ≤ colCost l (colAt s t) ∧ colCost l (colAt s t) ≤ 3600000000000) (n0 v0 : Int) (hv : 0 ≤ v0 ∧ v0 ≤ 1000000000) (he : v0 + sumN (fun t => colCost l (colAt s t)) dm.length = n0) : ∀ (n t : Nat) (v : Int), dm.length - t = n → t ≤ dm.length → v = v0 + sumN (fun t => colCost l (colAt s t)) t → -3600000000000 * (t : Int) ≤ v → v ≤ 1000000000 + 3600000000000 * (t : Int) → EvP (fun k => gridhalltop_TopCommit.l33 k l s n0 v dm (dm.length : Int) (t : Int)) (fun r => r = true) := by
  have hl := hA.len
  have hdl := hA.dlen
  intro n
  induction n with
  | zero =>
    intro t v hn ht hvv v1 v2
    obtain rfl : t = dm.length := by omega
    refine EvP.step (fun k => gridhalltop_TopCommit.l33_eq k _ _ _ _ _ _ _) (EvP.neg (by omega) (EvP.ret ?_))
    rw [decide_eq_true (by omega)]
  | succ n ih =>
    intro t v hn ht hvv v1 v2
    have hts := rI64_some (xs := dm) (i := (t : Int)) (by omega) (by omega)
    rw [show ((t : Int)).toNat = t by omega] at hts
    obtain ⟨r, g1, g2, g3⟩ := hc t _ hts
    have k := cserve_ev hA (on := (colAt s t).map fun x => decide (0 ≤ x)) (by rw [List.length_map, colAt_len]; exact hsl) (List.mem_of_getElem? hts) g1 g2
    have hb := hcol t
    refine EvP.step (fun k => gridhalltop_TopCommit.l33_eq k _ _ _ _ _ _ _) (EvP.pos (by omega) (EvP.pos (by omega) (EvP.pos (by omega) ?_)))
    refine top_l37 hl s hsl hr n0 v t (by omega) hdl _ _ ?_ l.length 0 [] (by omega) (by omega) (by simp) (by rw [show (0 : Int).toNat = 0 from rfl, List.drop_zero, List.nil_append])
    refine EvP.bindE k (EvP.pos rfl ?_)
    show EvP (fun k => gridhalltop_TopCommit.l33 k l s n0 (wrap64 (v + r.2.1)) dm (dm.length : Int) (wrap64 ((t : Int) + 1))) _
    rw [w64 (x := (t : Int) + 1) (by omega) (by omega), w64 (x := v + r.2.1) (by omega) (by omega), show (t : Int) + 1 = ((t + 1 : Nat) : Int) by omega]
    refine ih (t + 1) _ (by omega) (by omega) ?_ (by omega) (by omega)
    rw [sumN_snoc, hvv, g3]
    omega
theorem top_l22 {l : List Un} {dm : List Int} (hA : AllU l dm) (s : List (List Int)) (hsl : s.length = l.length) (hr : RowsLen s dm.length) (n0 : Int) (R : Bool → Prop) (cont : ∀ v, (∃ f, RunsL l s f v) → EvP (fun k => gridhalltop_TopCommit.l33 k l s n0 v dm (dm.length : Int) 0) R) (f0 : List Us) (c0 : Int) (hrun : RunsL l s f0 c0) : ∀ (n : Nat) (i v : Int) (f : List Us) (c : Int), 0 ≤ i → (l.length : Int) - i = n → RunsL (l.drop i.toNat) (s.drop i.toNat) f c → v + c = c0 → 0 ≤ v → v ≤ 8000000 * i → EvP (fun k => gridhalltop_TopCommit.l22 k l dm s n0 v l (l.length : Int) i) R := by
  have hl := hA.len
  have hdl := hA.dlen
  have hU : UnitsOk l := hA.ok
  intro n
  induction n with
  | zero =>
    intro i v f c h0 h1 hh he v0 v1
    rw [drop_end (xs := l) (by omega), drop_end (xs := s) (by omega)] at hh
    have hc : c = 0 := by
      cases f with
      | nil => exact hh
      | cons _ _ => exact hh.elim
    have : v = c0 := by omega
    subst this
    exact EvP.step (fun k => gridhalltop_TopCommit.l22_eq k _ _ _ _ _ _ _ _) (EvP.neg (by omega) (cont v ⟨f0, hrun⟩))
  | succ n ih =>
    intro i v f c h0 h1 hh he v0 v1
    have hlt : i < (l.length : Int) := by omega
    have hls : i < (s.length : Int) := by omega
    have hu := hU _ (rY10_mem h0 hlt)
    have hsr : s.drop i.toNat = rd (.list 3 (.int .i64)) s i :: s.drop (i + 1).toNat := drop_rd (t := .list 3 (.int .i64)) (xs := s) h0 hls
    have hm : rd (.list 3 (.int .i64)) s i ∈ s := rd_mem (t := .list 3 (.int .i64)) (xs := s) h0 hls
    have hrl := hr _ hm
    rw [rY10_drop h0 hlt, hsr] at hh
    cases f with
    | nil => exact hh.elim
    | cons q f =>
      obtain ⟨c1, c2, g1, g2, g3⟩ := hh
      obtain ⟨r, k1, k2⟩ := urun_ev hu (rd (.list 3 (.int .i64)) s i) (by
        show (rd (.list 3 (.int .i64)) s i).length ≤ 24
        rw [hrl]; omega)
      rw [g1] at k2
      have k2 : r.2 = (c1, 0) := k2.1
      have kk := run_ok hu.rule dm.length _ hrl hu.st q c1 g1
      refine EvP.step (fun k => gridhalltop_TopCommit.l22_eq k _ _ _ _ _ _ _ _) (EvP.pos hlt (EvP.pos h0 (EvP.pos hlt (EvP.neg (by omega) (EvP.pos h0 (EvP.pos hls (EvP.pos (by
        show ((rd (.list 3 (.int .i64)) s i).length : Int) = _
        rw [hrl]) (EvP.pos h0 (EvP.pos hls (EvP.bindE k1 ?_))))))))))
      rw [k2]
      refine EvP.pos rfl ?_
      show EvP (fun k => gridhalltop_TopCommit.l22 k l dm s n0 (wrap64 (v + c1)) l (l.length : Int) (wrap64 (i + 1))) R
      rw [w64 (x := i + 1) (by omega) (by omega), w64 (x := v + c1) (by omega) (by omega)]
      exact ih (i + 1) _ f c2 (by omega) (by omega) g2 (by omega) (by omega) (by omega)
theorem Pure.TopCommit : TopCommit.Pure := by
  intro l dm p hl _ _
  have hs : SzL l := fun u hu => by
    have := hl.2 u hu
    exact ⟨this.1.1, this.2.1.1⟩
  refine EvP.rounds ?_
  unfold gridhalltop_TopCommit.f
  refine EvP.bindE two_ev (EvP.bindE alone_best (EvP.pos rfl (EvP.pos rfl (EvP.bindE alone_bound (EvP.pos rfl (EvP.pos rfl (EvP.bindE alone_run (EvP.pos rfl (EvP.pos rfl (EvP.pos rfl (EvP.bindE alone_serve (EvP.pos rfl (EvP.pos rfl (EvP.pos rfl ?_))))))))))))))
  obtain ⟨b, hb, hB⟩ := cbest_ev l hs dm
  obtain ⟨d, hd, hD⟩ := bound_ev l hs dm p
  refine EvP.bindE hb (EvP.bindE hd (EvP.ite (fun hz => ?_) (fun hz => EvP.ret ?_)))
  · have hA := hB.all hz
    have hU : UnitsOk l := hA.ok
    have hS := hB.good hz
    have hC := hB.cols hz
    have hl3 := hA.len
    have hd8 := hA.dlen
    have hrows := hS.rows
    obtain ⟨f, c, h1, h2⟩ := hS.run
    have hcol : ∀ t, -3600000000000 ≤ colCost l (colAt b.1 t) ∧ colCost l (colAt b.1 t) ≤ 3600000000000 := by
      intro t
      have aux : ∀ (l : List Un) (xs : List Int), UnitsOk l → (∀ (m : Nat) u x, l[m]? = some u → xs[m]? = some x → x = -1 ∨ u.1.2.1 ≤ x ∧ x ≤ u.1.2.2.1 ∨ x = 0) → -(1200000000000 * (l.length : Int)) ≤ colCost l xs ∧ colCost l xs ≤ 1200000000000 * (l.length : Int) := by
        intro l
        induction l with
        | nil => intro xs _ _; simp [colCost]
        | cons u l ih =>
          intro xs hU hx
          rw [List.length_cons]
          cases xs with
          | nil =>
            show -(1200000000000 * _) ≤ (0 : Int) ∧ (0 : Int) ≤ _
            omega
          | cons x xs =>
            have i1 := ih xs hU.tail (fun m u x h1 h2 => hx (m + 1) u x (by simpa using h1) (by simpa using h2))
            have hu := hU u (by simp)
            have h0 := hx 0 u x rfl rfl
            have hm := mx_ge x 0
            have c2 := hu.oo.cost_rng (d := mx x 0) (by omega)
            show -(1200000000000 * _) ≤ vAt u.2.1.2 (mx x 0) + colCost l xs ∧ vAt u.2.1.2 (mx x 0) + colCost l xs ≤ _
            omega
      have := aux l (colAt b.1 t) hU (fun m u x hu hx => by
        have : ∀ (l : List Un) (s : List (List Int)) (f : List Us) (c : Int) (T : Nat), UnitsOk l → RowsLen s T → RunsL l s f c → ∀ (m : Nat) u x, l[m]? = some u → (colAt s t)[m]? = some x → x = -1 ∨ u.1.2.1 ≤ x ∧ x ≤ u.1.2.2.1 ∨ x = 0 := by
          intro l
          induction l with
          | nil => intro s f c T _ _ _ m u x h _; simp at h
          | cons u l ih =>
            intro s f c T hU hr hh m v x h1 h2
            cases s with
            | nil => simp [colAt] at h2
            | cons ps s =>
              cases f with
              | nil => exact hh.elim
              | cons q f =>
                obtain ⟨c1, c2, g1, g2, g3⟩ := hh
                cases m with
                | zero =>
                  simp only [List.getElem?_cons_zero, Option.some.injEq] at h1
                  subst h1
                  have h2 : some (ps.getD t 0) = some x := h2
                  have h2 := Option.some.inj h2
                  by_cases ht : t < ps.length
                  · have hxm : x ∈ ps := by
                      rw [← h2, List.getD_eq_getElem?_getD, List.getElem?_eq_getElem ht]
                      exact List.getElem_mem ht
                    have := run_vals (hU u (by simp)) ps.length ps q c1 rfl g1 x hxm
                    omega
                  · rw [List.getD_eq_getElem?_getD, List.getElem?_eq_none (by omega)] at h2
                    exact Or.inr (Or.inr h2.symm)
                | succ m => exact ih s f c2 T hU.tail hr.tail g2 m v x (by simpa using h1) (by simpa [colAt] using h2)
        exact this l b.1 f c dm.length hU hrows h1 m u x hu hx)
      omega
    have hps := pcost_sumN dm.length l b.1 hS.len hrows
    have go : EvP (fun k => gridhalltop_TopCommit.l22 k l dm b.1 b.2.1 0 l (l.length : Int) 0) (fun r => r = true) := by
      refine top_l22 hA b.1 hS.len hrows b.2.1 _ (fun v hv => ?_) f c h1 l.length 0 0 f c (by omega) (by omega) (by rw [show (0 : Int).toNat = 0 from rfl, List.drop_zero, List.drop_zero]; exact h1) (by omega) (by omega) (by omega)
      obtain ⟨f', hv⟩ := hv
      have e := RunsL.det h1 hv
      have hcb : 0 ≤ c ∧ c ≤ 1000000000 := by
        have aux : ∀ (l : List Un) (s : List (List Int)) (f : List Us) (c : Int), UnitsOk l → RowsLen s dm.length → RunsL l s f c → 0 ≤ c ∧ c ≤ 8000000 * (l.length : Int) := by
          intro l
          induction l with
          | nil =>
            intro s f c _ _ hh
            cases s with
            | nil => cases f with
              | nil => have hh : c = 0 := hh; subst hh; exact ⟨Int.le_refl _, Int.le_refl _⟩
              | cons _ _ => exact hh.elim
            | cons _ _ => exact hh.elim
          | cons u l ih =>
            intro s f c hU hr hh
            cases s with
            | nil => exact hh.elim
            | cons ps s =>
              cases f with
              | nil => exact hh.elim
              | cons q f =>
                obtain ⟨c1, c2, g1, g2, g3⟩ := hh
                have i1 := ih s f c2 hU.tail hr.tail g2
                have hu := hU u (by simp)
                have kk := run_ok hu.rule dm.length ps (hr ps (by simp)) hu.st q c1 g1
                rw [List.length_cons]
                omega
        have := aux l b.1 f c hU hrows h1
        omega
      exact top_l33 hA b.1 hS.len hrows hC hcol b.2.1 v (by omega) (by omega) dm.length 0 v (by omega) (by omega) (by show v = v + 0; omega) (by omega) (by omega)
    refine EvP.ite (fun hz2 => EvP.neg ?_ go) (fun _ => go)
    have := bound_le hD hz2 hS
    omega
  · rw [(hB.bad hz).1]
    exact decide_eq_true rfl
end Go.Proofs.Ytodagcbcdkfniaa.VE
