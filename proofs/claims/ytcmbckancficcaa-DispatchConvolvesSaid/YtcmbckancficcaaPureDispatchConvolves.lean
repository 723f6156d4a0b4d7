/- The pure statement of the law DispatchConvolves; what its row says is proved behind it. -/
import Derived.Test.YtcmbckancficcaaVpDisp
namespace Go.Proofs.Ytcmbckancficcaa.VE
open Go Go.RowKit
set_option linter.unusedVariables false
attribute [local irreducible] wrap64
/-- The row's pure statement. -/
def DispatchConvolves.Pure : Prop := ∀ (a0 : List (ByteArray × List (Int × Int))) (a1 : Int), OkV BY (.list 49 (.pair .str (.list 99 (.pair (.int .i64) (.int .i64))))) a0 → OkV BY (.int .i64) a1 → ∃ k, gridhallkeep3_DispatchConvolves.f k a0 a1 = some true
theorem nn_nrm {ps : List Pc} (h : Nn ps) : Nn (nrm ps) := (nrm_SP h).nn
theorem conv_nrm {a b : List Pc} (ha : Nn a) (hb : Nn b) : conv (0, 0, nrm a) (0, 0, nrm b) = (0, 0, nrm (a ++ b)) := by
  have hab : Nn (a ++ b) := fun p hp => by
    rcases List.mem_append.1 hp with h | h
    · exact ha p h
    · exact hb p h
  have h2 : Nn (nrm a ++ nrm b) := fun p hp => by
    rcases List.mem_append.1 hp with h | h
    · exact nn_nrm ha p h
    · exact nn_nrm hb p h
  show ((0 : Int) + 0, (0 : Int) + 0, nrm (nrm a ++ nrm b)) = _
  rw [nrm_eq h2 (nrm_SP hab) (fun s => by
    rw [meas_nrm]
    unfold meas
    rw [lin_append, lin_append, lin_nrm, lin_nrm])]
  rfl
theorem dc_loop (l : List Ofr) (hn : NamedO l) (hl : l.length ≤ 4) (d n0 e0 : Int) (hB : ∃ xs, BestP l d (xs, n0, e0)) : ∀ (n : Nat) (i : Int), 0 ≤ i → (l.length : Int) - i = n → OffOk (l.take i.toNat) → EvP (fun k => gridhallkeep3_DispatchConvolves.l7 k d n0 e0 l (l.length : Int) i 0 0 (nrm (steps (l.take i.toNat)))) (fun r => r = true) := by
  intro n
  induction n with
  | zero =>
    intro i h0 h1 hO
    rw [List.take_of_length_le (by omega)] at hO ⊢
    refine EvP.step (fun k => gridhallkeep3_DispatchConvolves.l7_eq k _ _ _ _ _ _ _ _ _) (EvP.neg (by omega) (EvP.bind (at_ev (0, 0, nrm (steps l)) d) (fun w hw => ?_)))
    have hhi : hi (0, 0, nrm (steps l)) = total (steps l) := by
      show 0 + total (nrm (steps l)) = total (steps l)
      rw [total_nrm]; omega
    have htop := hO.top
    have hV : Valid (0, 0, nrm (steps l)) ∨ ¬ Valid (0, 0, nrm (steps l)) := Classical.em _
    have iw := hw.iff
    rw [hhi] at iw
    obtain ⟨xs, hB⟩ := hB
    have hall : ∀ o ∈ l, Ev (fun k => offer_Check.f k o) 0 := fun o ho => (hO o ho).1
    have valid : Valid (0, 0, nrm (steps l)) := by
      have ho : l.length * 12 ≤ 48 := by omega
      have hlen : ∀ l : List Ofr, OffOk l → (steps l).length ≤ l.length * 12 := by
        intro l
        induction l with
        | nil => intro _; simp [steps]
        | cons o l ih =>
          intro h
          have := ih h.tail
          have := (h o (by simp)).2.len
          rw [steps_cons, List.length_append, List.length_cons]; omega
      have plen : ∀ (ps acc : List Pc), (pushes acc ps).length ≤ acc.length + ps.length := by
        intro ps
        induction ps with
        | nil => intro acc; exact Nat.le_refl _
        | cons p ps ih =>
          intro acc
          have h1 := ih (push acc p)
          have h2 : (push acc p).length ≤ acc.length + 1 := by
            rcases snoc_cases acc with rfl | ⟨r, q, rfl⟩
            · rw [push_nil]; split <;> simp
            · rw [push_snoc]
              split
              · simp
              · split <;> simp
          have h3 : (pushes acc (p :: ps)).length = (pushes (push acc p) ps).length := rfl
          rw [List.length_cons]; omega
      have hnl : (nrm (steps l)).length ≤ 48 := by
        have h1 := plen (Srt.ssort bySlope (steps l)) []
        rw [(Srt.ssort_perm bySlope_swo (steps l)).length_eq] at h1
        have h2 := hlen l hO
        have h3 : (nrm (steps l)).length = (pushes [] (Srt.ssort bySlope (steps l))).length := rfl
        simp at h1
        omega
      have pmem : ∀ (ps acc : List Pc) (q : Pc), q ∈ pushes acc ps → q.2 ∈ acc.map (·.2) ∨ q.2 ∈ ps.map (·.2) := by
        intro ps
        induction ps with
        | nil => intro acc q hq; exact Or.inl (List.mem_map_of_mem hq)
        | cons p ps ih =>
          intro acc q hq
          rcases ih (push acc p) q hq with h | h
          · obtain ⟨x, hx, e⟩ := List.mem_map.1 h
            rcases push_mem hx with e' | hx
            · exact Or.inr (by rw [← e, e']; simp)
            · exact Or.inl (by rw [← e]; exact List.mem_map_of_mem hx)
          · exact Or.inr (by simp at h ⊢; exact Or.inr h)
      have hsl : ∀ q ∈ nrm (steps l), -1000000 ≤ q.2 ∧ q.2 ≤ 1000000 := fun q hq => by
        rcases pmem (Srt.ssort bySlope (steps l)) [] q hq with h | h
        · cases h
        · obtain ⟨x, hx, e⟩ := List.mem_map.1 h
          rw [← e]
          exact (hO.pr x ((Srt.ssort_perm bySlope_swo (steps l)).mem_iff.1 hx)).2
      have hsp := nrm_SP hO.nn
      have htn := total_nrm (steps l)
      have hone : ∀ (ps : List Pc), Nn ps → ∀ q ∈ ps, q.1 ≤ total ps := by
        intro ps
        induction ps with
        | nil => intro _ q hq; cases hq
        | cons p ps ih =>
          intro hn q hq
          have hn' : Nn ps := fun x hx => hn x (by simp [hx])
          have := total_nonneg ps hn'
          have := hn p (by simp)
          rw [total_cons]
          rcases List.mem_cons.1 hq with rfl | hq
          · omega
          · have := ih hn' q hq; omega
      have hlong : ∀ q ∈ nrm (steps l), q.1 ≤ 400000 := fun q hq => by
        have := hone _ hsp.nn q hq
        omega
      refine Valid.of (by show (nrm (steps l)).length ≤ 64; omega) (by show -1000000 ≤ (0 : Int) ∧ (0 : Int) ≤ 1000000; omega) ⟨hsp, fun q hq => by have := hlong q hq; omega, fun q hq => by have := hsl q hq; omega, by show (0 : Int) + total (nrm (steps l)) ≤ 1000000; omega, fun x x0 x1 => ?_⟩
      have := vAt_rng 400000 1000000 (nrm (steps l)) x (fun q hq => ⟨⟨hsp.nn q hq, hlong q hq⟩, hsl q hq⟩) x0
      show -1000000000000000 ≤ 0 + vAt (nrm (steps l)) x ∧ 0 + vAt (nrm (steps l)) x ≤ 1000000000000000
      omega
    cases hB with
    | bad _ he he' =>
      rcases he' hall (by omega) with h7 | hno
      · subst h7
        refine EvP.ite (fun _ => EvP.ite (fun _ => EvP.ret rfl) (fun _ => EvP.ret rfl)) (fun _ => EvP.ret rfl)
      · have hw0 : w.2 ≠ 0 := fun h => by have := (iw.1 h).2; exact hno ⟨this.1, by omega, this.2⟩
        refine EvP.pos (by rw [decide_eq_false he, decide_eq_false hw0]) (EvP.pos ?_ (EvP.ret rfl))
        rw [hw.zero hw0]
    | ok p _ _ _ hd h1 h2 _ =>
      have hw0 : w.2 = 0 := iw.2 ⟨valid, hd.1, hd.2.2⟩
      refine EvP.pos (by rw [decide_eq_true hw0]; rfl) (EvP.pos ?_ (EvP.ret rfl))
      rw [hw.val hw0]
      have hsp := nrm_SP hO.nn
      have hle := lin_le p (steps l)
      have key := vAt_at p (nrm (steps l)) (d - lin (ltF p) (steps l)) hsp.nn (hsp.s.imp (fun {a b} h => Int.le_of_lt h)) (by omega) (by rw [lin_nrm]; omega)
      rw [lin_nrm, lin_nrm, show lin (ltF p) (steps l) + (d - lin (ltF p) (steps l)) = d by omega] at key
      show _ = 0 + vAt (nrm (steps l)) (d - 0)
      rw [Int.sub_zero, key]; omega
  | succ n ih =>
    intro i h0 h1 hO
    have hlt : i < (l.length : Int) := by omega
    have ih' := ih (i + 1) (by omega) (by omega)
    have e : l.take (i + 1).toNat = l.take i.toNat ++ [rY1 l i] := by
      have e : (i + 1).toNat = i.toNat + 1 := by omega
      rw [e, List.take_add_one, rY1_some h0 hlt]; rfl
    rw [e] at ih'
    refine EvP.step (fun k => gridhallkeep3_DispatchConvolves.l7_eq k _ _ _ _ _ _ _ _ _) (EvP.pos hlt (EvP.pos h0 (EvP.pos hlt ?_)))
    have hof := of_ev (rY1 l i).1 (hn _ (rY1_mem h0 hlt)) (rY1 l i).2
    refine EvP.bind hof (fun r hr => EvP.ite (fun hz => ?_) (fun hz => EvP.ret rfl))
    rcases hr with ⟨hr, _⟩ | ⟨hc, ho, hV, rfl⟩
    · exact absurd hz hr
    have hO' : OffOk (l.take i.toNat ++ [rY1 l i]) := fun o ho' => by
      rcases List.mem_append.1 ho' with h | h
      · exact hO o h
      · rw [List.mem_singleton] at h; subst h; exact ⟨hc, ho⟩
    refine EvP.bind (convolve_ev (0, 0, nrm (steps (l.take i.toNat))) (0, 0, nrm (rY1 l i).2)) (fun c hc' => EvP.ite (fun hz => ?_) (fun hz => EvP.ret rfl))
    rcases hc' with ⟨hc', _⟩ | ⟨_, _, _, rfl⟩
    · exact absurd hz hc'
    rw [w64 (x := i + 1) (by omega) (by omega), conv_nrm hO.nn ho.nn]
    have es : steps (l.take i.toNat ++ [rY1 l i]) = steps (l.take i.toNat) ++ (rY1 l i).2 := by
      unfold steps
      rw [List.flatMap_append]; simp
    have := ih' hO'
    rw [es] at this
    exact this
theorem served_ev : Ev (fun k => gridhallkeep3_served.f k) true := Ev.far 100 (fun k => by kernel_rfl)
theorem Pure.DispatchConvolves : DispatchConvolves.Pure := by
  intro l d h0 h1
  apply EvP.rounds
  unfold gridhallkeep3_DispatchConvolves.f
  refine EvP.bindE served_ev (EvP.pos rfl (EvP.bindE slopes_ev (EvP.pos rfl ?_)))
  have hm := mn_le (l.length : Int) 4
  refine EvP.pos (by omega) (EvP.pos (by omega) ?_)
  have hn : NamedO (l.take (mn (l.length : Int) 4).toNat) := fun o ho => (h0.2 o (List.mem_of_mem_take ho)).1
  have hl : (l.take (mn (l.length : Int) 4).toNat).length ≤ 4 := by rw [List.length_take]; omega
  generalize l.take (mn (l.length : Int) 4).toNat = m at *
  refine EvP.bind (best_ev' m hn d) (fun r hr => ?_)
  have := dc_loop m hn hl d r.2.1 r.2.2 ⟨r.1, hr⟩ m.length 0 (by omega) (by omega) (fun o ho => (by cases ho))
  exact this
end Go.Proofs.Ytcmbckancficcaa.VE
