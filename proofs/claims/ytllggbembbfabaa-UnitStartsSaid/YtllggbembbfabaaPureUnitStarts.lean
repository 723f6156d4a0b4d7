/- The law UnitStarts over numbers and lists: the costs of a schedule are Start for each time at which it changes from off to on. -/
import Derived.Test.YtllggbembbfabaaLUnitRun
import Derived.Test.YtllggbembbfabaaStateUnitStarts
import Derived.Test.YtllggbembbfabaaPx27
namespace Go.Proofs.Ytllggbembbfabaa.P
set_option linter.unusedVariables false
open Go.RowKit Go.Proofs.YtllggbembbfabaaW.PrintWords Go.Proofs.YtllggbembbfabaaW.PrintMore Go.Proofs.Ytllggbembbfabaa.Opn Go.Proofs.Ytllggbembbfabaa.Evp
theorem starts_loop {nm : ByteArray} {le mo up dn mon moff st : Int} (hst : 0 ≤ st ∧ st ≤ 1000000) (l : List UState) (hl : l.length ≤ 24) (total : Int) : ∀ (d : Nat) (i n : Int) (o : Bool) (t q c : Int) (qs : List Int), 0 ≤ i → i ≤ (l.length : Int) → (l.length : Int) - i = d →
    runU le mo up dn mon moff st o t q qs = (l.drop i.toNat, c, 0) → 0 ≤ n → n ≤ i → total = n * st + c →
    Ev (fun k => gridhallkeep3_UnitStarts.l0 k total n o l (l.length : Int) i nm le mo up dn mon moff st) true := by
  intro d
  induction d with
  | zero =>
    intro i n o t q c qs h0 h1 hd hr hn0 hn1 ht
    refine Ev.step (fun k => by rw [gridhallkeep3_UnitStarts.l0]) ?_
    refine Ev.neg (by omega) ?_
    rw [drop_end (by omega)] at hr
    have hc : c = 0 := by
      cases qs with
      | nil => simp only [runU, Prod.mk.injEq] at hr; exact hr.2.1.symm
      | cons p qs =>
        obtain ⟨x, l', _, _, _, _, hx, _⟩ := runU_cons hr
        cases hx
    have hm := mul_abs (a := n) (b := st) (A := 24) (B := 1000000) (by omega) (by omega) (by omega) (by omega)
    rw [w64 (by omega) (by omega)]
    have : (total == n * st) = true := by simp; omega
    rw [this]
    exact Ev.now _
  | succ d ih =>
    intro i n o t q c qs h0 h1 hd hr hn0 hn1 ht
    refine Ev.step (fun k => by rw [gridhallkeep3_UnitStarts.l0]) ?_
    refine Ev.pos (by omega) (Ev.pos h0 (Ev.pos (by omega) ?_))
    have hdr := dropU (l := l) h0 (by omega)
    rw [hdr] at hr
    cases qs with
    | nil => simp [runU] at hr
    | cons p qs =>
      obtain ⟨x, l', c0, c', hn, hr', hx, hcc⟩ := runU_cons hr
      simp only [List.cons.injEq] at hx
      obtain ⟨hx, hl'⟩ := hx
      rw [hx]
      rw [← hl'] at hr'
      have hc := nextU_cases hn
      rw [w64 (x := i + 1) (by omega) (by omega), w64 (x := n + 1) (by omega) (by omega)]
      refine Ev.ite (fun h => Ev.ite (fun ho => ?_) (fun ho => ?_)) (fun h => ?_)
      · refine ih (i + 1) n x.f0 x.f1 x.f2 c' qs (by omega) (by omega) (by omega) hr' (by omega) (by omega) ?_
        rcases hc with g | g | g
        · omega
        · omega
        · rw [ho] at g; cases g.1
      · refine ih (i + 1) (n + 1) x.f0 x.f1 x.f2 c' qs (by omega) (by omega) (by omega) hr' (by omega) (by omega) ?_
        rw [Int.add_mul]
        rcases hc with g | g | g
        · rw [h] at g; exact absurd g.1.symm ho
        · exact absurd g.1 ho
        · omega
      · refine ih (i + 1) n x.f0 x.f1 x.f2 c' qs (by omega) (by omega) (by omega) hr' (by omega) (by omega) ?_
        rcases hc with g | g | g
        · omega
        · omega
        · exact absurd g.2.2.2.1 h
theorem unitStarts_pure : UnitStarts.Pure := by
  intro r s ps hr _ _
  refine Ev.rounds ?_
  unfold gridhallkeep3_UnitStarts.f
  refine Ev.bind waits_ev (Ev.pos rfl ?_)
  obtain ⟨l, c, e, he, h⟩ := run_any hr.1 r.f1 r.f2 r.f3 r.f4 r.f5 r.f6 r.f7 s.f0 s.f1 s.f2 ps
  refine Ev.bind he ?_
  rcases h with ⟨h1, rfl, rfl⟩ | ⟨h1, hn, hro, hst, hl, hrun⟩
  · exact Ev.neg h1 (Ev.now _)
  · refine Ev.pos h1 ?_
    have hlen := runU_length hrun
    unfold RuleOk at hro
    exact starts_loop (by omega) l (by omega) c l.length 0 0 s.f0 s.f1 s.f2 c ps (by omega) (by omega) (by omega) (by simpa using hrun) (by omega) (by omega) (by omega)
end Go.Proofs.Ytllggbembbfabaa.P
namespace Go.Proofs.Ytllggbembbfabaa.Pure
open Go.Proofs.Ytllggbembbfabaa.P
theorem UnitStarts : UnitStarts.Pure := unitStarts_pure
end Go.Proofs.Ytllggbembbfabaa.Pure
