/- The law UnitStays over numbers and lists: a generator that has started stays on for MinOn periods, and one that has stopped stays off for MinOff periods. -/
import Derived.Test.YtllggbembbfabaaLUnitRun
import Derived.Test.YtllggbembbfabaaStateUnitStays
import Derived.Test.YtllggbembbfabaaPx26
namespace Go.Proofs.Ytllggbembbfabaa.P
set_option linter.unusedVariables false
open Go.RowKit Go.Proofs.YtllggbembbfabaaW.PrintWords Go.Proofs.YtllggbembbfabaaW.PrintMore Go.Proofs.Ytllggbembbfabaa.Opn Go.Proofs.Ytllggbembbfabaa.Evp
theorem stays_loop {nm : ByteArray} {le mo up dn mon moff st : Int} (ps : List Int) (l : List UState) (hl : l.length ≤ 24) (hps : l.length = ps.length) : ∀ (d : Nat) (i since : Int) (o : Bool) (t q c : Int) (qs : List Int), 0 ≤ i → i ≤ (l.length : Int) → (l.length : Int) - i = d →
    runU le mo up dn mon moff st o t q qs = (l.drop i.toNat, c, 0) → (since ≥ 0 → since ≤ i ∧ t = i - since) →
    Ev (fun k => gridhallkeep3_UnitStays.l0 k ps l o since l (l.length : Int) i nm le mo up dn mon moff st) true := by
  intro d
  induction d with
  | zero =>
    intro i since o t q c qs h0 h1 hd hr hs
    refine Ev.step (fun k => by rw [gridhallkeep3_UnitStays.l0]) ?_
    refine Ev.neg (by omega) ?_
    rw [hps]
    simp only [BEq.rfl]
    exact Ev.now _
  | succ d ih =>
    intro i since o t q c qs h0 h1 hd hr hs
    refine Ev.step (fun k => by rw [gridhallkeep3_UnitStays.l0]) ?_
    refine Ev.pos (by omega) (Ev.pos h0 (Ev.pos (by omega) ?_))
    have hdr := dropU (l := l) h0 (by omega)
    rw [hdr] at hr
    cases qs with
    | nil => simp [runU] at hr
    | cons p qs =>
      obtain ⟨x, l', c0, c', hn, hr', hx, _⟩ := runU_cons hr
      simp only [List.cons.injEq] at hx
      obtain ⟨hx, hl'⟩ := hx
      rw [hx]
      rw [← hl'] at hr'
      have hc := nextU_cases hn
      rw [w64 (x := i + 1) (by omega) (by omega)]
      have go1 : x.f0 ≠ o → Ev (fun k => gridhallkeep3_UnitStays.l0 k ps l x.f0 i l (l.length : Int) (i + 1) nm le mo up dn mon moff st) true := fun hne => by
        refine ih (i + 1) i x.f0 x.f1 x.f2 c' qs (by omega) (by omega) (by omega) hr' (fun _ => ⟨by omega, ?_⟩)
        rcases hc with h | h | h
        · exact absurd h.1 hne
        · omega
        · omega
      refine Ev.ite (fun cne => ?_) (fun cne => ?_)
      · have hne : x.f0 ≠ o := by simpa using cne
        refine Ev.ite (fun ho => Ev.ite (fun hs0 => ?_) (fun _ => go1 hne)) (fun ho => Ev.ite (fun hs0 => ?_) (fun _ => go1 hne))
        · have h2 := hs hs0
          rw [w64 (x := i - since) (by omega) (by omega)]
          refine Ev.neg ?_ (go1 hne)
          rcases hc with h | h | h
          · exact absurd h.1 hne
          · omega
          · rw [ho] at h; cases h.1
        · have h2 := hs hs0
          rw [w64 (x := i - since) (by omega) (by omega)]
          refine Ev.neg ?_ (go1 hne)
          rcases hc with h | h | h
          · exact absurd h.1 hne
          · exact absurd h.1 ho
          · omega
      · have he : x.f0 = o := by simpa using cne
        rw [he] at hr'
        refine ih (i + 1) since o x.f1 x.f2 c' qs (by omega) (by omega) (by omega) hr' (fun hs0 => ?_)
        have h2 := hs hs0
        rcases hc with h | h | h
        · have h3 := h.2.1
          unfold mn at h3
          rw [if_neg (by omega)] at h3
          omega
        · rw [he, h.1] at h; exact absurd h.2.2.2.1 (by simp)
        · rw [he, h.1] at h; exact absurd h.2.2.2.1 (by simp)
theorem unitStays_pure : UnitStays.Pure := by
  intro r s ps hr _ _
  refine Ev.rounds ?_
  unfold gridhallkeep3_UnitStays.f
  refine Ev.bind waits_ev (Ev.pos rfl ?_)
  obtain ⟨l, c, e, he, h⟩ := run_any hr.1 r.f1 r.f2 r.f3 r.f4 r.f5 r.f6 r.f7 s.f0 s.f1 s.f2 ps
  refine Ev.bind he ?_
  rcases h with ⟨h1, rfl, rfl⟩ | ⟨h1, hn, hro, hst, hl, hrun⟩
  · exact Ev.neg h1 (Ev.now _)
  · refine Ev.pos h1 ?_
    have hlen := runU_length hrun
    exact stays_loop ps l (by omega) hlen l.length 0 (-1) s.f0 s.f1 s.f2 c ps (by omega) (by omega) (by omega) (by simpa using hrun) (fun h => by omega)
end Go.Proofs.Ytllggbembbfabaa.P
namespace Go.Proofs.Ytllggbembbfabaa.Pure
open Go.Proofs.Ytllggbembbfabaa.P
theorem UnitStays : UnitStays.Pure := unitStays_pure
end Go.Proofs.Ytllggbembbfabaa.Pure
