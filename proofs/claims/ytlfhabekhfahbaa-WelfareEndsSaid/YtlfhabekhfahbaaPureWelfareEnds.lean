/- The law WelfareEnds over numbers and lists: repeated moves end at powers without waste. -/
import Derived.Test.YtlfhabekhfahbaaLMove
import Derived.Test.YtlfhabekhfahbaaStateWelfareEnds
import Derived.Test.YtlfhabekhfahbaaPx3
import Derived.Test.YtlfhabekhfahbaaPx8
import Derived.Test.YtlfhabekhfahbaaPx9
import Derived.Test.YtlfhabekhfahbaaPx16
import Derived.Test.YtlfhabekhfahbaaPx17
import Derived.Test.YtlfhabekhfahbaaPx18
import Derived.Test.YtlfhabekhfahbaaPx19
namespace Go.Proofs.Ytlfhabekhfahbaa.P
set_option linter.unusedVariables false
open Go.RowKit Go.Proofs.YtlfhabekhfahbaaW.PrintWords Go.Proofs.YtlfhabekhfahbaaW.PrintMore Go.Proofs.Ytlfhabekhfahbaa.Opn Go.Proofs.Ytlfhabekhfahbaa.Evp
theorem ends_loop {l : List Offer} (ho : okOffers l) (hc : Ev (fun k => offer_CheckAll.f k l) 0) (h : AllOk l) {s : Int} {bs : List Int} {n : Int} (hb : Ev (fun k => dispatch_Best.f k l s) (bs, n, 0)) (hbo : BestOf l s bs n) :
    ∀ (d : Nat) (j : Int) (ps : List Int), 0 ≤ j → j ≤ 60 → 60 - j = d → InA l ps → sumI ps = s → Ev (fun k => gridhallkeep3_WelfareEnds.l0 k l (costA l ps - n) ps j) true := by
  intro d
  have hlen := h.1
  induction d with
  | zero =>
    intro j ps h0 h1 hd hin hs
    have hle := hbo.least hin hs
    refine Ev.step (fun k => by rw [gridhallkeep3_WelfareEnds.l0]) (Ev.neg (by omega) ?_)
    rw [decide_eq_true (by omega : costA l ps - n ≥ 0)]
    exact Ev.now _
  | succ d ih =>
    intro j ps h0 h1 hd hin hs
    have hle := hbo.least hin hs
    have hpl := hin.length
    have c1 := costA_bound h.v hin
    have c2 := costA_bound h.v hbo.inA
    have c3 := hbo.cost
    refine Ev.step (fun k => by rw [gridhallkeep3_WelfareEnds.l0]) (Ev.pos (by omega) ?_)
    obtain ⟨⟨f, t, b, e⟩, hr, hR⟩ := move_in ho hc h hin
    refine Ev.bind hr ?_
    rcases hR with ⟨e8, hno⟩ | ⟨e0, hp, b0, hb1, hb2⟩
    · simp only at e8
      obtain ⟨q, hq⟩ := no_move h hin hno
      have hl := earns_least (ys := bs) h.v hq hbo.inA
      rw [hbo.sum, hs] at hl
      have hz : costA l ps - n = 0 := by omega
      refine Ev.pos e8 ?_
      rw [hz]
      exact Ev.now _
    · simp only at e0 hp b0 hb1 hb2
      have hp' := hp
      obtain ⟨f0, f1, t0, t1, hne, _, _⟩ := hp'
      obtain ⟨d1, d2, d3⟩ := move_does h hin hp
      have hf := hin.at_ f0 f1
      have ht := hin.at_ t0 t1
      have vf := (h.2 (rd_T29 l f) (getD_mem f0 f1)).valid.sum
      have vt := (h.2 (rd_T29 l t) (getD_mem t0 t1)).valid.sum
      have w1 : wrap64 (rd ps f - 1) = rd ps f - 1 := w64 (by omega) (by omega)
      have w2 : wrap64 (rd ps t + 1) = rd ps t + 1 := w64 (by omega) (by omega)
      have w3 : wrap64 (costA l ps - n - b) = costA l ps - n - b := w64 (by omega) (by omega)
      have w4 : wrap64 (j + 1) = j + 1 := w64 (by omega) (by omega)
      have hsum : sumI ((ps.set f.toNat (rd ps f - 1)).set t.toNat (rd ps t + 1)) = s := by rw [d2, hs]
      have hbn : Ev (fun k => dispatch_Best.f k l (sumI ((ps.set f.toNat (rd ps f - 1)).set t.toNat (rd ps t + 1)))) (bs, n, 0) := by rw [hsum]; exact hb
      have hbon : BestOf l (sumI ((ps.set f.toNat (rd ps f - 1)).set t.toNat (rd ps t + 1))) bs n := by rw [hsum]; exact hbo
      have hw := waste_in ho hc h d1 hbn hbon
      have hcost : costA l ((ps.set f.toNat (rd ps f - 1)).set t.toNat (rd ps t + 1)) - n = costA l ps - n - b := by omega
      rw [hcost] at hw
      have hnext := ih (j + 1) _ (by omega) (by omega) (by omega) d1 hsum
      rw [hcost] at hnext
      simp only
      refine Ev.neg (by omega) (Ev.pos e0 (Ev.neg hne (Ev.neg (by omega) (Ev.neg (by omega) (Ev.neg (by omega) ?_)))))
      rw [decide_eq_false (by omega : ¬ t ≥ (ps.length : Int))]
      refine Ev.step (fun k => by rw [gridhallkeep3_WelfareEnds.j2]) (Ev.neg (by decide) (Ev.pos f0 (Ev.pos (by omega) (Ev.pos t0 (Ev.pos (by omega) ?_)))))
      rw [w1, w2, w3, w4]
      exact Ev.binds (Ev.bind hw (Ev.pos rfl (Ev.pos rfl hnext)))
theorem welfareEnds_pure : WelfareEnds.Pure := by
  intro l ps hl hps
  have ho : okOffers l := fun o h => (hl.2 o h).1
  refine Ev.rounds ?_
  unfold gridhallkeep3_WelfareEnds.f gridhallkeep3_two.f
  have t1 : Ev (fun k => welfare_Move.f k [⟨⟨#[65]⟩, [⟨10, 5⟩, ⟨10, 8⟩]⟩, ⟨⟨#[66]⟩, [⟨10, 5⟩, ⟨10, 8⟩]⟩] [12, 2]) (0, 1, 3, 0) := Ev.of (fun k => welfare_Move.mono _ _ k) (k := 40) (by decide +kernel)
  refine Ev.binds (Ev.binds (Ev.bind t1 (Ev.pos rfl (Ev.pos rfl (Ev.pos rfl ?_)))))
  refine Ev.step (fun k => by rw [gridhallkeep3_WelfareEnds.j0]) (Ev.neg (by decide) ?_)
  obtain ⟨n, s, e, hc, hcc⟩ := dcost_any l ho ps
  rcases hcc with ⟨rfl, hall, hok, hin, rfl, rfl⟩ | ⟨h1, rfl, rfl, _⟩
  · obtain ⟨bs, n, hb, hchk, hbo⟩ := best_of_sum ho hall hok hin
    have hw := waste_in ho hall hok hin hb hbo
    have hpl := hin.length
    have hlen := hok.1
    refine Ev.bind hw (Ev.pos rfl ?_)
    have hcl : slices_Clone__int_int.f ps = some ps := by
      unfold slices_Clone__int_int.f
      simp only [Option.bind_some, List.length_nil, List.nil_append]
      rw [if_pos (by omega)]
    rw [hcl]
    exact Ev.binds (ends_loop ho hall hok hb hbo 60 0 ps (by omega) (by omega) (by omega) hin rfl)
  · have hw : Ev (fun k => welfare_Waste.f k l ps) (0, e) := by
      unfold welfare_Waste.f
      exact Ev.bind hc (Ev.neg h1 (Ev.now _))
    exact Ev.bind hw (Ev.neg h1 (Ev.now _))
end Go.Proofs.Ytlfhabekhfahbaa.P
namespace Go.Proofs.Ytlfhabekhfahbaa.Pure
open Go.Proofs.Ytlfhabekhfahbaa.P
theorem WelfareEnds : WelfareEnds.Pure := welfareEnds_pure
end Go.Proofs.Ytlfhabekhfahbaa.Pure
