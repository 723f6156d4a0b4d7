/- The plain functions of the sort meet the plain equations (lemmas; no statement is proved here). -/
import Derived.Test.YtamgbcgfjhpedaaDoorVpSortN
namespace Go.Proofs.YtamgbcgfjhpedaaDoor.Srt
open Go Go.RowKit Go.Proofs.YtamgbcgfjhpedaaDoor.VE
set_option linter.unusedVariables false
attribute [local irreducible] wrap64
section
variable {α σ ρ χ : Type} {N : NSys α σ ρ χ} {s : σ}
theorem one_le : (0 : Int) ≤ 1 := by decide
theorem at_eqs (E : NEqs N) (hc : ∀ k a b r, N.cmp k a b s = some r → N.cs r = s) : Eqs (N.at s) where
  i0 := fun k x0 x1 x2 x8 => by
    show (N.il1 (k + 1) x1 x2 x8 x0 s).map N.fst = _
    rw [E.il1, map_ite']
    exact ite_both (fun _ => rfl) (fun _ => by rw [Option.map_some, E.e1])
  i1 := fun k x0 x1 x2 x8 x9 => by
    show (N.il4 (k + 1) x1 x2 x8 x9 x0 s).map N.fst = _
    rw [E.il4, map_ite']
    refine ite_both (fun c1 => ?_) (fun _ => rfl)
    rw [map_ite']; refine ite_both (fun c2 => ?_) (fun _ => rfl)
    rw [map_ite']; refine ite_both (fun c3 => ?_) (fun _ => rfl)
    rw [map_ite']; refine ite_both (fun c4 => ?_) (fun _ => rfl)
    rw [map_ite']; refine ite_both (fun c5 => ?_) (fun _ => rfl)
    refine map_bind_c (q := N.cs) (fun r hr => hc _ _ _ _ hr) (fun r hr => ?_)
    rw [map_ite']; refine ite_both (fun _ => ?_) (fun _ => by rw [hr]; rfl)
    rw [if_pos c4, if_pos c5, if_pos c2, if_pos c3, if_pos c2, if_pos c3, if_pos c4, if_pos (by rw [List.length_set]; exact c5), hr]
    rfl
  w0 := fun k x0 x1 x2 x3 x10 => by
    show (N.wl1 (k + 1) x1 x2 x3 x10 x0 s).map N.fst = _
    rw [E.wl1, map_ite']
    refine ite_both (fun c1 => ?_) (fun _ => by rw [Option.map_some, E.e1])
    rw [map_ite']; refine ite_both (fun c2 => ?_) (fun _ => rfl)
    rw [map_ite']; refine ite_both (fun c3 => ?_) (fun _ => rfl)
    rw [map_ite']; refine ite_both (fun c4 => ?_) (fun _ => rfl)
    rw [map_ite']; refine ite_both (fun c5 => ?_) (fun _ => rfl)
    rw [if_pos c4, if_pos c5, if_pos c2, if_pos (by rw [List.length_set]; exact c3)]
    rfl
  r0 := fun k x0 x2 x10 x11 => by
    show (N.rl2 (k + 1) x2 x10 x11 x0 s).map N.fst = _
    rw [E.rl2, map_ite']
    have hw : ∀ x1 x2 x3 x10 xs r, N.wl1 k x1 x2 x3 x10 xs s = some r → N.snd r = s := (stays E hc k).wl1
    refine ite_both (fun c1 => ?_) (fun _ => ?_)
    · exact map_bind_st (q := N.snd) (fun r hr => hw _ _ _ _ _ _ hr) (fun r hr => rfl)
    · rw [map_ite']; refine ite_both (fun c2 => ?_) (fun _ => ?_)
      · exact map_bind_st (q := N.snd) (fun r hr => hw _ _ _ _ _ _ hr) (fun r hr => by rw [hr]; rfl)
      · exact map_bind_st (q := N.snd) (fun r hr => hw _ _ _ _ _ _ hr) (fun r hr => by rw [hr]; rfl)
  m0 := fun k x0 x1 x10 x11 => by
    show (N.ml3 (k + 1) x1 x10 x11 x0 s).map N.fst = _
    rw [E.ml3, map_ite']
    refine ite_both (fun c1 => ?_) (fun _ => rfl)
    rw [if_pos one_le]
    simp only [halfN_eq]
    rw [map_ite']; refine ite_both (fun c2 => ?_) (fun _ => rfl)
    rw [map_ite']; refine ite_both (fun c3 => ?_) (fun _ => rfl)
    rw [map_ite']; refine ite_both (fun c4 => ?_) (fun _ => rfl)
    rw [map_ite']; refine ite_both (fun c5 => ?_) (fun _ => rfl)
    refine map_bind_c (q := N.cs) (fun r hr => hc _ _ _ _ hr) (fun r hr => ?_)
    rw [map_ite']; exact ite_both (fun _ => by rw [hr]; rfl) (fun _ => by rw [hr]; rfl)
  m1 := fun k x0 x10 x13 => by
    show (N.ml9 (k + 1) x10 x13 x0 s).map N.fst = _
    rw [E.ml9, map_ite']
    refine ite_both (fun c1 => ?_) (fun _ => by rw [Option.map_some, E.e1])
    rw [map_ite']; refine ite_both (fun c2 => ?_) (fun _ => rfl)
    rw [map_ite']; refine ite_both (fun c3 => ?_) (fun _ => rfl)
    rw [map_ite']; refine ite_both (fun c4 => ?_) (fun _ => rfl)
    rw [map_ite']; refine ite_both (fun c5 => ?_) (fun _ => rfl)
    rw [if_pos c4, if_pos c5, if_pos c2, if_pos (by rw [List.length_set]; exact c3)]
    rfl
  m2 := fun k x0 x2 x14 x15 => by
    show (N.ml15 (k + 1) x2 x14 x15 x0 s).map N.fst = _
    rw [E.ml15, map_ite']
    refine ite_both (fun c1 => ?_) (fun _ => rfl)
    rw [if_pos one_le]
    simp only [halfN_eq]
    rw [map_ite']; refine ite_both (fun c2 => ?_) (fun _ => rfl)
    rw [map_ite']; refine ite_both (fun c3 => ?_) (fun _ => rfl)
    rw [map_ite']; refine ite_both (fun c4 => ?_) (fun _ => rfl)
    rw [map_ite']; refine ite_both (fun c5 => ?_) (fun _ => rfl)
    refine map_bind_c (q := N.cs) (fun r hr => hc _ _ _ _ hr) (fun r hr => ?_)
    rw [map_ite']; exact ite_both (fun _ => by rw [hr]; rfl) (fun _ => by rw [hr]; rfl)
  m3 := fun k x0 x14 x17 => by
    show (N.ml21 (k + 1) x14 x17 x0 s).map N.fst = _
    rw [E.ml21, map_ite']
    refine ite_both (fun c1 => ?_) (fun _ => by rw [Option.map_some, E.e1])
    rw [map_ite']; refine ite_both (fun c2 => ?_) (fun _ => rfl)
    rw [map_ite']; refine ite_both (fun c3 => ?_) (fun _ => rfl)
    rw [map_ite']; refine ite_both (fun c4 => ?_) (fun _ => rfl)
    rw [map_ite']; refine ite_both (fun c5 => ?_) (fun _ => rfl)
    rw [if_pos c4, if_pos c5, if_pos c2, if_pos (by rw [List.length_set]; exact c3)]
    rfl
  j4 := fun k x0 x1 x2 x3 x18 x19 x20 x21 => by
    show (N.ml32 (k + 1) x1 x2 x3 x18 x19 x20 x21 x0 s).map N.fst = _
    rw [E.ml32]
    rfl
  l4 := fun k x0 x1 x2 x3 x18 x19 x20 x21 x22 => by
    show (N.ml33 (k + 1) x1 x2 x3 x18 x19 x20 x21 x22 x0 s).map N.fst = _
    rw [E.ml33, map_ite']
    refine ite_both (fun c1 => ?_) (fun _ => ?_)
    · rw [if_pos one_le]
      simp only [halfN_eq]
      rw [map_ite']; refine ite_both (fun c2 => ?_) (fun _ => rfl)
      rw [map_ite']; refine ite_both (fun c3 => ?_) (fun _ => rfl)
      rw [map_ite']; refine ite_both (fun c4 => ?_) (fun _ => rfl)
      rw [map_ite']; refine ite_both (fun c5 => ?_) (fun _ => rfl)
      refine map_bind_c (q := N.cs) (fun r hr => hc _ _ _ _ hr) (fun r hr => ?_)
      rw [map_ite']; exact ite_both (fun _ => by rw [hr]; rfl) (fun _ => by rw [hr]; rfl)
    · rw [map_ite']; refine ite_both (fun c2 => ?_) (fun _ => rfl)
      rw [map_ite']; refine ite_both (fun c3 => ?_) (fun _ => rfl)
      exact map_bind_st (q := N.snd) (fun r hr => (stays E hc k).rl2 _ _ _ _ _ hr) (fun r hr => by rw [hr]; rfl)
  j7 := fun k x0 x1 x3 x18 x20 x24 => by
    show (N.ml41 (k + 1) x1 x3 x18 x20 x24 x0 s).map N.fst = _
    have hm : ∀ x1 x2 x3 xs r, N.mf k x1 x2 x3 xs s = some r → N.snd r = s := (stays E hc k).mf
    have tl : ∀ xs, (if x18 < x24 then (if x24 < x3 then ((N.mf k x18 x24 x3 xs s).bind fun u => some u) else some (N.pk xs s)) else some (N.pk xs s)).map N.fst = (N.at s).tl k xs x3 x18 x24 := fun xs => by
      rw [map_ite']; unfold Sys.tl; refine ite_both (fun _ => ?_) (fun _ => by rw [Option.map_some, E.e1])
      rw [map_ite']; refine ite_both (fun _ => ?_) (fun _ => by rw [Option.map_some, E.e1])
      exact map_bind_st (q := N.snd) (fun r hr => hm _ _ _ _ _ hr) (fun r hr => rfl)
    rw [E.ml41, map_ite']
    refine ite_both (fun c1 => ?_) (fun _ => tl x0)
    rw [map_ite']; refine ite_both (fun c2 => ?_) (fun _ => tl x0)
    refine map_bind_st (q := N.snd) (fun r hr => hm _ _ _ _ _ hr) (fun r hr => ?_)
    rw [map_ite']; unfold Sys.tl; refine ite_both (fun _ => ?_) (fun _ => rfl)
    rw [map_ite']; refine ite_both (fun _ => ?_) (fun _ => rfl)
    rw [hr]
    exact map_bind_st (q := N.snd) (fun r hr => hm _ _ _ _ _ hr) (fun r hr => rfl)
  mf := fun k l0 a1 a2 a3 => by
    show (N.mf (k + 1) a1 a2 a3 l0 s).map N.fst = _
    rw [E.mf, map_ite']
    refine ite_both (fun c1 => rfl) (fun _ => ?_)
    rw [map_ite']; refine ite_both (fun c2 => rfl) (fun _ => ?_)
    rw [if_pos one_le]
    simp only [halfN_eq]
    rw [map_ite']; exact ite_both (fun c3 => rfl) (fun _ => rfl)
  s0 := fun k x0 x1 x6 x7 x8 => by
    show (N.sl2 (k + 1) x1 x6 x7 x8 x0 s).map N.fst = _
    rw [E.sl2, map_ite']
    have hi : ∀ x1 x2 x8 xs r, N.il1 k x1 x2 x8 xs s = some r → N.snd r = s := (stays E hc k).il1
    refine ite_both (fun c1 => ?_) (fun _ => ?_)
    · exact map_bind_st (q := N.snd) (fun r hr => hi _ _ _ _ _ hr) (fun r hr => by rw [hr]; rfl)
    · exact map_bind_st (q := N.snd) (fun r hr => hi _ _ _ _ _ hr) (fun r hr => by rw [hr]; rfl)
  s1 := fun k x0 x1 x6 => by
    show (N.sl7 (k + 1) x1 x6 x0 s).map N.fst = _
    rw [E.sl7, map_ite']
    exact ite_both (fun _ => rfl) (fun _ => by rw [Option.map_some, E.e1])
  s2 := fun k x0 x1 x6 x7 x8 => by
    show (N.sl9 (k + 1) x1 x6 x7 x8 x0 s).map N.fst = _
    rw [E.sl9, map_ite']
    have hm : ∀ x1 x2 x3 xs r, N.mf k x1 x2 x3 xs s = some r → N.snd r = s := (stays E hc k).mf
    refine ite_both (fun c1 => ?_) (fun _ => ?_)
    · exact map_bind_st (q := N.snd) (fun r hr => hm _ _ _ _ _ hr) (fun r hr => by rw [hr]; rfl)
    · rw [map_ite']; refine ite_both (fun c2 => ?_) (fun _ => rfl)
      exact map_bind_st (q := N.snd) (fun r hr => hm _ _ _ _ _ hr) (fun r hr => by rw [hr]; rfl)
/-- The whole sort, with what was captured. -/
theorem nstable (E : NEqs N) {lt : α → α → Bool} {Ok : α → Prop} (hc : ∀ k a b r, N.cmp k a b s = some r → N.cs r = s) (hp : ∀ r, N.pk (N.fst r) (N.snd r) = r) (hs : SWO lt) (hcmp : Cmp (N.at s) lt Ok) (l : List α) (hO : ∀ y ∈ l, Ok y) (hn : (l.length : Int) ≤ 288230376151711744) :
    Ev (fun k => N.sl2 k (l.length : Int) 20 0 20 l s) (N.pk (ssort lt l) s) := by
  obtain ⟨K, h⟩ := stable_run (at_eqs E hc) hs hcmp l hO hn
  refine ⟨K, fun k hk => ?_⟩
  have h1 : (N.sl2 k (l.length : Int) 20 0 20 l s).map N.fst = some (ssort lt l) := h k hk
  obtain ⟨r, hr, hf⟩ := Option.map_eq_some_iff.1 h1
  have h2 := (stays E hc k).sl2 _ _ _ _ _ _ hr
  show N.sl2 k (l.length : Int) 20 0 20 l s = some (N.pk (ssort lt l) s)
  rw [hr, ← hp r, hf, h2]
end
end Go.Proofs.YtamgbcgfjhpedaaDoor.Srt
