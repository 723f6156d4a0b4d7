/- A function's contract from its equations (lemmas; no statement is proved here). -/
import Derived.Test.YtamgbcgfjhpedaaDoorVeTop
namespace Go.Proofs.YtamgbcgfjhpedaaDoor.VE
open Go Go.RowKit
section
variable {P : Program}
theorem soundK {Γ : Nat → FuncId → Option Con} {C : Ctx} {f : FuncId} {fn : Func} {body : Code} {F : Fin P} {T : Nat → Nat → Option (Hint (prods F.cout.tys))} (hm : P.follows .mixedOrders = true) (hf : P.funcs[f]? = some fn) (hres : fn.results.toList = F.res) (hfx : F.fixed = C.fx)
    (hnd : nodupB ((sites body []).map (·.1)) = true) (hS : sitesOk fn.ntmps (sites body []) = true) (h0 : ∀ id h x r, T 0 id = some h → h.k x = some r → False) : ∀ n, (∀ m, m < n → ΓOk P (Γ m)) →
    (∀ m, m < n → ∀ id h x r, T (m + 1) id = some h → h.k x = some r → segK (Γ m) F (T m) body id (h.c.st x) = some r) → SoundK P C f fn.ntmps F (sites body []) (T n)
  | 0, _, _ => fun id h x r hT hx => (h0 id h x r hT hx).elim
  | n + 1, hΓ, hs => by
    have ih := soundK (C := C) hm hf hres hfx hnd hS h0 n (fun m hm => hΓ m (by omega)) (fun m hm => hs m (by omega))
    intro id h x r hT hx ops draw k hin a w G hI
    have e := hs n (by omega) id h x r hT hx
    unfold segK at e
    rw [mem_look hnd hin] at e
    simp only at e
    obtain ⟨hd, hel⟩ := sitesOk_dst hS hin
    obtain ⟨st', h1, h2⟩ := reg_sound (id := id) (hΓ n (by omega)) hm hd hel hI e
    have hw : WF (sites body []) k := site_WF body (k := []) trivial (fun s hs => hs) _ hin
    exact Runs.region h2 fun a' w' ⟨G', h'⟩ => goK_sound (hΓ n (by omega)) hm hf hfx hres hS ih 2000 k h1 hw h'
theorem putCs_length : ∀ {ss : List CSh} {l l' : List TV} {cs : List Cm}, putCs ss l = some (cs, l') → cs.length = ss.length
  | [], _, _, _, e => by cases e; rfl
  | s :: ss, l, l', cs, e => by
    unfold putCs at e
    split at e
    · split at e
      · rename_i h
        cases e
        simp only [List.length_cons, putCs_length h]
      · cases e
    · cases e
theorem put_st {c : Cut} {x : prods c.tys} {cms : List Cm} {os : List (Nat × Obj)} (e : c.put x = some (cms, os)) : cms.length = c.slots.length ∧ c.st x = ⟨upds (fun _ => .u) ((c.slots.map (·.1)).zip (cms.map .c)), ofL os⟩ := by
  refine ⟨?_, by unfold Cut.st; rw [e]⟩
  unfold Cut.put at e
  split at e
  · split at e
    · rename_i h _ _ _
      cases e
      rw [putCs_length h, List.length_map]
    · cases e
  · cases e
theorem range_get {n i k : Nat} (h : (List.range n)[i]? = some k) : k = i := by
  by_cases hi : i < n
  · rw [List.getElem?_range hi] at h; cases h; rfl
  · rw [List.getElem?_eq_none (by simp; omega)] at h; cases h
/-- A function's contract. -/
theorem con_sound {Γ : Nat → FuncId → Option Con} {f : FuncId} {fn : Func} {body : Code} {cin : Cut} {F : Fin P} {T : Nat → Nat → Option (Hint (prods F.cout.tys))} (hm : P.follows .mixedOrders = true) (hf : P.funcs[f]? = some fn) (hb : fn.body = some body) (hres : fn.results.toList = F.res)
    (hfx : F.fixed = fxOf cin.objs) (hsl : cin.slots.map (·.1) = List.range cin.slots.length) (hN : cin.slots.length ≤ fn.ntmps) (hnd : nodupB ((sites body []).map (·.1)) = true) (hS : sitesOk fn.ntmps (sites body []) = true)
    (h0 : ∀ id h x r, T 0 id = some h → h.k x = some r → False) (n : Nat) (hΓ : ∀ m, m ≤ n → ΓOk P (Γ m))
    (hs : ∀ m, m < n → ∀ id h x r, T (m + 1) id = some h → h.k x = some r → segK (Γ m) F (T m) body id (h.c.st x) = some r) {sem : prods cin.tys → Option (prods F.cout.tys)}
    (he : ∀ x y, sem x = some y → goK (Γ n) F (T n) 2000 [.code body] (cin.st x) = some y) : ConSound P f ⟨cin, F.cout, sem⟩ := by
  intro x y hy G cms os w vals hput hcore hcm
  obtain ⟨hlen, hst⟩ := put_st hput
  have e := he x y hy
  have hK := soundK (C := ctxOf w G (ofL os) (fxOf cin.objs)) (Γ := Γ) hm hf hres hfx hnd hS h0 n (fun m hm => hΓ m (by omega)) hs
  have hvl : vals.size = cin.slots.length := by
    have := All2.length hcm
    rw [Array.length_toList] at this
    exact this.symm.trans hlen
  let a : Act := { tmps := vals ++ Array.replicate (fn.ntmps - vals.size) undef, defers := [] }
  have hI : Inv (ctxOf w G (ofL os) (fxOf cin.objs)) (cin.st x) w fn.ntmps a G := by
    refine ⟨?_, ?_, ?_, rfl⟩
    · rw [hst]; exact hcore
    · intro t
      rw [hst]
      show SVR G (ofL os) w (upds (fun _ => SV.u) ((cin.slots.map (·.1)).zip (cms.map .c)) t) _
      rcases upds_cases ((cin.slots.map (·.1)).zip (cms.map .c)) (fun _ => SV.u) t with ⟨_, h2⟩ | ⟨v, h1, h2⟩
      · rw [h2]; trivial
      · rw [h2]
        obtain ⟨i, i1, i2⟩ := zip_get h1
        simp only at i1 i2
        rw [hsl] at i1
        have hti := range_get i1
        subst hti
        rw [List.getElem?_map] at i2
        cases hc : cms[t]? with
        | none => rw [hc] at i2; cases i2
        | some cm =>
          rw [hc] at i2
          cases i2
          have hlt : t < vals.size := by
            have := List.getElem?_eq_some_iff.1 hc
            obtain ⟨h, _⟩ := this
            rw [hvl]; exact hlen ▸ h
          have hg : a.tmps.getD t undef = vals[t] := by
            show (vals ++ Array.replicate (fn.ntmps - vals.size) undef).getD t undef = _
            rw [Array.getD_eq_getD_getElem?, Array.getElem?_append_left hlt, Array.getElem?_eq_getElem hlt]
            rfl
          rw [hg]
          refine All2.get hcm t hc ?_
          rw [Array.getElem?_toList, Array.getElem?_eq_getElem hlt]
    · show (vals ++ Array.replicate (fn.ntmps - vals.size) undef).size = _
      rw [Array.size_append, Array.size_replicate]
      omega
  have hrun := goK_sound (hΓ n (Nat.le_refl _)) hm hf hfx hres hS hK 2000 [.code body] e ⟨fun s hs => hs, trivial⟩ hI
  intro cs
  let b : Frame := { (default : Frame) with fn := f, kind := .normal }
  have henter : Frame.enter P f vals .normal = b.at a [.code body] := by
    simp [Frame.enter, Frame.at, hf, hb, b, a]
  obtain ⟨e', w', fr, hq, h2, h3, h4⟩ := hrun b cs rfl rfl
  rw [← henter] at h2
  exact ⟨e', w', fr, hq, h2, h3, h4⟩
end
end Go.Proofs.YtamgbcgfjhpedaaDoor.VE
