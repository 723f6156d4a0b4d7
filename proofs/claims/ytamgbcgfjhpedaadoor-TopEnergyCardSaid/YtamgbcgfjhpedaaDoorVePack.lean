/- Cells as typed values and back (lemmas on the evaluator; no statement is proved here). -/
import Derived.Test.YtamgbcgfjhpedaaDoorVeMem
namespace Go.Proofs.YtamgbcgfjhpedaaDoor.VE
open Go Go.RowKit
section
variable {C : Ctx} {G : Gh} {O : Nat → Obj} {w : World}
theorem LfR.of {F : Nat → Prop} {t : Ty} {x : t.T} {v : Value} (hF : G.F = F) (h : Rep F w t x [v]) : LfR G O w (.v t x) v := by
  subst hF
  exact ⟨Rep.one h v (List.mem_singleton.2 rfl), h⟩
theorem leaves_R : ∀ {t : Ty} {x : t.T} {cs : List Value}, Rep G.F w t x cs → All2 (LfR G O w) (leaves t x) cs
  | .int k, x, cs, h => by
    obtain rfl : cs = [.int k x] := h
    exact ⟨LfR.of rfl rfl, trivial⟩
  | .bool, x, cs, h => by
    obtain rfl : cs = [.bool x] := h
    exact ⟨LfR.of rfl rfl, trivial⟩
  | .str, x, cs, h => by
    obtain rfl : cs = [.string x] := h
    exact ⟨LfR.of rfl rfl, trivial⟩
  | .list e t, x, cs, h => by
    obtain ⟨A, c, rfl, h2⟩ := h
    exact ⟨LfR.of rfl ⟨A, c, rfl, h2⟩, trivial⟩
  | .pair a b, x, cs, h => by
    obtain ⟨c0, c1, rfl, h0, h1⟩ := h
    exact All2.append (leaves_R h0) (leaves_R h1)
  | .unit, x, cs, h => by
    obtain rfl : cs = [] := h
    trivial
  | .fn fs, x, cs, h => by
    obtain ⟨f, h1, rfl⟩ := h
    exact ⟨LfR.of rfl ⟨f, h1, rfl⟩, trivial⟩
theorem leaves_length : ∀ (t : Ty) (x : t.T), (leaves t x).length = t.sz
  | .int _, _ => rfl
  | .bool, _ => rfl
  | .str, _ => rfl
  | .list _ _, _ => rfl
  | .pair a b, x => by
    show (leaves a x.1 ++ leaves b x.2).length = a.sz + b.sz
    rw [List.length_append, leaves_length a, leaves_length b]
  | .unit, _ => rfl
  | .fn _, _ => rfl

def TVR (F : Nat → Prop) (w : World) : TV → Value → Prop
  | .mk t x, v => Rep F w t x [v]
  | .nil, v => v = .slice none 0 0
/-- The blocks that stay once some objects stand. -/
def FzF (G : Gh) (ds : List Nat) (b : Nat) : Prop := G.F b ∨ ∃ d ∈ ds, ∃ o, G.m d = some (b, o)
theorem TVR.mono {F F' : Nat → Prop} {w w' : World} (hF : ∀ b, F b → F' b) (hw : ∀ b, F b → w'.heap[b]? = w.heap[b]?) : ∀ {x : TV} {v : Value}, TVR F w x v → TVR F' w' x v
  | .mk t x, v, h => Rep.mono hF hw (show Rep F w t x [v] from h)
  | .nil, _, h => h
theorem Core.row (h : Core C G O w) {d : Nat} {e : TypeId} {t : Ty} {xs : List t.T} {fz : Bool} (hd : O d = .row e t xs fz) :
    xs.length ≤ G.cp d ∧ ((G.cp d = 0 ∧ G.m d = none) ∨ ∃ b o arr t', G.m d = some (b, o) ∧ blk w b arr t' ∧ o + G.cp d * t.sz ≤ arr.size ∧ RowAt G.F w t xs arr o ∧ own C b ∧ (fz = true → G.F b) ∧ (fz = false → ¬ G.F b)) := by
  have k := h.ob d
  unfold ObjR at k
  rw [hd] at k
  exact k
theorem Core.box (h : Core C G O w) {d : Nat} {e : TypeId} {cs : List Lf} (hd : O d = .box e cs) :
    ∃ b arr, G.m d = some (b, 0) ∧ blk w b arr e ∧ All2 (LfR G O w) cs arr.toList ∧ ¬ G.F b ∧ own C b := by
  have k := h.ob d
  unfold ObjR at k
  rw [hd] at k
  exact k
/-- The elements of a list, in memory. -/
def ElemsAt (F : Nat → Prop) (w : World) (t : Ty) (xs : List t.T) (b o : Nat) : Prop :=
  ∀ j x, xs[j]? = some x → ∃ ce, ce.length = t.sz ∧ Rep F w t x ce ∧ ∀ i u, ce[i]? = some u → w.cell? ⟨b, o + (j * t.sz + i), none⟩ = some u
theorem Core.elems (h : Core C G O w) {d : Nat} {e : TypeId} {t : Ty} {xs : List t.T} {fz : Bool} (hd : O d = .row e t xs fz) {off len : Nat} {v : Value} (hv : HdR G d t.sz xs.length off len v) :
    ((xs.drop off).take len).length = len ∧ ∃ A c, v = .slice A len c ∧ len ≤ c ∧ (0 < len → ∃ b o, G.m d = some (b, o) ∧ A = some ⟨b, o + off * t.sz, none⟩ ∧ ElemsAt G.F w t ((xs.drop off).take len) b (o + off * t.sz)) := by
  obtain ⟨h1, A, c, rfl, h2, h3, h4⟩ := hv
  have hl : ((xs.drop off).take len).length = len := by rw [List.length_take, List.length_drop]; omega
  refine ⟨hl, A, c, rfl, h2, fun hn => ?_⟩
  obtain ⟨b, o, hm, rfl⟩ := h4 (by omega)
  refine ⟨b, o, hm, rfl, fun j x hj => ?_⟩
  have hj' : xs[off + j]? = some x := by
    rw [List.getElem?_take] at hj
    split at hj
    · rw [List.getElem?_drop] at hj; exact hj
    · cases hj
  rcases (h.row hd).2 with ⟨_, k⟩ | ⟨b', o', arr, t', k1, k2, k3, k4, _⟩
  · rw [hm] at k; cases k
  · rw [hm] at k1
    cases k1
    obtain ⟨ce, e1, e2, e3⟩ := k4 _ x hj'
    refine ⟨ce, e1, e2, fun i u hi => ?_⟩
    rw [k2.cell]
    have := e3 i u hi
    rw [Nat.add_mul] at this
    rw [← this]
    congr 1
    omega
/-- A part of an object's row as a list that stays. -/
theorem Core.part (h : Core C G O w) {d : Nat} {e : TypeId} {t : Ty} {xs : List t.T} {fz : Bool} (hd : O d = .row e t xs fz) {off len : Nat} {v : Value} (hv : HdR G d t.sz xs.length off len v) {F : Nat → Prop} (hF : ∀ b, G.F b → F b) (hF' : ∀ b o, G.m d = some (b, o) → F b) :
    Rep F w (.list e t) ((xs.drop off).take len) [v] := by
  obtain ⟨hl, A, c, rfl, h2, h3⟩ := h.elems hd hv
  refine ⟨A, c, by rw [hl], by rw [hl]; exact h2, fun hn => ?_⟩
  rw [hl] at hn
  obtain ⟨b, o, hm, rfl, he⟩ := h3 hn
  refine ⟨b, _, rfl, hF' b o hm, fun j x hj => ?_⟩
  obtain ⟨ce, e1, e2, e3⟩ := he j x hj
  exact ⟨ce, e1, e2.mono hF (fun _ _ => rfl), e3⟩
/-- What is read as a list: its elements. -/
theorem pureL_elems (h : Core C G O w) {x : Lf} {v : Value} {tv : TV} {ds : List Nat} {e : TypeId} {t : Ty} {ys : List t.T} (hx : LfR G O w x v) (hp : pureL O x = some (tv, ds)) (ht : ofTV (.list e t) tv = some ys) :
    ∃ A c, v = .slice A ys.length c ∧ ys.length ≤ c ∧ (0 < ys.length → ∃ b o, A = some ⟨b, o, none⟩ ∧ ElemsAt G.F w t ys b o) := by
  have ofm : ∀ {t' : Ty} {y : t'.T}, ofTV (.list e t) (.mk t' y) = some ys → t' = .list e t ∧ HEq y ys := by
    intro t' y k
    simp only [ofTV] at k
    by_cases hh : t' = .list e t
    · subst hh
      simp only [dite_true, Option.some.injEq] at k
      exact ⟨rfl, heq_of_eq k⟩
    · rw [dif_neg hh] at k; cases k
  cases x with
  | v t' x =>
    cases hp
    obtain ⟨rfl, hy⟩ := ofm ht
    cases eq_of_heq hy
    obtain ⟨A, c, k1, k2, k3⟩ := (show Rep G.F w (.list e t) ys [v] from hx.2)
    refine ⟨A, c, by simpa using k1, k2, fun hn => ?_⟩
    obtain ⟨b, o, hA, _, hc⟩ := k3 hn
    exact ⟨b, o, hA, hc⟩
  | nils =>
    cases hp
    obtain rfl : v = .slice none 0 0 := hx.2
    cases ht
    exact ⟨none, 0, rfl, Nat.le_refl _, fun hn => absurd hn (by simp)⟩
  | o d =>
    simp only [pureL] at hp
    cases hd : O d with
    | row e' t' xs fz =>
      rw [hd] at hp
      cases hp
      obtain ⟨hh, hy⟩ := ofm ht
      cases hh
      cases eq_of_heq hy
      have k : OnRow (O d) (fun t n => HdR G d t.sz n 0 n v) := hx.2
      rw [hd] at k
      obtain ⟨hl, A, c, k1, k2, k3⟩ := h.elems hd k
      rw [List.drop_zero, List.take_length] at k3
      refine ⟨A, c, k1, k2, fun hn => ?_⟩
      obtain ⟨b, o, _, hA, he⟩ := k3 hn
      exact ⟨b, _, hA, he⟩
    | _ => rw [hd] at hp; cases hp
  | os d off len =>
    simp only [pureL] at hp
    cases hd : O d with
    | row e' t' xs fz =>
      rw [hd] at hp
      cases hp
      obtain ⟨hh, hy⟩ := ofm ht
      cases hh
      cases eq_of_heq hy
      have k : OnRow (O d) (fun t n => HdR G d t.sz n off len v) := hx.2
      rw [hd] at k
      obtain ⟨hl, A, c, k1, k2, k3⟩ := h.elems hd k
      refine ⟨A, c, by rw [hl]; exact k1, by rw [hl]; exact k2, fun hn => ?_⟩
      rw [hl] at hn
      obtain ⟨b, o, _, hA, he⟩ := k3 hn
      exact ⟨b, _, hA, he⟩
    | _ => rw [hd] at hp; cases hp
  | bl b => cases hp; obtain ⟨hh, _⟩ := ofm ht; cases hh
  | b p i => cases hp; obtain ⟨hh, _⟩ := ofm ht; cases hh
  | nb p i => cases hp; obtain ⟨hh, _⟩ := ofm ht; cases hh
  | u => cases hp
  | q n p i => cases hp
  | np => cases hp
  | p d c => cases hp
  | e t x c => cases hp
  | oe d i c => cases hp
  | fn0 f => cases hp
  | fn f d => cases hp
  | m d => cases hp
  | oh d i n => cases hp
  | oi d i j c => cases hp
  | ap d => cases hp
theorem pureL_R (h : Core C G O w) {x : Lf} {v : Value} {tv : TV} {ds : List Nat} (hx : LfR G O w x v) (e : pureL O x = some (tv, ds)) {F : Nat → Prop} (hF : ∀ b, G.F b → F b) (hF' : ∀ d ∈ ds, ∀ b o, G.m d = some (b, o) → F b) : TVR F w tv v := by
  cases x with
  | v t x => cases e; exact Rep.mono hF (fun _ _ => rfl) (show Rep G.F w t x [v] from hx.2)
  | bl b => cases e; obtain rfl : v = .bool b := hx.2; exact rfl
  | b p i => cases e; obtain rfl : v = .bool (@decide p i) := hx.2; exact rfl
  | nb p i => cases e; obtain rfl : v = .bool (!@decide p i) := hx.2; exact rfl
  | nils => cases e; exact hx.2
  | o d =>
    simp only [pureL] at e
    cases hd : O d with
    | row e' t xs fz =>
      rw [hd] at e
      cases e
      have k : OnRow (O d) (fun t n => HdR G d t.sz n 0 n v) := hx.2
      rw [hd] at k
      have := h.part hd (F := F) k hF (fun b o hm => hF' d (List.mem_singleton.2 rfl) b o hm)
      rw [List.drop_zero, List.take_length] at this
      exact this
    | _ => rw [hd] at e; cases e
  | os d off len =>
    simp only [pureL] at e
    cases hd : O d with
    | row e' t xs fz =>
      rw [hd] at e
      cases e
      have k : OnRow (O d) (fun t n => HdR G d t.sz n off len v) := hx.2
      rw [hd] at k
      exact h.part hd (F := F) k hF (fun b o hm => hF' d (List.mem_singleton.2 rfl) b o hm)
    | _ => rw [hd] at e; cases e
  | u => cases e
  | np => cases e
  | q n p i => cases e
  | p d c => cases e
  | e t x c => cases e
  | oe d i c => cases e
  | fn0 f => cases e
  | fn f d => cases e
  | m d => cases e
  | oh d i n => cases e
  | oi d i j c => cases e
  | ap d => cases e
theorem pureLs_R (h : Core C G O w) : ∀ {ls : List Lf} {cs : List Value} {vs : List TV} {ds : List Nat}, All2 (LfR G O w) ls cs → pureLs O ls = some (vs, ds) → ∀ {F : Nat → Prop}, (∀ b, G.F b → F b) → (∀ d ∈ ds, ∀ b o, G.m d = some (b, o) → F b) → All2 (TVR F w) vs cs
  | [], [], _, _, _, e, _, _, _ => by cases e; trivial
  | x :: ls, v :: cs, vs, ds, hx, e, F, hF, hF' => by
    unfold pureLs at e
    cases e1 : pureL O x with
    | none => rw [e1] at e; cases e
    | some r1 =>
      obtain ⟨tv, d1⟩ := r1
      cases e2 : pureLs O ls with
      | none => rw [e1, e2] at e; cases e
      | some r2 =>
        obtain ⟨tvs, d2⟩ := r2
        rw [e1, e2] at e
        cases e
        exact ⟨pureL_R h hx.1 e1 hF (fun d hd => hF' d (List.mem_append_left _ hd)), pureLs_R h hx.2 e2 hF (fun d hd => hF' d (List.mem_append_right _ hd))⟩
  | [], _ :: _, _, _, hx, _, _, _, _ => hx.elim
  | _ :: _, [], _, _, hx, _, _, _, _ => hx.elim
theorem ofTV_R {F : Nat → Prop} {t : Ty} {tv : TV} {x : t.T} {v : Value} (e : ofTV t tv = some x) (h : TVR F w tv v) : Rep F w t x [v] := by
  cases tv with
  | mk t' y =>
    simp only [ofTV] at e
    by_cases ht : t' = t
    · subst ht
      simp only [dite_true, Option.some.injEq] at e
      subst e
      exact h
    · rw [dif_neg ht] at e
      cases e
  | nil =>
    cases t with
    | list e' t' =>
      cases e
      obtain rfl : v = .slice none 0 0 := h
      exact ⟨none, 0, rfl, Nat.le_refl _, fun hn => absurd hn (by simp)⟩
    | _ => cases e
theorem ofTVs_one {F : Nat → Prop} {t : Ty} (ht : ∀ l, ofTVs t l = match l with | [] => none | v :: l => (match ofTV t v with | some x => some (x, l) | none => none)) {vs rest : List TV} {x : t.T} {cs : List Value} (e : ofTVs t vs = some (x, rest)) (h : All2 (TVR F w) vs cs) :
    ∃ c0 c1, cs = c0 ++ c1 ∧ Rep F w t x c0 ∧ All2 (TVR F w) rest c1 := by
  rw [ht] at e
  cases vs with
  | nil => cases e
  | cons v vs =>
    obtain ⟨y, m, rfl, h1, h2⟩ := h.cons_inv
    simp only at e
    cases e1 : ofTV t v with
    | none => rw [e1] at e; cases e
    | some z =>
      rw [e1] at e
      cases e
      exact ⟨[y], m, rfl, ofTV_R e1 h1, h2⟩
theorem ofTVs_R {F : Nat → Prop} : ∀ {t : Ty} {vs rest : List TV} {x : t.T} {cs : List Value}, ofTVs t vs = some (x, rest) → All2 (TVR F w) vs cs → ∃ c0 c1, cs = c0 ++ c1 ∧ Rep F w t x c0 ∧ All2 (TVR F w) rest c1
  | .int k, _, _, _, _, e, h => ofTVs_one (fun l => by cases l <;> rfl) e h
  | .bool, _, _, _, _, e, h => ofTVs_one (fun l => by cases l <;> rfl) e h
  | .str, _, _, _, _, e, h => ofTVs_one (fun l => by cases l <;> rfl) e h
  | .list _ _, _, _, _, _, e, h => ofTVs_one (fun l => by cases l <;> rfl) e h
  | .fn _, _, _, _, _, e, h => ofTVs_one (fun l => by cases l <;> rfl) e h
  | .unit, vs, rest, x, cs, e, h => by
    unfold ofTVs at e
    cases e
    exact ⟨[], cs, rfl, rfl, h⟩
  | .pair a b, vs, rest, x, cs, e, h => by
    unfold ofTVs at e
    cases e1 : ofTVs a vs with
    | none => rw [e1] at e; cases e
    | some r1 =>
      obtain ⟨x1, l1⟩ := r1
      rw [e1] at e
      simp only at e
      cases e2 : ofTVs b l1 with
      | none => rw [e2] at e; cases e
      | some r2 =>
        obtain ⟨y1, l2⟩ := r2
        rw [e2] at e
        cases e
        obtain ⟨c0, c1, rfl, h0, h1⟩ := ofTVs_R e1 h
        obtain ⟨c2, c3, rfl, h2, h3⟩ := ofTVs_R e2 h1
        exact ⟨c0 ++ c2, c3, by rw [List.append_assoc], ⟨c0, c2, rfl, h0, h2⟩, h3⟩
theorem packs_R (h : Core C G O w) {t : Ty} {ls : List Lf} {x : t.T} {ds : List Nat} {cs : List Value} (e : packs O t ls = some (x, ds)) (hl : All2 (LfR G O w) ls cs) {F : Nat → Prop} (hF : ∀ b, G.F b → F b) (hF' : ∀ d ∈ ds, ∀ b o, G.m d = some (b, o) → F b) : Rep F w t x cs := by
  unfold packs at e
  cases e1 : pureLs O ls with
  | none => rw [e1] at e; cases e
  | some r1 =>
    obtain ⟨vs, d1⟩ := r1
    rw [e1] at e
    simp only at e
    cases e2 : ofTVs t vs with
    | none => rw [e2] at e; cases e
    | some r2 =>
      obtain ⟨y, l⟩ := r2
      rw [e2] at e
      cases l with
      | cons _ _ => cases e
      | nil =>
        cases e
        obtain ⟨c0, c1, rfl, h0, h1⟩ := ofTVs_R e2 (pureLs_R h hl e1 hF hF')
        rw [h1.nil_inv, List.append_nil]
        exact h0

/-! freezing -/
theorem freeze_upd {d : Nat} {e : TypeId} {t : Ty} {xs : List t.T} {fz : Bool} (hd : O d = .row e t xs fz) : ∀ ds, freeze (upd O d (.row e t xs true)) ds = freeze O ds
  | [] => rfl
  | k :: ds => by
    unfold freeze
    rw [freeze_upd hd ds]
    by_cases hk : k = d
    · subst hk
      rw [upd_self, hd]
      cases freeze O ds <;> rfl
    · rw [upd_ne _ _ hk]
theorem freeze_R : ∀ {ds : List Nat} {wr : List (Nat × Obj)} {G : Gh} {O : Nat → Obj}, Core C G O w → freeze O ds = some wr →
    Core C { G with F := FzF G ds } (upds O wr) w ∧ Ext G O w { G with F := FzF G ds } (upds O wr) w
  | [], wr, G, O, h, e => by
    cases e
    have : { G with F := FzF G [] } = G := by
      have : FzF G [] = G.F := by
        funext b
        simp [FzF]
      rw [this]
    rw [this]
    exact ⟨h, Ext.refl _ _ _⟩
  | d :: ds, wr, G, O, h, e => by
    unfold freeze at e
    cases hd : O d with
    | row t ty xs fz =>
      rw [hd] at e
      cases e1 : freeze O ds with
      | none => rw [e1] at e; cases e
      | some l =>
        rw [e1] at e
        cases e
        obtain ⟨h1, x1⟩ := h.freeze1 hd
        rw [← freeze_upd hd] at e1
        obtain ⟨h2, x2⟩ := freeze_R h1 e1
        have : FzF G (d :: ds) = FzF { G with F := fun b => G.F b ∨ ∃ o, G.m d = some (b, o) } ds := by
          funext b
          simp only [FzF, List.mem_cons, eq_iff_iff]
          constructor
          · rintro (a | ⟨k, rfl | hk, o, ho⟩)
            · exact Or.inl (Or.inl a)
            · exact Or.inl (Or.inr ⟨o, ho⟩)
            · exact Or.inr ⟨k, hk, o, ho⟩
          · rintro ((a | ⟨o, ho⟩) | ⟨k, hk, o, ho⟩)
            · exact Or.inl a
            · exact Or.inr ⟨d, Or.inl rfl, o, ho⟩
            · exact Or.inr ⟨k, Or.inr hk, o, ho⟩
        rw [this]
        exact ⟨h2, x1.trans x2⟩
    | _ => rw [hd] at e; cases e
theorem freeze_ids : ∀ {ds : List Nat} {wr : List (Nat × Obj)} {O : Nat → Obj}, freeze O ds = some wr → ∀ k, k ∉ ds → upds O wr k = O k
  | [], wr, O, e, k, _ => by cases e; rfl
  | d :: ds, wr, O, e, k, hk => by
    unfold freeze at e
    cases hd : O d with
    | row t ty xs fz =>
      rw [hd] at e
      cases e1 : freeze O ds with
      | none => rw [e1] at e; cases e
      | some l =>
        rw [e1] at e
        cases e
        rw [← freeze_upd hd] at e1
        show upds (upd O d _) l k = O k
        rw [freeze_ids e1 k (fun h => hk (List.mem_cons_of_mem _ h)), upd_ne _ _ (fun h => hk (by rw [h]; exact List.mem_cons_self))]
    | _ => rw [hd] at e; cases e

/-! constants, cells -/
theorem leafOf_R {v : Value} {x : Lf} (e : leafOf v = some x) : LfR G O w x v := by
  unfold leafOf at e
  split at e <;> cases e <;> first | exact ⟨rfl, rfl⟩ | skip
  rename_i h1 h2
  refine ⟨?_, trivial⟩
  unfold one
  split
  · exact absurd rfl (h1 _)
  · exact absurd rfl (h2 _)
  · rfl
theorem leavesOf_R : ∀ {vs : List Value} {xs : List Lf}, leavesOf vs = some xs → All2 (LfR G O w) xs vs
  | [], xs, e => by cases e; trivial
  | v :: vs, xs, e => by
    unfold leavesOf at e
    cases e1 : leafOf v with
    | none => rw [e1] at e; cases e
    | some x =>
      cases e2 : leavesOf vs with
      | none => rw [e1, e2] at e; cases e
      | some l =>
        rw [e1, e2] at e
        cases e
        exact ⟨leafOf_R e1, leavesOf_R e2⟩
theorem ofValue_R (v : Value) : SVR G O w (ofValue v) v := by
  unfold ofValue
  split
  · rename_i cs
    cases e : leavesOf cs.toList with
    | none => trivial
    | some xs => exact ⟨cs, rfl, leavesOf_R e⟩
  · cases e : leafOf v with
    | none => trivial
    | some x => exact leafOf_R e
theorem one_cells {v : Value} (h : one v = true) : v.cells = #[v] := by
  cases v <;> first | rfl | cases h
theorem cells_R {x : SV} {v : Value} {ls : List Lf} (h : SVR G O w x v) (e : x.cells = some ls) : All2 (LfR G O w) ls v.cells.toList := by
  cases x with
  | t xs => cases e
  | c x =>
    cases x with
    | u => cases e
    | l y =>
      cases e
      have h' : LfR G O w y v := h
      rw [one_cells h'.1]
      exact ⟨h', trivial⟩
    | a xs =>
      cases e
      obtain ⟨cs, rfl, h⟩ := h
      exact h
end
end Go.Proofs.YtamgbcgfjhpedaaDoor.VE
