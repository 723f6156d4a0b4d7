/- What a contract says, and a call by a contract (lemmas on the evaluator; no statement is proved here). -/
import Derived.Test.YtamgbcgfjhpedaaDoorVeView
namespace Go.Proofs.YtamgbcgfjhpedaaDoor.VE
open Go Go.RowKit
section
variable {P : Program} {C : Ctx} {G G' : Gh} {O O' : Nat → Obj} {w w' : World}
/-- What a callee may count on. -/
def ctxOf (w : World) (G : Gh) (O : Nat → Obj) (fx : List Nat) : Ctx where
  base := w.heap.size
  F0 := G.F
  W0 := fun b => ∃ d o, (O d).live = true ∧ G.m d = some (b, o)
  w0 := w
  fx := fx
  G0 := G
  n0 := fun d => (O d).len
def OSh.isCaps : OSh → Bool
  | .caps _ => true
  | _ => false
/-- The objects that come in and are handed back. -/
def fxOf : List (Nat × OSh) → List Nat
  | [] => []
  | (d, s) :: l => bif s.isCaps then fxOf l else d :: fxOf l
abbrev ofL (os : List (Nat × Obj)) : Nat → Obj := upds (fun _ => .no) os
def retVal : List Value → Value
  | [v] => v
  | vs => .tuple vs.toArray
def ConSound (P : Program) (f : FuncId) (con : Con) : Prop :=
  ∀ x y, con.sem x = some y → ∀ (G : Gh) (cms : List Cm) (os : List (Nat × Obj)) (w : World) (vals : Array Value), con.cin.put x = some (cms, os) →
    Core (ctxOf w G (ofL os) (fxOf con.cin.objs)) G (ofL os) w → All2 (CmR G (ofL os) w) cms vals.toList →
    Calls P f vals w fun e w' => ∃ vs G' cms' os', e = .returned (retVal vs) ∧ con.cout.put y = some (cms', os') ∧ Core (ctxOf w G (ofL os) (fxOf con.cin.objs)) G' (ofL os') w' ∧ All2 (CmR G' (ofL os') w') cms' vs

theorem Rep.flat {F F' : Nat → Prop} : ∀ {t : Ty} {x : t.T} {cs : List Value}, t.flat = true → Rep F w t x cs → Rep F' w t x cs
  | .int _, _, _, _, h => h
  | .bool, _, _, _, h => h
  | .str, _, _, _, h => h
  | .list _ _, _, _, hf, _ => by cases hf
  | .pair a b, _, _, hf, ⟨c0, c1, h, h0, h1⟩ => by
    unfold Ty.flat at hf
    simp only [Bool.and_eq_true] at hf
    exact ⟨c0, c1, h, Rep.flat hf.1 h0, Rep.flat hf.2 h1⟩
  | .unit, _, _, _, h => h
  | .fn _, _, _, _, h => h
/-- Renamed into another set of objects. -/
structure Rn (G : Gh) (O : Nat → Obj) (G' : Gh) (O' : Nat → Obj) (τ : Nat → Nat) (p : Nat → Bool) : Prop where
  obj : ∀ d, p d = true → O d ≠ .no → Alike (O d) (O' (τ d)) ∧ G'.m (τ d) = G.m d ∧ G'.cp (τ d) = G.cp d
  caps : ∀ d cs, O d ≠ .caps cs
  deep : ∀ d, (O d).isDeep = false
theorem LfR.rn {τ : Nat → Nat} {p : Nat → Bool} (R : Rn G O G' O' τ p) {x : Lf} {v : Value} (hF : (∀ b, G.F b → G'.F b) ∨ x.flat = true) (hp : x.okIds p = true) (h : LfR G O w x v) : LfR G' O' w (renL τ x) v := by
  refine ⟨h.1, ?_⟩
  have k := h.2
  cases x with
  | v t x =>
    rcases hF with hF | hF
    · exact Rep.mono hF (fun _ _ => rfl) (show Rep G.F w t x [v] from k)
    · exact Rep.flat hF (show Rep G.F w t x [v] from k)
  | e t x c =>
    rcases hF with hF | hF
    · obtain ⟨b, o, cs, h1, h2, h3, h4⟩ := k
      exact ⟨b, o, cs, hF b h1, h2.mono hF (fun _ _ => rfl), h3, h4⟩
    · cases hF
  | o d =>
    have k' : OnRow (O d) (fun t n => HdR G d t.sz n 0 n v) := k
    obtain ⟨a, r1, r2⟩ := R.obj d hp k'.ne
    show OnRow (O' (τ d)) (fun t n => HdR G' (τ d) t.sz n 0 n v)
    refine a.row k' (fun t n hh => ?_)
    unfold HdR at hh ⊢
    rw [r1, r2]; exact hh
  | os d off len =>
    have k' : OnRow (O d) (fun t n => HdR G d t.sz n off len v) := k
    obtain ⟨a, r1, r2⟩ := R.obj d hp k'.ne
    show OnRow (O' (τ d)) (fun t n => HdR G' (τ d) t.sz n off len v)
    refine a.row k' (fun t n hh => ?_)
    unfold HdR at hh ⊢
    rw [r1, r2]; exact hh
  | p d c =>
    have k' : OnBox (O d) (∃ b o, G.m d = some (b, o) ∧ v = .pointer (some ⟨b, o + c, none⟩)) := k
    obtain ⟨a, r1, r2⟩ := R.obj d hp k'.ne
    show OnBox (O' (τ d)) (∃ b o, G'.m (τ d) = some (b, o) ∧ v = .pointer (some ⟨b, o + c, none⟩))
    exact a.box k' (fun hh => by rw [r1]; exact hh)
  | oe d i c =>
    have k' := k
    rw [lfb_oe] at k'
    obtain ⟨a, r1, r2⟩ := R.obj d hp k'.ne
    show LfB G' O' w (.oe (τ d) i c) v
    rw [lfb_oe]
    refine a.row k' (fun t n hh => ?_)
    rw [r1]; exact hh
  | fn f d =>
    have k' : OnCaps (O d) (v = .func (.func f) #[] (G.cap d).toArray) := k
    cases hd : O d with
    | caps cs => exact absurd hd (R.caps d cs)
    | dead =>
      obtain ⟨a, _⟩ := R.obj d hp (by rw [hd]; simp)
      rw [hd] at a
      show OnCaps (O' (τ d)) _
      cases hd' : O' (τ d) with
      | dead => trivial
      | _ => rw [hd'] at a; exact a.elim
    | _ => rw [hd] at k'; exact k'.elim
  | m d =>
    have k' : OnMap (O d) (∃ b, G.m d = some (b, 0) ∧ v = .map (some b)) := k
    obtain ⟨a, r1, r2⟩ := R.obj d hp k'.ne
    show OnMap (O' (τ d)) (∃ b, G'.m (τ d) = some (b, 0) ∧ v = .map (some b))
    exact a.map k' (fun hh => by rw [r1]; exact hh)
  | ap d =>
    have k' : OnRow (O d) (fun _ n => 0 < n ∧ n = G.cp d ∧ ∃ b o, G.m d = some (b, o) ∧ v = .pointer (some ⟨b, o, none⟩)) := k
    obtain ⟨a, r1, r2⟩ := R.obj d hp k'.ne
    show OnRow (O' (τ d)) (fun _ n => 0 < n ∧ n = G'.cp (τ d) ∧ ∃ b o, G'.m (τ d) = some (b, o) ∧ v = .pointer (some ⟨b, o, none⟩))
    refine a.row k' (fun t n hh => ?_)
    rw [r1, r2]; exact hh
  | oh d i n =>
    have k' : OnDeep (O d) (fun _ L => ∃ A c, v = .slice A n c ∧ n ≤ c ∧ (0 < n → 0 ≤ i ∧ L i.toNat = some n ∧ ∃ b o, G.sub d i.toNat = some (b, o) ∧ A = some ⟨b, o, none⟩)) := k
    obtain ⟨a, _⟩ := R.obj d hp k'.ne
    have hnd := R.deep d
    show OnDeep (O' (τ d)) (fun _ L => ∃ A c, v = .slice A n c ∧ n ≤ c ∧ (0 < n → 0 ≤ i ∧ L i.toNat = some n ∧ ∃ b o, G'.sub (τ d) i.toNat = some (b, o) ∧ A = some ⟨b, o, none⟩))
    cases hd : O d <;> rw [hd] at a hnd k' <;> cases hd' : O' (τ d) <;> rw [hd'] at a <;> first | trivial | exact a.elim | exact k'.elim | cases hnd
  | oi d i j c =>
    have k' : OnDeep (O d) (fun t L => 0 ≤ i ∧ 0 ≤ j ∧ ∃ n : Nat, L i.toNat = some n ∧ j < (n : Int) ∧ ∃ b o, G.sub d i.toNat = some (b, o) ∧ v = .pointer (some ⟨b, o + j.toNat * t.sz + c, none⟩)) := k
    obtain ⟨a, _⟩ := R.obj d hp k'.ne
    have hnd := R.deep d
    show OnDeep (O' (τ d)) (fun t L => 0 ≤ i ∧ 0 ≤ j ∧ ∃ n : Nat, L i.toNat = some n ∧ j < (n : Int) ∧ ∃ b o, G'.sub (τ d) i.toNat = some (b, o) ∧ v = .pointer (some ⟨b, o + j.toNat * t.sz + c, none⟩))
    cases hd : O d <;> rw [hd] at a hnd k' <;> cases hd' : O' (τ d) <;> rw [hd'] at a <;> first | trivial | exact a.elim | exact k'.elim | cases hnd
  | u => exact trivial
  | bl b => exact k
  | b p i => exact k
  | nb p i => exact k
  | q n p i => exact k
  | nils => exact k
  | np => exact k
  | fn0 f => exact k
theorem All2.map_left {α β γ : Type} {R : α → β → Prop} {R' : γ → β → Prop} (f : α → γ) : ∀ {l : List α} {m : List β}, (∀ x ∈ l, ∀ y, R x y → R' (f x) y) → All2 R l m → All2 R' (l.map f) m
  | [], [], _, _ => trivial
  | x :: l, y :: m, hf, h => ⟨hf x List.mem_cons_self y h.1, All2.map_left f (fun z hz => hf z (List.mem_cons_of_mem _ hz)) h.2⟩
  | [], _ :: _, _, h => h.elim
  | _ :: _, [], _, h => h.elim
theorem CmR.rn {τ : Nat → Nat} {p : Nat → Bool} (R : Rn G O G' O' τ p) {x : Cm} {v : Value} (hF : (∀ b, G.F b → G'.F b) ∨ x.flat = true) (hp : x.okIds p = true) (h : CmR G O w x v) : CmR G' O' w (renC τ x) v := by
  cases x with
  | u => trivial
  | l y => exact LfR.rn R hF hp h
  | a xs =>
    obtain ⟨cs, rfl, h⟩ := h
    refine ⟨cs, rfl, h.map_left _ fun y hy v hv => LfR.rn R (hF.imp id fun hf => ?_) ?_ hv⟩
    · exact List.all_eq_true.1 hf y hy
    · exact List.all_eq_true.1 hp y hy
theorem fx_mem : ∀ {l : List (Nat × OSh)} {d : Nat}, d ∈ fxOf l → d ∈ l.map (·.1)
  | (a, s) :: l, d, h => by
    unfold fxOf at h
    rw [List.map_cons]
    cases hs : s.isCaps with
    | true =>
      rw [hs] at h
      exact List.mem_cons_of_mem _ (fx_mem (l := l) h)
    | false =>
      rw [hs] at h
      rcases List.mem_cons.1 h with rfl | h
      · exact List.mem_cons_self
      · exact List.mem_cons_of_mem _ (fx_mem h)
/-- What a callee is given, as it sees it. -/
theorem call_in {c : Cut} {g : Gr} {cms : List Cm} {os : List (Nat × Obj)} {vs : List Value} (V : View C G O w c [] g cms os vs) (hnd : ∀ d d', look g.ren d = some (some d') → (O d').isDeep = false) :
    Core (ctxOf w (renG G g) (ofL os) (fxOf c.objs)) (renG G g) (ofL os) w where
  ob := V.objs _ (fun d d' b hd hl hB => by
    obtain ⟨o, hm⟩ := hB.plain (hnd d d' hd)
    exact Or.inr ⟨d, o, by rw [(V.live d d' hd).1]; exact hl, by simp only [renG, hd]; exact hm⟩)
  injB := V.inj
  F1 := V.F1
  F2 _ h := h
  F3 _ h := Or.inl h
  keep := Keeps.refl _ _ _
  size := Nat.le_refl _
  fix d hd := ⟨(V.keys d).2 ((V.keysd d).1 (by
    have := fx_mem hd
    rw [← V.names] at this
    obtain ⟨⟨d', y⟩, hy, rfl⟩ := List.mem_map.1 this
    exact ⟨y, hy⟩)), fun _ => ⟨rfl, rfl, rfl⟩⟩
theorem upds_cases {α : Type} : ∀ (l : List (Nat × α)) (f : Nat → α) (k : Nat), (k ∉ l.map (·.1) ∧ upds f l k = f k) ∨ ∃ v, (k, v) ∈ l ∧ upds f l k = v
  | [], f, k => Or.inl ⟨by simp, rfl⟩
  | (d, v) :: l, f, k => by
    rcases upds_cases l (upd f d v) k with ⟨h1, h2⟩ | ⟨v', h1, h2⟩
    · by_cases hk : k = d
      · subst hk
        exact Or.inr ⟨v, List.mem_cons_self, by show upds (upd f k v) l k = v; rw [h2, upd_self]⟩
      · refine Or.inl ⟨?_, by show upds (upd f d v) l k = f k; rw [h2, upd_ne _ _ hk]⟩
        rw [List.map_cons, List.mem_cons, not_or]
        exact ⟨hk, h1⟩
    · exact Or.inr ⟨v', List.mem_cons_of_mem _ h1, h2⟩
theorem callOs_mem {ren : List (Nat × Option Nat)} {dst : Nat} {τ : Nat → Nat} : ∀ {os : List (Nat × Obj)} {k : Nat} {z : Obj}, (k, z) ∈ callOs ren dst τ os ↔ ∃ d y, (d, y) ∈ os ∧ look ren d ≠ some none ∧ k = τ d ∧ z = renO τ y
  | [], k, z => by simp [callOs]
  | (d, y) :: os, k, z => by
    unfold callOs
    split
    · rename_i h
      rw [callOs_mem]
      constructor
      · rintro ⟨d', y', h1, h2⟩
        exact ⟨d', y', List.mem_cons_of_mem _ h1, h2⟩
      · rintro ⟨d', y', h1, h2, h3⟩
        rcases List.mem_cons.1 h1 with h1 | h1
        · cases h1; exact absurd h h2
        · exact ⟨d', y', h1, h2, h3⟩
    · rename_i h
      rw [List.mem_cons, callOs_mem]
      constructor
      · rintro (h1 | ⟨d', y', h1, h2⟩)
        · cases h1
          exact ⟨d, y, List.mem_cons_self, fun e => h e, rfl, rfl⟩
        · exact ⟨d', y', List.mem_cons_of_mem _ h1, h2⟩
      · rintro ⟨d', y', h1, h2, h3, h4⟩
        rcases List.mem_cons.1 h1 with h1 | h1
        · cases h1
          exact Or.inl (by rw [h3, h4])
        · exact Or.inr ⟨d', y', h1, h2, h3, h4⟩
open Classical in
/-- The places of the objects behind a call. -/
noncomputable def backF {α : Type} (D : Nat → Nat → Prop) (f2 f : Nat → α) (k : Nat) : α := if h : ∃ d, D d k then f2 (Classical.choose h) else f k
theorem backF_in {α : Type} {D : Nat → Nat → Prop} {f2 f : Nat → α} {d k : Nat} (hi : ∀ a b, D a k → D b k → a = b) (h : D d k) : backF D f2 f k = f2 d := by
  have hx : ∃ d, D d k := ⟨d, h⟩
  unfold backF
  rw [dif_pos hx, hi _ _ (Classical.choose_spec hx) h]
theorem backF_out {α : Type} {D : Nat → Nat → Prop} {f2 f : Nat → α} {k : Nat} (h : ¬ ∃ d, D d k) : backF D f2 f k = f k := by
  unfold backF
  rw [dif_neg h]
theorem resSV_R {G : Gh} {O : Nat → Obj} {w : World} : ∀ {cms : List Cm} {vs : List Value}, All2 (CmR G O w) cms vs → SVR G O w (resSV cms) (retVal vs)
  | [], [], _ => ⟨#[], rfl, trivial⟩
  | [_], [_], h => h.1
  | _ :: _ :: _, _ :: _ :: _, h => ⟨_, rfl, h⟩
  | [], _ :: _, h => h.elim
  | _ :: _, [], h => h.elim
  | [_], _ :: _ :: _, h => h.2.elim
  | _ :: _ :: _, [_], h => h.2.elim
theorem freeze_plain : ∀ {ds : List Nat} {wr : List (Nat × Obj)}, freeze O ds = some wr → ∀ k v, (k, v) ∈ wr → v.isDeep = false
  | [], _, e, _, _, h => by cases e; cases h
  | d :: ds, wr, e, k, v, h => by
    unfold freeze at e
    split at e
    · rename_i e' t xs f l h1 h2
      cases e
      rcases List.mem_cons.1 h with h | h
      · cases h; rfl
      · exact freeze_plain h2 k v h
    · cases e
theorem call_out (h : Core C G O w) {c : Cut} {g : Gr} {cms1 cms2 : List Cm} {os1 os2 fz : List (Nat × Obj)} {vals vs : List Value} {G2 : Gh} {w2 : World} {dst : Nat} (rd : List Nat) (V : View C G O w c [] g cms1 os1 vals)
    (h2 : Core (ctxOf w (renG G g) (ofL os1) (fxOf c.objs)) G2 (ofL os2) w2) (hr : All2 (CmR G2 (ofL os2) w2) cms2 vs) (hok : callOk O g.ren dst cms2 os2 = true) (hlv : ∀ d, (ofL os1 d).live = true → d ∈ fxOf c.objs)
    (hunf : ∀ d e t xs f, (d, Obj.row e t xs f) ∈ os2 → f = false) (hfz : (bif cms2.all Cm.flat && os2.all (fun o => o.2.flat) then some [] else freeze O g.fz) = some fz) :
    StepR C G O w ⟨resSV (cms2.map (renC (callId g.ren dst))), rd, fz ++ callOs g.ren dst (callId g.ren dst) os2⟩ (retVal vs) w2 := by
  unfold callOk at hok
  simp only [Bool.and_eq_true] at hok
  obtain ⟨⟨⟨hdp, hnd⟩, hcm⟩, hos⟩ := hok
  have hdeep : ∀ d d', look g.ren d = some (some d') → (O d').isDeep = false := fun d d' hd => by
    have := List.all_eq_true.1 hdp d' (renIds_mem (look_mem hd))
    simpa using this
  have hos' : ∀ d y, (d, y) ∈ os2 → y.okIds (fun d => match look g.ren d with | some none => false | _ => true) = true ∧ (match look g.ren d with | some (some d') => kindB (O d') y | some none => true | none => isNo (O ((dst + 1) * 1000 + d))) = true := by
    intro d y hy
    have := List.all_eq_true.1 hos _ hy
    simp only [Bool.and_eq_true] at this
    exact this
  have hat : ∀ d y, (d, y) ∈ os2 → ofL os2 d = y := fun d y hy => upds_in hnd hy
  -- the objects' numbers
  have hO : ∀ d d', look g.ren d = some (some d') → O d' ≠ .no := by
    intro d d' hd
    have := (V.ren.obj d d' hd).2.2.2
    intro e
    rw [e] at this
    cases q : upds (fun _ => Obj.no) os1 d <;> rw [q] at this <;> exact this
  have tinj : ∀ d y d' y', (d, y) ∈ os2 → (d', y') ∈ os2 → look g.ren d ≠ some none → look g.ren d' ≠ some none → callId g.ren dst d = callId g.ren dst d' → d = d' := by
    intro d y d' y' hy hy' hn hn' he
    have q1 := (hos' d y hy).2
    have q2 := (hos' d' y' hy').2
    unfold callId at he
    cases l1 : look g.ren d with
    | none =>
      rw [l1] at he q1
      cases l2 : look g.ren d' with
      | none =>
        rw [l2] at he
        simp only at he
        omega
      | some z =>
        cases z with
        | none => exact absurd l2 hn'
        | some a =>
          rw [l2] at he
          simp only at he q1
          rw [he] at q1
          have := hO d' a l2
          cases q : O a <;> rw [q] at q1 this <;> first | exact absurd rfl this | cases q1
    | some z =>
      cases z with
      | none => exact absurd l1 hn
      | some a =>
        rw [l1] at he q1
        cases l2 : look g.ren d' with
        | none =>
          rw [l2] at he q2
          simp only at he q2
          rw [← he] at q2
          have := hO d a l1
          cases q : O a <;> rw [q] at q2 this <;> first | exact absurd rfl this | cases q2
        | some z' =>
          cases z' with
          | none => exact absurd l2 hn'
          | some b =>
            rw [l2] at he
            simp only at he
            subst he
            exact renIds_inj V.rnd (look_mem l1) (look_mem l2)
  -- what stands
  have hG1 : (renG G g).F = FzF G g.fz := rfl
  obtain ⟨Ff, F3, A1, A2, A3, A4, A5, A6, A7, A8⟩ : ∃ Ff F3 : Nat → Prop, Core C { G with F := Ff } (upds O fz) w ∧ Ext G O w { G with F := Ff } (upds O fz) w ∧ (∀ k, k ∉ g.fz → upds O fz k = O k) ∧ (∀ b, Ff b → F3 b) ∧ (∀ b, F3 b → G2.F b) ∧
      (∀ b, F3 b → Ff b ∨ own (ctxOf w (renG G g) (ofL os1) (fxOf c.objs)) b) ∧ ((∀ b, G2.F b → F3 b) ∨ (cms2.all Cm.flat = true ∧ os2.all (fun o => o.2.flat) = true)) ∧ (∀ b, Ff b → (renG G g).F b) := by
    cases hfl : (cms2.all Cm.flat && os2.all (fun o => o.2.flat)) with
    | true =>
      rw [hfl] at hfz
      cases hfz
      simp only [Bool.and_eq_true] at hfl
      exact ⟨G.F, G.F, h, Ext.refl _ _ _, fun _ _ => rfl, fun _ h => h, fun b hb => h2.F2 b (V.ren.F b hb), fun b hb => Or.inl hb, Or.inr hfl, V.ren.F⟩
    | false =>
      rw [hfl] at hfz
      obtain ⟨k1, k2⟩ := freeze_R h (show freeze O g.fz = some fz from hfz)
      exact ⟨FzF G g.fz, G2.F, k1, k2, fun k hk => freeze_ids hfz k hk, fun b hb => h2.F2 b hb, fun _ h => h, fun b hb => h2.F3 b hb, Or.inl (fun _ h => h), fun _ h => h⟩
  have hfp : ∀ k v, (k, v) ∈ fz → v.isDeep = false := by
    intro k v hv
    cases hfl : (cms2.all Cm.flat && os2.all (fun o => o.2.flat)) with
    | true => rw [hfl] at hfz; cases hfz; cases hv
    | false => rw [hfl] at hfz; exact freeze_plain (show freeze O g.fz = some fz from hfz) k v hv
  -- the objects behind the call
  let D : Nat → Nat → Prop := fun d k => ∃ y, (d, y) ∈ os2 ∧ look g.ren d ≠ some none ∧ callId g.ren dst d = k
  have Dinj : ∀ k a b, D a k → D b k → a = b := by
    rintro k a b ⟨y, h1, h2, h3⟩ ⟨y', h1', h2', h3'⟩
    exact tinj a y b y' h1 h1' h2 h2' (h3.trans h3'.symm)
  have L1 : ∀ d y, (d, y) ∈ os2 → look g.ren d ≠ some none → upds (upds O fz) (callOs g.ren dst (callId g.ren dst) os2) (callId g.ren dst d) = renO (callId g.ren dst) y := by
    intro d y hy hn
    have hm : (callId g.ren dst d, renO (callId g.ren dst) y) ∈ callOs g.ren dst (callId g.ren dst) os2 := callOs_mem.2 ⟨d, y, hy, hn, rfl, rfl⟩
    rcases upds_cases (callOs g.ren dst (callId g.ren dst) os2) (upds O fz) (callId g.ren dst d) with ⟨h1, _⟩ | ⟨v, h1, h2⟩
    · exact absurd (List.mem_map.2 ⟨_, hm, rfl⟩) h1
    · obtain ⟨d', y', q1, q2, q3, q4⟩ := callOs_mem.1 h1
      have : d = d' := tinj d y d' y' hy q1 hn q2 q3
      subst this
      rw [h2, q4, ← hat d y hy, hat d y' q1]
  have L2 : ∀ k, (¬ ∃ d, D d k) → upds (upds O fz) (callOs g.ren dst (callId g.ren dst) os2) k = upds O fz k := by
    intro k hk
    rcases upds_cases (callOs g.ren dst (callId g.ren dst) os2) (upds O fz) k with ⟨_, h2⟩ | ⟨v, h1, _⟩
    · exact h2
    · obtain ⟨d', y', q1, q2, q3, _⟩ := callOs_mem.1 h1
      exact absurd ⟨d', y', q1, q2, q3.symm⟩ hk
  have hbound : ∀ d d', look g.ren d = some (some d') → callId g.ren dst d = d' := by
    intro d d' hd
    unfold callId
    rw [hd]
  have hfresh : ∀ d y, (d, y) ∈ os2 → look g.ren d = none → upds O fz (callId g.ren dst d) = .no := by
    intro d y hy hd
    have q := (hos' d y hy).2
    rw [hd] at q
    have hi : callId g.ren dst d = (dst + 1) * 1000 + d := by unfold callId; rw [hd]
    have hno : O (callId g.ren dst d) = .no := by
      rw [hi]
      simp only at q
      cases e : O ((dst + 1) * 1000 + d) <;> rw [e] at q <;> first | rfl | cases q
    rw [A3 _ (fun hk => by have := V.fzl _ hk; rw [hno] at this; cases this)]
    exact hno
  have hbnd : ∀ d d', look g.ren d = some (some d') → upds O fz d' = O d' := fun d d' hd => A3 d' (fun hk => V.disj d' hk d d' hd rfl)
  -- blocks that the callee may write
  have hW : ∀ b, (ctxOf w (renG G g) (ofL os1) (fxOf c.objs)).W0 b → ∃ d d' o, look g.ren d = some (some d') ∧ (O d').live = true ∧ G.m d' = some (b, o) ∧ ¬ (renG G g).F b ∧ ∃ y, (d, y) ∈ os2 := by
    rintro b ⟨d, o, hl, hm⟩
    simp only [renG] at hm
    split at hm
    · rename_i d' hd
      have hl' : (O d').live = true := by rw [← (V.live d d' hd).1]; exact hl
      refine ⟨d, d', o, hd, hl', hm, ?_, ?_⟩
      · have hob := (call_in V hdeep).ob d
        unfold ObjR at hob
        have hm' : (renG G g).m d = some (b, o) := by simp only [renG, hd]; exact hm
        cases q : ofL os1 d with
        | no => rw [q] at hl; cases hl
        | dead => rw [q] at hl; cases hl
        | caps cs => rw [q] at hl; cases hl
        | deep e e2 t xss =>
          have hal := (V.ren.obj d d' hd).2.2.2
          have hq : upds (fun _ => Obj.no) os1 d = .deep e e2 t xss := q
          rw [hq] at hal
          have hdp' := hdeep d d' hd
          cases q' : O d' <;> rw [q'] at hal hdp' <;> first | exact hal.elim | cases hdp'
        | mp es =>
          rw [q] at hob
          obtain ⟨b', arr, clock, s1, _, _, s4, _⟩ := hob
          rw [hm'] at s1
          cases s1
          exact s4
        | box e cs =>
          rw [q] at hob
          obtain ⟨b', arr, s1, _, _, s4, _⟩ := hob
          rw [hm'] at s1
          cases s1
          exact s4
        | row e t xs f =>
          rw [q] at hob
          rcases hob.2 with ⟨_, s1⟩ | ⟨b', o', arr, t', s1, _, _, _, _, s6, s7⟩
          · rw [hm'] at s1; cases s1
          · rw [hm'] at s1
            cases s1
            have hal := (V.ren.obj d d' hd).2.2.2
            cases f with
            | false => exact s7 rfl
            | true =>
              -- rows are put back as ones that may be written
              have : ∃ y, (d, y) ∈ os1 := (V.keysd d).2 ⟨_, hd⟩
              obtain ⟨y, hy⟩ := this
              exact absurd (V.unfz d e t xs true q) (by simp)
      · have hfx := hlv d hl
        obtain ⟨f1, _⟩ := h2.fix d hfx
        by_cases hm : d ∈ os2.map (·.1)
        · obtain ⟨⟨d0, y⟩, hy, rfl⟩ := List.mem_map.1 hm
          exact ⟨y, hy⟩
        · exact absurd (upds_notin hm) f1
    · cases hm
  have hkeep : ∀ b, b < w.heap.size → ¬ (ctxOf w (renG G g) (ofL os1) (fxOf c.objs)).W0 b → w2.heap[b]? = w.heap[b]? := fun b hb hn => h2.keep.block b hb hn
  have hFf : ∀ b, Ff b → w2.heap[b]? = w.heap[b]? := fun b hb => hkeep b (A1.F1 b hb) (fun hw => by
    obtain ⟨d, d', o, _, _, _, hnF, _⟩ := hW b hw
    exact hnF (A8 b hb))
  have hsub : ∀ k, upds O fz k ≠ .no → O k ≠ .no := by
    intro k hk e
    rw [A3 k (fun hm => by have := V.fzl k hm; rw [e] at this; cases this)] at hk
    exact hk e
  -- what is known behind the call
  let G3 : Gh := { F := F3, m := backF D G2.m G.m, cp := backF D G2.cp G.cp, cap := G.cap, sub := G.sub }
  have hD : ∀ d y, (d, y) ∈ os2 → look g.ren d ≠ some none → D d (callId g.ren dst d) := fun d y hy hn => ⟨y, hy, hn, rfl⟩
  have m3 : ∀ d y, (d, y) ∈ os2 → look g.ren d ≠ some none → G3.m (callId g.ren dst d) = G2.m d ∧ G3.cp (callId g.ren dst d) = G2.cp d := fun d y hy hn =>
    ⟨backF_in (Dinj _) (hD d y hy hn), backF_in (Dinj _) (hD d y hy hn)⟩
  have m0 : ∀ k, (¬ ∃ d, D d k) → G3.m k = G.m k ∧ G3.cp k = G.cp k := fun k hk => ⟨backF_out hk, backF_out hk⟩
  have kinds : ∀ d y, (d, y) ∈ os2 → ∀ d', look g.ren d = some (some d') → Sim (O d') (renO (callId g.ren dst) y) ∧ (y.live = true → G2.m d = G.m d' ∧ G2.cp d = G.cp d' ∧ y.len = (O d').len) := by
    intro d y hy d' hd
    have q := (hos' d y hy).2
    rw [hd] at q
    simp only at q
    have hl1 : (O d').live = true := by cases e1 : O d' <;> cases e2 : y <;> rw [e1, e2] at q <;> first | rfl | cases q
    have hdd : y = .dead → Sim (O d') (renO (callId g.ren dst) y) := by
      rintro rfl
      show Sim (O d') .dead
      cases e1 : O d' <;> rw [e1] at hl1 <;> first | trivial | cases hl1
    have hfx := hlv d (by rw [(V.live d d' hd).1]; exact hl1)
    have hfix := (h2.fix d hfx).2
    rw [hat d y hy] at hfix
    have hG : (renG G g).m d = G.m d' ∧ (renG G g).cp d = G.cp d' := ⟨by simp only [renG, hd], by simp only [renG, hd]⟩
    have hlen : y.live = true → G2.m d = G.m d' ∧ G2.cp d = G.cp d' ∧ y.len = (O d').len := by
      intro hyl
      obtain ⟨e1, e2, e3⟩ := hfix hyl
      exact ⟨e1.trans hG.1, e2.trans hG.2, e3.trans (V.live d d' hd).2⟩
    refine ⟨?_, hlen⟩
    by_cases hyd : y = .dead
    · exact hdd hyd
    cases e1 : O d' <;> cases e2 : y <;> rw [e1, e2] at q <;> first | exact absurd e2 hyd | exact absurd rfl hyd | cases q | skip
    · exact trivial
    · rename_i a1 t1 x1 f1 a2 t2 x2 f2
      have := (hlen (by rw [e2]; rfl)).2.2
      rw [e1, e2] at this
      exact ⟨of_decide_eq_true q, this.symm⟩
    · exact trivial
  have ex : Ext { G with F := Ff } (upds O fz) w G3 (upds (upds O fz) (callOs g.ren dst (callId g.ren dst) os2)) w2 := by
    refine ⟨A4, hFf, fun k hk => ?_⟩
    by_cases hx : ∃ d, D d k
    · obtain ⟨d, y, hy, hn, rfl⟩ := hx
      cases hd : look g.ren d with
      | none => exact absurd (hfresh d y hy hd) hk
      | some z =>
        cases z with
        | none => exact absurd hd hn
        | some d' =>
          obtain ⟨q1, q2⟩ := kinds d y hy d' hd
          have hyo := (hos' d y hy).1
          obtain ⟨r1, r2⟩ := m3 d y hy hn
          rw [L1 d y hy hn]
          rw [hbound d d' hd] at r1 r2 ⊢
          rw [hbnd d d' hd]
          refine ⟨?_, q1, fun hnd => ?_⟩
          · cases y <;> first | (simp [renO]; done) | cases hyo
          · have hyl : y.live = true := by cases y <;> first | rfl | exact absurd rfl hnd | cases hyo
            obtain ⟨q3, q4, _⟩ := q2 hyl
            exact ⟨r1.trans q3, r2.trans q4, rfl, fun _ _ h => h⟩
    · rw [L2 k hx]
      exact ⟨hk, Sim.refl _, fun _ => ⟨(m0 k hx).1, (m0 k hx).2, rfl, fun _ _ h => h⟩⟩
  let p : Nat → Bool := fun d => match look g.ren d with
    | some none => false
    | _ => true
  have hp : ∀ d, p d = true → look g.ren d ≠ some none := by
    intro d h e
    have : p d = false := by show (match look g.ren d with | some none => false | _ => true) = false; rw [e]
    rw [this] at h; cases h
  have hin : ∀ d, ofL os2 d ≠ .no → ∃ y, (d, y) ∈ os2 := by
    intro d hd
    by_cases hm : d ∈ os2.map (·.1)
    · obtain ⟨⟨d0, y⟩, hy, rfl⟩ := List.mem_map.1 hm
      exact ⟨y, hy⟩
    · exact absurd (upds_notin hm) hd
  have R : Rn G2 (ofL os2) G3 (upds (upds O fz) (callOs g.ren dst (callId g.ren dst) os2)) (callId g.ren dst) p := by
    refine ⟨fun d hpd hd => ?_, fun d cs hd => ?_, fun d => ?_⟩
    · obtain ⟨y, hy⟩ := hin d hd
      have hn := hp d hpd
      rw [L1 d y hy hn, hat d y hy]
      have hyo := (hos' d y hy).1
      refine ⟨?_, (m3 d y hy hn).1, (m3 d y hy hn).2⟩
      cases y with
      | box e cs => show cs.length = (cs.map (renL (callId g.ren dst))).length; rw [List.length_map]
      | row e t xs f => exact ⟨rfl, rfl⟩
      | dead => trivial
      | mp es => trivial
      | _ => cases hyo
    · obtain ⟨y, hy⟩ := hin d (by rw [hd]; simp)
      have hyo := (hos' d y hy).1
      rw [hat d y hy] at hd
      rw [hd] at hyo; cases hyo
    · by_cases hd : ofL os2 d = .no
      · rw [hd]; rfl
      · obtain ⟨y, hy⟩ := hin d hd
        have hyo := (hos' d y hy).1
        rw [hat d y hy]
        cases y <;> first | rfl | cases hyo
  have hown : ∀ b, own (ctxOf w (renG G g) (ofL os1) (fxOf c.objs)) b → own C b := by
    rintro b (hb | hb)
    · exact Or.inl (Nat.le_trans h.size hb)
    · obtain ⟨d, d', o, hd, hl, hm, _⟩ := hW b hb
      exact (h.block hl hm).2
  have hcore := A1.step ex (fun k => ∃ d, D d k) (fun k hk => ⟨L2 k hk, (m0 k hk).1, (m0 k hk).2, rfl, rfl⟩) ?_ ?_ ?_ ?_ ?_ ?_
  · refine ⟨G3, ?_, ?_, ?_⟩
    · show Core C G3 (upds O (fz ++ callOs g.ren dst (callId g.ren dst) os2)) w2
      rw [upds_append]; exact hcore
    · show Ext G O w G3 (upds O (fz ++ callOs g.ren dst (callId g.ren dst) os2)) w2
      rw [upds_append]; exact A2.trans ex
    · show SVR G3 (upds O (fz ++ callOs g.ren dst (callId g.ren dst) os2)) w2 _ _
      rw [upds_append]
      refine resSV_R (hr.map_left _ fun x hx v hv => CmR.rn R (A7.imp id fun hf => ?_) (List.all_eq_true.1 hcm x hx) hv)
      exact List.all_eq_true.1 hf.1 x hx
  · -- objects that the call has not met
    intro k b hk hl hm
    have hb := (A1.blockB hl hm).1
    have hm' : Bl G (O k) k b := by
      rcases upds_cases fz O k with ⟨_, h9⟩ | ⟨v, h8, h9⟩
      · rw [h9] at hm; exact hm
      · rw [h9] at hm; exact Or.inl (hm.plain (hfp k v h8))
    have hlk : (O k).live = true := by
      by_cases hmz : k ∈ g.fz
      · exact V.fzl k hmz
      · rw [A3 k hmz] at hl; exact hl
    have hnW : ¬ (ctxOf w (renG G g) (ofL os1) (fxOf c.objs)).W0 b := by
      intro hw
      obtain ⟨d, d', o', hd, hl', hm'', _, y, hy⟩ := hW b hw
      by_cases hkd : k = d'
      · exact hk ⟨d, y, hy, by rw [hd]; simp, (hbound d d' hd).trans hkd.symm⟩
      · exact h.injB k d' b b hkd hlk hl' hm' (Or.inl ⟨o', hm''⟩) rfl
    refine ⟨hkeep b hb hnW, fun hF => ?_⟩
    rcases A6 b hF with h6 | h6 | h6
    · exact h6
    · exact absurd hb (by have : w.heap.size ≤ b := h6; omega)
    · exact absurd h6 hnW
  · -- those that it leaves
    rintro k ⟨d, y, hy, hn, rfl⟩
    have hob := h2.ob d
    unfold ObjR at hob ⊢
    rw [L1 d y hy hn]
    rw [hat d y hy] at hob
    have hyo := (hos' d y hy).1
    obtain ⟨r1, r2⟩ := m3 d y hy hn
    have hfl : (∀ b, G2.F b → F3 b) ∨ y.flat = true := by
      rcases A7 with hf | hf
      · exact Or.inl hf
      · exact Or.inr (List.all_eq_true.1 hf.2 (d, y) hy)
    cases y with
    | box e cs =>
      obtain ⟨b, arr, s1, s2, s3, s4, s5⟩ := hob
      refine ⟨b, arr, r1.trans s1, s2, ?_, fun hF => s4 (A5 b hF), hown b s5⟩
      refine s3.map_left _ fun x hx v hv => LfR.rn R (hfl.imp id fun hf => ?_) ?_ hv
      · exact List.all_eq_true.1 hf x hx
      · exact List.all_eq_true.1 hyo x hx
    | row e t xs f =>
      obtain ⟨s0, s1⟩ := hob
      refine ⟨by show xs.length ≤ G3.cp (callId g.ren dst d); rw [r2]; exact s0, ?_⟩
      rcases s1 with ⟨s1, s2⟩ | ⟨b, o, arr, t', s1, s2, s3, s4, s5, s6, s7⟩
      · exact Or.inl ⟨r2.trans s1, r1.trans s2⟩
      · refine Or.inr ⟨b, o, arr, t', r1.trans s1, s2, by rw [r2]; exact s3, ?_, hown b s5, ?_, fun hz hF => s7 hz (A5 b hF)⟩
        · intro j x hj
          obtain ⟨ce, c1, c2, c3⟩ := s4 j x hj
          refine ⟨ce, c1, ?_, c3⟩
          rcases hfl with hf | hf
          · exact c2.mono hf (fun _ _ => rfl)
          · exact c2.flat hf
        · intro hz
          rcases A7 with hf | hf
          · exact hf b (s6 hz)
          · exact absurd hz (by have := hunf d e t xs f hy; rw [this]; simp)
    | dead => trivial
    | mp es =>
      obtain ⟨b, arr, clock, s1, s2, s3, s4, s5⟩ := hob
      exact ⟨b, arr, clock, r1.trans s1, s2, s3, fun hF => s4 (A5 b hF), hown b s5⟩
    | _ => cases hyo
  · -- no block twice
    rintro k k' b b' hne ⟨d, y, hy, hn, rfl⟩ hl hl' hm hm'
    have hyo := (hos' d y hy).1
    have hyl : (ofL os2 d).live = true := by
      rw [hat d y hy]
      rw [L1 d y hy hn] at hl
      cases y <;> first | rfl | cases hl | cases hyo
    obtain ⟨r1, r2⟩ := m3 d y hy hn
    have pl : ∀ d y, (d, y) ∈ os2 → (renO (callId g.ren dst) y).isDeep = false := by
      intro d y hy
      have hyo := (hos' d y hy).1
      cases y <;> first | rfl | cases hyo
    rw [L1 d y hy hn] at hm
    obtain ⟨o, hm⟩ := hm.plain (pl d y hy)
    rw [r1] at hm
    by_cases hx : ∃ d, D d k'
    · obtain ⟨d', y', hy', hn', rfl⟩ := hx
      have hyo' := (hos' d' y' hy').1
      rw [L1 d' y' hy' hn'] at hl' hm'
      obtain ⟨o', hm'⟩ := hm'.plain (pl d' y' hy')
      rw [(m3 d' y' hy' hn').1] at hm'
      exact h2.inj d d' b o b' o' (by rintro rfl; exact hne rfl) hyl (by rw [hat d' y' hy']; cases y' <;> first | rfl | cases hl' | cases hyo') hm hm'
    · rw [L2 k' hx] at hl' hm'
      have hm1' : Bl G (upds O fz k') k' b' := hm'.old (m0 k' hx).1 rfl
      have hb' := (A1.blockB hl' (hm1'.old rfl rfl)).1
      have hm2' : Bl G (O k') k' b' := by
        rcases upds_cases fz O k' with ⟨_, h9⟩ | ⟨v, h8, h9⟩
        · rw [h9] at hm1'; exact hm1'
        · rw [h9] at hm1'; exact Or.inl (hm1'.plain (hfp k' v h8))
      have hlk : (O k').live = true := by
        by_cases hmz : k' ∈ g.fz
        · exact V.fzl k' hmz
        · rw [A3 k' hmz] at hl'; exact hl'
      rcases (h2.block hyl hm).2 with hb | hb
      · have : w.heap.size ≤ b := hb
        omega
      · obtain ⟨d1, d1', o1, hd1, hl1, hm1, _, y1, hy1⟩ := hW b hb
        have hkd : d1' ≠ k' := by
          rintro rfl
          exact hx ⟨d1, y1, hy1, by rw [hd1]; simp, hbound d1 d1' hd1⟩
        exact h.injB d1' k' b b' hkd hl1 hlk (Or.inl ⟨o1, hm1⟩) hm2'
  · -- what stands
    intro b hb
    rcases A6 b hb with h6 | h6
    · exact Or.inl h6
    · exact Or.inr ⟨h2.F1 b (A5 b hb), hown b h6⟩
  · -- the caller's memory
    refine ⟨h2.keep.os, h2.keep.tape, h2.keep.output, h2.keep.size, fun b hb hn => hkeep b (Nat.lt_of_lt_of_le hb h.size) (fun hw => ?_)⟩
    rcases hown b (Or.inr hw) with h5 | h5
    · omega
    · exact hn h5
  · -- what came in
    rintro k hk ⟨d, y, hy, hn, rfl⟩ hno hl
    cases hd : look g.ren d with
    | none => exact absurd (hfresh d y hy hd) hno
    | some z =>
      cases z with
      | none => exact absurd hd hn
      | some d' =>
        obtain ⟨q1, q2⟩ := kinds d y hy d' hd
        have hyo := (hos' d y hy).1
        have hyl : y.live = true := by
          rw [L1 d y hy hn] at hl
          cases y <;> first | rfl | cases hl | cases hyo
        obtain ⟨q3, q4, q5⟩ := q2 hyl
        obtain ⟨r1, r2⟩ := m3 d y hy hn
        rw [L1 d y hy hn]
        rw [hbound d d' hd] at r1 r2 ⊢
        rw [hbnd d d' hd]
        have q := (hos' d y hy).2
        rw [hd] at q
        simp only at q
        refine ⟨?_, r1.trans q3, r2.trans q4, ?_⟩
        · cases e1 : O d' <;> cases e2 : y <;> rw [e1, e2] at q <;> first | rfl | cases q
        · rw [← q5]
          cases y <;> first | (simp [renO, Obj.len]; done) | cases hyo
end
end Go.Proofs.YtamgbcgfjhpedaaDoor.VE
