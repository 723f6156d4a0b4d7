/- Looking at a state along a cut, and the state that a cut's values tell (lemmas on the evaluator; no statement is proved here). -/
import Derived.Test.YtamgbcgfjhpedaaDoorVeOpsI
namespace Go.Proofs.YtamgbcgfjhpedaaDoor.VE
open Go Go.RowKit
section
variable {P : Program} {C : Ctx} {G G' : Gh} {O O' : Nat → Obj} {w : World}
/-- A value as it is after its typed turn: a nil slice has a type. -/
def Tle : TV → TV → Prop
  | .mk t x, tv => tv = .mk t x
  | .nil, tv => ∃ e t, tv = .mk (.list e t) ([] : List t.T)
theorem Tle.R {F : Nat → Prop} {a b : TV} {v : Value} (h : Tle a b) (k : TVR F w a v) : TVR F w b v := by
  cases a with
  | mk t x => cases (show b = .mk t x from h); exact k
  | nil =>
    obtain ⟨e, t, rfl⟩ := h
    obtain rfl : v = .slice none 0 0 := k
    exact ⟨none, 0, rfl, Nat.le_refl _, fun hn => absurd hn (by simp)⟩
theorem ofTV_Tle {t : Ty} {tv : TV} {x : t.T} (e : ofTV t tv = some x) : Tle tv (.mk t x) := by
  cases tv with
  | mk t' y =>
    simp only [ofTV] at e
    by_cases ht : t' = t
    · subst ht
      simp only [dite_true, Option.some.injEq] at e
      subst e
      exact rfl
    · rw [dif_neg ht] at e; cases e
  | nil =>
    cases t with
    | list e' t' => cases e; exact ⟨e', t', rfl⟩
    | _ => cases e
theorem toProds_Tle : ∀ {ts : List Ty} {l : List TV} {x : prods ts}, toProds ts l = some x → All2 Tle l (ofProds ts x)
  | [], [], _, _ => trivial
  | [], _ :: _, _, e => by cases e
  | [t], [v], x, e => ⟨ofTV_Tle e, trivial⟩
  | [_], [], _, e => by cases e
  | [_], _ :: _ :: _, _, e => by cases e
  | _ :: _ :: _, [], _, e => by cases e
  | t :: t' :: ts, v :: l, x, e => by
    unfold toProds at e
    cases e1 : ofTV t v with
    | none => rw [e1] at e; cases e
    | some a =>
      cases e2 : toProds (t' :: ts) l with
      | none => rw [e1, e2] at e; cases e
      | some b =>
        rw [e1, e2] at e
        cases e
        exact ⟨ofTV_Tle e1, toProds_Tle e2⟩

def Alike : Obj → Obj → Prop
  | .row _ t xs _, .row _ t' xs' _ => t = t' ∧ xs.length = xs'.length
  | .box _ cs, .box _ cs' => cs.length = cs'.length
  | .caps _, .caps _ => True
  | .dead, .dead => True
  | .mp _, .mp _ => True
  | .deep _ e2 t xs, .deep _ e2' t' xs' => e2 = e2' ∧ t = t' ∧ xs.length = xs'.length
  | _, _ => False
/-- From one set of objects' numbers into another. -/
structure Ren (G : Gh) (O : Nat → Obj) (G' : Gh) (O' : Nat → Obj) (ρ : Nat → Option (Option Nat)) (fz : List Nat) : Prop where
  F : ∀ b, G.F b → G'.F b
  fz : ∀ d ∈ fz, ∀ b o, G.m d = some (b, o) → G'.F b
  obj : ∀ d d', ρ d = some (some d') → G'.m d = G.m d' ∧ G'.cp d = G.cp d' ∧ G'.cap d = G.cap d' ∧ Alike (O d') (O' d)
  nil : ∀ d, ρ d = some none → (∃ e t, O' d = .row e t [] false) ∧ G'.m d = none ∧ G'.cp d = 0
theorem Alike.row {a b : Obj} {R R' : Ty → Nat → Prop} (h : Alike a b) (k : OnRow a R) (hr : ∀ t n, R t n → R' t n) : OnRow b R' := by
  cases a <;> cases b <;> simp_all [Alike, OnRow]
theorem Alike.box {a b : Obj} {R R' : Prop} (h : Alike a b) (k : OnBox a R) (hr : R → R') : OnBox b R' := by
  cases a <;> cases b <;> simp_all [Alike, OnBox]
theorem Alike.map {a b : Obj} {R R' : Prop} (h : Alike a b) (k : OnMap a R) (hr : R → R') : OnMap b R' := by
  cases a <;> cases b <;> simp_all [Alike, OnMap]
theorem Alike.caps {a b : Obj} {R R' : Prop} (h : Alike a b) (k : OnCaps a R) (hr : R → R') : OnCaps b R' := by
  cases a <;> cases b <;> simp_all [Alike, OnCaps]

/-- What a look along a shape adds, and what is put back. -/
structure Adds {α : Type} (g g' : Gr) (new : List TV) (put : List TV → Option (α × List TV)) (sem : Gh → (Nat → Obj) → α → Prop) (G : Gh) (O : Nat → Obj) : Prop where
  out : g'.out = new.reverse ++ g.out
  ren : ∀ d y, look g.ren d = some y → look g'.ren d = some y
  fz : ∀ d ∈ g.fz, d ∈ g'.fz
  live : ∀ d ∈ g'.fz, d ∈ g.fz ∨ (O d).live = true
  put : ∀ new', All2 Tle new new' → ∀ l, ∃ x, put (new' ++ l) = some (x, l) ∧ ∀ G' O' ρ Fz, Ren G O G' O' ρ Fz → (∀ d y, look g'.ren d = some y → ρ d = some y) → (∀ d ∈ g'.fz, d ∈ Fz) → sem G' O' x
theorem look_cons {α : Type} (l : List (Nat × α)) (k d : Nat) (v : α) : look ((k, v) :: l) d = if d = k then some v else look l d := by
  show (bif Nat.beq k d then some v else look l d) = _
  by_cases h : d = k
  · subst h
    rw [if_pos rfl]
    have : Nat.beq d d = true := Nat.beq_refl d
    rw [this]; rfl
  · rw [if_neg h]
    have : Nat.beq k d = false := by
      cases e : Nat.beq k d with
      | false => rfl
      | true => exact absurd (Nat.eq_of_beq_eq_true e).symm h
    rw [this]; rfl
theorem bind_ok {g g' : Gr} {d : Nat} {y : Option Nat} (e : g.bind d y = some g') : look g'.ren d = some y ∧ g'.out = g.out ∧ g'.fz = g.fz ∧ ∀ k z, look g.ren k = some z → look g'.ren k = some z := by
  unfold Gr.bind at e
  cases e1 : look g.ren d with
  | none =>
    rw [e1] at e
    cases e
    refine ⟨by rw [look_cons, if_pos rfl], rfl, rfl, fun k z hk => ?_⟩
    rw [look_cons]
    by_cases h : k = d
    · subst h; rw [e1] at hk; cases hk
    · rw [if_neg h]; exact hk
  | some z =>
    rw [e1] at e
    simp only at e
    by_cases h : z = y
    · rw [if_pos h] at e
      cases e
      subst h
      exact ⟨e1, rfl, rfl, fun k z hk => hk⟩
    · rw [if_neg h] at e; cases e
theorem Adds.const {α : Type} {g : Gr} {put : List TV → Option (α × List TV)} {sem : Gh → (Nat → Obj) → α → Prop} (x : α) (hp : ∀ l, put l = some (x, l)) (hs : ∀ G' O', sem G' O' x) : Adds g g [] put sem G O :=
  ⟨rfl, fun _ _ h => h, fun _ h => h, fun _ h => Or.inl h, fun new' h l => by
    rw [h.nil_inv]
    exact ⟨x, hp l, fun G' O' _ _ _ _ _ => hs G' O'⟩⟩
theorem pureL_live {x : Lf} {tv : TV} {ds : List Nat} (e : pureL O x = some (tv, ds)) : ∀ d ∈ ds, (O d).live = true := by
  intro k hk
  cases x with
  | o d =>
    simp only [pureL] at e
    cases hd : O d with
    | row e' t xs fz =>
      rw [hd] at e
      cases e
      rw [List.mem_singleton.1 hk, hd]; rfl
    | _ => rw [hd] at e; cases e
  | os d off len =>
    simp only [pureL] at e
    cases hd : O d with
    | row e' t xs fz =>
      rw [hd] at e
      cases e
      rw [List.mem_singleton.1 hk, hd]; rfl
    | _ => rw [hd] at e; cases e
  | v t x => cases e; cases hk
  | bl b => cases e; cases hk
  | b p i => cases e; cases hk
  | nb p i => cases e; cases hk
  | nils => cases e; cases hk
  | u => cases e
  | q n p i => cases e
  | np => cases e
  | p d c => cases e
  | e t x c => cases e
  | oe d i c => cases e
  | fn0 f => cases e
  | fn f d => cases e
  | m d => cases e
  | oh d i n => cases e
  | oi d i j c => cases e
  | ap d => cases e
theorem pureLs_live : ∀ {ls : List Lf} {vs : List TV} {ds : List Nat}, pureLs O ls = some (vs, ds) → ∀ d ∈ ds, (O d).live = true
  | [], vs, ds, e => by cases e; intro d hd; cases hd
  | x :: ls, vs, ds, e => by
    unfold pureLs at e
    cases e1 : pureL O x with
    | none => rw [e1] at e; cases e
    | some r1 =>
      obtain ⟨tv, d1⟩ := r1
      cases e2 : pureLs O ls with
      | none => rw [e1, e2] at e; cases e
      | some r2 =>
        obtain ⟨tvs, d2⟩ := r2
        rw [e1, e2] at e
        cases e
        intro d hd
        rcases List.mem_append.1 hd with hd | hd
        · exact pureL_live e1 d hd
        · exact pureLs_live e2 d hd
theorem packs_live {t : Ty} {ls : List Lf} {x : t.T} {ds : List Nat} (e : packs O t ls = some (x, ds)) : ∀ d ∈ ds, (O d).live = true := by
  unfold packs at e
  cases e1 : pureLs O ls with
  | none => rw [e1] at e; cases e
  | some r1 =>
    obtain ⟨vs, d1⟩ := r1
    rw [e1] at e
    simp only at e
    cases e2 : ofTVs t vs with
    | none => rw [e2] at e; cases e
    | some r2 =>
      obtain ⟨y, l⟩ := r2
      rw [e2] at e
      cases l with
      | cons _ _ => cases e
      | nil => cases e; exact pureLs_live e1
theorem grabL_ok (h : Core C G O w) {g g' : Gr} {s : LSh} {x : Lf} {v : Value} (e : grabL O g s x = some g') (hx : LfR G O w x v) : ∃ new, Adds g g' new (putL s) (fun G' O' y => LfR G' O' w y v) G O := by
  unfold grabL at e
  split at e
  · rename_i t
    split at e
    · rename_i tv ds hp
      cases e
      refine ⟨[tv], rfl, fun _ _ h => h, fun d hd => List.mem_append_right _ hd, fun d hd => (List.mem_append.1 hd).elim (fun k => Or.inr (pureL_live hp d k)) Or.inl, fun new' hn l => ?_⟩
      obtain ⟨tv', m, rfl, h1, h2⟩ := hn.cons_inv
      obtain rfl := h2.nil_inv
      cases tv' with
      | nil =>
        cases tv with
        | mk t' y => exact absurd h1 (by intro e; cases e)
        | nil => obtain ⟨_, _, e⟩ := h1; cases e
      | mk t' y =>
        refine ⟨.v t' y, rfl, fun G' O' ρ Fz R hρ hz => ⟨hx.1, ?_⟩⟩
        exact h1.R (pureL_R h hx hp R.F (fun d hd => R.fz d (hz d (List.mem_append_left _ hd))))
    · cases e
  · rename_i d d'
    obtain ⟨h1, h2, h3, h4⟩ := bind_ok e
    refine ⟨[], by rw [h2]; rfl, h4, fun k hk => by rw [h3]; exact hk, fun k hk => Or.inl (by rw [← h3]; exact hk), fun new' hn l => ?_⟩
    obtain rfl := hn.nil_inv
    refine ⟨.o d, rfl, fun G' O' ρ Fz R hρ hz => ⟨hx.1, ?_⟩⟩
    obtain ⟨r1, r2, _, r4⟩ := R.obj d d' (hρ d _ h1)
    have k : OnRow (O d') (fun t n => HdR G d' t.sz n 0 n v) := hx.2
    rw [lfb_o]
    refine r4.row k (fun t n hh => ?_)
    unfold HdR at hh ⊢
    rw [r1, r2]; exact hh
  · rename_i d
    obtain ⟨h1, h2, h3, h4⟩ := bind_ok e
    refine ⟨[], by rw [h2]; rfl, h4, fun k hk => by rw [h3]; exact hk, fun k hk => Or.inl (by rw [← h3]; exact hk), fun new' hn l => ?_⟩
    obtain rfl := hn.nil_inv
    refine ⟨.o d, rfl, fun G' O' ρ Fz R hρ hz => ⟨hx.1, ?_⟩⟩
    obtain ⟨⟨e', t', r1⟩, r2, r3⟩ := R.nil d (hρ d _ h1)
    obtain rfl : v = .slice none 0 0 := hx.2
    rw [lfb_o, r1]
    exact ⟨by simp, none, 0, rfl, Nat.le_refl _, by rw [r3], fun hp => absurd hp (by omega)⟩
  · rename_i d c d' c'
    by_cases hc : c = c'
    · subst hc
      rw [if_pos rfl] at e
      obtain ⟨h1, h2, h3, h4⟩ := bind_ok e
      refine ⟨[], by rw [h2]; rfl, h4, fun k hk => by rw [h3]; exact hk, fun k hk => Or.inl (by rw [← h3]; exact hk), fun new' hn l => ?_⟩
      obtain rfl := hn.nil_inv
      refine ⟨.p d c, rfl, fun G' O' ρ Fz R hρ hz => ⟨hx.1, ?_⟩⟩
      obtain ⟨r1, _, _, r4⟩ := R.obj d d' (hρ d _ h1)
      have k : OnBox (O d') (∃ b o, G.m d' = some (b, o) ∧ v = .pointer (some ⟨b, o + c, none⟩)) := hx.2
      show OnBox (O' d) _
      exact r4.box k (fun ⟨b, o, e1, e2⟩ => ⟨b, o, r1.trans e1, e2⟩)
    · rw [if_neg hc] at e; cases e
  · rename_i f d f' d'
    by_cases hf : f = f'
    · subst hf
      rw [if_pos rfl] at e
      obtain ⟨h1, h2, h3, h4⟩ := bind_ok e
      refine ⟨[], by rw [h2]; rfl, h4, fun k hk => by rw [h3]; exact hk, fun k hk => Or.inl (by rw [← h3]; exact hk), fun new' hn l => ?_⟩
      obtain rfl := hn.nil_inv
      refine ⟨.fn f d, rfl, fun G' O' ρ Fz R hρ hz => ⟨hx.1, ?_⟩⟩
      obtain ⟨_, _, r3, r4⟩ := R.obj d d' (hρ d _ h1)
      have k : OnCaps (O d') (v = .func (.func f) #[] (G.cap d').toArray) := hx.2
      show OnCaps (O' d) _
      exact r4.caps k (fun e => by rw [r3]; exact e)
    · rw [if_neg hf] at e; cases e
  · rename_i f f'
    by_cases hf : f = f'
    · subst hf
      rw [if_pos rfl] at e
      cases e
      exact ⟨[], Adds.const (.fn0 f) (fun _ => rfl) (fun _ _ => hx)⟩
    · rw [if_neg hf] at e; cases e
  · cases e
    exact ⟨[], Adds.const .np (fun _ => rfl) (fun _ _ => hx)⟩
  · cases e
    exact ⟨[], Adds.const .nils (fun _ => rfl) (fun _ _ => hx)⟩
  · cases e
    exact ⟨[], Adds.const .u (fun _ => rfl) (fun _ _ => ⟨hx.1, trivial⟩)⟩
  · rename_i d d'
    obtain ⟨h1, h2, h3, h4⟩ := bind_ok e
    refine ⟨[], by rw [h2]; rfl, h4, fun k hk => by rw [h3]; exact hk, fun k hk => Or.inl (by rw [← h3]; exact hk), fun new' hn l => ?_⟩
    obtain rfl := hn.nil_inv
    refine ⟨.m d, rfl, fun G' O' ρ Fz R hρ hz => ⟨hx.1, ?_⟩⟩
    obtain ⟨r1, _, _, r4⟩ := R.obj d d' (hρ d _ h1)
    have k : OnMap (O d') (∃ b, G.m d' = some (b, 0) ∧ v = .map (some b)) := hx.2
    show OnMap (O' d) _
    exact r4.map k (fun ⟨b, e1, e2⟩ => ⟨b, r1.trans e1, e2⟩)
  · rename_i d d'
    obtain ⟨h1, h2, h3, h4⟩ := bind_ok e
    refine ⟨[], by rw [h2]; rfl, h4, fun k hk => by rw [h3]; exact hk, fun k hk => Or.inl (by rw [← h3]; exact hk), fun new' hn l => ?_⟩
    obtain rfl := hn.nil_inv
    refine ⟨.ap d, rfl, fun G' O' ρ Fz R hρ hz => ⟨hx.1, ?_⟩⟩
    obtain ⟨r1, r2, _, r4⟩ := R.obj d d' (hρ d _ h1)
    have k : OnRow (O d') (fun _ n => 0 < n ∧ n = G.cp d' ∧ ∃ b o, G.m d' = some (b, o) ∧ v = .pointer (some ⟨b, o, none⟩)) := hx.2
    show OnRow (O' d) (fun _ n => 0 < n ∧ n = G'.cp d ∧ ∃ b o, G'.m d = some (b, o) ∧ v = .pointer (some ⟨b, o, none⟩))
    refine r4.row k (fun t n hh => ?_)
    rw [r1, r2]; exact hh
  · cases e
theorem Adds.seq {α β γ : Type} {g g1 g2 : Gr} {n1 n2 : List TV} {p1 : List TV → Option (α × List TV)} {p2 : List TV → Option (β × List TV)} {s1 : Gh → (Nat → Obj) → α → Prop} {s2 : Gh → (Nat → Obj) → β → Prop}
    (h1 : Adds g g1 n1 p1 s1 G O) (h2 : Adds g1 g2 n2 p2 s2 G O) (f : α → β → γ) (p : List TV → Option (γ × List TV)) (s : Gh → (Nat → Obj) → γ → Prop)
    (hp : ∀ l x l1 y l2, p1 l = some (x, l1) → p2 l1 = some (y, l2) → p l = some (f x y, l2)) (hs : ∀ G' O' x y, s1 G' O' x → s2 G' O' y → s G' O' (f x y)) : Adds g g2 (n1 ++ n2) p s G O where
  out := by rw [h2.out, h1.out]; simp
  ren d y hd := h2.ren d y (h1.ren d y hd)
  fz d hd := h2.fz d (h1.fz d hd)
  live d hd := (h2.live d hd).elim (fun k => h1.live d k) Or.inr
  put new' hn l := by
    obtain ⟨a, b, rfl, ha, hb⟩ := hn.split
    obtain ⟨x, x1, x2⟩ := h1.put a ha (b ++ l)
    obtain ⟨y, y1, y2⟩ := h2.put b hb l
    refine ⟨f x y, hp _ x _ y _ (by rw [List.append_assoc]; exact x1) y1, fun G' O' ρ Fz R hρ hz => ?_⟩
    exact hs G' O' x y (x2 G' O' ρ Fz R (fun d z hd => hρ d z (h2.ren d z hd)) (fun d hd => hz d (h2.fz d hd))) (y2 G' O' ρ Fz R hρ hz)
theorem grabLs_ok (h : Core C G O w) : ∀ {ss : List LSh} {xs : List Lf} {g g' : Gr} {vs : List Value}, grabLs O g ss xs = some g' → All2 (LfR G O w) xs vs → ∃ new, Adds g g' new (putLs ss) (fun G' O' ys => All2 (LfR G' O' w) ys vs ∧ ys.length = xs.length) G O
  | [], [], g, g', vs, e, hx => by
    cases e
    obtain rfl := hx.nil_inv
    exact ⟨[], Adds.const [] (fun _ => rfl) (fun _ _ => ⟨trivial, rfl⟩)⟩
  | s :: ss, x :: xs, g, g', vs, e, hx => by
    obtain ⟨v, m, rfl, h1, h2⟩ := hx.cons_inv
    unfold grabLs at e
    cases e1 : grabL O g s x with
    | none => rw [e1] at e; cases e
    | some g1 =>
      rw [e1] at e
      obtain ⟨n1, a1⟩ := grabL_ok h e1 h1
      obtain ⟨n2, a2⟩ := grabLs_ok h e h2
      refine ⟨n1 ++ n2, Adds.seq a1 a2 (fun y ys => y :: ys) _ _ (fun l y l1 ys l2 e1 e2 => ?_) (fun G' O' y ys k1 k2 => ⟨⟨k1, k2.1⟩, by rw [List.length_cons, List.length_cons, k2.2]⟩)⟩
      simp only [putLs, e1, e2]
  | [], _ :: _, _, _, _, e, _ => by cases e
  | _ :: _, [], _, _, _, e, _ => by cases e
theorem grabC_ok (h : Core C G O w) {g g' : Gr} {s : CSh} {x : Cm} {v : Value} (e : grabC O g s x = some g') (hx : CmR G O w x v) : ∃ new, Adds g g' new (putC s) (fun G' O' y => CmR G' O' w y v) G O := by
  unfold grabC at e
  split at e
  · rename_i s y
    obtain ⟨n, a⟩ := grabL_ok h e hx
    refine ⟨n, a.out, a.ren, a.fz, a.live, fun new' hn l => ?_⟩
    obtain ⟨z, z1, z2⟩ := a.put new' hn l
    exact ⟨.l z, by simp only [putC, z1], z2⟩
  · rename_i ss ys
    obtain ⟨cs, rfl, hx⟩ := hx
    obtain ⟨n, a⟩ := grabLs_ok h e hx
    refine ⟨n, a.out, a.ren, a.fz, a.live, fun new' hn l => ?_⟩
    obtain ⟨z, z1, z2⟩ := a.put new' hn l
    exact ⟨.a z, by simp only [putC, z1], fun G' O' ρ Fz R hρ hz => ⟨cs, rfl, (z2 G' O' ρ Fz R hρ hz).1⟩⟩
  · rename_i t ys
    obtain ⟨cs, rfl, hx⟩ := hx
    split at e
    · rename_i y ds hp
      cases e
      refine ⟨[.mk t y], rfl, fun _ _ h => h, fun d hd => List.mem_append_right _ hd, fun d hd => (List.mem_append.1 hd).elim (fun k => Or.inr (packs_live hp d k)) Or.inl, fun new' hn l => ?_⟩
      obtain ⟨tv', m, rfl, h1, h2⟩ := hn.cons_inv
      obtain rfl := h2.nil_inv
      obtain rfl : tv' = .mk t y := h1
      refine ⟨.a (leaves t y), rfl, fun G' O' ρ Fz R hρ hz => ⟨cs, rfl, leaves_R ?_⟩⟩
      exact packs_R h hp hx R.F (fun d hd => R.fz d (hz d (List.mem_append_left _ hd)))
    · cases e
  · cases e
    exact ⟨[], Adds.const .u (fun _ => rfl) (fun _ _ => trivial)⟩
  · cases e
theorem grabCs_ok (h : Core C G O w) : ∀ {ss : List CSh} {xs : List Cm} {g g' : Gr} {vs : List Value}, grabCs O g ss xs = some g' → All2 (CmR G O w) xs vs → ∃ new, Adds g g' new (putCs ss) (fun G' O' ys => All2 (CmR G' O' w) ys vs) G O
  | [], [], g, g', vs, e, hx => by
    cases e
    obtain rfl := hx.nil_inv
    exact ⟨[], Adds.const [] (fun _ => rfl) (fun _ _ => trivial)⟩
  | s :: ss, x :: xs, g, g', vs, e, hx => by
    obtain ⟨v, m, rfl, h1, h2⟩ := hx.cons_inv
    unfold grabCs at e
    cases e1 : grabC O g s x with
    | none => rw [e1] at e; cases e
    | some g1 =>
      rw [e1] at e
      obtain ⟨n1, a1⟩ := grabC_ok h e1 h1
      obtain ⟨n2, a2⟩ := grabCs_ok h e h2
      refine ⟨n1 ++ n2, Adds.seq a1 a2 (fun y ys => y :: ys) _ _ (fun l y l1 ys l2 e1 e2 => ?_) (fun G' O' y ys k1 k2 => ⟨k1, k2⟩)⟩
      simp only [putCs, e1, e2]
  | [], _ :: _, _, _, _, e, _ => by cases e
  | _ :: _, [], _, _, _, e, _ => by cases e
end
end Go.Proofs.YtamgbcgfjhpedaaDoor.VE
