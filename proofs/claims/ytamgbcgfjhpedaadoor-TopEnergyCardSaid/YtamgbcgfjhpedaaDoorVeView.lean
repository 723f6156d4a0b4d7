/- A cut's objects, and the whole state that a cut's values tell (lemmas on the evaluator; no statement is proved here). -/
import Derived.Test.YtamgbcgfjhpedaaDoorVeCut
namespace Go.Proofs.YtamgbcgfjhpedaaDoor.VE
open Go Go.RowKit
section
variable {P : Program} {C : Ctx} {G G' : Gh} {O O' : Nat → Obj} {w : World}
/-- An object that is put back, beside the one that was looked at. -/
def ObjK (O : Nat → Obj) (dd : Option Nat) (y : Obj) : Prop := match dd, y with
  | none, .row _ _ xs fz => xs.length = 0 ∧ fz = false
  | none, _ => False
  | some d', .row e t xs fz => O d' = .row e t xs false ∧ fz = false
  | some d', .box e cs' => ∃ cs, O d' = .box e cs ∧ cs.length = cs'.length
  | some d', .caps _ => ∃ cs, O d' = .caps cs
  | some d', .dead => O d' = .dead
  | some d', .mp es => O d' = .mp es
  | some d', .deep e e2 t xss => O d' = .deep e e2 t xss
  | some _, _ => False
def ObjS (C : Ctx) (G : Gh) (w : World) (dd : Option Nat) (G' : Gh) (O' : Nat → Obj) (y : Obj) : Prop := match dd, y with
  | some d', .box e cs' => ∃ b arr, G.m d' = some (b, 0) ∧ blk w b arr e ∧ All2 (LfR G' O' w) cs' arr.toList ∧ ¬ G.F b ∧ own C b
  | some d', .caps cs' => All2 (CmR G' O' w) cs' (G.cap d')
  | _, _ => True
theorem Alike.same {a b : Obj} (h : Alike a b) : b.live = a.live ∧ b.len = a.len := by
  cases a <;> cases b <;> simp_all [Alike, Obj.live, Obj.len]
theorem putLs_length : ∀ {ss : List LSh} {l l' : List TV} {xs : List Lf}, putLs ss l = some (xs, l') → xs.length = ss.length
  | [], _, _, _, e => by cases e; rfl
  | s :: ss, l, l', xs, e => by
    unfold putLs at e
    cases e1 : putL s l with
    | none => rw [e1] at e; cases e
    | some r =>
      obtain ⟨x, l1⟩ := r
      rw [e1] at e
      simp only at e
      cases e2 : putLs ss l1 with
      | none => rw [e2] at e; cases e
      | some r2 =>
        obtain ⟨ys, l2⟩ := r2
        rw [e2] at e
        cases e
        rw [List.length_cons, List.length_cons, putLs_length e2]
theorem grabLs_length : ∀ {ss : List LSh} {xs : List Lf} {g g' : Gr}, grabLs O g ss xs = some g' → ss.length = xs.length
  | [], [], _, _, _ => rfl
  | s :: ss, x :: xs, g, g', e => by
    unfold grabLs at e
    cases e1 : grabL O g s x with
    | none => rw [e1] at e; cases e
    | some g1 =>
      rw [e1] at e
      rw [List.length_cons, List.length_cons, grabLs_length e]
  | [], _ :: _, _, _, e => by cases e
  | _ :: _, [], _, _, e => by cases e
theorem grabO_ok (h : Core C G O w) {g g' : Gr} {d : Nat} {s : OSh} (e : grabO O g d s = some g') : ∃ dd, look g.ren d = some dd ∧ ∃ new, g'.out = new.reverse ++ g.out ∧ (∀ k y, look g.ren k = some y → look g'.ren k = some y) ∧ (∀ k ∈ g.fz, k ∈ g'.fz) ∧ (∀ k ∈ g'.fz, k ∈ g.fz ∨ (O k).live = true) ∧
    ∀ new', All2 Tle new new' → ∀ l, ∃ y, putO s (new' ++ l) = some (y, l) ∧ ObjK O dd y ∧ ∀ G' O' ρ Fz, Ren G O G' O' ρ Fz → (∀ k y, look g'.ren k = some y → ρ k = some y) → (∀ k ∈ g'.fz, k ∈ Fz) → ObjS C G w dd G' O' y := by
  unfold grabO at e
  split at e
  · cases e
  · rename_i hl
    refine ⟨none, hl, ?_⟩
    split at e
    · rename_i el t
      cases e
      refine ⟨[.mk (.list el t) ([] : List t.T)], rfl, fun _ _ h => h, fun _ h => h, fun _ h => Or.inl h, fun new' hn l => ?_⟩
      obtain ⟨tv', m, rfl, h1, h2⟩ := hn.cons_inv
      obtain rfl := h2.nil_inv
      obtain rfl : tv' = .mk (.list el t) ([] : List t.T) := h1
      exact ⟨.row el t [] false, rfl, ⟨rfl, rfl⟩, fun _ _ _ _ _ _ _ => trivial⟩
    · cases e
  · rename_i d' hl
    refine ⟨some d', hl, ?_⟩
    split at e
    · rename_i el t e' t' xs hd
      by_cases hc : el = e' ∧ t = t'
      · rw [if_pos hc] at e
        cases e
        obtain ⟨rfl, rfl⟩ := hc
        refine ⟨[.mk (.list el t) xs], rfl, fun _ _ h => h, fun _ h => h, fun _ h => Or.inl h, fun new' hn l => ?_⟩
        obtain ⟨tv', m, rfl, h1, h2⟩ := hn.cons_inv
        obtain rfl := h2.nil_inv
        obtain rfl : tv' = .mk (.list el t) xs := h1
        exact ⟨.row el t xs false, rfl, ⟨hd, rfl⟩, fun _ _ _ _ _ _ _ => trivial⟩
      · rw [if_neg hc] at e; cases e
    · rename_i el ss e' cs hd
      by_cases hc : el = e'
      · subst hc
        rw [if_pos rfl] at e
        obtain ⟨b, arr, h1, h2, h3, h4, h5⟩ := h.box hd
        obtain ⟨new, a⟩ := grabLs_ok h e h3
        refine ⟨new, a.out, a.ren, a.fz, a.live, fun new' hn l => ?_⟩
        obtain ⟨ys, y1, y2⟩ := a.put new' hn l
        exact ⟨.box el ys, by simp only [putO, y1], ⟨cs, hd, by rw [putLs_length y1, grabLs_length e]⟩, fun G' O' ρ Fz R hρ hz => ⟨b, arr, h1, h2, (y2 G' O' ρ Fz R hρ hz).1, h4, h5⟩⟩
      · rw [if_neg hc] at e; cases e
    · rename_i ss cs hd
      have k := h.ob d'
      unfold ObjR at k
      rw [hd] at k
      obtain ⟨new, a⟩ := grabCs_ok h e k
      refine ⟨new, a.out, a.ren, a.fz, a.live, fun new' hn l => ?_⟩
      obtain ⟨ys, y1, y2⟩ := a.put new' hn l
      exact ⟨.caps ys, by simp only [putO, y1], ⟨cs, hd⟩, fun G' O' ρ Fz R hρ hz => y2 G' O' ρ Fz R hρ hz⟩
    · rename_i hd
      cases e
      refine ⟨[], rfl, fun _ _ h => h, fun _ h => h, fun _ h => Or.inl h, fun new' hn l => ?_⟩
      obtain rfl := hn.nil_inv
      exact ⟨.dead, rfl, hd, fun _ _ _ _ _ _ _ => trivial⟩
    · rename_i es hd
      cases e
      refine ⟨[.mk mpT es], rfl, fun _ _ h => h, fun _ h => h, fun _ h => Or.inl h, fun new' hn l => ?_⟩
      obtain ⟨tv', m, rfl, h1, h2⟩ := hn.cons_inv
      obtain rfl := h2.nil_inv
      obtain rfl : tv' = .mk mpT es := h1
      exact ⟨.mp es, rfl, hd, fun _ _ _ _ _ _ _ => trivial⟩
    · rename_i el e2 t el' e2' t' xss hd
      by_cases hc : el = el' ∧ e2 = e2' ∧ t = t'
      · rw [if_pos hc] at e
        cases e
        obtain ⟨rfl, rfl, rfl⟩ := hc
        refine ⟨[.mk (.list el (.list e2 t)) xss], rfl, fun _ _ h => h, fun _ h => h, fun _ h => Or.inl h, fun new' hn l => ?_⟩
        obtain ⟨tv', m, rfl, h1, h2⟩ := hn.cons_inv
        obtain rfl := h2.nil_inv
        obtain rfl : tv' = .mk (.list el (.list e2 t)) xss := h1
        exact ⟨.deep el e2 t xss, rfl, hd, fun _ _ _ _ _ _ _ => trivial⟩
      · rw [if_neg hc] at e; cases e
    · cases e
theorem grabOs_ok (h : Core C G O w) : ∀ {ls : List (Nat × OSh)} {g g' : Gr}, grabOs O g ls = some g' → ∃ new, g'.out = new.reverse ++ g.out ∧ (∀ k y, look g.ren k = some y → look g'.ren k = some y) ∧ (∀ k ∈ g.fz, k ∈ g'.fz) ∧ (∀ k ∈ g'.fz, k ∈ g.fz ∨ (O k).live = true) ∧
    ∀ new', All2 Tle new new' → ∀ l, ∃ os, putOs ls (new' ++ l) = some os ∧ os.map (·.1) = ls.map (·.1) ∧ ∀ d y, (d, y) ∈ os → ∃ dd, look g'.ren d = some dd ∧ ObjK O dd y ∧ ∀ G' O' ρ Fz, Ren G O G' O' ρ Fz → (∀ k y, look g'.ren k = some y → ρ k = some y) → (∀ k ∈ g'.fz, k ∈ Fz) → ObjS C G w dd G' O' y
  | [], g, g', e => by
    cases e
    exact ⟨[], rfl, fun _ _ h => h, fun _ h => h, fun _ h => Or.inl h, fun new' hn l => ⟨[], rfl, rfl, fun d y hy => by cases hy⟩⟩
  | (d, s) :: ls, g, g', e => by
    unfold grabOs at e
    cases e1 : grabO O g d s with
    | none => rw [e1] at e; cases e
    | some g1 =>
      rw [e1] at e
      obtain ⟨dd, a1, n1, a2, a3, a4, al, a5⟩ := grabO_ok h e1
      obtain ⟨n2, b1, b2, b3, bl, b4⟩ := grabOs_ok h e
      refine ⟨n1 ++ n2, by rw [b1, a2]; simp, fun k y hk => b2 k y (a3 k y hk), fun k hk => b3 k (a4 k hk), fun k hk => (bl k hk).elim (fun q => al k q) Or.inr, fun new' hn l => ?_⟩
      obtain ⟨p, q, rfl, hp, hq⟩ := hn.split
      obtain ⟨y, y1, y2, y3⟩ := a5 p hp (q ++ l)
      obtain ⟨os, o1, o2, o3⟩ := b4 q hq l
      refine ⟨(d, y) :: os, ?_, by rw [List.map_cons, List.map_cons, o2], fun d' y' hy => ?_⟩
      · rw [List.append_assoc]
        simp only [putOs, y1, o1]
      · rcases List.mem_cons.1 hy with hy | hy
        · cases hy
          exact ⟨dd, b2 _ _ (a3 _ _ a1), y2, fun G' O' ρ Fz R hρ hz => y3 G' O' ρ Fz R (fun k y hk => hρ k y (b2 k y hk)) (fun k hk => hz k (b3 k hk))⟩
        · exact o3 d' y' hy

theorem upds_notin {α : Type} : ∀ {l : List (Nat × α)} {f : Nat → α} {k : Nat}, k ∉ l.map (·.1) → upds f l k = f k
  | [], _, _, _ => rfl
  | (d, v) :: l, f, k, h => by
    rw [List.map_cons, List.mem_cons, not_or] at h
    show upds (upd f d v) l k = f k
    rw [upds_notin h.2, upd_ne _ _ h.1]
theorem nodupB_cons {d : Nat} {l : List Nat} (h : nodupB (d :: l) = true) : d ∉ l ∧ nodupB l = true := by
  unfold nodupB at h
  simp only [Bool.and_eq_true, Bool.not_eq_true', List.contains_eq_mem, decide_eq_false_iff_not] at h
  exact h
theorem upds_in {α : Type} : ∀ {l : List (Nat × α)} {f : Nat → α} {k : Nat} {v : α}, nodupB (l.map (·.1)) = true → (k, v) ∈ l → upds f l k = v
  | (d, v') :: l, f, k, v, hn, h => by
    obtain ⟨h1, h2⟩ := nodupB_cons hn
    show upds (upd f d v') l k = v
    rcases List.mem_cons.1 h with h | h
    · cases h
      rw [upds_notin h1, upd_self]
    · exact upds_in h2 h
theorem look_mem {α : Type} : ∀ {l : List (Nat × α)} {d : Nat} {v : α}, look l d = some v → (d, v) ∈ l
  | [], _, _, e => by cases e
  | (k, v') :: l, d, v, e => by
    rw [look_cons] at e
    by_cases h : d = k
    · rw [if_pos h] at e
      cases e
      rw [h]; exact List.mem_cons_self
    · rw [if_neg h] at e
      exact List.mem_cons_of_mem _ (look_mem e)
theorem renIds_mem : ∀ {l : List (Nat × Option Nat)} {d k : Nat}, (d, some k) ∈ l → k ∈ renIds l
  | (a, none) :: l, d, k, h => by
    rcases List.mem_cons.1 h with h | h
    · cases h
    · exact renIds_mem (l := l) h
  | (a, some b) :: l, d, k, h => by
    rcases List.mem_cons.1 h with h | h
    · cases h; exact List.mem_cons_self
    · exact List.mem_cons_of_mem _ (renIds_mem (l := l) h)
theorem renIds_inj : ∀ {l : List (Nat × Option Nat)} {d d' k : Nat}, nodupB (renIds l) = true → (d, some k) ∈ l → (d', some k) ∈ l → d = d'
  | (a, none) :: l, d, d', k, hn, h, h' => by
    rcases List.mem_cons.1 h with h | h
    · cases h
    · rcases List.mem_cons.1 h' with h' | h'
      · cases h'
      · exact renIds_inj (l := l) hn h h'
  | (a, some b) :: l, d, d', k, hn, h, h' => by
    obtain ⟨h1, h2⟩ := nodupB_cons (show nodupB (b :: renIds l) = true from hn)
    rcases List.mem_cons.1 h with h | h
    · cases h
      rcases List.mem_cons.1 h' with h' | h'
      · cases h'; rfl
      · exact absurd (renIds_mem h') h1
    · rcases List.mem_cons.1 h' with h' | h'
      · cases h'
        exact absurd (renIds_mem h) h1
      · exact renIds_inj h2 h h'

/-- What is known beside the state that a cut tells. -/
def renG (G : Gh) (g : Gr) : Gh where
  F := FzF G g.fz
  m := fun d => match look g.ren d with
    | some (some d') => G.m d'
    | _ => none
  cp := fun d => match look g.ren d with
    | some (some d') => G.cp d'
    | _ => 0
  cap := fun d => match look g.ren d with
    | some (some d') => G.cap d'
    | _ => []
  sub := fun d => match look g.ren d with
    | some (some d') => G.sub d'
    | _ => fun _ => none
structure View (C : Ctx) (G : Gh) (O : Nat → Obj) (w : World) (c : Cut) (fixed : List Nat) (g : Gr) (cms : List Cm) (os : List (Nat × Obj)) (vs : List Value) : Prop where
  slots : All2 (CmR (renG G g) (upds (fun _ => .no) os) w) cms vs
  ren : Ren G O (renG G g) (upds (fun _ => .no) os) (look g.ren) g.fz
  fixed : ∀ d ∈ fixed, look g.ren d = some (some d)
  keys : ∀ d, upds (fun _ => .no) os d ≠ .no ↔ ∃ dd, look g.ren d = some dd
  objs : ∀ C2 : Ctx, (∀ d d' b, look g.ren d = some (some d') → (O d').live = true → Bl G (O d') d' b → own C2 b) → ∀ d, ObjR C2 (renG G g) (upds (fun _ => .no) os) w d
  inj : ∀ d1 d2 b1 b2, d1 ≠ d2 → (upds (fun _ => Obj.no) os d1).live = true → (upds (fun _ => Obj.no) os d2).live = true → Bl (renG G g) (upds (fun _ => Obj.no) os d1) d1 b1 → Bl (renG G g) (upds (fun _ => Obj.no) os d2) d2 b2 → b1 ≠ b2
  F1 : ∀ b, (renG G g).F b → b < w.heap.size
  F3 : ∀ b, (renG G g).F b → G.F b ∨ own C b
  live : ∀ d d', look g.ren d = some (some d') → (upds (fun _ => Obj.no) os d).live = (O d').live ∧ (upds (fun _ => Obj.no) os d).len = (O d').len
  keysd : ∀ d, (∃ y, (d, y) ∈ os) ↔ ∃ dd, look g.ren d = some dd
  nodup : nodupB (os.map (·.1)) = true
  names : os.map (·.1) = c.objs.map (·.1)
  rnd : nodupB (renIds g.ren) = true
  disj : ∀ k ∈ g.fz, ∀ d d', look g.ren d = some (some d') → d' ≠ k
  fzl : ∀ k ∈ g.fz, (O k).live = true
  unfz : ∀ d e t xs f, upds (fun _ => Obj.no) os d = .row e t xs f → f = false
theorem grab_ok (h : Core C G O w) {c : Cut} {fixed : List Nat} {cms : List Cm} {vs : List Value} {g : Gr} {x : prods c.tys} (hv : All2 (CmR G O w) cms vs) (e : grab c fixed cms O = some (g, x)) :
    ∃ cms' os, c.put x = some (cms', os) ∧ View C G O w c fixed g cms' os vs := by
  unfold grab at e
  split at e
  · rename_i g1 e1
    split at e
    · rename_i g2 e2
      split at e
      · rename_i hchk
        split at e
        · rename_i y ey
          cases e
          simp only [Bool.and_eq_true] at hchk
          obtain ⟨⟨⟨k1, k2⟩, k3⟩, k4⟩ := hchk
          obtain ⟨n1, a⟩ := grabCs_ok h e1 hv
          obtain ⟨n2, b1, b2, b3, bl, b4⟩ := grabOs_ok h e2
          have hout : g.out.reverse = n1 ++ n2 := by rw [b1, a.out]; simp
          rw [hout] at ey
          have ht := toProds_Tle ey
          obtain ⟨t1, t2, ht0, ht1, ht2⟩ := ht.split
          obtain ⟨cms', c1, c2⟩ := a.put t1 ht1 t2
          obtain ⟨os, o1, o2, o3⟩ := b4 t2 ht2 []
          rw [List.append_nil] at o1
          have hnd : nodupB (os.map (·.1)) = true := by rw [o2]; exact k1
          have hkeys : ∀ d dd, look g.ren d = some dd → ∃ y, (d, y) ∈ os := by
            intro d dd hd
            have h1 := List.all_eq_true.1 k3 _ (look_mem hd)
            obtain ⟨o, ho, ho'⟩ := List.any_eq_true.1 h1
            have hm : d ∈ os.map (·.1) := by
              rw [o2, ← (Nat.eq_of_beq_eq_true ho' : o.1 = d)]
              exact List.mem_map_of_mem (f := (·.1)) ho
            obtain ⟨⟨d', y⟩, hy, rfl⟩ := List.mem_map.1 hm
            exact ⟨y, hy⟩
          have hat : ∀ d y, (d, y) ∈ os → upds (fun _ => Obj.no) os d = y := fun d y hy => upds_in hnd hy
          have hkey2 : ∀ d, upds (fun _ => Obj.no) os d ≠ .no → ∃ y, (d, y) ∈ os := by
            intro d hd
            by_cases hm : d ∈ os.map (·.1)
            · obtain ⟨⟨d', y⟩, hy, rfl⟩ := List.mem_map.1 hm
              exact ⟨y, hy⟩
            · exact absurd (upds_notin hm) hd
          have R : Ren G O (renG G g) (upds (fun _ => .no) os) (look g.ren) g.fz := by
            refine ⟨fun b hb => Or.inl hb, fun d hd b o hm => Or.inr ⟨d, hd, o, hm⟩, fun d d' hd => ?_, fun d hd => ?_⟩
            · obtain ⟨y, hy⟩ := hkeys d _ hd
              obtain ⟨dd, q1, q2, q3⟩ := o3 d y hy
              rw [hd] at q1
              cases q1
              refine ⟨by simp only [renG, hd], by simp only [renG, hd], by simp only [renG, hd], ?_⟩
              rw [hat d y hy]
              cases y with
              | row e t xs fz => rw [q2.1]; exact ⟨rfl, rfl⟩
              | box e cs => obtain ⟨cs', q4, q5⟩ := q2; rw [q4]; exact q5
              | caps cs => obtain ⟨cs', q4⟩ := q2; rw [q4]; trivial
              | no => exact q2.elim
              | dead => rw [show O d' = .dead from q2]; trivial
              | mp es => rw [show O d' = .mp es from q2]; trivial
              | deep e e2 t xss => rw [show O d' = .deep e e2 t xss from q2]; exact ⟨rfl, rfl, rfl⟩
            · obtain ⟨y, hy⟩ := hkeys d _ hd
              obtain ⟨dd, q1, q2, q3⟩ := o3 d y hy
              rw [hd] at q1
              cases q1
              refine ⟨?_, by simp only [renG, hd], by simp only [renG, hd]⟩
              rw [hat d y hy]
              cases y with
              | row e t xs fz =>
                obtain ⟨z1, z2⟩ := q2
                rw [List.eq_nil_of_length_eq_zero z1, z2]
                exact ⟨e, t, rfl⟩
              | _ => exact q2.elim
          have hfl : ∀ d ∈ g.fz, (O d).live = true := fun d hd => (bl d hd).elim (fun q => (a.live d q).elim (fun q => by cases q) id) id
          have hfzl : ∀ d ∈ g.fz, ∀ b o, G.m d = some (b, o) → ∀ k k' o', look g.ren k = some (some k') → (O k').live = true → G.m k' = some (b, o') → False := by
            intro d hd b o hm k k' o' hk hl hm'
            have h1 := List.all_eq_true.1 (List.all_eq_true.1 k4 d hd) _ (look_mem hk)
            have hne : k' ≠ d := by
              rintro rfl
              simp at h1
            exact h.inj k' d b o' b o hne hl (hfl d hd) hm' hm rfl
          have hfzB : ∀ d ∈ g.fz, ∀ b o, G.m d = some (b, o) → ∀ k k', look g.ren k = some (some k') → (O k').live = true → Bl G (O k') k' b → False := by
            intro d hd b o hm k k' hk hl hB
            have h1 := List.all_eq_true.1 (List.all_eq_true.1 k4 d hd) _ (look_mem hk)
            have hne : k' ≠ d := by
              rintro rfl
              simp at h1
            exact h.injB k' d b b hne hl (hfl d hd) hB (Or.inl ⟨o, hm⟩) rfl
          have hal : ∀ d d', look g.ren d = some (some d') → Alike (O d') (upds (fun _ => Obj.no) os d) := fun d d' hd => (R.obj d d' hd).2.2.2
          refine ⟨cms', os, ?_, ⟨c2 _ _ _ _ R (fun d y hd => b2 d y hd) (fun d hd => b3 d hd), R, ?_, ?_, ?_, ?_, ?_, ?_, ?_, ?_, hnd, o2, k2, ?_, hfl, ?_⟩⟩
          · unfold Cut.put
            rw [ht0, c1]
            simp only [o1]
          · intro d hd
            refine b2 d _ (a.ren d _ ?_)
            have : ∀ l : List Nat, d ∈ l → look (l.map fun d => (d, some d)) d = some (some d) := by
              intro l
              induction l with
              | nil => intro h; cases h
              | cons k l ih =>
                intro h
                rw [List.map_cons, look_cons]
                by_cases hk : d = k
                · rw [if_pos hk, hk]
                · rw [if_neg hk]
                  exact ih ((List.mem_cons.1 h).resolve_left hk)
            exact this fixed hd
          · intro d
            constructor
            · intro hd
              obtain ⟨y, hy⟩ := hkey2 d hd
              obtain ⟨dd, q1, _, _⟩ := o3 d y hy
              exact ⟨dd, q1⟩
            · rintro ⟨dd, hd⟩
              obtain ⟨y, hy⟩ := hkeys d dd hd
              rw [hat d y hy]
              obtain ⟨dd', q1, q2, _⟩ := o3 d y hy
              rintro rfl
              cases dd' <;> exact q2.elim
          · intro C2 hown d
            by_cases hd : upds (fun _ => Obj.no) os d = .no
            · unfold ObjR; rw [hd]; trivial
            · obtain ⟨y, hy⟩ := hkey2 d hd
              obtain ⟨dd, q1, q2, q3⟩ := o3 d y hy
              have q4 := q3 _ _ _ _ R (fun k y hk => hk) (fun k hk => hk)
              unfold ObjR
              rw [hat d y hy]
              cases dd with
              | none =>
                cases y with
                | row e t xs fz =>
                  refine ⟨by rw [q2.1]; exact Nat.zero_le _, Or.inl ⟨?_, ?_⟩⟩
                  · simp only [renG, q1]
                  · simp only [renG, q1]
                | _ => exact q2.elim
              | some d' =>
                obtain ⟨r1, r2, r3, r4⟩ := R.obj d d' q1
                cases y with
                | row e t xs fz =>
                  obtain ⟨z1, rfl⟩ := q2
                  obtain ⟨s0, s1⟩ := h.row z1
                  refine ⟨by rw [r2]; exact s0, ?_⟩
                  rcases s1 with ⟨s1, s2⟩ | ⟨b, o, arr, t', s1, s2, s3, s4, s5, s6, s7⟩
                  · exact Or.inl ⟨r2.trans s1, r1.trans s2⟩
                  · refine Or.inr ⟨b, o, arr, t', r1.trans s1, s2, by rw [r2]; exact s3, s4.mono R.F (fun _ _ => rfl), hown d d' b q1 (by rw [z1]; rfl) (Or.inl ⟨o, s1⟩), fun hz => (by cases hz), fun _ hF => ?_⟩
                    rcases hF with hF | ⟨k, hk, o', hm⟩
                    · exact s7 rfl hF
                    · exact hfzl k hk b o' hm d d' o q1 (by rw [z1]; rfl) s1
                | box e cs =>
                  obtain ⟨b, arr, s1, s2, s3, s4, s5⟩ := q4
                  obtain ⟨cs0, z1, z2⟩ := q2
                  refine ⟨b, arr, r1.trans s1, s2, s3, fun hF => ?_, hown d d' b q1 (by rw [z1]; rfl) (Or.inl ⟨0, s1⟩)⟩
                  rcases hF with hF | ⟨k, hk, o', hm⟩
                  · exact s4 hF
                  · exact hfzl k hk b o' hm d d' 0 q1 (by rw [z1]; rfl) s1
                | caps cs =>
                  show All2 _ cs ((renG G g).cap d)
                  rw [r3]
                  exact q4
                | no => exact q2.elim
                | dead => trivial
                | deep e e2 t xss =>
                  have hdd : O d' = .deep e e2 t xss := q2
                  have hlv : (O d').live = true := by rw [hdd]; rfl
                  obtain ⟨s0, s1⟩ := h.deep hdd
                  have rs : (renG G g).sub d = G.sub d' := by simp only [renG, q1]
                  refine ⟨by rw [r2]; exact s0, ?_⟩
                  rcases s1 with ⟨s1, s2⟩ | ⟨b, o, arr, t', s1, s2, s3, s4, s5, s6, s7⟩
                  · exact Or.inl ⟨r2.trans s1, r1.trans s2⟩
                  · refine Or.inr ⟨b, o, arr, t', r1.trans s1, s2, by rw [r2]; exact s3, hown d d' b q1 hlv (Or.inl ⟨o, s1⟩), fun hF => ?_, fun j x hj => ?_, fun j j' x x' b1 o1 b2 o2 hne hj hj' hx hx' t1 t2 => ?_⟩
                    · rcases hF with hF | ⟨k, hk, o', hm⟩
                      · exact s5 hF
                      · exact hfzB k hk b o' hm d d' q1 hlv (Or.inl ⟨o, s1⟩)
                    · obtain ⟨A, c, u1, u2, u0, u3⟩ := s6 j x hj
                      refine ⟨A, c, u1, u2, fun hz => (by rw [rs]; exact u0 hz), fun hn => ?_⟩
                      obtain ⟨b', o', arr', e', v1, v2, v3, v4, v5, v6, v7⟩ := u3 hn
                      have hB : Bl G (O d') d' b' := by rw [hdd]; exact Or.inr ⟨j, x, o', hj, hn, v1⟩
                      refine ⟨b', o', arr', e', by rw [rs]; exact v1, v2, v3, v4.mono R.F (fun _ _ => rfl), hown d d' b' q1 hlv hB, fun hF => ?_, v7⟩
                      rcases hF with hF | ⟨k, hk, o'', hm⟩
                      · exact v6 hF
                      · exact hfzB k hk b' o'' hm d d' q1 hlv hB
                    · rw [rs] at t1 t2
                      exact s7 j j' x x' b1 o1 b2 o2 hne hj hj' hx hx' t1 t2
                | mp es =>
                  have hob := h.ob d'
                  unfold ObjR at hob
                  rw [show O d' = .mp es from q2] at hob
                  obtain ⟨b, arr, clock, s1, s2, s3, s4, s5⟩ := hob
                  refine ⟨b, arr, clock, r1.trans s1, s2, s3, fun hF => ?_, hown d d' b q1 (by rw [show O d' = .mp es from q2]; rfl) (Or.inl ⟨0, s1⟩)⟩
                  rcases hF with hF | ⟨k, hk, o', hm⟩
                  · exact s4 hF
                  · exact hfzl k hk b o' hm d d' 0 q1 (by rw [show O d' = .mp es from q2]; rfl) s1
          · intro d1 d2 b1 b2' hne hl1 hl2 hm1 hm2
            have key : ∀ d b, (upds (fun _ => Obj.no) os d).live = true → Bl (renG G g) (upds (fun _ => Obj.no) os d) d b → ∃ d', look g.ren d = some (some d') ∧ Bl G (O d') d' b := by
              intro d b hl hB
              rcases hB with ⟨o, hm⟩ | hB
              · simp only [renG] at hm
                split at hm
                · rename_i d' hd; exact ⟨d', hd, Or.inl ⟨o, hm⟩⟩
                · cases hm
              · obtain ⟨y, hy⟩ := hkey2 d (by intro e0; rw [e0] at hl; cases hl)
                rw [hat d y hy] at hB
                obtain ⟨dd, q1, q2, _⟩ := o3 d y hy
                cases y with
                | deep e e2 t xss =>
                  cases dd with
                  | none => exact q2.elim
                  | some d' =>
                    obtain ⟨j, x, p, hj, hx, hs⟩ := hB
                    refine ⟨d', q1, ?_⟩
                    rw [show O d' = .deep e e2 t xss from q2]
                    have hs : (renG G g).sub d j = some (b, p) := hs
                    simp only [renG, q1] at hs
                    exact Or.inr ⟨j, x, p, hj, hx, hs⟩
                | _ => exact hB.elim
            obtain ⟨e1, p1, p2⟩ := key d1 b1 hl1 hm1
            obtain ⟨e2, p3, p4⟩ := key d2 b2' hl2 hm2
            have hne' : e1 ≠ e2 := by
              rintro rfl
              exact hne (renIds_inj k2 (look_mem p1) (look_mem p3))
            have lv : ∀ d d', look g.ren d = some (some d') → (upds (fun _ => Obj.no) os d).live = true → (O d').live = true := by
              intro d d' hd hl
              rw [← (hal d d' hd).same.1]; exact hl
            exact h.injB e1 e2 b1 b2' hne' (lv _ _ p1 hl1) (lv _ _ p3 hl2) p2 p4
          · rintro b (hb | ⟨d, hd, o, hm⟩)
            · exact h.F1 b hb
            · exact (h.block (hfl d hd) hm).1
          · rintro b (hb | ⟨d, hd, o, hm⟩)
            · exact Or.inl hb
            · exact Or.inr (h.block (hfl d hd) hm).2
          · intro d d' hd
            exact (hal d d' hd).same
          · intro d
            constructor
            · rintro ⟨y, hy⟩
              obtain ⟨dd, q1, _, _⟩ := o3 d y hy
              exact ⟨dd, q1⟩
            · rintro ⟨dd, hd⟩
              exact hkeys d dd hd
          · rintro k hk d d' hd rfl
            have h1 := List.all_eq_true.1 (List.all_eq_true.1 k4 d' hk) _ (look_mem hd)
            simp at h1
          · intro d e t xs f hd
            obtain ⟨y, hy⟩ := hkey2 d (by rw [hd]; simp)
            obtain ⟨dd, q1, q2, _⟩ := o3 d y hy
            rw [hat d y hy] at hd
            subst hd
            cases dd with
            | none => exact q2.2
            | some d' => exact q2.2
        · cases e
      · cases e
    · cases e
  · cases e
end
end Go.Proofs.YtamgbcgfjhpedaaDoor.VE
