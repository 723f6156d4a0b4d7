/- A region of the evaluator, in any order that the model may draw (lemmas; no statement is proved here). -/
import Derived.Test.YtamgbcgfjhpedaaDoorVeOp2
import Derived.Orders
namespace Go.Proofs.YtamgbcgfjhpedaaDoor.VE
open Go Go.RowKit
section
variable {P : Program} {Γ : FuncId → Option Con} {C : Ctx} {G : Gh} {st : St} {w : World} {a : Act}
/-- A bool that later operations hang on is told as one. -/
def normE (g : Bool) (e : Eff) : Option Eff := match g with
  | true => splitB e.sv.leaf fun b => some { e with sv := .lf (.bl b) }
  | false => some e
def stepD (P : Program) (Γ : FuncId → Option Con) (ops : List Oper) (i : Nat) (o : Oper) (st : St) : Option Eff := match runs ops o st with
  | some true => (opK P Γ o st some).bind (normE (guards ops i))
  | some false => some ⟨.t [], [], []⟩
  | none => none
theorem runK_step {R : Type} {ops : List Oper} {i : Nat} {o : Oper} {l : List (Nat × Oper)} {st : St} {lg : List Log} {k : St → List Log → Option R} :
    runK P Γ ops ((i, o) :: l) st lg k = (stepD P Γ ops i o st).bind fun e => runK P Γ ops l (st.eff o.dst e) (⟨i, e.rd, e.wr.map (·.1)⟩ :: lg) k := by
  unfold stepD
  rw [runK]
  cases h : runs ops o st with
  | none => rfl
  | some b =>
    cases b with
    | false => rfl
    | true =>
      simp only
      rw [opK_bind]
      cases h1 : opK P Γ o st some with
      | none => rfl
      | some e =>
        simp only [Option.bind_some]
        cases hg : guards ops i with
        | false => rfl
        | true =>
          simp only [normE]
          rw [← splitB_bind]
          rfl
/-- The operations of a list, in its order; E: what each does. -/
def RunL (P : Program) (Γ : FuncId → Option Con) (ops : List Oper) (E : Nat → Eff) : List Nat → St → St → Prop
  | [], st, st' => st' = st
  | i :: l, st, st' => ∃ o, ops[i]? = some o ∧ stepD P Γ ops i o st = some (E i) ∧ RunL P Γ ops E l (st.eff o.dst (E i)) st'
theorem RunL.congr {ops : List Oper} {E E' : Nat → Eff} : ∀ {l : List Nat} {st st' : St}, (∀ i ∈ l, E' i = E i) → RunL P Γ ops E l st st' → RunL P Γ ops E' l st st'
  | [], _, _, _, h => h
  | i :: l, st, st', he, ⟨o, h1, h2, h3⟩ => by
    have hi := he i List.mem_cons_self
    exact ⟨o, h1, by rw [hi]; exact h2, by rw [hi]; exact RunL.congr (fun j hj => he j (List.mem_cons_of_mem _ hj)) h3⟩
theorem runK_run {R : Type} {ops : List Oper} : ∀ (l pre : List Oper) {st : St} {lg : List Log} {k : St → List Log → Option R} {r : R}, ops = pre ++ l → runK P Γ ops (ixs pre.length l) st lg k = some r →
    ∃ E st' lg', RunL P Γ ops E (List.range' pre.length l.length) st st' ∧ k st' lg' = some r ∧ (∀ x ∈ lg, x ∈ lg') ∧ ∀ i ∈ List.range' pre.length l.length, ⟨i, (E i).rd, (E i).wr.map (·.1)⟩ ∈ lg'
  | [], pre, st, lg, k, r, ho, h => ⟨fun _ => ⟨.u, [], []⟩, st, lg, rfl, h, fun _ h => h, fun i hi => by simp at hi⟩
  | o :: l, pre, st, lg, k, r, ho, h => by
    rw [ixs, runK_step] at h
    cases h1 : stepD P Γ ops pre.length o st with
    | none => rw [h1] at h; cases h
    | some e =>
      rw [h1] at h
      simp only [Option.bind_some] at h
      have hl : pre.length + 1 = (pre ++ [o]).length := by simp
      rw [hl] at h
      obtain ⟨E, st', lg', q1, q2, q3, q4⟩ := runK_run l (pre ++ [o]) (by rw [ho]; simp) h
      rw [← hl] at q1 q4
      have hne : ∀ i ∈ List.range' (pre.length + 1) l.length, i ≠ pre.length := by
        intro i hi
        rw [List.mem_range'] at hi
        obtain ⟨j, hj, rfl⟩ := hi
        omega
      refine ⟨fun i => if i = pre.length then e else E i, st', lg', ?_, q2, fun x hx => q3 x (List.mem_cons_of_mem _ hx), ?_⟩
      · rw [List.length_cons, List.range'_succ]
        have he : (fun i => if i = pre.length then e else E i) pre.length = e := if_pos rfl
        refine ⟨o, by rw [ho]; simp, by rw [he]; exact h1, ?_⟩
        rw [he]
        exact RunL.congr (fun i hi => if_neg (hne i hi)) q1
      · intro i hi
        rw [List.length_cons, List.range'_succ] at hi
        rcases List.mem_cons.1 hi with rfl | hi
        · simp only [if_true]
          exact q3 _ List.mem_cons_self
        · simp only [if_neg (hne i hi)]
          exact q4 i hi

/-! two operations that do not meet may change places -/
theorem meets_false {a b : List Nat} (h : meets a b = false) : ∀ x ∈ a, x ∉ b := by
  intro x hx hb
  have : meets a b = true := by
    unfold meets
    exact List.any_eq_true.2 ⟨x, hx, List.any_eq_true.2 ⟨x, hb, Nat.beq_refl x⟩⟩
  rw [h] at this; cases this
theorem runs_loc {ops : List Oper} {o : Oper} {st st' : St} (h : ∀ t ∈ guardTmp ops o, st'.t t = st.t t) : runs ops o st' = runs ops o st := by
  unfold runs
  cases hg : o.guard with
  | none => rfl
  | some jw =>
    obtain ⟨j, want⟩ := jw
    simp only
    cases ho : ops[j]? with
    | none => rfl
    | some g =>
      simp only
      cases hd : g.dst with
      | none => rfl
      | some d =>
        simp only
        rw [h d (by unfold guardTmp; rw [hg]; simp only [ho, hd]; simp)]
theorem stepD_loc {ops : List Oper} {i : Nat} {o : Oper} {st st' : St} {e : Eff} (h : stepD P Γ ops i o st = some e) (hv : ∀ t ∈ tmpsOf o.op.operands.toList, st'.t t = st.t t) (hg : ∀ t ∈ guardTmp ops o, st'.t t = st.t t) (hs : Same st.o st'.o e.rd) : stepD P Γ ops i o st' = some e := by
  unfold stepD at h ⊢
  rw [runs_loc hg]
  cases hr : runs ops o st with
  | none => rw [hr] at h; cases h
  | some b =>
    rw [hr] at h
    cases b with
    | false => exact h
    | true =>
      simp only at h ⊢
      cases h1 : opK P Γ o st some with
      | none => rw [h1] at h; cases h
      | some e0 =>
        rw [h1] at h
        simp only [Option.bind_some] at h
        have hrd : e0.rd = e.rd := by
          unfold normE at h
          split at h
          · unfold splitB at h
            split at h <;> first | (cases h; rfl) | skip
            · split at h <;> (cases h; rfl)
            · split at h <;> (cases h; rfl)
            · split at h <;> (cases h; rfl)
            · cases h
          · cases h; rfl
        rw [opK_loc h1 (evs_of hv) (by rw [hrd]; exact hs)]
        exact h
theorem upds_out {α : Type} {l : List (Nat × α)} {f : Nat → α} {k : Nat} (h : k ∉ l.map (·.1)) : upds f l k = f k := upds_notin h
theorem upds_comm {α : Type} (f : Nat → α) (l m : List (Nat × α)) (h : ∀ x ∈ l.map (·.1), x ∉ m.map (·.1)) : upds (upds f l) m = upds (upds f m) l := by
  funext k
  rcases upds_cases m (upds f l) k with ⟨h1, h2⟩ | ⟨v, h1, h2⟩
  · rw [h2]
    have key : ∀ (l : List (Nat × α)) (g g' : Nat → α), g k = g' k → upds g l k = upds g' l k := by
      intro l
      induction l with
      | nil => intro g g' e; exact e
      | cons x l ih =>
        intro g g' e
        obtain ⟨d, v⟩ := x
        refine ih _ _ ?_
        unfold upd
        cases Nat.beq k d <;> simp [e]
    exact key l f (upds f m) (upds_notin h1).symm
  · have hk : k ∈ m.map (·.1) := List.mem_map.2 ⟨_, h1, rfl⟩
    have hl : k ∉ l.map (·.1) := fun hl => h k hl hk
    rw [upds_notin hl]
    have key : ∀ (m : List (Nat × α)) (g g' : Nat → α), g k = g' k → upds g m k = upds g' m k := by
      intro m
      induction m with
      | nil => intro g g' e; exact e
      | cons x m ih =>
        intro g g' e
        obtain ⟨d, v⟩ := x
        refine ih _ _ ?_
        unfold upd
        cases Nat.beq k d <;> simp [e]
    exact key m (upds f l) f (upds_notin hl)
theorem upd_comm {α : Type} (f : Nat → α) {d d' : Nat} (v v' : α) (h : d ≠ d') : upd (upd f d v) d' v' = upd (upd f d' v') d v := by
  funext k
  by_cases h1 : k = d'
  · subst h1
    rw [upd_self, upd_ne _ _ (Ne.symm h), upd_self]
  · rw [upd_ne _ _ h1]
    by_cases h2 : k = d
    · subst h2
      rw [upd_self, upd_self]
    · rw [upd_ne _ _ h2, upd_ne _ _ h2, upd_ne _ _ h1]
theorem clash_false {ops : List Oper} {x y : Oper} {lx ly : Log} (h : clash ops x y lx ly = false) :
    (∀ d, x.dst = some d → y.dst ≠ some d ∧ d ∉ tmpsOf y.op.operands.toList ∧ d ∉ guardTmp ops y) ∧ (∀ d, y.dst = some d → d ∉ tmpsOf x.op.operands.toList ∧ d ∉ guardTmp ops x) ∧
      (∀ k ∈ lx.wr, k ∉ ly.rd ∧ k ∉ ly.wr) ∧ ∀ k ∈ ly.wr, k ∉ lx.rd ∧ k ∉ lx.wr := by
  unfold clash at h
  simp only [Bool.or_eq_false_iff] at h
  obtain ⟨⟨⟨h1, h2⟩, h3⟩, h4⟩ := h
  refine ⟨fun d hd => ?_, fun d hd => ?_, fun k hk => ?_, fun k hk => ?_⟩
  · have := meets_false h1 d (by rw [hd]; simp)
    simp only [List.mem_append, not_or] at this
    obtain ⟨⟨q1, q2⟩, q3⟩ := this
    exact ⟨fun e => q1 (by rw [e]; simp), q2, q3⟩
  · have := meets_false h2 d (by rw [hd]; simp)
    simp only [List.mem_append, not_or] at this
    exact this
  · have := meets_false h3 k hk
    simp only [List.mem_append, not_or] at this
    exact this
  · have := meets_false h4 k hk
    simp only [List.mem_append, not_or] at this
    exact this
theorem St.eff_t {st : St} {dst : Option Tmp} {e : Eff} {t : Nat} (h : ∀ d, dst = some d → t ≠ d) : (st.eff dst e).t t = st.t t := by
  cases dst with
  | none => rfl
  | some d => exact upd_ne _ _ (h d rfl)
theorem St.eff_comm {st : St} {dx dy : Option Tmp} {ex ey : Eff} (h : ∀ d, dx = some d → dy ≠ some d) (hw : ∀ k ∈ ex.wr.map (·.1), k ∉ ey.wr.map (·.1)) : (st.eff dx ex).eff dy ey = (st.eff dy ey).eff dx ex := by
  unfold St.eff
  congr 1
  · cases dx with
    | none => rfl
    | some d =>
      cases dy with
      | none => rfl
      | some d' => exact upd_comm _ _ _ (fun e => h d rfl (by rw [e]))
  · exact upds_comm _ _ _ hw
theorem RunL.swap {ops : List Oper} {E : Nat → Eff} {i j : Nat} {l : List Nat} {st st' : St} (h : RunL P Γ ops E (j :: i :: l) st st')
    (hc : ∀ x y, ops[j]? = some x → ops[i]? = some y → clash ops x y ⟨j, (E j).rd, (E j).wr.map (·.1)⟩ ⟨i, (E i).rd, (E i).wr.map (·.1)⟩ = false) : RunL P Γ ops E (i :: j :: l) st st' := by
  obtain ⟨x, hx, h1, y, hy, h2, h3⟩ := h
  obtain ⟨c1, c2, c3, c4⟩ := clash_false (hc x y hx hy)
  refine ⟨y, hy, stepD_loc h2 (fun t ht => ?_) (fun t ht => ?_) (fun k hk => ?_), x, hx, stepD_loc h1 (fun t ht => ?_) (fun t ht => ?_) (fun k hk => ?_), ?_⟩
  · exact (St.eff_t (fun d hd e => (c1 d hd).2.1 (e ▸ ht))).symm
  · exact (St.eff_t (fun d hd e => (c1 d hd).2.2 (e ▸ ht))).symm
  · exact (upds_notin (fun hm => (c3 k hm).1 hk)).symm
  · exact St.eff_t (fun d hd e => (c2 d hd).1 (e ▸ ht))
  · exact St.eff_t (fun d hd e => (c2 d hd).2 (e ▸ ht))
  · exact upds_notin (fun hm => (c4 k hm).1 hk)
  · rw [← St.eff_comm (fun d hd => (c1 d hd).1) (fun k hk => (c3 k hk).2)]
    exact h3
theorem RunL.front {ops : List Oper} {E : Nat → Eff} {i : Nat} : ∀ {l : List Nat} {st st' : St}, l.Pairwise (· < ·) → i ∈ l → RunL P Γ ops E l st st' →
    (∀ j ∈ l, j < i → ∀ x y, ops[j]? = some x → ops[i]? = some y → clash ops x y ⟨j, (E j).rd, (E j).wr.map (·.1)⟩ ⟨i, (E i).rd, (E i).wr.map (·.1)⟩ = false) → RunL P Γ ops E (i :: l.filter (fun j => j != i)) st st'
  | j :: l, st, st', hp, hi, h, hc => by
    rw [List.pairwise_cons] at hp
    rcases List.mem_cons.1 hi with rfl | hi
    · have : (i :: l).filter (fun j => j != i) = l := by
        rw [List.filter_cons_of_neg (by simp)]
        refine List.filter_eq_self.2 fun k hk => ?_
        have := hp.1 k hk
        simp; omega
      rw [this]
      exact h
    · have hji := hp.1 i hi
      obtain ⟨x, hx, h1, h2⟩ := h
      have ih := RunL.front hp.2 hi h2 (fun k hk => hc k (List.mem_cons_of_mem _ hk))
      have hf : (j :: l).filter (fun j => j != i) = j :: l.filter (fun j => j != i) := List.filter_cons_of_pos (by simp; omega)
      rw [hf]
      exact RunL.swap ⟨x, hx, h1, ih⟩ (hc j List.mem_cons_self hji)

/-! what stands ahead of what -/
def bitF (acc : List Nat) (o : Oper) : Nat := o.after.toList.foldl (fun s e => if Region.binds .any e ∧ e.on < acc.length then s ||| 2 ^ e.on ||| acc.getD e.on 0 else s) 0
theorem bitF_test (acc : List Nat) (j : Nat) : ∀ (l : List Edge) (s : Nat), (l.foldl (fun s e => if Region.binds .any e ∧ e.on < acc.length then s ||| 2 ^ e.on ||| acc.getD e.on 0 else s) s).testBit j = true → s.testBit j = true ∨ ∃ e ∈ l, Region.binds .any e = true ∧ e.on < acc.length ∧ (j = e.on ∨ (acc.getD e.on 0).testBit j = true)
  | [], s, h => Or.inl h
  | e :: l, s, h => by
    rw [List.foldl_cons] at h
    rcases bitF_test acc j l _ h with h1 | ⟨e', h1, h2⟩
    · by_cases hc : Region.binds .any e ∧ e.on < acc.length
      · rw [if_pos hc] at h1
        rw [Nat.testBit_or, Nat.testBit_or, Bool.or_eq_true, Bool.or_eq_true] at h1
        rcases h1 with (h1 | h1) | h1
        · exact Or.inl h1
        · refine Or.inr ⟨e, List.mem_cons_self, hc.1, hc.2, Or.inl ?_⟩
          rw [Nat.testBit_two_pow] at h1
          exact (of_decide_eq_true h1).symm
        · exact Or.inr ⟨e, List.mem_cons_self, hc.1, hc.2, Or.inr h1⟩
      · rw [if_neg hc] at h1
        exact Or.inl h1
    · exact Or.inr ⟨e', List.mem_cons_of_mem _ h1, h2⟩
theorem bitsOf_eq : ∀ (l : List Oper) (acc : List Nat), ∃ r, bitsOf l acc = acc ++ r ∧ ∀ k o, l[k]? = some o → (bitsOf l acc)[acc.length + k]? = some (bitF ((bitsOf l acc).take (acc.length + k)) o)
  | [], acc => ⟨[], by simp [bitsOf], fun k o h => by simp at h⟩
  | o :: l, acc => by
    unfold bitsOf
    obtain ⟨r, h1, h2⟩ := bitsOf_eq l (acc ++ [bitF acc o])
    refine ⟨bitF acc o :: r, by show bitsOf l (acc ++ [bitF acc o]) = _; rw [h1]; simp, fun k o' hk => ?_⟩
    cases k with
    | zero =>
      simp only [List.getElem?_cons_zero, Option.some.injEq] at hk
      subst hk
      have e1 : (bitsOf l (acc ++ [bitF acc o])) = acc ++ bitF acc o :: r := by rw [h1]; simp
      show (bitsOf l (acc ++ [bitF acc o]))[acc.length + 0]? = some (bitF ((bitsOf l (acc ++ [bitF acc o])).take (acc.length + 0)) o)
      rw [e1]
      simp
    | succ k =>
      rw [List.getElem?_cons_succ] at hk
      have := h2 k o' hk
      rw [List.length_append, List.length_singleton] at this
      have e2 : acc.length + (k + 1) = acc.length + 1 + k := by omega
      rw [e2]
      exact this
/-- What is closed under what stands ahead directly holds all that stands ahead. -/
theorem bits_closed {ops : List Oper} {L : Nat → Prop} (hL : ∀ j o, L j → ops[j]? = some o → ∀ e ∈ o.after.toList, Region.binds .any e = true → L e.on) : ∀ (i : Nat) (o : Oper), ops[i]? = some o → (∀ e ∈ o.after.toList, Region.binds .any e = true → L e.on) → ∀ j, ((bitsOf ops []).getD i 0).testBit j = true → L j := by
  intro i
  induction i using Nat.strongRecOn with
  | ind i ih =>
    intro o ho he j hj
    obtain ⟨r, h1, h2⟩ := bitsOf_eq ops []
    have h3 := h2 i o ho
    simp only [List.length_nil, Nat.zero_add] at h3
    rw [List.getD_eq_getElem?_getD, h3] at hj
    have hlen : ((bitsOf ops []).take i).length ≤ i := by rw [List.length_take]; omega
    rcases bitF_test _ j _ _ hj with h4 | ⟨e, h4, h5, h6, h7⟩
    · simp at h4
    · have hLe := he e h4 h5
      rcases h7 with h7 | h7
      · rw [h7]; exact hLe
      · have hei : e.on < i := by omega
        have hil : i < ops.length := (List.getElem?_eq_some_iff.1 ho).1
        obtain ⟨o', ho'⟩ : ∃ o', ops[e.on]? = some o' := ⟨_, List.getElem?_eq_getElem (by omega)⟩
        refine ih e.on hei o' ho' (hL e.on o' hLe ho') j ?_
        rw [List.getD_eq_getElem?_getD] at h7 ⊢
        rw [List.getElem?_take, if_pos hei] at h7
        exact h7

/-! an operation, wanted or not -/
theorem yielded_eq {ops : Array Oper} {tmps : Array Value} {j : Nat} {g : Oper} {d : Nat} {b : Bool} (hj : ops.toList[j]? = some g) (hd : g.dst = some d) (hv : tmps.getD d undef = .bool b) : yielded ops tmps j = some b := by
  have h1 : ops[j]? = some g := by rw [← Array.getElem?_toList]; exact hj
  have h2 : tmps[d]? = some (.bool b) := by
    cases e : tmps[d]? with
    | none =>
      rw [Array.getD_eq_getD_getElem?, e] at hv
      cases hv
    | some v =>
      rw [Array.getD_eq_getD_getElem?, e] at hv
      rw [show v = .bool b from hv]
  simp [yielded, h1, hd, h2]
theorem yielded_no {ops : Array Oper} {tmps : Array Value} {j : Nat} {g : Oper} {d : Nat} {vs : Array Value} (hj : ops.toList[j]? = some g) (hd : g.dst = some d) (hv : tmps.getD d undef = .tuple vs) : yielded ops tmps j = none := by
  have h1 : ops[j]? = some g := by rw [← Array.getElem?_toList]; exact hj
  cases e : tmps[d]? with
  | none => simp [yielded, h1, hd, e]
  | some v =>
    have : v = .tuple vs := by
      rw [Array.getD_eq_getD_getElem?, e] at hv
      exact hv
    subst this
    simp [yielded, h1, hd, e]
theorem runs_wanted {ops : Array Oper} {o : Oper} {b : Bool} (ht : TmR G st w a.tmps) (h : runs ops.toList o st = some b) : Region.wanted o (yielded ops a.tmps) = b := by
  unfold runs at h
  unfold Region.wanted
  cases hg : o.guard with
  | none => rw [hg] at h; cases h; rfl
  | some jw =>
    obtain ⟨j, want⟩ := jw
    rw [hg] at h
    simp only at h ⊢
    cases ho : ops.toList[j]? with
    | none => rw [ho] at h; cases h
    | some g =>
      rw [ho] at h
      simp only at h
      cases hd : g.dst with
      | none => rw [hd] at h; cases h
      | some d =>
        rw [hd] at h
        simp only at h
        have hT := ht d
        split at h
        · rename_i hq
          rw [hq] at hT
          have hv : a.tmps.getD d undef = .bool true := (show LfR G st.o w (.bl true) _ from hT).2
          rw [yielded_eq ho hd hv]
          cases want <;> cases h <;> rfl
        · rename_i hq
          rw [hq] at hT
          have hv : a.tmps.getD d undef = .bool false := (show LfR G st.o w (.bl false) _ from hT).2
          rw [yielded_eq ho hd hv]
          cases want <;> cases h <;> rfl
        · rename_i hq
          rw [hq] at hT
          obtain ⟨vs, hv, _⟩ := hT
          rw [yielded_no ho hd hv]
          cases h; rfl
        · cases h
theorem normE_R {g : Bool} {e e' : Eff} {v : Value} {w' : World} {O : Nat → Obj} (h : normE g e = some e') (hs : StepR C G O w e v w') : StepR C G O w e' v w' := by
  cases g with
  | false => cases h; exact hs
  | true =>
    obtain ⟨G', k1, k2, k3⟩ := hs
    have hl := fun y hy => SVR.leaf (y := y) k3 hy
    unfold normE at h
    simp only at h
    unfold splitB at h
    split at h
    · rename_i q; cases h; exact ⟨G', k1, k2, hl _ q⟩
    · rename_i q; cases h; exact ⟨G', k1, k2, hl _ q⟩
    · rename_i p i q
      have hv : v = .bool (@decide p i) := (hl _ q).2
      by_cases hp : p
      · rw [if_pos hp] at h
        cases h
        exact ⟨G', k1, k2, (hl _ q).1, by rw [hv, @decide_eq_true _ i hp]; rfl⟩
      · rw [if_neg hp] at h
        cases h
        exact ⟨G', k1, k2, (hl _ q).1, by rw [hv, @decide_eq_false _ i hp]; rfl⟩
    · rename_i p i q
      have hv : v = .bool (!@decide p i) := (hl _ q).2
      by_cases hp : p
      · rw [if_pos hp] at h
        cases h
        exact ⟨G', k1, k2, (hl _ q).1, by rw [hv, @decide_eq_true _ i hp]; rfl⟩
      · rw [if_neg hp] at h
        cases h
        exact ⟨G', k1, k2, (hl _ q).1, by rw [hv, @decide_eq_false _ i hp]; rfl⟩
    · rename_i z q
      have hz : [v] = [.bool z] := (hl _ q).2
      have hv : v = .bool z := by simpa using hz
      by_cases hp : (z : Bool) = true
      · rw [if_pos hp] at h
        cases h
        exact ⟨G', k1, k2, (hl _ q).1, by rw [hv, hp]; rfl⟩
      · rw [if_neg hp] at h
        cases h
        exact ⟨G', k1, k2, (hl _ q).1, by rw [hv, Bool.eq_false_iff.2 hp]; rfl⟩
    · cases h
/-- All that is known of slots and memory together. -/
structure Inv (C : Ctx) (st : St) (w : World) (n : Nat) (a : Act) (G : Gh) : Prop where
  core : Core C G st.o w
  tm : TmR G st w a.tmps
  size : a.tmps.size = n
  defers : a.defers = []
theorem Inv.put {n : Nat} (h : Inv C st w n a G) {dst : Option Tmp} {e : Eff} {v : Value} {w' : World} (hd : ∀ d, dst = some d → d < n) (hs : StepR C G st.o w e v w') : ∃ G', Inv C (st.eff dst e) w' n (a.put dst v) G' := by
  obtain ⟨G', k1, k2, k3⟩ := hs
  refine ⟨G', k1, fun t => ?_, ?_, ?_⟩
  · have hold : SVR G' (upds st.o e.wr) w' (st.t t) (a.tmps.getD t undef) := (h.tm t).mono k2
    cases dst with
    | none => exact hold
    | some d =>
      show SVR G' (upds st.o e.wr) w' (upd st.t d e.sv t) ((a.tmps.setIfInBounds d v).getD t undef)
      by_cases htd : t = d
      · subst htd
        rw [upd_self]
        have hlt : t < a.tmps.size := by rw [h.size]; exact hd t rfl
        simp [hlt]
        exact k3
      · rw [upd_ne _ _ htd]
        have : (a.tmps.setIfInBounds d v).getD t undef = a.tmps.getD t undef := by
          rw [Array.getD_eq_getD_getElem?, Array.getD_eq_getD_getElem?, Array.getElem?_setIfInBounds_ne (Ne.symm htd)]
        rw [this]
        exact hold
  · cases dst with
    | none => exact h.size
    | some d => show (a.tmps.setIfInBounds d v).size = n; rw [Array.size_setIfInBounds]; exact h.size
  · cases dst with
    | none => exact h.defers
    | some d => exact h.defers
theorem stepD_sound (hΓ : ΓOk P Γ) {n : Nat} (h : Inv C st w n a G) {ops : Array Oper} {i : Nat} {o : Oper} {e : Eff} (e1 : stepD P Γ ops.toList i o st = some e) {K : Act → World → Prop} {Q : Exit → Act → World → Prop}
    (k : ∀ v w', StepR C G st.o w e v w' → K (a.put o.dst v) w') : if Region.wanted o (yielded ops a.tmps) then o.wp P a w K Q ∨ (o.asks P a w ∧ LetsOut Q) else K (a.put o.dst undef) w := by
  unfold stepD at e1
  cases hr : runs ops.toList o st with
  | none => rw [hr] at e1; cases e1
  | some b =>
    rw [hr] at e1
    rw [runs_wanted h.tm hr]
    cases b with
    | false =>
      cases e1
      simp only [Bool.false_eq_true, if_false]
      exact k undef w (StepR.pure h.core ⟨#[], rfl, trivial⟩)
    | true =>
      simp only at e1
      simp only [if_true]
      cases h1 : opK P Γ o st some with
      | none => rw [h1] at e1; cases e1
      | some e0 =>
        rw [h1] at e1
        exact Or.inl (op_sound hΓ h.core h.tm h1 fun v w' hs => k v w' (normE_R e1 hs))
theorem opsL_sound (hΓ : ΓOk P Γ) {n : Nat} {ops : Array Oper} {E : Nat → Eff} (hd : ∀ o ∈ ops.toList, ∀ d, o.dst = some d → d < n) {Q : Exit → Act → World → Prop} : ∀ (l : List Nat) {st st' : St} {a : Act} {w : World} {G : Gh}, Inv C st w n a G → RunL P Γ ops.toList E l st st' →
    (∀ a' w' G', Inv C st' w' n a' G' → Q .normal a' w') → wpOps P ops Q l a w
  | [], st, st', a, w, G, h, hr, k => by
    cases hr
    exact k a w G h
  | i :: l, st, st', a, w, G, h, ⟨o, ho, hs, hr⟩, k => by
    have ho' : ops[i]? = some o := by rw [← Array.getElem?_toList]; exact ho
    rw [wpOps_cons]
    unfold wpOp
    rw [ho']
    simp only
    refine stepD_sound hΓ h hs fun v w' hst => ?_
    obtain ⟨G', h'⟩ := h.put (fun d hdd => hd o (List.mem_of_getElem? ho) d hdd) hst
    exact opsL_sound hΓ hd l h' hr k
theorem orderOk_spec {ops : List Oper} {lg : List Log} (h : orderOk ops lg = true) {la lb : Log} (ha : la ∈ lg) (hb : lb ∈ lg) (hlt : la.i < lb.i) (hbit : ((bitsOf ops []).getD lb.i 0).testBit la.i = false) {x y : Oper} (hx : ops[la.i]? = some x) (hy : ops[lb.i]? = some y) : clash ops x y la lb = false := by
  unfold orderOk at h
  have h1 := List.all_eq_true.1 (List.all_eq_true.1 h lb hb) la ha
  rw [if_pos hlt, hbit, hx, hy] at h1
  simpa using h1

/-! any order -/
def restOf (n : Nat) (listed : Array Bool) : List Nat := (List.range n).filter fun j => !listed.getD j false
/-- Each operation's direct elders have smaller numbers. -/
def eldersOk (ops : List Oper) : Bool := (ixs 0 ops).all fun p => p.2.after.toList.all fun e => !Region.binds .any e || decide (e.on < p.1)
theorem ixs_mem : ∀ (l : List Oper) (n k : Nat) (o : Oper), l[k]? = some o → (n + k, o) ∈ ixs n l
  | [], _, _, _, h => by simp at h
  | x :: l, n, 0, o, h => by
    simp only [List.getElem?_cons_zero, Option.some.injEq] at h
    subst h
    exact List.mem_cons_self
  | x :: l, n, k + 1, o, h => by
    rw [List.getElem?_cons_succ] at h
    have := ixs_mem l (n + 1) k o h
    have e : n + 1 + k = n + (k + 1) := by omega
    rw [e] at this
    exact List.mem_cons_of_mem _ this
theorem elders {ops : List Oper} (h : eldersOk ops = true) {i : Nat} {o : Oper} (ho : ops[i]? = some o) : ∀ e ∈ o.after.toList, Region.binds .any e = true → e.on < i := by
  intro e he hb
  have h1 := List.all_eq_true.1 h _ (ixs_mem ops 0 i o ho)
  have h2 := List.all_eq_true.1 h1 e he
  rw [hb] at h2
  simpa using h2
theorem getD_set {l : Array Bool} {i j : Nat} (hi : i < l.size) : (l.setIfInBounds i true).getD j false = if j = i then true else l.getD j false := by
  rw [Array.getD_eq_getD_getElem?, Array.getD_eq_getD_getElem?]
  by_cases h : j = i
  · subst h
    simp [hi]
  · rw [if_neg h, Array.getElem?_setIfInBounds_ne (Ne.symm h)]
theorem rest_set {n : Nat} {l : Array Bool} {i : Nat} (hl : l.size = n) (hi : i < n) : restOf n (l.setIfInBounds i true) = (restOf n l).filter (fun j => j != i) := by
  unfold restOf
  rw [List.filter_filter]
  apply List.filter_congr
  intro j _
  rw [getD_set (by omega)]
  by_cases h : j = i
  · subst h; simp
  · simp [h]
theorem any_sound (hΓ : ΓOk P Γ) {n : Nat} {ops : Array Oper} {E : Nat → Eff} (hd : ∀ o ∈ ops.toList, ∀ d, o.dst = some d → d < n) (hel : eldersOk ops.toList = true) {Q : Exit → Act → World → Prop}
    (hcl : ∀ j i x y, j < i → i < ops.size → ((bitsOf ops.toList []).getD i 0).testBit j = false → ops.toList[j]? = some x → ops.toList[i]? = some y → clash ops.toList x y ⟨j, (E j).rd, (E j).wr.map (·.1)⟩ ⟨i, (E i).rd, (E i).wr.map (·.1)⟩ = false) {st' : St}
    (k : ∀ a' w' G', Inv C st' w' n a' G' → Q .normal a' w') : ∀ (fuel : Nat) (listed : Array Bool) {st : St} {a : Act} {w : World} {G : Gh}, listed.size = ops.size → (restOf ops.size listed).length ≤ fuel →
    (∀ j o, listed.getD j false = true → ops.toList[j]? = some o → ∀ e ∈ o.after.toList, Region.binds .any e = true → listed.getD e.on false = true) →
    RunL P Γ ops.toList E (restOf ops.size listed) st st' → Inv C st w n a G → wpAny P .any ops Q fuel listed a w := by
  have mem_ready : ∀ (listed : Array Bool) (i : Nat), listed.size = ops.size → (i ∈ Region.ready .any ops listed ↔ i < ops.size ∧ listed.getD i false = false ∧ ∃ o, ops.toList[i]? = some o ∧ ∀ e ∈ o.after.toList, Region.binds .any e = true → listed.getD e.on false = true) := by
    intro listed i hsz
    unfold Region.ready
    rw [List.mem_filter, List.mem_range, Bool.and_eq_true]
    constructor
    · rintro ⟨h1, h2, h3⟩
      refine ⟨h1, ?_, ?_⟩
      · rw [Array.getD_eq_getD_getElem?] at h2 ⊢
        have : listed[i]? = some listed[i] := Array.getElem?_eq_getElem (by omega)
        rw [this] at h2 ⊢
        simpa using h2
      · have ho : ops[i]? = some ops[i] := Array.getElem?_eq_getElem h1
        rw [ho] at h3
        refine ⟨ops[i], by rw [Array.getElem?_toList]; exact ho, fun e he hb => ?_⟩
        simp only [Option.map_some, Option.getD_some] at h3
        rw [Array.all_eq_true_iff_forall_mem] at h3
        have := h3 e (by simpa using he)
        rw [hb] at this
        simpa using this
    · rintro ⟨h1, h2, o, ho, h3⟩
      refine ⟨h1, ?_, ?_⟩
      · rw [Array.getD_eq_getD_getElem?] at h2 ⊢
        have : listed[i]? = some listed[i] := Array.getElem?_eq_getElem (by omega)
        rw [this] at h2 ⊢
        simpa using h2
      · have ho' : ops[i]? = some o := by rw [← Array.getElem?_toList]; exact ho
        rw [ho']
        simp only [Option.map_some, Option.getD_some]
        rw [Array.all_eq_true_iff_forall_mem]
        intro e he
        cases hb : Region.binds .any e with
        | false => rfl
        | true => simpa using h3 e (by simpa using he) hb
  have ready_rest : ∀ (listed : Array Bool), listed.size = ops.size → Region.ready .any ops listed = [] → restOf ops.size listed = [] := by
    intro listed hsz hr
    -- the least one that is left is ready
    have hnone : ∀ i, i < ops.size → listed.getD i false = true := by
      intro i
      induction i using Nat.strongRecOn with
      | ind i ih =>
        intro hi
        cases hli : listed.getD i false with
        | true => rfl
        | false =>
          have hmem : i ∈ Region.ready .any ops listed := by
            rw [mem_ready listed i hsz]
            have ho : ops.toList[i]? = some ops[i] := by rw [Array.getElem?_toList]; exact Array.getElem?_eq_getElem hi
            refine ⟨hi, hli, ops[i], ho, fun e he hb => ?_⟩
            have hlt := elders hel ho e he hb
            exact ih e.on hlt (by omega)
          rw [hr] at hmem; cases hmem
    unfold restOf
    rw [List.filter_eq_nil_iff]
    intro j hj
    rw [hnone j (List.mem_range.1 hj)]
    simp
  intro fuel
  induction fuel with
  | zero =>
    intro listed st a w G hsz hlen hclosed hrun h
    have hrest : restOf ops.size listed = [] := List.eq_nil_of_length_eq_zero (by omega)
    have hready : Region.ready .any ops listed = [] := by
      apply List.eq_nil_iff_forall_not_mem.2
      intro i hi
      obtain ⟨h1, h2, _⟩ := (mem_ready listed i hsz).1 hi
      have : i ∈ restOf ops.size listed := by
        unfold restOf
        rw [List.mem_filter]
        exact ⟨List.mem_range.2 h1, by rw [h2]; rfl⟩
      rw [hrest] at this; cases this
    refine ⟨hready, ?_⟩
    rw [hrest] at hrun
    cases hrun
    exact k a w G h
  | succ fuel ih =>
    intro listed st a w G hsz hlen hclosed hrun h
    refine ⟨fun hr => ?_, fun i hi => ?_⟩
    · rw [ready_rest listed hsz hr] at hrun
      cases hrun
      exact k a w G h
    · obtain ⟨hin, hli, o, ho, hpre⟩ := (mem_ready listed i hsz).1 hi
      have hmem : i ∈ restOf ops.size listed := by
        unfold restOf
        rw [List.mem_filter]
        exact ⟨List.mem_range.2 hin, by rw [hli]; rfl⟩
      have hpair : (restOf ops.size listed).Pairwise (· < ·) := List.Pairwise.filter _ List.pairwise_lt_range
      have hfront := RunL.front hpair hmem hrun (fun j hj hji x y hx hy => by
        refine hcl j i x y hji hin ?_ hx hy
        cases hb : ((bitsOf ops.toList []).getD i 0).testBit j with
        | false => rfl
        | true =>
          have := bits_closed (L := fun j => listed.getD j false = true) (fun j o hl hjo => hclosed j o hl hjo) i o ho hpre j hb
          unfold restOf at hj
          rw [List.mem_filter, this] at hj
          simp at hj)
      rw [← rest_set hsz hin] at hfront
      obtain ⟨o', ho', hst, hrun'⟩ := hfront
      have : o' = o := by rw [ho] at ho'; exact (Option.some.inj ho').symm
      subst this
      have hoa : ops[i]? = some o' := by rw [← Array.getElem?_toList]; exact ho
      unfold wpOp
      rw [hoa]
      simp only
      refine stepD_sound hΓ h hst fun v w' hs => ?_
      obtain ⟨G', h'⟩ := h.put (fun d hdd => hd o' (List.mem_of_getElem? ho) d hdd) hs
      refine ih _ (by rw [Array.size_setIfInBounds]; exact hsz) ?_ ?_ hrun' h'
      · rw [rest_set hsz hin]
        have h1 : ((restOf ops.size listed).filter (fun j => j != i)).length < (restOf ops.size listed).length := by
          refine List.length_filter_lt_length_iff_exists.2 ⟨i, hmem, by simp⟩
        omega
      · intro j o2 hl hj e he hb
        rw [getD_set (by omega)] at hl ⊢
        by_cases hji : j = i
        · subst hji
          have : o2 = o' := by rw [ho] at hj; exact (Option.some.inj hj).symm
          subst this
          by_cases hei : e.on = j
          · rw [if_pos hei]
          · rw [if_neg hei]; exact hpre e he hb
        · rw [if_neg hji] at hl
          by_cases hei : e.on = i
          · rw [if_pos hei]
          · rw [if_neg hei]; exact hclosed j o2 hl hj e he hb
/-- A region. -/
theorem reg_sound (hΓ : ΓOk P Γ) (hm : P.follows .mixedOrders = true) {R : Type} {n : Nat} {id : Nat} {ops : Array Oper} {draw : Bool} (hd : ∀ o ∈ ops.toList, ∀ d, o.dst = some d → d < n) (hel : eldersOk ops.toList = true) (h : Inv C st w n a G) {k : St → Option R} {r : R}
    (hk : regK P Γ ops.toList draw st k = some r) : ∃ st', k st' = some r ∧ (Code.region id ops draw).wp P (fun e a' w' => e = .normal ∧ ∃ G', Inv C st' w' n a' G') a w := by
  unfold regK at hk
  obtain ⟨E, st', lg, h1, h2, _, h4⟩ := runK_run (P := P) (Γ := Γ) (ops := ops.toList) ops.toList [] rfl hk
  simp only [List.length_nil, Array.length_toList] at h1 h4
  have hr : List.range' 0 ops.size = List.range ops.size := (List.range_eq_range' (n := ops.size)).symm
  rw [hr] at h1 h4
  cases draw with
  | false =>
    exact ⟨st', h2, wp_region (opsL_sound hΓ hd _ h h1 fun a' w' G' hI => ⟨rfl, G', hI⟩)⟩
  | true =>
    simp only at h2
    cases ho : orderOk ops.toList lg with
    | false => rw [ho] at h2; cases h2
    | true =>
      rw [ho] at h2
      refine ⟨st', h2, wp_region_any hm ?_⟩
      have hrest : restOf ops.size (Array.replicate ops.size false) = List.range ops.size := by
        unfold restOf
        rw [List.filter_eq_self]
        intro j hj
        have := List.mem_range.1 hj
        simp [Array.getD_eq_getD_getElem?, this]
      have hdraw : Inv C st { w with drawn := w.drawn + 1 } n a G := by
        obtain ⟨c1, c2⟩ := h.core.world (w' := { w with drawn := w.drawn + 1 }) rfl rfl rfl rfl
        exact ⟨c1, fun t => (h.tm t).mono c2, h.size, h.defers⟩
      refine any_sound hΓ hd hel (E := E) (fun j i x y hji hi hb hx hy => ?_) (fun a' w' G' hI => ⟨rfl, G', hI⟩) ops.size _ (by simp) (by rw [hrest]; simp) (fun j o hl => by
        rw [Array.getD_eq_getD_getElem?] at hl
        by_cases hj : j < ops.size
        · simp [hj] at hl
        · simp [hj] at hl) (by rw [hrest]; exact h1) hdraw
      exact orderOk_spec ho (h4 j (List.mem_range.2 (by omega))) (h4 i (List.mem_range.2 hi)) hji hb hx hy
end
end Go.Proofs.YtamgbcgfjhpedaaDoor.VE
