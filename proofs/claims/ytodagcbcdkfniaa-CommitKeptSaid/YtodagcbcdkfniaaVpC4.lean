import Derived.Test.YtodagcbcdkfniaaVpC3
namespace Go.Proofs.Ytodagcbcdkfniaa.VE
open Go Go.RowKit
set_option linter.unusedVariables false
attribute [local irreducible] wrap64
/-! ### package commit: cut, bools, moved, key (no statement is proved here) -/
def cutC (r : Rl) (s : Us) : Us := (s.1, mn s.2.1 (keepT r s.1), if s.1 = true then r.2.1 else 0)
theorem cutc_ev (r : Rl) (s : Us) : Ev (fun k => commit_cut.f k r s) (cutC r s) := by
  obtain ⟨o, t, q⟩ := s
  unfold commit_cut.f cutC keepT
  cases o with
  | true => exact Ev.pos rfl (Ev.now _)
  | false => exact Ev.neg (by simp) (Ev.now _)
theorem cutC_ok {r : Rl} (hr : RuleOk r) {s : Us} (h : StateOk r s) : StateOk r (cutC r s) ∧ (cutC r s).2.1 ≤ 24 ∧ SameS r (cutC r s) s := by
  have k := keepT_rng hr s.1
  have hm := mn_le s.2.1 (keepT r s.1)
  have t0 := h.t0; have t1 := h.t1; have l0 := hr.le0; have l1 := hr.le1
  refine ⟨⟨by show 1 ≤ mn _ _; omega, by show mn _ _ ≤ _; omega, fun ho => ?_, fun ho => ?_⟩, by show mn _ _ ≤ _; omega, rfl, ?_⟩
  · have ho : s.1 = true := ho
    show r.2.1 ≤ (if s.1 = true then r.2.1 else 0) ∧ (if s.1 = true then r.2.1 else 0) ≤ _
    rw [if_pos ho]; omega
  · have ho : s.1 = false := ho
    show (if s.1 = true then r.2.1 else 0) = 0
    rw [ho]; rfl
  · show mn (mn s.2.1 (keepT r s.1)) (keepT r s.1) = mn s.2.1 (keepT r s.1)
    unfold mn
    repeat' split
    all_goals omega
def cutL : List Un → List Us → List Us
  | u :: l, s :: ss => cutC u.1 s :: cutL l ss
  | _, _ => []
def Small (a : List Us) : Prop := ∀ s ∈ a, 1 ≤ s.2.1 ∧ s.2.1 ≤ 24
theorem cutL_ok : ∀ (l : List Un) (a : List Us), UnitsOk l → StatesOk l a → StatesOk l (cutL l a) ∧ Small (cutL l a) ∧ SamesL l (cutL l a) a
  | [], [], _, _ => ⟨trivial, (fun s h => by cases h), trivial⟩
  | u :: l, s :: ss, hU, h => by
    obtain ⟨i1, i2, i3⟩ := cutL_ok l ss hU.tail h.2
    obtain ⟨c1, c2, c3⟩ := cutC_ok (hU u (by simp)).rule h.1
    refine ⟨⟨c1, i1⟩, fun x hx => ?_, c3, i3⟩
    rcases List.mem_cons.1 hx with rfl | hx
    · exact ⟨c1.t0, c2⟩
    · exact i2 x hx
  | [], _ :: _, _, h => h.elim
  | _ :: _, [], _, h => h.elim
def bit (n i : Int) : Bool := decide ((andI .i64 (shrI .i64 n i) 1) = 1)
def bitsL (n : Int) (m : Nat) : List Bool := (List.range m).map fun (i : Nat) => bit n (i : Int)
theorem bools_ev (n : Int) : ∀ (m : Nat), m ≤ 3 → Ev (fun k => commit_bools.f k n (m : Int)) (bitsL n m)
  | 0, _ => Ev.far 5 (fun k => by kernel_rfl)
  | 1, _ => Ev.far 5 (fun k => by kernel_rfl)
  | 2, _ => Ev.far 5 (fun k => by kernel_rfl)
  | 3, _ => Ev.far 5 (fun k => by kernel_rfl)
  | m + 4, h => by omega
theorem bitsL_len (n : Int) (m : Nat) : (bitsL n m).length = m := by simp [bitsL]
theorem bitsL_rd (n : Int) (m : Nat) {i : Int} (h0 : 0 ≤ i) (h1 : i < (m : Int)) : rBool (bitsL n m) i = bit n i := by
  obtain ⟨j, rfl⟩ : ∃ j : Nat, i = (j : Int) := ⟨i.toNat, by omega⟩
  refine rBool_get _ j _ ?_
  unfold bitsL
  rw [List.getElem?_map, List.getElem?_range (by omega)]
  rfl
def powT : Nat → Int
  | 0 => 1
  | n + 1 => 2 * powT n
theorem shl_ev : ∀ (m : Nat), m ≤ 3 → shlI .i64 1 (m : Int) = powT m
  | 0, _ => by kernel_rfl
  | 1, _ => by kernel_rfl
  | 2, _ => by kernel_rfl
  | 3, _ => by kernel_rfl
  | m + 4, h => by omega
theorem bits_some : ∀ (bs : List Bool), bs.length ≤ 3 → ∃ n, (0 ≤ n ∧ n < powT bs.length) ∧ bitsL n bs.length = bs
  | [], _ => ⟨0, by decide, by kernel_rfl⟩
  | [false], _ => ⟨0, by decide, by kernel_rfl⟩
  | [true], _ => ⟨1, by decide, by kernel_rfl⟩
  | [false, false], _ => ⟨0, by decide, by kernel_rfl⟩
  | [true, false], _ => ⟨1, by decide, by kernel_rfl⟩
  | [false, true], _ => ⟨2, by decide, by kernel_rfl⟩
  | [true, true], _ => ⟨3, by decide, by kernel_rfl⟩
  | [false, false, false], _ => ⟨0, by decide, by kernel_rfl⟩
  | [true, false, false], _ => ⟨1, by decide, by kernel_rfl⟩
  | [false, true, false], _ => ⟨2, by decide, by kernel_rfl⟩
  | [true, true, false], _ => ⟨3, by decide, by kernel_rfl⟩
  | [false, false, true], _ => ⟨4, by decide, by kernel_rfl⟩
  | [true, false, true], _ => ⟨5, by decide, by kernel_rfl⟩
  | [false, true, true], _ => ⟨6, by decide, by kernel_rfl⟩
  | [true, true, true], _ => ⟨7, by decide, by kernel_rfl⟩
  | _ :: _ :: _ :: _ :: _, h => by simp at h
theorem powT_rng : ∀ (m : Nat), m ≤ 3 → 1 ≤ powT m ∧ powT m ≤ 8
  | 0, _ => by decide
  | 1, _ => by decide
  | 2, _ => by decide
  | 3, _ => by decide
  | m + 4, h => by omega
abbrev Jt := List Us × Int × Int × Int
abbrev MvR := Jt × Bool
def MvP (acc : List Us) (c o : Int) (x : Option (List Us × Int)) (l : List Un) (r : MvR) : Prop := match x with
  | none => r.2 = false
  | some q => r = ((acc ++ cutL l q.1, c + q.2, 0, o), true)
theorem StatesOk.rd : ∀ {l : List Un} {a : List Us}, StatesOk l a → ∀ (m : Nat) u s, l[m]? = some u → a[m]? = some s → StateOk u.1 s
  | [], [], _, m, u, s, h, _ => by simp at h
  | u :: l, a :: as, h, m, v, s, h1, h2 => by
    cases m with
    | zero =>
      simp only [List.getElem?_cons_zero, Option.some.injEq] at h1 h2
      subst h1 h2
      exact h.1
    | succ m => exact StatesOk.rd h.2 m v s (by simpa using h1) (by simpa using h2)
  | [], _ :: _, h, _, _, _, _, _ => h.elim
  | _ :: _, [], h, _, _, _, _, _ => h.elim
theorem moved_loop (l : List Un) (hU : UnitsOk l) (hl : l.length ≤ 3) (on : Int) (st : List Us) (hst : StatesOk l st) (c0 b0 o0 : Int) : ∀ (n : Nat) (i c : Int) (acc : List Us), 0 ≤ i → (l.length : Int) - i = n → acc.length ≤ i.toNat → -100000000000000 ≤ c → c ≤ 100000000000000 - 1000000 * (3 - i) → EvP (fun k => commit_moved.l3 k on l (l.length : Int) i st c0 b0 o0 0 0 0 c 0 on acc) (MvP acc c on (nextL (l.drop i.toNat) (st.drop i.toNat) (bases (l.drop i.toNat) ((bitsL on l.length).drop i.toNat))) (l.drop i.toNat)) := by
  have hsl := hst.len
  intro n
  induction n with
  | zero =>
    intro i c acc h0 h1 ha c1 c2
    rw [drop_end (xs := l) (by omega), drop_end (xs := st) (by omega)]
    refine EvP.step (fun k => commit_moved.l3_eq k _ _ _ _ _ _ _ _ _ _ _ _ _ _ _) (EvP.neg (by omega) (EvP.ret ?_))
    show ((acc, c, 0, on), true) = ((acc ++ [], c + 0, 0, on), true)
    rw [List.append_nil, Int.add_zero]
  | succ n ih =>
    intro i c acc h0 h1 ha c1 c2
    have hlt : i < (l.length : Int) := by omega
    have hls : i < (st.length : Int) := by omega
    have hlb : i < ((bitsL on l.length).length : Int) := by rw [bitsL_len]; omega
    have hu := hU _ (rY10_mem h0 hlt)
    have hsk := hst.rd _ _ _ (rY10_some h0 hlt) (rY8_some h0 hls)
    rw [rY10_drop h0 hlt, rY8_drop h0 hls, rBool_drop h0 hlb, bitsL_rd on l.length h0 hlt]
    have l0 := hu.rule.le0
    have go : ∀ p : Int, p = (if bit on i = true then (rY10 l i).1.2.1 else -1) → EvP (fun k => commit_moved.l8 k on i p l (l.length : Int) i st c0 b0 o0 0 0 0 c 0 on (rY10 l i).1.1 (rY10 l i).1.2.1 (rY10 l i).1.2.2.1 (rY10 l i).1.2.2.2.1 (rY10 l i).1.2.2.2.2.1 (rY10 l i).1.2.2.2.2.2.1 (rY10 l i).1.2.2.2.2.2.2.1 (rY10 l i).1.2.2.2.2.2.2.2 (rY10 l i).2.1.1 (rY10 l i).2.1.2 (rY10 l i).2.2.1 (rY10 l i).2.2.2.1 (rY10 l i).2.2.2.2 acc) (MvP acc c on (nextL (rY10 l i :: l.drop (i + 1).toNat) (rY8 st i :: st.drop (i + 1).toNat) (p :: bases (l.drop (i + 1).toNat) ((bitsL on l.length).drop (i + 1).toNat))) (rY10 l i :: l.drop (i + 1).toNat)) := by
      intro p _
      have hsz : (acc.length + 1) * 24 ≤ 140737488355328 := by omega
      have hsa : ∀ y : Us, (acc ++ [y]).length ≤ (i + 1).toNat := fun y => by rw [List.length_append, List.length_singleton]; omega
      refine EvP.step (fun k => commit_moved.l8_eq k _ _ _ _ _ _ _ _ _ _ _ _ _ _ _ _ _ _ _ _ _ _ _ _ _ _ _ _ _ _) (EvP.pos h0 (EvP.pos hls ?_))
      generalize rY10 l i = u at *
      generalize rY8 st i = s at *
      refine EvP.bindE (next_ev hu hsk p) ?_
      refine EvP.ite (fun hz => ?_) (fun hz => EvP.ret ?_)
      · obtain ⟨_, _, _, n0, n1⟩ := next_ok hu.rule hsk hz
        refine EvP.bindE (cutc_ev _ _) (EvP.pos hsz ?_)
        have key : nextL (u :: l.drop (i + 1).toNat) (s :: st.drop (i + 1).toNat) (p :: bases (l.drop (i + 1).toNat) ((bitsL on l.length).drop (i + 1).toNat)) = (nextL (l.drop (i + 1).toNat) (st.drop (i + 1).toNat) (bases (l.drop (i + 1).toNat) ((bitsL on l.length).drop (i + 1).toNat))).map fun q => ((nextU u.1 s p).1 :: q.1, (nextU u.1 s p).2.1 + q.2) := by
          show (if (nextU u.1 s p).2.2 = 0 then _ else none) = _
          rw [if_pos hz]
        rw [key]
        clear key hz
        generalize nextU u.1 s p = y at *
        have hw : wrap64 (c + y.2.1) = c + y.2.1 := w64 (by omega) (by omega)
        rw [w64 (x := i + 1) (by omega) (by omega), hw]
        have := ih (i + 1) (c + y.2.1) (acc ++ [cutC u.1 y.1]) (by omega) (by omega) (hsa _) (by omega) (by omega)
        refine this.mono (fun r hr => ?_)
        cases hq : nextL (l.drop (i + 1).toNat) (st.drop (i + 1).toNat) (bases (l.drop (i + 1).toNat) ((bitsL on l.length).drop (i + 1).toNat)) with
        | none => rw [hq] at hr; exact hr
        | some q =>
          rw [hq] at hr
          have hr : r = ((acc ++ [cutC u.1 y.1] ++ cutL (l.drop (i + 1).toNat) q.1, c + y.2.1 + q.2, 0, on), true) := hr
          show r = ((acc ++ cutC u.1 y.1 :: cutL (l.drop (i + 1).toNat) q.1, c + (y.2.1 + q.2), 0, on), true)
          rw [hr, List.append_assoc, List.singleton_append, Int.add_assoc]
      · unfold nextL
        rw [if_neg hz]
        rfl
    refine EvP.step (fun k => commit_moved.l3_eq k _ _ _ _ _ _ _ _ _ _ _ _ _ _ _) (EvP.pos hlt (EvP.pos h0 (EvP.pos hlt (EvP.pos h0 ?_))))
    refine EvP.ite (fun hb => ?_) (fun hb => ?_)
    · have e : bit on i = true := by unfold bit; rw [decide_eq_true_iff]; exact hb
      have := go (rY10 l i).1.2.1 (by rw [if_pos e])
      show EvP _ (MvP acc c on (nextL (rY10 l i :: l.drop (i + 1).toNat) (rY8 st i :: st.drop (i + 1).toNat) ((if bit on i = true then (rY10 l i).1.2.1 else -1) :: bases (l.drop (i + 1).toNat) ((bitsL on l.length).drop (i + 1).toNat))) (rY10 l i :: l.drop (i + 1).toNat))
      rw [if_pos e]
      exact this
    · have e : ¬ bit on i = true := by unfold bit; rw [decide_eq_true_iff]; exact hb
      have := go (-1) (by rw [if_neg e])
      show EvP _ (MvP acc c on (nextL (rY10 l i :: l.drop (i + 1).toNat) (rY8 st i :: st.drop (i + 1).toNat) ((if bit on i = true then (rY10 l i).1.2.1 else -1) :: bases (l.drop (i + 1).toNat) ((bitsL on l.length).drop (i + 1).toNat))) (rY10 l i :: l.drop (i + 1).toNat))
      rw [if_neg e]
      exact this
theorem moved_ev (l : List Un) (hU : UnitsOk l) (hl : l.length ≤ 3) (on : Int) (j : Jt) (hst : StatesOk l j.1) (hc : -99000000000000 ≤ j.2.1 ∧ j.2.1 ≤ 99000000000000) : EvP (fun k => commit_moved.f k l j on) (MvP [] j.2.1 on (nextL l j.1 (bases l (bitsL on l.length))) l) := by
  have := moved_loop l hU hl on j.1 hst j.2.1 j.2.2.1 j.2.2.2 l.length 0 j.2.1 [] (by omega) (by omega) (by simp) (by omega) (by omega)
  rw [show (0 : Int).toNat = 0 from rfl, List.drop_zero, List.drop_zero, List.drop_zero] at this
  exact this
def digit (s : Us) : Int := 2 * s.2.1 + if s.1 = true then 1 else 0
def keyF : Int → List Us → Int
  | a, [] => a
  | a, s :: ss => keyF (a * 64 + digit s) ss
theorem key_loop (xs : List Us) (hs : Small xs) (hl : xs.length ≤ 3) : ∀ (n : Nat) (i a : Int), 0 ≤ i → (xs.length : Int) - i = n → 0 ≤ a → (i = 0 ∧ a = 0 ∨ i = 1 ∧ a ≤ 49 ∨ i = 2 ∧ a ≤ 4000 ∨ 3 ≤ i ∧ a ≤ 1000000) → Ev (fun k => commit_key.l3 k a xs (xs.length : Int) i) (keyF a (xs.drop i.toNat)) := by
  intro n
  induction n with
  | zero =>
    intro i a h0 h1 a0 a1
    rw [drop_end (by omega)]
    exact Ev.step (fun k => commit_key.l3_eq k _ _ _ _) (Ev.neg (by omega) (Ev.now _))
  | succ n ih =>
    intro i a h0 h1 a0 a1
    have hlt : i < (xs.length : Int) := by omega
    have hx := hs _ (rY8_mem h0 hlt)
    rw [rY8_drop h0 hlt]
    refine Ev.step (fun k => commit_key.l3_eq k _ _ _ _) (Ev.pos hlt (Ev.pos h0 (Ev.pos hlt ?_)))
    generalize rY8 xs i = s at *
    rw [w64 (x := i + 1) (by omega) (by omega), w64 (x := a * 64) (by omega) (by omega), w64 (x := 2 * s.2.1) (by omega) (by omega), w64 (x := a * 64 + 2 * s.2.1) (by omega) (by omega)]
    show Ev _ (keyF (a * 64 + digit s) (xs.drop (i + 1).toNat))
    refine Ev.ite (fun hb => ?_) (fun hb => ?_)
    · rw [w64 (x := a * 64 + 2 * s.2.1 + 1) (by omega) (by omega)]
      have e : digit s = 2 * s.2.1 + 1 := by unfold digit; rw [if_pos hb]
      rw [e, ← Int.add_assoc]
      exact ih (i + 1) _ (by omega) (by omega) (by omega) (by omega)
    · have e : digit s = 2 * s.2.1 := by unfold digit; rw [if_neg hb]; omega
      rw [e]
      exact ih (i + 1) _ (by omega) (by omega) (by omega) (by omega)
theorem key_ev (xs : List Us) (hs : Small xs) (hl : xs.length ≤ 3) : Ev (fun k => commit_key.f k xs) (keyF 0 xs) := by
  have := key_loop xs hs hl xs.length 0 0 (by omega) (by omega) (by omega) (Or.inl ⟨rfl, rfl⟩)
  rw [show (0 : Int).toNat = 0 from rfl, List.drop_zero] at this
  exact this
theorem key_inj : ∀ (l : List Un) (a b : List Us) (x y : Int), StatesOk l a → StatesOk l b → Small a → Small b → keyF x a = keyF y b → x = y ∧ SamesL l a b
  | [], [], [], x, y, _, _, _, _, h => ⟨h, trivial⟩
  | u :: l, a :: as, b :: bs, x, y, ha, hb, sa, sb, h => by
    obtain ⟨i1, i2⟩ := key_inj l as bs _ _ ha.2 hb.2 (fun s hs => sa s (by simp [hs])) (fun s hs => sb s (by simp [hs])) h
    have a1 := sa a (by simp)
    have b1 := sb b (by simp)
    obtain ⟨oa, ta, qa⟩ := a
    obtain ⟨ob, tb, qb⟩ := b
    unfold digit at i1
    simp only at a1 b1 i1
    cases oa <;> cases ob <;> simp at i1 <;> (try omega)
    · obtain rfl : ta = tb := by omega
      exact ⟨by omega, ⟨rfl, rfl⟩, i2⟩
    · obtain rfl : ta = tb := by omega
      exact ⟨by omega, ⟨rfl, rfl⟩, i2⟩
  | [], _ :: _, _, _, _, h, _, _, _, _ => h.elim
  | _ :: _, [], _, _, _, h, _, _, _, _ => h.elim
  | [], [], _ :: _, _, _, _, h, _, _, _ => h.elim
  | _ :: _, _ :: _, [], _, _, _, h, _, _, _ => h.elim
theorem mget_mput : ∀ (m : List (Int × Int)) (k v x : Int), mget (mput m k v) x = if k = x then some v else mget m x
  | [], k, v, x => by
    show mget [(k, v)] x = _
    unfold mget mget
    rfl
  | (a, b) :: m, k, v, x => by
    unfold mput
    by_cases h : a = k
    · rw [if_pos h]
      subst h
      unfold mget
      by_cases h2 : a = x
      · rw [if_pos h2, if_pos h2]
      · simp only [if_neg h2]
    · rw [if_neg h]
      unfold mget
      by_cases h2 : a = x
      · rw [if_pos h2, if_pos h2, if_neg (by omega)]
      · rw [if_neg h2, if_neg h2, mget_mput m k v x]
end Go.Proofs.Ytodagcbcdkfniaa.VE
