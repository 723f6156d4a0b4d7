/- Texts of the claim, put together: Opn. -/
import Derived.Test.YtfcifmbddikflaaCReserveKept0
import Derived.SizedLaws
import Derived.ChangeArms
import Derived.DataReads
import Derived.OpenShut
namespace Go.Proofs.Ytfcifmbddikflaa.Opn
open Go.Proofs.YtfcifmbddikflaaW.PrintWords
def I64 (a : Int) : Prop := -9223372036854775808 ≤ a ∧ a ≤ 9223372036854775807
def U8 (a : Int) : Prop := 0 ≤ a ∧ a ≤ 255
theorem I64.wf {a : Int} (h : (Lit.int .i64 a).wf = true) : I64 a := bounds_i64 h
theorem U8.wf {a : Int} (h : (Lit.int .u8 a).wf = true) : U8 a := bounds_u8 h
def Opn {α : Type} (P : Program) (t : TypeId) (d : Kd α) (Ok : α → Prop) : Prop :=
  ∀ (H : Type) (enc : TypeId × Value → H) (w : World) (base : Nat) (spare : Nat → Bool) (held : Bool) (fuel : Nat) (cs : List Value) (x : DataW H × List MemPlace),
    DataW.trod enc P w base spare held fuel t cs = some x → (∀ n ∈ x.1.weights P t, n ≤ reachBytes) → ∃ a, d.K w a cs ∧ Ok a
def OpnS {α : Type} (P : Program) (fs : List Field) (off : Nat) (d : Kd α) (Ok : α → Prop) : Prop :=
  ∀ (H : Type) (enc : TypeId × Value → H) (w : World) (base : Nat) (spare : Nat → Bool) (held : Bool) (fuel : Nat) (cs : List Value) (xs : List (DataW H × List MemPlace)),
    xs.length = fs.length → (∀ (i : Nat) (f : Field), fs[i]? = some f → DataW.trod enc P w base spare held fuel f.type ((cs.drop f.offset).take (P.cellsOf f.type)) = xs[i]?) →
    (∀ n ∈ DataW.weightsEach P (fs.map (·.type)) (xs.map (·.1)), n ≤ reachBytes) → ∃ a, d.K w a ((cs.drop off).take d.sz) ∧ Ok a
theorem opn_i64 {P : Program} {t : TypeId} (hu : P.underlying t = some (.int .i64)) : Opn P t (Kd.int .i64) I64 := by
  intro H enc w base spare held fuel cs x h _; obtain ⟨n, rfl, rfl, hw⟩ := DataW.trod_int hu h
  exact ⟨n, rfl, I64.wf hw⟩
def StrOk (s : ByteArray) : Prop := s.size ≤ 140737488351232
theorem opn_string {P : Program} {t : TypeId} (hu : P.underlying t = some .string) : Opn P t Kd.string StrOk := by
  intro H enc w base spare held fuel cs x h hw; obtain ⟨s, rfl, rfl, _⟩ := DataW.trod_string hu h
  refine ⟨s, rfl, ?_⟩
  have := hw s.data.toList.length (by simp [DataW.weights])
  rw [data_length] at this; exact this
theorem mem_weightsAll {H : Type} {P : Program} {e : TypeId} {n : Nat} : ∀ (l : List (DataW H)) (d : DataW H), d ∈ l → n ∈ d.weights P e → n ∈ DataW.weightsAll P e l
  | [], _, h, _ => by cases h
  | d0 :: l, d, h, hn => by
    simp only [DataW.weightsAll, List.mem_append]
    rcases List.mem_cons.1 h with rfl | h
    · exact Or.inl hn
    · exact Or.inr (mem_weightsAll l d h hn)
theorem choose_list {α : Type} {Q : Nat → α → Prop} : ∀ (n : Nat), (∀ i, i < n → ∃ a, Q i a) → ∃ l : List α, l.length = n ∧ ∀ i a, l[i]? = some a → Q i a
  | 0, _ => ⟨[], rfl, fun i a h => by simp at h⟩
  | n + 1, h => by
    obtain ⟨l, hl, hq⟩ := choose_list n (fun i hi => h i (by omega))
    obtain ⟨a, ha⟩ := h n (by omega)
    refine ⟨l ++ [a], by simp [hl], fun i b hb => ?_⟩
    rcases Nat.lt_or_ge i l.length with hi | hi
    · rw [List.getElem?_append_left hi] at hb; exact hq i b hb
    · have hi' : i = l.length := by
        have := (List.getElem?_eq_some_iff.1 hb).1
        rw [List.length_append, List.length_singleton] at this; omega
      subst hi'; have hb' : a = b := by simpa using hb
      subst hb'; rw [hl]; exact ha
def ListOk {α : Type} (B : Nat) (Ok : α → Prop) (l : List α) : Prop := l.length * B ≤ 140737488351232 ∧ ∀ a ∈ l, Ok a
theorem opn_slice {α : Type} {P : Program} {t e : TypeId} {d : Kd α} {Ok : α → Prop} {B : Nat} (hu : P.underlying t = some (.slice e)) (hc : P.cellsOf e = d.sz) (hB : P.bytesOf e = B) (ho : Opn P e d Ok) :
    Opn P t (Kd.slice e d) (ListOk B Ok) := by
  intro H enc w base spare held fuel cs x h hw; rcases DataW.trod_slice hu h with ⟨rfl, rfl⟩ | ⟨a, len, cap, elems, rest, n, rfl, rfl, rfl, hb, hl, hm, he, hel, _, _⟩
  · exact ⟨[], ⟨none, 0, rfl, Nat.le_refl _, ⟨rfl, by simp, fun h => absurd h (by simp)⟩⟩, by simp, fun a h => by cases h⟩
  · simp only [DataW.weights, hu, List.mem_cons, List.mem_append] at hw
    have hsz := hw _ (Or.inl rfl)
    rw [hB, List.length_map, List.length_map, he] at hsz; obtain ⟨l, hll, hq⟩ := choose_list (Q := fun i p => ∃ c, w.cells? base (a.add (i * P.cellsOf e)) (P.cellsOf e) = some c ∧ d.K w p c ∧ Ok p) len (fun i hi => by
      have h1 := hel i hi
      obtain ⟨y, hy⟩ : ∃ y, elems[i]? = some y := ⟨elems[i]'(by omega), List.getElem?_eq_getElem (by omega)⟩
      rw [hy] at h1; obtain ⟨c, hc1, hc2⟩ := Option.bind_eq_some_iff.1 h1
      obtain ⟨p, hp, hok⟩ := ho H enc w base spare held n c y hc2 (fun m hm' => hw m (Or.inr (Or.inl (mem_weightsAll _ y.1 (List.mem_map.2 ⟨y, List.mem_of_getElem? hy, rfl⟩) hm'))))
      exact ⟨p, c, hc1, hp, hok⟩)
    have hlB : len * B ≤ 140737488351232 := Nat.le_trans (Nat.mul_le_mul_right _ (Nat.le_add_right _ _)) hsz
    refine ⟨l, ⟨some a, cap, by rw [hll], by omega, ⟨rfl, by simp only [maxLen] at hm; omega, fun _ => ⟨a, rfl, fun j p hj => ?_⟩⟩⟩, by rw [hll]; exact hlB, fun p hp => ?_⟩
    · obtain ⟨c, hc1, hp, _⟩ := hq j p hj
      obtain ⟨_, hlen, hcell⟩ := World.cells?_some hc1
      refine ⟨c, by rw [hlen, hc], hp, fun i u hiu => ?_⟩
      have hi : i < P.cellsOf e := by
        have := (List.getElem?_eq_some_iff.1 hiu).1
        omega
      have := hcell i hi
      rw [add_add, hc] at this; rw [this]; exact hiu
    · obtain ⟨i, hi⟩ := List.getElem?_of_mem hp
      obtain ⟨c, _, _, hok⟩ := hq i p hi
      exact hok
theorem opnS_one {α : Type} {P : Program} {f : Field} {off : Nat} {d : Kd α} {Ok : α → Prop} (hoff : f.offset = off) (hc : P.cellsOf f.type = d.sz) (ho : Opn P f.type d Ok) : OpnS P [f] off d Ok := by
  intro H enc w base spare held fuel cs xs hl h hw; obtain ⟨x, rfl⟩ : ∃ x, xs = [x] := by
    match xs, hl with
    | [x], _ => exact ⟨x, rfl⟩
  have h0 := h 0 f rfl
  subst hoff; rw [hc] at h0; exact ho H enc w base spare held fuel _ x h0 (fun n hn => hw n (by simp [DataW.weightsEach, hn]))
theorem opnS_cons {α β : Type} {P : Program} {f : Field} {fs : List Field} {off : Nat} {d : Kd α} {d' : Kd β} {Ok : α → Prop} {Ok' : β → Prop} (hoff : f.offset = off) (hc : P.cellsOf f.type = d.sz) (ho : Opn P f.type d Ok) (hs : OpnS P fs (off + d.sz) d' Ok') :
    OpnS P (f :: fs) off (Kd.pair d d') (fun x => Ok x.1 ∧ Ok' x.2) := by
  intro H enc w base spare held fuel cs xs hl h hw; obtain ⟨x, xs', rfl⟩ : ∃ x xs', xs = x :: xs' := by
    cases xs with
    | nil => simp at hl
    | cons x xs' => exact ⟨x, xs', rfl⟩
  have h0 := h 0 f rfl
  subst hoff; rw [hc] at h0; obtain ⟨a, ha, hoka⟩ := ho H enc w base spare held fuel _ x h0 (fun n hn => hw n (by simp [DataW.weightsEach, hn]))
  obtain ⟨b, hb, hokb⟩ := hs H enc w base spare held fuel cs xs' (by simpa using hl) (fun i g hg => by simpa using h (i + 1) g (by simpa using hg)) (fun n hn => hw n (by
    simp only [List.map_cons, DataW.weightsEach, List.mem_append]
    exact Or.inr hn))
  refine ⟨(a, b), ⟨_, _, ?_, ha, hb⟩, hoka, hokb⟩
  rw [← List.drop_drop]; exact List.take_add
theorem opn_struct {α β : Type} {P : Program} {t : TypeId} {fs : Array Field} {L : List Field} {d : Kd α} {Ok : α → Prop} {f : β → α} (g : α → β) (hu : P.underlying t = some (.struct fs)) (hf : fs.toList = L) (hc : P.cellsOf t = d.sz) (hs : OpnS P L 0 d Ok) (hg : ∀ a, f (g a) = a) :
    Opn P t (Kd.iso d f) (fun b => Ok (f b)) := by
  intro H enc w base spare held fuel cs x h hw; obtain ⟨xs, n, rfl, rfl, hl, hxl, hx⟩ := DataW.trod_struct hu h
  subst hf; obtain ⟨a, ha, hok⟩ := hs H enc w base spare held n cs xs (by simpa using hxl) (fun i f hf => hx i f (by simpa using hf)) (fun n hn => hw n (by
    simp only [DataW.weights, hu]
    exact hn))
  refine ⟨g a, ?_, by show Ok (f (g a)); rw [hg]; exact hok⟩
  show d.K w (f (g a)) cs
  rw [hg]; rw [List.drop_zero, ← hc, ← hl, List.take_length] at ha; exact ha
theorem weights_of {H : Type} {P : Program} {ts : List TypeId} {ds : List (DataW H)} (h : (DataW.weightsEach P ts ds).all (· ≤ reachBytes) = true) {j : Nat} {t : TypeId} {d : DataW H} (ht : ts[j]? = some t) (hd : ds[j]? = some d) : ∀ n ∈ d.weights P t, n ≤ reachBytes := fun n hn => by
  have := List.all_eq_true.1 h _ (DataW.weights_mem_each ht hd n hn)
  simpa using this
end Go.Proofs.Ytfcifmbddikflaa.Opn
