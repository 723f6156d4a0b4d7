/- Convex functions of integers as lists of pieces (plain lemmas; no statement is proved here). -/
import Derived.Test.YtodagcbcdkfniaaVpEv
import Derived.Test.YtodagcbcdkfniaaVpMerge
namespace Go.Proofs.Ytodagcbcdkfniaa.VE
open Go Go.RowKit
set_option linter.unusedVariables false
abbrev Pc := Int × Int
def total : List Pc → Int
  | [] => 0
  | p :: ps => p.1 + total ps
/-- The value behind so many units. -/
def vAt : List Pc → Int → Int
  | [], _ => 0
  | p :: ps, d => mn p.1 d * p.2 + vAt ps (d - mn p.1 d)
def lin (g : Int → Int) : List Pc → Int
  | [] => 0
  | p :: ps => p.1 * g p.2 + lin g ps
def meas (ps : List Pc) (s : Int) : Int := lin (fun t => if t = s then 1 else 0) ps
theorem total_nil : total [] = 0 := rfl
theorem total_cons (p : Pc) (ps : List Pc) : total (p :: ps) = p.1 + total ps := rfl
theorem lin_cons (g : Int → Int) (p : Pc) (ps : List Pc) : lin g (p :: ps) = p.1 * g p.2 + lin g ps := rfl
theorem vAt_cons (p : Pc) (ps : List Pc) (d : Int) : vAt (p :: ps) d = mn p.1 d * p.2 + vAt ps (d - mn p.1 d) := rfl
theorem total_append : ∀ (a b : List Pc), total (a ++ b) = total a + total b
  | [], b => by simp [total]
  | p :: a, b => by rw [List.cons_append, total_cons, total_cons, total_append a b]; omega
theorem lin_append (g : Int → Int) : ∀ (a b : List Pc), lin g (a ++ b) = lin g a + lin g b
  | [], b => by simp [lin]
  | p :: a, b => by rw [List.cons_append, lin_cons, lin_cons, lin_append g a b]; omega
theorem lin_perm (g : Int → Int) {a b : List Pc} (h : a.Perm b) : lin g a = lin g b := by
  induction h with
  | nil => rfl
  | cons x _ ih => simp only [lin]; rw [ih]
  | swap x y l => simp only [lin]; omega
  | trans _ _ h1 h2 => rw [h1, h2]
theorem lin_one : ∀ (a : List Pc), lin (fun _ => 1) a = total a
  | [] => rfl
  | p :: a => by rw [lin_cons, total_cons, lin_one a]; omega
def Nn (ps : List Pc) : Prop := ∀ p ∈ ps, 0 ≤ p.1
theorem total_nonneg : ∀ (ps : List Pc), Nn ps → 0 ≤ total ps
  | [], _ => by simp [total]
  | p :: ps, h => by
    have := total_nonneg ps (fun q hq => h q (by simp [hq]))
    have := h p (by simp)
    rw [total_cons]; omega
theorem total_le {B : Int} : ∀ (ps : List Pc), (∀ p ∈ ps, p.1 ≤ B) → total ps ≤ B * ps.length
  | [], _ => by simp [total]
  | p :: ps, h => by
    have := total_le ps (fun q hq => h q (by simp [hq]))
    have := h p (by simp)
    rw [total_cons, List.length_cons]
    rw [show ((ps.length + 1 : Nat) : Int) = (ps.length : Int) + 1 by omega, Int.mul_add]; omega
theorem mn_of_le {a b : Int} (h : a ≤ b) : mn a b = a := by have := mn_le a b; unfold mn at *; split <;> omega
theorem mn_of_ge {a b : Int} (h : b ≤ a) : mn a b = b := by have := mn_le a b; unfold mn at *; split <;> omega
theorem vAt_zero : ∀ (ps : List Pc), Nn ps → vAt ps 0 = 0
  | [], _ => rfl
  | p :: ps, h => by
    have h0 := h p (by simp)
    rw [vAt_cons, mn_of_ge h0]
    rw [Int.zero_mul, show (0 : Int) - 0 = 0 from rfl, vAt_zero ps (fun q hq => h q (by simp [hq]))]; rfl
theorem vAt_append_lt : ∀ (a b : List Pc) (d : Int), Nn a → Nn b → 0 ≤ d → d ≤ total a → vAt (a ++ b) d = vAt a d
  | [], b, d, _, hb, h0, h1 => by
    have : d = 0 := by rw [total_nil] at h1; omega
    subst this
    rw [List.nil_append, vAt_zero b hb]; rfl
  | p :: a, b, d, ha, hb, h0, h1 => by
    have hp := ha p (by simp)
    rw [total_cons] at h1
    rw [List.cons_append, vAt_cons, vAt_cons]
    have hm := mn_le p.1 d
    rw [vAt_append_lt a b _ (fun q hq => ha q (by simp [hq])) hb (by omega) (by
      have := total_nonneg a (fun q hq => ha q (by simp [hq])); omega)]
theorem vAt_append_ge : ∀ (a b : List Pc) (d : Int), Nn a → total a ≤ d → vAt (a ++ b) d = vAt a (total a) + vAt b (d - total a)
  | [], b, d, _, h1 => by simp [vAt, total]
  | p :: a, b, d, ha, h1 => by
    have hp := ha p (by simp)
    have hn : Nn a := fun q hq => ha q (by simp [hq])
    have ht := total_nonneg a hn
    rw [total_cons] at h1 ⊢
    rw [List.cons_append, vAt_cons, vAt_cons, mn_of_le (a := p.1) (b := d) (by omega), mn_of_le (a := p.1) (b := p.1 + total a) (by omega), vAt_append_ge a b _ hn (by omega), show p.1 + total a - p.1 = total a by omega, show d - p.1 - total a = d - (p.1 + total a) by omega]
    omega
theorem vAt_total : ∀ (ps : List Pc), Nn ps → vAt ps (total ps) = lin (fun s => s) ps
  | [], _ => rfl
  | p :: ps, h => by
    have hn : Nn ps := fun q hq => h q (by simp [hq])
    have ht := total_nonneg ps hn
    rw [vAt_cons, total_cons, lin_cons, mn_of_le (by omega), show p.1 + total ps - p.1 = total ps by omega, vAt_total ps hn]
/-- Sorted strictly, all parts positive. -/
structure SP (ps : List Pc) : Prop where
  s : ps.Pairwise fun p q => p.2 < q.2
  p : ∀ q ∈ ps, 0 < q.1
theorem SP.nil : SP [] := ⟨List.Pairwise.nil, fun q h => by cases h⟩
theorem SP.tail {p : Pc} {ps : List Pc} (h : SP (p :: ps)) : SP ps := ⟨(List.pairwise_cons.1 h.s).2, fun q hq => h.p q (by simp [hq])⟩
theorem SP.nn {ps : List Pc} (h : SP ps) : Nn ps := fun p hp => Int.le_of_lt (h.p p hp)
theorem lin_above (g : Int → Int) {s : Int} (hg : ∀ t, s < t → g t = 0) : ∀ (ps : List Pc), (∀ p ∈ ps, s < p.2) → lin g ps = 0
  | [], _ => rfl
  | p :: ps, h => by
    rw [lin_cons, hg p.2 (h p (by simp)), lin_above g hg ps (fun q hq => h q (by simp [hq]))]; simp
theorem meas_above {s : Int} (ps : List Pc) (h : ∀ p ∈ ps, s < p.2) : meas ps s = 0 := lin_above _ (fun t ht => if_neg (by omega)) ps h
theorem meas_cons (p : Pc) (ps : List Pc) (s : Int) : meas (p :: ps) s = (if p.2 = s then p.1 else 0) + meas ps s := by
  unfold meas
  rw [lin_cons]
  split <;> simp
theorem meas_head {p : Pc} {ps : List Pc} (h : SP (p :: ps)) : meas (p :: ps) p.2 = p.1 := by
  rw [meas_cons, if_pos rfl, meas_above ps (fun q hq => (List.pairwise_cons.1 h.s).1 q hq)]; omega
/-- The pieces are determined by how much there is of each slope. -/
theorem SP.unique : ∀ (a b : List Pc), SP a → SP b → (∀ s, meas a s = meas b s) → a = b
  | [], [], _, _, _ => rfl
  | [], q :: b, _, hb, h => by
    have := h q.2
    rw [meas_head hb] at this
    have hp := hb.p q (by simp)
    have e : meas [] q.2 = 0 := rfl
    omega
  | p :: a, [], ha, _, h => by
    have := h p.2
    rw [meas_head ha] at this
    have hp := ha.p p (by simp)
    have e : meas [] p.2 = 0 := rfl
    omega
  | p :: a, q :: b, ha, hb, h => by
    have h1 := h p.2
    have h2 := h q.2
    rw [meas_head ha] at h1
    rw [meas_head hb] at h2
    have hp := ha.p p (by simp)
    have hq := hb.p q (by simp)
    have e : p.2 = q.2 := by
      rcases Int.lt_trichotomy p.2 q.2 with hl | hl | hl
      · rw [meas_above (q :: b) (fun x hx => by
          rcases List.mem_cons.1 hx with rfl | hx
          · exact hl
          · have := (List.pairwise_cons.1 hb.s).1 x hx; omega)] at h1
        omega
      · exact hl
      · rw [meas_above (p :: a) (fun x hx => by
          rcases List.mem_cons.1 hx with rfl | hx
          · exact hl
          · have := (List.pairwise_cons.1 ha.s).1 x hx; omega)] at h2
        omega
    have e1 : p.1 = q.1 := by rw [e, meas_head hb] at h1; exact h1
    have hpq : p = q := Prod.ext e1 e
    subst hpq
    have ht := SP.unique a b ha.tail hb.tail (fun s => by
      have := h s
      rw [meas_cons, meas_cons] at this
      omega)
    rw [ht]
/-- One more piece. -/
def push (acc : List Pc) (p : Pc) : List Pc := if p.1 = 0 then acc else match acc.reverse with
  | [] => [p]
  | q :: r => if q.2 = p.2 then r.reverse ++ [(q.1 + p.1, q.2)] else acc ++ [p]
theorem push_nil (p : Pc) : push [] p = if p.1 = 0 then [] else [p] := rfl
theorem push_snoc (r : List Pc) (q p : Pc) : push (r ++ [q]) p = if p.1 = 0 then r ++ [q] else if q.2 = p.2 then r ++ [(q.1 + p.1, q.2)] else (r ++ [q]) ++ [p] := by
  unfold push
  rw [List.reverse_append]
  simp only [List.reverse_cons, List.reverse_nil, List.nil_append, List.singleton_append, List.reverse_reverse]
theorem snoc_cases (l : List Pc) : l = [] ∨ ∃ r q, l = r ++ [q] := by
  rcases List.eq_nil_or_concat l with h | ⟨r, q, h⟩
  · exact Or.inl h
  · exact Or.inr ⟨r, q, by rw [h]; simp⟩
theorem lin_push (g : Int → Int) (acc : List Pc) (p : Pc) : lin g (push acc p) = lin g acc + p.1 * g p.2 := by
  rcases snoc_cases acc with rfl | ⟨r, q, rfl⟩
  · rw [push_nil]
    split
    · rename_i h; rw [h]; simp [lin]
    · simp [lin]
  · rw [push_snoc]
    split
    · rename_i h; rw [h]; simp
    · split
      · rename_i h
        rw [lin_append, lin_append]
        simp only [lin, h]
        rw [Int.add_mul]; omega
      · rw [lin_append]; simp [lin]
def pushes (acc ps : List Pc) : List Pc := ps.foldl push acc
theorem lin_pushes (g : Int → Int) : ∀ (ps acc : List Pc), lin g (pushes acc ps) = lin g acc + lin g ps
  | [], acc => by simp [pushes, lin]
  | p :: ps, acc => by
    have := lin_pushes g ps (push acc p)
    unfold pushes at this ⊢
    rw [List.foldl_cons, this, lin_push]
    simp only [lin]; omega
theorem push_mem {acc : List Pc} {p x : Pc} (h : x ∈ push acc p) : x.2 = p.2 ∨ x ∈ acc := by
  rcases snoc_cases acc with rfl | ⟨r, q, rfl⟩
  · rw [push_nil] at h
    split at h
    · cases h
    · rw [List.mem_singleton] at h; subst h; exact Or.inl rfl
  · rw [push_snoc] at h
    split at h
    · exact Or.inr h
    · split at h
      · rename_i e
        rcases List.mem_append.1 h with h | h
        · exact Or.inr (by simp [h])
        · rw [List.mem_singleton] at h; subst h; exact Or.inl e
      · rcases List.mem_append.1 h with h | h
        · exact Or.inr h
        · rw [List.mem_singleton] at h; subst h; exact Or.inl rfl
theorem push_SP {acc : List Pc} {p : Pc} (h : SP acc) (hp : 0 ≤ p.1) (hl : ∀ q ∈ acc, q.2 ≤ p.2) : SP (push acc p) := by
  rcases snoc_cases acc with rfl | ⟨r, q, rfl⟩
  · rw [push_nil]
    split
    · exact SP.nil
    · exact ⟨by simp, fun x hx => by rw [List.mem_singleton] at hx; subst hx; omega⟩
  · rw [push_snoc]
    have hs := List.pairwise_append.1 h.s
    split
    · exact h
    · split
      · refine ⟨List.pairwise_append.2 ⟨hs.1, by simp, fun x hx y hy => ?_⟩, fun x hx => ?_⟩
        · rw [List.mem_singleton] at hy; subst hy; exact hs.2.2 x hx q (by simp)
        · rcases List.mem_append.1 hx with hx | hx
          · exact h.p x (by simp [hx])
          · rw [List.mem_singleton] at hx; subst hx
            have := h.p q (by simp)
            show 0 < q.1 + p.1; omega
      · rename_i hne
        have hqp := hl q (by simp)
        refine ⟨List.pairwise_append.2 ⟨h.s, by simp, fun x hx y hy => ?_⟩, fun x hx => ?_⟩
        · rw [List.mem_singleton] at hy; subst hy
          rcases List.mem_append.1 hx with hx | hx
          · have := hs.2.2 x hx q (by simp); omega
          · rw [List.mem_singleton] at hx; subst hx; omega
        · rcases List.mem_append.1 hx with hx | hx
          · exact h.p x hx
          · rw [List.mem_singleton] at hx; subst hx; omega
theorem pushes_SP : ∀ (ps acc : List Pc), SP acc → Nn ps → ps.Pairwise (fun p q => p.2 ≤ q.2) → (∀ q ∈ acc, ∀ p ∈ ps, q.2 ≤ p.2) → SP (pushes acc ps)
  | [], acc, h, _, _, _ => h
  | p :: ps, acc, h, hn, hs, hl => by
    have hs' := List.pairwise_cons.1 hs
    have := pushes_SP ps (push acc p) (push_SP h (hn p (by simp)) (fun q hq => hl q hq p (by simp))) (fun q hq => hn q (by simp [hq])) hs'.2 (fun q hq x hx => by
      rcases push_mem hq with e | hq
      · rw [e]; exact hs'.1 x hx
      · exact hl q hq x (by simp [hx]))
    exact this
def bySlope (x y : Pc) : Bool := decide (x.2 < y.2)
theorem bySlope_swo : Srt.SWO bySlope := Srt.swo_key (fun x : Pc => x.2)
/-- Sorted and joined. -/
def nrm (ps : List Pc) : List Pc := pushes [] (Srt.ssort bySlope ps)
theorem lin_nrm (g : Int → Int) (ps : List Pc) : lin g (nrm ps) = lin g ps := by
  unfold nrm
  rw [lin_pushes, lin_perm g (Srt.ssort_perm bySlope_swo ps)]
  simp [lin]
theorem meas_nrm (ps : List Pc) (s : Int) : meas (nrm ps) s = meas ps s := lin_nrm _ ps
theorem total_nrm (ps : List Pc) : total (nrm ps) = total ps := by rw [← lin_one, ← lin_one, lin_nrm]
theorem nrm_SP {ps : List Pc} (h : Nn ps) : SP (nrm ps) := by
  have hp := Srt.ssort_perm bySlope_swo ps
  refine pushes_SP _ [] SP.nil (fun q hq => h q (hp.mem_iff.1 hq)) ?_ (fun q hq => by cases hq)
  have := Srt.ssort_sorted bySlope_swo _ ps rfl
  unfold Srt.Srtd at this
  refine List.Pairwise.imp (fun {x y} h => ?_) this
  unfold bySlope at h
  simpa using h
theorem nrm_id {ps : List Pc} (h : SP ps) : nrm ps = ps := SP.unique _ _ (nrm_SP h.nn) h (meas_nrm ps)
theorem nrm_eq {a b : List Pc} (ha : Nn a) (hb : SP b) (h : ∀ s, meas a s = meas b s) : nrm a = b := SP.unique _ _ (nrm_SP ha) hb (fun s => by rw [meas_nrm, h])
/-! ### the valid functions -/
abbrev Cv := Int × Int × List Pc
def okP : Option Int → Int → Int → List Pc → Prop
  | _, _, _, [] => True
  | prev, a, v, p :: ps => (1 ≤ p.1 ∧ p.1 ≤ 2000000) ∧ (-10000000 ≤ p.2 ∧ p.2 ≤ 10000000) ∧ (∀ s, prev = some s → s < p.2) ∧ a + p.1 ≤ 1000000 ∧ (-1000000000000000 ≤ v + p.1 * p.2 ∧ v + p.1 * p.2 ≤ 1000000000000000) ∧ okP (some p.2) (a + p.1) (v + p.1 * p.2) ps
def Valid (f : Cv) : Prop := f.2.2.length ≤ 64 ∧ (-1000000 ≤ f.1 ∧ f.1 ≤ 1000000) ∧ (-1000000000000000 ≤ f.2.1 ∧ f.2.1 ≤ 1000000000000000) ∧ okP none f.1 f.2.1 f.2.2
def hi (f : Cv) : Int := f.1 + total f.2.2
def V (f : Cv) (x : Int) : Int := f.2.1 + vAt f.2.2 (x - f.1)
structure OkV' (a v : Int) (ps : List Pc) : Prop where
  sp : SP ps
  long : ∀ p ∈ ps, p.1 ≤ 2000000
  slope : ∀ p ∈ ps, -10000000 ≤ p.2 ∧ p.2 ≤ 10000000
  top : a + total ps ≤ 1000000
  rng : ∀ d, 0 ≤ d → d ≤ total ps → -1000000000000000 ≤ v + vAt ps d ∧ v + vAt ps d ≤ 1000000000000000
theorem between {v n m s : Int} (h0 : 0 ≤ n) (h1 : n ≤ m) {L U : Int} (a : L ≤ v ∧ v ≤ U) (b : L ≤ v + m * s ∧ v + m * s ≤ U) : L ≤ v + n * s ∧ v + n * s ≤ U := by
  rcases Int.le_total 0 s with hs | hs
  · have e1 := Int.mul_nonneg h0 hs
    have e2 := Int.mul_nonneg (a := m - n) (b := s) (by omega) hs
    rw [Int.sub_mul] at e2
    omega
  · have e1 := Int.mul_nonneg h0 (b := -s) (by omega)
    have e2 := Int.mul_nonneg (a := m - n) (b := -s) (by omega) (by omega)
    rw [Int.mul_neg] at e1
    rw [Int.sub_mul, Int.mul_neg, Int.mul_neg] at e2
    omega
theorem okP_to : ∀ (ps : List Pc) (prev : Option Int) (a v : Int), a ≤ 1000000 → (-1000000000000000 ≤ v ∧ v ≤ 1000000000000000) → okP prev a v ps → OkV' a v ps ∧ ∀ s, prev = some s → ∀ p ∈ ps, s < p.2
  | [], prev, a, v, ha, hv, _ => ⟨⟨SP.nil, (fun p h => by cases h), (fun p h => by cases h), (by simpa [total] using ha), fun d h0 h1 => by simpa [vAt] using hv⟩, fun s _ p h => by cases h⟩
  | p :: ps, prev, a, v, ha, hv, h => by
    obtain ⟨h1, h2, h3, h4, h5, h6⟩ := h
    obtain ⟨k, k2⟩ := okP_to ps (some p.2) (a + p.1) (v + p.1 * p.2) h4 h5 h6
    have k2 := k2 p.2 rfl
    refine ⟨⟨⟨List.pairwise_cons.2 ⟨k2, k.sp.s⟩, fun q hq => ?_⟩, fun q hq => ?_, fun q hq => ?_, ?_, fun d d0 d1 => ?_⟩, fun s hs q hq => ?_⟩
    · rcases List.mem_cons.1 hq with rfl | hq
      · omega
      · exact k.sp.p q hq
    · rcases List.mem_cons.1 hq with rfl | hq
      · exact h1.2
      · exact k.long q hq
    · rcases List.mem_cons.1 hq with rfl | hq
      · exact h2
      · exact k.slope q hq
    · have := k.top
      rw [total_cons]; omega
    · rw [total_cons] at d1
      rw [vAt_cons]
      rcases Int.le_total p.1 d with hd | hd
      · rw [mn_of_le hd]
        have := k.rng (d - p.1) (by omega) (by omega)
        omega
      · rw [mn_of_ge hd, Int.sub_self, vAt_zero ps k.sp.nn, Int.add_zero]
        exact between d0 hd hv h5
    · have hsp := h3 s hs
      rcases List.mem_cons.1 hq with rfl | hq
      · exact hsp
      · have := k2 q hq; omega
theorem okP_of : ∀ (ps : List Pc) (prev : Option Int) (a v : Int), OkV' a v ps → (∀ s, prev = some s → ∀ p ∈ ps, s < p.2) → okP prev a v ps
  | [], _, _, _, _, _ => trivial
  | p :: ps, prev, a, v, h, hl => by
    have hn := h.sp.tail.nn
    have ht := total_nonneg ps hn
    have htop := h.top
    have hp := h.sp.p p (by simp)
    rw [total_cons] at htop
    have hv := h.rng p.1 (by omega) (by rw [total_cons]; omega)
    rw [vAt_cons, mn_of_le (Int.le_refl _), Int.sub_self, vAt_zero ps hn, Int.add_zero] at hv
    refine ⟨⟨by omega, h.long p (by simp)⟩, h.slope p (by simp), fun s hs => hl s hs p (by simp), by omega, hv, okP_of ps _ _ _ ⟨h.sp.tail, fun q hq => h.long q (by simp [hq]), fun q hq => h.slope q (by simp [hq]), by omega, fun d d0 d1 => ?_⟩ (fun s hs q hq => ?_)⟩
    · have := h.rng (p.1 + d) (by omega) (by rw [total_cons]; omega)
      rw [vAt_cons, mn_of_le (by omega), show p.1 + d - p.1 = d by omega] at this
      omega
    · cases hs
      exact (List.pairwise_cons.1 h.sp.s).1 q hq
theorem Valid.ok {f : Cv} (h : Valid f) : OkV' f.1 f.2.1 f.2.2 := (okP_to _ _ _ _ h.2.1.2 h.2.2.1 h.2.2.2).1
theorem Valid.of {f : Cv} (h1 : f.2.2.length ≤ 64) (h2 : -1000000 ≤ f.1 ∧ f.1 ≤ 1000000) (h : OkV' f.1 f.2.1 f.2.2) : Valid f := ⟨h1, h2, by
  have := h.rng 0 (Int.le_refl _) (total_nonneg _ h.sp.nn)
  rw [vAt_zero _ h.sp.nn, Int.add_zero] at this
  exact this, okP_of _ _ _ _ h (fun s hs => by cases hs)⟩
theorem Valid.hi_ge {f : Cv} (h : Valid f) : f.1 ≤ hi f ∧ hi f ≤ 1000000 := by
  have := total_nonneg _ h.ok.sp.nn
  have := h.ok.top
  unfold hi; omega
theorem Valid.V_rng {f : Cv} (h : Valid f) {x : Int} (h0 : f.1 ≤ x) (h1 : x ≤ hi f) : -1000000000000000 ≤ V f x ∧ V f x ≤ 1000000000000000 := h.ok.rng _ (by omega) (by unfold hi at h1; omega)
/-! ### the conjugate -/
def pos (x : Int) : Int := if 0 < x then x else 0
theorem conj_bound (s : Int) : ∀ (ps : List Pc) (d : Int), Nn ps → 0 ≤ d → d ≤ total ps → s * d - vAt ps d ≤ lin (fun t => pos (s - t)) ps
  | [], d, _, h0, h1 => by
    have : d = 0 := by rw [total_nil] at h1; omega
    subst this
    simp [vAt, lin]
  | p :: ps, d, hn, h0, h1 => by
    have hp := hn p (by simp)
    have hn' : Nn ps := fun q hq => hn q (by simp [hq])
    have ht := total_nonneg ps hn'
    rw [total_cons] at h1
    rw [vAt_cons, lin_cons]
    have hm := mn_le p.1 d
    have hm0 : 0 ≤ mn p.1 d := by omega
    have ih := conj_bound s ps (d - mn p.1 d) hn' (by omega) (by omega)
    have key : mn p.1 d * (s - p.2) ≤ p.1 * pos (s - p.2) := by
      unfold pos
      split
      · have := Int.mul_nonneg (a := p.1 - mn p.1 d) (b := s - p.2) (by omega) (by omega)
        rw [Int.sub_mul] at this; omega
      · have := Int.mul_nonneg (a := mn p.1 d) (b := -(s - p.2)) (by omega) (by omega)
        rw [Int.mul_neg] at this
        rw [Int.mul_zero]; omega
    have e : s * d = s * (d - mn p.1 d) + mn p.1 d * s := by
      rw [Int.mul_sub, Int.mul_comm (mn p.1 d) s]; omega
    rw [Int.mul_sub] at key
    omega
end Go.Proofs.Ytodagcbcdkfniaa.VE
