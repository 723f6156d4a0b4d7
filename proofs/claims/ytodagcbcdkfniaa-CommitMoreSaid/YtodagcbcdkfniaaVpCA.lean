import Derived.Test.YtodagcbcdkfniaaVpC9
namespace Go.Proofs.Ytodagcbcdkfniaa.VE
open Go Go.RowKit
set_option linter.unusedVariables false
attribute [local irreducible] wrap64
/-! ### commitments and bounds (no statement is proved here) -/
def sumN : (Nat → Int) → Nat → Int
  | _, 0 => 0
  | f, n + 1 => f 0 + sumN (fun t => f (t + 1)) n
theorem sumN_add : ∀ (n : Nat) (f g : Nat → Int), sumN (fun t => f t + g t) n = sumN f n + sumN g n
  | 0, _, _ => rfl
  | n + 1, f, g => by
    show f 0 + g 0 + sumN (fun t => f (t + 1) + g (t + 1)) n = f 0 + sumN (fun t => f (t + 1)) n + (g 0 + sumN (fun t => g (t + 1)) n)
    rw [sumN_add n (fun t => f (t + 1)) (fun t => g (t + 1))]; omega
theorem sumN_congr : ∀ (n : Nat) (f g : Nat → Int), (∀ t, t < n → f t = g t) → sumN f n = sumN g n
  | 0, _, _, _ => rfl
  | n + 1, f, g, h => by
    show f 0 + sumN (fun t => f (t + 1)) n = g 0 + sumN (fun t => g (t + 1)) n
    rw [h 0 (by omega), sumN_congr n (fun t => f (t + 1)) (fun t => g (t + 1)) (fun t ht => h (t + 1) (by omega))]
theorem sumN_zero : ∀ (n : Nat), sumN (fun _ => 0) n = 0
  | 0 => rfl
  | n + 1 => by
    show 0 + sumN (fun _ => 0) n = 0
    rw [sumN_zero n]; rfl
theorem sumN_snoc : ∀ (n : Nat) (f : Nat → Int), sumN f (n + 1) = sumN f n + f n
  | 0, f => by show f 0 + 0 = 0 + f 0; omega
  | n + 1, f => by
    show f 0 + sumN (fun t => f (t + 1)) (n + 1) = f 0 + sumN (fun t => f (t + 1)) n + f (n + 1)
    rw [sumN_snoc n (fun t => f (t + 1))]; omega
theorem dotL_sumN : ∀ (p dm : List Int), dm.length = p.length → dotL p dm = sumN (fun t => p.getD t 0 * dm.getD t 0) p.length
  | [], [], _ => rfl
  | a :: p, d :: dm, h => by
    show a * d + dotL p dm = a * d + sumN (fun t => p.getD t 0 * dm.getD t 0) p.length
    rw [dotL_sumN p dm (by simpa using h)]
  | [], _ :: _, h => by simp at h
  | _ :: _, [], h => by simp at h
theorem valS_sumN (u : Un) : ∀ (ps p : List Int), ps.length = p.length → valS u ps p + rowCost u ps = sumN (fun t => p.getD t 0 * mx (ps.getD t 0) 0) p.length
  | [], [], _ => rfl
  | x :: ps, q :: p, h => by
    have ih := valS_sumN u ps p (by simpa using h)
    have e : valS u (x :: ps) (q :: p) = pf u q (mx x 0) + valS u ps p := by
      unfold valS
      rw [List.zip_cons_cons, List.map_cons, List.sum_cons]
    show valS u (x :: ps) (q :: p) + rowCost u (x :: ps) = q * mx x 0 + sumN (fun t => p.getD t 0 * mx (ps.getD t 0) 0) p.length
    rw [e, rowCost_cons, ← ih]
    unfold pf
    omega
  | [], _ :: _, h => by simp at h
  | _ :: _, [], h => by simp at h
theorem rowCost_sumN (u : Un) : ∀ (ps : List Int), rowCost u ps = sumN (fun t => vAt u.2.1.2 (mx (ps.getD t 0) 0)) ps.length
  | [] => rfl
  | x :: ps => by
    rw [rowCost_cons, rowCost_sumN u ps]
    rfl
theorem pcost_sumN (T : Nat) : ∀ (l : List Un) (s : List (List Int)), s.length = l.length → RowsLen s T → pcostL l s = sumN (fun t => colCost l (colAt s t)) T
  | [], [], _, _ => (sumN_zero T).symm
  | u :: l, p :: s, h, hr => by
    have ih := pcost_sumN T l s (by simpa using h) hr.tail
    have e := sumN_add T (fun t => vAt u.2.1.2 (mx (p.getD t 0) 0)) (fun t => colCost l (colAt s t))
    show rowCost u p + pcostL l s = sumN (fun t => vAt u.2.1.2 (mx (p.getD t 0) 0) + colCost l (colAt s t)) T
    rw [e, ih, rowCost_sumN, hr p (by simp)]
  | [], _ :: _, h, _ => by simp at h
  | _ :: _, [], h, _ => by simp at h
theorem earns_le (p : List Int) : ∀ (l : List Un) (s : List (List Int)) (vs : List Int) (f : List Us) (c : Int), Earns l p vs → RowsLen s p.length → RunsL l s f c → sumN (fun t => p.getD t 0 * colSum (colAt s t)) p.length - pcostL l s - c ≤ vs.sum
  | [], [], vs, [], c, hE, _, h => by
    have h : c = 0 := h
    have : vs = [] := List.eq_nil_of_length_eq_zero (by simpa using hE.1)
    subst this
    have e := sumN_congr p.length (fun t => p.getD t 0 * colSum (colAt [] t)) (fun _ => 0) (fun t _ => by show _ * (0 : Int) = 0; simp)
    rw [e, sumN_zero]
    show (0 : Int) - 0 - c ≤ 0
    omega
  | u :: l, x :: s, vs, q :: f, c, hE, hr, h => by
    obtain ⟨c1, c2, h1, h2, h3⟩ := h
    cases vs with
    | nil => have := hE.1; simp at this
    | cons v vs =>
      have ih := earns_le p l s vs f c2 ⟨by simpa using hE.1, fun j u v hu hv => hE.2 (j + 1) u v (by simpa using hu) (by simpa using hv)⟩ hr.tail h2
      have hx := hr x (by simp)
      have b := hE.2 0 u v rfl rfl x q c1 hx h1
      have e1 := valS_sumN u x p hx
      have e2 := sumN_add p.length (fun t => p.getD t 0 * mx (x.getD t 0) 0) (fun t => p.getD t 0 * colSum (colAt s t))
      have e3 := sumN_congr p.length (fun t => p.getD t 0 * colSum (colAt (x :: s) t)) (fun t => p.getD t 0 * mx (x.getD t 0) 0 + p.getD t 0 * colSum (colAt s t)) (fun t _ => by
        show p.getD t 0 * (mx (x.getD t 0) 0 + colSum (colAt s t)) = _
        rw [Int.mul_add])
      rw [e3, e2, List.sum_cons]
      show _ - (rowCost u x + pcostL l s) - c ≤ v + vs.sum
      omega
  | [], [], _, _ :: _, _, _, _, h => h.elim
  | [], _ :: _, _, _, _, _, _, h => h.elim
  | _ :: _, [], _, _, _, _, _, h => h.elim
  | _ :: _, _ :: _, _, [], _, _, _, h => h.elim
/-- No commitment costs less than a bound. -/
theorem bound_le {l : List Un} {dm p : List Int} {r : Int × Int} (hb : BoundP l dm p r) (hz : r.2 = 0) {s : List (List Int)} {c : Int} (hs : Sched l dm s c) : r.1 ≤ c := by
  obtain ⟨vs, v1, v2⟩ := hb.val hz
  have hB := hb.all hz
  have hpl := hB.plen
  obtain ⟨f, c', h1, h2⟩ := hs.run
  have k := earns_le p l s vs f c' v1 (by rw [hpl]; exact hs.rows) h1
  have e := dotL_sumN p dm hpl.symm
  have e2 := sumN_congr p.length (fun t => p.getD t 0 * colSum (colAt s t)) (fun t => p.getD t 0 * dm.getD t 0) (fun t ht => by
    have := hs.sums t dm[t] (List.getElem?_eq_getElem (by omega))
    rw [this, List.getD_eq_getElem?_getD (l := dm), List.getElem?_eq_getElem (by omega)]
    rfl)
  rw [e2, ← e] at k
  omega
def aloneU : Un := ((ByteArray.mk #[65], 0, 20, 20, 20, 1, 1, 9), (ByteArray.mk #[65], [(10, 5), (10, 8)]), false, 5, 0)
end Go.Proofs.Ytodagcbcdkfniaa.VE
