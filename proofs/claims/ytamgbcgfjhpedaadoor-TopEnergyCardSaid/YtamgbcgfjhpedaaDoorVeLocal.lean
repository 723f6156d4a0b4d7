/- An operation of the evaluator looks at nothing but its operands and the objects that it names (lemmas; no statement is proved here). -/
import Derived.Test.YtamgbcgfjhpedaaDoorVeCall
namespace Go.Proofs.YtamgbcgfjhpedaaDoor.VE
open Go Go.RowKit
section
variable {P : Program} {O O' : Nat → Obj}
def Same (O O' : Nat → Obj) (l : List Nat) : Prop := ∀ d ∈ l, O' d = O d
theorem Same.cons {d : Nat} {l : List Nat} (h : Same O O' (d :: l)) : O' d = O d ∧ Same O O' l := ⟨h d List.mem_cons_self, fun k hk => h k (List.mem_cons_of_mem _ hk)⟩
theorem Same.left {l m : List Nat} (h : Same O O' (l ++ m)) : Same O O' l := fun k hk => h k (List.mem_append_left _ hk)
theorem Same.right {l m : List Nat} (h : Same O O' (l ++ m)) : Same O O' m := fun k hk => h k (List.mem_append_right _ hk)
theorem pureL_loc {x : Lf} {tv : TV} {ds : List Nat} (e : pureL O x = some (tv, ds)) (h : Same O O' ds) : pureL O' x = some (tv, ds) := by
  cases x with
  | o d =>
    simp only [pureL] at e ⊢
    cases hd : O d with
    | row a b c f =>
      rw [hd] at e
      cases e
      rw [(h.cons).1, hd]
    | _ => rw [hd] at e; cases e
  | os d off len =>
    simp only [pureL] at e ⊢
    cases hd : O d with
    | row a b c f =>
      rw [hd] at e
      cases e
      rw [(h.cons).1, hd]
    | _ => rw [hd] at e; cases e
  | _ => exact e
theorem pureLs_loc : ∀ {ls : List Lf} {vs : List TV} {ds : List Nat}, pureLs O ls = some (vs, ds) → Same O O' ds → pureLs O' ls = some (vs, ds)
  | [], _, _, e, _ => e
  | x :: ls, vs, ds, e, h => by
    unfold pureLs at e ⊢
    cases e1 : pureL O x with
    | none => rw [e1] at e; cases e
    | some r1 =>
      obtain ⟨tv, d1⟩ := r1
      cases e2 : pureLs O ls with
      | none => rw [e1, e2] at e; cases e
      | some r2 =>
        obtain ⟨tvs, d2⟩ := r2
        rw [e1, e2] at e
        cases e
        rw [pureL_loc e1 h.left, pureLs_loc e2 h.right]
theorem packs_loc {t : Ty} {ls : List Lf} {x : t.T} {ds : List Nat} (e : packs O t ls = some (x, ds)) (h : Same O O' ds) : packs O' t ls = some (x, ds) := by
  unfold packs at e ⊢
  cases e1 : pureLs O ls with
  | none => rw [e1] at e; cases e
  | some r1 =>
    obtain ⟨vs, d1⟩ := r1
    rw [e1] at e
    simp only at e
    cases e2 : ofTVs t vs with
    | none => rw [e2] at e; cases e
    | some r2 =>
      obtain ⟨y, l⟩ := r2
      rw [e2] at e
      cases l with
      | cons _ _ => cases e
      | nil =>
        cases e
        rw [pureLs_loc e1 h]
        simp only [e2]
theorem freeze_loc : ∀ {ds : List Nat} {wr : List (Nat × Obj)}, freeze O ds = some wr → Same O O' ds → freeze O' ds = some wr
  | [], _, e, _ => e
  | d :: ds, wr, e, h => by
    unfold freeze at e ⊢
    cases hd : O d with
    | row a b c f =>
      rw [hd] at e
      cases e1 : freeze O ds with
      | none => rw [e1] at e; cases e
      | some l =>
        rw [e1] at e
        rw [h.cons.1, hd, freeze_loc e1 h.cons.2]
        exact e
    | _ => rw [hd] at e; cases e
theorem loadL_loc {t : TypeId} {x : Option Lf} {cs : List Chk} {e : Eff} (he : loadL P t O x = some (cs, e)) (h : Same O O' e.rd) : loadL P t O' x = some (cs, e) := by
  unfold loadL at he ⊢
  split at he
  · rename_i d c
    try simp only
    cases hd : O d with
    | box a b =>
      rw [hd] at he
      simp only at he
      cases e1 : cutSV P t b c with
      | none => rw [e1] at he; cases he
      | some sv =>
        rw [e1] at he
        cases he
        rw [h.cons.1, hd]
        simp only [e1]
        rfl
    | _ => rw [hd] at he; cases he
  · exact he
  · rename_i d i c
    try simp only
    cases hd : O d with
    | row a T xs f =>
      rw [hd] at he
      simp only at he
      cases e1 : cutSV P t (leaves T (rd T xs i)) c with
      | none => rw [e1] at he; cases he
      | some sv =>
        rw [e1] at he
        cases he
        rw [h.cons.1, hd]
        simp only [e1]
        rfl
    | deep a e2 T xss =>
      rw [hd] at he
      simp only at he
      cases e1 : cutSV P t [.oh d i (List.length (rd (.list e2 T) xss i))] c with
      | none => rw [e1] at he; cases he
      | some sv =>
        rw [e1] at he
        cases he
        rw [h.cons.1, hd]
        simp only [e1]
        rfl
    | _ => rw [hd] at he; cases he
  · rename_i d i j c
    try simp only
    cases hd : O d with
    | deep a e2 T xss =>
      rw [hd] at he
      simp only at he
      cases e1 : cutSV P t (leaves T (rd T (rd (.list e2 T) xss i) j)) c with
      | none => rw [e1] at he; cases he
      | some sv =>
        rw [e1] at he
        cases he
        rw [h.cons.1, hd]
        simp only [e1]
        rfl
    | _ => rw [hd] at he; cases he
  · cases he
theorem storeL_loc {t : TypeId} {x : Option Lf} {y : SV} {cs : List Chk} {e : Eff} (he : storeL P t O x y = some (cs, e)) (h : Same O O' e.rd) : storeL P t O' x y = some (cs, e) := by
  unfold storeL at he ⊢
  cases hy : y.cells with
  | none => rw [hy] at he; cases he
  | some ls =>
    rw [hy] at he
    simp only at he ⊢
    by_cases hn : ls.length = P.cellsOf t ∧ (P.info? t).isSome = true
    · rw [if_pos hn] at he ⊢
      split at he
      · rename_i d c
        try simp only
        cases hd : O d with
        | box a b =>
          rw [hd] at he
          simp only at he
          by_cases hc : c + ls.length ≤ b.length
          · rw [if_pos hc] at he
            cases he
            rw [h.cons.1, hd]
            try simp only
            rw [if_pos hc]
          · rw [if_neg hc] at he; cases he
        | _ => rw [hd] at he; cases he
      · rename_i d i c
        try simp only
        cases hd : O d with
        | row a T xs f =>
          cases f with
          | true => rw [hd] at he; cases he
          | false =>
            rw [hd] at he
            simp only at he
            by_cases hc : c + ls.length ≤ T.sz
            · rw [if_pos hc] at he
              cases e1 : packs O T (splice (leaves T (rd T xs i)) c ls) with
              | none => rw [e1] at he; cases he
              | some r =>
                obtain ⟨z, ds⟩ := r
                rw [e1] at he
                simp only at he
                by_cases hk : ds.contains d = true
                · rw [if_pos hk] at he; cases he
                · rw [if_neg hk] at he
                  cases e2 : freeze O ds with
                  | none => rw [e2] at he; cases he
                  | some fz =>
                    rw [e2] at he
                    cases he
                    rw [h.cons.1, hd]
                    try simp only
                    rw [if_pos hc, packs_loc e1 h.cons.2]
                    try simp only
                    rw [if_neg hk, freeze_loc e2 h.cons.2]
            · rw [if_neg hc] at he; cases he
        | _ => rw [hd] at he; cases he
      · rename_i d i j c
        try simp only
        cases hd : O d with
        | deep a e2 T xss =>
          rw [hd] at he
          simp only at he
          by_cases hc : c + ls.length ≤ T.sz ∧ T.sz ≠ 0
          · rw [if_pos hc] at he
            cases e1 : packs O T (splice (leaves T (rd T (rd (.list e2 T) xss i) j)) c ls) with
            | none => rw [e1] at he; cases he
            | some r =>
              obtain ⟨z, ds⟩ := r
              rw [e1] at he
              simp only at he
              by_cases hk : ds.contains d = true
              · rw [if_pos hk] at he; cases he
              · rw [if_neg hk] at he
                cases e3 : freeze O ds with
                | none => rw [e3] at he; cases he
                | some fz =>
                  rw [e3] at he
                  cases he
                  rw [h.cons.1, hd]
                  try simp only
                  rw [if_pos hc, packs_loc e1 h.cons.2]
                  try simp only
                  rw [if_neg hk, freeze_loc e3 h.cons.2]
          · rw [if_neg hc] at he; cases he
        | _ => rw [hd] at he; cases he
      · cases he
    · rw [if_neg hn] at he; cases he
theorem takeL_loc {t : TypeId} {x : Option Lf} {y : SV} {cs : List Chk} {e : Eff} (he : takeL P t O x y = some (cs, e)) (h : Same O O' e.rd) : takeL P t O' x y = some (cs, e) := by
  unfold takeL at he ⊢
  split at he
  · rename_i d i d2
    try simp only
    cases hd : O d with
    | deep a e2 T xss =>
      cases hd2 : O d2 with
      | row a2 T2 ys f =>
        cases f with
        | true => rw [hd, hd2] at he; cases he
        | false =>
          rw [hd, hd2] at he
          simp only at he
          by_cases hT : T2 = T
          · rw [dif_pos hT] at he
            by_cases hc : d ≠ d2 ∧ P.cellsOf t = 1 ∧ (P.info? t).isSome = true
            · rw [if_pos hc] at he
              cases he
              rw [h.cons.1, h.cons.2.cons.1, hd, hd2]
              try simp only
              rw [dif_pos hT, if_pos hc]
            · rw [if_neg hc] at he; cases he
          · rw [dif_neg hT] at he; cases he
      | _ => rw [hd, hd2] at he; cases he
    | _ => rw [hd] at he; cases he
  · cases he
theorem storeL_rd {t : TypeId} {d : Nat} {i : Int} {c : Nat} {y : SV} {cs : List Chk} {e : Eff} (he : storeL P t O (some (.oe d i c)) y = some (cs, e)) : d ∈ e.rd ∧ (O d).isDeep = false := by
  unfold storeL at he
  cases hy : y.cells with
  | none => rw [hy] at he; cases he
  | some ls =>
    rw [hy] at he
    simp only at he
    by_cases hn : ls.length = P.cellsOf t ∧ (P.info? t).isSome = true
    · rw [if_pos hn] at he
      cases hd : O d with
      | row a T xs f =>
        cases f with
        | true => rw [hd] at he; cases he
        | false =>
          rw [hd] at he
          simp only at he
          refine ⟨?_, rfl⟩
          repeat' split at he
          all_goals first | (cases he; done) | (cases he; exact List.mem_cons_self)
      | _ => rw [hd] at he; cases he
    · rw [if_neg hn] at he; cases he
theorem takeL_none_loc {t : TypeId} {x : Option Lf} {y : SV} {cs : List Chk} {e : Eff} (he : storeL P t O x y = some (cs, e)) (h : Same O O' e.rd) : takeL P t O' x y = none := by
  unfold takeL
  split
  · rename_i d i d2
    obtain ⟨h1, h2⟩ := storeL_rd he
    rw [h d h1]
    cases hd : O d with
    | deep a e2 T xss => rw [hd] at h2; cases h2
    | _ => rfl
  · rfl
theorem lenL_loc {t : TypeId} {x : Option Lf} {cs : List Chk} {e : Eff} (he : lenL P t O x = some (cs, e)) (h : Same O O' e.rd) : lenL P t O' x = some (cs, e) := by
  unfold lenL at he ⊢
  split at he
  · try simp only
    split at he
    · exact he
    · exact he
    · rename_i d
      try simp only
      cases hd : O d with
      | row a T xs f =>
        rw [hd] at he
        cases he
        rw [h.cons.1, hd]
      | deep a e2 T xss =>
        rw [hd] at he
        cases he
        rw [h.cons.1, hd]
      | _ => rw [hd] at he; cases he
    · rename_i d off len
      try simp only
      cases hd : O d with
      | row a T xs f =>
        rw [hd] at he
        cases he
        rw [h.cons.1, hd]
      | _ => rw [hd] at he; cases he
    · cases he
  · exact he
  · cases he
theorem indexAddrL_loc {n : Nat} {x y : Option Lf} {cs : List Chk} {e : Eff} (he : indexAddrL n O x y = some (cs, e)) (h : Same O O' e.rd) : indexAddrL n O' x y = some (cs, e) := by
  unfold indexAddrL at he ⊢
  split at he
  · try simp only
    split at he
    · exact he
    · rename_i d
      try simp only
      cases hd : O d with
      | row a T xs f =>
        rw [hd] at he
        simp only at he
        by_cases hc : T.sz = n ∧ n ≠ 0
        · rw [if_pos hc] at he
          cases he
          rw [h.cons.1, hd]
          try simp only
          rw [if_pos hc]
        · rw [if_neg hc] at he; cases he
      | deep a e2 T xss =>
        rw [hd] at he
        simp only at he
        by_cases hc : 1 = n
        · rw [if_pos hc] at he
          cases he
          rw [h.cons.1, hd]
          try simp only
          rw [if_pos hc]
        · rw [if_neg hc] at he; cases he
      | _ => rw [hd] at he; cases he
    · rename_i d i' len
      try simp only
      cases hd : O d with
      | deep a e2 T xss =>
        rw [hd] at he
        simp only at he
        by_cases hc : T.sz = n ∧ n ≠ 0
        · rw [if_pos hc] at he
          cases he
          rw [h.cons.1, hd]
          try simp only
          rw [if_pos hc]
        · rw [if_neg hc] at he; cases he
      | _ => rw [hd] at he; cases he
    · rename_i d off len
      try simp only
      cases hd : O d with
      | row a T xs f =>
        rw [hd] at he
        simp only at he
        by_cases hc : T.sz = n ∧ n ≠ 0
        · rw [if_pos hc] at he
          cases he
          rw [h.cons.1, hd]
          try simp only
          rw [if_pos hc]
        · rw [if_neg hc] at he; cases he
      | _ => rw [hd] at he; cases he
    · cases he
  · cases he
theorem fieldAddrL_loc {s : TypeId} {f : Nat} {x : Option Lf} {cs : List Chk} {e : Eff} (he : fieldAddrL P s f O x = some (cs, e)) (h : Same O O' e.rd) : fieldAddrL P s f O' x = some (cs, e) := by
  unfold fieldAddrL at he ⊢
  split at he
  · try simp only
    split at he
    · rename_i d c
      try simp only
      cases hd : O d with
      | box a b =>
        rw [hd] at he
        cases he
        rw [h.cons.1, hd]
      | _ => rw [hd] at he; cases he
    · exact he
    · rename_i d i c
      try simp only
      cases hd : O d with
      | row a T xs f =>
        rw [hd] at he
        cases he
        rw [h.cons.1, hd]
      | _ => rw [hd] at he; cases he
    · rename_i d i j c
      try simp only
      cases hd : O d with
      | deep a e2 T xss =>
        rw [hd] at he
        cases he
        rw [h.cons.1, hd]
      | _ => rw [hd] at he; cases he
    · cases he
  · cases he
theorem nilL_loc {x : Option Lf} {cs : List Chk} {e : Eff} (he : nilL O x = some (cs, e)) (h : Same O O' e.rd) : nilL O' x = some (cs, e) := by
  unfold nilL at he ⊢
  split at he
  · rename_i d c
    try simp only
    cases hd : O d with
    | box a b =>
      rw [hd] at he
      cases he
      rw [h.cons.1, hd]
    | _ => rw [hd] at he; cases he
  · exact he
  · rename_i d i c
    try simp only
    cases hd : O d with
    | row a T xs f =>
      rw [hd] at he
      cases he
      rw [h.cons.1, hd]
    | _ => rw [hd] at he; cases he
  · exact he
  · cases he
theorem sliceL_loc {t : TypeId} {x : Option Lf} {lo hi : Option Int} {cs : List Chk} {e : Eff} (he : sliceL P t O x lo hi = some (cs, e)) (h : Same O O' e.rd) : sliceL P t O' x lo hi = some (cs, e) := by
  unfold sliceL at he ⊢
  split at he
  · exact he
  · rename_i el hu
    try simp only
    split at he
    · exact he
    · exact he
    · rename_i d
      try simp only
      cases hd : O d with
      | row a T xs f =>
        rw [hd] at he
        simp only at he
        by_cases hc : T.sz = P.cellsOf el ∧ T.sz ≠ 0
        · rw [if_pos hc] at he
          have : O' d = O d := by
            cases lo <;> cases hi <;> cases he <;> exact h.cons.1
          rw [this, hd]
          try simp only
          rw [if_pos hc]
          exact he
        · rw [if_neg hc] at he; cases he
      | _ => rw [hd] at he; cases he
    · rename_i d off len
      try simp only
      cases hd : O d with
      | row a T xs f =>
        rw [hd] at he
        simp only at he
        by_cases hc : T.sz = P.cellsOf el ∧ T.sz ≠ 0
        · rw [if_pos hc] at he
          cases he
          rw [h.cons.1, hd]
          try simp only
          rw [if_pos hc]
        · rw [if_neg hc] at he; cases he
      | _ => rw [hd] at he; cases he
    · cases he
  · cases he
theorem newBox_loc {d : Nat} {t : TypeId} {ls : List Lf} {cs : List Chk} {e : Eff} (he : newBox d O t ls = some (cs, e)) (h : Same O O' e.rd) : newBox d O' t ls = some (cs, e) := by
  unfold newBox at he ⊢
  cases hd : O d with
  | no =>
    rw [hd] at he
    cases he
    rw [h.cons.1, hd]
  | _ => rw [hd] at he; cases he
theorem chunks_loc {T : Ty} {sz : Nat} : ∀ {n : Nat} {ls : List Lf} {xs : List T.T} {ds : List Nat}, chunks O T sz n ls = some (xs, ds) → Same O O' ds → chunks O' T sz n ls = some (xs, ds)
  | 0, _, _, _, e, _ => e
  | n + 1, ls, xs, ds, e, h => by
    unfold chunks at e ⊢
    cases e1 : packs O T (ls.take sz) with
    | none => rw [e1] at e; cases e
    | some r1 =>
      obtain ⟨x, d1⟩ := r1
      cases e2 : chunks O T sz n (ls.drop sz) with
      | none => rw [e1, e2] at e; cases e
      | some r2 =>
        obtain ⟨ys, d2⟩ := r2
        rw [e1, e2] at e
        cases e
        rw [packs_loc e1 h.left, chunks_loc e2 h.right]
theorem buildSliceL_loc {t : TypeId} {n d : Nat} {ps : List (Nat × List Lf)} {cs : List Chk} {e : Eff} (he : buildSliceL P t n d O ps = some (cs, e)) (h : Same O O' e.rd) : buildSliceL P t n d O' ps = some (cs, e) := by
  unfold buildSliceL at he ⊢
  split at he
  · rename_i el hu
    try simp only
    split at he
    · rename_i T z hT hz hd
      by_cases hc : z.length = P.cellsOf el ∧ T.sz = z.length ∧ n * z.length ≤ 2 ^ 24
      · rw [if_pos hc] at he
        split at he
        · rename_i c hf
          split at he
          · rename_i xs ds hch
            split at he
            · cases he
            · rename_i hk
              split at he
              · rename_i fz hfz
                cases he
                rw [hT, hz, h.cons.1, hd]
                try simp only
                rw [if_pos hc]
                simp only [hf]
                rw [chunks_loc hch h.cons.2]
                try simp only
                rw [if_neg hk, freeze_loc hfz h.cons.2]
              · cases he
          · cases he
        · cases he
      · rw [if_neg hc] at he; cases he
    · rename_i z hT hz hd
      split at he
      · rename_i c hf
        split at he
        · rename_i fs hfs
          by_cases hc : z.length = P.cellsOf el ∧ z.length = 1 ∧ n = fs.length ∧ n * z.length ≤ 2 ^ 24
          · rw [if_pos hc] at he
            cases he
            rw [hT, hz, h.cons.1, hd]
            try simp only
            rw [hf]
            try simp only
            rw [hfs]
            try simp only
            rw [if_pos hc]
          · rw [if_neg hc] at he; cases he
        · cases he
      · cases he
    · cases he
  · cases he
theorem makeSliceL_loc {t : TypeId} {d : Nat} {same : Bool} {x y : Option Lf} {cs : List Chk} {e : Eff} (he : makeSliceL P t d O same x y = some (cs, e)) (h : Same O O' e.rd) : makeSliceL P t d O' same x y = some (cs, e) := by
  unfold makeSliceL at he ⊢
  split at he
  · rename_i el n m hu
    try simp only
    split at he
    · rename_i T z hT hz hd
      split at he
      · rename_i v hp
        by_cases hc : z.length = P.cellsOf el ∧ T.sz = z.length
        · rw [if_pos hc] at he
          cases he
          rw [hT, hz, h.cons.1, hd]
          try simp only
          rw [packs_loc hp (fun _ hd => by cases hd)]
          try simp only
          rw [if_pos hc]
        · rw [if_neg hc] at he; cases he
      · cases he
    · cases he
  · cases he
theorem appendZ_loc {t t' : TypeId} {d : Nat} {x y : Option Lf} {cs : List Chk} {e : Eff} (he : appendZ P t t' d O x y = some (cs, e)) (h : Same O O' e.rd) : appendZ P t t' d O' x y = some (cs, e) := by
  unfold appendZ at he ⊢
  split at he
  · rename_i el k0 k n hu hu'
    try simp only
    split at he
    · rename_i T z hT hz hd
      split at he
      · rename_i v hp
        by_cases hc : z.length = P.cellsOf el ∧ T.sz = z.length ∧ T.sz ≠ 0
        · rw [if_pos hc] at he
          cases he
          rw [hT, hz, h.cons.1, hd]
          try simp only
          rw [packs_loc hp (fun _ hd => by cases hd)]
          try simp only
          rw [if_pos hc]
        · rw [if_neg hc] at he; cases he
      · cases he
    · cases he
  · cases he
theorem base_loc {T : Ty} {x : Option Lf} {b : Option Nat} {xs : List T.T} (e : base O T x = some (b, xs)) (h : Same O O' b.toList) : base O' T x = some (b, xs) := by
  unfold base at e ⊢
  split at e
  · exact e
  · rename_i d
    try simp only
    cases hd : O d with
    | row a T' ys f =>
      cases f with
      | true => rw [hd] at e; cases e
      | false =>
        rw [hd] at e
        simp only at e
        by_cases ht : T' = T
        · rw [dif_pos ht] at e
          have hb : b = some d := by cases e; rfl
          subst hb
          rw [h.cons.1, hd]
          try simp only
          rw [dif_pos ht]
          exact e
        · rw [dif_neg ht] at e; cases e
    | _ => rw [hd] at e; cases e
  · rename_i d off len
    try simp only
    cases hd : O d with
    | row a T' ys f =>
      cases f with
      | true => rw [hd] at e; cases e
      | false =>
        rw [hd] at e
        simp only at e
        by_cases ht : T' = T
        · rw [dif_pos ht] at e
          have hb : b = some d := by cases e; rfl
          subst hb
          rw [h.cons.1, hd]
          try simp only
          rw [dif_pos ht]
          exact e
        · rw [dif_neg ht] at e; cases e
    | _ => rw [hd] at e; cases e
  · cases e
theorem appendL_loc {t : TypeId} {d : Nat} {x y : Option Lf} {cs : List Chk} {e : Eff} (he : appendL P t d O x y = some (cs, e)) (h : Same O O' e.rd) : appendL P t d O' x y = some (cs, e) := by
  unfold appendL at he ⊢
  split at he
  · rename_i el hu
    try simp only
    split at he
    · rename_i T z hT hd hz
      split at he
      · rename_i b xs tv ds hb hp
        split at he
        · rename_i ys hys
          by_cases hc : P.bytesOf el ≠ 0 ∧ T.sz = P.cellsOf el ∧ T.sz = z.length ∧ T.sz ≠ 0 ∧ b ≠ some d ∧ ds.all (fun k => b ≠ some k ∧ k ≠ d) = true
          · rw [if_pos hc] at he
            cases he
            rw [hT, hz, h.cons.1, hd]
            try simp only
            rw [base_loc hb h.cons.2.left, pureL_loc hp h.cons.2.right]
            simp only [hys]
            rw [if_pos hc]
          · rw [if_neg hc] at he; cases he
        · cases he
      · cases he
    · cases he
  · cases he
theorem makeMapL_loc {d : Nat} {cs : List Chk} {e : Eff} (he : makeMapL d O = some (cs, e)) (h : Same O O' e.rd) : makeMapL d O' = some (cs, e) := by
  unfold makeMapL at he ⊢
  cases hd : O d with
  | no =>
    rw [hd] at he
    cases he
    rw [h.cons.1, hd]
  | _ => rw [hd] at he; cases he
theorem lookupL_loc {t : TypeId} {x ix : Option Lf} {cs : List Chk} {e : Eff} (he : lookupL P t O x ix = some (cs, e)) (h : Same O O' e.rd) : lookupL P t O' x ix = some (cs, e) := by
  unfold lookupL at he ⊢
  split at he
  · rename_i d k ht
    try simp only
    cases hd : O d with
    | mp es =>
      rw [hd] at he
      cases he
      rw [h.cons.1, hd]
    | _ => rw [hd] at he; cases he
  · cases he
theorem mapUpdateL_loc {t : TypeId} {x y z : Option Lf} {cs : List Chk} {e : Eff} (he : mapUpdateL P t O x y z = some (cs, e)) (h : Same O O' e.rd) : mapUpdateL P t O' x y z = some (cs, e) := by
  unfold mapUpdateL at he ⊢
  split at he
  · rename_i d k v ht
    try simp only
    cases hd : O d with
    | mp es =>
      rw [hd] at he
      cases he
      rw [h.cons.1, hd]
    | _ => rw [hd] at he; cases he
  · cases he
/-! looking along a cut -/
def GrIn (g : Gr) (l : List Nat) : Prop := (∀ d ∈ g.fz, d ∈ l) ∧ ∀ d ∈ renIds g.ren, d ∈ l
theorem grabL_loc {g g' : Gr} {s : LSh} {x : Lf} (e : grabL O g s x = some g') (h : Same O O' g'.fz) : grabL O' g s x = some g' := by
  unfold grabL at e ⊢
  split at e
  · rename_i t
    try simp only
    cases e1 : pureL O x with
    | none => rw [e1] at e; cases e
    | some r =>
      obtain ⟨tv, ds⟩ := r
      rw [e1] at e
      cases e
      rw [pureL_loc e1 (fun k hk => h k (List.mem_append_left _ hk))]
  all_goals exact e
theorem grabL_mono {g g' : Gr} {s : LSh} {x : Lf} (e : grabL O g s x = some g') : (∀ d ∈ g.fz, d ∈ g'.fz) ∧ ∀ d ∈ renIds g.ren, d ∈ renIds g'.ren := by
  have hb : ∀ {d : Nat} {y : Option Nat}, g.bind d y = some g' → (∀ d ∈ g.fz, d ∈ g'.fz) ∧ ∀ d ∈ renIds g.ren, d ∈ renIds g'.ren := by
    intro d y e
    unfold Gr.bind at e
    split at e
    · cases e
      refine ⟨fun _ h => h, fun k hk => ?_⟩
      cases y with
      | none => exact hk
      | some z => exact List.mem_cons_of_mem _ hk
    · split at e
      · cases e; exact ⟨fun _ h => h, fun _ h => h⟩
      · cases e
  unfold grabL at e
  split at e
  · split at e
    · cases e; exact ⟨fun k hk => List.mem_append_right _ hk, fun _ h => h⟩
    · cases e
  · exact hb e
  · exact hb e
  · split at e
    · exact hb e
    · cases e
  · split at e
    · exact hb e
    · cases e
  · split at e
    · cases e; exact ⟨fun _ h => h, fun _ h => h⟩
    · cases e
  · cases e; exact ⟨fun _ h => h, fun _ h => h⟩
  · cases e; exact ⟨fun _ h => h, fun _ h => h⟩
  · cases e; exact ⟨fun _ h => h, fun _ h => h⟩
  · exact hb e
  · exact hb e
  · cases e
theorem grabLs_loc : ∀ {ss : List LSh} {xs : List Lf} {g g' : Gr}, grabLs O g ss xs = some g' → ((∀ d ∈ g.fz, d ∈ g'.fz) ∧ ∀ d ∈ renIds g.ren, d ∈ renIds g'.ren) ∧ (Same O O' g'.fz → grabLs O' g ss xs = some g')
  | [], [], g, g', e => by cases e; exact ⟨⟨fun _ h => h, fun _ h => h⟩, fun _ => rfl⟩
  | s :: ss, x :: xs, g, g', e => by
    unfold grabLs at e ⊢
    cases e1 : grabL O g s x with
    | none => rw [e1] at e; cases e
    | some g1 =>
      rw [e1] at e
      obtain ⟨⟨m1, m2⟩, k⟩ := grabLs_loc e
      obtain ⟨n1, n2⟩ := grabL_mono e1
      refine ⟨⟨fun d hd => m1 d (n1 d hd), fun d hd => m2 d (n2 d hd)⟩, fun h => ?_⟩
      rw [grabL_loc e1 (fun d hd => h d (m1 d hd))]
      exact k h
  | [], _ :: _, _, _, e => by cases e
  | _ :: _, [], _, _, e => by cases e
theorem grabC_loc {g g' : Gr} {s : CSh} {x : Cm} (e : grabC O g s x = some g') : ((∀ d ∈ g.fz, d ∈ g'.fz) ∧ ∀ d ∈ renIds g.ren, d ∈ renIds g'.ren) ∧ (Same O O' g'.fz → grabC O' g s x = some g') := by
  unfold grabC at e ⊢
  split at e
  · exact ⟨grabL_mono e, fun h => grabL_loc e h⟩
  · exact grabLs_loc e
  · rename_i t xs
    try simp only
    cases e1 : packs O t xs with
    | none => rw [e1] at e; cases e
    | some r =>
      obtain ⟨y, ds⟩ := r
      rw [e1] at e
      cases e
      refine ⟨⟨fun k hk => List.mem_append_right _ hk, fun _ h => h⟩, fun h => ?_⟩
      rw [packs_loc e1 (fun k hk => h k (List.mem_append_left _ hk))]
  · cases e; exact ⟨⟨fun _ h => h, fun _ h => h⟩, fun _ => rfl⟩
  · cases e
theorem grabCs_loc : ∀ {ss : List CSh} {xs : List Cm} {g g' : Gr}, grabCs O g ss xs = some g' → ((∀ d ∈ g.fz, d ∈ g'.fz) ∧ ∀ d ∈ renIds g.ren, d ∈ renIds g'.ren) ∧ (Same O O' g'.fz → grabCs O' g ss xs = some g')
  | [], [], g, g', e => by cases e; exact ⟨⟨fun _ h => h, fun _ h => h⟩, fun _ => rfl⟩
  | s :: ss, x :: xs, g, g', e => by
    unfold grabCs at e ⊢
    cases e1 : grabC O g s x with
    | none => rw [e1] at e; cases e
    | some g1 =>
      rw [e1] at e
      obtain ⟨⟨m1, m2⟩, k⟩ := grabCs_loc e
      obtain ⟨⟨n1, n2⟩, q⟩ := grabC_loc (O' := O') e1
      refine ⟨⟨fun d hd => m1 d (n1 d hd), fun d hd => m2 d (n2 d hd)⟩, fun h => ?_⟩
      rw [q (fun d hd => h d (m1 d hd))]
      exact k h
  | [], _ :: _, _, _, e => by cases e
  | _ :: _, [], _, _, e => by cases e
theorem grabO_loc {g g' : Gr} {d : Nat} {s : OSh} (e : grabO O g d s = some g') : ((∀ d ∈ g.fz, d ∈ g'.fz) ∧ ∀ d ∈ renIds g.ren, d ∈ renIds g'.ren) ∧ (Same O O' g'.fz → Same O O' (renIds g'.ren) → grabO O' g d s = some g') := by
  unfold grabO at e ⊢
  split at e
  · cases e
  · rename_i hl
    try simp only [hl]
    split at e
    · cases e; exact ⟨⟨fun _ h => h, fun _ h => h⟩, fun _ _ => rfl⟩
    · cases e
  · rename_i d' hl
    try simp only [hl]
    have hm : ∀ {g' : Gr}, (∀ d ∈ renIds g.ren, d ∈ renIds g'.ren) → Same O O' (renIds g'.ren) → O' d' = O d' := fun m2 h2 => h2 d' (m2 d' (renIds_mem (look_mem hl)))
    cases hd : O d' with
    | row a T xs f =>
      cases s with
      | row e0 t0 =>
        cases f with
        | true => rw [hd] at e; cases e
        | false =>
          rw [hd] at e
          simp only at e
          by_cases hc : e0 = a ∧ t0 = T
          · rw [if_pos hc] at e
            cases e
            refine ⟨⟨fun _ h => h, fun _ h => h⟩, fun _ h2 => ?_⟩
            rw [hm (g' := g) (fun _ h => h) h2, hd]
            try simp only
            rw [if_pos hc]
          · rw [if_neg hc] at e; cases e
      | _ => rw [hd] at e; cases e
    | box a cs =>
      cases s with
      | box e0 ss =>
        rw [hd] at e
        simp only at e
        by_cases hc : e0 = a
        · rw [if_pos hc] at e
          obtain ⟨⟨m1, m2⟩, k⟩ := grabLs_loc (O' := O') e
          refine ⟨⟨m1, m2⟩, fun h1 h2 => ?_⟩
          rw [hm m2 h2, hd]
          try simp only
          rw [if_pos hc]
          exact k h1
        · rw [if_neg hc] at e; cases e
      | _ => rw [hd] at e; cases e
    | caps cs =>
      cases s with
      | caps ss =>
        rw [hd] at e
        simp only at e
        obtain ⟨⟨m1, m2⟩, k⟩ := grabCs_loc (O' := O') e
        refine ⟨⟨m1, m2⟩, fun h1 h2 => ?_⟩
        rw [hm m2 h2, hd]
        exact k h1
      | _ => rw [hd] at e; cases e
    | no => cases s <;> rw [hd] at e <;> cases e
    | dead =>
      cases s with
      | gone =>
        rw [hd] at e
        cases e
        refine ⟨⟨fun _ h => h, fun _ h => h⟩, fun _ h2 => ?_⟩
        rw [hm (g' := g) (fun _ h => h) h2, hd]
      | _ => rw [hd] at e; cases e
    | mp es =>
      cases s with
      | mp =>
        rw [hd] at e
        cases e
        refine ⟨⟨fun _ h => h, fun _ h => h⟩, fun _ h2 => ?_⟩
        rw [hm (g' := g) (fun _ h => h) h2, hd]
      | _ => rw [hd] at e; cases e
    | deep a e2 T xss =>
      cases s with
      | deep a' e2' T' =>
        rw [hd] at e
        simp only at e
        by_cases hc : a' = a ∧ e2' = e2 ∧ T' = T
        · rw [if_pos hc] at e
          cases e
          refine ⟨⟨fun _ h => h, fun _ h => h⟩, fun _ h2 => ?_⟩
          rw [hm (g' := g) (fun _ h => h) h2, hd]
          try simp only
          rw [if_pos hc]
        · rw [if_neg hc] at e; cases e
      | _ => rw [hd] at e; cases e
theorem grabOs_loc : ∀ {ls : List (Nat × OSh)} {g g' : Gr}, grabOs O g ls = some g' → ((∀ d ∈ g.fz, d ∈ g'.fz) ∧ ∀ d ∈ renIds g.ren, d ∈ renIds g'.ren) ∧ (Same O O' g'.fz → Same O O' (renIds g'.ren) → grabOs O' g ls = some g')
  | [], g, g', e => by cases e; exact ⟨⟨fun _ h => h, fun _ h => h⟩, fun _ _ => rfl⟩
  | (d, s) :: ls, g, g', e => by
    unfold grabOs at e ⊢
    cases e1 : grabO O g d s with
    | none => rw [e1] at e; cases e
    | some g1 =>
      rw [e1] at e
      obtain ⟨⟨m1, m2⟩, k⟩ := grabOs_loc e
      obtain ⟨⟨n1, n2⟩, q⟩ := grabO_loc (O' := O') e1
      refine ⟨⟨fun d hd => m1 d (n1 d hd), fun d hd => m2 d (n2 d hd)⟩, fun h1 h2 => ?_⟩
      rw [q (fun d hd => h1 d (m1 d hd)) (fun d hd => h2 d (m2 d hd))]
      exact k h1 h2
theorem grab_loc {c : Cut} {fixed : List Nat} {cms : List Cm} {g : Gr} {x : prods c.tys} (e : grab c fixed cms O = some (g, x)) (h1 : Same O O' g.fz) (h2 : Same O O' (renIds g.ren)) : grab c fixed cms O' = some (g, x) := by
  unfold grab at e ⊢
  split at e
  · rename_i g1 e1
    split at e
    · rename_i g2 e2
      split at e
      · rename_i hc
        split at e
        · rename_i y ey
          cases e
          obtain ⟨⟨m1, m2⟩, k⟩ := grabOs_loc (O' := O') e2
          obtain ⟨_, q⟩ := grabCs_loc (O' := O') e1
          rw [q (fun d hd => h1 d (m1 d hd))]
          try simp only
          rw [k h1 h2]
          try simp only
          rw [if_pos hc, ey]
        · cases e
      · cases e
    · cases e
  · cases e
theorem convX_loc {s t : TypeId} {x : Option Lf} {cs : List Chk} {e : Eff} (he : convX P O s t x = some (cs, e)) (h : Same O O' e.rd) : convX P O' s t x = some (cs, e) := by
  unfold convX at he ⊢
  generalize P.underlying s = A at he ⊢
  generalize P.underlying t = B at he ⊢
  split at he
  · exact he
  · split at he
    · rename_i hu
      try simp only
      rw [if_pos hu]
      unfold toStrL at he ⊢
      split at he
      · exact he
      · exact he
      · rename_i d
        try simp only
        cases hd : O d with
        | row a T xs f =>
          rw [hd] at he
          cases T with
          | int k =>
            cases k <;> first | (cases he; done) | (cases he; rw [h.cons.1, hd]; done)
          | _ => cases he
        | _ => rw [hd] at he; cases he
      · cases he
    · cases he
  · exact he
theorem allocL_loc {d : Nat} {t : TypeId} {z : List Lf} {cs : List Chk} {e : Eff} (he : allocL P d O t z = some (cs, e)) (h : Same O O' e.rd) : allocL P d O' t z = some (cs, e) := by
  unfold allocL at he ⊢
  split at he
  · rename_i n el hu
    split at he
    · rename_i T hT hd
      split at he
      · rename_i hc
        split at he
        · rename_i xs hch
          cases he
          rw [h.cons.1, hd]
          try simp only [hT]
          rw [if_pos hc, chunks_loc (O' := O') hch (fun _ h => by cases h)]
        · cases he
      · cases he
    · cases he
  · exact newBox_loc he h
theorem indexArrL_loc {n sz : Nat} {x y : Option Lf} {cs : List Chk} {e : Eff} (he : indexArrL n sz O x y = some (cs, e)) (h : Same O O' e.rd) : indexArrL n sz O' x y = some (cs, e) := by
  unfold indexArrL at he ⊢
  split at he
  · rename_i k i d
    try simp only
    cases hd : O d with
    | row a T xs f =>
      rw [hd] at he
      simp only at he
      by_cases hc : T.sz = sz ∧ sz ≠ 0
      · rw [if_pos hc] at he
        cases he
        rw [h.cons.1, hd]
        simp only
        rw [if_pos hc]
      · rw [if_neg hc] at he
        cases he
    | _ => rw [hd] at he; cases he
  · cases he
theorem sliceArrL_loc {n sz : Nat} {x : Option Lf} {lo hi : Option Int} {cs : List Chk} {e : Eff} (he : sliceArrL n sz O x lo hi = some (cs, e)) (h : Same O O' e.rd) : sliceArrL n sz O' x lo hi = some (cs, e) := by
  unfold sliceArrL at he ⊢
  split at he
  · rename_i d
    try simp only
    cases hd : O d with
    | row a T xs f =>
      rw [hd] at he
      simp only at he
      by_cases hc : T.sz = sz ∧ sz ≠ 0
      · rw [if_pos hc] at he
        cases he
        rw [h.cons.1, hd]
        simp only
        rw [if_pos hc]
      · rw [if_neg hc] at he
        cases he
    | _ => rw [hd] at he; cases he
  · cases he
theorem indexArrV_loc {n : Nat} {el : TypeId} {x : SV} {y : Option Lf} {cs : List Chk} {e : Eff} (he : indexArrV P n el O x y = some (cs, e)) : indexArrV P n el O' x y = some (cs, e) := by
  unfold indexArrV at he ⊢
  split at he
  · split at he
    · rename_i T hT
      try simp only
      try rw [hT]
      try simp only
      split at he
      · rename_i hc
        rw [if_pos hc]
        split at he
        · rename_i xs hch
          rw [chunks_loc hch (fun _ h => by cases h)]
          exact he
        · cases he
      · cases he
    · cases he
  · cases he
theorem storeArr_loc {t : TypeId} {x : Option Lf} {y : SV} {cs : List Chk} {e : Eff} (he : storeArr P t O x y = some (cs, e)) (h : Same O O' e.rd) : storeArr P t O' x y = some (cs, e) := by
  unfold storeArr at he ⊢
  split at he
  · rename_i d ls n el hy hu
    cases hd : O d with
    | row e' T xs f =>
      cases f with
      | true => rw [hd] at he; cases he
      | false =>
        rw [hd] at he
        simp only at he
        split at he
        · rename_i hc
          split at he
          · rename_i ys ds hch
            split at he
            · cases he
            · rename_i hk
              split at he
              · rename_i fz hfz
                cases he
                try rw [hy, hu]
                try simp only
                rw [h.cons.1, hd]
                try simp only
                rw [if_pos hc, chunks_loc hch h.cons.2]
                try simp only
                rw [if_neg hk, freeze_loc hfz h.cons.2]
              · cases he
          · cases he
        · cases he
    | _ => rw [hd] at he; cases he
  · cases he
theorem storeArr_none {t : TypeId} {x : Option Lf} {y : SV} {cs : List Chk} {e : Eff} (he : storeL P t O x y = some (cs, e)) : storeArr P t O' x y = none := by
  unfold storeArr
  split
  · rename_i d ls n el hy hu
    unfold storeL at he
    rw [hy] at he
    simp only at he
    split at he <;> cases he
  · rfl
theorem takeL_none_arr {t : TypeId} {x : Option Lf} {y : SV} {cs : List Chk} {e : Eff} (he : storeArr P t O x y = some (cs, e)) : takeL P t O' x y = none := by
  unfold takeL
  split
  · unfold storeArr at he
    cases he
  · rfl
theorem dstOf_loc {T : Ty} {x : Option Lf} {d : Nat} {r : TypeId × List T.T × Nat × Nat} (hd : dstOf O T x = some (d, r)) (h : O' d = O d) : dstOf O' T x = some (d, r) := by
  unfold dstOf at hd ⊢
  split at hd
  · rename_i d'
    try simp only
    cases ho : O d' with
    | row e' T' ys f =>
      cases f with
      | true => rw [ho] at hd; cases hd
      | false =>
        rw [ho] at hd
        simp only at hd
        by_cases ht : T' = T
        · rw [dif_pos ht] at hd
          have : d' = d := by cases hd; rfl
          subst this
          rw [h, ho]
          try simp only
          rw [dif_pos ht]
          exact hd
        · rw [dif_neg ht] at hd; cases hd
    | _ => rw [ho] at hd; cases hd
  · rename_i d' off len
    try simp only
    cases ho : O d' with
    | row e' T' ys f =>
      cases f with
      | true => rw [ho] at hd; cases hd
      | false =>
        rw [ho] at hd
        simp only at hd
        by_cases ht : T' = T
        · rw [dif_pos ht] at hd
          have : d' = d := by cases hd; rfl
          subst this
          rw [h, ho]
          try simp only
          rw [dif_pos ht]
          exact hd
        · rw [dif_neg ht] at hd; cases hd
    | _ => rw [ho] at hd; cases hd
  · cases hd
theorem copyL_loc {t : TypeId} {x y : Option Lf} {cs : List Chk} {e : Eff} (he : copyL P t O x y = some (cs, e)) (h : Same O O' e.rd) : copyL P t O' x y = some (cs, e) := by
  unfold copyL at he ⊢
  split at he
  · rename_i el hu
    try simp only
    split at he
    · rename_i T hT
      try rw [hT]
      try simp only
      split at he
      · rename_i d e' xs off len tv ds hd hp
        split at he
        · rename_i ys hys
          split at he
          · rename_i hz
            cases he
            rw [dstOf_loc hd h.cons.1, pureL_loc hp h.cons.2]
            try simp only
            rw [hys]
            try simp only
            rw [if_pos hz]
          · cases he
        · cases he
      · cases he
    · cases he
  · cases he
end
end Go.Proofs.YtamgbcgfjhpedaaDoor.VE
