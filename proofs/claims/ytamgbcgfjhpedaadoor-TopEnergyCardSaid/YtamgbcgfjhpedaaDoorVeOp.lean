/- One operation of the evaluator against the model's (lemmas; no statement is proved here). -/
import Derived.Test.YtamgbcgfjhpedaaDoorVeLocal
namespace Go.Proofs.YtamgbcgfjhpedaaDoor.VE
open Go Go.RowKit
section
variable {P : Program} {Γ : FuncId → Option Con} {R : Type}
theorem chks_bind (cs : List Chk) (e : Eff) (k : Eff → Option R) : chks cs (k e) = (chks cs (some e)).bind k := by
  induction cs with
  | nil => rfl
  | cons c cs ih =>
    unfold chks
    by_cases h : c.p
    · rw [@if_pos _ c.i h, @if_pos _ c.i h]; exact ih
    · rw [@if_neg _ c.i h, @if_neg _ c.i h]; rfl
theorem chks_some {cs : List Chk} {e e' : Eff} (h : chks cs (some e) = some e') : AllP cs ∧ e = e' := by
  induction cs with
  | nil => exact ⟨fun _ h => (by cases h), Option.some.inj h⟩
  | cons c cs ih =>
    unfold chks at h
    by_cases hc : c.p
    · rw [@if_pos _ c.i hc] at h
      obtain ⟨h1, h2⟩ := ih h
      exact ⟨fun d hd => (List.mem_cons.1 hd).elim (fun q => q ▸ hc) (h1 d), h2⟩
    · rw [@if_neg _ c.i hc] at h; cases h
theorem chks_of {cs : List Chk} {e : Eff} (h : AllP cs) : chks cs (some e) = some e := by
  induction cs with
  | nil => rfl
  | cons c cs ih =>
    unfold chks
    rw [@if_pos _ c.i (h c List.mem_cons_self)]
    exact ih (fun d hd => h d (List.mem_cons_of_mem _ hd))
theorem fin_bind (r : OE) (k : Eff → Option R) : fin r k = (fin r some).bind k := by
  unfold fin
  cases r with
  | none => rfl
  | some x => exact chks_bind x.1 x.2 k
theorem fin_some {r : OE} {e : Eff} (h : fin r some = some e) : ∃ cs, r = some (cs, e) ∧ AllP cs := by
  unfold fin at h
  cases r with
  | none => cases h
  | some x =>
    obtain ⟨h1, h2⟩ := chks_some h
    exact ⟨x.1, by rw [← h2], h1⟩
theorem fin_of {r : OE} {e : Eff} {cs : List Chk} (h : r = some (cs, e)) (hc : AllP cs) : fin r some = some e := by
  rw [h]; exact chks_of hc
theorem splitB_bind {α : Type} (x : Option Lf) (f : Bool → Option α) (k : α → Option R) : splitB x (fun d => (f d).bind k) = (splitB x f).bind k := by
  unfold splitB
  split <;> first | rfl | skip
  · rename_i p i; by_cases h : p
    · rw [if_pos h, if_pos h]
    · rw [if_neg h, if_neg h]
  · rename_i p i; by_cases h : p
    · rw [if_pos h, if_pos h]
    · rw [if_neg h, if_neg h]
  · rename_i y; by_cases h : (y : Bool) = true
    · rw [if_pos h, if_pos h]
    · rw [if_neg h, if_neg h]
theorem callK_bind (c : Con) (dst : Nat) (args : List Cm) (O : Nat → Obj) (k : Eff → Option R) : callK c dst args O k = (callK c dst args O some).bind k := by
  unfold callK
  split
  · rfl
  · rename_i g x hg
    cases c.sem x with
    | none => rfl
    | some y =>
      simp only [Option.bind_some]
      split
      · rfl
      · split
        · rfl
        · split <;> rfl
theorem fnK_bind (Γ : FuncId → Option Con) (x : Nat) (f : Con → Option Eff) (k : Eff → Option R) : ∀ (cs : List Nat) (i : Nat), fnK Γ x (fun c => (f c).bind k) i cs = (fnK Γ x f i cs).bind k
  | [], _ => rfl
  | g :: cs, i => by
    unfold fnK
    by_cases h : x = i
    · rw [if_pos h, if_pos h]
      cases Γ g <;> rfl
    · rw [if_neg h, if_neg h]
      exact fnK_bind Γ x f k cs (i + 1)
theorem fnK_congr (Γ : FuncId → Option Con) (x : Nat) {f g : Con → Option R} (h : ∀ c, f c = g c) (cs : List Nat) (i : Nat) : fnK Γ x f i cs = fnK Γ x g i cs := by
  rw [show f = g from funext h]
theorem fnK_some {Γ : FuncId → Option Con} {x : Nat} {f : Con → Option R} {r : R} : ∀ {cs : List Nat} {i : Nat}, fnK Γ x f i cs = some r → ∃ g c, i ≤ x ∧ cs[x - i]? = some g ∧ Γ g = some c ∧ f c = some r
  | [], _, e => by cases e
  | g :: cs, i, e => by
    unfold fnK at e
    by_cases h : x = i
    · rw [if_pos h] at e
      cases hg : Γ g with
      | none => rw [hg] at e; cases e
      | some c =>
        rw [hg] at e
        exact ⟨g, c, by omega, by rw [h, Nat.sub_self]; rfl, hg, e⟩
    · rw [if_neg h] at e
      obtain ⟨g', c, h1, h2, h3, h4⟩ := fnK_some e
      refine ⟨g', c, by omega, ?_, h3, h4⟩
      rw [show x - i = (x - (i + 1)) + 1 by omega]
      exact h2
theorem fnK_mono {Γ : FuncId → Option Con} {x : Nat} {f g : Con → Option R} {r : R} (h : ∀ c, f c = some r → g c = some r) : ∀ {cs : List Nat} {i : Nat}, fnK Γ x f i cs = some r → fnK Γ x g i cs = some r
  | [], _, e => by cases e
  | a :: cs, i, e => by
    unfold fnK at e ⊢
    by_cases hx : x = i
    · rw [if_pos hx] at e ⊢
      cases hg : Γ a with
      | none => rw [hg] at e; cases e
      | some c => rw [hg] at e; exact h c e
    · rw [if_neg hx] at e ⊢
      exact fnK_mono h e
theorem opK_bind (o : Oper) (st : St) (k : Eff → Option R) : opK P Γ o st k = (opK P Γ o st some).bind k := by
  unfold opK
  split
  · rfl
  · rfl
  · exact (splitB_bind _ (fun d => some _) k)
  all_goals (repeat' split) <;> first | rfl | exact fin_bind _ _ | exact callK_bind _ _ _ _ _ | skip
  · refine (callK_bind _ _ _ _ _).trans ?_
    refine Eq.trans ?_ (congrArg (fun z : Option Eff => z.bind k) (callK_bind _ _ _ _ _).symm)
    cases callK _ _ _ _ some <;> rfl
  · exact (fnK_congr Γ _ (fun c => callK_bind c _ _ _ k) _ _).trans (fnK_bind Γ _ _ k _ _)

/-! an operation looks at its operands -/
def evs (o : Oper) (st st' : St) : Prop := ∀ x ∈ o.op.operands, ev st' x = ev st x
theorem evs_of {o : Oper} {st st' : St} (h : ∀ t ∈ tmpsOf o.op.operands.toList, st'.t t = st.t t) : evs o st st' := by
  intro x hx
  cases x with
  | tmp t =>
    refine h t ?_
    unfold tmpsOf
    exact List.mem_filterMap.2 ⟨.tmp t, by simpa using hx, rfl⟩
  | _ => rfl
theorem partsL_loc {st st' : St} : ∀ {ps : List (Nat × Operand)}, (∀ p ∈ ps, ev st' p.2 = ev st p.2) → partsL st' ps = partsL st ps
  | [], _ => rfl
  | (i, x) :: ps, h => by
    unfold partsL
    have h1 : ev st' x = ev st x := h (i, x) List.mem_cons_self
    rw [h1, partsL_loc (fun p hp => h p (List.mem_cons_of_mem _ hp))]
theorem argCms_loc {st st' : St} : ∀ {xs : List Operand}, (∀ x ∈ xs, ev st' x = ev st x) → argCms st' xs = argCms st xs
  | [], _ => rfl
  | x :: xs, h => by
    unfold argCms
    rw [h x List.mem_cons_self, argCms_loc (fun p hp => h p (List.mem_cons_of_mem _ hp))]
theorem optB_loc {st st' : St} {x : Option Operand} (h : ∀ y, x = some y → ev st' y = ev st y) : optB st' x = optB st x := by
  cases x with
  | none => rfl
  | some y => simp only [optB]; rw [h y rfl]
theorem all_mem {α : Type} {f g : α → Bool} : ∀ {l : List α}, (∀ x ∈ l, f x = g x) → l.all f = l.all g
  | [], _ => rfl
  | x :: l, h => by
    rw [List.all_cons, List.all_cons, h x List.mem_cons_self, all_mem (fun y hy => h y (List.mem_cons_of_mem _ hy))]
theorem callOk_loc {O O' : Nat → Obj} {ren : List (Nat × Option Nat)} {dst : Nat} {cms : List Cm} {os : List (Nat × Obj)} (h1 : Same O O' (renIds ren)) (h2 : Same O O' (os.map fun o => callId ren dst o.1)) : callOk O' ren dst cms os = callOk O ren dst cms os := by
  unfold callOk
  simp only
  have hr : (renIds ren).all (fun d => !(O' d).isDeep) = (renIds ren).all (fun d => !(O d).isDeep) := all_mem fun d hd => by rw [h1 d hd]
  rw [hr]
  congr 1
  refine all_mem fun o ho => ?_
  congr 1
  cases hl : look ren o.1 with
  | none =>
    simp only
    have := h2 (callId ren dst o.1) (List.mem_map.2 ⟨o, ho, rfl⟩)
    unfold callId at this
    rw [hl] at this
    simp only at this
    rw [this]
  | some z =>
    cases z with
    | none => rfl
    | some d' =>
      simp only
      rw [h1 d' (renIds_mem (look_mem hl))]
theorem callK_loc {c : Con} {dst : Nat} {args : List Cm} {O O' : Nat → Obj} {e : Eff} (h : callK c dst args O some = some e) (hs : Same O O' e.rd) : callK c dst args O' some = some e := by
  unfold callK at h ⊢
  split at h
  · cases h
  · rename_i g x hg
    cases hx : c.sem x with
    | none => rw [hx] at h; cases h
    | some y =>
      rw [hx] at h
      simp only [Option.bind_some] at h
      split at h
      · cases h
      · rename_i cms os hp
        split at h
        · cases h
        · rename_i hok
          split at h
          · cases h
          · rename_i fz hfz
            cases h
            have s1 := hs.left.left
            have s2 := hs.left.right
            have s3 := hs.right
            rw [grab_loc hg s1 s2]
            simp only [hx, Option.bind_some, hp]
            rw [callOk_loc s2 s3, hok]
            simp only
            cases hfl : (cms.all Cm.flat && os.all fun o => o.2.flat) with
            | true =>
              rw [hfl] at hfz
              simp only [cond_true] at hfz ⊢
              cases hfz
              rfl
            | false =>
              rw [hfl] at hfz
              simp only [cond_false] at hfz ⊢
              rw [freeze_loc hfz s1]
theorem opK_loc {o : Oper} {st st' : St} {e : Eff} (h : opK P Γ o st some = some e) (hv : evs o st st') (hs : Same st.o st'.o e.rd) : opK P Γ o st' some = some e := by
  unfold evs at hv
  unfold opK at h ⊢
  split at h
  · rename_i x hop
    rw [hop] at hv
    try simp only [hop]
    rw [hv x (by simp [Op.operands])]
    exact h
  · rename_i x hop
    rw [hop] at hv
    try simp only [hop]
    rw [hv x (by simp [Op.operands])]
    exact h
  · rename_i c a b hop
    rw [hop] at hv
    try simp only [hop]
    rw [hv c (by simp [Op.operands]), hv a (by simp [Op.operands]), hv b (by simp [Op.operands])]
    exact h
  · rename_i t hop
    try simp only [hop]
    split at h
    · rename_i d z hd hz
      obtain ⟨cs, h1, h2⟩ := fin_some h
      try simp only [hd, hz]
      exact fin_of (allocL_loc h1 hs) h2
    · cases h
  · rename_i t x hop
    rw [hop] at hv
    try simp only [hop]
    rw [hv x (by simp [Op.operands])]
    split at h
    · rename_i d ls hd hz
      split at h
      · rename_i hc
        obtain ⟨cs, h1, h2⟩ := fin_some h
        try simp only [hd, hz, hc, if_true]
        exact fin_of (newBox_loc h1 hs) h2
      · cases h
    · cases h
  · rename_i t ps hop
    rw [hop] at hv
    try simp only [hop]
    rw [partsL_loc (fun p hp => hv p.2 (by simp [Op.operands]; exact ⟨p.1, by simpa using hp⟩))]
    exact h
  · rename_i t n ps hop
    rw [hop] at hv
    try simp only [hop]
    rw [partsL_loc (fun p hp => hv p.2 (by simp [Op.operands]; exact ⟨p.1, by simpa using hp⟩))]
    split at h
    · rename_i d l hd hl
      obtain ⟨cs, h1, h2⟩ := fin_some h
      try simp only [hd, hl]
      exact fin_of (buildSliceL_loc h1 hs) h2
    · cases h
  · rename_i t x hop
    rw [hop] at hv
    try simp only [hop]
    rw [hv x (by simp [Op.operands])]
    obtain ⟨cs, h1, h2⟩ := fin_some h
    exact fin_of (loadL_loc h1 hs) h2
  · rename_i t x y hop
    rw [hop] at hv
    try simp only [hop]
    rw [hv x (by simp [Op.operands]), hv y (by simp [Op.operands])]
    cases ht : takeL P t st.o (ev st x).leaf (ev st y) with
    | some r =>
      rw [ht] at h
      obtain ⟨cs, h1, h2⟩ := fin_some h
      rw [h1] at ht
      rw [takeL_loc ht hs]
      exact fin_of rfl h2
    | none =>
      rw [ht] at h
      try simp only at h
      cases ha : storeArr P t st.o (ev st x).leaf (ev st y) with
      | some r =>
        rw [ha] at h
        obtain ⟨cs, h1, h2⟩ := fin_some h
        rw [h1] at ha
        rw [takeL_none_arr ha]
        try simp only
        rw [storeArr_loc ha hs]
        exact fin_of rfl h2
      | none =>
        rw [ha] at h
        obtain ⟨cs, h1, h2⟩ := fin_some h
        rw [takeL_none_loc h1 hs]
        try simp only
        rw [storeArr_none h1]
        exact fin_of (storeL_loc h1 hs) h2
  · rename_i x hop
    rw [hop] at hv
    try simp only [hop]
    rw [hv x (by simp [Op.operands])]
    obtain ⟨cs, h1, h2⟩ := fin_some h
    exact fin_of (nilL_loc h1 hs) h2
  · rename_i op t x y t' hop
    rw [hop] at hv
    try simp only [hop]
    rw [hv x (by simp [Op.operands]), hv y (by simp [Op.operands])]
    exact h
  · rename_i op t x hop
    rw [hop] at hv
    try simp only [hop]
    rw [hv x (by simp [Op.operands])]
    exact h
  · rename_i t d x hop
    rw [hop] at hv
    try simp only [hop]
    rw [hv x (by simp [Op.operands])]
    obtain ⟨cs, h1, h2⟩ := fin_some h
    exact fin_of (convX_loc h1 hs) h2
  · rename_i f cs hop
    rw [hop] at hv
    try simp only [hop]
    split at h
    · rename_i hc
      try simp only [hc]
      exact h
    · rename_i d x xs hd hc
      try simp only [hd, hc]
      split at h
      · rename_i hno
        cases h
        rw [(hs.cons).1, hno]
        simp only
        rw [argCms_loc (fun y hy => hv y (by simp [Op.operands]; rw [← hc] at hy; simpa using hy))]
      · cases h
    · cases h
  · rename_i t x y hop
    rw [hop] at hv
    try simp only [hop]
    rw [hv x (by simp [Op.operands]), hv y (by simp [Op.operands])]
    split at h
    · rename_i d hd
      obtain ⟨cs, h1, h2⟩ := fin_some h
      try simp only [hd]
      exact fin_of (makeSliceL_loc h1 hs) h2
    · cases h
  · rename_i t x lo hi hop
    rw [hop] at hv
    try simp only [hop]
    rw [hv x (by simp [Op.operands]), optB_loc (fun y hy => hv y (by rw [hy]; simp [Op.operands])), optB_loc (fun y hy => hv y (by rw [hy]; simp [Op.operands]))]
    split at h
    · rename_i l r hl hr
      try simp only [hl, hr]
      split at h
      · rename_i n el hu
        obtain ⟨cs, h1, h2⟩ := fin_some h
        try simp only [hu]
        exact fin_of (sliceArrL_loc h1 hs) h2
      · obtain ⟨cs, h1, h2⟩ := fin_some h
        exact fin_of (sliceL_loc h1 hs) h2
    · cases h
  · rename_i t hop
    try simp only [hop]
    split at h
    · rename_i d hd
      obtain ⟨cs, h1, h2⟩ := fin_some h
      try simp only [hd]
      exact fin_of (makeMapL_loc h1 hs) h2
    · cases h
  · rename_i t x y hop
    rw [hop] at hv
    try simp only [hop]
    rw [hv x (by simp [Op.operands]), hv y (by simp [Op.operands])]
    obtain ⟨cs, h1, h2⟩ := fin_some h
    exact fin_of (lookupL_loc h1 hs) h2
  · rename_i t x y z hop
    rw [hop] at hv
    try simp only [hop]
    rw [hv x (by simp [Op.operands]), hv y (by simp [Op.operands]), hv z (by simp [Op.operands])]
    obtain ⟨cs, h1, h2⟩ := fin_some h
    exact fin_of (mapUpdateL_loc h1 hs) h2
  · rename_i t x f hop
    rw [hop] at hv
    try simp only [hop]
    rw [hv x (by simp [Op.operands])]
    obtain ⟨cs, h1, h2⟩ := fin_some h
    exact fin_of (fieldAddrL_loc h1 hs) h2
  · rename_i t x f hop
    rw [hop] at hv
    try simp only [hop]
    rw [hv x (by simp [Op.operands])]
    exact h
  · rename_i t x y hop
    rw [hop] at hv
    try simp only [hop]
    rw [hv x (by simp [Op.operands]), hv y (by simp [Op.operands])]
    split at h
    · rename_i el hu
      obtain ⟨cs, h1, h2⟩ := fin_some h
      try simp only [hu]
      exact fin_of (indexAddrL_loc h1 hs) h2
    · rename_i n el hu
      obtain ⟨cs, h1, h2⟩ := fin_some h
      try simp only [hu]
      exact fin_of (indexArrL_loc h1 hs) h2
    · cases h
  · rename_i t x y hop
    rw [hop] at hv
    try simp only [hop]
    rw [hv x (by simp [Op.operands]), hv y (by simp [Op.operands])]
    split at h
    · rename_i hu
      try simp only [hu]
      exact h
    · rename_i n el hu
      obtain ⟨cs, h1, h2⟩ := fin_some h
      try simp only [hu]
      exact fin_of (indexArrV_loc h1) h2
    · cases h
  · rename_i x i hop
    rw [hop] at hv
    try simp only [hop]
    rw [hv x (by simp [Op.operands])]
    exact h
  · rename_i c hop
    rw [hop] at hv
    try simp only [hop]
    have hv' : ∀ x ∈ c.args.toList, ev st' x = ev st x := fun x hx => hv x (by simp [Op.operands, Call.operands]; exact Or.inr (by simpa using hx))
    split at h
    · rename_i hcal
      try simp only [hcal]
      split at h
      · rename_i t x ht hx
        obtain ⟨cs, h1, h2⟩ := fin_some h
        try simp only [ht, hx]
        rw [hv' x (by rw [hx]; simp)]
        exact fin_of (lenL_loc h1 hs) h2
      · cases h
    · rename_i hcal
      try simp only [hcal]
      split at h
      · rename_i t x ht hx
        try simp only [ht, hx]
        rw [hv' x (by rw [hx]; simp)]
        exact h
      · cases h
    · rename_i hcal
      try simp only [hcal]
      split at h
      · rename_i x l hx
        try simp only [hx]
        rw [hv' x (by rw [hx]; simp), List.map_congr_left (fun y hy => by rw [hv' y (by rw [hx]; exact List.mem_cons_of_mem _ hy)])]
        exact h
      · cases h
    · rename_i hcal
      try simp only [hcal]
      split at h
      · rename_i x l hx
        try simp only [hx]
        rw [hv' x (by rw [hx]; simp), List.map_congr_left (fun y hy => by rw [hv' y (by rw [hx]; exact List.mem_cons_of_mem _ hy)])]
        exact h
      · cases h
    · rename_i hcal
      try simp only [hcal]
      split at h
      · rename_i t t' x y ht hx
        obtain ⟨cs, h1, h2⟩ := fin_some h
        try simp only [ht, hx]
        rw [hv' x (by rw [hx]; simp), hv' y (by rw [hx]; simp)]
        exact fin_of (copyL_loc h1 hs) h2
      · cases h
    · rename_i hcal
      try simp only [hcal]
      split at h
      · rename_i t t' x y d ht hx hd
        split at h
        · rename_i htt
          obtain ⟨cs, h1, h2⟩ := fin_some h
          try simp only [ht, hx, hd]
          rw [if_pos htt, hv' x (by rw [hx]; simp), hv' y (by rw [hx]; simp)]
          exact fin_of (appendL_loc h1 hs) h2
        · rename_i htt
          obtain ⟨cs, h1, h2⟩ := fin_some h
          try simp only [ht, hx, hd]
          rw [if_neg htt, hv' x (by rw [hx]; simp), hv' y (by rw [hx]; simp)]
          exact fin_of (appendZ_loc h1 hs) h2
      · cases h
    · rename_i f hcal
      try simp only [hcal]
      rw [hv f (by simp [Op.operands, Call.operands, hcal]), argCms_loc hv']
      split at h
      · rename_i g hf
        try simp only [hf]
        split at h
        · rename_i c' hc'
          try simp only [hc']
          exact callK_loc h hs
        · rename_i hc'
          try simp only [hc']
          rw [List.map_congr_left (fun y hy => by rw [hv' y hy])]
          exact h
      · rename_i g d hf
        try simp only [hf]
        split at h
        · rename_i c' cs hc' hd
          try simp only [hc']
          rw [callK_bind] at h
          cases h1 : callK c' (o.dst.getD 0) (argCms st c.args.toList ++ cs) st.o some with
          | none => rw [h1] at h; cases h
          | some e1 =>
            rw [h1] at h
            cases h
            rw [(hs.cons).1, hd]
            simp only
            rw [callK_bind, callK_loc h1 hs.cons.2]
            rfl
        · cases h
      · rename_i cs x hf
        try simp only [hf]
        exact fnK_mono (fun c' hc' => callK_loc hc' hs) h
      · cases h
    · cases h
  · cases h
end
end Go.Proofs.YtamgbcgfjhpedaaDoor.VE
