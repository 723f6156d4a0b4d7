/- Contracts of functions (printed by a program; no statement is proved here). -/
import Derived.Test.YtodagcbcdkfniaaVeCon2
import Derived.Test.YtodagcbcdkfniaaGHD
namespace Go.Proofs.Ytodagcbcdkfniaa.VE
set_option linter.unusedVariables false
set_option maxRecDepth 100000
open Go Go.RowKit
namespace gridhallkeep3_two
noncomputable abbrev con (k : Nat) : Con := ⟨⟨[(0, .l (.val .str))], []⟩, ⟨[(0, .av Y1)], []⟩, fun x => gridhallkeep3_two.f k x⟩
noncomputable abbrev Γ (k : Nat) : FuncId → Option Con := look []
abbrev F : Fin Go.Proofs.Try.prog := ⟨⟨[(0, .av Y1)], []⟩, [], [.cell 2 28]⟩
noncomputable abbrev Tl (k : Nat) : List (Nat × Hint (prods F.cout.tys)) := []
noncomputable abbrev T (k : Nat) : Nat → Option (Hint (prods F.cout.tys)) := look (Tl k)
noncomputable abbrev body : Code := Go.Proofs.Try.f34.body.getD .skip
theorem main (k : Nat) (x : prods (con 0).cin.tys) : gridhallkeep3_two.f k x = goK (Γ k) F (T k) 2000 [.code body] ((con 0).cin.st x) := by kernel_rfl
theorem okΓ (k : Nat) : ΓOk Go.Proofs.Try.prog (Γ k) := Γnil
theorem ok (k : Nat) : ConSound Go.Proofs.Try.prog 34 (con k) := con_sound (Γ := Γ) (fn := Go.Proofs.Try.f34) (body := body) (cin := (con 0).cin) (F := F) (T := T) follows (by kernel_rfl) (by kernel_rfl) (by kernel_rfl) (by kernel_rfl) (by kernel_rfl) (by decide +kernel) (by kernel_rfl) (by kernel_rfl) (tzero trivial) k (fun m _ => okΓ m) (fun m _ => tstep trivial) (fun x y h => (main k x).symm.trans h)
end gridhallkeep3_two
namespace offer_named
noncomputable abbrev con (k : Nat) : Con := ⟨⟨[(0, .l (.val .str))], []⟩, ⟨[(0, .l (.val .bool))], []⟩, fun x => offer_named.f k x⟩
noncomputable abbrev Γ (k : Nat) : FuncId → Option Con := look []
abbrev F : Fin Go.Proofs.Try.prog := ⟨⟨[(0, .l (.val .bool))], []⟩, [], [.tmp 2]⟩
abbrev c4 : Cut := ⟨[(0, .l (.val .str)), (22, .l (.val (.int .i64))), (23, .l (.val (.int .i64)))], []⟩
noncomputable abbrev Tl (k : Nat) : List (Nat × Hint (prods F.cout.tys)) := [(4, ⟨c4, fun x => offer_named.l4 k x.1 x.2.1 x.2.2⟩)]
noncomputable abbrev T (k : Nat) : Nat → Option (Hint (prods F.cout.tys)) := look (Tl k)
noncomputable abbrev body : Code := Go.Proofs.Try.f94.body.getD .skip
theorem s4 (k : Nat) (x : prods c4.tys) : offer_named.l4 (k + 1) x.1 x.2.1 x.2.2 = segK (Γ k) F (T k) body 4 (c4.st x) := by kernel_rfl
theorem main (k : Nat) (x : prods (con 0).cin.tys) : offer_named.f k x = goK (Γ k) F (T k) 2000 [.code body] ((con 0).cin.st x) := by kernel_rfl
theorem okΓ (k : Nat) : ΓOk Go.Proofs.Try.prog (Γ k) := Γnil
theorem ok (k : Nat) : ConSound Go.Proofs.Try.prog 94 (con k) := con_sound (Γ := Γ) (fn := Go.Proofs.Try.f94) (body := body) (cin := (con 0).cin) (F := F) (T := T) follows (by kernel_rfl) (by kernel_rfl) (by kernel_rfl) (by kernel_rfl) (by kernel_rfl) (by decide +kernel) (by kernel_rfl) (by kernel_rfl) (tzero ⟨fun x => rfl, trivial⟩) k (fun m _ => okΓ m) (fun m _ => tstep ⟨fun x => s4 m x, trivial⟩) (fun x y h => (main k x).symm.trans h)
end offer_named
namespace offer_Check
noncomputable abbrev con (k : Nat) : Con := ⟨⟨[(0, .av Y1)], []⟩, ⟨[(0, .l (.val (.int .i64)))], []⟩, fun x => offer_Check.f k x⟩
noncomputable abbrev Γ (k : Nat) : FuncId → Option Con := look [(94, offer_named.con k)]
abbrev F : Fin Go.Proofs.Try.prog := ⟨⟨[(0, .l (.val (.int .i64)))], []⟩, [], [.tmp 2]⟩
abbrev c7 : Cut := ⟨[(1, .l (.ptr 7000000 0)), (3, .l (.val (.int .i64))), (15, .l (.val (.list 72 Y0))), (16, .l (.val (.int .i64))), (17, .l (.val (.int .i64)))], [(7000000, .box 28 [.val .str, .val (.list 72 Y0)])]⟩
noncomputable abbrev Tl (k : Nat) : List (Nat × Hint (prods F.cout.tys)) := [(7, ⟨c7, fun x => offer_Check.l7 k x.1 x.2.1 x.2.2.1 x.2.2.2.1 x.2.2.2.2.1 x.2.2.2.2.2⟩)]
noncomputable abbrev T (k : Nat) : Nat → Option (Hint (prods F.cout.tys)) := look (Tl k)
noncomputable abbrev body : Code := Go.Proofs.Try.f81.body.getD .skip
theorem s7 (k : Nat) (x : prods c7.tys) : offer_Check.l7 (k + 1) x.1 x.2.1 x.2.2.1 x.2.2.2.1 x.2.2.2.2.1 x.2.2.2.2.2 = segK (Γ k) F (T k) body 7 (c7.st x) := by kernel_rfl
theorem main (k : Nat) (x : prods (con 0).cin.tys) : offer_Check.f k x = goK (Γ k) F (T k) 2000 [.code body] ((con 0).cin.st x) := by kernel_rfl
theorem okΓ (k : Nat) : ΓOk Go.Proofs.Try.prog (Γ k) := Γcons (offer_named.ok k) ⟨Go.Proofs.Try.f94, by kernel_rfl, by kernel_rfl, by kernel_rfl⟩ (Γnil)
theorem ok (k : Nat) : ConSound Go.Proofs.Try.prog 81 (con k) := con_sound (Γ := Γ) (fn := Go.Proofs.Try.f81) (body := body) (cin := (con 0).cin) (F := F) (T := T) follows (by kernel_rfl) (by kernel_rfl) (by kernel_rfl) (by kernel_rfl) (by kernel_rfl) (by decide +kernel) (by kernel_rfl) (by kernel_rfl) (tzero ⟨fun x => rfl, trivial⟩) k (fun m _ => okΓ m) (fun m _ => tstep ⟨fun x => s7 m x, trivial⟩) (fun x y h => (main k x).symm.trans h)
end offer_Check
namespace offer_CheckAll
noncomputable abbrev con (k : Nat) : Con := ⟨⟨[(0, .l (.val (.list 28 Y1)))], []⟩, ⟨[(0, .l (.val (.int .i64)))], []⟩, fun x => offer_CheckAll.f k x⟩
noncomputable abbrev Γ (k : Nat) : FuncId → Option Con := look [(81, offer_Check.con k)]
abbrev F : Fin Go.Proofs.Try.prog := ⟨⟨[(0, .l (.val (.int .i64)))], []⟩, [], [.tmp 2]⟩
abbrev c4 : Cut := ⟨[(0, .l (.val (.list 28 Y1))), (11, .l (.val (.list 28 Y1))), (12, .l (.val (.int .i64))), (13, .l (.val (.int .i64)))], []⟩
abbrev c10 : Cut := ⟨[(0, .l (.val (.list 28 Y1))), (4, .l (.ptr 7000000 0)), (11, .l (.val (.list 28 Y1))), (12, .l (.val (.int .i64))), (13, .l (.val (.int .i64))), (25, .l (.val (.list 28 Y1))), (26, .l (.val (.int .i64))), (27, .l (.val (.int .i64)))], [(7000000, .box 28 [.val .str, .val (.list 72 Y0)])]⟩
noncomputable abbrev Tl (k : Nat) : List (Nat × Hint (prods F.cout.tys)) := [(4, ⟨c4, fun x => offer_CheckAll.l4 k x.1 x.2.1 x.2.2.1 x.2.2.2⟩), (10, ⟨c10, fun x => offer_CheckAll.l10 k x.1 x.2.1 x.2.2.1 x.2.2.2.1 x.2.2.2.2.1 x.2.2.2.2.2.1 x.2.2.2.2.2.2.1 x.2.2.2.2.2.2.2.1 x.2.2.2.2.2.2.2.2⟩)]
noncomputable abbrev T (k : Nat) : Nat → Option (Hint (prods F.cout.tys)) := look (Tl k)
noncomputable abbrev body : Code := Go.Proofs.Try.f65.body.getD .skip
theorem s4 (k : Nat) (x : prods c4.tys) : offer_CheckAll.l4 (k + 1) x.1 x.2.1 x.2.2.1 x.2.2.2 = segK (Γ k) F (T k) body 4 (c4.st x) := by kernel_rfl
theorem s10 (k : Nat) (x : prods c10.tys) : offer_CheckAll.l10 (k + 1) x.1 x.2.1 x.2.2.1 x.2.2.2.1 x.2.2.2.2.1 x.2.2.2.2.2.1 x.2.2.2.2.2.2.1 x.2.2.2.2.2.2.2.1 x.2.2.2.2.2.2.2.2 = segK (Γ k) F (T k) body 10 (c10.st x) := by kernel_rfl
theorem main (k : Nat) (x : prods (con 0).cin.tys) : offer_CheckAll.f k x = goK (Γ k) F (T k) 2000 [.code body] ((con 0).cin.st x) := by kernel_rfl
theorem okΓ (k : Nat) : ΓOk Go.Proofs.Try.prog (Γ k) := Γcons (offer_Check.ok k) ⟨Go.Proofs.Try.f81, by kernel_rfl, by kernel_rfl, by kernel_rfl⟩ (Γnil)
theorem ok (k : Nat) : ConSound Go.Proofs.Try.prog 65 (con k) := con_sound (Γ := Γ) (fn := Go.Proofs.Try.f65) (body := body) (cin := (con 0).cin) (F := F) (T := T) follows (by kernel_rfl) (by kernel_rfl) (by kernel_rfl) (by kernel_rfl) (by kernel_rfl) (by decide +kernel) (by kernel_rfl) (by kernel_rfl) (tzero ⟨fun x => rfl, fun x => rfl, trivial⟩) k (fun m _ => okΓ m) (fun m _ => tstep ⟨fun x => s4 m x, fun x => s10 m x, trivial⟩) (fun x y h => (main k x).symm.trans h)
end offer_CheckAll
namespace offer_Most
noncomputable abbrev con (k : Nat) : Con := ⟨⟨[(0, .av Y1)], []⟩, ⟨[(0, .l (.val (.int .i64)))], []⟩, fun x => offer_Most.f k x⟩
noncomputable abbrev Γ (k : Nat) : FuncId → Option Con := look []
abbrev F : Fin Go.Proofs.Try.prog := ⟨⟨[(0, .l (.val (.int .i64)))], []⟩, [], [.tmp 2]⟩
abbrev c3 : Cut := ⟨[(3, .l (.val (.int .i64))), (7, .l (.val (.list 72 Y0))), (8, .l (.val (.int .i64))), (9, .l (.val (.int .i64)))], []⟩
noncomputable abbrev Tl (k : Nat) : List (Nat × Hint (prods F.cout.tys)) := [(3, ⟨c3, fun x => offer_Most.l3 k x.1 x.2.1 x.2.2.1 x.2.2.2⟩)]
noncomputable abbrev T (k : Nat) : Nat → Option (Hint (prods F.cout.tys)) := look (Tl k)
noncomputable abbrev body : Code := Go.Proofs.Try.f64.body.getD .skip
theorem s3 (k : Nat) (x : prods c3.tys) : offer_Most.l3 (k + 1) x.1 x.2.1 x.2.2.1 x.2.2.2 = segK (Γ k) F (T k) body 3 (c3.st x) := by kernel_rfl
theorem main (k : Nat) (x : prods (con 0).cin.tys) : offer_Most.f k x = goK (Γ k) F (T k) 2000 [.code body] ((con 0).cin.st x) := by kernel_rfl
theorem okΓ (k : Nat) : ΓOk Go.Proofs.Try.prog (Γ k) := Γnil
theorem ok (k : Nat) : ConSound Go.Proofs.Try.prog 64 (con k) := con_sound (Γ := Γ) (fn := Go.Proofs.Try.f64) (body := body) (cin := (con 0).cin) (F := F) (T := T) follows (by kernel_rfl) (by kernel_rfl) (by kernel_rfl) (by kernel_rfl) (by kernel_rfl) (by decide +kernel) (by kernel_rfl) (by kernel_rfl) (tzero ⟨fun x => rfl, trivial⟩) k (fun m _ => okΓ m) (fun m _ => tstep ⟨fun x => s3 m x, trivial⟩) (fun x y h => (main k x).symm.trans h)
end offer_Most
namespace cmp_isNaN_int
noncomputable abbrev con (k : Nat) : Con := ⟨⟨[(0, .l (.val (.int .i64)))], []⟩, ⟨[(0, .l (.val .bool))], []⟩, fun x => cmp_isNaN_int.f k x⟩
noncomputable abbrev Γ (k : Nat) : FuncId → Option Con := look []
abbrev F : Fin Go.Proofs.Try.prog := ⟨⟨[(0, .l (.val .bool))], []⟩, [], [.tmp 2]⟩
noncomputable abbrev Tl (k : Nat) : List (Nat × Hint (prods F.cout.tys)) := []
noncomputable abbrev T (k : Nat) : Nat → Option (Hint (prods F.cout.tys)) := look (Tl k)
noncomputable abbrev body : Code := Go.Proofs.Try.f90.body.getD .skip
theorem main (k : Nat) (x : prods (con 0).cin.tys) : cmp_isNaN_int.f k x = goK (Γ k) F (T k) 2000 [.code body] ((con 0).cin.st x) := by kernel_rfl
theorem okΓ (k : Nat) : ΓOk Go.Proofs.Try.prog (Γ k) := Γnil
theorem ok (k : Nat) : ConSound Go.Proofs.Try.prog 90 (con k) := con_sound (Γ := Γ) (fn := Go.Proofs.Try.f90) (body := body) (cin := (con 0).cin) (F := F) (T := T) follows (by kernel_rfl) (by kernel_rfl) (by kernel_rfl) (by kernel_rfl) (by kernel_rfl) (by decide +kernel) (by kernel_rfl) (by kernel_rfl) (tzero trivial) k (fun m _ => okΓ m) (fun m _ => tstep trivial) (fun x y h => (main k x).symm.trans h)
end cmp_isNaN_int
namespace cmp_Compare_int
noncomputable abbrev con (k : Nat) : Con := ⟨⟨[(0, .l (.val (.int .i64))), (1, .l (.val (.int .i64)))], []⟩, ⟨[(0, .l (.val (.int .i64)))], []⟩, fun x => cmp_Compare_int.f k x.1 x.2⟩
noncomputable abbrev Γ (k : Nat) : FuncId → Option Con := look [(90, cmp_isNaN_int.con k)]
abbrev F : Fin Go.Proofs.Try.prog := ⟨⟨[(0, .l (.val (.int .i64)))], []⟩, [], [.tmp 4]⟩
noncomputable abbrev Tl (k : Nat) : List (Nat × Hint (prods F.cout.tys)) := []
noncomputable abbrev T (k : Nat) : Nat → Option (Hint (prods F.cout.tys)) := look (Tl k)
noncomputable abbrev body : Code := Go.Proofs.Try.f68.body.getD .skip
theorem main (k : Nat) (x : prods (con 0).cin.tys) : cmp_Compare_int.f k x.1 x.2 = goK (Γ k) F (T k) 2000 [.code body] ((con 0).cin.st x) := by kernel_rfl
theorem okΓ (k : Nat) : ΓOk Go.Proofs.Try.prog (Γ k) := Γcons (cmp_isNaN_int.ok k) ⟨Go.Proofs.Try.f90, by kernel_rfl, by kernel_rfl, by kernel_rfl⟩ (Γnil)
theorem ok (k : Nat) : ConSound Go.Proofs.Try.prog 68 (con k) := con_sound (Γ := Γ) (fn := Go.Proofs.Try.f68) (body := body) (cin := (con 0).cin) (F := F) (T := T) follows (by kernel_rfl) (by kernel_rfl) (by kernel_rfl) (by kernel_rfl) (by kernel_rfl) (by decide +kernel) (by kernel_rfl) (by kernel_rfl) (tzero trivial) k (fun m _ => okΓ m) (fun m _ => tstep trivial) (fun x y h => (main k x).symm.trans h)
end cmp_Compare_int
namespace hours_Change_1
noncomputable abbrev con (k : Nat) : Con := ⟨⟨[(0, .av Y2), (1, .av Y2)], []⟩, ⟨[(0, .l (.val (.int .i64)))], []⟩, fun x => hours_Change_1.f k x.1 x.2⟩
noncomputable abbrev Γ (k : Nat) : FuncId → Option Con := look [(68, cmp_Compare_int.con k)]
abbrev F : Fin Go.Proofs.Try.prog := ⟨⟨[(0, .l (.val (.int .i64)))], []⟩, [], [.tmp 4]⟩
noncomputable abbrev Tl (k : Nat) : List (Nat × Hint (prods F.cout.tys)) := []
noncomputable abbrev T (k : Nat) : Nat → Option (Hint (prods F.cout.tys)) := look (Tl k)
noncomputable abbrev body : Code := Go.Proofs.Try.f67.body.getD .skip
theorem main (k : Nat) (x : prods (con 0).cin.tys) : hours_Change_1.f k x.1 x.2 = goK (Γ k) F (T k) 2000 [.code body] ((con 0).cin.st x) := by kernel_rfl
theorem okΓ (k : Nat) : ΓOk Go.Proofs.Try.prog (Γ k) := Γcons (cmp_Compare_int.ok k) ⟨Go.Proofs.Try.f68, by kernel_rfl, by kernel_rfl, by kernel_rfl⟩ (Γnil)
theorem ok (k : Nat) : ConSound Go.Proofs.Try.prog 67 (con k) := con_sound (Γ := Γ) (fn := Go.Proofs.Try.f67) (body := body) (cin := (con 0).cin) (F := F) (T := T) follows (by kernel_rfl) (by kernel_rfl) (by kernel_rfl) (by kernel_rfl) (by kernel_rfl) (by decide +kernel) (by kernel_rfl) (by kernel_rfl) (tzero trivial) k (fun m _ => okΓ m) (fun m _ => tstep trivial) (fun x y h => (main k x).symm.trans h)
end hours_Change_1
namespace slices_insertionSortCmpFunc_hours_step
noncomputable abbrev con (k : Nat) : Con := ⟨⟨[(0, .l (.row 9000000)), (1, .l (.val (.int .i64))), (2, .l (.val (.int .i64))), (3, .l (.fn0 67))], [(9000000, .row 136 Y2)]⟩, ⟨[], [(9000000, .row 136 Y2)]⟩, fun x => slices_insertionSortCmpFunc_hours_step.f k x.1 x.2.1 x.2.2⟩
noncomputable abbrev Γ (k : Nat) : FuncId → Option Con := look [(67, hours_Change_1.con k)]
abbrev F : Fin Go.Proofs.Try.prog := ⟨⟨[], [(9000000, .row 136 Y2)]⟩, [9000000], []⟩
abbrev c1 : Cut := ⟨[(0, .l (.row 9000000)), (1, .l (.val (.int .i64))), (2, .l (.val (.int .i64))), (3, .l (.fn0 67)), (8, .l (.val (.int .i64)))], [(9000000, .row 136 Y2)]⟩
abbrev c4 : Cut := ⟨[(0, .l (.row 9000000)), (1, .l (.val (.int .i64))), (2, .l (.val (.int .i64))), (3, .l (.fn0 67)), (8, .l (.val (.int .i64))), (9, .l (.val (.int .i64)))], [(9000000, .row 136 Y2)]⟩
noncomputable abbrev Tl (k : Nat) : List (Nat × Hint (prods F.cout.tys)) := [(1, ⟨c1, fun x => slices_insertionSortCmpFunc_hours_step.l1 k x.1 x.2.1 x.2.2.1 x.2.2.2⟩), (4, ⟨c4, fun x => slices_insertionSortCmpFunc_hours_step.l4 k x.1 x.2.1 x.2.2.1 x.2.2.2.1 x.2.2.2.2⟩)]
noncomputable abbrev T (k : Nat) : Nat → Option (Hint (prods F.cout.tys)) := look (Tl k)
noncomputable abbrev body : Code := Go.Proofs.Try.f98.body.getD .skip
theorem s1 (k : Nat) (x : prods c1.tys) : slices_insertionSortCmpFunc_hours_step.l1 (k + 1) x.1 x.2.1 x.2.2.1 x.2.2.2 = segK (Γ k) F (T k) body 1 (c1.st x) := by kernel_rfl
theorem s4 (k : Nat) (x : prods c4.tys) : slices_insertionSortCmpFunc_hours_step.l4 (k + 1) x.1 x.2.1 x.2.2.1 x.2.2.2.1 x.2.2.2.2 = segK (Γ k) F (T k) body 4 (c4.st x) := by kernel_rfl
theorem main (k : Nat) (x : prods (con 0).cin.tys) : slices_insertionSortCmpFunc_hours_step.f k x.1 x.2.1 x.2.2 = goK (Γ k) F (T k) 2000 [.code body] ((con 0).cin.st x) := by kernel_rfl
theorem okΓ (k : Nat) : ΓOk Go.Proofs.Try.prog (Γ k) := Γcons (hours_Change_1.ok k) ⟨Go.Proofs.Try.f67, by kernel_rfl, by kernel_rfl, by kernel_rfl⟩ (Γnil)
theorem ok (k : Nat) : ConSound Go.Proofs.Try.prog 98 (con k) := con_sound (Γ := Γ) (fn := Go.Proofs.Try.f98) (body := body) (cin := (con 0).cin) (F := F) (T := T) follows (by kernel_rfl) (by kernel_rfl) (by kernel_rfl) (by kernel_rfl) (by kernel_rfl) (by decide +kernel) (by kernel_rfl) (by kernel_rfl) (tzero ⟨fun x => rfl, fun x => rfl, trivial⟩) k (fun m _ => okΓ m) (fun m _ => tstep ⟨fun x => s1 m x, fun x => s4 m x, trivial⟩) (fun x y h => (main k x).symm.trans h)
end slices_insertionSortCmpFunc_hours_step
namespace slices_swapRangeCmpFunc_hours_step
noncomputable abbrev con (k : Nat) : Con := ⟨⟨[(0, .l (.row 9000000)), (1, .l (.val (.int .i64))), (2, .l (.val (.int .i64))), (3, .l (.val (.int .i64))), (4, .l (.fn0 67))], [(9000000, .row 136 Y2)]⟩, ⟨[], [(9000000, .row 136 Y2)]⟩, fun x => slices_swapRangeCmpFunc_hours_step.f k x.1 x.2.1 x.2.2.1 x.2.2.2⟩
noncomputable abbrev Γ (k : Nat) : FuncId → Option Con := look []
abbrev F : Fin Go.Proofs.Try.prog := ⟨⟨[], [(9000000, .row 136 Y2)]⟩, [9000000], []⟩
abbrev c1 : Cut := ⟨[(0, .l (.row 9000000)), (1, .l (.val (.int .i64))), (2, .l (.val (.int .i64))), (3, .l (.val (.int .i64))), (10, .l (.val (.int .i64)))], [(9000000, .row 136 Y2)]⟩
noncomputable abbrev Tl (k : Nat) : List (Nat × Hint (prods F.cout.tys)) := [(1, ⟨c1, fun x => slices_swapRangeCmpFunc_hours_step.l1 k x.1 x.2.1 x.2.2.1 x.2.2.2.1 x.2.2.2.2⟩)]
noncomputable abbrev T (k : Nat) : Nat → Option (Hint (prods F.cout.tys)) := look (Tl k)
noncomputable abbrev body : Code := Go.Proofs.Try.f110.body.getD .skip
theorem s1 (k : Nat) (x : prods c1.tys) : slices_swapRangeCmpFunc_hours_step.l1 (k + 1) x.1 x.2.1 x.2.2.1 x.2.2.2.1 x.2.2.2.2 = segK (Γ k) F (T k) body 1 (c1.st x) := by kernel_rfl
theorem main (k : Nat) (x : prods (con 0).cin.tys) : slices_swapRangeCmpFunc_hours_step.f k x.1 x.2.1 x.2.2.1 x.2.2.2 = goK (Γ k) F (T k) 2000 [.code body] ((con 0).cin.st x) := by kernel_rfl
theorem okΓ (k : Nat) : ΓOk Go.Proofs.Try.prog (Γ k) := Γnil
theorem ok (k : Nat) : ConSound Go.Proofs.Try.prog 110 (con k) := con_sound (Γ := Γ) (fn := Go.Proofs.Try.f110) (body := body) (cin := (con 0).cin) (F := F) (T := T) follows (by kernel_rfl) (by kernel_rfl) (by kernel_rfl) (by kernel_rfl) (by kernel_rfl) (by decide +kernel) (by kernel_rfl) (by kernel_rfl) (tzero ⟨fun x => rfl, trivial⟩) k (fun m _ => okΓ m) (fun m _ => tstep ⟨fun x => s1 m x, trivial⟩) (fun x y h => (main k x).symm.trans h)
end slices_swapRangeCmpFunc_hours_step
namespace slices_rotateCmpFunc_hours_step
noncomputable abbrev con (k : Nat) : Con := ⟨⟨[(0, .l (.row 9000000)), (1, .l (.val (.int .i64))), (2, .l (.val (.int .i64))), (3, .l (.val (.int .i64))), (4, .l (.fn0 67))], [(9000000, .row 136 Y2)]⟩, ⟨[], [(9000000, .row 136 Y2)]⟩, fun x => slices_rotateCmpFunc_hours_step.f k x.1 x.2.1 x.2.2.1 x.2.2.2⟩
noncomputable abbrev Γ (k : Nat) : FuncId → Option Con := look [(110, slices_swapRangeCmpFunc_hours_step.con k)]
abbrev F : Fin Go.Proofs.Try.prog := ⟨⟨[], [(9000000, .row 136 Y2)]⟩, [9000000], []⟩
abbrev c2 : Cut := ⟨[(0, .l (.row 9000000)), (2, .l (.val (.int .i64))), (4, .l (.fn0 67)), (10, .l (.val (.int .i64))), (11, .l (.val (.int .i64)))], [(9000000, .row 136 Y2)]⟩
noncomputable abbrev Tl (k : Nat) : List (Nat × Hint (prods F.cout.tys)) := [(2, ⟨c2, fun x => slices_rotateCmpFunc_hours_step.l2 k x.1 x.2.1 x.2.2.1 x.2.2.2⟩)]
noncomputable abbrev T (k : Nat) : Nat → Option (Hint (prods F.cout.tys)) := look (Tl k)
noncomputable abbrev body : Code := Go.Proofs.Try.f106.body.getD .skip
theorem s2 (k : Nat) (x : prods c2.tys) : slices_rotateCmpFunc_hours_step.l2 (k + 1) x.1 x.2.1 x.2.2.1 x.2.2.2 = segK (Γ k) F (T k) body 2 (c2.st x) := by kernel_rfl
theorem main (k : Nat) (x : prods (con 0).cin.tys) : slices_rotateCmpFunc_hours_step.f k x.1 x.2.1 x.2.2.1 x.2.2.2 = goK (Γ k) F (T k) 2000 [.code body] ((con 0).cin.st x) := by kernel_rfl
theorem okΓ (k : Nat) : ΓOk Go.Proofs.Try.prog (Γ k) := Γcons (slices_swapRangeCmpFunc_hours_step.ok k) ⟨Go.Proofs.Try.f110, by kernel_rfl, by kernel_rfl, by kernel_rfl⟩ (Γnil)
theorem ok (k : Nat) : ConSound Go.Proofs.Try.prog 106 (con k) := con_sound (Γ := Γ) (fn := Go.Proofs.Try.f106) (body := body) (cin := (con 0).cin) (F := F) (T := T) follows (by kernel_rfl) (by kernel_rfl) (by kernel_rfl) (by kernel_rfl) (by kernel_rfl) (by decide +kernel) (by kernel_rfl) (by kernel_rfl) (tzero ⟨fun x => rfl, trivial⟩) k (fun m _ => okΓ m) (fun m _ => tstep ⟨fun x => s2 m x, trivial⟩) (fun x y h => (main k x).symm.trans h)
end slices_rotateCmpFunc_hours_step
namespace slices_symMergeCmpFunc_hours_step
noncomputable abbrev con (k : Nat) : Con := ⟨⟨[(0, .l (.row 9000000)), (1, .l (.val (.int .i64))), (2, .l (.val (.int .i64))), (3, .l (.val (.int .i64))), (4, .l (.fn0 67))], [(9000000, .row 136 Y2)]⟩, ⟨[], [(9000000, .row 136 Y2)]⟩, fun x => slices_symMergeCmpFunc_hours_step.f k x.1 x.2.1 x.2.2.1 x.2.2.2⟩
noncomputable abbrev Γ (k : Nat) : FuncId → Option Con := look [(67, hours_Change_1.con k), (99, slices_symMergeCmpFunc_hours_step.con k), (106, slices_rotateCmpFunc_hours_step.con k)]
abbrev F : Fin Go.Proofs.Try.prog := ⟨⟨[], [(9000000, .row 136 Y2)]⟩, [9000000], []⟩
abbrev c3 : Cut := ⟨[(0, .l (.row 9000000)), (1, .l (.val (.int .i64))), (4, .l (.fn0 67)), (10, .l (.val (.int .i64))), (11, .l (.val (.int .i64)))], [(9000000, .row 136 Y2)]⟩
abbrev c9 : Cut := ⟨[(0, .l (.row 9000000)), (10, .l (.val (.int .i64))), (13, .l (.val (.int .i64)))], [(9000000, .row 136 Y2)]⟩
abbrev c15 : Cut := ⟨[(0, .l (.row 9000000)), (2, .l (.val (.int .i64))), (4, .l (.fn0 67)), (14, .l (.val (.int .i64))), (15, .l (.val (.int .i64)))], [(9000000, .row 136 Y2)]⟩
abbrev c21 : Cut := ⟨[(0, .l (.row 9000000)), (14, .l (.val (.int .i64))), (17, .l (.val (.int .i64)))], [(9000000, .row 136 Y2)]⟩
abbrev c32 : Cut := ⟨[(0, .l (.row 9000000)), (1, .l (.val (.int .i64))), (2, .l (.val (.int .i64))), (3, .l (.val (.int .i64))), (4, .l (.fn0 67)), (18, .l (.val (.int .i64))), (19, .l (.val (.int .i64))), (20, .l (.val (.int .i64))), (21, .l (.val (.int .i64)))], [(9000000, .row 136 Y2)]⟩
abbrev c33 : Cut := ⟨[(0, .l (.row 9000000)), (1, .l (.val (.int .i64))), (2, .l (.val (.int .i64))), (3, .l (.val (.int .i64))), (4, .l (.fn0 67)), (18, .l (.val (.int .i64))), (19, .l (.val (.int .i64))), (20, .l (.val (.int .i64))), (21, .l (.val (.int .i64))), (22, .l (.val (.int .i64)))], [(9000000, .row 136 Y2)]⟩
abbrev c41 : Cut := ⟨[(0, .l (.row 9000000)), (1, .l (.val (.int .i64))), (3, .l (.val (.int .i64))), (4, .l (.fn0 67)), (18, .l (.val (.int .i64))), (20, .l (.val (.int .i64))), (24, .l (.val (.int .i64)))], [(9000000, .row 136 Y2)]⟩
noncomputable abbrev Tl (k : Nat) : List (Nat × Hint (prods F.cout.tys)) := [(3, ⟨c3, fun x => slices_symMergeCmpFunc_hours_step.l3 k x.1 x.2.1 x.2.2.1 x.2.2.2⟩), (9, ⟨c9, fun x => slices_symMergeCmpFunc_hours_step.l9 k x.1 x.2.1 x.2.2⟩), (15, ⟨c15, fun x => slices_symMergeCmpFunc_hours_step.l15 k x.1 x.2.1 x.2.2.1 x.2.2.2⟩), (21, ⟨c21, fun x => slices_symMergeCmpFunc_hours_step.l21 k x.1 x.2.1 x.2.2⟩), (32, ⟨c32, fun x => slices_symMergeCmpFunc_hours_step.l32 k x.1 x.2.1 x.2.2.1 x.2.2.2.1 x.2.2.2.2.1 x.2.2.2.2.2.1 x.2.2.2.2.2.2.1 x.2.2.2.2.2.2.2⟩), (33, ⟨c33, fun x => slices_symMergeCmpFunc_hours_step.l33 k x.1 x.2.1 x.2.2.1 x.2.2.2.1 x.2.2.2.2.1 x.2.2.2.2.2.1 x.2.2.2.2.2.2.1 x.2.2.2.2.2.2.2.1 x.2.2.2.2.2.2.2.2⟩), (41, ⟨c41, fun x => slices_symMergeCmpFunc_hours_step.l41 k x.1 x.2.1 x.2.2.1 x.2.2.2.1 x.2.2.2.2.1 x.2.2.2.2.2⟩)]
noncomputable abbrev T (k : Nat) : Nat → Option (Hint (prods F.cout.tys)) := look (Tl k)
noncomputable abbrev body : Code := Go.Proofs.Try.f99.body.getD .skip
theorem s3 (k : Nat) (x : prods c3.tys) : slices_symMergeCmpFunc_hours_step.l3 (k + 1) x.1 x.2.1 x.2.2.1 x.2.2.2 = segK (Γ k) F (T k) body 3 (c3.st x) := by kernel_rfl
theorem s9 (k : Nat) (x : prods c9.tys) : slices_symMergeCmpFunc_hours_step.l9 (k + 1) x.1 x.2.1 x.2.2 = segK (Γ k) F (T k) body 9 (c9.st x) := by kernel_rfl
theorem s15 (k : Nat) (x : prods c15.tys) : slices_symMergeCmpFunc_hours_step.l15 (k + 1) x.1 x.2.1 x.2.2.1 x.2.2.2 = segK (Γ k) F (T k) body 15 (c15.st x) := by kernel_rfl
theorem s21 (k : Nat) (x : prods c21.tys) : slices_symMergeCmpFunc_hours_step.l21 (k + 1) x.1 x.2.1 x.2.2 = segK (Γ k) F (T k) body 21 (c21.st x) := by kernel_rfl
theorem s32 (k : Nat) (x : prods c32.tys) : slices_symMergeCmpFunc_hours_step.l32 (k + 1) x.1 x.2.1 x.2.2.1 x.2.2.2.1 x.2.2.2.2.1 x.2.2.2.2.2.1 x.2.2.2.2.2.2.1 x.2.2.2.2.2.2.2 = segK (Γ k) F (T k) body 32 (c32.st x) := by kernel_rfl
theorem s33 (k : Nat) (x : prods c33.tys) : slices_symMergeCmpFunc_hours_step.l33 (k + 1) x.1 x.2.1 x.2.2.1 x.2.2.2.1 x.2.2.2.2.1 x.2.2.2.2.2.1 x.2.2.2.2.2.2.1 x.2.2.2.2.2.2.2.1 x.2.2.2.2.2.2.2.2 = segK (Γ k) F (T k) body 33 (c33.st x) := by kernel_rfl
theorem s41 (k : Nat) (x : prods c41.tys) : slices_symMergeCmpFunc_hours_step.l41 (k + 1) x.1 x.2.1 x.2.2.1 x.2.2.2.1 x.2.2.2.2.1 x.2.2.2.2.2 = segK (Γ k) F (T k) body 41 (c41.st x) := by kernel_rfl
theorem main (k : Nat) (x : prods (con 0).cin.tys) : slices_symMergeCmpFunc_hours_step.f (k + 1) x.1 x.2.1 x.2.2.1 x.2.2.2 = goK (Γ k) F (T k) 2000 [.code body] ((con 0).cin.st x) := by kernel_rfl
theorem okΓ (k : Nat) (h : ConSound Go.Proofs.Try.prog 99 (con k)) : ΓOk Go.Proofs.Try.prog (Γ k) := Γcons (hours_Change_1.ok k) ⟨Go.Proofs.Try.f67, by kernel_rfl, by kernel_rfl, by kernel_rfl⟩ (Γcons h ⟨Go.Proofs.Try.f99, by kernel_rfl, by kernel_rfl, by kernel_rfl⟩ (Γcons (slices_rotateCmpFunc_hours_step.ok k) ⟨Go.Proofs.Try.f106, by kernel_rfl, by kernel_rfl, by kernel_rfl⟩ (Γnil)))
theorem ok (k : Nat) : ConSound Go.Proofs.Try.prog 99 (con k) := by
  induction k using Nat.strongRecOn with
  | ind k ih => cases k with
    | zero => exact fun x y h => absurd (show (none : Option _) = some y from h) (by simp)
    | succ n => exact con_sound (Γ := Γ) (fn := Go.Proofs.Try.f99) (body := body) (cin := (con 0).cin) (F := F) (T := T) follows (by kernel_rfl) (by kernel_rfl) (by kernel_rfl) (by kernel_rfl) (by kernel_rfl) (by decide +kernel) (by kernel_rfl) (by kernel_rfl) (tzero ⟨fun x => rfl, fun x => rfl, fun x => rfl, fun x => rfl, fun x => rfl, fun x => rfl, fun x => rfl, trivial⟩) n (fun m hm => okΓ m (ih m (Nat.lt_succ_of_le hm))) (fun m _ => tstep ⟨fun x => s3 m x, fun x => s9 m x, fun x => s15 m x, fun x => s21 m x, fun x => s32 m x, fun x => s33 m x, fun x => s41 m x, trivial⟩) (fun x y h => (main n x).symm.trans h)
end slices_symMergeCmpFunc_hours_step
namespace slices_stableCmpFunc_hours_step
noncomputable abbrev con (k : Nat) : Con := ⟨⟨[(0, .l (.row 9000000)), (1, .l (.val (.int .i64))), (2, .l (.fn0 67))], [(9000000, .row 136 Y2)]⟩, ⟨[], [(9000000, .row 136 Y2)]⟩, fun x => slices_stableCmpFunc_hours_step.f k x.1 x.2⟩
noncomputable abbrev Γ (k : Nat) : FuncId → Option Con := look [(98, slices_insertionSortCmpFunc_hours_step.con k), (99, slices_symMergeCmpFunc_hours_step.con k)]
abbrev F : Fin Go.Proofs.Try.prog := ⟨⟨[], [(9000000, .row 136 Y2)]⟩, [9000000], []⟩
abbrev c2 : Cut := ⟨[(0, .l (.row 9000000)), (1, .l (.val (.int .i64))), (2, .l (.fn0 67)), (6, .l (.val (.int .i64))), (7, .l (.val (.int .i64))), (8, .l (.val (.int .i64)))], [(9000000, .row 136 Y2)]⟩
abbrev c7 : Cut := ⟨[(0, .l (.row 9000000)), (1, .l (.val (.int .i64))), (2, .l (.fn0 67)), (6, .l (.val (.int .i64)))], [(9000000, .row 136 Y2)]⟩
abbrev c9 : Cut := ⟨[(0, .l (.row 9000000)), (1, .l (.val (.int .i64))), (2, .l (.fn0 67)), (6, .l (.val (.int .i64))), (7, .l (.val (.int .i64))), (8, .l (.val (.int .i64)))], [(9000000, .row 136 Y2)]⟩
noncomputable abbrev Tl (k : Nat) : List (Nat × Hint (prods F.cout.tys)) := [(2, ⟨c2, fun x => slices_stableCmpFunc_hours_step.l2 k x.1 x.2.1 x.2.2.1 x.2.2.2.1 x.2.2.2.2⟩), (7, ⟨c7, fun x => slices_stableCmpFunc_hours_step.l7 k x.1 x.2.1 x.2.2⟩), (9, ⟨c9, fun x => slices_stableCmpFunc_hours_step.l9 k x.1 x.2.1 x.2.2.1 x.2.2.2.1 x.2.2.2.2⟩)]
noncomputable abbrev T (k : Nat) : Nat → Option (Hint (prods F.cout.tys)) := look (Tl k)
noncomputable abbrev body : Code := Go.Proofs.Try.f89.body.getD .skip
theorem s2 (k : Nat) (x : prods c2.tys) : slices_stableCmpFunc_hours_step.l2 (k + 1) x.1 x.2.1 x.2.2.1 x.2.2.2.1 x.2.2.2.2 = segK (Γ k) F (T k) body 2 (c2.st x) := by kernel_rfl
theorem s7 (k : Nat) (x : prods c7.tys) : slices_stableCmpFunc_hours_step.l7 (k + 1) x.1 x.2.1 x.2.2 = segK (Γ k) F (T k) body 7 (c7.st x) := by kernel_rfl
theorem s9 (k : Nat) (x : prods c9.tys) : slices_stableCmpFunc_hours_step.l9 (k + 1) x.1 x.2.1 x.2.2.1 x.2.2.2.1 x.2.2.2.2 = segK (Γ k) F (T k) body 9 (c9.st x) := by kernel_rfl
theorem main (k : Nat) (x : prods (con 0).cin.tys) : slices_stableCmpFunc_hours_step.f k x.1 x.2 = goK (Γ k) F (T k) 2000 [.code body] ((con 0).cin.st x) := by kernel_rfl
theorem okΓ (k : Nat) : ΓOk Go.Proofs.Try.prog (Γ k) := Γcons (slices_insertionSortCmpFunc_hours_step.ok k) ⟨Go.Proofs.Try.f98, by kernel_rfl, by kernel_rfl, by kernel_rfl⟩ (Γcons (slices_symMergeCmpFunc_hours_step.ok k) ⟨Go.Proofs.Try.f99, by kernel_rfl, by kernel_rfl, by kernel_rfl⟩ (Γnil))
theorem ok (k : Nat) : ConSound Go.Proofs.Try.prog 89 (con k) := con_sound (Γ := Γ) (fn := Go.Proofs.Try.f89) (body := body) (cin := (con 0).cin) (F := F) (T := T) follows (by kernel_rfl) (by kernel_rfl) (by kernel_rfl) (by kernel_rfl) (by kernel_rfl) (by decide +kernel) (by kernel_rfl) (by kernel_rfl) (tzero ⟨fun x => rfl, fun x => rfl, fun x => rfl, trivial⟩) k (fun m _ => okΓ m) (fun m _ => tstep ⟨fun x => s2 m x, fun x => s7 m x, fun x => s9 m x, trivial⟩) (fun x y h => (main k x).symm.trans h)
end slices_stableCmpFunc_hours_step
namespace slices_SortStableFunc_hours_step
noncomputable abbrev con (k : Nat) : Con := ⟨⟨[(0, .l (.row 9000000)), (1, .l (.fn0 67))], [(9000000, .row 136 Y2)]⟩, ⟨[], [(9000000, .row 136 Y2)]⟩, fun x => slices_SortStableFunc_hours_step.f k x⟩
noncomputable abbrev Γ (k : Nat) : FuncId → Option Con := look [(89, slices_stableCmpFunc_hours_step.con k)]
abbrev F : Fin Go.Proofs.Try.prog := ⟨⟨[], [(9000000, .row 136 Y2)]⟩, [9000000], []⟩
noncomputable abbrev Tl (k : Nat) : List (Nat × Hint (prods F.cout.tys)) := []
noncomputable abbrev T (k : Nat) : Nat → Option (Hint (prods F.cout.tys)) := look (Tl k)
noncomputable abbrev body : Code := Go.Proofs.Try.f66.body.getD .skip
theorem main (k : Nat) (x : prods (con 0).cin.tys) : slices_SortStableFunc_hours_step.f k x = goK (Γ k) F (T k) 2000 [.code body] ((con 0).cin.st x) := by kernel_rfl
theorem okΓ (k : Nat) : ΓOk Go.Proofs.Try.prog (Γ k) := Γcons (slices_stableCmpFunc_hours_step.ok k) ⟨Go.Proofs.Try.f89, by kernel_rfl, by kernel_rfl, by kernel_rfl⟩ (Γnil)
theorem ok (k : Nat) : ConSound Go.Proofs.Try.prog 66 (con k) := con_sound (Γ := Γ) (fn := Go.Proofs.Try.f66) (body := body) (cin := (con 0).cin) (F := F) (T := T) follows (by kernel_rfl) (by kernel_rfl) (by kernel_rfl) (by kernel_rfl) (by kernel_rfl) (by decide +kernel) (by kernel_rfl) (by kernel_rfl) (tzero trivial) k (fun m _ => okΓ m) (fun m _ => tstep trivial) (fun x y h => (main k x).symm.trans h)
end slices_SortStableFunc_hours_step
namespace offer_Cost
noncomputable abbrev con (k : Nat) : Con := ⟨⟨[(0, .av Y1), (1, .l (.val (.int .i64)))], []⟩, ⟨[(0, .l (.val (.int .i64))), (1, .l (.val (.int .i64)))], []⟩, fun x => offer_Cost.f k x.1 x.2⟩
noncomputable abbrev Γ (k : Nat) : FuncId → Option Con := look [(64, offer_Most.con k), (81, offer_Check.con k)]
abbrev F : Fin Go.Proofs.Try.prog := ⟨⟨[(0, .l (.val (.int .i64))), (1, .l (.val (.int .i64)))], []⟩, [], [.tmp 4, .tmp 5]⟩
abbrev c8 : Cut := ⟨[(1, .l (.val (.int .i64))), (7, .l (.val (.int .i64))), (25, .l (.val (.list 72 Y0))), (26, .l (.val (.int .i64))), (27, .l (.val (.int .i64)))], []⟩
noncomputable abbrev Tl (k : Nat) : List (Nat × Hint (prods F.cout.tys)) := [(8, ⟨c8, fun x => offer_Cost.l8 k x.1 x.2.1 x.2.2.1 x.2.2.2.1 x.2.2.2.2⟩)]
noncomputable abbrev T (k : Nat) : Nat → Option (Hint (prods F.cout.tys)) := look (Tl k)
noncomputable abbrev body : Code := Go.Proofs.Try.f62.body.getD .skip
theorem s8 (k : Nat) (x : prods c8.tys) : offer_Cost.l8 (k + 1) x.1 x.2.1 x.2.2.1 x.2.2.2.1 x.2.2.2.2 = segK (Γ k) F (T k) body 8 (c8.st x) := by kernel_rfl
theorem main (k : Nat) (x : prods (con 0).cin.tys) : offer_Cost.f k x.1 x.2 = goK (Γ k) F (T k) 2000 [.code body] ((con 0).cin.st x) := by kernel_rfl
theorem okΓ (k : Nat) : ΓOk Go.Proofs.Try.prog (Γ k) := Γcons (offer_Most.ok k) ⟨Go.Proofs.Try.f64, by kernel_rfl, by kernel_rfl, by kernel_rfl⟩ (Γcons (offer_Check.ok k) ⟨Go.Proofs.Try.f81, by kernel_rfl, by kernel_rfl, by kernel_rfl⟩ (Γnil))
theorem ok (k : Nat) : ConSound Go.Proofs.Try.prog 62 (con k) := con_sound (Γ := Γ) (fn := Go.Proofs.Try.f62) (body := body) (cin := (con 0).cin) (F := F) (T := T) follows (by kernel_rfl) (by kernel_rfl) (by kernel_rfl) (by kernel_rfl) (by kernel_rfl) (by decide +kernel) (by kernel_rfl) (by kernel_rfl) (tzero ⟨fun x => rfl, trivial⟩) k (fun m _ => okΓ m) (fun m _ => tstep ⟨fun x => s8 m x, trivial⟩) (fun x y h => (main k x).symm.trans h)
end offer_Cost
namespace hours_Change
noncomputable abbrev con (k : Nat) : Con := ⟨⟨[(0, .l (.val (.list 28 Y1))), (1, .l (.val (.list 3 (.int .i64)))), (2, .l (.val (.int .i64))), (3, .l (.val (.int .i64)))], []⟩, ⟨[(0, .av Y3), (1, .l (.val (.int .i64)))], []⟩, fun x => hours_Change.f k x.1 x.2.1 x.2.2.1 x.2.2.2⟩
noncomputable abbrev Γ (k : Nat) : FuncId → Option Con := look [(62, offer_Cost.con k), (64, offer_Most.con k), (65, offer_CheckAll.con k), (66, slices_SortStableFunc_hours_step.con k)]
abbrev F : Fin Go.Proofs.Try.prog := ⟨⟨[(0, .av Y3), (1, .l (.val (.int .i64)))], []⟩, [], [.cell 8 80, .tmp 9]⟩
abbrev c7 : Cut := ⟨[(0, .l (.val (.list 28 Y1))), (1, .l (.val (.list 3 (.int .i64)))), (2, .l (.val (.int .i64))), (3, .l (.val (.int .i64))), (8, .l (.ptr 7000000 0)), (47, .l (.val (.list 28 Y1))), (48, .l (.val (.int .i64))), (49, .l (.val (.int .i64)))], [(7000000, .box 80 [.nils, .val (.int .i64)])]⟩
abbrev c17 : Cut := ⟨[(0, .l (.val (.list 28 Y1))), (1, .l (.val (.list 3 (.int .i64)))), (3, .l (.val (.int .i64))), (8, .l (.ptr 7000000 0)), (13, .l (.row 7000502)), (14, .l (.row 7000001)), (15, .l (.val (.int .i64))), (89, .l (.val (.list 28 Y1))), (90, .l (.val (.int .i64))), (91, .l (.val (.int .i64)))], [(7000000, .box 80 [.nils, .val (.int .i64)]), (7000502, .row 136 Y2), (7000001, .row 3 (.int .i64))]⟩
abbrev c24 : Cut := ⟨[(0, .l (.val (.list 28 Y1))), (1, .l (.val (.list 3 (.int .i64)))), (3, .l (.val (.int .i64))), (8, .l (.ptr 7000000 0)), (13, .l (.row 7000502)), (14, .l (.row 7000001)), (15, .l (.val (.int .i64))), (16, .l (.val (.int .i64))), (18, .l (.val (.int .i64))), (19, .l (.val (.int .i64))), (20, .l (.val (.int .i64))), (89, .l (.val (.list 28 Y1))), (90, .l (.val (.int .i64))), (91, .l (.val (.int .i64))), (120, .l (.val (.list 72 Y0))), (121, .l (.val (.int .i64))), (122, .l (.val (.int .i64)))], [(7000000, .box 80 [.nils, .val (.int .i64)]), (7000502, .row 136 Y2), (7000001, .row 3 (.int .i64))]⟩
abbrev c36 : Cut := ⟨[(0, .l (.val (.list 28 Y1))), (1, .l (.val (.list 3 (.int .i64)))), (8, .l (.ptr 7000000 0)), (14, .l (.row 7000001)), (15, .l (.val (.int .i64))), (159, .l (.row 7000502)), (160, .l (.val (.int .i64))), (161, .l (.val (.int .i64)))], [(7000000, .box 80 [.nils, .val (.int .i64)]), (7000001, .row 3 (.int .i64)), (7000502, .row 136 Y2)]⟩
abbrev c45 : Cut := ⟨[(1, .l (.val (.list 3 (.int .i64)))), (8, .l (.ptr 7000000 0)), (14, .l (.row 7000001)), (28, .l (.ptr 7000002 0)), (191, .l (.val (.list 28 Y1))), (192, .l (.val (.int .i64))), (193, .l (.val (.int .i64)))], [(7000000, .box 80 [.nils, .val (.int .i64)]), (7000001, .row 3 (.int .i64)), (7000002, .box 80 [.row 7000003, .val (.int .i64)]), (7000003, .row 3 (.int .i64))]⟩
noncomputable abbrev Tl (k : Nat) : List (Nat × Hint (prods F.cout.tys)) := [(7, ⟨c7, fun x => hours_Change.l7 k x.1 x.2.1 x.2.2.1 x.2.2.2.1 x.2.2.2.2.1 x.2.2.2.2.2.1 x.2.2.2.2.2.2.1 x.2.2.2.2.2.2.2⟩), (17, ⟨c17, fun x => hours_Change.l17 k x.1 x.2.1 x.2.2.1 x.2.2.2.1 x.2.2.2.2.1 x.2.2.2.2.2.1 x.2.2.2.2.2.2.1 x.2.2.2.2.2.2.2.1 x.2.2.2.2.2.2.2.2.1 x.2.2.2.2.2.2.2.2.2⟩), (24, ⟨c24, fun x => hours_Change.l24 k x.1 x.2.1 x.2.2.1 x.2.2.2.1 x.2.2.2.2.1 x.2.2.2.2.2.1 x.2.2.2.2.2.2.1 x.2.2.2.2.2.2.2.1 x.2.2.2.2.2.2.2.2.1 x.2.2.2.2.2.2.2.2.2.1 x.2.2.2.2.2.2.2.2.2.2.1 x.2.2.2.2.2.2.2.2.2.2.2.1 x.2.2.2.2.2.2.2.2.2.2.2.2.1 x.2.2.2.2.2.2.2.2.2.2.2.2.2.1 x.2.2.2.2.2.2.2.2.2.2.2.2.2.2.1 x.2.2.2.2.2.2.2.2.2.2.2.2.2.2.2.1 x.2.2.2.2.2.2.2.2.2.2.2.2.2.2.2.2⟩), (36, ⟨c36, fun x => hours_Change.l36 k x.1 x.2.1 x.2.2.1 x.2.2.2.1 x.2.2.2.2.1 x.2.2.2.2.2.1 x.2.2.2.2.2.2.1 x.2.2.2.2.2.2.2⟩), (45, ⟨c45, fun x => hours_Change.l45 k x.1 x.2.1 x.2.2.1 x.2.2.2.1 x.2.2.2.2.1 x.2.2.2.2.2.1 x.2.2.2.2.2.2.1 x.2.2.2.2.2.2.2⟩)]
noncomputable abbrev T (k : Nat) : Nat → Option (Hint (prods F.cout.tys)) := look (Tl k)
noncomputable abbrev body : Code := Go.Proofs.Try.f33.body.getD .skip
theorem s7 (k : Nat) (x : prods c7.tys) : hours_Change.l7 (k + 1) x.1 x.2.1 x.2.2.1 x.2.2.2.1 x.2.2.2.2.1 x.2.2.2.2.2.1 x.2.2.2.2.2.2.1 x.2.2.2.2.2.2.2 = segK (Γ k) F (T k) body 7 (c7.st x) := by kernel_rfl
theorem s17 (k : Nat) (x : prods c17.tys) : hours_Change.l17 (k + 1) x.1 x.2.1 x.2.2.1 x.2.2.2.1 x.2.2.2.2.1 x.2.2.2.2.2.1 x.2.2.2.2.2.2.1 x.2.2.2.2.2.2.2.1 x.2.2.2.2.2.2.2.2.1 x.2.2.2.2.2.2.2.2.2 = segK (Γ k) F (T k) body 17 (c17.st x) := by kernel_rfl
theorem s24 (k : Nat) (x : prods c24.tys) : hours_Change.l24 (k + 1) x.1 x.2.1 x.2.2.1 x.2.2.2.1 x.2.2.2.2.1 x.2.2.2.2.2.1 x.2.2.2.2.2.2.1 x.2.2.2.2.2.2.2.1 x.2.2.2.2.2.2.2.2.1 x.2.2.2.2.2.2.2.2.2.1 x.2.2.2.2.2.2.2.2.2.2.1 x.2.2.2.2.2.2.2.2.2.2.2.1 x.2.2.2.2.2.2.2.2.2.2.2.2.1 x.2.2.2.2.2.2.2.2.2.2.2.2.2.1 x.2.2.2.2.2.2.2.2.2.2.2.2.2.2.1 x.2.2.2.2.2.2.2.2.2.2.2.2.2.2.2.1 x.2.2.2.2.2.2.2.2.2.2.2.2.2.2.2.2 = segK (Γ k) F (T k) body 24 (c24.st x) := by kernel_rfl
theorem s36 (k : Nat) (x : prods c36.tys) : hours_Change.l36 (k + 1) x.1 x.2.1 x.2.2.1 x.2.2.2.1 x.2.2.2.2.1 x.2.2.2.2.2.1 x.2.2.2.2.2.2.1 x.2.2.2.2.2.2.2 = segK (Γ k) F (T k) body 36 (c36.st x) := by kernel_rfl
theorem s45 (k : Nat) (x : prods c45.tys) : hours_Change.l45 (k + 1) x.1 x.2.1 x.2.2.1 x.2.2.2.1 x.2.2.2.2.1 x.2.2.2.2.2.1 x.2.2.2.2.2.2.1 x.2.2.2.2.2.2.2 = segK (Γ k) F (T k) body 45 (c45.st x) := by kernel_rfl
theorem main (k : Nat) (x : prods (con 0).cin.tys) : hours_Change.f k x.1 x.2.1 x.2.2.1 x.2.2.2 = goK (Γ k) F (T k) 2000 [.code body] ((con 0).cin.st x) := by kernel_rfl
theorem okΓ (k : Nat) : ΓOk Go.Proofs.Try.prog (Γ k) := Γcons (offer_Cost.ok k) ⟨Go.Proofs.Try.f62, by kernel_rfl, by kernel_rfl, by kernel_rfl⟩ (Γcons (offer_Most.ok k) ⟨Go.Proofs.Try.f64, by kernel_rfl, by kernel_rfl, by kernel_rfl⟩ (Γcons (offer_CheckAll.ok k) ⟨Go.Proofs.Try.f65, by kernel_rfl, by kernel_rfl, by kernel_rfl⟩ (Γcons (slices_SortStableFunc_hours_step.ok k) ⟨Go.Proofs.Try.f66, by kernel_rfl, by kernel_rfl, by kernel_rfl⟩ (Γnil))))
theorem ok (k : Nat) : ConSound Go.Proofs.Try.prog 33 (con k) := con_sound (Γ := Γ) (fn := Go.Proofs.Try.f33) (body := body) (cin := (con 0).cin) (F := F) (T := T) follows (by kernel_rfl) (by kernel_rfl) (by kernel_rfl) (by kernel_rfl) (by kernel_rfl) (by decide +kernel) (by kernel_rfl) (by kernel_rfl) (tzero ⟨fun x => rfl, fun x => rfl, fun x => rfl, fun x => rfl, fun x => rfl, trivial⟩) k (fun m _ => okΓ m) (fun m _ => tstep ⟨fun x => s7 m x, fun x => s17 m x, fun x => s24 m x, fun x => s36 m x, fun x => s45 m x, trivial⟩) (fun x y h => (main k x).symm.trans h)
end hours_Change
namespace dispatch_sum
noncomputable abbrev con (k : Nat) : Con := ⟨⟨[(0, .l (.val (.list 28 Y1)))], []⟩, ⟨[(0, .l (.val (.int .i64)))], []⟩, fun x => dispatch_sum.f k x⟩
noncomputable abbrev Γ (k : Nat) : FuncId → Option Con := look [(64, offer_Most.con k)]
abbrev F : Fin Go.Proofs.Try.prog := ⟨⟨[(0, .l (.val (.int .i64)))], []⟩, [], [.tmp 2]⟩
abbrev c3 : Cut := ⟨[(3, .l (.val (.int .i64))), (6, .l (.val (.list 28 Y1))), (7, .l (.val (.int .i64))), (8, .l (.val (.int .i64)))], []⟩
noncomputable abbrev Tl (k : Nat) : List (Nat × Hint (prods F.cout.tys)) := [(3, ⟨c3, fun x => dispatch_sum.l3 k x.1 x.2.1 x.2.2.1 x.2.2.2⟩)]
noncomputable abbrev T (k : Nat) : Nat → Option (Hint (prods F.cout.tys)) := look (Tl k)
noncomputable abbrev body : Code := Go.Proofs.Try.f91.body.getD .skip
theorem s3 (k : Nat) (x : prods c3.tys) : dispatch_sum.l3 (k + 1) x.1 x.2.1 x.2.2.1 x.2.2.2 = segK (Γ k) F (T k) body 3 (c3.st x) := by kernel_rfl
theorem main (k : Nat) (x : prods (con 0).cin.tys) : dispatch_sum.f k x = goK (Γ k) F (T k) 2000 [.code body] ((con 0).cin.st x) := by kernel_rfl
theorem okΓ (k : Nat) : ΓOk Go.Proofs.Try.prog (Γ k) := Γcons (offer_Most.ok k) ⟨Go.Proofs.Try.f64, by kernel_rfl, by kernel_rfl, by kernel_rfl⟩ (Γnil)
theorem ok (k : Nat) : ConSound Go.Proofs.Try.prog 91 (con k) := con_sound (Γ := Γ) (fn := Go.Proofs.Try.f91) (body := body) (cin := (con 0).cin) (F := F) (T := T) follows (by kernel_rfl) (by kernel_rfl) (by kernel_rfl) (by kernel_rfl) (by kernel_rfl) (by decide +kernel) (by kernel_rfl) (by kernel_rfl) (tzero ⟨fun x => rfl, trivial⟩) k (fun m _ => okΓ m) (fun m _ => tstep ⟨fun x => s3 m x, trivial⟩) (fun x y h => (main k x).symm.trans h)
end dispatch_sum
namespace dispatch_check
noncomputable abbrev con (k : Nat) : Con := ⟨⟨[(0, .l (.val (.list 28 Y1))), (1, .l (.val (.int .i64)))], []⟩, ⟨[(0, .l (.val (.int .i64)))], []⟩, fun x => dispatch_check.f k x.1 x.2⟩
noncomputable abbrev Γ (k : Nat) : FuncId → Option Con := look [(65, offer_CheckAll.con k), (91, dispatch_sum.con k)]
abbrev F : Fin Go.Proofs.Try.prog := ⟨⟨[(0, .l (.val (.int .i64)))], []⟩, [], [.tmp 4]⟩
noncomputable abbrev Tl (k : Nat) : List (Nat × Hint (prods F.cout.tys)) := []
noncomputable abbrev T (k : Nat) : Nat → Option (Hint (prods F.cout.tys)) := look (Tl k)
noncomputable abbrev body : Code := Go.Proofs.Try.f69.body.getD .skip
theorem main (k : Nat) (x : prods (con 0).cin.tys) : dispatch_check.f k x.1 x.2 = goK (Γ k) F (T k) 2000 [.code body] ((con 0).cin.st x) := by kernel_rfl
theorem okΓ (k : Nat) : ΓOk Go.Proofs.Try.prog (Γ k) := Γcons (offer_CheckAll.ok k) ⟨Go.Proofs.Try.f65, by kernel_rfl, by kernel_rfl, by kernel_rfl⟩ (Γcons (dispatch_sum.ok k) ⟨Go.Proofs.Try.f91, by kernel_rfl, by kernel_rfl, by kernel_rfl⟩ (Γnil))
theorem ok (k : Nat) : ConSound Go.Proofs.Try.prog 69 (con k) := con_sound (Γ := Γ) (fn := Go.Proofs.Try.f69) (body := body) (cin := (con 0).cin) (F := F) (T := T) follows (by kernel_rfl) (by kernel_rfl) (by kernel_rfl) (by kernel_rfl) (by kernel_rfl) (by decide +kernel) (by kernel_rfl) (by kernel_rfl) (tzero trivial) k (fun m _ => okΓ m) (fun m _ => tstep trivial) (fun x y h => (main k x).symm.trans h)
end dispatch_check
namespace dispatch_offered
noncomputable abbrev con (k : Nat) : Con := ⟨⟨[(0, .l (.val (.list 28 Y1))), (1, .l (.val (.int .i64))), (2, .l (.val .bool))], []⟩, ⟨[(0, .l (.val (.int .i64)))], []⟩, fun x => dispatch_offered.f k x.1 x.2.1 x.2.2⟩
noncomputable abbrev Γ (k : Nat) : FuncId → Option Con := look []
abbrev F : Fin Go.Proofs.Try.prog := ⟨⟨[(0, .l (.val (.int .i64)))], []⟩, [], [.tmp 6]⟩
abbrev c3 : Cut := ⟨[(1, .l (.val (.int .i64))), (2, .l (.val .bool)), (7, .l (.val (.int .i64))), (12, .l (.val (.list 28 Y1))), (13, .l (.val (.int .i64))), (14, .l (.val (.int .i64)))], []⟩
abbrev c6 : Cut := ⟨[(1, .l (.val (.int .i64))), (2, .l (.val .bool)), (7, .l (.val (.int .i64))), (12, .l (.val (.list 28 Y1))), (13, .l (.val (.int .i64))), (14, .l (.val (.int .i64))), (19, .l (.val (.list 72 Y0))), (20, .l (.val (.int .i64))), (21, .l (.val (.int .i64)))], []⟩
noncomputable abbrev Tl (k : Nat) : List (Nat × Hint (prods F.cout.tys)) := [(3, ⟨c3, fun x => dispatch_offered.l3 k x.1 x.2.1 x.2.2.1 x.2.2.2.1 x.2.2.2.2.1 x.2.2.2.2.2⟩), (6, ⟨c6, fun x => dispatch_offered.l6 k x.1 x.2.1 x.2.2.1 x.2.2.2.1 x.2.2.2.2.1 x.2.2.2.2.2.1 x.2.2.2.2.2.2.1 x.2.2.2.2.2.2.2.1 x.2.2.2.2.2.2.2.2⟩)]
noncomputable abbrev T (k : Nat) : Nat → Option (Hint (prods F.cout.tys)) := look (Tl k)
noncomputable abbrev body : Code := Go.Proofs.Try.f71.body.getD .skip
theorem s3 (k : Nat) (x : prods c3.tys) : dispatch_offered.l3 (k + 1) x.1 x.2.1 x.2.2.1 x.2.2.2.1 x.2.2.2.2.1 x.2.2.2.2.2 = segK (Γ k) F (T k) body 3 (c3.st x) := by kernel_rfl
theorem s6 (k : Nat) (x : prods c6.tys) : dispatch_offered.l6 (k + 1) x.1 x.2.1 x.2.2.1 x.2.2.2.1 x.2.2.2.2.1 x.2.2.2.2.2.1 x.2.2.2.2.2.2.1 x.2.2.2.2.2.2.2.1 x.2.2.2.2.2.2.2.2 = segK (Γ k) F (T k) body 6 (c6.st x) := by kernel_rfl
theorem main (k : Nat) (x : prods (con 0).cin.tys) : dispatch_offered.f k x.1 x.2.1 x.2.2 = goK (Γ k) F (T k) 2000 [.code body] ((con 0).cin.st x) := by kernel_rfl
theorem okΓ (k : Nat) : ΓOk Go.Proofs.Try.prog (Γ k) := Γnil
theorem ok (k : Nat) : ConSound Go.Proofs.Try.prog 71 (con k) := con_sound (Γ := Γ) (fn := Go.Proofs.Try.f71) (body := body) (cin := (con 0).cin) (F := F) (T := T) follows (by kernel_rfl) (by kernel_rfl) (by kernel_rfl) (by kernel_rfl) (by kernel_rfl) (by decide +kernel) (by kernel_rfl) (by kernel_rfl) (tzero ⟨fun x => rfl, fun x => rfl, trivial⟩) k (fun m _ => okΓ m) (fun m _ => tstep ⟨fun x => s3 m x, fun x => s6 m x, trivial⟩) (fun x y h => (main k x).symm.trans h)
end dispatch_offered
namespace dispatch_marginal
noncomputable abbrev con (k : Nat) : Con := ⟨⟨[(0, .l (.val (.list 28 Y1))), (1, .l (.val (.int .i64)))], []⟩, ⟨[(0, .l (.val (.int .i64)))], []⟩, fun x => dispatch_marginal.f k x.1 x.2⟩
noncomputable abbrev Γ (k : Nat) : FuncId → Option Con := look [(71, dispatch_offered.con k)]
abbrev F : Fin Go.Proofs.Try.prog := ⟨⟨[(0, .l (.val (.int .i64)))], []⟩, [], [.tmp 4]⟩
abbrev c3 : Cut := ⟨[(0, .l (.val (.list 28 Y1))), (1, .l (.val (.int .i64))), (5, .l (.val (.int .i64))), (10, .l (.val (.list 28 Y1))), (11, .l (.val (.int .i64))), (12, .l (.val (.int .i64)))], []⟩
abbrev c6 : Cut := ⟨[(0, .l (.val (.list 28 Y1))), (1, .l (.val (.int .i64))), (5, .l (.val (.int .i64))), (10, .l (.val (.list 28 Y1))), (11, .l (.val (.int .i64))), (12, .l (.val (.int .i64))), (17, .l (.val (.list 72 Y0))), (18, .l (.val (.int .i64))), (19, .l (.val (.int .i64)))], []⟩
noncomputable abbrev Tl (k : Nat) : List (Nat × Hint (prods F.cout.tys)) := [(3, ⟨c3, fun x => dispatch_marginal.l3 k x.1 x.2.1 x.2.2.1 x.2.2.2.1 x.2.2.2.2.1 x.2.2.2.2.2⟩), (6, ⟨c6, fun x => dispatch_marginal.l6 k x.1 x.2.1 x.2.2.1 x.2.2.2.1 x.2.2.2.2.1 x.2.2.2.2.2.1 x.2.2.2.2.2.2.1 x.2.2.2.2.2.2.2.1 x.2.2.2.2.2.2.2.2⟩)]
noncomputable abbrev T (k : Nat) : Nat → Option (Hint (prods F.cout.tys)) := look (Tl k)
noncomputable abbrev body : Code := Go.Proofs.Try.f70.body.getD .skip
theorem s3 (k : Nat) (x : prods c3.tys) : dispatch_marginal.l3 (k + 1) x.1 x.2.1 x.2.2.1 x.2.2.2.1 x.2.2.2.2.1 x.2.2.2.2.2 = segK (Γ k) F (T k) body 3 (c3.st x) := by kernel_rfl
theorem s6 (k : Nat) (x : prods c6.tys) : dispatch_marginal.l6 (k + 1) x.1 x.2.1 x.2.2.1 x.2.2.2.1 x.2.2.2.2.1 x.2.2.2.2.2.1 x.2.2.2.2.2.2.1 x.2.2.2.2.2.2.2.1 x.2.2.2.2.2.2.2.2 = segK (Γ k) F (T k) body 6 (c6.st x) := by kernel_rfl
theorem main (k : Nat) (x : prods (con 0).cin.tys) : dispatch_marginal.f k x.1 x.2 = goK (Γ k) F (T k) 2000 [.code body] ((con 0).cin.st x) := by kernel_rfl
theorem okΓ (k : Nat) : ΓOk Go.Proofs.Try.prog (Γ k) := Γcons (dispatch_offered.ok k) ⟨Go.Proofs.Try.f71, by kernel_rfl, by kernel_rfl, by kernel_rfl⟩ (Γnil)
theorem ok (k : Nat) : ConSound Go.Proofs.Try.prog 70 (con k) := con_sound (Γ := Γ) (fn := Go.Proofs.Try.f70) (body := body) (cin := (con 0).cin) (F := F) (T := T) follows (by kernel_rfl) (by kernel_rfl) (by kernel_rfl) (by kernel_rfl) (by kernel_rfl) (by decide +kernel) (by kernel_rfl) (by kernel_rfl) (tzero ⟨fun x => rfl, fun x => rfl, trivial⟩) k (fun m _ => okΓ m) (fun m _ => tstep ⟨fun x => s3 m x, fun x => s6 m x, trivial⟩) (fun x y h => (main k x).symm.trans h)
end dispatch_marginal
namespace offer_Supply
noncomputable abbrev con (k : Nat) : Con := ⟨⟨[(0, .av Y1), (1, .l (.val (.int .i64)))], []⟩, ⟨[(0, .l (.val (.int .i64))), (1, .l (.val (.int .i64))), (2, .l (.val (.int .i64)))], []⟩, fun x => offer_Supply.f k x.1 x.2⟩
noncomputable abbrev Γ (k : Nat) : FuncId → Option Con := look [(81, offer_Check.con k)]
abbrev F : Fin Go.Proofs.Try.prog := ⟨⟨[(0, .l (.val (.int .i64))), (1, .l (.val (.int .i64))), (2, .l (.val (.int .i64)))], []⟩, [], [.tmp 4, .tmp 5, .tmp 6]⟩
abbrev c8 : Cut := ⟨[(1, .l (.val (.int .i64))), (8, .l (.val (.int .i64))), (9, .l (.val (.int .i64))), (24, .l (.val (.list 72 Y0))), (25, .l (.val (.int .i64))), (26, .l (.val (.int .i64)))], []⟩
abbrev c12 : Cut := ⟨[(1, .l (.val (.int .i64))), (8, .l (.val (.int .i64))), (9, .l (.val (.int .i64))), (11, .l (.ptr 7000000 0)), (24, .l (.val (.list 72 Y0))), (25, .l (.val (.int .i64))), (26, .l (.val (.int .i64)))], [(7000000, .box 72 [.val (.int .i64), .val (.int .i64)])]⟩
noncomputable abbrev Tl (k : Nat) : List (Nat × Hint (prods F.cout.tys)) := [(8, ⟨c8, fun x => offer_Supply.l8 k x.1 x.2.1 x.2.2.1 x.2.2.2.1 x.2.2.2.2.1 x.2.2.2.2.2⟩), (12, ⟨c12, fun x => offer_Supply.l12 k x.1 x.2.1 x.2.2.1 x.2.2.2.1 x.2.2.2.2.1 x.2.2.2.2.2.1 x.2.2.2.2.2.2.1 x.2.2.2.2.2.2.2⟩)]
noncomputable abbrev T (k : Nat) : Nat → Option (Hint (prods F.cout.tys)) := look (Tl k)
noncomputable abbrev body : Code := Go.Proofs.Try.f72.body.getD .skip
theorem s8 (k : Nat) (x : prods c8.tys) : offer_Supply.l8 (k + 1) x.1 x.2.1 x.2.2.1 x.2.2.2.1 x.2.2.2.2.1 x.2.2.2.2.2 = segK (Γ k) F (T k) body 8 (c8.st x) := by kernel_rfl
theorem s12 (k : Nat) (x : prods c12.tys) : offer_Supply.l12 (k + 1) x.1 x.2.1 x.2.2.1 x.2.2.2.1 x.2.2.2.2.1 x.2.2.2.2.2.1 x.2.2.2.2.2.2.1 x.2.2.2.2.2.2.2 = segK (Γ k) F (T k) body 12 (c12.st x) := by kernel_rfl
theorem main (k : Nat) (x : prods (con 0).cin.tys) : offer_Supply.f k x.1 x.2 = goK (Γ k) F (T k) 2000 [.code body] ((con 0).cin.st x) := by kernel_rfl
theorem okΓ (k : Nat) : ΓOk Go.Proofs.Try.prog (Γ k) := Γcons (offer_Check.ok k) ⟨Go.Proofs.Try.f81, by kernel_rfl, by kernel_rfl, by kernel_rfl⟩ (Γnil)
theorem ok (k : Nat) : ConSound Go.Proofs.Try.prog 72 (con k) := con_sound (Γ := Γ) (fn := Go.Proofs.Try.f72) (body := body) (cin := (con 0).cin) (F := F) (T := T) follows (by kernel_rfl) (by kernel_rfl) (by kernel_rfl) (by kernel_rfl) (by kernel_rfl) (by decide +kernel) (by kernel_rfl) (by kernel_rfl) (tzero ⟨fun x => rfl, fun x => rfl, trivial⟩) k (fun m _ => okΓ m) (fun m _ => tstep ⟨fun x => s8 m x, fun x => s12 m x, trivial⟩) (fun x y h => (main k x).symm.trans h)
end offer_Supply
namespace dispatch_costs
noncomputable abbrev con (k : Nat) : Con := ⟨⟨[(0, .l (.val (.list 28 Y1))), (1, .l (.val (.list 3 (.int .i64))))], []⟩, ⟨[(0, .l (.val (.list 3 (.int .i64)))), (1, .l (.val (.int .i64))), (2, .l (.val (.int .i64)))], []⟩, fun x => dispatch_costs.f k x.1 x.2⟩
noncomputable abbrev Γ (k : Nat) : FuncId → Option Con := look [(62, offer_Cost.con k)]
abbrev F : Fin Go.Proofs.Try.prog := ⟨⟨[(0, .l (.val (.list 3 (.int .i64)))), (1, .l (.val (.int .i64))), (2, .l (.val (.int .i64)))], []⟩, [], [.tmp 4, .tmp 5, .tmp 6]⟩
abbrev c3 : Cut := ⟨[(1, .l (.val (.list 3 (.int .i64)))), (7, .l (.val (.int .i64))), (12, .l (.val (.list 28 Y1))), (13, .l (.val (.int .i64))), (14, .l (.val (.int .i64)))], []⟩
noncomputable abbrev Tl (k : Nat) : List (Nat × Hint (prods F.cout.tys)) := [(3, ⟨c3, fun x => dispatch_costs.l3 k x.1 x.2.1 x.2.2.1 x.2.2.2.1 x.2.2.2.2⟩)]
noncomputable abbrev T (k : Nat) : Nat → Option (Hint (prods F.cout.tys)) := look (Tl k)
noncomputable abbrev body : Code := Go.Proofs.Try.f73.body.getD .skip
theorem s3 (k : Nat) (x : prods c3.tys) : dispatch_costs.l3 (k + 1) x.1 x.2.1 x.2.2.1 x.2.2.2.1 x.2.2.2.2 = segK (Γ k) F (T k) body 3 (c3.st x) := by kernel_rfl
theorem main (k : Nat) (x : prods (con 0).cin.tys) : dispatch_costs.f k x.1 x.2 = goK (Γ k) F (T k) 2000 [.code body] ((con 0).cin.st x) := by kernel_rfl
theorem okΓ (k : Nat) : ΓOk Go.Proofs.Try.prog (Γ k) := Γcons (offer_Cost.ok k) ⟨Go.Proofs.Try.f62, by kernel_rfl, by kernel_rfl, by kernel_rfl⟩ (Γnil)
theorem ok (k : Nat) : ConSound Go.Proofs.Try.prog 73 (con k) := con_sound (Γ := Γ) (fn := Go.Proofs.Try.f73) (body := body) (cin := (con 0).cin) (F := F) (T := T) follows (by kernel_rfl) (by kernel_rfl) (by kernel_rfl) (by kernel_rfl) (by kernel_rfl) (by decide +kernel) (by kernel_rfl) (by kernel_rfl) (tzero ⟨fun x => rfl, trivial⟩) k (fun m _ => okΓ m) (fun m _ => tstep ⟨fun x => s3 m x, trivial⟩) (fun x y h => (main k x).symm.trans h)
end dispatch_costs
namespace dispatch_Best
noncomputable abbrev con (k : Nat) : Con := ⟨⟨[(0, .l (.val (.list 28 Y1))), (1, .l (.val (.int .i64)))], []⟩, ⟨[(0, .l (.val (.list 3 (.int .i64)))), (1, .l (.val (.int .i64))), (2, .l (.val (.int .i64)))], []⟩, fun x => dispatch_Best.f k x.1 x.2⟩
noncomputable abbrev Γ (k : Nat) : FuncId → Option Con := look [(69, dispatch_check.con k), (70, dispatch_marginal.con k), (71, dispatch_offered.con k), (72, offer_Supply.con k), (73, dispatch_costs.con k)]
abbrev F : Fin Go.Proofs.Try.prog := ⟨⟨[(0, .l (.val (.list 3 (.int .i64)))), (1, .l (.val (.int .i64))), (2, .l (.val (.int .i64)))], []⟩, [], [.tmp 4, .tmp 5, .tmp 6]⟩
abbrev c10 : Cut := ⟨[(0, .l (.val (.list 28 Y1))), (8, .l (.row 7000000)), (9, .l (.val (.int .i64))), (10, .l (.val (.int .i64))), (37, .l (.val (.list 28 Y1))), (38, .l (.val (.int .i64))), (39, .l (.val (.int .i64)))], [(7000000, .row 3 (.int .i64))]⟩
noncomputable abbrev Tl (k : Nat) : List (Nat × Hint (prods F.cout.tys)) := [(10, ⟨c10, fun x => dispatch_Best.l10 k x.1 x.2.1 x.2.2.1 x.2.2.2.1 x.2.2.2.2.1 x.2.2.2.2.2.1 x.2.2.2.2.2.2⟩)]
noncomputable abbrev T (k : Nat) : Nat → Option (Hint (prods F.cout.tys)) := look (Tl k)
noncomputable abbrev body : Code := Go.Proofs.Try.f35.body.getD .skip
theorem s10 (k : Nat) (x : prods c10.tys) : dispatch_Best.l10 (k + 1) x.1 x.2.1 x.2.2.1 x.2.2.2.1 x.2.2.2.2.1 x.2.2.2.2.2.1 x.2.2.2.2.2.2 = segK (Γ k) F (T k) body 10 (c10.st x) := by kernel_rfl
theorem main (k : Nat) (x : prods (con 0).cin.tys) : dispatch_Best.f k x.1 x.2 = goK (Γ k) F (T k) 2000 [.code body] ((con 0).cin.st x) := by kernel_rfl
theorem okΓ (k : Nat) : ΓOk Go.Proofs.Try.prog (Γ k) := Γcons (dispatch_check.ok k) ⟨Go.Proofs.Try.f69, by kernel_rfl, by kernel_rfl, by kernel_rfl⟩ (Γcons (dispatch_marginal.ok k) ⟨Go.Proofs.Try.f70, by kernel_rfl, by kernel_rfl, by kernel_rfl⟩ (Γcons (dispatch_offered.ok k) ⟨Go.Proofs.Try.f71, by kernel_rfl, by kernel_rfl, by kernel_rfl⟩ (Γcons (offer_Supply.ok k) ⟨Go.Proofs.Try.f72, by kernel_rfl, by kernel_rfl, by kernel_rfl⟩ (Γcons (dispatch_costs.ok k) ⟨Go.Proofs.Try.f73, by kernel_rfl, by kernel_rfl, by kernel_rfl⟩ (Γnil)))))
theorem ok (k : Nat) : ConSound Go.Proofs.Try.prog 35 (con k) := con_sound (Γ := Γ) (fn := Go.Proofs.Try.f35) (body := body) (cin := (con 0).cin) (F := F) (T := T) follows (by kernel_rfl) (by kernel_rfl) (by kernel_rfl) (by kernel_rfl) (by kernel_rfl) (by decide +kernel) (by kernel_rfl) (by kernel_rfl) (tzero ⟨fun x => rfl, trivial⟩) k (fun m _ => okΓ m) (fun m _ => tstep ⟨fun x => s10 m x, trivial⟩) (fun x y h => (main k x).symm.trans h)
end dispatch_Best
namespace dispatch_Cost
noncomputable abbrev con (k : Nat) : Con := ⟨⟨[(0, .l (.val (.list 28 Y1))), (1, .l (.val (.list 3 (.int .i64))))], []⟩, ⟨[(0, .l (.val (.int .i64))), (1, .l (.val (.int .i64))), (2, .l (.val (.int .i64)))], []⟩, fun x => dispatch_Cost.f k x.1 x.2⟩
noncomputable abbrev Γ (k : Nat) : FuncId → Option Con := look [(62, offer_Cost.con k), (65, offer_CheckAll.con k)]
abbrev F : Fin Go.Proofs.Try.prog := ⟨⟨[(0, .l (.val (.int .i64))), (1, .l (.val (.int .i64))), (2, .l (.val (.int .i64)))], []⟩, [], [.tmp 4, .tmp 5, .tmp 6]⟩
abbrev c8 : Cut := ⟨[(1, .l (.val (.list 3 (.int .i64)))), (8, .l (.val (.int .i64))), (9, .l (.val (.int .i64))), (24, .l (.val (.list 28 Y1))), (25, .l (.val (.int .i64))), (26, .l (.val (.int .i64)))], []⟩
noncomputable abbrev Tl (k : Nat) : List (Nat × Hint (prods F.cout.tys)) := [(8, ⟨c8, fun x => dispatch_Cost.l8 k x.1 x.2.1 x.2.2.1 x.2.2.2.1 x.2.2.2.2.1 x.2.2.2.2.2⟩)]
noncomputable abbrev T (k : Nat) : Nat → Option (Hint (prods F.cout.tys)) := look (Tl k)
noncomputable abbrev body : Code := Go.Proofs.Try.f36.body.getD .skip
theorem s8 (k : Nat) (x : prods c8.tys) : dispatch_Cost.l8 (k + 1) x.1 x.2.1 x.2.2.1 x.2.2.2.1 x.2.2.2.2.1 x.2.2.2.2.2 = segK (Γ k) F (T k) body 8 (c8.st x) := by kernel_rfl
theorem main (k : Nat) (x : prods (con 0).cin.tys) : dispatch_Cost.f k x.1 x.2 = goK (Γ k) F (T k) 2000 [.code body] ((con 0).cin.st x) := by kernel_rfl
theorem okΓ (k : Nat) : ΓOk Go.Proofs.Try.prog (Γ k) := Γcons (offer_Cost.ok k) ⟨Go.Proofs.Try.f62, by kernel_rfl, by kernel_rfl, by kernel_rfl⟩ (Γcons (offer_CheckAll.ok k) ⟨Go.Proofs.Try.f65, by kernel_rfl, by kernel_rfl, by kernel_rfl⟩ (Γnil))
theorem ok (k : Nat) : ConSound Go.Proofs.Try.prog 36 (con k) := con_sound (Γ := Γ) (fn := Go.Proofs.Try.f36) (body := body) (cin := (con 0).cin) (F := F) (T := T) follows (by kernel_rfl) (by kernel_rfl) (by kernel_rfl) (by kernel_rfl) (by kernel_rfl) (by decide +kernel) (by kernel_rfl) (by kernel_rfl) (tzero ⟨fun x => rfl, trivial⟩) k (fun m _ => okΓ m) (fun m _ => tstep ⟨fun x => s8 m x, trivial⟩) (fun x y h => (main k x).symm.trans h)
end dispatch_Cost
namespace gridhallkeep3_fine_1
noncomputable abbrev con (k : Nat) : Con := ⟨⟨[(0, .l (.val (.int .i64)))], []⟩, ⟨[(0, .l (.val .bool))], []⟩, fun x => gridhallkeep3_fine_1.f k x⟩
noncomputable abbrev Γ (k : Nat) : FuncId → Option Con := look []
abbrev F : Fin Go.Proofs.Try.prog := ⟨⟨[(0, .l (.val .bool))], []⟩, [], [.tmp 2]⟩
noncomputable abbrev Tl (k : Nat) : List (Nat × Hint (prods F.cout.tys)) := []
noncomputable abbrev T (k : Nat) : Nat → Option (Hint (prods F.cout.tys)) := look (Tl k)
noncomputable abbrev body : Code := Go.Proofs.Try.f52.body.getD .skip
theorem main (k : Nat) (x : prods (con 0).cin.tys) : gridhallkeep3_fine_1.f k x = goK (Γ k) F (T k) 2000 [.code body] ((con 0).cin.st x) := by kernel_rfl
theorem okΓ (k : Nat) : ΓOk Go.Proofs.Try.prog (Γ k) := Γnil
theorem ok (k : Nat) : ConSound Go.Proofs.Try.prog 52 (con k) := con_sound (Γ := Γ) (fn := Go.Proofs.Try.f52) (body := body) (cin := (con 0).cin) (F := F) (T := T) follows (by kernel_rfl) (by kernel_rfl) (by kernel_rfl) (by kernel_rfl) (by kernel_rfl) (by decide +kernel) (by kernel_rfl) (by kernel_rfl) (tzero trivial) k (fun m _ => okΓ m) (fun m _ => tstep trivial) (fun x y h => (main k x).symm.trans h)
end gridhallkeep3_fine_1
namespace slices_IndexFunc_api_Errno
noncomputable abbrev con (k : Nat) : Con := ⟨⟨[(0, .l (.val (.list 35 (.int .i64)))), (1, .l (.fn0 52))], []⟩, ⟨[(0, .l (.val (.int .i64)))], []⟩, fun x => slices_IndexFunc_api_Errno.f k x⟩
noncomputable abbrev Γ (k : Nat) : FuncId → Option Con := look [(52, gridhallkeep3_fine_1.con k)]
abbrev F : Fin Go.Proofs.Try.prog := ⟨⟨[(0, .l (.val (.int .i64)))], []⟩, [], [.tmp 4]⟩
abbrev c2 : Cut := ⟨[(0, .l (.val (.list 35 (.int .i64)))), (1, .l (.fn0 52)), (7, .l (.val (.int .i64))), (8, .l (.val (.int .i64)))], []⟩
noncomputable abbrev Tl (k : Nat) : List (Nat × Hint (prods F.cout.tys)) := [(2, ⟨c2, fun x => slices_IndexFunc_api_Errno.l2 k x.1 x.2.1 x.2.2⟩)]
noncomputable abbrev T (k : Nat) : Nat → Option (Hint (prods F.cout.tys)) := look (Tl k)
noncomputable abbrev body : Code := Go.Proofs.Try.f86.body.getD .skip
theorem s2 (k : Nat) (x : prods c2.tys) : slices_IndexFunc_api_Errno.l2 (k + 1) x.1 x.2.1 x.2.2 = segK (Γ k) F (T k) body 2 (c2.st x) := by kernel_rfl
theorem main (k : Nat) (x : prods (con 0).cin.tys) : slices_IndexFunc_api_Errno.f k x = goK (Γ k) F (T k) 2000 [.code body] ((con 0).cin.st x) := by kernel_rfl
theorem okΓ (k : Nat) : ΓOk Go.Proofs.Try.prog (Γ k) := Γcons (gridhallkeep3_fine_1.ok k) ⟨Go.Proofs.Try.f52, by kernel_rfl, by kernel_rfl, by kernel_rfl⟩ (Γnil)
theorem ok (k : Nat) : ConSound Go.Proofs.Try.prog 86 (con k) := con_sound (Γ := Γ) (fn := Go.Proofs.Try.f86) (body := body) (cin := (con 0).cin) (F := F) (T := T) follows (by kernel_rfl) (by kernel_rfl) (by kernel_rfl) (by kernel_rfl) (by kernel_rfl) (by decide +kernel) (by kernel_rfl) (by kernel_rfl) (tzero ⟨fun x => rfl, trivial⟩) k (fun m _ => okΓ m) (fun m _ => tstep ⟨fun x => s2 m x, trivial⟩) (fun x y h => (main k x).symm.trans h)
end slices_IndexFunc_api_Errno
namespace slices_ContainsFunc_api_Errno
noncomputable abbrev con (k : Nat) : Con := ⟨⟨[(0, .l (.val (.list 35 (.int .i64)))), (1, .l (.fn0 52))], []⟩, ⟨[(0, .l (.val .bool))], []⟩, fun x => slices_ContainsFunc_api_Errno.f k x⟩
noncomputable abbrev Γ (k : Nat) : FuncId → Option Con := look [(86, slices_IndexFunc_api_Errno.con k)]
abbrev F : Fin Go.Proofs.Try.prog := ⟨⟨[(0, .l (.val .bool))], []⟩, [], [.tmp 4]⟩
noncomputable abbrev Tl (k : Nat) : List (Nat × Hint (prods F.cout.tys)) := []
noncomputable abbrev T (k : Nat) : Nat → Option (Hint (prods F.cout.tys)) := look (Tl k)
noncomputable abbrev body : Code := Go.Proofs.Try.f51.body.getD .skip
theorem main (k : Nat) (x : prods (con 0).cin.tys) : slices_ContainsFunc_api_Errno.f k x = goK (Γ k) F (T k) 2000 [.code body] ((con 0).cin.st x) := by kernel_rfl
theorem okΓ (k : Nat) : ΓOk Go.Proofs.Try.prog (Γ k) := Γcons (slices_IndexFunc_api_Errno.ok k) ⟨Go.Proofs.Try.f86, by kernel_rfl, by kernel_rfl, by kernel_rfl⟩ (Γnil)
theorem ok (k : Nat) : ConSound Go.Proofs.Try.prog 51 (con k) := con_sound (Γ := Γ) (fn := Go.Proofs.Try.f51) (body := body) (cin := (con 0).cin) (F := F) (T := T) follows (by kernel_rfl) (by kernel_rfl) (by kernel_rfl) (by kernel_rfl) (by kernel_rfl) (by decide +kernel) (by kernel_rfl) (by kernel_rfl) (tzero trivial) k (fun m _ => okΓ m) (fun m _ => tstep trivial) (fun x y h => (main k x).symm.trans h)
end slices_ContainsFunc_api_Errno
namespace gridhallkeep3_fine
noncomputable abbrev con (k : Nat) : Con := ⟨⟨[(0, .l (.val (.list 35 (.int .i64))))], []⟩, ⟨[(0, .l (.val .bool))], []⟩, fun x => gridhallkeep3_fine.f k x⟩
noncomputable abbrev Γ (k : Nat) : FuncId → Option Con := look [(51, slices_ContainsFunc_api_Errno.con k)]
abbrev F : Fin Go.Proofs.Try.prog := ⟨⟨[(0, .l (.val .bool))], []⟩, [], [.tmp 2]⟩
noncomputable abbrev Tl (k : Nat) : List (Nat × Hint (prods F.cout.tys)) := []
noncomputable abbrev T (k : Nat) : Nat → Option (Hint (prods F.cout.tys)) := look (Tl k)
noncomputable abbrev body : Code := Go.Proofs.Try.f22.body.getD .skip
theorem main (k : Nat) (x : prods (con 0).cin.tys) : gridhallkeep3_fine.f k x = goK (Γ k) F (T k) 2000 [.code body] ((con 0).cin.st x) := by kernel_rfl
theorem okΓ (k : Nat) : ΓOk Go.Proofs.Try.prog (Γ k) := Γcons (slices_ContainsFunc_api_Errno.ok k) ⟨Go.Proofs.Try.f51, by kernel_rfl, by kernel_rfl, by kernel_rfl⟩ (Γnil)
theorem ok (k : Nat) : ConSound Go.Proofs.Try.prog 22 (con k) := con_sound (Γ := Γ) (fn := Go.Proofs.Try.f22) (body := body) (cin := (con 0).cin) (F := F) (T := T) follows (by kernel_rfl) (by kernel_rfl) (by kernel_rfl) (by kernel_rfl) (by kernel_rfl) (by decide +kernel) (by kernel_rfl) (by kernel_rfl) (tzero trivial) k (fun m _ => okΓ m) (fun m _ => tstep trivial) (fun x y h => (main k x).symm.trans h)
end gridhallkeep3_fine
namespace gridhallkeep3_HoursFree
noncomputable abbrev con (k : Nat) : Con := ⟨⟨[(0, .l (.val (.list 28 Y1))), (1, .l (.val (.list 3 (.int .i64)))), (2, .l (.val (.int .i64)))], []⟩, ⟨[(0, .l (.val .bool))], []⟩, fun x => gridhallkeep3_HoursFree.f k x.1 x.2.1 x.2.2⟩
noncomputable abbrev Γ (k : Nat) : FuncId → Option Con := look [(22, gridhallkeep3_fine.con k), (33, hours_Change.con k), (34, gridhallkeep3_two.con k), (35, dispatch_Best.con k), (36, dispatch_Cost.con k)]
abbrev F : Fin Go.Proofs.Try.prog := ⟨⟨[(0, .l (.val .bool))], []⟩, [], [.tmp 6]⟩
noncomputable abbrev Tl (k : Nat) : List (Nat × Hint (prods F.cout.tys)) := []
noncomputable abbrev T (k : Nat) : Nat → Option (Hint (prods F.cout.tys)) := look (Tl k)
noncomputable abbrev body : Code := Go.Proofs.Try.f9.body.getD .skip
theorem main (k : Nat) (x : prods (con 0).cin.tys) : gridhallkeep3_HoursFree.f k x.1 x.2.1 x.2.2 = goK (Γ k) F (T k) 2000 [.code body] ((con 0).cin.st x) := by kernel_rfl
theorem okΓ (k : Nat) : ΓOk Go.Proofs.Try.prog (Γ k) := Γcons (gridhallkeep3_fine.ok k) ⟨Go.Proofs.Try.f22, by kernel_rfl, by kernel_rfl, by kernel_rfl⟩ (Γcons (hours_Change.ok k) ⟨Go.Proofs.Try.f33, by kernel_rfl, by kernel_rfl, by kernel_rfl⟩ (Γcons (gridhallkeep3_two.ok k) ⟨Go.Proofs.Try.f34, by kernel_rfl, by kernel_rfl, by kernel_rfl⟩ (Γcons (dispatch_Best.ok k) ⟨Go.Proofs.Try.f35, by kernel_rfl, by kernel_rfl, by kernel_rfl⟩ (Γcons (dispatch_Cost.ok k) ⟨Go.Proofs.Try.f36, by kernel_rfl, by kernel_rfl, by kernel_rfl⟩ (Γnil)))))
theorem ok (k : Nat) : ConSound Go.Proofs.Try.prog 9 (con k) := con_sound (Γ := Γ) (fn := Go.Proofs.Try.f9) (body := body) (cin := (con 0).cin) (F := F) (T := T) follows (by kernel_rfl) (by kernel_rfl) (by kernel_rfl) (by kernel_rfl) (by kernel_rfl) (by decide +kernel) (by kernel_rfl) (by kernel_rfl) (tzero trivial) k (fun m _ => okΓ m) (fun m _ => tstep trivial) (fun x y h => (main k x).symm.trans h)
end gridhallkeep3_HoursFree
end Go.Proofs.Ytodagcbcdkfniaa.VE
