/- Contracts of functions (printed by a program; no statement is proved here). -/
import Derived.Test.YtcmbckancficcaaVeCon2
import Derived.Test.YtcmbckancficcaaGRD
namespace Go.Proofs.Ytcmbckancficcaa.VE
set_option linter.unusedVariables false
set_option maxRecDepth 100000
open Go Go.RowKit
namespace storage_Check
noncomputable abbrev con (k : Nat) : Con := ⟨⟨[(0, .av Y5)], []⟩, ⟨[(0, .l (.val (.int .i64)))], []⟩, fun x => storage_Check.f k x⟩
noncomputable abbrev Γ (k : Nat) : FuncId → Option Con := look []
abbrev F : Fin Go.Proofs.Try.prog := ⟨⟨[(0, .l (.val (.int .i64)))], []⟩, [], [.tmp 2]⟩
noncomputable abbrev Tl (k : Nat) : List (Nat × Hint (prods F.cout.tys)) := []
noncomputable abbrev T (k : Nat) : Nat → Option (Hint (prods F.cout.tys)) := look (Tl k)
noncomputable abbrev body : Code := Go.Proofs.Try.f65.body.getD .skip
theorem main (k : Nat) (x : prods (con 0).cin.tys) : storage_Check.f k x = goK (Γ k) F (T k) 2000 [.code body] ((con 0).cin.st x) := by kernel_rfl
theorem okΓ (k : Nat) : ΓOk Go.Proofs.Try.prog (Γ k) := Γnil
theorem ok (k : Nat) : ConSound Go.Proofs.Try.prog 65 (con k) := con_sound (Γ := Γ) (fn := Go.Proofs.Try.f65) (body := body) (cin := (con 0).cin) (F := F) (T := T) follows (by kernel_rfl) (by kernel_rfl) (by kernel_rfl) (by kernel_rfl) (by kernel_rfl) (by decide +kernel) (by kernel_rfl) (by kernel_rfl) (tzero trivial) k (fun m _ => okΓ m) (fun m _ => tstep trivial) (fun x y h => (main k x).symm.trans h)
end storage_Check
namespace storage_checkPrices
noncomputable abbrev con (k : Nat) : Con := ⟨⟨[(0, .l (.val (.list 3 (.int .i64))))], []⟩, ⟨[(0, .l (.val (.int .i64)))], []⟩, fun x => storage_checkPrices.f k x⟩
noncomputable abbrev Γ (k : Nat) : FuncId → Option Con := look []
abbrev F : Fin Go.Proofs.Try.prog := ⟨⟨[(0, .l (.val (.int .i64)))], []⟩, [], [.tmp 2]⟩
abbrev c4 : Cut := ⟨[(8, .l (.val (.list 3 (.int .i64)))), (9, .l (.val (.int .i64))), (10, .l (.val (.int .i64)))], []⟩
noncomputable abbrev Tl (k : Nat) : List (Nat × Hint (prods F.cout.tys)) := [(4, ⟨c4, fun x => storage_checkPrices.l4 k x.1 x.2.1 x.2.2⟩)]
noncomputable abbrev T (k : Nat) : Nat → Option (Hint (prods F.cout.tys)) := look (Tl k)
noncomputable abbrev body : Code := Go.Proofs.Try.f66.body.getD .skip
theorem s4 (k : Nat) (x : prods c4.tys) : storage_checkPrices.l4 (k + 1) x.1 x.2.1 x.2.2 = segK (Γ k) F (T k) body 4 (c4.st x) := by kernel_rfl
theorem main (k : Nat) (x : prods (con 0).cin.tys) : storage_checkPrices.f k x = goK (Γ k) F (T k) 2000 [.code body] ((con 0).cin.st x) := by kernel_rfl
theorem okΓ (k : Nat) : ΓOk Go.Proofs.Try.prog (Γ k) := Γnil
theorem ok (k : Nat) : ConSound Go.Proofs.Try.prog 66 (con k) := con_sound (Γ := Γ) (fn := Go.Proofs.Try.f66) (body := body) (cin := (con 0).cin) (F := F) (T := T) follows (by kernel_rfl) (by kernel_rfl) (by kernel_rfl) (by kernel_rfl) (by kernel_rfl) (by decide +kernel) (by kernel_rfl) (by kernel_rfl) (tzero ⟨fun x => rfl, trivial⟩) k (fun m _ => okΓ m) (fun m _ => tstep ⟨fun x => s4 m x, trivial⟩) (fun x y h => (main k x).symm.trans h)
end storage_checkPrices
namespace storage_trade
noncomputable abbrev con (k : Nat) : Con := ⟨⟨[(0, .av Y5), (1, .l (.val (.int .i64)))], []⟩, ⟨[(0, .av Y2)], []⟩, fun x => storage_trade.f k x.1 x.2⟩
noncomputable abbrev Γ (k : Nat) : FuncId → Option Con := look []
abbrev F : Fin Go.Proofs.Try.prog := ⟨⟨[(0, .av Y2)], []⟩, [], [.cell 4 32]⟩
noncomputable abbrev Tl (k : Nat) : List (Nat × Hint (prods F.cout.tys)) := []
noncomputable abbrev T (k : Nat) : Nat → Option (Hint (prods F.cout.tys)) := look (Tl k)
noncomputable abbrev body : Code := Go.Proofs.Try.f76.body.getD .skip
theorem main (k : Nat) (x : prods (con 0).cin.tys) : storage_trade.f k x.1 x.2 = goK (Γ k) F (T k) 2000 [.code body] ((con 0).cin.st x) := by kernel_rfl
theorem okΓ (k : Nat) : ΓOk Go.Proofs.Try.prog (Γ k) := Γnil
theorem ok (k : Nat) : ConSound Go.Proofs.Try.prog 76 (con k) := con_sound (Γ := Γ) (fn := Go.Proofs.Try.f76) (body := body) (cin := (con 0).cin) (F := F) (T := T) follows (by kernel_rfl) (by kernel_rfl) (by kernel_rfl) (by kernel_rfl) (by kernel_rfl) (by decide +kernel) (by kernel_rfl) (by kernel_rfl) (tzero trivial) k (fun m _ => okΓ m) (fun m _ => tstep trivial) (fun x y h => (main k x).symm.trans h)
end storage_trade
namespace convexpl_Check
noncomputable abbrev con (k : Nat) : Con := ⟨⟨[(0, .av Y2)], []⟩, ⟨[(0, .l (.val (.int .i64)))], []⟩, fun x => convexpl_Check.f k x⟩
noncomputable abbrev Γ (k : Nat) : FuncId → Option Con := look []
abbrev F : Fin Go.Proofs.Try.prog := ⟨⟨[(0, .l (.val (.int .i64)))], []⟩, [], [.tmp 2]⟩
abbrev c7 : Cut := ⟨[(1, .l (.ptr 7000000 0)), (3, .l (.val (.int .i64))), (4, .l (.val (.int .i64))), (34, .l (.val (.list 60 Y0))), (35, .l (.val (.int .i64))), (36, .l (.val (.int .i64)))], [(7000000, .box 32 [.val (.int .i64), .val (.int .i64), .val (.list 60 Y0)])]⟩
noncomputable abbrev Tl (k : Nat) : List (Nat × Hint (prods F.cout.tys)) := [(7, ⟨c7, fun x => convexpl_Check.l7 k x.1 x.2.1 x.2.2.1 x.2.2.2.1 x.2.2.2.2.1 x.2.2.2.2.2.1 x.2.2.2.2.2.2.1 x.2.2.2.2.2.2.2⟩)]
noncomputable abbrev T (k : Nat) : Nat → Option (Hint (prods F.cout.tys)) := look (Tl k)
noncomputable abbrev body : Code := Go.Proofs.Try.f51.body.getD .skip
theorem s7 (k : Nat) (x : prods c7.tys) : convexpl_Check.l7 (k + 1) x.1 x.2.1 x.2.2.1 x.2.2.2.1 x.2.2.2.2.1 x.2.2.2.2.2.1 x.2.2.2.2.2.2.1 x.2.2.2.2.2.2.2 = segK (Γ k) F (T k) body 7 (c7.st x) := by kernel_rfl
theorem main (k : Nat) (x : prods (con 0).cin.tys) : convexpl_Check.f k x = goK (Γ k) F (T k) 2000 [.code body] ((con 0).cin.st x) := by kernel_rfl
theorem okΓ (k : Nat) : ΓOk Go.Proofs.Try.prog (Γ k) := Γnil
theorem ok (k : Nat) : ConSound Go.Proofs.Try.prog 51 (con k) := con_sound (Γ := Γ) (fn := Go.Proofs.Try.f51) (body := body) (cin := (con 0).cin) (F := F) (T := T) follows (by kernel_rfl) (by kernel_rfl) (by kernel_rfl) (by kernel_rfl) (by kernel_rfl) (by decide +kernel) (by kernel_rfl) (by kernel_rfl) (tzero ⟨fun x => rfl, trivial⟩) k (fun m _ => okΓ m) (fun m _ => tstep ⟨fun x => s7 m x, trivial⟩) (fun x y h => (main k x).symm.trans h)
end convexpl_Check
namespace convexpl_both
noncomputable abbrev con (k : Nat) : Con := ⟨⟨[(0, .av Y2), (1, .av Y2)], []⟩, ⟨[(0, .l (.val (.int .i64)))], []⟩, fun x => convexpl_both.f k x.1 x.2⟩
noncomputable abbrev Γ (k : Nat) : FuncId → Option Con := look [(51, convexpl_Check.con k)]
abbrev F : Fin Go.Proofs.Try.prog := ⟨⟨[(0, .l (.val (.int .i64)))], []⟩, [], [.tmp 4]⟩
noncomputable abbrev Tl (k : Nat) : List (Nat × Hint (prods F.cout.tys)) := []
noncomputable abbrev T (k : Nat) : Nat → Option (Hint (prods F.cout.tys)) := look (Tl k)
noncomputable abbrev body : Code := Go.Proofs.Try.f60.body.getD .skip
theorem main (k : Nat) (x : prods (con 0).cin.tys) : convexpl_both.f k x.1 x.2 = goK (Γ k) F (T k) 2000 [.code body] ((con 0).cin.st x) := by kernel_rfl
theorem okΓ (k : Nat) : ΓOk Go.Proofs.Try.prog (Γ k) := Γcons (convexpl_Check.ok k) ⟨Go.Proofs.Try.f51, by kernel_rfl, by kernel_rfl, by kernel_rfl⟩ (Γnil)
theorem ok (k : Nat) : ConSound Go.Proofs.Try.prog 60 (con k) := con_sound (Γ := Γ) (fn := Go.Proofs.Try.f60) (body := body) (cin := (con 0).cin) (F := F) (T := T) follows (by kernel_rfl) (by kernel_rfl) (by kernel_rfl) (by kernel_rfl) (by kernel_rfl) (by decide +kernel) (by kernel_rfl) (by kernel_rfl) (tzero trivial) k (fun m _ => okΓ m) (fun m _ => tstep trivial) (fun x y h => (main k x).symm.trans h)
end convexpl_both
namespace slices_Grow_api_ConvexPiece
noncomputable abbrev con (k : Nat) : Con := ⟨⟨[(0, .l (.nils)), (1, .l (.val (.int .i64)))], []⟩, ⟨[(0, .l (.row 0))], [(0, .row 60 Y0)]⟩, fun x => slices_Grow_api_ConvexPiece.f k x⟩
noncomputable abbrev Γ (k : Nat) : FuncId → Option Con := look []
abbrev F : Fin Go.Proofs.Try.prog := ⟨⟨[(0, .l (.row 0))], [(0, .row 60 Y0)]⟩, [], [.tmp 4]⟩
abbrev c3 : Cut := ⟨[(0, .l (.nils)), (1, .l (.val (.int .i64)))], []⟩
noncomputable abbrev Tl (k : Nat) : List (Nat × Hint (prods F.cout.tys)) := [(3, ⟨c3, fun x => slices_Grow_api_ConvexPiece.l3 k x⟩)]
noncomputable abbrev T (k : Nat) : Nat → Option (Hint (prods F.cout.tys)) := look (Tl k)
noncomputable abbrev body : Code := Go.Proofs.Try.f83.body.getD .skip
theorem s3 (k : Nat) (x : prods c3.tys) : slices_Grow_api_ConvexPiece.l3 (k + 1) x = segK (Γ k) F (T k) body 3 (c3.st x) := by kernel_rfl
theorem main (k : Nat) (x : prods (con 0).cin.tys) : slices_Grow_api_ConvexPiece.f k x = goK (Γ k) F (T k) 2000 [.code body] ((con 0).cin.st x) := by kernel_rfl
theorem okΓ (k : Nat) : ΓOk Go.Proofs.Try.prog (Γ k) := Γnil
theorem ok (k : Nat) : ConSound Go.Proofs.Try.prog 83 (con k) := con_sound (Γ := Γ) (fn := Go.Proofs.Try.f83) (body := body) (cin := (con 0).cin) (F := F) (T := T) follows (by kernel_rfl) (by kernel_rfl) (by kernel_rfl) (by kernel_rfl) (by kernel_rfl) (by decide +kernel) (by kernel_rfl) (by kernel_rfl) (tzero ⟨fun x => rfl, trivial⟩) k (fun m _ => okΓ m) (fun m _ => tstep ⟨fun x => s3 m x, trivial⟩) (fun x y h => (main k x).symm.trans h)
end slices_Grow_api_ConvexPiece
namespace slices_Concat_api_ConvexPiece
noncomputable abbrev con (k : Nat) : Con := ⟨⟨[(0, .l (.val (.list 30 (.list 60 Y0))))], []⟩, ⟨[(0, .l (.row 0))], [(0, .row 60 Y0)]⟩, fun x => slices_Concat_api_ConvexPiece.f k x⟩
noncomputable abbrev Γ (k : Nat) : FuncId → Option Con := look [(83, slices_Grow_api_ConvexPiece.con k)]
abbrev F : Fin Go.Proofs.Try.prog := ⟨⟨[(0, .l (.row 0))], [(0, .row 60 Y0)]⟩, [], [.tmp 2]⟩
abbrev c3 : Cut := ⟨[(0, .l (.val (.list 30 (.list 60 Y0)))), (3, .l (.val (.int .i64))), (9, .l (.val (.list 30 (.list 60 Y0)))), (10, .l (.val (.int .i64))), (11, .l (.val (.int .i64)))], []⟩
abbrev c11 : Cut := ⟨[(6, .l (.row 7000000)), (25, .l (.val (.list 30 (.list 60 Y0)))), (26, .l (.val (.int .i64))), (27, .l (.val (.int .i64)))], [(7000000, .row 60 Y0)]⟩
noncomputable abbrev Tl (k : Nat) : List (Nat × Hint (prods F.cout.tys)) := [(3, ⟨c3, fun x => slices_Concat_api_ConvexPiece.l3 k x.1 x.2.1 x.2.2.1 x.2.2.2.1 x.2.2.2.2⟩), (11, ⟨c11, fun x => slices_Concat_api_ConvexPiece.l11 k x.1 x.2.1 x.2.2.1 x.2.2.2⟩)]
noncomputable abbrev T (k : Nat) : Nat → Option (Hint (prods F.cout.tys)) := look (Tl k)
noncomputable abbrev body : Code := Go.Proofs.Try.f61.body.getD .skip
theorem s3 (k : Nat) (x : prods c3.tys) : slices_Concat_api_ConvexPiece.l3 (k + 1) x.1 x.2.1 x.2.2.1 x.2.2.2.1 x.2.2.2.2 = segK (Γ k) F (T k) body 3 (c3.st x) := by kernel_rfl
theorem s11 (k : Nat) (x : prods c11.tys) : slices_Concat_api_ConvexPiece.l11 (k + 1) x.1 x.2.1 x.2.2.1 x.2.2.2 = segK (Γ k) F (T k) body 11 (c11.st x) := by kernel_rfl
theorem main (k : Nat) (x : prods (con 0).cin.tys) : slices_Concat_api_ConvexPiece.f k x = goK (Γ k) F (T k) 2000 [.code body] ((con 0).cin.st x) := by kernel_rfl
theorem okΓ (k : Nat) : ΓOk Go.Proofs.Try.prog (Γ k) := Γcons (slices_Grow_api_ConvexPiece.ok k) ⟨Go.Proofs.Try.f83, by kernel_rfl, by kernel_rfl, by kernel_rfl⟩ (Γnil)
theorem ok (k : Nat) : ConSound Go.Proofs.Try.prog 61 (con k) := con_sound (Γ := Γ) (fn := Go.Proofs.Try.f61) (body := body) (cin := (con 0).cin) (F := F) (T := T) follows (by kernel_rfl) (by kernel_rfl) (by kernel_rfl) (by kernel_rfl) (by kernel_rfl) (by decide +kernel) (by kernel_rfl) (by kernel_rfl) (tzero ⟨fun x => rfl, fun x => rfl, trivial⟩) k (fun m _ => okΓ m) (fun m _ => tstep ⟨fun x => s3 m x, fun x => s11 m x, trivial⟩) (fun x y h => (main k x).symm.trans h)
end slices_Concat_api_ConvexPiece
namespace cmp_isNaN_int
noncomputable abbrev con (k : Nat) : Con := ⟨⟨[(0, .l (.val (.int .i64)))], []⟩, ⟨[(0, .l (.val .bool))], []⟩, fun x => cmp_isNaN_int.f k x⟩
noncomputable abbrev Γ (k : Nat) : FuncId → Option Con := look []
abbrev F : Fin Go.Proofs.Try.prog := ⟨⟨[(0, .l (.val .bool))], []⟩, [], [.tmp 2]⟩
noncomputable abbrev Tl (k : Nat) : List (Nat × Hint (prods F.cout.tys)) := []
noncomputable abbrev T (k : Nat) : Nat → Option (Hint (prods F.cout.tys)) := look (Tl k)
noncomputable abbrev body : Code := Go.Proofs.Try.f78.body.getD .skip
theorem main (k : Nat) (x : prods (con 0).cin.tys) : cmp_isNaN_int.f k x = goK (Γ k) F (T k) 2000 [.code body] ((con 0).cin.st x) := by kernel_rfl
theorem okΓ (k : Nat) : ΓOk Go.Proofs.Try.prog (Γ k) := Γnil
theorem ok (k : Nat) : ConSound Go.Proofs.Try.prog 78 (con k) := con_sound (Γ := Γ) (fn := Go.Proofs.Try.f78) (body := body) (cin := (con 0).cin) (F := F) (T := T) follows (by kernel_rfl) (by kernel_rfl) (by kernel_rfl) (by kernel_rfl) (by kernel_rfl) (by decide +kernel) (by kernel_rfl) (by kernel_rfl) (tzero trivial) k (fun m _ => okΓ m) (fun m _ => tstep trivial) (fun x y h => (main k x).symm.trans h)
end cmp_isNaN_int
namespace cmp_Compare_int
noncomputable abbrev con (k : Nat) : Con := ⟨⟨[(0, .l (.val (.int .i64))), (1, .l (.val (.int .i64)))], []⟩, ⟨[(0, .l (.val (.int .i64)))], []⟩, fun x => cmp_Compare_int.f k x.1 x.2⟩
noncomputable abbrev Γ (k : Nat) : FuncId → Option Con := look [(78, cmp_isNaN_int.con k)]
abbrev F : Fin Go.Proofs.Try.prog := ⟨⟨[(0, .l (.val (.int .i64)))], []⟩, [], [.tmp 4]⟩
noncomputable abbrev Tl (k : Nat) : List (Nat × Hint (prods F.cout.tys)) := []
noncomputable abbrev T (k : Nat) : Nat → Option (Hint (prods F.cout.tys)) := look (Tl k)
noncomputable abbrev body : Code := Go.Proofs.Try.f49.body.getD .skip
theorem main (k : Nat) (x : prods (con 0).cin.tys) : cmp_Compare_int.f k x.1 x.2 = goK (Γ k) F (T k) 2000 [.code body] ((con 0).cin.st x) := by kernel_rfl
theorem okΓ (k : Nat) : ΓOk Go.Proofs.Try.prog (Γ k) := Γcons (cmp_isNaN_int.ok k) ⟨Go.Proofs.Try.f78, by kernel_rfl, by kernel_rfl, by kernel_rfl⟩ (Γnil)
theorem ok (k : Nat) : ConSound Go.Proofs.Try.prog 49 (con k) := con_sound (Γ := Γ) (fn := Go.Proofs.Try.f49) (body := body) (cin := (con 0).cin) (F := F) (T := T) follows (by kernel_rfl) (by kernel_rfl) (by kernel_rfl) (by kernel_rfl) (by kernel_rfl) (by decide +kernel) (by kernel_rfl) (by kernel_rfl) (tzero trivial) k (fun m _ => okΓ m) (fun m _ => tstep trivial) (fun x y h => (main k x).symm.trans h)
end cmp_Compare_int
namespace convexpl_made_1
noncomputable abbrev con (k : Nat) : Con := ⟨⟨[(0, .av Y0), (1, .av Y0)], []⟩, ⟨[(0, .l (.val (.int .i64)))], []⟩, fun x => convexpl_made_1.f k x.1 x.2⟩
noncomputable abbrev Γ (k : Nat) : FuncId → Option Con := look [(49, cmp_Compare_int.con k)]
abbrev F : Fin Go.Proofs.Try.prog := ⟨⟨[(0, .l (.val (.int .i64)))], []⟩, [], [.tmp 4]⟩
noncomputable abbrev Tl (k : Nat) : List (Nat × Hint (prods F.cout.tys)) := []
noncomputable abbrev T (k : Nat) : Nat → Option (Hint (prods F.cout.tys)) := look (Tl k)
noncomputable abbrev body : Code := Go.Proofs.Try.f81.body.getD .skip
theorem main (k : Nat) (x : prods (con 0).cin.tys) : convexpl_made_1.f k x.1 x.2 = goK (Γ k) F (T k) 2000 [.code body] ((con 0).cin.st x) := by kernel_rfl
theorem okΓ (k : Nat) : ΓOk Go.Proofs.Try.prog (Γ k) := Γcons (cmp_Compare_int.ok k) ⟨Go.Proofs.Try.f49, by kernel_rfl, by kernel_rfl, by kernel_rfl⟩ (Γnil)
theorem ok (k : Nat) : ConSound Go.Proofs.Try.prog 81 (con k) := con_sound (Γ := Γ) (fn := Go.Proofs.Try.f81) (body := body) (cin := (con 0).cin) (F := F) (T := T) follows (by kernel_rfl) (by kernel_rfl) (by kernel_rfl) (by kernel_rfl) (by kernel_rfl) (by decide +kernel) (by kernel_rfl) (by kernel_rfl) (tzero trivial) k (fun m _ => okΓ m) (fun m _ => tstep trivial) (fun x y h => (main k x).symm.trans h)
end convexpl_made_1
namespace slices_insertionSortCmpFunc_api_ConvexPiece
noncomputable abbrev con (k : Nat) : Con := ⟨⟨[(0, .l (.row 9000000)), (1, .l (.val (.int .i64))), (2, .l (.val (.int .i64))), (3, .l (.fn0 81))], [(9000000, .row 60 Y0)]⟩, ⟨[], [(9000000, .row 60 Y0)]⟩, fun x => slices_insertionSortCmpFunc_api_ConvexPiece.f k x.1 x.2.1 x.2.2⟩
noncomputable abbrev Γ (k : Nat) : FuncId → Option Con := look [(81, convexpl_made_1.con k)]
abbrev F : Fin Go.Proofs.Try.prog := ⟨⟨[], [(9000000, .row 60 Y0)]⟩, [9000000], []⟩
abbrev c1 : Cut := ⟨[(0, .l (.row 9000000)), (1, .l (.val (.int .i64))), (2, .l (.val (.int .i64))), (3, .l (.fn0 81)), (8, .l (.val (.int .i64)))], [(9000000, .row 60 Y0)]⟩
abbrev c4 : Cut := ⟨[(0, .l (.row 9000000)), (1, .l (.val (.int .i64))), (2, .l (.val (.int .i64))), (3, .l (.fn0 81)), (8, .l (.val (.int .i64))), (9, .l (.val (.int .i64)))], [(9000000, .row 60 Y0)]⟩
noncomputable abbrev Tl (k : Nat) : List (Nat × Hint (prods F.cout.tys)) := [(1, ⟨c1, fun x => slices_insertionSortCmpFunc_api_ConvexPiece.l1 k x.1 x.2.1 x.2.2.1 x.2.2.2⟩), (4, ⟨c4, fun x => slices_insertionSortCmpFunc_api_ConvexPiece.l4 k x.1 x.2.1 x.2.2.1 x.2.2.2.1 x.2.2.2.2⟩)]
noncomputable abbrev T (k : Nat) : Nat → Option (Hint (prods F.cout.tys)) := look (Tl k)
noncomputable abbrev body : Code := Go.Proofs.Try.f93.body.getD .skip
theorem s1 (k : Nat) (x : prods c1.tys) : slices_insertionSortCmpFunc_api_ConvexPiece.l1 (k + 1) x.1 x.2.1 x.2.2.1 x.2.2.2 = segK (Γ k) F (T k) body 1 (c1.st x) := by kernel_rfl
theorem s4 (k : Nat) (x : prods c4.tys) : slices_insertionSortCmpFunc_api_ConvexPiece.l4 (k + 1) x.1 x.2.1 x.2.2.1 x.2.2.2.1 x.2.2.2.2 = segK (Γ k) F (T k) body 4 (c4.st x) := by kernel_rfl
theorem main (k : Nat) (x : prods (con 0).cin.tys) : slices_insertionSortCmpFunc_api_ConvexPiece.f k x.1 x.2.1 x.2.2 = goK (Γ k) F (T k) 2000 [.code body] ((con 0).cin.st x) := by kernel_rfl
theorem okΓ (k : Nat) : ΓOk Go.Proofs.Try.prog (Γ k) := Γcons (convexpl_made_1.ok k) ⟨Go.Proofs.Try.f81, by kernel_rfl, by kernel_rfl, by kernel_rfl⟩ (Γnil)
theorem ok (k : Nat) : ConSound Go.Proofs.Try.prog 93 (con k) := con_sound (Γ := Γ) (fn := Go.Proofs.Try.f93) (body := body) (cin := (con 0).cin) (F := F) (T := T) follows (by kernel_rfl) (by kernel_rfl) (by kernel_rfl) (by kernel_rfl) (by kernel_rfl) (by decide +kernel) (by kernel_rfl) (by kernel_rfl) (tzero ⟨fun x => rfl, fun x => rfl, trivial⟩) k (fun m _ => okΓ m) (fun m _ => tstep ⟨fun x => s1 m x, fun x => s4 m x, trivial⟩) (fun x y h => (main k x).symm.trans h)
end slices_insertionSortCmpFunc_api_ConvexPiece
namespace slices_swapRangeCmpFunc_api_ConvexPiece
noncomputable abbrev con (k : Nat) : Con := ⟨⟨[(0, .l (.row 9000000)), (1, .l (.val (.int .i64))), (2, .l (.val (.int .i64))), (3, .l (.val (.int .i64))), (4, .l (.fn0 81))], [(9000000, .row 60 Y0)]⟩, ⟨[], [(9000000, .row 60 Y0)]⟩, fun x => slices_swapRangeCmpFunc_api_ConvexPiece.f k x.1 x.2.1 x.2.2.1 x.2.2.2⟩
noncomputable abbrev Γ (k : Nat) : FuncId → Option Con := look []
abbrev F : Fin Go.Proofs.Try.prog := ⟨⟨[], [(9000000, .row 60 Y0)]⟩, [9000000], []⟩
abbrev c1 : Cut := ⟨[(0, .l (.row 9000000)), (1, .l (.val (.int .i64))), (2, .l (.val (.int .i64))), (3, .l (.val (.int .i64))), (10, .l (.val (.int .i64)))], [(9000000, .row 60 Y0)]⟩
noncomputable abbrev Tl (k : Nat) : List (Nat × Hint (prods F.cout.tys)) := [(1, ⟨c1, fun x => slices_swapRangeCmpFunc_api_ConvexPiece.l1 k x.1 x.2.1 x.2.2.1 x.2.2.2.1 x.2.2.2.2⟩)]
noncomputable abbrev T (k : Nat) : Nat → Option (Hint (prods F.cout.tys)) := look (Tl k)
noncomputable abbrev body : Code := Go.Proofs.Try.f97.body.getD .skip
theorem s1 (k : Nat) (x : prods c1.tys) : slices_swapRangeCmpFunc_api_ConvexPiece.l1 (k + 1) x.1 x.2.1 x.2.2.1 x.2.2.2.1 x.2.2.2.2 = segK (Γ k) F (T k) body 1 (c1.st x) := by kernel_rfl
theorem main (k : Nat) (x : prods (con 0).cin.tys) : slices_swapRangeCmpFunc_api_ConvexPiece.f k x.1 x.2.1 x.2.2.1 x.2.2.2 = goK (Γ k) F (T k) 2000 [.code body] ((con 0).cin.st x) := by kernel_rfl
theorem okΓ (k : Nat) : ΓOk Go.Proofs.Try.prog (Γ k) := Γnil
theorem ok (k : Nat) : ConSound Go.Proofs.Try.prog 97 (con k) := con_sound (Γ := Γ) (fn := Go.Proofs.Try.f97) (body := body) (cin := (con 0).cin) (F := F) (T := T) follows (by kernel_rfl) (by kernel_rfl) (by kernel_rfl) (by kernel_rfl) (by kernel_rfl) (by decide +kernel) (by kernel_rfl) (by kernel_rfl) (tzero ⟨fun x => rfl, trivial⟩) k (fun m _ => okΓ m) (fun m _ => tstep ⟨fun x => s1 m x, trivial⟩) (fun x y h => (main k x).symm.trans h)
end slices_swapRangeCmpFunc_api_ConvexPiece
namespace slices_rotateCmpFunc_api_ConvexPiece
noncomputable abbrev con (k : Nat) : Con := ⟨⟨[(0, .l (.row 9000000)), (1, .l (.val (.int .i64))), (2, .l (.val (.int .i64))), (3, .l (.val (.int .i64))), (4, .l (.fn0 81))], [(9000000, .row 60 Y0)]⟩, ⟨[], [(9000000, .row 60 Y0)]⟩, fun x => slices_rotateCmpFunc_api_ConvexPiece.f k x.1 x.2.1 x.2.2.1 x.2.2.2⟩
noncomputable abbrev Γ (k : Nat) : FuncId → Option Con := look [(97, slices_swapRangeCmpFunc_api_ConvexPiece.con k)]
abbrev F : Fin Go.Proofs.Try.prog := ⟨⟨[], [(9000000, .row 60 Y0)]⟩, [9000000], []⟩
abbrev c2 : Cut := ⟨[(0, .l (.row 9000000)), (2, .l (.val (.int .i64))), (4, .l (.fn0 81)), (10, .l (.val (.int .i64))), (11, .l (.val (.int .i64)))], [(9000000, .row 60 Y0)]⟩
noncomputable abbrev Tl (k : Nat) : List (Nat × Hint (prods F.cout.tys)) := [(2, ⟨c2, fun x => slices_rotateCmpFunc_api_ConvexPiece.l2 k x.1 x.2.1 x.2.2.1 x.2.2.2⟩)]
noncomputable abbrev T (k : Nat) : Nat → Option (Hint (prods F.cout.tys)) := look (Tl k)
noncomputable abbrev body : Code := Go.Proofs.Try.f96.body.getD .skip
theorem s2 (k : Nat) (x : prods c2.tys) : slices_rotateCmpFunc_api_ConvexPiece.l2 (k + 1) x.1 x.2.1 x.2.2.1 x.2.2.2 = segK (Γ k) F (T k) body 2 (c2.st x) := by kernel_rfl
theorem main (k : Nat) (x : prods (con 0).cin.tys) : slices_rotateCmpFunc_api_ConvexPiece.f k x.1 x.2.1 x.2.2.1 x.2.2.2 = goK (Γ k) F (T k) 2000 [.code body] ((con 0).cin.st x) := by kernel_rfl
theorem okΓ (k : Nat) : ΓOk Go.Proofs.Try.prog (Γ k) := Γcons (slices_swapRangeCmpFunc_api_ConvexPiece.ok k) ⟨Go.Proofs.Try.f97, by kernel_rfl, by kernel_rfl, by kernel_rfl⟩ (Γnil)
theorem ok (k : Nat) : ConSound Go.Proofs.Try.prog 96 (con k) := con_sound (Γ := Γ) (fn := Go.Proofs.Try.f96) (body := body) (cin := (con 0).cin) (F := F) (T := T) follows (by kernel_rfl) (by kernel_rfl) (by kernel_rfl) (by kernel_rfl) (by kernel_rfl) (by decide +kernel) (by kernel_rfl) (by kernel_rfl) (tzero ⟨fun x => rfl, trivial⟩) k (fun m _ => okΓ m) (fun m _ => tstep ⟨fun x => s2 m x, trivial⟩) (fun x y h => (main k x).symm.trans h)
end slices_rotateCmpFunc_api_ConvexPiece
namespace slices_symMergeCmpFunc_api_ConvexPiece
noncomputable abbrev con (k : Nat) : Con := ⟨⟨[(0, .l (.row 9000000)), (1, .l (.val (.int .i64))), (2, .l (.val (.int .i64))), (3, .l (.val (.int .i64))), (4, .l (.fn0 81))], [(9000000, .row 60 Y0)]⟩, ⟨[], [(9000000, .row 60 Y0)]⟩, fun x => slices_symMergeCmpFunc_api_ConvexPiece.f k x.1 x.2.1 x.2.2.1 x.2.2.2⟩
noncomputable abbrev Γ (k : Nat) : FuncId → Option Con := look [(81, convexpl_made_1.con k), (94, slices_symMergeCmpFunc_api_ConvexPiece.con k), (96, slices_rotateCmpFunc_api_ConvexPiece.con k)]
abbrev F : Fin Go.Proofs.Try.prog := ⟨⟨[], [(9000000, .row 60 Y0)]⟩, [9000000], []⟩
abbrev c3 : Cut := ⟨[(0, .l (.row 9000000)), (1, .l (.val (.int .i64))), (4, .l (.fn0 81)), (10, .l (.val (.int .i64))), (11, .l (.val (.int .i64)))], [(9000000, .row 60 Y0)]⟩
abbrev c9 : Cut := ⟨[(0, .l (.row 9000000)), (10, .l (.val (.int .i64))), (13, .l (.val (.int .i64)))], [(9000000, .row 60 Y0)]⟩
abbrev c15 : Cut := ⟨[(0, .l (.row 9000000)), (2, .l (.val (.int .i64))), (4, .l (.fn0 81)), (14, .l (.val (.int .i64))), (15, .l (.val (.int .i64)))], [(9000000, .row 60 Y0)]⟩
abbrev c21 : Cut := ⟨[(0, .l (.row 9000000)), (14, .l (.val (.int .i64))), (17, .l (.val (.int .i64)))], [(9000000, .row 60 Y0)]⟩
abbrev c32 : Cut := ⟨[(0, .l (.row 9000000)), (1, .l (.val (.int .i64))), (2, .l (.val (.int .i64))), (3, .l (.val (.int .i64))), (4, .l (.fn0 81)), (18, .l (.val (.int .i64))), (19, .l (.val (.int .i64))), (20, .l (.val (.int .i64))), (21, .l (.val (.int .i64)))], [(9000000, .row 60 Y0)]⟩
abbrev c33 : Cut := ⟨[(0, .l (.row 9000000)), (1, .l (.val (.int .i64))), (2, .l (.val (.int .i64))), (3, .l (.val (.int .i64))), (4, .l (.fn0 81)), (18, .l (.val (.int .i64))), (19, .l (.val (.int .i64))), (20, .l (.val (.int .i64))), (21, .l (.val (.int .i64))), (22, .l (.val (.int .i64)))], [(9000000, .row 60 Y0)]⟩
abbrev c41 : Cut := ⟨[(0, .l (.row 9000000)), (1, .l (.val (.int .i64))), (3, .l (.val (.int .i64))), (4, .l (.fn0 81)), (18, .l (.val (.int .i64))), (20, .l (.val (.int .i64))), (24, .l (.val (.int .i64)))], [(9000000, .row 60 Y0)]⟩
noncomputable abbrev Tl (k : Nat) : List (Nat × Hint (prods F.cout.tys)) := [(3, ⟨c3, fun x => slices_symMergeCmpFunc_api_ConvexPiece.l3 k x.1 x.2.1 x.2.2.1 x.2.2.2⟩), (9, ⟨c9, fun x => slices_symMergeCmpFunc_api_ConvexPiece.l9 k x.1 x.2.1 x.2.2⟩), (15, ⟨c15, fun x => slices_symMergeCmpFunc_api_ConvexPiece.l15 k x.1 x.2.1 x.2.2.1 x.2.2.2⟩), (21, ⟨c21, fun x => slices_symMergeCmpFunc_api_ConvexPiece.l21 k x.1 x.2.1 x.2.2⟩), (32, ⟨c32, fun x => slices_symMergeCmpFunc_api_ConvexPiece.l32 k x.1 x.2.1 x.2.2.1 x.2.2.2.1 x.2.2.2.2.1 x.2.2.2.2.2.1 x.2.2.2.2.2.2.1 x.2.2.2.2.2.2.2⟩), (33, ⟨c33, fun x => slices_symMergeCmpFunc_api_ConvexPiece.l33 k x.1 x.2.1 x.2.2.1 x.2.2.2.1 x.2.2.2.2.1 x.2.2.2.2.2.1 x.2.2.2.2.2.2.1 x.2.2.2.2.2.2.2.1 x.2.2.2.2.2.2.2.2⟩), (41, ⟨c41, fun x => slices_symMergeCmpFunc_api_ConvexPiece.l41 k x.1 x.2.1 x.2.2.1 x.2.2.2.1 x.2.2.2.2.1 x.2.2.2.2.2⟩)]
noncomputable abbrev T (k : Nat) : Nat → Option (Hint (prods F.cout.tys)) := look (Tl k)
noncomputable abbrev body : Code := Go.Proofs.Try.f94.body.getD .skip
theorem s3 (k : Nat) (x : prods c3.tys) : slices_symMergeCmpFunc_api_ConvexPiece.l3 (k + 1) x.1 x.2.1 x.2.2.1 x.2.2.2 = segK (Γ k) F (T k) body 3 (c3.st x) := by kernel_rfl
theorem s9 (k : Nat) (x : prods c9.tys) : slices_symMergeCmpFunc_api_ConvexPiece.l9 (k + 1) x.1 x.2.1 x.2.2 = segK (Γ k) F (T k) body 9 (c9.st x) := by kernel_rfl
theorem s15 (k : Nat) (x : prods c15.tys) : slices_symMergeCmpFunc_api_ConvexPiece.l15 (k + 1) x.1 x.2.1 x.2.2.1 x.2.2.2 = segK (Γ k) F (T k) body 15 (c15.st x) := by kernel_rfl
theorem s21 (k : Nat) (x : prods c21.tys) : slices_symMergeCmpFunc_api_ConvexPiece.l21 (k + 1) x.1 x.2.1 x.2.2 = segK (Γ k) F (T k) body 21 (c21.st x) := by kernel_rfl
theorem s32 (k : Nat) (x : prods c32.tys) : slices_symMergeCmpFunc_api_ConvexPiece.l32 (k + 1) x.1 x.2.1 x.2.2.1 x.2.2.2.1 x.2.2.2.2.1 x.2.2.2.2.2.1 x.2.2.2.2.2.2.1 x.2.2.2.2.2.2.2 = segK (Γ k) F (T k) body 32 (c32.st x) := by kernel_rfl
theorem s33 (k : Nat) (x : prods c33.tys) : slices_symMergeCmpFunc_api_ConvexPiece.l33 (k + 1) x.1 x.2.1 x.2.2.1 x.2.2.2.1 x.2.2.2.2.1 x.2.2.2.2.2.1 x.2.2.2.2.2.2.1 x.2.2.2.2.2.2.2.1 x.2.2.2.2.2.2.2.2 = segK (Γ k) F (T k) body 33 (c33.st x) := by kernel_rfl
theorem s41 (k : Nat) (x : prods c41.tys) : slices_symMergeCmpFunc_api_ConvexPiece.l41 (k + 1) x.1 x.2.1 x.2.2.1 x.2.2.2.1 x.2.2.2.2.1 x.2.2.2.2.2 = segK (Γ k) F (T k) body 41 (c41.st x) := by kernel_rfl
theorem main (k : Nat) (x : prods (con 0).cin.tys) : slices_symMergeCmpFunc_api_ConvexPiece.f (k + 1) x.1 x.2.1 x.2.2.1 x.2.2.2 = goK (Γ k) F (T k) 2000 [.code body] ((con 0).cin.st x) := by kernel_rfl
theorem okΓ (k : Nat) (h : ConSound Go.Proofs.Try.prog 94 (con k)) : ΓOk Go.Proofs.Try.prog (Γ k) := Γcons (convexpl_made_1.ok k) ⟨Go.Proofs.Try.f81, by kernel_rfl, by kernel_rfl, by kernel_rfl⟩ (Γcons h ⟨Go.Proofs.Try.f94, by kernel_rfl, by kernel_rfl, by kernel_rfl⟩ (Γcons (slices_rotateCmpFunc_api_ConvexPiece.ok k) ⟨Go.Proofs.Try.f96, by kernel_rfl, by kernel_rfl, by kernel_rfl⟩ (Γnil)))
theorem ok (k : Nat) : ConSound Go.Proofs.Try.prog 94 (con k) := by
  induction k using Nat.strongRecOn with
  | ind k ih => cases k with
    | zero => exact fun x y h => absurd (show (none : Option _) = some y from h) (by simp)
    | succ n => exact con_sound (Γ := Γ) (fn := Go.Proofs.Try.f94) (body := body) (cin := (con 0).cin) (F := F) (T := T) follows (by kernel_rfl) (by kernel_rfl) (by kernel_rfl) (by kernel_rfl) (by kernel_rfl) (by decide +kernel) (by kernel_rfl) (by kernel_rfl) (tzero ⟨fun x => rfl, fun x => rfl, fun x => rfl, fun x => rfl, fun x => rfl, fun x => rfl, fun x => rfl, trivial⟩) n (fun m hm => okΓ m (ih m (Nat.lt_succ_of_le hm))) (fun m _ => tstep ⟨fun x => s3 m x, fun x => s9 m x, fun x => s15 m x, fun x => s21 m x, fun x => s32 m x, fun x => s33 m x, fun x => s41 m x, trivial⟩) (fun x y h => (main n x).symm.trans h)
end slices_symMergeCmpFunc_api_ConvexPiece
namespace slices_stableCmpFunc_api_ConvexPiece
noncomputable abbrev con (k : Nat) : Con := ⟨⟨[(0, .l (.row 9000000)), (1, .l (.val (.int .i64))), (2, .l (.fn0 81))], [(9000000, .row 60 Y0)]⟩, ⟨[], [(9000000, .row 60 Y0)]⟩, fun x => slices_stableCmpFunc_api_ConvexPiece.f k x.1 x.2⟩
noncomputable abbrev Γ (k : Nat) : FuncId → Option Con := look [(93, slices_insertionSortCmpFunc_api_ConvexPiece.con k), (94, slices_symMergeCmpFunc_api_ConvexPiece.con k)]
abbrev F : Fin Go.Proofs.Try.prog := ⟨⟨[], [(9000000, .row 60 Y0)]⟩, [9000000], []⟩
abbrev c2 : Cut := ⟨[(0, .l (.row 9000000)), (1, .l (.val (.int .i64))), (2, .l (.fn0 81)), (6, .l (.val (.int .i64))), (7, .l (.val (.int .i64))), (8, .l (.val (.int .i64)))], [(9000000, .row 60 Y0)]⟩
abbrev c7 : Cut := ⟨[(0, .l (.row 9000000)), (1, .l (.val (.int .i64))), (2, .l (.fn0 81)), (6, .l (.val (.int .i64)))], [(9000000, .row 60 Y0)]⟩
abbrev c9 : Cut := ⟨[(0, .l (.row 9000000)), (1, .l (.val (.int .i64))), (2, .l (.fn0 81)), (6, .l (.val (.int .i64))), (7, .l (.val (.int .i64))), (8, .l (.val (.int .i64)))], [(9000000, .row 60 Y0)]⟩
noncomputable abbrev Tl (k : Nat) : List (Nat × Hint (prods F.cout.tys)) := [(2, ⟨c2, fun x => slices_stableCmpFunc_api_ConvexPiece.l2 k x.1 x.2.1 x.2.2.1 x.2.2.2.1 x.2.2.2.2⟩), (7, ⟨c7, fun x => slices_stableCmpFunc_api_ConvexPiece.l7 k x.1 x.2.1 x.2.2⟩), (9, ⟨c9, fun x => slices_stableCmpFunc_api_ConvexPiece.l9 k x.1 x.2.1 x.2.2.1 x.2.2.2.1 x.2.2.2.2⟩)]
noncomputable abbrev T (k : Nat) : Nat → Option (Hint (prods F.cout.tys)) := look (Tl k)
noncomputable abbrev body : Code := Go.Proofs.Try.f91.body.getD .skip
theorem s2 (k : Nat) (x : prods c2.tys) : slices_stableCmpFunc_api_ConvexPiece.l2 (k + 1) x.1 x.2.1 x.2.2.1 x.2.2.2.1 x.2.2.2.2 = segK (Γ k) F (T k) body 2 (c2.st x) := by kernel_rfl
theorem s7 (k : Nat) (x : prods c7.tys) : slices_stableCmpFunc_api_ConvexPiece.l7 (k + 1) x.1 x.2.1 x.2.2 = segK (Γ k) F (T k) body 7 (c7.st x) := by kernel_rfl
theorem s9 (k : Nat) (x : prods c9.tys) : slices_stableCmpFunc_api_ConvexPiece.l9 (k + 1) x.1 x.2.1 x.2.2.1 x.2.2.2.1 x.2.2.2.2 = segK (Γ k) F (T k) body 9 (c9.st x) := by kernel_rfl
theorem main (k : Nat) (x : prods (con 0).cin.tys) : slices_stableCmpFunc_api_ConvexPiece.f k x.1 x.2 = goK (Γ k) F (T k) 2000 [.code body] ((con 0).cin.st x) := by kernel_rfl
theorem okΓ (k : Nat) : ΓOk Go.Proofs.Try.prog (Γ k) := Γcons (slices_insertionSortCmpFunc_api_ConvexPiece.ok k) ⟨Go.Proofs.Try.f93, by kernel_rfl, by kernel_rfl, by kernel_rfl⟩ (Γcons (slices_symMergeCmpFunc_api_ConvexPiece.ok k) ⟨Go.Proofs.Try.f94, by kernel_rfl, by kernel_rfl, by kernel_rfl⟩ (Γnil))
theorem ok (k : Nat) : ConSound Go.Proofs.Try.prog 91 (con k) := con_sound (Γ := Γ) (fn := Go.Proofs.Try.f91) (body := body) (cin := (con 0).cin) (F := F) (T := T) follows (by kernel_rfl) (by kernel_rfl) (by kernel_rfl) (by kernel_rfl) (by kernel_rfl) (by decide +kernel) (by kernel_rfl) (by kernel_rfl) (tzero ⟨fun x => rfl, fun x => rfl, fun x => rfl, trivial⟩) k (fun m _ => okΓ m) (fun m _ => tstep ⟨fun x => s2 m x, fun x => s7 m x, fun x => s9 m x, trivial⟩) (fun x y h => (main k x).symm.trans h)
end slices_stableCmpFunc_api_ConvexPiece
namespace slices_SortStableFunc_api_ConvexPiece
noncomputable abbrev con (k : Nat) : Con := ⟨⟨[(0, .l (.row 9000000)), (1, .l (.fn0 81))], [(9000000, .row 60 Y0)]⟩, ⟨[], [(9000000, .row 60 Y0)]⟩, fun x => slices_SortStableFunc_api_ConvexPiece.f k x⟩
noncomputable abbrev Γ (k : Nat) : FuncId → Option Con := look [(91, slices_stableCmpFunc_api_ConvexPiece.con k)]
abbrev F : Fin Go.Proofs.Try.prog := ⟨⟨[], [(9000000, .row 60 Y0)]⟩, [9000000], []⟩
noncomputable abbrev Tl (k : Nat) : List (Nat × Hint (prods F.cout.tys)) := []
noncomputable abbrev T (k : Nat) : Nat → Option (Hint (prods F.cout.tys)) := look (Tl k)
noncomputable abbrev body : Code := Go.Proofs.Try.f80.body.getD .skip
theorem main (k : Nat) (x : prods (con 0).cin.tys) : slices_SortStableFunc_api_ConvexPiece.f k x = goK (Γ k) F (T k) 2000 [.code body] ((con 0).cin.st x) := by kernel_rfl
theorem okΓ (k : Nat) : ΓOk Go.Proofs.Try.prog (Γ k) := Γcons (slices_stableCmpFunc_api_ConvexPiece.ok k) ⟨Go.Proofs.Try.f91, by kernel_rfl, by kernel_rfl, by kernel_rfl⟩ (Γnil)
theorem ok (k : Nat) : ConSound Go.Proofs.Try.prog 80 (con k) := con_sound (Γ := Γ) (fn := Go.Proofs.Try.f80) (body := body) (cin := (con 0).cin) (F := F) (T := T) follows (by kernel_rfl) (by kernel_rfl) (by kernel_rfl) (by kernel_rfl) (by kernel_rfl) (by decide +kernel) (by kernel_rfl) (by kernel_rfl) (tzero trivial) k (fun m _ => okΓ m) (fun m _ => tstep trivial) (fun x y h => (main k x).symm.trans h)
end slices_SortStableFunc_api_ConvexPiece
namespace convexpl_made
noncomputable abbrev con (k : Nat) : Con := ⟨⟨[(0, .l (.val (.int .i64))), (1, .l (.val (.int .i64))), (2, .l (.row 9000000))], [(9000000, .row 60 Y0)]⟩, ⟨[(0, .av Y2), (1, .l (.val (.int .i64)))], [(9000000, .row 60 Y0)]⟩, fun x => convexpl_made.f k x.1 x.2.1 x.2.2⟩
noncomputable abbrev Γ (k : Nat) : FuncId → Option Con := look [(51, convexpl_Check.con k), (80, slices_SortStableFunc_api_ConvexPiece.con k)]
abbrev F : Fin Go.Proofs.Try.prog := ⟨⟨[(0, .av Y2), (1, .l (.val (.int .i64)))], [(9000000, .row 60 Y0)]⟩, [9000000], [.cell 6 32, .tmp 7]⟩
abbrev c4 : Cut := ⟨[(6, .l (.ptr 7000000 0)), (8, .l (.ptr 7000001 0)), (17, .l (.row 9000000)), (18, .l (.val (.int .i64))), (19, .l (.val (.int .i64)))], [(9000000, .row 60 Y0), (7000000, .box 32 [.val (.int .i64), .val (.int .i64), .nils]), (7000001, .box 32 [.val (.int .i64), .val (.int .i64), .row 7000503]), (7000503, .row 60 Y0)]⟩
noncomputable abbrev Tl (k : Nat) : List (Nat × Hint (prods F.cout.tys)) := [(4, ⟨c4, fun x => convexpl_made.l4 k x.1 x.2.1 x.2.2.1 x.2.2.2.1 x.2.2.2.2.1 x.2.2.2.2.2.1 x.2.2.2.2.2.2.1 x.2.2.2.2.2.2.2⟩)]
noncomputable abbrev T (k : Nat) : Nat → Option (Hint (prods F.cout.tys)) := look (Tl k)
noncomputable abbrev body : Code := Go.Proofs.Try.f53.body.getD .skip
theorem s4 (k : Nat) (x : prods c4.tys) : convexpl_made.l4 (k + 1) x.1 x.2.1 x.2.2.1 x.2.2.2.1 x.2.2.2.2.1 x.2.2.2.2.2.1 x.2.2.2.2.2.2.1 x.2.2.2.2.2.2.2 = segK (Γ k) F (T k) body 4 (c4.st x) := by kernel_rfl
theorem main (k : Nat) (x : prods (con 0).cin.tys) : convexpl_made.f k x.1 x.2.1 x.2.2 = goK (Γ k) F (T k) 2000 [.code body] ((con 0).cin.st x) := by kernel_rfl
theorem okΓ (k : Nat) : ΓOk Go.Proofs.Try.prog (Γ k) := Γcons (convexpl_Check.ok k) ⟨Go.Proofs.Try.f51, by kernel_rfl, by kernel_rfl, by kernel_rfl⟩ (Γcons (slices_SortStableFunc_api_ConvexPiece.ok k) ⟨Go.Proofs.Try.f80, by kernel_rfl, by kernel_rfl, by kernel_rfl⟩ (Γnil))
theorem ok (k : Nat) : ConSound Go.Proofs.Try.prog 53 (con k) := con_sound (Γ := Γ) (fn := Go.Proofs.Try.f53) (body := body) (cin := (con 0).cin) (F := F) (T := T) follows (by kernel_rfl) (by kernel_rfl) (by kernel_rfl) (by kernel_rfl) (by kernel_rfl) (by decide +kernel) (by kernel_rfl) (by kernel_rfl) (tzero ⟨fun x => rfl, trivial⟩) k (fun m _ => okΓ m) (fun m _ => tstep ⟨fun x => s4 m x, trivial⟩) (fun x y h => (main k x).symm.trans h)
end convexpl_made
namespace convexpl_Convolve
noncomputable abbrev con (k : Nat) : Con := ⟨⟨[(0, .av Y2), (1, .av Y2)], []⟩, ⟨[(0, .av Y2), (1, .l (.val (.int .i64)))], []⟩, fun x => convexpl_Convolve.f k x.1 x.2⟩
noncomputable abbrev Γ (k : Nat) : FuncId → Option Con := look [(53, convexpl_made.con k), (60, convexpl_both.con k), (61, slices_Concat_api_ConvexPiece.con k)]
abbrev F : Fin Go.Proofs.Try.prog := ⟨⟨[(0, .av Y2), (1, .l (.val (.int .i64)))], []⟩, [], [.cell 4 32, .tmp 5]⟩
noncomputable abbrev Tl (k : Nat) : List (Nat × Hint (prods F.cout.tys)) := []
noncomputable abbrev T (k : Nat) : Nat → Option (Hint (prods F.cout.tys)) := look (Tl k)
noncomputable abbrev body : Code := Go.Proofs.Try.f30.body.getD .skip
theorem main (k : Nat) (x : prods (con 0).cin.tys) : convexpl_Convolve.f k x.1 x.2 = goK (Γ k) F (T k) 2000 [.code body] ((con 0).cin.st x) := by kernel_rfl
theorem okΓ (k : Nat) : ΓOk Go.Proofs.Try.prog (Γ k) := Γcons (convexpl_made.ok k) ⟨Go.Proofs.Try.f53, by kernel_rfl, by kernel_rfl, by kernel_rfl⟩ (Γcons (convexpl_both.ok k) ⟨Go.Proofs.Try.f60, by kernel_rfl, by kernel_rfl, by kernel_rfl⟩ (Γcons (slices_Concat_api_ConvexPiece.ok k) ⟨Go.Proofs.Try.f61, by kernel_rfl, by kernel_rfl, by kernel_rfl⟩ (Γnil)))
theorem ok (k : Nat) : ConSound Go.Proofs.Try.prog 30 (con k) := con_sound (Γ := Γ) (fn := Go.Proofs.Try.f30) (body := body) (cin := (con 0).cin) (F := F) (T := T) follows (by kernel_rfl) (by kernel_rfl) (by kernel_rfl) (by kernel_rfl) (by kernel_rfl) (by decide +kernel) (by kernel_rfl) (by kernel_rfl) (tzero trivial) k (fun m _ => okΓ m) (fun m _ => tstep trivial) (fun x y h => (main k x).symm.trans h)
end convexpl_Convolve
namespace convexpl_high
noncomputable abbrev con (k : Nat) : Con := ⟨⟨[(0, .av Y2)], []⟩, ⟨[(0, .l (.val (.int .i64)))], []⟩, fun x => convexpl_high.f k x⟩
noncomputable abbrev Γ (k : Nat) : FuncId → Option Con := look []
abbrev F : Fin Go.Proofs.Try.prog := ⟨⟨[(0, .l (.val (.int .i64)))], []⟩, [], [.tmp 2]⟩
abbrev c3 : Cut := ⟨[(3, .l (.val (.int .i64))), (9, .l (.val (.list 60 Y0))), (10, .l (.val (.int .i64))), (11, .l (.val (.int .i64)))], []⟩
noncomputable abbrev Tl (k : Nat) : List (Nat × Hint (prods F.cout.tys)) := [(3, ⟨c3, fun x => convexpl_high.l3 k x.1 x.2.1 x.2.2.1 x.2.2.2⟩)]
noncomputable abbrev T (k : Nat) : Nat → Option (Hint (prods F.cout.tys)) := look (Tl k)
noncomputable abbrev body : Code := Go.Proofs.Try.f52.body.getD .skip
theorem s3 (k : Nat) (x : prods c3.tys) : convexpl_high.l3 (k + 1) x.1 x.2.1 x.2.2.1 x.2.2.2 = segK (Γ k) F (T k) body 3 (c3.st x) := by kernel_rfl
theorem main (k : Nat) (x : prods (con 0).cin.tys) : convexpl_high.f k x = goK (Γ k) F (T k) 2000 [.code body] ((con 0).cin.st x) := by kernel_rfl
theorem okΓ (k : Nat) : ΓOk Go.Proofs.Try.prog (Γ k) := Γnil
theorem ok (k : Nat) : ConSound Go.Proofs.Try.prog 52 (con k) := con_sound (Γ := Γ) (fn := Go.Proofs.Try.f52) (body := body) (cin := (con 0).cin) (F := F) (T := T) follows (by kernel_rfl) (by kernel_rfl) (by kernel_rfl) (by kernel_rfl) (by kernel_rfl) (by decide +kernel) (by kernel_rfl) (by kernel_rfl) (tzero ⟨fun x => rfl, trivial⟩) k (fun m _ => okΓ m) (fun m _ => tstep ⟨fun x => s3 m x, trivial⟩) (fun x y h => (main k x).symm.trans h)
end convexpl_high
namespace convexpl_value
noncomputable abbrev con (k : Nat) : Con := ⟨⟨[(0, .av Y2), (1, .l (.val (.int .i64)))], []⟩, ⟨[(0, .l (.val (.int .i64)))], []⟩, fun x => convexpl_value.f k x.1 x.2⟩
noncomputable abbrev Γ (k : Nat) : FuncId → Option Con := look []
abbrev F : Fin Go.Proofs.Try.prog := ⟨⟨[(0, .l (.val (.int .i64)))], []⟩, [], [.tmp 4]⟩
abbrev c3 : Cut := ⟨[(1, .l (.val (.int .i64))), (5, .l (.val (.int .i64))), (6, .l (.val (.int .i64))), (15, .l (.val (.list 60 Y0))), (16, .l (.val (.int .i64))), (17, .l (.val (.int .i64)))], []⟩
noncomputable abbrev Tl (k : Nat) : List (Nat × Hint (prods F.cout.tys)) := [(3, ⟨c3, fun x => convexpl_value.l3 k x.1 x.2.1 x.2.2.1 x.2.2.2.1 x.2.2.2.2.1 x.2.2.2.2.2⟩)]
noncomputable abbrev T (k : Nat) : Nat → Option (Hint (prods F.cout.tys)) := look (Tl k)
noncomputable abbrev body : Code := Go.Proofs.Try.f54.body.getD .skip
theorem s3 (k : Nat) (x : prods c3.tys) : convexpl_value.l3 (k + 1) x.1 x.2.1 x.2.2.1 x.2.2.2.1 x.2.2.2.2.1 x.2.2.2.2.2 = segK (Γ k) F (T k) body 3 (c3.st x) := by kernel_rfl
theorem main (k : Nat) (x : prods (con 0).cin.tys) : convexpl_value.f k x.1 x.2 = goK (Γ k) F (T k) 2000 [.code body] ((con 0).cin.st x) := by kernel_rfl
theorem okΓ (k : Nat) : ΓOk Go.Proofs.Try.prog (Γ k) := Γnil
theorem ok (k : Nat) : ConSound Go.Proofs.Try.prog 54 (con k) := con_sound (Γ := Γ) (fn := Go.Proofs.Try.f54) (body := body) (cin := (con 0).cin) (F := F) (T := T) follows (by kernel_rfl) (by kernel_rfl) (by kernel_rfl) (by kernel_rfl) (by kernel_rfl) (by decide +kernel) (by kernel_rfl) (by kernel_rfl) (tzero ⟨fun x => rfl, trivial⟩) k (fun m _ => okΓ m) (fun m _ => tstep ⟨fun x => s3 m x, trivial⟩) (fun x y h => (main k x).symm.trans h)
end convexpl_value
namespace convexpl_cut
noncomputable abbrev con (k : Nat) : Con := ⟨⟨[(0, .av Y2), (1, .l (.val (.int .i64))), (2, .l (.val (.int .i64)))], []⟩, ⟨[(0, .l (.row 0))], [(0, .row 60 Y0)]⟩, fun x => convexpl_cut.f k x.1 x.2.1 x.2.2⟩
noncomputable abbrev Γ (k : Nat) : FuncId → Option Con := look []
abbrev F : Fin Go.Proofs.Try.prog := ⟨⟨[(0, .l (.row 0))], [(0, .row 60 Y0)]⟩, [], [.tmp 6]⟩
abbrev c4 : Cut := ⟨[(1, .l (.val (.int .i64))), (2, .l (.val (.int .i64))), (7, .l (.row 7000500)), (8, .l (.val (.int .i64))), (16, .l (.val (.list 60 Y0))), (17, .l (.val (.int .i64))), (18, .l (.val (.int .i64)))], [(7000500, .row 60 Y0)]⟩
noncomputable abbrev Tl (k : Nat) : List (Nat × Hint (prods F.cout.tys)) := [(4, ⟨c4, fun x => convexpl_cut.l4 k x.1 x.2.1 x.2.2.1 x.2.2.2.1 x.2.2.2.2.1 x.2.2.2.2.2.1 x.2.2.2.2.2.2⟩)]
noncomputable abbrev T (k : Nat) : Nat → Option (Hint (prods F.cout.tys)) := look (Tl k)
noncomputable abbrev body : Code := Go.Proofs.Try.f55.body.getD .skip
theorem s4 (k : Nat) (x : prods c4.tys) : convexpl_cut.l4 (k + 1) x.1 x.2.1 x.2.2.1 x.2.2.2.1 x.2.2.2.2.1 x.2.2.2.2.2.1 x.2.2.2.2.2.2 = segK (Γ k) F (T k) body 4 (c4.st x) := by kernel_rfl
theorem main (k : Nat) (x : prods (con 0).cin.tys) : convexpl_cut.f k x.1 x.2.1 x.2.2 = goK (Γ k) F (T k) 2000 [.code body] ((con 0).cin.st x) := by kernel_rfl
theorem okΓ (k : Nat) : ΓOk Go.Proofs.Try.prog (Γ k) := Γnil
theorem ok (k : Nat) : ConSound Go.Proofs.Try.prog 55 (con k) := con_sound (Γ := Γ) (fn := Go.Proofs.Try.f55) (body := body) (cin := (con 0).cin) (F := F) (T := T) follows (by kernel_rfl) (by kernel_rfl) (by kernel_rfl) (by kernel_rfl) (by kernel_rfl) (by decide +kernel) (by kernel_rfl) (by kernel_rfl) (tzero ⟨fun x => rfl, trivial⟩) k (fun m _ => okΓ m) (fun m _ => tstep ⟨fun x => s4 m x, trivial⟩) (fun x y h => (main k x).symm.trans h)
end convexpl_cut
namespace convexpl_Restrict
noncomputable abbrev con (k : Nat) : Con := ⟨⟨[(0, .av Y2), (1, .l (.val (.int .i64))), (2, .l (.val (.int .i64)))], []⟩, ⟨[(0, .av Y2), (1, .l (.val (.int .i64)))], []⟩, fun x => convexpl_Restrict.f k x.1 x.2.1 x.2.2⟩
noncomputable abbrev Γ (k : Nat) : FuncId → Option Con := look [(51, convexpl_Check.con k), (52, convexpl_high.con k), (53, convexpl_made.con k), (54, convexpl_value.con k), (55, convexpl_cut.con k)]
abbrev F : Fin Go.Proofs.Try.prog := ⟨⟨[(0, .av Y2), (1, .l (.val (.int .i64)))], []⟩, [], [.cell 6 32, .tmp 7]⟩
noncomputable abbrev Tl (k : Nat) : List (Nat × Hint (prods F.cout.tys)) := []
noncomputable abbrev T (k : Nat) : Nat → Option (Hint (prods F.cout.tys)) := look (Tl k)
noncomputable abbrev body : Code := Go.Proofs.Try.f22.body.getD .skip
theorem main (k : Nat) (x : prods (con 0).cin.tys) : convexpl_Restrict.f k x.1 x.2.1 x.2.2 = goK (Γ k) F (T k) 2000 [.code body] ((con 0).cin.st x) := by kernel_rfl
theorem okΓ (k : Nat) : ΓOk Go.Proofs.Try.prog (Γ k) := Γcons (convexpl_Check.ok k) ⟨Go.Proofs.Try.f51, by kernel_rfl, by kernel_rfl, by kernel_rfl⟩ (Γcons (convexpl_high.ok k) ⟨Go.Proofs.Try.f52, by kernel_rfl, by kernel_rfl, by kernel_rfl⟩ (Γcons (convexpl_made.ok k) ⟨Go.Proofs.Try.f53, by kernel_rfl, by kernel_rfl, by kernel_rfl⟩ (Γcons (convexpl_value.ok k) ⟨Go.Proofs.Try.f54, by kernel_rfl, by kernel_rfl, by kernel_rfl⟩ (Γcons (convexpl_cut.ok k) ⟨Go.Proofs.Try.f55, by kernel_rfl, by kernel_rfl, by kernel_rfl⟩ (Γnil)))))
theorem ok (k : Nat) : ConSound Go.Proofs.Try.prog 22 (con k) := con_sound (Γ := Γ) (fn := Go.Proofs.Try.f22) (body := body) (cin := (con 0).cin) (F := F) (T := T) follows (by kernel_rfl) (by kernel_rfl) (by kernel_rfl) (by kernel_rfl) (by kernel_rfl) (by decide +kernel) (by kernel_rfl) (by kernel_rfl) (tzero trivial) k (fun m _ => okΓ m) (fun m _ => tstep trivial) (fun x y h => (main k x).symm.trans h)
end convexpl_Restrict
namespace storage_values
noncomputable abbrev con (k : Nat) : Con := ⟨⟨[(0, .av Y5), (1, .l (.val (.list 3 (.int .i64))))], []⟩, ⟨[(0, .l (.val (.list 32 Y2))), (1, .l (.val (.int .i64)))], []⟩, fun x => storage_values.f k x.1 x.2⟩
noncomputable abbrev Γ (k : Nat) : FuncId → Option Con := look [(22, convexpl_Restrict.con k), (30, convexpl_Convolve.con k), (76, storage_trade.con k)]
abbrev F : Fin Go.Proofs.Try.prog := ⟨⟨[(0, .l (.val (.list 32 Y2))), (1, .l (.val (.int .i64)))], []⟩, [], [.tmp 4, .tmp 5]⟩
abbrev c3 : Cut := ⟨[(2, .l (.ptr 7000000 0)), (6, .l (.row 7000001)), (15, .l (.val (.list 3 (.int .i64)))), (16, .l (.val (.int .i64))), (17, .l (.val (.int .i64)))], [(7000000, .box 57 [.val (.int .i64), .val (.int .i64), .val (.int .i64), .val (.int .i64), .val (.int .i64)]), (7000001, .row 32 Y2)]⟩
noncomputable abbrev Tl (k : Nat) : List (Nat × Hint (prods F.cout.tys)) := [(3, ⟨c3, fun x => storage_values.l3 k x.1 x.2.1 x.2.2.1 x.2.2.2.1 x.2.2.2.2.1 x.2.2.2.2.2.1 x.2.2.2.2.2.2.1 x.2.2.2.2.2.2.2.1 x.2.2.2.2.2.2.2.2⟩)]
noncomputable abbrev T (k : Nat) : Nat → Option (Hint (prods F.cout.tys)) := look (Tl k)
noncomputable abbrev body : Code := Go.Proofs.Try.f67.body.getD .skip
theorem s3 (k : Nat) (x : prods c3.tys) : storage_values.l3 (k + 1) x.1 x.2.1 x.2.2.1 x.2.2.2.1 x.2.2.2.2.1 x.2.2.2.2.2.1 x.2.2.2.2.2.2.1 x.2.2.2.2.2.2.2.1 x.2.2.2.2.2.2.2.2 = segK (Γ k) F (T k) body 3 (c3.st x) := by kernel_rfl
theorem main (k : Nat) (x : prods (con 0).cin.tys) : storage_values.f k x.1 x.2 = goK (Γ k) F (T k) 2000 [.code body] ((con 0).cin.st x) := by kernel_rfl
theorem okΓ (k : Nat) : ΓOk Go.Proofs.Try.prog (Γ k) := Γcons (convexpl_Restrict.ok k) ⟨Go.Proofs.Try.f22, by kernel_rfl, by kernel_rfl, by kernel_rfl⟩ (Γcons (convexpl_Convolve.ok k) ⟨Go.Proofs.Try.f30, by kernel_rfl, by kernel_rfl, by kernel_rfl⟩ (Γcons (storage_trade.ok k) ⟨Go.Proofs.Try.f76, by kernel_rfl, by kernel_rfl, by kernel_rfl⟩ (Γnil)))
theorem ok (k : Nat) : ConSound Go.Proofs.Try.prog 67 (con k) := con_sound (Γ := Γ) (fn := Go.Proofs.Try.f67) (body := body) (cin := (con 0).cin) (F := F) (T := T) follows (by kernel_rfl) (by kernel_rfl) (by kernel_rfl) (by kernel_rfl) (by kernel_rfl) (by decide +kernel) (by kernel_rfl) (by kernel_rfl) (tzero ⟨fun x => rfl, trivial⟩) k (fun m _ => okΓ m) (fun m _ => tstep ⟨fun x => s3 m x, trivial⟩) (fun x y h => (main k x).symm.trans h)
end storage_values
namespace storage_Value
noncomputable abbrev con (k : Nat) : Con := ⟨⟨[(0, .av Y5), (1, .l (.val (.list 3 (.int .i64))))], []⟩, ⟨[(0, .av Y2), (1, .l (.val (.int .i64)))], []⟩, fun x => storage_Value.f k x.1 x.2⟩
noncomputable abbrev Γ (k : Nat) : FuncId → Option Con := look [(65, storage_Check.con k), (66, storage_checkPrices.con k), (67, storage_values.con k)]
abbrev F : Fin Go.Proofs.Try.prog := ⟨⟨[(0, .av Y2), (1, .l (.val (.int .i64)))], []⟩, [], [.cell 4 32, .tmp 5]⟩
noncomputable abbrev Tl (k : Nat) : List (Nat × Hint (prods F.cout.tys)) := []
noncomputable abbrev T (k : Nat) : Nat → Option (Hint (prods F.cout.tys)) := look (Tl k)
noncomputable abbrev body : Code := Go.Proofs.Try.f35.body.getD .skip
theorem main (k : Nat) (x : prods (con 0).cin.tys) : storage_Value.f k x.1 x.2 = goK (Γ k) F (T k) 2000 [.code body] ((con 0).cin.st x) := by kernel_rfl
theorem okΓ (k : Nat) : ΓOk Go.Proofs.Try.prog (Γ k) := Γcons (storage_Check.ok k) ⟨Go.Proofs.Try.f65, by kernel_rfl, by kernel_rfl, by kernel_rfl⟩ (Γcons (storage_checkPrices.ok k) ⟨Go.Proofs.Try.f66, by kernel_rfl, by kernel_rfl, by kernel_rfl⟩ (Γcons (storage_values.ok k) ⟨Go.Proofs.Try.f67, by kernel_rfl, by kernel_rfl, by kernel_rfl⟩ (Γnil)))
theorem ok (k : Nat) : ConSound Go.Proofs.Try.prog 35 (con k) := con_sound (Γ := Γ) (fn := Go.Proofs.Try.f35) (body := body) (cin := (con 0).cin) (F := F) (T := T) follows (by kernel_rfl) (by kernel_rfl) (by kernel_rfl) (by kernel_rfl) (by kernel_rfl) (by decide +kernel) (by kernel_rfl) (by kernel_rfl) (tzero trivial) k (fun m _ => okΓ m) (fun m _ => tstep trivial) (fun x y h => (main k x).symm.trans h)
end storage_Value
namespace storage_Run
noncomputable abbrev con (k : Nat) : Con := ⟨⟨[(0, .av Y5), (1, .l (.val (.list 3 (.int .i64)))), (2, .l (.val (.list 3 (.int .i64))))], []⟩, ⟨[(0, .l (.val (.list 3 (.int .i64)))), (1, .l (.val (.int .i64))), (2, .l (.val (.int .i64)))], []⟩, fun x => storage_Run.f k x.1 x.2.1 x.2.2⟩
noncomputable abbrev Γ (k : Nat) : FuncId → Option Con := look [(65, storage_Check.con k), (66, storage_checkPrices.con k)]
abbrev F : Fin Go.Proofs.Try.prog := ⟨⟨[(0, .l (.val (.list 3 (.int .i64)))), (1, .l (.val (.int .i64))), (2, .l (.val (.int .i64)))], []⟩, [], [.tmp 6, .tmp 7, .tmp 8]⟩
abbrev c12 : Cut := ⟨[(1, .l (.val (.list 3 (.int .i64)))), (3, .l (.ptr 7000000 0)), (11, .l (.val (.int .i64))), (12, .l (.val (.int .i64))), (13, .l (.row 7000501)), (33, .l (.val (.list 3 (.int .i64)))), (34, .l (.val (.int .i64))), (35, .l (.val (.int .i64)))], [(7000000, .box 57 [.val (.int .i64), .val (.int .i64), .val (.int .i64), .val (.int .i64), .val (.int .i64)]), (7000501, .row 3 (.int .i64))]⟩
noncomputable abbrev Tl (k : Nat) : List (Nat × Hint (prods F.cout.tys)) := [(12, ⟨c12, fun x => storage_Run.l12 k x.1 x.2.1 x.2.2.1 x.2.2.2.1 x.2.2.2.2.1 x.2.2.2.2.2.1 x.2.2.2.2.2.2.1 x.2.2.2.2.2.2.2.1 x.2.2.2.2.2.2.2.2.1 x.2.2.2.2.2.2.2.2.2.1 x.2.2.2.2.2.2.2.2.2.2.1 x.2.2.2.2.2.2.2.2.2.2.2⟩)]
noncomputable abbrev T (k : Nat) : Nat → Option (Hint (prods F.cout.tys)) := look (Tl k)
noncomputable abbrev body : Code := Go.Proofs.Try.f36.body.getD .skip
theorem s12 (k : Nat) (x : prods c12.tys) : storage_Run.l12 (k + 1) x.1 x.2.1 x.2.2.1 x.2.2.2.1 x.2.2.2.2.1 x.2.2.2.2.2.1 x.2.2.2.2.2.2.1 x.2.2.2.2.2.2.2.1 x.2.2.2.2.2.2.2.2.1 x.2.2.2.2.2.2.2.2.2.1 x.2.2.2.2.2.2.2.2.2.2.1 x.2.2.2.2.2.2.2.2.2.2.2 = segK (Γ k) F (T k) body 12 (c12.st x) := by kernel_rfl
theorem main (k : Nat) (x : prods (con 0).cin.tys) : storage_Run.f k x.1 x.2.1 x.2.2 = goK (Γ k) F (T k) 2000 [.code body] ((con 0).cin.st x) := by kernel_rfl
theorem okΓ (k : Nat) : ΓOk Go.Proofs.Try.prog (Γ k) := Γcons (storage_Check.ok k) ⟨Go.Proofs.Try.f65, by kernel_rfl, by kernel_rfl, by kernel_rfl⟩ (Γcons (storage_checkPrices.ok k) ⟨Go.Proofs.Try.f66, by kernel_rfl, by kernel_rfl, by kernel_rfl⟩ (Γnil))
theorem ok (k : Nat) : ConSound Go.Proofs.Try.prog 36 (con k) := con_sound (Γ := Γ) (fn := Go.Proofs.Try.f36) (body := body) (cin := (con 0).cin) (F := F) (T := T) follows (by kernel_rfl) (by kernel_rfl) (by kernel_rfl) (by kernel_rfl) (by kernel_rfl) (by decide +kernel) (by kernel_rfl) (by kernel_rfl) (tzero ⟨fun x => rfl, trivial⟩) k (fun m _ => okΓ m) (fun m _ => tstep ⟨fun x => s12 m x, trivial⟩) (fun x y h => (main k x).symm.trans h)
end storage_Run
namespace gridhallkeep3_StorageValue
noncomputable abbrev con (k : Nat) : Con := ⟨⟨[(0, .av Y5), (1, .l (.val (.list 3 (.int .i64)))), (2, .l (.val (.list 3 (.int .i64))))], []⟩, ⟨[(0, .l (.val .bool))], []⟩, fun x => gridhallkeep3_StorageValue.f k x.1 x.2.1 x.2.2⟩
noncomputable abbrev Γ (k : Nat) : FuncId → Option Con := look [(35, storage_Value.con k), (36, storage_Run.con k)]
abbrev F : Fin Go.Proofs.Try.prog := ⟨⟨[(0, .l (.val .bool))], []⟩, [], [.tmp 6]⟩
abbrev c13 : Cut := ⟨[(14, .l (.val (.list 3 (.int .i64)))), (15, .l (.val (.int .i64))), (17, .l (.val (.int .i64))), (18, .l (.val (.int .i64))), (101, .l (.val (.list 60 Y0))), (102, .l (.val (.int .i64))), (103, .l (.val (.int .i64)))], []⟩
noncomputable abbrev Tl (k : Nat) : List (Nat × Hint (prods F.cout.tys)) := [(13, ⟨c13, fun x => gridhallkeep3_StorageValue.l13 k x.1 x.2.1 x.2.2.1 x.2.2.2.1 x.2.2.2.2.1 x.2.2.2.2.2.1 x.2.2.2.2.2.2⟩)]
noncomputable abbrev T (k : Nat) : Nat → Option (Hint (prods F.cout.tys)) := look (Tl k)
noncomputable abbrev body : Code := Go.Proofs.Try.f9.body.getD .skip
theorem s13 (k : Nat) (x : prods c13.tys) : gridhallkeep3_StorageValue.l13 (k + 1) x.1 x.2.1 x.2.2.1 x.2.2.2.1 x.2.2.2.2.1 x.2.2.2.2.2.1 x.2.2.2.2.2.2 = segK (Γ k) F (T k) body 13 (c13.st x) := by kernel_rfl
theorem main (k : Nat) (x : prods (con 0).cin.tys) : gridhallkeep3_StorageValue.f k x.1 x.2.1 x.2.2 = goK (Γ k) F (T k) 2000 [.code body] ((con 0).cin.st x) := by kernel_rfl
theorem okΓ (k : Nat) : ΓOk Go.Proofs.Try.prog (Γ k) := Γcons (storage_Value.ok k) ⟨Go.Proofs.Try.f35, by kernel_rfl, by kernel_rfl, by kernel_rfl⟩ (Γcons (storage_Run.ok k) ⟨Go.Proofs.Try.f36, by kernel_rfl, by kernel_rfl, by kernel_rfl⟩ (Γnil))
theorem ok (k : Nat) : ConSound Go.Proofs.Try.prog 9 (con k) := con_sound (Γ := Γ) (fn := Go.Proofs.Try.f9) (body := body) (cin := (con 0).cin) (F := F) (T := T) follows (by kernel_rfl) (by kernel_rfl) (by kernel_rfl) (by kernel_rfl) (by kernel_rfl) (by decide +kernel) (by kernel_rfl) (by kernel_rfl) (tzero ⟨fun x => rfl, trivial⟩) k (fun m _ => okΓ m) (fun m _ => tstep ⟨fun x => s13 m x, trivial⟩) (fun x y h => (main k x).symm.trans h)
end gridhallkeep3_StorageValue
namespace convexpl_Least
noncomputable abbrev con (k : Nat) : Con := ⟨⟨[(0, .av Y2)], []⟩, ⟨[(0, .l (.val (.int .i64))), (1, .l (.val (.int .i64))), (2, .l (.val (.int .i64)))], []⟩, fun x => convexpl_Least.f k x⟩
noncomputable abbrev Γ (k : Nat) : FuncId → Option Con := look [(51, convexpl_Check.con k)]
abbrev F : Fin Go.Proofs.Try.prog := ⟨⟨[(0, .l (.val (.int .i64))), (1, .l (.val (.int .i64))), (2, .l (.val (.int .i64)))], []⟩, [], [.tmp 2, .tmp 3, .tmp 4]⟩
abbrev c6 : Cut := ⟨[(6, .l (.val (.int .i64))), (7, .l (.val (.int .i64))), (20, .l (.val (.list 60 Y0))), (21, .l (.val (.int .i64))), (22, .l (.val (.int .i64)))], []⟩
noncomputable abbrev Tl (k : Nat) : List (Nat × Hint (prods F.cout.tys)) := [(6, ⟨c6, fun x => convexpl_Least.l6 k x.1 x.2.1 x.2.2.1 x.2.2.2.1 x.2.2.2.2⟩)]
noncomputable abbrev T (k : Nat) : Nat → Option (Hint (prods F.cout.tys)) := look (Tl k)
noncomputable abbrev body : Code := Go.Proofs.Try.f70.body.getD .skip
theorem s6 (k : Nat) (x : prods c6.tys) : convexpl_Least.l6 (k + 1) x.1 x.2.1 x.2.2.1 x.2.2.2.1 x.2.2.2.2 = segK (Γ k) F (T k) body 6 (c6.st x) := by kernel_rfl
theorem main (k : Nat) (x : prods (con 0).cin.tys) : convexpl_Least.f k x = goK (Γ k) F (T k) 2000 [.code body] ((con 0).cin.st x) := by kernel_rfl
theorem okΓ (k : Nat) : ΓOk Go.Proofs.Try.prog (Γ k) := Γcons (convexpl_Check.ok k) ⟨Go.Proofs.Try.f51, by kernel_rfl, by kernel_rfl, by kernel_rfl⟩ (Γnil)
theorem ok (k : Nat) : ConSound Go.Proofs.Try.prog 70 (con k) := con_sound (Γ := Γ) (fn := Go.Proofs.Try.f70) (body := body) (cin := (con 0).cin) (F := F) (T := T) follows (by kernel_rfl) (by kernel_rfl) (by kernel_rfl) (by kernel_rfl) (by kernel_rfl) (by decide +kernel) (by kernel_rfl) (by kernel_rfl) (tzero ⟨fun x => rfl, trivial⟩) k (fun m _ => okΓ m) (fun m _ => tstep ⟨fun x => s6 m x, trivial⟩) (fun x y h => (main k x).symm.trans h)
end convexpl_Least
namespace convexpl_Turn
noncomputable abbrev con (k : Nat) : Con := ⟨⟨[(0, .av Y2)], []⟩, ⟨[(0, .av Y2), (1, .l (.val (.int .i64)))], []⟩, fun x => convexpl_Turn.f k x⟩
noncomputable abbrev Γ (k : Nat) : FuncId → Option Con := look [(51, convexpl_Check.con k), (52, convexpl_high.con k), (53, convexpl_made.con k), (54, convexpl_value.con k)]
abbrev F : Fin Go.Proofs.Try.prog := ⟨⟨[(0, .av Y2), (1, .l (.val (.int .i64)))], []⟩, [], [.cell 2 32, .tmp 3]⟩
abbrev c7 : Cut := ⟨[(1, .l (.ptr 7000000 0)), (2, .l (.ptr 7000001 0)), (5, .l (.val (.int .i64))), (6, .l (.row 7000502)), (18, .l (.val (.list 60 Y0))), (19, .l (.val (.int .i64))), (20, .l (.val (.int .i64)))], [(7000000, .box 32 [.val (.int .i64), .val (.int .i64), .val (.list 60 Y0)]), (7000001, .box 32 [.val (.int .i64), .val (.int .i64), .nils]), (7000502, .row 60 Y0)]⟩
noncomputable abbrev Tl (k : Nat) : List (Nat × Hint (prods F.cout.tys)) := [(7, ⟨c7, fun x => convexpl_Turn.l7 k x.1 x.2.1 x.2.2.1 x.2.2.2.1 x.2.2.2.2.1 x.2.2.2.2.2.1 x.2.2.2.2.2.2.1 x.2.2.2.2.2.2.2.1 x.2.2.2.2.2.2.2.2.1 x.2.2.2.2.2.2.2.2.2⟩)]
noncomputable abbrev T (k : Nat) : Nat → Option (Hint (prods F.cout.tys)) := look (Tl k)
noncomputable abbrev body : Code := Go.Proofs.Try.f25.body.getD .skip
theorem s7 (k : Nat) (x : prods c7.tys) : convexpl_Turn.l7 (k + 1) x.1 x.2.1 x.2.2.1 x.2.2.2.1 x.2.2.2.2.1 x.2.2.2.2.2.1 x.2.2.2.2.2.2.1 x.2.2.2.2.2.2.2.1 x.2.2.2.2.2.2.2.2.1 x.2.2.2.2.2.2.2.2.2 = segK (Γ k) F (T k) body 7 (c7.st x) := by kernel_rfl
theorem main (k : Nat) (x : prods (con 0).cin.tys) : convexpl_Turn.f k x = goK (Γ k) F (T k) 2000 [.code body] ((con 0).cin.st x) := by kernel_rfl
theorem okΓ (k : Nat) : ΓOk Go.Proofs.Try.prog (Γ k) := Γcons (convexpl_Check.ok k) ⟨Go.Proofs.Try.f51, by kernel_rfl, by kernel_rfl, by kernel_rfl⟩ (Γcons (convexpl_high.ok k) ⟨Go.Proofs.Try.f52, by kernel_rfl, by kernel_rfl, by kernel_rfl⟩ (Γcons (convexpl_made.ok k) ⟨Go.Proofs.Try.f53, by kernel_rfl, by kernel_rfl, by kernel_rfl⟩ (Γcons (convexpl_value.ok k) ⟨Go.Proofs.Try.f54, by kernel_rfl, by kernel_rfl, by kernel_rfl⟩ (Γnil))))
theorem ok (k : Nat) : ConSound Go.Proofs.Try.prog 25 (con k) := con_sound (Γ := Γ) (fn := Go.Proofs.Try.f25) (body := body) (cin := (con 0).cin) (F := F) (T := T) follows (by kernel_rfl) (by kernel_rfl) (by kernel_rfl) (by kernel_rfl) (by kernel_rfl) (by decide +kernel) (by kernel_rfl) (by kernel_rfl) (tzero ⟨fun x => rfl, trivial⟩) k (fun m _ => okΓ m) (fun m _ => tstep ⟨fun x => s7 m x, trivial⟩) (fun x y h => (main k x).symm.trans h)
end convexpl_Turn
namespace slices_Clone_api_ConvexPiece
noncomputable abbrev con (k : Nat) : Con := ⟨⟨[(0, .l (.val (.list 60 Y0)))], []⟩, ⟨[(0, .l (.row 0))], [(0, .row 60 Y0)]⟩, fun x => slices_Clone_api_ConvexPiece.f k x⟩
noncomputable abbrev Γ (k : Nat) : FuncId → Option Con := look []
abbrev F : Fin Go.Proofs.Try.prog := ⟨⟨[(0, .l (.row 0))], [(0, .row 60 Y0)]⟩, [], [.tmp 2]⟩
noncomputable abbrev Tl (k : Nat) : List (Nat × Hint (prods F.cout.tys)) := []
noncomputable abbrev T (k : Nat) : Nat → Option (Hint (prods F.cout.tys)) := look (Tl k)
noncomputable abbrev body : Code := Go.Proofs.Try.f58.body.getD .skip
theorem main (k : Nat) (x : prods (con 0).cin.tys) : slices_Clone_api_ConvexPiece.f k x = goK (Γ k) F (T k) 2000 [.code body] ((con 0).cin.st x) := by kernel_rfl
theorem okΓ (k : Nat) : ΓOk Go.Proofs.Try.prog (Γ k) := Γnil
theorem ok (k : Nat) : ConSound Go.Proofs.Try.prog 58 (con k) := con_sound (Γ := Γ) (fn := Go.Proofs.Try.f58) (body := body) (cin := (con 0).cin) (F := F) (T := T) follows (by kernel_rfl) (by kernel_rfl) (by kernel_rfl) (by kernel_rfl) (by kernel_rfl) (by decide +kernel) (by kernel_rfl) (by kernel_rfl) (tzero trivial) k (fun m _ => okΓ m) (fun m _ => tstep trivial) (fun x y h => (main k x).symm.trans h)
end slices_Clone_api_ConvexPiece
namespace convexpl_Move
noncomputable abbrev con (k : Nat) : Con := ⟨⟨[(0, .av Y2), (1, .l (.val (.int .i64))), (2, .l (.val (.int .i64)))], []⟩, ⟨[(0, .av Y2), (1, .l (.val (.int .i64)))], []⟩, fun x => convexpl_Move.f k x.1 x.2.1 x.2.2⟩
noncomputable abbrev Γ (k : Nat) : FuncId → Option Con := look [(51, convexpl_Check.con k), (53, convexpl_made.con k), (58, slices_Clone_api_ConvexPiece.con k)]
abbrev F : Fin Go.Proofs.Try.prog := ⟨⟨[(0, .av Y2), (1, .l (.val (.int .i64)))], []⟩, [], [.cell 6 32, .tmp 7]⟩
noncomputable abbrev Tl (k : Nat) : List (Nat × Hint (prods F.cout.tys)) := []
noncomputable abbrev T (k : Nat) : Nat → Option (Hint (prods F.cout.tys)) := look (Tl k)
noncomputable abbrev body : Code := Go.Proofs.Try.f27.body.getD .skip
theorem main (k : Nat) (x : prods (con 0).cin.tys) : convexpl_Move.f k x.1 x.2.1 x.2.2 = goK (Γ k) F (T k) 2000 [.code body] ((con 0).cin.st x) := by kernel_rfl
theorem okΓ (k : Nat) : ΓOk Go.Proofs.Try.prog (Γ k) := Γcons (convexpl_Check.ok k) ⟨Go.Proofs.Try.f51, by kernel_rfl, by kernel_rfl, by kernel_rfl⟩ (Γcons (convexpl_made.ok k) ⟨Go.Proofs.Try.f53, by kernel_rfl, by kernel_rfl, by kernel_rfl⟩ (Γcons (slices_Clone_api_ConvexPiece.ok k) ⟨Go.Proofs.Try.f58, by kernel_rfl, by kernel_rfl, by kernel_rfl⟩ (Γnil)))
theorem ok (k : Nat) : ConSound Go.Proofs.Try.prog 27 (con k) := con_sound (Γ := Γ) (fn := Go.Proofs.Try.f27) (body := body) (cin := (con 0).cin) (F := F) (T := T) follows (by kernel_rfl) (by kernel_rfl) (by kernel_rfl) (by kernel_rfl) (by kernel_rfl) (by decide +kernel) (by kernel_rfl) (by kernel_rfl) (tzero trivial) k (fun m _ => okΓ m) (fun m _ => tstep trivial) (fun x y h => (main k x).symm.trans h)
end convexpl_Move
namespace convexpl_shorter
noncomputable abbrev con (k : Nat) : Con := ⟨⟨[(0, .l (.val (.list 60 Y0))), (1, .l (.val (.int .i64)))], []⟩, ⟨[(0, .l (.val (.list 60 Y0)))], []⟩, fun x => convexpl_shorter.f k x.1 x.2⟩
noncomputable abbrev Γ (k : Nat) : FuncId → Option Con := look [(58, slices_Clone_api_ConvexPiece.con k)]
abbrev F : Fin Go.Proofs.Try.prog := ⟨⟨[(0, .l (.val (.list 60 Y0)))], []⟩, [], [.tmp 4]⟩
noncomputable abbrev Tl (k : Nat) : List (Nat × Hint (prods F.cout.tys)) := []
noncomputable abbrev T (k : Nat) : Nat → Option (Hint (prods F.cout.tys)) := look (Tl k)
noncomputable abbrev body : Code := Go.Proofs.Try.f64.body.getD .skip
theorem main (k : Nat) (x : prods (con 0).cin.tys) : convexpl_shorter.f k x.1 x.2 = goK (Γ k) F (T k) 2000 [.code body] ((con 0).cin.st x) := by kernel_rfl
theorem okΓ (k : Nat) : ΓOk Go.Proofs.Try.prog (Γ k) := Γcons (slices_Clone_api_ConvexPiece.ok k) ⟨Go.Proofs.Try.f58, by kernel_rfl, by kernel_rfl, by kernel_rfl⟩ (Γnil)
theorem ok (k : Nat) : ConSound Go.Proofs.Try.prog 64 (con k) := con_sound (Γ := Γ) (fn := Go.Proofs.Try.f64) (body := body) (cin := (con 0).cin) (F := F) (T := T) follows (by kernel_rfl) (by kernel_rfl) (by kernel_rfl) (by kernel_rfl) (by kernel_rfl) (by decide +kernel) (by kernel_rfl) (by kernel_rfl) (tzero trivial) k (fun m _ => okΓ m) (fun m _ => tstep trivial) (fun x y h => (main k x).symm.trans h)
end convexpl_shorter
namespace convexpl_Add
noncomputable abbrev con (k : Nat) : Con := ⟨⟨[(0, .av Y2), (1, .av Y2)], []⟩, ⟨[(0, .av Y2), (1, .l (.val (.int .i64)))], []⟩, fun x => convexpl_Add.f k x.1 x.2⟩
noncomputable abbrev Γ (k : Nat) : FuncId → Option Con := look [(52, convexpl_high.con k), (53, convexpl_made.con k), (54, convexpl_value.con k), (55, convexpl_cut.con k), (60, convexpl_both.con k), (64, convexpl_shorter.con k)]
abbrev F : Fin Go.Proofs.Try.prog := ⟨⟨[(0, .av Y2), (1, .l (.val (.int .i64)))], []⟩, [], [.cell 4 32, .tmp 5]⟩
abbrev c9 : Cut := ⟨[(2, .l (.ptr 7000000 0)), (3, .l (.ptr 7000001 0)), (4, .l (.ptr 7000002 0)), (7, .l (.val (.int .i64))), (9, .l (.val (.list 60 Y0))), (10, .l (.val (.list 60 Y0))), (11, .l (.row 7000505))], [(7000000, .box 32 [.val (.int .i64), .val (.int .i64), .val (.list 60 Y0)]), (7000001, .box 32 [.val (.int .i64), .val (.int .i64), .val (.list 60 Y0)]), (7000002, .box 32 [.val (.int .i64), .val (.int .i64), .nils]), (7000505, .row 60 Y0)]⟩
noncomputable abbrev Tl (k : Nat) : List (Nat × Hint (prods F.cout.tys)) := [(9, ⟨c9, fun x => convexpl_Add.l9 k x.1 x.2.1 x.2.2.1 x.2.2.2.1 x.2.2.2.2.1 x.2.2.2.2.2.1 x.2.2.2.2.2.2.1 x.2.2.2.2.2.2.2.1 x.2.2.2.2.2.2.2.2.1 x.2.2.2.2.2.2.2.2.2.1 x.2.2.2.2.2.2.2.2.2.2.1 x.2.2.2.2.2.2.2.2.2.2.2⟩)]
noncomputable abbrev T (k : Nat) : Nat → Option (Hint (prods F.cout.tys)) := look (Tl k)
noncomputable abbrev body : Code := Go.Proofs.Try.f34.body.getD .skip
theorem s9 (k : Nat) (x : prods c9.tys) : convexpl_Add.l9 (k + 1) x.1 x.2.1 x.2.2.1 x.2.2.2.1 x.2.2.2.2.1 x.2.2.2.2.2.1 x.2.2.2.2.2.2.1 x.2.2.2.2.2.2.2.1 x.2.2.2.2.2.2.2.2.1 x.2.2.2.2.2.2.2.2.2.1 x.2.2.2.2.2.2.2.2.2.2.1 x.2.2.2.2.2.2.2.2.2.2.2 = segK (Γ k) F (T k) body 9 (c9.st x) := by kernel_rfl
theorem main (k : Nat) (x : prods (con 0).cin.tys) : convexpl_Add.f k x.1 x.2 = goK (Γ k) F (T k) 2000 [.code body] ((con 0).cin.st x) := by kernel_rfl
theorem okΓ (k : Nat) : ΓOk Go.Proofs.Try.prog (Γ k) := Γcons (convexpl_high.ok k) ⟨Go.Proofs.Try.f52, by kernel_rfl, by kernel_rfl, by kernel_rfl⟩ (Γcons (convexpl_made.ok k) ⟨Go.Proofs.Try.f53, by kernel_rfl, by kernel_rfl, by kernel_rfl⟩ (Γcons (convexpl_value.ok k) ⟨Go.Proofs.Try.f54, by kernel_rfl, by kernel_rfl, by kernel_rfl⟩ (Γcons (convexpl_cut.ok k) ⟨Go.Proofs.Try.f55, by kernel_rfl, by kernel_rfl, by kernel_rfl⟩ (Γcons (convexpl_both.ok k) ⟨Go.Proofs.Try.f60, by kernel_rfl, by kernel_rfl, by kernel_rfl⟩ (Γcons (convexpl_shorter.ok k) ⟨Go.Proofs.Try.f64, by kernel_rfl, by kernel_rfl, by kernel_rfl⟩ (Γnil))))))
theorem ok (k : Nat) : ConSound Go.Proofs.Try.prog 34 (con k) := con_sound (Γ := Γ) (fn := Go.Proofs.Try.f34) (body := body) (cin := (con 0).cin) (F := F) (T := T) follows (by kernel_rfl) (by kernel_rfl) (by kernel_rfl) (by kernel_rfl) (by kernel_rfl) (by decide +kernel) (by kernel_rfl) (by kernel_rfl) (tzero ⟨fun x => rfl, trivial⟩) k (fun m _ => okΓ m) (fun m _ => tstep ⟨fun x => s9 m x, trivial⟩) (fun x y h => (main k x).symm.trans h)
end convexpl_Add
namespace storage_Best
noncomputable abbrev con (k : Nat) : Con := ⟨⟨[(0, .av Y5), (1, .l (.val (.list 3 (.int .i64))))], []⟩, ⟨[(0, .l (.val (.list 3 (.int .i64)))), (1, .l (.val (.int .i64))), (2, .l (.val (.int .i64)))], []⟩, fun x => storage_Best.f k x.1 x.2⟩
noncomputable abbrev Γ (k : Nat) : FuncId → Option Con := look [(22, convexpl_Restrict.con k), (25, convexpl_Turn.con k), (27, convexpl_Move.con k), (34, convexpl_Add.con k), (65, storage_Check.con k), (66, storage_checkPrices.con k), (67, storage_values.con k), (70, convexpl_Least.con k), (76, storage_trade.con k)]
abbrev F : Fin Go.Proofs.Try.prog := ⟨⟨[(0, .l (.val (.list 3 (.int .i64)))), (1, .l (.val (.int .i64))), (2, .l (.val (.int .i64)))], []⟩, [], [.tmp 4, .tmp 5, .tmp 6]⟩
abbrev c16 : Cut := ⟨[(1, .l (.val (.list 3 (.int .i64)))), (2, .l (.ptr 7000000 0)), (9, .l (.val (.list 32 Y2))), (12, .l (.val (.int .i64))), (13, .l (.val (.int .i64))), (15, .l (.row 7000001)), (16, .l (.val (.int .i64)))], [(7000000, .box 57 [.val (.int .i64), .val (.int .i64), .val (.int .i64), .val (.int .i64), .val (.int .i64)]), (7000001, .row 3 (.int .i64))]⟩
noncomputable abbrev Tl (k : Nat) : List (Nat × Hint (prods F.cout.tys)) := [(16, ⟨c16, fun x => storage_Best.l16 k x.1 x.2.1 x.2.2.1 x.2.2.2.1 x.2.2.2.2.1 x.2.2.2.2.2.1 x.2.2.2.2.2.2.1 x.2.2.2.2.2.2.2.1 x.2.2.2.2.2.2.2.2.1 x.2.2.2.2.2.2.2.2.2.1 x.2.2.2.2.2.2.2.2.2.2⟩)]
noncomputable abbrev T (k : Nat) : Nat → Option (Hint (prods F.cout.tys)) := look (Tl k)
noncomputable abbrev body : Code := Go.Proofs.Try.f44.body.getD .skip
theorem s16 (k : Nat) (x : prods c16.tys) : storage_Best.l16 (k + 1) x.1 x.2.1 x.2.2.1 x.2.2.2.1 x.2.2.2.2.1 x.2.2.2.2.2.1 x.2.2.2.2.2.2.1 x.2.2.2.2.2.2.2.1 x.2.2.2.2.2.2.2.2.1 x.2.2.2.2.2.2.2.2.2.1 x.2.2.2.2.2.2.2.2.2.2 = segK (Γ k) F (T k) body 16 (c16.st x) := by kernel_rfl
theorem main (k : Nat) (x : prods (con 0).cin.tys) : storage_Best.f k x.1 x.2 = goK (Γ k) F (T k) 2000 [.code body] ((con 0).cin.st x) := by kernel_rfl
theorem okΓ (k : Nat) : ΓOk Go.Proofs.Try.prog (Γ k) := Γcons (convexpl_Restrict.ok k) ⟨Go.Proofs.Try.f22, by kernel_rfl, by kernel_rfl, by kernel_rfl⟩ (Γcons (convexpl_Turn.ok k) ⟨Go.Proofs.Try.f25, by kernel_rfl, by kernel_rfl, by kernel_rfl⟩ (Γcons (convexpl_Move.ok k) ⟨Go.Proofs.Try.f27, by kernel_rfl, by kernel_rfl, by kernel_rfl⟩ (Γcons (convexpl_Add.ok k) ⟨Go.Proofs.Try.f34, by kernel_rfl, by kernel_rfl, by kernel_rfl⟩ (Γcons (storage_Check.ok k) ⟨Go.Proofs.Try.f65, by kernel_rfl, by kernel_rfl, by kernel_rfl⟩ (Γcons (storage_checkPrices.ok k) ⟨Go.Proofs.Try.f66, by kernel_rfl, by kernel_rfl, by kernel_rfl⟩ (Γcons (storage_values.ok k) ⟨Go.Proofs.Try.f67, by kernel_rfl, by kernel_rfl, by kernel_rfl⟩ (Γcons (convexpl_Least.ok k) ⟨Go.Proofs.Try.f70, by kernel_rfl, by kernel_rfl, by kernel_rfl⟩ (Γcons (storage_trade.ok k) ⟨Go.Proofs.Try.f76, by kernel_rfl, by kernel_rfl, by kernel_rfl⟩ (Γnil)))))))))
theorem ok (k : Nat) : ConSound Go.Proofs.Try.prog 44 (con k) := con_sound (Γ := Γ) (fn := Go.Proofs.Try.f44) (body := body) (cin := (con 0).cin) (F := F) (T := T) follows (by kernel_rfl) (by kernel_rfl) (by kernel_rfl) (by kernel_rfl) (by kernel_rfl) (by decide +kernel) (by kernel_rfl) (by kernel_rfl) (tzero ⟨fun x => rfl, trivial⟩) k (fun m _ => okΓ m) (fun m _ => tstep ⟨fun x => s16 m x, trivial⟩) (fun x y h => (main k x).symm.trans h)
end storage_Best
namespace slices_Equal_int
noncomputable abbrev con (k : Nat) : Con := ⟨⟨[(0, .l (.val (.list 3 (.int .i64)))), (1, .l (.val (.list 3 (.int .i64))))], []⟩, ⟨[(0, .l (.val .bool))], []⟩, fun x => slices_Equal_int.f k x.1 x.2⟩
noncomputable abbrev Γ (k : Nat) : FuncId → Option Con := look []
abbrev F : Fin Go.Proofs.Try.prog := ⟨⟨[(0, .l (.val .bool))], []⟩, [], [.tmp 4]⟩
abbrev c4 : Cut := ⟨[(0, .l (.val (.list 3 (.int .i64)))), (1, .l (.val (.list 3 (.int .i64)))), (12, .l (.val (.int .i64))), (13, .l (.val (.int .i64)))], []⟩
noncomputable abbrev Tl (k : Nat) : List (Nat × Hint (prods F.cout.tys)) := [(4, ⟨c4, fun x => slices_Equal_int.l4 k x.1 x.2.1 x.2.2.1 x.2.2.2⟩)]
noncomputable abbrev T (k : Nat) : Nat → Option (Hint (prods F.cout.tys)) := look (Tl k)
noncomputable abbrev body : Code := Go.Proofs.Try.f16.body.getD .skip
theorem s4 (k : Nat) (x : prods c4.tys) : slices_Equal_int.l4 (k + 1) x.1 x.2.1 x.2.2.1 x.2.2.2 = segK (Γ k) F (T k) body 4 (c4.st x) := by kernel_rfl
theorem main (k : Nat) (x : prods (con 0).cin.tys) : slices_Equal_int.f k x.1 x.2 = goK (Γ k) F (T k) 2000 [.code body] ((con 0).cin.st x) := by kernel_rfl
theorem okΓ (k : Nat) : ΓOk Go.Proofs.Try.prog (Γ k) := Γnil
theorem ok (k : Nat) : ConSound Go.Proofs.Try.prog 16 (con k) := con_sound (Γ := Γ) (fn := Go.Proofs.Try.f16) (body := body) (cin := (con 0).cin) (F := F) (T := T) follows (by kernel_rfl) (by kernel_rfl) (by kernel_rfl) (by kernel_rfl) (by kernel_rfl) (by decide +kernel) (by kernel_rfl) (by kernel_rfl) (tzero ⟨fun x => rfl, trivial⟩) k (fun m _ => okΓ m) (fun m _ => tstep ⟨fun x => s4 m x, trivial⟩) (fun x y h => (main k x).symm.trans h)
end slices_Equal_int
namespace gridhallkeep3_stores
noncomputable abbrev con (k : Nat) : Con := ⟨⟨[], []⟩, ⟨[(0, .l (.val .bool))], []⟩, fun x => gridhallkeep3_stores.f k⟩
noncomputable abbrev Γ (k : Nat) : FuncId → Option Con := look [(16, slices_Equal_int.con k), (44, storage_Best.con k)]
abbrev F : Fin Go.Proofs.Try.prog := ⟨⟨[(0, .l (.val .bool))], []⟩, [], [.tmp 0]⟩
noncomputable abbrev Tl (k : Nat) : List (Nat × Hint (prods F.cout.tys)) := []
noncomputable abbrev T (k : Nat) : Nat → Option (Hint (prods F.cout.tys)) := look (Tl k)
noncomputable abbrev body : Code := Go.Proofs.Try.f43.body.getD .skip
theorem main (k : Nat) (x : prods (con 0).cin.tys) : gridhallkeep3_stores.f k = goK (Γ k) F (T k) 2000 [.code body] ((con 0).cin.st x) := by kernel_rfl
theorem okΓ (k : Nat) : ΓOk Go.Proofs.Try.prog (Γ k) := Γcons (slices_Equal_int.ok k) ⟨Go.Proofs.Try.f16, by kernel_rfl, by kernel_rfl, by kernel_rfl⟩ (Γcons (storage_Best.ok k) ⟨Go.Proofs.Try.f44, by kernel_rfl, by kernel_rfl, by kernel_rfl⟩ (Γnil))
theorem ok (k : Nat) : ConSound Go.Proofs.Try.prog 43 (con k) := con_sound (Γ := Γ) (fn := Go.Proofs.Try.f43) (body := body) (cin := (con 0).cin) (F := F) (T := T) follows (by kernel_rfl) (by kernel_rfl) (by kernel_rfl) (by kernel_rfl) (by kernel_rfl) (by decide +kernel) (by kernel_rfl) (by kernel_rfl) (tzero trivial) k (fun m _ => okΓ m) (fun m _ => tstep trivial) (fun x y h => (main k x).symm.trans h)
end gridhallkeep3_stores
namespace gridhallkeep3_within
noncomputable abbrev con (k : Nat) : Con := ⟨⟨[(0, .l (.val (.int .i64))), (1, .l (.val (.int .i64))), (2, .l (.val (.int .i64)))], []⟩, ⟨[(0, .l (.val (.int .i64)))], []⟩, fun x => gridhallkeep3_within.f k x.1 x.2.1 x.2.2⟩
noncomputable abbrev Γ (k : Nat) : FuncId → Option Con := look []
abbrev F : Fin Go.Proofs.Try.prog := ⟨⟨[(0, .l (.val (.int .i64)))], []⟩, [], [.tmp 6]⟩
noncomputable abbrev Tl (k : Nat) : List (Nat × Hint (prods F.cout.tys)) := []
noncomputable abbrev T (k : Nat) : Nat → Option (Hint (prods F.cout.tys)) := look (Tl k)
noncomputable abbrev body : Code := Go.Proofs.Try.f21.body.getD .skip
theorem main (k : Nat) (x : prods (con 0).cin.tys) : gridhallkeep3_within.f k x.1 x.2.1 x.2.2 = goK (Γ k) F (T k) 2000 [.code body] ((con 0).cin.st x) := by kernel_rfl
theorem okΓ (k : Nat) : ΓOk Go.Proofs.Try.prog (Γ k) := Γnil
theorem ok (k : Nat) : ConSound Go.Proofs.Try.prog 21 (con k) := con_sound (Γ := Γ) (fn := Go.Proofs.Try.f21) (body := body) (cin := (con 0).cin) (F := F) (T := T) follows (by kernel_rfl) (by kernel_rfl) (by kernel_rfl) (by kernel_rfl) (by kernel_rfl) (by decide +kernel) (by kernel_rfl) (by kernel_rfl) (tzero trivial) k (fun m _ => okΓ m) (fun m _ => tstep trivial) (fun x y h => (main k x).symm.trans h)
end gridhallkeep3_within
namespace gridhallkeep3_fine_1
noncomputable abbrev con (k : Nat) : Con := ⟨⟨[(0, .l (.val (.int .i64)))], []⟩, ⟨[(0, .l (.val .bool))], []⟩, fun x => gridhallkeep3_fine_1.f k x⟩
noncomputable abbrev Γ (k : Nat) : FuncId → Option Con := look []
abbrev F : Fin Go.Proofs.Try.prog := ⟨⟨[(0, .l (.val .bool))], []⟩, [], [.tmp 2]⟩
noncomputable abbrev Tl (k : Nat) : List (Nat × Hint (prods F.cout.tys)) := []
noncomputable abbrev T (k : Nat) : Nat → Option (Hint (prods F.cout.tys)) := look (Tl k)
noncomputable abbrev body : Code := Go.Proofs.Try.f57.body.getD .skip
theorem main (k : Nat) (x : prods (con 0).cin.tys) : gridhallkeep3_fine_1.f k x = goK (Γ k) F (T k) 2000 [.code body] ((con 0).cin.st x) := by kernel_rfl
theorem okΓ (k : Nat) : ΓOk Go.Proofs.Try.prog (Γ k) := Γnil
theorem ok (k : Nat) : ConSound Go.Proofs.Try.prog 57 (con k) := con_sound (Γ := Γ) (fn := Go.Proofs.Try.f57) (body := body) (cin := (con 0).cin) (F := F) (T := T) follows (by kernel_rfl) (by kernel_rfl) (by kernel_rfl) (by kernel_rfl) (by kernel_rfl) (by decide +kernel) (by kernel_rfl) (by kernel_rfl) (tzero trivial) k (fun m _ => okΓ m) (fun m _ => tstep trivial) (fun x y h => (main k x).symm.trans h)
end gridhallkeep3_fine_1
namespace slices_IndexFunc_api_Errno
noncomputable abbrev con (k : Nat) : Con := ⟨⟨[(0, .l (.val (.list 23 (.int .i64)))), (1, .l (.fn0 57))], []⟩, ⟨[(0, .l (.val (.int .i64)))], []⟩, fun x => slices_IndexFunc_api_Errno.f k x⟩
noncomputable abbrev Γ (k : Nat) : FuncId → Option Con := look [(57, gridhallkeep3_fine_1.con k)]
abbrev F : Fin Go.Proofs.Try.prog := ⟨⟨[(0, .l (.val (.int .i64)))], []⟩, [], [.tmp 4]⟩
abbrev c2 : Cut := ⟨[(0, .l (.val (.list 23 (.int .i64)))), (1, .l (.fn0 57)), (7, .l (.val (.int .i64))), (8, .l (.val (.int .i64)))], []⟩
noncomputable abbrev Tl (k : Nat) : List (Nat × Hint (prods F.cout.tys)) := [(2, ⟨c2, fun x => slices_IndexFunc_api_Errno.l2 k x.1 x.2.1 x.2.2⟩)]
noncomputable abbrev T (k : Nat) : Nat → Option (Hint (prods F.cout.tys)) := look (Tl k)
noncomputable abbrev body : Code := Go.Proofs.Try.f82.body.getD .skip
theorem s2 (k : Nat) (x : prods c2.tys) : slices_IndexFunc_api_Errno.l2 (k + 1) x.1 x.2.1 x.2.2 = segK (Γ k) F (T k) body 2 (c2.st x) := by kernel_rfl
theorem main (k : Nat) (x : prods (con 0).cin.tys) : slices_IndexFunc_api_Errno.f k x = goK (Γ k) F (T k) 2000 [.code body] ((con 0).cin.st x) := by kernel_rfl
theorem okΓ (k : Nat) : ΓOk Go.Proofs.Try.prog (Γ k) := Γcons (gridhallkeep3_fine_1.ok k) ⟨Go.Proofs.Try.f57, by kernel_rfl, by kernel_rfl, by kernel_rfl⟩ (Γnil)
theorem ok (k : Nat) : ConSound Go.Proofs.Try.prog 82 (con k) := con_sound (Γ := Γ) (fn := Go.Proofs.Try.f82) (body := body) (cin := (con 0).cin) (F := F) (T := T) follows (by kernel_rfl) (by kernel_rfl) (by kernel_rfl) (by kernel_rfl) (by kernel_rfl) (by decide +kernel) (by kernel_rfl) (by kernel_rfl) (tzero ⟨fun x => rfl, trivial⟩) k (fun m _ => okΓ m) (fun m _ => tstep ⟨fun x => s2 m x, trivial⟩) (fun x y h => (main k x).symm.trans h)
end slices_IndexFunc_api_Errno
namespace slices_ContainsFunc_api_Errno
noncomputable abbrev con (k : Nat) : Con := ⟨⟨[(0, .l (.val (.list 23 (.int .i64)))), (1, .l (.fn0 57))], []⟩, ⟨[(0, .l (.val .bool))], []⟩, fun x => slices_ContainsFunc_api_Errno.f k x⟩
noncomputable abbrev Γ (k : Nat) : FuncId → Option Con := look [(82, slices_IndexFunc_api_Errno.con k)]
abbrev F : Fin Go.Proofs.Try.prog := ⟨⟨[(0, .l (.val .bool))], []⟩, [], [.tmp 4]⟩
noncomputable abbrev Tl (k : Nat) : List (Nat × Hint (prods F.cout.tys)) := []
noncomputable abbrev T (k : Nat) : Nat → Option (Hint (prods F.cout.tys)) := look (Tl k)
noncomputable abbrev body : Code := Go.Proofs.Try.f56.body.getD .skip
theorem main (k : Nat) (x : prods (con 0).cin.tys) : slices_ContainsFunc_api_Errno.f k x = goK (Γ k) F (T k) 2000 [.code body] ((con 0).cin.st x) := by kernel_rfl
theorem okΓ (k : Nat) : ΓOk Go.Proofs.Try.prog (Γ k) := Γcons (slices_IndexFunc_api_Errno.ok k) ⟨Go.Proofs.Try.f82, by kernel_rfl, by kernel_rfl, by kernel_rfl⟩ (Γnil)
theorem ok (k : Nat) : ConSound Go.Proofs.Try.prog 56 (con k) := con_sound (Γ := Γ) (fn := Go.Proofs.Try.f56) (body := body) (cin := (con 0).cin) (F := F) (T := T) follows (by kernel_rfl) (by kernel_rfl) (by kernel_rfl) (by kernel_rfl) (by kernel_rfl) (by decide +kernel) (by kernel_rfl) (by kernel_rfl) (tzero trivial) k (fun m _ => okΓ m) (fun m _ => tstep trivial) (fun x y h => (main k x).symm.trans h)
end slices_ContainsFunc_api_Errno
namespace gridhallkeep3_fine
noncomputable abbrev con (k : Nat) : Con := ⟨⟨[(0, .l (.val (.list 23 (.int .i64))))], []⟩, ⟨[(0, .l (.val .bool))], []⟩, fun x => gridhallkeep3_fine.f k x⟩
noncomputable abbrev Γ (k : Nat) : FuncId → Option Con := look [(56, slices_ContainsFunc_api_Errno.con k)]
abbrev F : Fin Go.Proofs.Try.prog := ⟨⟨[(0, .l (.val .bool))], []⟩, [], [.tmp 2]⟩
noncomputable abbrev Tl (k : Nat) : List (Nat × Hint (prods F.cout.tys)) := []
noncomputable abbrev T (k : Nat) : Nat → Option (Hint (prods F.cout.tys)) := look (Tl k)
noncomputable abbrev body : Code := Go.Proofs.Try.f24.body.getD .skip
theorem main (k : Nat) (x : prods (con 0).cin.tys) : gridhallkeep3_fine.f k x = goK (Γ k) F (T k) 2000 [.code body] ((con 0).cin.st x) := by kernel_rfl
theorem okΓ (k : Nat) : ΓOk Go.Proofs.Try.prog (Γ k) := Γcons (slices_ContainsFunc_api_Errno.ok k) ⟨Go.Proofs.Try.f56, by kernel_rfl, by kernel_rfl, by kernel_rfl⟩ (Γnil)
theorem ok (k : Nat) : ConSound Go.Proofs.Try.prog 24 (con k) := con_sound (Γ := Γ) (fn := Go.Proofs.Try.f24) (body := body) (cin := (con 0).cin) (F := F) (T := T) follows (by kernel_rfl) (by kernel_rfl) (by kernel_rfl) (by kernel_rfl) (by kernel_rfl) (by decide +kernel) (by kernel_rfl) (by kernel_rfl) (tzero trivial) k (fun m _ => okΓ m) (fun m _ => tstep trivial) (fun x y h => (main k x).symm.trans h)
end gridhallkeep3_fine
namespace gridhallkeep3_StorageLarger
noncomputable abbrev con (k : Nat) : Con := ⟨⟨[(0, .av Y5), (1, .l (.val (.list 3 (.int .i64)))), (2, .l (.val (.int .i64)))], []⟩, ⟨[(0, .l (.val .bool))], []⟩, fun x => gridhallkeep3_StorageLarger.f k x.1 x.2.1 x.2.2⟩
noncomputable abbrev Γ (k : Nat) : FuncId → Option Con := look [(21, gridhallkeep3_within.con k), (24, gridhallkeep3_fine.con k), (43, gridhallkeep3_stores.con k), (44, storage_Best.con k)]
abbrev F : Fin Go.Proofs.Try.prog := ⟨⟨[(0, .l (.val .bool))], []⟩, [], [.tmp 6]⟩
noncomputable abbrev Tl (k : Nat) : List (Nat × Hint (prods F.cout.tys)) := []
noncomputable abbrev T (k : Nat) : Nat → Option (Hint (prods F.cout.tys)) := look (Tl k)
noncomputable abbrev body : Code := Go.Proofs.Try.f12.body.getD .skip
theorem main (k : Nat) (x : prods (con 0).cin.tys) : gridhallkeep3_StorageLarger.f k x.1 x.2.1 x.2.2 = goK (Γ k) F (T k) 2000 [.code body] ((con 0).cin.st x) := by kernel_rfl
theorem okΓ (k : Nat) : ΓOk Go.Proofs.Try.prog (Γ k) := Γcons (gridhallkeep3_within.ok k) ⟨Go.Proofs.Try.f21, by kernel_rfl, by kernel_rfl, by kernel_rfl⟩ (Γcons (gridhallkeep3_fine.ok k) ⟨Go.Proofs.Try.f24, by kernel_rfl, by kernel_rfl, by kernel_rfl⟩ (Γcons (gridhallkeep3_stores.ok k) ⟨Go.Proofs.Try.f43, by kernel_rfl, by kernel_rfl, by kernel_rfl⟩ (Γcons (storage_Best.ok k) ⟨Go.Proofs.Try.f44, by kernel_rfl, by kernel_rfl, by kernel_rfl⟩ (Γnil))))
theorem ok (k : Nat) : ConSound Go.Proofs.Try.prog 12 (con k) := con_sound (Γ := Γ) (fn := Go.Proofs.Try.f12) (body := body) (cin := (con 0).cin) (F := F) (T := T) follows (by kernel_rfl) (by kernel_rfl) (by kernel_rfl) (by kernel_rfl) (by kernel_rfl) (by decide +kernel) (by kernel_rfl) (by kernel_rfl) (tzero trivial) k (fun m _ => okΓ m) (fun m _ => tstep trivial) (fun x y h => (main k x).symm.trans h)
end gridhallkeep3_StorageLarger
namespace gridhallkeep3_StorageKept
noncomputable abbrev con (k : Nat) : Con := ⟨⟨[(0, .av Y5), (1, .l (.val (.list 3 (.int .i64)))), (2, .l (.val (.list 3 (.int .i64))))], []⟩, ⟨[(0, .l (.val .bool))], []⟩, fun x => gridhallkeep3_StorageKept.f k x.1 x.2.1 x.2.2⟩
noncomputable abbrev Γ (k : Nat) : FuncId → Option Con := look [(36, storage_Run.con k), (43, gridhallkeep3_stores.con k), (44, storage_Best.con k)]
abbrev F : Fin Go.Proofs.Try.prog := ⟨⟨[(0, .l (.val .bool))], []⟩, [], [.tmp 6]⟩
noncomputable abbrev Tl (k : Nat) : List (Nat × Hint (prods F.cout.tys)) := []
noncomputable abbrev T (k : Nat) : Nat → Option (Hint (prods F.cout.tys)) := look (Tl k)
noncomputable abbrev body : Code := Go.Proofs.Try.f14.body.getD .skip
theorem main (k : Nat) (x : prods (con 0).cin.tys) : gridhallkeep3_StorageKept.f k x.1 x.2.1 x.2.2 = goK (Γ k) F (T k) 2000 [.code body] ((con 0).cin.st x) := by kernel_rfl
theorem okΓ (k : Nat) : ΓOk Go.Proofs.Try.prog (Γ k) := Γcons (storage_Run.ok k) ⟨Go.Proofs.Try.f36, by kernel_rfl, by kernel_rfl, by kernel_rfl⟩ (Γcons (gridhallkeep3_stores.ok k) ⟨Go.Proofs.Try.f43, by kernel_rfl, by kernel_rfl, by kernel_rfl⟩ (Γcons (storage_Best.ok k) ⟨Go.Proofs.Try.f44, by kernel_rfl, by kernel_rfl, by kernel_rfl⟩ (Γnil)))
theorem ok (k : Nat) : ConSound Go.Proofs.Try.prog 14 (con k) := con_sound (Γ := Γ) (fn := Go.Proofs.Try.f14) (body := body) (cin := (con 0).cin) (F := F) (T := T) follows (by kernel_rfl) (by kernel_rfl) (by kernel_rfl) (by kernel_rfl) (by kernel_rfl) (by decide +kernel) (by kernel_rfl) (by kernel_rfl) (tzero trivial) k (fun m _ => okΓ m) (fun m _ => tstep trivial) (fun x y h => (main k x).symm.trans h)
end gridhallkeep3_StorageKept
namespace ramp_Check
noncomputable abbrev con (k : Nat) : Con := ⟨⟨[(0, .l (.val (.list 68 Y0))), (1, .l (.val (.int .i64))), (2, .l (.val (.int .i64))), (3, .l (.val (.int .i64)))], []⟩, ⟨[(0, .l (.val (.int .i64)))], []⟩, fun x => ramp_Check.f k x.1 x.2.1 x.2.2.1 x.2.2.2⟩
noncomputable abbrev Γ (k : Nat) : FuncId → Option Con := look []
abbrev F : Fin Go.Proofs.Try.prog := ⟨⟨[(0, .l (.val (.int .i64)))], []⟩, [], [.tmp 8]⟩
abbrev c4 : Cut := ⟨[(1, .l (.val (.int .i64))), (2, .l (.val (.int .i64))), (3, .l (.val (.int .i64))), (14, .l (.val (.list 68 Y0))), (15, .l (.val (.int .i64))), (16, .l (.val (.int .i64)))], []⟩
noncomputable abbrev Tl (k : Nat) : List (Nat × Hint (prods F.cout.tys)) := [(4, ⟨c4, fun x => ramp_Check.l4 k x.1 x.2.1 x.2.2.1 x.2.2.2.1 x.2.2.2.2.1 x.2.2.2.2.2⟩)]
noncomputable abbrev T (k : Nat) : Nat → Option (Hint (prods F.cout.tys)) := look (Tl k)
noncomputable abbrev body : Code := Go.Proofs.Try.f68.body.getD .skip
theorem s4 (k : Nat) (x : prods c4.tys) : ramp_Check.l4 (k + 1) x.1 x.2.1 x.2.2.1 x.2.2.2.1 x.2.2.2.2.1 x.2.2.2.2.2 = segK (Γ k) F (T k) body 4 (c4.st x) := by kernel_rfl
theorem main (k : Nat) (x : prods (con 0).cin.tys) : ramp_Check.f k x.1 x.2.1 x.2.2.1 x.2.2.2 = goK (Γ k) F (T k) 2000 [.code body] ((con 0).cin.st x) := by kernel_rfl
theorem okΓ (k : Nat) : ΓOk Go.Proofs.Try.prog (Γ k) := Γnil
theorem ok (k : Nat) : ConSound Go.Proofs.Try.prog 68 (con k) := con_sound (Γ := Γ) (fn := Go.Proofs.Try.f68) (body := body) (cin := (con 0).cin) (F := F) (T := T) follows (by kernel_rfl) (by kernel_rfl) (by kernel_rfl) (by kernel_rfl) (by kernel_rfl) (by decide +kernel) (by kernel_rfl) (by kernel_rfl) (tzero ⟨fun x => rfl, trivial⟩) k (fun m _ => okΓ m) (fun m _ => tstep ⟨fun x => s4 m x, trivial⟩) (fun x y h => (main k x).symm.trans h)
end ramp_Check
namespace ramp_Feasible
noncomputable abbrev con (k : Nat) : Con := ⟨⟨[(0, .l (.val (.list 68 Y0))), (1, .l (.val (.int .i64))), (2, .l (.val (.int .i64))), (3, .l (.val (.int .i64))), (4, .l (.val (.list 3 (.int .i64))))], []⟩, ⟨[(0, .l (.val .bool)), (1, .l (.val (.int .i64)))], []⟩, fun x => ramp_Feasible.f k x.1 x.2.1 x.2.2.1 x.2.2.2.1 x.2.2.2.2⟩
noncomputable abbrev Γ (k : Nat) : FuncId → Option Con := look [(68, ramp_Check.con k)]
abbrev F : Fin Go.Proofs.Try.prog := ⟨⟨[(0, .l (.val .bool)), (1, .l (.val (.int .i64)))], []⟩, [], [.tmp 10, .tmp 11]⟩
abbrev c8 : Cut := ⟨[(0, .l (.val (.list 68 Y0))), (2, .l (.val (.int .i64))), (3, .l (.val (.int .i64))), (13, .l (.val (.int .i64))), (30, .l (.val (.list 3 (.int .i64)))), (31, .l (.val (.int .i64))), (32, .l (.val (.int .i64)))], []⟩
noncomputable abbrev Tl (k : Nat) : List (Nat × Hint (prods F.cout.tys)) := [(8, ⟨c8, fun x => ramp_Feasible.l8 k x.1 x.2.1 x.2.2.1 x.2.2.2.1 x.2.2.2.2.1 x.2.2.2.2.2.1 x.2.2.2.2.2.2⟩)]
noncomputable abbrev T (k : Nat) : Nat → Option (Hint (prods F.cout.tys)) := look (Tl k)
noncomputable abbrev body : Code := Go.Proofs.Try.f37.body.getD .skip
theorem s8 (k : Nat) (x : prods c8.tys) : ramp_Feasible.l8 (k + 1) x.1 x.2.1 x.2.2.1 x.2.2.2.1 x.2.2.2.2.1 x.2.2.2.2.2.1 x.2.2.2.2.2.2 = segK (Γ k) F (T k) body 8 (c8.st x) := by kernel_rfl
theorem main (k : Nat) (x : prods (con 0).cin.tys) : ramp_Feasible.f k x.1 x.2.1 x.2.2.1 x.2.2.2.1 x.2.2.2.2 = goK (Γ k) F (T k) 2000 [.code body] ((con 0).cin.st x) := by kernel_rfl
theorem okΓ (k : Nat) : ΓOk Go.Proofs.Try.prog (Γ k) := Γcons (ramp_Check.ok k) ⟨Go.Proofs.Try.f68, by kernel_rfl, by kernel_rfl, by kernel_rfl⟩ (Γnil)
theorem ok (k : Nat) : ConSound Go.Proofs.Try.prog 37 (con k) := con_sound (Γ := Γ) (fn := Go.Proofs.Try.f37) (body := body) (cin := (con 0).cin) (F := F) (T := T) follows (by kernel_rfl) (by kernel_rfl) (by kernel_rfl) (by kernel_rfl) (by kernel_rfl) (by decide +kernel) (by kernel_rfl) (by kernel_rfl) (tzero ⟨fun x => rfl, trivial⟩) k (fun m _ => okΓ m) (fun m _ => tstep ⟨fun x => s8 m x, trivial⟩) (fun x y h => (main k x).symm.trans h)
end ramp_Feasible
namespace ramp_steps
noncomputable abbrev con (k : Nat) : Con := ⟨⟨[(0, .l (.val (.int .i64))), (1, .l (.val (.int .i64)))], []⟩, ⟨[(0, .av Y2)], []⟩, fun x => ramp_steps.f k x.1 x.2⟩
noncomputable abbrev Γ (k : Nat) : FuncId → Option Con := look []
abbrev F : Fin Go.Proofs.Try.prog := ⟨⟨[(0, .av Y2)], []⟩, [], [.cell 4 32]⟩
noncomputable abbrev Tl (k : Nat) : List (Nat × Hint (prods F.cout.tys)) := []
noncomputable abbrev T (k : Nat) : Nat → Option (Hint (prods F.cout.tys)) := look (Tl k)
noncomputable abbrev body : Code := Go.Proofs.Try.f85.body.getD .skip
theorem main (k : Nat) (x : prods (con 0).cin.tys) : ramp_steps.f k x.1 x.2 = goK (Γ k) F (T k) 2000 [.code body] ((con 0).cin.st x) := by kernel_rfl
theorem okΓ (k : Nat) : ΓOk Go.Proofs.Try.prog (Γ k) := Γnil
theorem ok (k : Nat) : ConSound Go.Proofs.Try.prog 85 (con k) := con_sound (Γ := Γ) (fn := Go.Proofs.Try.f85) (body := body) (cin := (con 0).cin) (F := F) (T := T) follows (by kernel_rfl) (by kernel_rfl) (by kernel_rfl) (by kernel_rfl) (by kernel_rfl) (by decide +kernel) (by kernel_rfl) (by kernel_rfl) (tzero trivial) k (fun m _ => okΓ m) (fun m _ => tstep trivial) (fun x y h => (main k x).symm.trans h)
end ramp_steps
namespace ramp_away
noncomputable abbrev con (k : Nat) : Con := ⟨⟨[(0, .l (.val (.int .i64)))], []⟩, ⟨[(0, .av Y2)], []⟩, fun x => ramp_away.f k x⟩
noncomputable abbrev Γ (k : Nat) : FuncId → Option Con := look []
abbrev F : Fin Go.Proofs.Try.prog := ⟨⟨[(0, .av Y2)], []⟩, [], [.cell 2 32]⟩
noncomputable abbrev Tl (k : Nat) : List (Nat × Hint (prods F.cout.tys)) := []
noncomputable abbrev T (k : Nat) : Nat → Option (Hint (prods F.cout.tys)) := look (Tl k)
noncomputable abbrev body : Code := Go.Proofs.Try.f86.body.getD .skip
theorem main (k : Nat) (x : prods (con 0).cin.tys) : ramp_away.f k x = goK (Γ k) F (T k) 2000 [.code body] ((con 0).cin.st x) := by kernel_rfl
theorem okΓ (k : Nat) : ΓOk Go.Proofs.Try.prog (Γ k) := Γnil
theorem ok (k : Nat) : ConSound Go.Proofs.Try.prog 86 (con k) := con_sound (Γ := Γ) (fn := Go.Proofs.Try.f86) (body := body) (cin := (con 0).cin) (F := F) (T := T) follows (by kernel_rfl) (by kernel_rfl) (by kernel_rfl) (by kernel_rfl) (by kernel_rfl) (by decide +kernel) (by kernel_rfl) (by kernel_rfl) (tzero trivial) k (fun m _ => okΓ m) (fun m _ => tstep trivial) (fun x y h => (main k x).symm.trans h)
end ramp_away
namespace ramp_values
noncomputable abbrev con (k : Nat) : Con := ⟨⟨[(0, .l (.val (.list 68 Y0))), (1, .l (.val (.int .i64))), (2, .l (.val (.int .i64))), (3, .l (.val (.int .i64))), (4, .l (.val (.list 3 (.int .i64))))], []⟩, ⟨[(0, .l (.val (.list 32 Y2))), (1, .l (.val (.int .i64)))], []⟩, fun x => ramp_values.f k x.1 x.2.1 x.2.2.1 x.2.2.2.1 x.2.2.2.2⟩
noncomputable abbrev Γ (k : Nat) : FuncId → Option Con := look [(22, convexpl_Restrict.con k), (30, convexpl_Convolve.con k), (34, convexpl_Add.con k), (85, ramp_steps.con k), (86, ramp_away.con k)]
abbrev F : Fin Go.Proofs.Try.prog := ⟨⟨[(0, .l (.val (.list 32 Y2))), (1, .l (.val (.int .i64)))], []⟩, [], [.tmp 10, .tmp 11]⟩
abbrev c3 : Cut := ⟨[(2, .l (.val (.int .i64))), (3, .l (.val (.int .i64))), (4, .l (.val (.list 3 (.int .i64)))), (12, .l (.row 7000000)), (20, .l (.val (.list 68 Y0))), (21, .l (.val (.int .i64))), (22, .l (.val (.int .i64)))], [(7000000, .row 32 Y2)]⟩
abbrev c8 : Cut := ⟨[(2, .l (.val (.int .i64))), (3, .l (.val (.int .i64))), (4, .l (.val (.list 3 (.int .i64)))), (12, .l (.row 7000000)), (13, .l (.val (.int .i64))), (15, .l (.ptr 7000001 0)), (16, .l (.val (.int .i64))), (20, .l (.val (.list 68 Y0))), (21, .l (.val (.int .i64))), (22, .l (.val (.int .i64)))], [(7000000, .row 32 Y2), (7000001, .box 32 [.val (.int .i64), .val (.int .i64), .val (.list 60 Y0)])]⟩
noncomputable abbrev Tl (k : Nat) : List (Nat × Hint (prods F.cout.tys)) := [(3, ⟨c3, fun x => ramp_values.l3 k x.1 x.2.1 x.2.2.1 x.2.2.2.1 x.2.2.2.2.1 x.2.2.2.2.2.1 x.2.2.2.2.2.2⟩), (8, ⟨c8, fun x => ramp_values.l8 k x.1 x.2.1 x.2.2.1 x.2.2.2.1 x.2.2.2.2.1 x.2.2.2.2.2.1 x.2.2.2.2.2.2.1 x.2.2.2.2.2.2.2.1 x.2.2.2.2.2.2.2.2.1 x.2.2.2.2.2.2.2.2.2.1 x.2.2.2.2.2.2.2.2.2.2.1 x.2.2.2.2.2.2.2.2.2.2.2⟩)]
noncomputable abbrev T (k : Nat) : Nat → Option (Hint (prods F.cout.tys)) := look (Tl k)
noncomputable abbrev body : Code := Go.Proofs.Try.f69.body.getD .skip
theorem s3 (k : Nat) (x : prods c3.tys) : ramp_values.l3 (k + 1) x.1 x.2.1 x.2.2.1 x.2.2.2.1 x.2.2.2.2.1 x.2.2.2.2.2.1 x.2.2.2.2.2.2 = segK (Γ k) F (T k) body 3 (c3.st x) := by kernel_rfl
theorem s8 (k : Nat) (x : prods c8.tys) : ramp_values.l8 (k + 1) x.1 x.2.1 x.2.2.1 x.2.2.2.1 x.2.2.2.2.1 x.2.2.2.2.2.1 x.2.2.2.2.2.2.1 x.2.2.2.2.2.2.2.1 x.2.2.2.2.2.2.2.2.1 x.2.2.2.2.2.2.2.2.2.1 x.2.2.2.2.2.2.2.2.2.2.1 x.2.2.2.2.2.2.2.2.2.2.2 = segK (Γ k) F (T k) body 8 (c8.st x) := by kernel_rfl
theorem main (k : Nat) (x : prods (con 0).cin.tys) : ramp_values.f k x.1 x.2.1 x.2.2.1 x.2.2.2.1 x.2.2.2.2 = goK (Γ k) F (T k) 2000 [.code body] ((con 0).cin.st x) := by kernel_rfl
theorem okΓ (k : Nat) : ΓOk Go.Proofs.Try.prog (Γ k) := Γcons (convexpl_Restrict.ok k) ⟨Go.Proofs.Try.f22, by kernel_rfl, by kernel_rfl, by kernel_rfl⟩ (Γcons (convexpl_Convolve.ok k) ⟨Go.Proofs.Try.f30, by kernel_rfl, by kernel_rfl, by kernel_rfl⟩ (Γcons (convexpl_Add.ok k) ⟨Go.Proofs.Try.f34, by kernel_rfl, by kernel_rfl, by kernel_rfl⟩ (Γcons (ramp_steps.ok k) ⟨Go.Proofs.Try.f85, by kernel_rfl, by kernel_rfl, by kernel_rfl⟩ (Γcons (ramp_away.ok k) ⟨Go.Proofs.Try.f86, by kernel_rfl, by kernel_rfl, by kernel_rfl⟩ (Γnil)))))
theorem ok (k : Nat) : ConSound Go.Proofs.Try.prog 69 (con k) := con_sound (Γ := Γ) (fn := Go.Proofs.Try.f69) (body := body) (cin := (con 0).cin) (F := F) (T := T) follows (by kernel_rfl) (by kernel_rfl) (by kernel_rfl) (by kernel_rfl) (by kernel_rfl) (by decide +kernel) (by kernel_rfl) (by kernel_rfl) (tzero ⟨fun x => rfl, fun x => rfl, trivial⟩) k (fun m _ => okΓ m) (fun m _ => tstep ⟨fun x => s3 m x, fun x => s8 m x, trivial⟩) (fun x y h => (main k x).symm.trans h)
end ramp_values
namespace ramp_Nearest
noncomputable abbrev con (k : Nat) : Con := ⟨⟨[(0, .l (.val (.list 68 Y0))), (1, .l (.val (.int .i64))), (2, .l (.val (.int .i64))), (3, .l (.val (.int .i64))), (4, .l (.val (.list 3 (.int .i64))))], []⟩, ⟨[(0, .l (.val (.list 3 (.int .i64)))), (1, .l (.val (.int .i64))), (2, .l (.val (.int .i64)))], []⟩, fun x => ramp_Nearest.f k x.1 x.2.1 x.2.2.1 x.2.2.2.1 x.2.2.2.2⟩
noncomputable abbrev Γ (k : Nat) : FuncId → Option Con := look [(22, convexpl_Restrict.con k), (68, ramp_Check.con k), (69, ramp_values.con k), (70, convexpl_Least.con k)]
abbrev F : Fin Go.Proofs.Try.prog := ⟨⟨[(0, .l (.val (.list 3 (.int .i64)))), (1, .l (.val (.int .i64))), (2, .l (.val (.int .i64)))], []⟩, [], [.tmp 10, .tmp 11, .tmp 12]⟩
abbrev c7 : Cut := ⟨[(0, .l (.val (.list 68 Y0))), (1, .l (.val (.int .i64))), (2, .l (.val (.int .i64))), (3, .l (.val (.int .i64))), (4, .l (.val (.list 3 (.int .i64)))), (35, .l (.val (.list 3 (.int .i64)))), (36, .l (.val (.int .i64))), (37, .l (.val (.int .i64)))], []⟩
abbrev c18 : Cut := ⟨[(0, .l (.val (.list 68 Y0))), (2, .l (.val (.int .i64))), (3, .l (.val (.int .i64))), (16, .l (.val (.list 32 Y2))), (18, .l (.row 7000000)), (19, .l (.val (.int .i64))), (20, .l (.val (.int .i64)))], [(7000000, .row 3 (.int .i64))]⟩
noncomputable abbrev Tl (k : Nat) : List (Nat × Hint (prods F.cout.tys)) := [(7, ⟨c7, fun x => ramp_Nearest.l7 k x.1 x.2.1 x.2.2.1 x.2.2.2.1 x.2.2.2.2.1 x.2.2.2.2.2.1 x.2.2.2.2.2.2.1 x.2.2.2.2.2.2.2⟩), (18, ⟨c18, fun x => ramp_Nearest.l18 k x.1 x.2.1 x.2.2.1 x.2.2.2.1 x.2.2.2.2.1 x.2.2.2.2.2.1 x.2.2.2.2.2.2⟩)]
noncomputable abbrev T (k : Nat) : Nat → Option (Hint (prods F.cout.tys)) := look (Tl k)
noncomputable abbrev body : Code := Go.Proofs.Try.f39.body.getD .skip
theorem s7 (k : Nat) (x : prods c7.tys) : ramp_Nearest.l7 (k + 1) x.1 x.2.1 x.2.2.1 x.2.2.2.1 x.2.2.2.2.1 x.2.2.2.2.2.1 x.2.2.2.2.2.2.1 x.2.2.2.2.2.2.2 = segK (Γ k) F (T k) body 7 (c7.st x) := by kernel_rfl
theorem s18 (k : Nat) (x : prods c18.tys) : ramp_Nearest.l18 (k + 1) x.1 x.2.1 x.2.2.1 x.2.2.2.1 x.2.2.2.2.1 x.2.2.2.2.2.1 x.2.2.2.2.2.2 = segK (Γ k) F (T k) body 18 (c18.st x) := by kernel_rfl
theorem main (k : Nat) (x : prods (con 0).cin.tys) : ramp_Nearest.f k x.1 x.2.1 x.2.2.1 x.2.2.2.1 x.2.2.2.2 = goK (Γ k) F (T k) 2000 [.code body] ((con 0).cin.st x) := by kernel_rfl
theorem okΓ (k : Nat) : ΓOk Go.Proofs.Try.prog (Γ k) := Γcons (convexpl_Restrict.ok k) ⟨Go.Proofs.Try.f22, by kernel_rfl, by kernel_rfl, by kernel_rfl⟩ (Γcons (ramp_Check.ok k) ⟨Go.Proofs.Try.f68, by kernel_rfl, by kernel_rfl, by kernel_rfl⟩ (Γcons (ramp_values.ok k) ⟨Go.Proofs.Try.f69, by kernel_rfl, by kernel_rfl, by kernel_rfl⟩ (Γcons (convexpl_Least.ok k) ⟨Go.Proofs.Try.f70, by kernel_rfl, by kernel_rfl, by kernel_rfl⟩ (Γnil))))
theorem ok (k : Nat) : ConSound Go.Proofs.Try.prog 39 (con k) := con_sound (Γ := Γ) (fn := Go.Proofs.Try.f39) (body := body) (cin := (con 0).cin) (F := F) (T := T) follows (by kernel_rfl) (by kernel_rfl) (by kernel_rfl) (by kernel_rfl) (by kernel_rfl) (by decide +kernel) (by kernel_rfl) (by kernel_rfl) (tzero ⟨fun x => rfl, fun x => rfl, trivial⟩) k (fun m _ => okΓ m) (fun m _ => tstep ⟨fun x => s7 m x, fun x => s18 m x, trivial⟩) (fun x y h => (main k x).symm.trans h)
end ramp_Nearest
namespace gridhallkeep3_near
noncomputable abbrev con (k : Nat) : Con := ⟨⟨[], []⟩, ⟨[(0, .l (.val .bool))], []⟩, fun x => gridhallkeep3_near.f k⟩
noncomputable abbrev Γ (k : Nat) : FuncId → Option Con := look [(16, slices_Equal_int.con k), (39, ramp_Nearest.con k)]
abbrev F : Fin Go.Proofs.Try.prog := ⟨⟨[(0, .l (.val .bool))], []⟩, [], [.tmp 0]⟩
noncomputable abbrev Tl (k : Nat) : List (Nat × Hint (prods F.cout.tys)) := []
noncomputable abbrev T (k : Nat) : Nat → Option (Hint (prods F.cout.tys)) := look (Tl k)
noncomputable abbrev body : Code := Go.Proofs.Try.f38.body.getD .skip
theorem main (k : Nat) (x : prods (con 0).cin.tys) : gridhallkeep3_near.f k = goK (Γ k) F (T k) 2000 [.code body] ((con 0).cin.st x) := by kernel_rfl
theorem okΓ (k : Nat) : ΓOk Go.Proofs.Try.prog (Γ k) := Γcons (slices_Equal_int.ok k) ⟨Go.Proofs.Try.f16, by kernel_rfl, by kernel_rfl, by kernel_rfl⟩ (Γcons (ramp_Nearest.ok k) ⟨Go.Proofs.Try.f39, by kernel_rfl, by kernel_rfl, by kernel_rfl⟩ (Γnil))
theorem ok (k : Nat) : ConSound Go.Proofs.Try.prog 38 (con k) := con_sound (Γ := Γ) (fn := Go.Proofs.Try.f38) (body := body) (cin := (con 0).cin) (F := F) (T := T) follows (by kernel_rfl) (by kernel_rfl) (by kernel_rfl) (by kernel_rfl) (by kernel_rfl) (by decide +kernel) (by kernel_rfl) (by kernel_rfl) (tzero trivial) k (fun m _ => okΓ m) (fun m _ => tstep trivial) (fun x y h => (main k x).symm.trans h)
end gridhallkeep3_near
namespace gridhallkeep3_RampKept_1
noncomputable abbrev con (k : Nat) : Con := ⟨⟨[(0, .l (.val (.list 3 (.int .i64)))), (1, .l (.ptr 9000000 0))], [(9000000, .box 22 [.val (.list 3 (.int .i64))])]⟩, ⟨[(0, .l (.val (.int .i64)))], [(9000000, .box 22 [.val (.list 3 (.int .i64))])]⟩, fun x => gridhallkeep3_RampKept_1.f k x.1 x.2⟩
noncomputable abbrev Γ (k : Nat) : FuncId → Option Con := look []
abbrev F : Fin Go.Proofs.Try.prog := ⟨⟨[(0, .l (.val (.int .i64)))], [(9000000, .box 22 [.val (.list 3 (.int .i64))])]⟩, [9000000], [.tmp 3]⟩
abbrev c3 : Cut := ⟨[(1, .l (.ptr 9000000 0)), (4, .l (.val (.int .i64))), (7, .l (.val (.list 3 (.int .i64)))), (8, .l (.val (.int .i64))), (9, .l (.val (.int .i64)))], [(9000000, .box 22 [.val (.list 3 (.int .i64))])]⟩
noncomputable abbrev Tl (k : Nat) : List (Nat × Hint (prods F.cout.tys)) := [(3, ⟨c3, fun x => gridhallkeep3_RampKept_1.l3 k x.1 x.2.1 x.2.2.1 x.2.2.2.1 x.2.2.2.2⟩)]
noncomputable abbrev T (k : Nat) : Nat → Option (Hint (prods F.cout.tys)) := look (Tl k)
noncomputable abbrev body : Code := Go.Proofs.Try.f40.body.getD .skip
theorem s3 (k : Nat) (x : prods c3.tys) : gridhallkeep3_RampKept_1.l3 (k + 1) x.1 x.2.1 x.2.2.1 x.2.2.2.1 x.2.2.2.2 = segK (Γ k) F (T k) body 3 (c3.st x) := by kernel_rfl
theorem main (k : Nat) (x : prods (con 0).cin.tys) : gridhallkeep3_RampKept_1.f k x.1 x.2 = goK (Γ k) F (T k) 2000 [.code body] ((con 0).cin.st x) := by kernel_rfl
theorem okΓ (k : Nat) : ΓOk Go.Proofs.Try.prog (Γ k) := Γnil
theorem ok (k : Nat) : ConSound Go.Proofs.Try.prog 40 (con k) := con_sound (Γ := Γ) (fn := Go.Proofs.Try.f40) (body := body) (cin := (con 0).cin) (F := F) (T := T) follows (by kernel_rfl) (by kernel_rfl) (by kernel_rfl) (by kernel_rfl) (by kernel_rfl) (by decide +kernel) (by kernel_rfl) (by kernel_rfl) (tzero ⟨fun x => rfl, trivial⟩) k (fun m _ => okΓ m) (fun m _ => tstep ⟨fun x => s3 m x, trivial⟩) (fun x y h => (main k x).symm.trans h)
end gridhallkeep3_RampKept_1
namespace gridhallkeep3_RampKept
noncomputable abbrev con (k : Nat) : Con := ⟨⟨[(0, .l (.val (.list 68 Y0))), (1, .l (.val (.int .i64))), (2, .l (.val (.int .i64))), (3, .l (.val (.int .i64))), (4, .l (.val (.list 3 (.int .i64)))), (5, .l (.val (.list 3 (.int .i64))))], []⟩, ⟨[(0, .l (.val .bool))], []⟩, fun x => gridhallkeep3_RampKept.f k x.1 x.2.1 x.2.2.1 x.2.2.2.1 x.2.2.2.2.1 x.2.2.2.2.2⟩
noncomputable abbrev Γ (k : Nat) : FuncId → Option Con := look [(37, ramp_Feasible.con k), (38, gridhallkeep3_near.con k), (39, ramp_Nearest.con k), (40, gridhallkeep3_RampKept_1.con k)]
abbrev F : Fin Go.Proofs.Try.prog := ⟨⟨[(0, .l (.val .bool))], []⟩, [], [.tmp 12]⟩
noncomputable abbrev Tl (k : Nat) : List (Nat × Hint (prods F.cout.tys)) := []
noncomputable abbrev T (k : Nat) : Nat → Option (Hint (prods F.cout.tys)) := look (Tl k)
noncomputable abbrev body : Code := Go.Proofs.Try.f10.body.getD .skip
theorem main (k : Nat) (x : prods (con 0).cin.tys) : gridhallkeep3_RampKept.f k x.1 x.2.1 x.2.2.1 x.2.2.2.1 x.2.2.2.2.1 x.2.2.2.2.2 = goK (Γ k) F (T k) 2000 [.code body] ((con 0).cin.st x) := by kernel_rfl
theorem okΓ (k : Nat) : ΓOk Go.Proofs.Try.prog (Γ k) := Γcons (ramp_Feasible.ok k) ⟨Go.Proofs.Try.f37, by kernel_rfl, by kernel_rfl, by kernel_rfl⟩ (Γcons (gridhallkeep3_near.ok k) ⟨Go.Proofs.Try.f38, by kernel_rfl, by kernel_rfl, by kernel_rfl⟩ (Γcons (ramp_Nearest.ok k) ⟨Go.Proofs.Try.f39, by kernel_rfl, by kernel_rfl, by kernel_rfl⟩ (Γcons (gridhallkeep3_RampKept_1.ok k) ⟨Go.Proofs.Try.f40, by kernel_rfl, by kernel_rfl, by kernel_rfl⟩ (Γnil))))
theorem ok (k : Nat) : ConSound Go.Proofs.Try.prog 10 (con k) := con_sound (Γ := Γ) (fn := Go.Proofs.Try.f10) (body := body) (cin := (con 0).cin) (F := F) (T := T) follows (by kernel_rfl) (by kernel_rfl) (by kernel_rfl) (by kernel_rfl) (by kernel_rfl) (by decide +kernel) (by kernel_rfl) (by kernel_rfl) (tzero trivial) k (fun m _ => okΓ m) (fun m _ => tstep trivial) (fun x y h => (main k x).symm.trans h)
end gridhallkeep3_RampKept
namespace ramp_Range
noncomputable abbrev con (k : Nat) : Con := ⟨⟨[(0, .l (.val (.list 68 Y0))), (1, .l (.val (.int .i64))), (2, .l (.val (.int .i64))), (3, .l (.val (.int .i64)))], []⟩, ⟨[(0, .l (.val (.list 68 Y0))), (1, .l (.val (.int .i64)))], []⟩, fun x => ramp_Range.f k x.1 x.2.1 x.2.2.1 x.2.2.2⟩
noncomputable abbrev Γ (k : Nat) : FuncId → Option Con := look [(68, ramp_Check.con k)]
abbrev F : Fin Go.Proofs.Try.prog := ⟨⟨[(0, .l (.val (.list 68 Y0))), (1, .l (.val (.int .i64)))], []⟩, [], [.tmp 8, .tmp 9]⟩
abbrev c7 : Cut := ⟨[(2, .l (.val (.int .i64))), (3, .l (.val (.int .i64))), (11, .l (.row 7000501)), (12, .l (.ptr 7000000 0)), (27, .l (.val (.list 68 Y0))), (28, .l (.val (.int .i64))), (29, .l (.val (.int .i64)))], [(7000501, .row 68 Y0), (7000000, .box 68 [.val (.int .i64), .val (.int .i64)])]⟩
abbrev c15 : Cut := ⟨[(2, .l (.val (.int .i64))), (3, .l (.val (.int .i64))), (11, .l (.row 7000000)), (15, .l (.val (.int .i64)))], [(7000000, .row 68 Y0)]⟩
noncomputable abbrev Tl (k : Nat) : List (Nat × Hint (prods F.cout.tys)) := [(7, ⟨c7, fun x => ramp_Range.l7 k x.1 x.2.1 x.2.2.1 x.2.2.2.1 x.2.2.2.2.1 x.2.2.2.2.2.1 x.2.2.2.2.2.2.1 x.2.2.2.2.2.2.2⟩), (15, ⟨c15, fun x => ramp_Range.l15 k x.1 x.2.1 x.2.2.1 x.2.2.2⟩)]
noncomputable abbrev T (k : Nat) : Nat → Option (Hint (prods F.cout.tys)) := look (Tl k)
noncomputable abbrev body : Code := Go.Proofs.Try.f45.body.getD .skip
theorem s7 (k : Nat) (x : prods c7.tys) : ramp_Range.l7 (k + 1) x.1 x.2.1 x.2.2.1 x.2.2.2.1 x.2.2.2.2.1 x.2.2.2.2.2.1 x.2.2.2.2.2.2.1 x.2.2.2.2.2.2.2 = segK (Γ k) F (T k) body 7 (c7.st x) := by kernel_rfl
theorem s15 (k : Nat) (x : prods c15.tys) : ramp_Range.l15 (k + 1) x.1 x.2.1 x.2.2.1 x.2.2.2 = segK (Γ k) F (T k) body 15 (c15.st x) := by kernel_rfl
theorem main (k : Nat) (x : prods (con 0).cin.tys) : ramp_Range.f k x.1 x.2.1 x.2.2.1 x.2.2.2 = goK (Γ k) F (T k) 2000 [.code body] ((con 0).cin.st x) := by kernel_rfl
theorem okΓ (k : Nat) : ΓOk Go.Proofs.Try.prog (Γ k) := Γcons (ramp_Check.ok k) ⟨Go.Proofs.Try.f68, by kernel_rfl, by kernel_rfl, by kernel_rfl⟩ (Γnil)
theorem ok (k : Nat) : ConSound Go.Proofs.Try.prog 45 (con k) := con_sound (Γ := Γ) (fn := Go.Proofs.Try.f45) (body := body) (cin := (con 0).cin) (F := F) (T := T) follows (by kernel_rfl) (by kernel_rfl) (by kernel_rfl) (by kernel_rfl) (by kernel_rfl) (by decide +kernel) (by kernel_rfl) (by kernel_rfl) (tzero ⟨fun x => rfl, fun x => rfl, trivial⟩) k (fun m _ => okΓ m) (fun m _ => tstep ⟨fun x => s7 m x, fun x => s15 m x, trivial⟩) (fun x y h => (main k x).symm.trans h)
end ramp_Range
namespace gridhallkeep3_RampWithin
noncomputable abbrev con (k : Nat) : Con := ⟨⟨[(0, .l (.val (.list 68 Y0))), (1, .l (.val (.int .i64))), (2, .l (.val (.int .i64))), (3, .l (.val (.int .i64))), (4, .l (.val (.list 3 (.int .i64))))], []⟩, ⟨[(0, .l (.val .bool))], []⟩, fun x => gridhallkeep3_RampWithin.f k x.1 x.2.1 x.2.2.1 x.2.2.2.1 x.2.2.2.2⟩
noncomputable abbrev Γ (k : Nat) : FuncId → Option Con := look [(37, ramp_Feasible.con k), (38, gridhallkeep3_near.con k), (39, ramp_Nearest.con k), (45, ramp_Range.con k)]
abbrev F : Fin Go.Proofs.Try.prog := ⟨⟨[(0, .l (.val .bool))], []⟩, [], [.tmp 10]⟩
abbrev c14 : Cut := ⟨[(13, .l (.val (.list 68 Y0))), (18, .l (.val (.int .i64))), (19, .l (.val (.int .i64))), (87, .l (.val (.list 3 (.int .i64)))), (88, .l (.val (.int .i64))), (89, .l (.val (.int .i64)))], []⟩
noncomputable abbrev Tl (k : Nat) : List (Nat × Hint (prods F.cout.tys)) := [(14, ⟨c14, fun x => gridhallkeep3_RampWithin.l14 k x.1 x.2.1 x.2.2.1 x.2.2.2.1 x.2.2.2.2.1 x.2.2.2.2.2⟩)]
noncomputable abbrev T (k : Nat) : Nat → Option (Hint (prods F.cout.tys)) := look (Tl k)
noncomputable abbrev body : Code := Go.Proofs.Try.f13.body.getD .skip
theorem s14 (k : Nat) (x : prods c14.tys) : gridhallkeep3_RampWithin.l14 (k + 1) x.1 x.2.1 x.2.2.1 x.2.2.2.1 x.2.2.2.2.1 x.2.2.2.2.2 = segK (Γ k) F (T k) body 14 (c14.st x) := by kernel_rfl
theorem main (k : Nat) (x : prods (con 0).cin.tys) : gridhallkeep3_RampWithin.f k x.1 x.2.1 x.2.2.1 x.2.2.2.1 x.2.2.2.2 = goK (Γ k) F (T k) 2000 [.code body] ((con 0).cin.st x) := by kernel_rfl
theorem okΓ (k : Nat) : ΓOk Go.Proofs.Try.prog (Γ k) := Γcons (ramp_Feasible.ok k) ⟨Go.Proofs.Try.f37, by kernel_rfl, by kernel_rfl, by kernel_rfl⟩ (Γcons (gridhallkeep3_near.ok k) ⟨Go.Proofs.Try.f38, by kernel_rfl, by kernel_rfl, by kernel_rfl⟩ (Γcons (ramp_Nearest.ok k) ⟨Go.Proofs.Try.f39, by kernel_rfl, by kernel_rfl, by kernel_rfl⟩ (Γcons (ramp_Range.ok k) ⟨Go.Proofs.Try.f45, by kernel_rfl, by kernel_rfl, by kernel_rfl⟩ (Γnil))))
theorem ok (k : Nat) : ConSound Go.Proofs.Try.prog 13 (con k) := con_sound (Γ := Γ) (fn := Go.Proofs.Try.f13) (body := body) (cin := (con 0).cin) (F := F) (T := T) follows (by kernel_rfl) (by kernel_rfl) (by kernel_rfl) (by kernel_rfl) (by kernel_rfl) (by decide +kernel) (by kernel_rfl) (by kernel_rfl) (tzero ⟨fun x => rfl, trivial⟩) k (fun m _ => okΓ m) (fun m _ => tstep ⟨fun x => s14 m x, trivial⟩) (fun x y h => (main k x).symm.trans h)
end gridhallkeep3_RampWithin
namespace gridhallkeep3_rises
noncomputable abbrev con (k : Nat) : Con := ⟨⟨[], []⟩, ⟨[(0, .av Y2)], []⟩, fun x => gridhallkeep3_rises.f k⟩
noncomputable abbrev Γ (k : Nat) : FuncId → Option Con := look []
abbrev F : Fin Go.Proofs.Try.prog := ⟨⟨[(0, .av Y2)], []⟩, [], [.cell 0 32]⟩
noncomputable abbrev Tl (k : Nat) : List (Nat × Hint (prods F.cout.tys)) := []
noncomputable abbrev T (k : Nat) : Nat → Option (Hint (prods F.cout.tys)) := look (Tl k)
noncomputable abbrev body : Code := Go.Proofs.Try.f26.body.getD .skip
theorem main (k : Nat) (x : prods (con 0).cin.tys) : gridhallkeep3_rises.f k = goK (Γ k) F (T k) 2000 [.code body] ((con 0).cin.st x) := by kernel_rfl
theorem okΓ (k : Nat) : ΓOk Go.Proofs.Try.prog (Γ k) := Γnil
theorem ok (k : Nat) : ConSound Go.Proofs.Try.prog 26 (con k) := con_sound (Γ := Γ) (fn := Go.Proofs.Try.f26) (body := body) (cin := (con 0).cin) (F := F) (T := T) follows (by kernel_rfl) (by kernel_rfl) (by kernel_rfl) (by kernel_rfl) (by kernel_rfl) (by decide +kernel) (by kernel_rfl) (by kernel_rfl) (tzero trivial) k (fun m _ => okΓ m) (fun m _ => tstep trivial) (fun x y h => (main k x).symm.trans h)
end gridhallkeep3_rises
namespace convexpl_At
noncomputable abbrev con (k : Nat) : Con := ⟨⟨[(0, .av Y2), (1, .l (.val (.int .i64)))], []⟩, ⟨[(0, .l (.val (.int .i64))), (1, .l (.val (.int .i64)))], []⟩, fun x => convexpl_At.f k x.1 x.2⟩
noncomputable abbrev Γ (k : Nat) : FuncId → Option Con := look [(51, convexpl_Check.con k), (52, convexpl_high.con k), (54, convexpl_value.con k)]
abbrev F : Fin Go.Proofs.Try.prog := ⟨⟨[(0, .l (.val (.int .i64))), (1, .l (.val (.int .i64)))], []⟩, [], [.tmp 4, .tmp 5]⟩
noncomputable abbrev Tl (k : Nat) : List (Nat × Hint (prods F.cout.tys)) := []
noncomputable abbrev T (k : Nat) : Nat → Option (Hint (prods F.cout.tys)) := look (Tl k)
noncomputable abbrev body : Code := Go.Proofs.Try.f23.body.getD .skip
theorem main (k : Nat) (x : prods (con 0).cin.tys) : convexpl_At.f k x.1 x.2 = goK (Γ k) F (T k) 2000 [.code body] ((con 0).cin.st x) := by kernel_rfl
theorem okΓ (k : Nat) : ΓOk Go.Proofs.Try.prog (Γ k) := Γcons (convexpl_Check.ok k) ⟨Go.Proofs.Try.f51, by kernel_rfl, by kernel_rfl, by kernel_rfl⟩ (Γcons (convexpl_high.ok k) ⟨Go.Proofs.Try.f52, by kernel_rfl, by kernel_rfl, by kernel_rfl⟩ (Γcons (convexpl_value.ok k) ⟨Go.Proofs.Try.f54, by kernel_rfl, by kernel_rfl, by kernel_rfl⟩ (Γnil)))
theorem ok (k : Nat) : ConSound Go.Proofs.Try.prog 23 (con k) := con_sound (Γ := Γ) (fn := Go.Proofs.Try.f23) (body := body) (cin := (con 0).cin) (F := F) (T := T) follows (by kernel_rfl) (by kernel_rfl) (by kernel_rfl) (by kernel_rfl) (by kernel_rfl) (by decide +kernel) (by kernel_rfl) (by kernel_rfl) (tzero trivial) k (fun m _ => okΓ m) (fun m _ => tstep trivial) (fun x y h => (main k x).symm.trans h)
end convexpl_At
namespace gridhallkeep3_slopes
noncomputable abbrev con (k : Nat) : Con := ⟨⟨[], []⟩, ⟨[(0, .l (.val .bool))], []⟩, fun x => gridhallkeep3_slopes.f k⟩
noncomputable abbrev Γ (k : Nat) : FuncId → Option Con := look [(23, convexpl_At.con k), (26, gridhallkeep3_rises.con k)]
abbrev F : Fin Go.Proofs.Try.prog := ⟨⟨[(0, .l (.val .bool))], []⟩, [], [.tmp 0]⟩
noncomputable abbrev Tl (k : Nat) : List (Nat × Hint (prods F.cout.tys)) := []
noncomputable abbrev T (k : Nat) : Nat → Option (Hint (prods F.cout.tys)) := look (Tl k)
noncomputable abbrev body : Code := Go.Proofs.Try.f19.body.getD .skip
theorem main (k : Nat) (x : prods (con 0).cin.tys) : gridhallkeep3_slopes.f k = goK (Γ k) F (T k) 2000 [.code body] ((con 0).cin.st x) := by kernel_rfl
theorem okΓ (k : Nat) : ΓOk Go.Proofs.Try.prog (Γ k) := Γcons (convexpl_At.ok k) ⟨Go.Proofs.Try.f23, by kernel_rfl, by kernel_rfl, by kernel_rfl⟩ (Γcons (gridhallkeep3_rises.ok k) ⟨Go.Proofs.Try.f26, by kernel_rfl, by kernel_rfl, by kernel_rfl⟩ (Γnil))
theorem ok (k : Nat) : ConSound Go.Proofs.Try.prog 19 (con k) := con_sound (Γ := Γ) (fn := Go.Proofs.Try.f19) (body := body) (cin := (con 0).cin) (F := F) (T := T) follows (by kernel_rfl) (by kernel_rfl) (by kernel_rfl) (by kernel_rfl) (by kernel_rfl) (by decide +kernel) (by kernel_rfl) (by kernel_rfl) (tzero trivial) k (fun m _ => okΓ m) (fun m _ => tstep trivial) (fun x y h => (main k x).symm.trans h)
end gridhallkeep3_slopes
namespace convexpl_Conjugate
noncomputable abbrev con (k : Nat) : Con := ⟨⟨[(0, .av Y2), (1, .l (.val (.int .i64)))], []⟩, ⟨[(0, .l (.val (.int .i64))), (1, .l (.val (.int .i64)))], []⟩, fun x => convexpl_Conjugate.f k x.1 x.2⟩
noncomputable abbrev Γ (k : Nat) : FuncId → Option Con := look [(51, convexpl_Check.con k)]
abbrev F : Fin Go.Proofs.Try.prog := ⟨⟨[(0, .l (.val (.int .i64))), (1, .l (.val (.int .i64)))], []⟩, [], [.tmp 4, .tmp 5]⟩
abbrev c8 : Cut := ⟨[(1, .l (.val (.int .i64))), (7, .l (.val (.int .i64))), (8, .l (.val (.int .i64))), (27, .l (.val (.list 60 Y0))), (28, .l (.val (.int .i64))), (29, .l (.val (.int .i64)))], []⟩
noncomputable abbrev Tl (k : Nat) : List (Nat × Hint (prods F.cout.tys)) := [(8, ⟨c8, fun x => convexpl_Conjugate.l8 k x.1 x.2.1 x.2.2.1 x.2.2.2.1 x.2.2.2.2.1 x.2.2.2.2.2⟩)]
noncomputable abbrev T (k : Nat) : Nat → Option (Hint (prods F.cout.tys)) := look (Tl k)
noncomputable abbrev body : Code := Go.Proofs.Try.f29.body.getD .skip
theorem s8 (k : Nat) (x : prods c8.tys) : convexpl_Conjugate.l8 (k + 1) x.1 x.2.1 x.2.2.1 x.2.2.2.1 x.2.2.2.2.1 x.2.2.2.2.2 = segK (Γ k) F (T k) body 8 (c8.st x) := by kernel_rfl
theorem main (k : Nat) (x : prods (con 0).cin.tys) : convexpl_Conjugate.f k x.1 x.2 = goK (Γ k) F (T k) 2000 [.code body] ((con 0).cin.st x) := by kernel_rfl
theorem okΓ (k : Nat) : ΓOk Go.Proofs.Try.prog (Γ k) := Γcons (convexpl_Check.ok k) ⟨Go.Proofs.Try.f51, by kernel_rfl, by kernel_rfl, by kernel_rfl⟩ (Γnil)
theorem ok (k : Nat) : ConSound Go.Proofs.Try.prog 29 (con k) := con_sound (Γ := Γ) (fn := Go.Proofs.Try.f29) (body := body) (cin := (con 0).cin) (F := F) (T := T) follows (by kernel_rfl) (by kernel_rfl) (by kernel_rfl) (by kernel_rfl) (by kernel_rfl) (by decide +kernel) (by kernel_rfl) (by kernel_rfl) (tzero ⟨fun x => rfl, trivial⟩) k (fun m _ => okΓ m) (fun m _ => tstep ⟨fun x => s8 m x, trivial⟩) (fun x y h => (main k x).symm.trans h)
end convexpl_Conjugate
namespace slices_Equal_api_ConvexPiece
noncomputable abbrev con (k : Nat) : Con := ⟨⟨[(0, .l (.val (.list 60 Y0))), (1, .l (.val (.list 60 Y0)))], []⟩, ⟨[(0, .l (.val .bool))], []⟩, fun x => slices_Equal_api_ConvexPiece.f k x.1 x.2⟩
noncomputable abbrev Γ (k : Nat) : FuncId → Option Con := look []
abbrev F : Fin Go.Proofs.Try.prog := ⟨⟨[(0, .l (.val .bool))], []⟩, [], [.tmp 4]⟩
abbrev c4 : Cut := ⟨[(0, .l (.val (.list 60 Y0))), (1, .l (.val (.list 60 Y0))), (12, .l (.val (.int .i64))), (13, .l (.val (.int .i64)))], []⟩
noncomputable abbrev Tl (k : Nat) : List (Nat × Hint (prods F.cout.tys)) := [(4, ⟨c4, fun x => slices_Equal_api_ConvexPiece.l4 k x.1 x.2.1 x.2.2.1 x.2.2.2⟩)]
noncomputable abbrev T (k : Nat) : Nat → Option (Hint (prods F.cout.tys)) := look (Tl k)
noncomputable abbrev body : Code := Go.Proofs.Try.f59.body.getD .skip
theorem s4 (k : Nat) (x : prods c4.tys) : slices_Equal_api_ConvexPiece.l4 (k + 1) x.1 x.2.1 x.2.2.1 x.2.2.2 = segK (Γ k) F (T k) body 4 (c4.st x) := by kernel_rfl
theorem main (k : Nat) (x : prods (con 0).cin.tys) : slices_Equal_api_ConvexPiece.f k x.1 x.2 = goK (Γ k) F (T k) 2000 [.code body] ((con 0).cin.st x) := by kernel_rfl
theorem okΓ (k : Nat) : ΓOk Go.Proofs.Try.prog (Γ k) := Γnil
theorem ok (k : Nat) : ConSound Go.Proofs.Try.prog 59 (con k) := con_sound (Γ := Γ) (fn := Go.Proofs.Try.f59) (body := body) (cin := (con 0).cin) (F := F) (T := T) follows (by kernel_rfl) (by kernel_rfl) (by kernel_rfl) (by kernel_rfl) (by kernel_rfl) (by decide +kernel) (by kernel_rfl) (by kernel_rfl) (tzero ⟨fun x => rfl, trivial⟩) k (fun m _ => okΓ m) (fun m _ => tstep ⟨fun x => s4 m x, trivial⟩) (fun x y h => (main k x).symm.trans h)
end slices_Equal_api_ConvexPiece
namespace gridhallkeep3_sameConvex
noncomputable abbrev con (k : Nat) : Con := ⟨⟨[(0, .av Y2), (1, .av Y2)], []⟩, ⟨[(0, .l (.val .bool))], []⟩, fun x => gridhallkeep3_sameConvex.f k x.1 x.2⟩
noncomputable abbrev Γ (k : Nat) : FuncId → Option Con := look [(59, slices_Equal_api_ConvexPiece.con k)]
abbrev F : Fin Go.Proofs.Try.prog := ⟨⟨[(0, .l (.val .bool))], []⟩, [], [.tmp 4]⟩
noncomputable abbrev Tl (k : Nat) : List (Nat × Hint (prods F.cout.tys)) := []
noncomputable abbrev T (k : Nat) : Nat → Option (Hint (prods F.cout.tys)) := look (Tl k)
noncomputable abbrev body : Code := Go.Proofs.Try.f28.body.getD .skip
theorem main (k : Nat) (x : prods (con 0).cin.tys) : gridhallkeep3_sameConvex.f k x.1 x.2 = goK (Γ k) F (T k) 2000 [.code body] ((con 0).cin.st x) := by kernel_rfl
theorem okΓ (k : Nat) : ΓOk Go.Proofs.Try.prog (Γ k) := Γcons (slices_Equal_api_ConvexPiece.ok k) ⟨Go.Proofs.Try.f59, by kernel_rfl, by kernel_rfl, by kernel_rfl⟩ (Γnil)
theorem ok (k : Nat) : ConSound Go.Proofs.Try.prog 28 (con k) := con_sound (Γ := Γ) (fn := Go.Proofs.Try.f28) (body := body) (cin := (con 0).cin) (F := F) (T := T) follows (by kernel_rfl) (by kernel_rfl) (by kernel_rfl) (by kernel_rfl) (by kernel_rfl) (by decide +kernel) (by kernel_rfl) (by kernel_rfl) (tzero trivial) k (fun m _ => okΓ m) (fun m _ => tstep trivial) (fun x y h => (main k x).symm.trans h)
end gridhallkeep3_sameConvex
namespace gridhallkeep3_ConvexRing
noncomputable abbrev con (k : Nat) : Con := ⟨⟨[(0, .av Y2), (1, .av Y2), (2, .av Y2)], []⟩, ⟨[(0, .l (.val .bool))], []⟩, fun x => gridhallkeep3_ConvexRing.f k x.1 x.2.1 x.2.2⟩
noncomputable abbrev Γ (k : Nat) : FuncId → Option Con := look [(19, gridhallkeep3_slopes.con k), (24, gridhallkeep3_fine.con k), (28, gridhallkeep3_sameConvex.con k), (30, convexpl_Convolve.con k), (34, convexpl_Add.con k)]
abbrev F : Fin Go.Proofs.Try.prog := ⟨⟨[(0, .l (.val .bool))], []⟩, [], [.tmp 6]⟩
abbrev c4 : Cut := ⟨[(3, .l (.ptr 7000000 0)), (4, .l (.ptr 7000001 0)), (5, .l (.ptr 7000002 0)), (21, .l (.row 7000003)), (22, .l (.val (.int .i64))), (23, .l (.val (.int .i64)))], [(7000000, .box 32 [.val (.int .i64), .val (.int .i64), .val (.list 60 Y0)]), (7000001, .box 32 [.val (.int .i64), .val (.int .i64), .val (.list 60 Y0)]), (7000002, .box 32 [.val (.int .i64), .val (.int .i64), .val (.list 60 Y0)]), (7000003, .row 45 (.fn [34, 30]))]⟩
noncomputable abbrev Tl (k : Nat) : List (Nat × Hint (prods F.cout.tys)) := [(4, ⟨c4, fun x => gridhallkeep3_ConvexRing.l4 k x.1 x.2.1 x.2.2.1 x.2.2.2.1 x.2.2.2.2.1 x.2.2.2.2.2.1 x.2.2.2.2.2.2.1 x.2.2.2.2.2.2.2.1 x.2.2.2.2.2.2.2.2.1 x.2.2.2.2.2.2.2.2.2.1 x.2.2.2.2.2.2.2.2.2.2.1 x.2.2.2.2.2.2.2.2.2.2.2⟩)]
noncomputable abbrev T (k : Nat) : Nat → Option (Hint (prods F.cout.tys)) := look (Tl k)
noncomputable abbrev body : Code := Go.Proofs.Try.f8.body.getD .skip
theorem s4 (k : Nat) (x : prods c4.tys) : gridhallkeep3_ConvexRing.l4 (k + 1) x.1 x.2.1 x.2.2.1 x.2.2.2.1 x.2.2.2.2.1 x.2.2.2.2.2.1 x.2.2.2.2.2.2.1 x.2.2.2.2.2.2.2.1 x.2.2.2.2.2.2.2.2.1 x.2.2.2.2.2.2.2.2.2.1 x.2.2.2.2.2.2.2.2.2.2.1 x.2.2.2.2.2.2.2.2.2.2.2 = segK (Γ k) F (T k) body 4 (c4.st x) := by kernel_rfl
theorem main (k : Nat) (x : prods (con 0).cin.tys) : gridhallkeep3_ConvexRing.f k x.1 x.2.1 x.2.2 = goK (Γ k) F (T k) 2000 [.code body] ((con 0).cin.st x) := by kernel_rfl
theorem okΓ (k : Nat) : ΓOk Go.Proofs.Try.prog (Γ k) := Γcons (gridhallkeep3_slopes.ok k) ⟨Go.Proofs.Try.f19, by kernel_rfl, by kernel_rfl, by kernel_rfl⟩ (Γcons (gridhallkeep3_fine.ok k) ⟨Go.Proofs.Try.f24, by kernel_rfl, by kernel_rfl, by kernel_rfl⟩ (Γcons (gridhallkeep3_sameConvex.ok k) ⟨Go.Proofs.Try.f28, by kernel_rfl, by kernel_rfl, by kernel_rfl⟩ (Γcons (convexpl_Convolve.ok k) ⟨Go.Proofs.Try.f30, by kernel_rfl, by kernel_rfl, by kernel_rfl⟩ (Γcons (convexpl_Add.ok k) ⟨Go.Proofs.Try.f34, by kernel_rfl, by kernel_rfl, by kernel_rfl⟩ (Γnil)))))
theorem ok (k : Nat) : ConSound Go.Proofs.Try.prog 8 (con k) := con_sound (Γ := Γ) (fn := Go.Proofs.Try.f8) (body := body) (cin := (con 0).cin) (F := F) (T := T) follows (by kernel_rfl) (by kernel_rfl) (by kernel_rfl) (by kernel_rfl) (by kernel_rfl) (by decide +kernel) (by kernel_rfl) (by kernel_rfl) (tzero ⟨fun x => rfl, trivial⟩) k (fun m _ => okΓ m) (fun m _ => tstep ⟨fun x => s4 m x, trivial⟩) (fun x y h => (main k x).symm.trans h)
end gridhallkeep3_ConvexRing
end Go.Proofs.Ytcmbckancficcaa.VE
