/- Contracts of functions (printed by a program; no statement is proved here). -/
import Derived.Test.YtodagcbcdkfniaaVeCon2
import Derived.Test.YtodagcbcdkfniaaG3D
namespace Go.Proofs.Ytodagcbcdkfniaa.VE
set_option linter.unusedVariables false
set_option maxRecDepth 100000
open Go Go.RowKit
namespace offer_named
noncomputable abbrev con (k : Nat) : Con := ⟨⟨[(0, .l (.val .str))], []⟩, ⟨[(0, .l (.val .bool))], []⟩, fun x => offer_named.f k x⟩
noncomputable abbrev Γ (k : Nat) : FuncId → Option Con := look []
abbrev F : Fin Go.Proofs.Try.prog := ⟨⟨[(0, .l (.val .bool))], []⟩, [], [.tmp 2]⟩
abbrev c4 : Cut := ⟨[(0, .l (.val .str)), (22, .l (.val (.int .i64))), (23, .l (.val (.int .i64)))], []⟩
noncomputable abbrev Tl (k : Nat) : List (Nat × Hint (prods F.cout.tys)) := [(4, ⟨c4, fun x => offer_named.l4 k x.1 x.2.1 x.2.2⟩)]
noncomputable abbrev T (k : Nat) : Nat → Option (Hint (prods F.cout.tys)) := look (Tl k)
noncomputable abbrev body : Code := Go.Proofs.Try.f94.body.getD .skip
theorem s4 (k : Nat) (x : prods c4.tys) : offer_named.l4 (k + 1) x.1 x.2.1 x.2.2 = segK (Γ k) F (T k) body 4 (c4.st x) := by kernel_rfl
theorem main (k : Nat) (x : prods (con 0).cin.tys) : offer_named.f k x = goK (Γ k) F (T k) 2000 [.code body] ((con 0).cin.st x) := by kernel_rfl
theorem okΓ (k : Nat) : ΓOk Go.Proofs.Try.prog (Γ k) := Γnil
theorem ok (k : Nat) : ConSound Go.Proofs.Try.prog 94 (con k) := con_sound (Γ := Γ) (fn := Go.Proofs.Try.f94) (body := body) (cin := (con 0).cin) (F := F) (T := T) follows (by kernel_rfl) (by kernel_rfl) (by kernel_rfl) (by kernel_rfl) (by kernel_rfl) (by decide +kernel) (by kernel_rfl) (by kernel_rfl) (tzero ⟨fun x => rfl, trivial⟩) k (fun m _ => okΓ m) (fun m _ => tstep ⟨fun x => s4 m x, trivial⟩) (fun x y h => (main k x).symm.trans h)
end offer_named
namespace offer_Check
noncomputable abbrev con (k : Nat) : Con := ⟨⟨[(0, .av Y3)], []⟩, ⟨[(0, .l (.val (.int .i64)))], []⟩, fun x => offer_Check.f k x⟩
noncomputable abbrev Γ (k : Nat) : FuncId → Option Con := look [(94, offer_named.con k)]
abbrev F : Fin Go.Proofs.Try.prog := ⟨⟨[(0, .l (.val (.int .i64)))], []⟩, [], [.tmp 2]⟩
abbrev c7 : Cut := ⟨[(1, .l (.ptr 7000000 0)), (3, .l (.val (.int .i64))), (15, .l (.val (.list 72 Y0))), (16, .l (.val (.int .i64))), (17, .l (.val (.int .i64)))], [(7000000, .box 28 [.val .str, .val (.list 72 Y0)])]⟩
noncomputable abbrev Tl (k : Nat) : List (Nat × Hint (prods F.cout.tys)) := [(7, ⟨c7, fun x => offer_Check.l7 k x.1 x.2.1 x.2.2.1 x.2.2.2.1 x.2.2.2.2.1 x.2.2.2.2.2⟩)]
noncomputable abbrev T (k : Nat) : Nat → Option (Hint (prods F.cout.tys)) := look (Tl k)
noncomputable abbrev body : Code := Go.Proofs.Try.f81.body.getD .skip
theorem s7 (k : Nat) (x : prods c7.tys) : offer_Check.l7 (k + 1) x.1 x.2.1 x.2.2.1 x.2.2.2.1 x.2.2.2.2.1 x.2.2.2.2.2 = segK (Γ k) F (T k) body 7 (c7.st x) := by kernel_rfl
theorem main (k : Nat) (x : prods (con 0).cin.tys) : offer_Check.f k x = goK (Γ k) F (T k) 2000 [.code body] ((con 0).cin.st x) := by kernel_rfl
theorem okΓ (k : Nat) : ΓOk Go.Proofs.Try.prog (Γ k) := Γcons (offer_named.ok k) ⟨Go.Proofs.Try.f94, by kernel_rfl, by kernel_rfl, by kernel_rfl⟩ (Γnil)
theorem ok (k : Nat) : ConSound Go.Proofs.Try.prog 81 (con k) := con_sound (Γ := Γ) (fn := Go.Proofs.Try.f81) (body := body) (cin := (con 0).cin) (F := F) (T := T) follows (by kernel_rfl) (by kernel_rfl) (by kernel_rfl) (by kernel_rfl) (by kernel_rfl) (by decide +kernel) (by kernel_rfl) (by kernel_rfl) (tzero ⟨fun x => rfl, trivial⟩) k (fun m _ => okΓ m) (fun m _ => tstep ⟨fun x => s7 m x, trivial⟩) (fun x y h => (main k x).symm.trans h)
end offer_Check
namespace auction_Check_1
noncomputable abbrev con (k : Nat) : Con := ⟨⟨[(0, .av Y2), (1, .l (.ptr 9000000 0))], [(9000000, .box 49 [.val .str, .val .bool, .val (.int .i64), .val (.int .i64)])]⟩, ⟨[(0, .l (.val .bool))], [(9000000, .box 49 [.val .str, .val .bool, .val (.int .i64), .val (.int .i64)])]⟩, fun x => auction_Check_1.f k x.1 x.2.1 x.2.2.1 x.2.2.2.1 x.2.2.2.2⟩
noncomputable abbrev Γ (k : Nat) : FuncId → Option Con := look []
abbrev F : Fin Go.Proofs.Try.prog := ⟨⟨[(0, .l (.val .bool))], [(9000000, .box 49 [.val .str, .val .bool, .val (.int .i64), .val (.int .i64)])]⟩, [9000000], [.tmp 3]⟩
noncomputable abbrev Tl (k : Nat) : List (Nat × Hint (prods F.cout.tys)) := []
noncomputable abbrev T (k : Nat) : Nat → Option (Hint (prods F.cout.tys)) := look (Tl k)
noncomputable abbrev body : Code := Go.Proofs.Try.f83.body.getD .skip
theorem main (k : Nat) (x : prods (con 0).cin.tys) : auction_Check_1.f k x.1 x.2.1 x.2.2.1 x.2.2.2.1 x.2.2.2.2 = goK (Γ k) F (T k) 2000 [.code body] ((con 0).cin.st x) := by kernel_rfl
theorem okΓ (k : Nat) : ΓOk Go.Proofs.Try.prog (Γ k) := Γnil
theorem ok (k : Nat) : ConSound Go.Proofs.Try.prog 83 (con k) := con_sound (Γ := Γ) (fn := Go.Proofs.Try.f83) (body := body) (cin := (con 0).cin) (F := F) (T := T) follows (by kernel_rfl) (by kernel_rfl) (by kernel_rfl) (by kernel_rfl) (by kernel_rfl) (by decide +kernel) (by kernel_rfl) (by kernel_rfl) (tzero trivial) k (fun m _ => okΓ m) (fun m _ => tstep trivial) (fun x y h => (main k x).symm.trans h)
end auction_Check_1
namespace slices_IndexFunc_api_AuctionOrder
noncomputable abbrev con (k : Nat) : Con := ⟨⟨[(0, .l (.val (.list 49 Y2))), (1, .l (.fnc 83 9000000))], [(9000000, .caps [.l (.ptr 9000001 0)]), (9000001, .box 49 [.val .str, .val .bool, .val (.int .i64), .val (.int .i64)])]⟩, ⟨[(0, .l (.val (.int .i64)))], [(9000001, .box 49 [.val .str, .val .bool, .val (.int .i64), .val (.int .i64)])]⟩, fun x => slices_IndexFunc_api_AuctionOrder.f k x.1 x.2.1 x.2.2.1 x.2.2.2.1 x.2.2.2.2⟩
noncomputable abbrev Γ (k : Nat) : FuncId → Option Con := look [(83, auction_Check_1.con k)]
abbrev F : Fin Go.Proofs.Try.prog := ⟨⟨[(0, .l (.val (.int .i64)))], [(9000001, .box 49 [.val .str, .val .bool, .val (.int .i64), .val (.int .i64)])]⟩, [9000001], [.tmp 4]⟩
abbrev c2 : Cut := ⟨[(0, .l (.val (.list 49 Y2))), (1, .l (.fnc 83 7000000)), (7, .l (.val (.int .i64))), (8, .l (.val (.int .i64)))], [(9000001, .box 49 [.val .str, .val .bool, .val (.int .i64), .val (.int .i64)]), (7000000, .caps [.l (.ptr 9000001 0)])]⟩
noncomputable abbrev Tl (k : Nat) : List (Nat × Hint (prods F.cout.tys)) := [(2, ⟨c2, fun x => slices_IndexFunc_api_AuctionOrder.l2 k x.1 x.2.1 x.2.2.1 x.2.2.2.1 x.2.2.2.2.1 x.2.2.2.2.2.1 x.2.2.2.2.2.2⟩)]
noncomputable abbrev T (k : Nat) : Nat → Option (Hint (prods F.cout.tys)) := look (Tl k)
noncomputable abbrev body : Code := Go.Proofs.Try.f95.body.getD .skip
theorem s2 (k : Nat) (x : prods c2.tys) : slices_IndexFunc_api_AuctionOrder.l2 (k + 1) x.1 x.2.1 x.2.2.1 x.2.2.2.1 x.2.2.2.2.1 x.2.2.2.2.2.1 x.2.2.2.2.2.2 = segK (Γ k) F (T k) body 2 (c2.st x) := by kernel_rfl
theorem main (k : Nat) (x : prods (con 0).cin.tys) : slices_IndexFunc_api_AuctionOrder.f k x.1 x.2.1 x.2.2.1 x.2.2.2.1 x.2.2.2.2 = goK (Γ k) F (T k) 2000 [.code body] ((con 0).cin.st x) := by kernel_rfl
theorem okΓ (k : Nat) : ΓOk Go.Proofs.Try.prog (Γ k) := Γcons (auction_Check_1.ok k) ⟨Go.Proofs.Try.f83, by kernel_rfl, by kernel_rfl, by kernel_rfl⟩ (Γnil)
theorem ok (k : Nat) : ConSound Go.Proofs.Try.prog 95 (con k) := con_sound (Γ := Γ) (fn := Go.Proofs.Try.f95) (body := body) (cin := (con 0).cin) (F := F) (T := T) follows (by kernel_rfl) (by kernel_rfl) (by kernel_rfl) (by kernel_rfl) (by kernel_rfl) (by decide +kernel) (by kernel_rfl) (by kernel_rfl) (tzero ⟨fun x => rfl, trivial⟩) k (fun m _ => okΓ m) (fun m _ => tstep ⟨fun x => s2 m x, trivial⟩) (fun x y h => (main k x).symm.trans h)
end slices_IndexFunc_api_AuctionOrder
namespace slices_ContainsFunc_api_AuctionOrder
noncomputable abbrev con (k : Nat) : Con := ⟨⟨[(0, .l (.val (.list 49 Y2))), (1, .l (.fnc 83 9000000))], [(9000000, .caps [.l (.ptr 9000001 0)]), (9000001, .box 49 [.val .str, .val .bool, .val (.int .i64), .val (.int .i64)])]⟩, ⟨[(0, .l (.val .bool))], [(9000001, .box 49 [.val .str, .val .bool, .val (.int .i64), .val (.int .i64)])]⟩, fun x => slices_ContainsFunc_api_AuctionOrder.f k x.1 x.2.1 x.2.2.1 x.2.2.2.1 x.2.2.2.2⟩
noncomputable abbrev Γ (k : Nat) : FuncId → Option Con := look [(95, slices_IndexFunc_api_AuctionOrder.con k)]
abbrev F : Fin Go.Proofs.Try.prog := ⟨⟨[(0, .l (.val .bool))], [(9000001, .box 49 [.val .str, .val .bool, .val (.int .i64), .val (.int .i64)])]⟩, [9000001], [.tmp 4]⟩
noncomputable abbrev Tl (k : Nat) : List (Nat × Hint (prods F.cout.tys)) := []
noncomputable abbrev T (k : Nat) : Nat → Option (Hint (prods F.cout.tys)) := look (Tl k)
noncomputable abbrev body : Code := Go.Proofs.Try.f82.body.getD .skip
theorem main (k : Nat) (x : prods (con 0).cin.tys) : slices_ContainsFunc_api_AuctionOrder.f k x.1 x.2.1 x.2.2.1 x.2.2.2.1 x.2.2.2.2 = goK (Γ k) F (T k) 2000 [.code body] ((con 0).cin.st x) := by kernel_rfl
theorem okΓ (k : Nat) : ΓOk Go.Proofs.Try.prog (Γ k) := Γcons (slices_IndexFunc_api_AuctionOrder.ok k) ⟨Go.Proofs.Try.f95, by kernel_rfl, by kernel_rfl, by kernel_rfl⟩ (Γnil)
theorem ok (k : Nat) : ConSound Go.Proofs.Try.prog 82 (con k) := con_sound (Γ := Γ) (fn := Go.Proofs.Try.f82) (body := body) (cin := (con 0).cin) (F := F) (T := T) follows (by kernel_rfl) (by kernel_rfl) (by kernel_rfl) (by kernel_rfl) (by kernel_rfl) (by decide +kernel) (by kernel_rfl) (by kernel_rfl) (tzero trivial) k (fun m _ => okΓ m) (fun m _ => tstep trivial) (fun x y h => (main k x).symm.trans h)
end slices_ContainsFunc_api_AuctionOrder
namespace auction_Check
noncomputable abbrev con (k : Nat) : Con := ⟨⟨[(0, .l (.val (.list 49 Y2)))], []⟩, ⟨[(0, .l (.val (.int .i64)))], []⟩, fun x => auction_Check.f k x⟩
noncomputable abbrev Γ (k : Nat) : FuncId → Option Con := look [(81, offer_Check.con k), (82, slices_ContainsFunc_api_AuctionOrder.con k)]
abbrev F : Fin Go.Proofs.Try.prog := ⟨⟨[(0, .l (.val (.int .i64)))], []⟩, [], [.tmp 2]⟩
abbrev c4 : Cut := ⟨[(0, .l (.val (.list 49 Y2))), (9, .l (.val (.list 49 Y2))), (10, .l (.val (.int .i64))), (11, .l (.val (.int .i64)))], []⟩
noncomputable abbrev Tl (k : Nat) : List (Nat × Hint (prods F.cout.tys)) := [(4, ⟨c4, fun x => auction_Check.l4 k x.1 x.2.1 x.2.2.1 x.2.2.2⟩)]
noncomputable abbrev T (k : Nat) : Nat → Option (Hint (prods F.cout.tys)) := look (Tl k)
noncomputable abbrev body : Code := Go.Proofs.Try.f48.body.getD .skip
theorem s4 (k : Nat) (x : prods c4.tys) : auction_Check.l4 (k + 1) x.1 x.2.1 x.2.2.1 x.2.2.2 = segK (Γ k) F (T k) body 4 (c4.st x) := by kernel_rfl
theorem main (k : Nat) (x : prods (con 0).cin.tys) : auction_Check.f k x = goK (Γ k) F (T k) 2000 [.code body] ((con 0).cin.st x) := by kernel_rfl
theorem okΓ (k : Nat) : ΓOk Go.Proofs.Try.prog (Γ k) := Γcons (offer_Check.ok k) ⟨Go.Proofs.Try.f81, by kernel_rfl, by kernel_rfl, by kernel_rfl⟩ (Γcons (slices_ContainsFunc_api_AuctionOrder.ok k) ⟨Go.Proofs.Try.f82, by kernel_rfl, by kernel_rfl, by kernel_rfl⟩ (Γnil))
theorem ok (k : Nat) : ConSound Go.Proofs.Try.prog 48 (con k) := con_sound (Γ := Γ) (fn := Go.Proofs.Try.f48) (body := body) (cin := (con 0).cin) (F := F) (T := T) follows (by kernel_rfl) (by kernel_rfl) (by kernel_rfl) (by kernel_rfl) (by kernel_rfl) (by decide +kernel) (by kernel_rfl) (by kernel_rfl) (tzero ⟨fun x => rfl, trivial⟩) k (fun m _ => okΓ m) (fun m _ => tstep ⟨fun x => s4 m x, trivial⟩) (fun x y h => (main k x).symm.trans h)
end auction_Check
namespace cmp_isNaN_int
noncomputable abbrev con (k : Nat) : Con := ⟨⟨[(0, .l (.val (.int .i64)))], []⟩, ⟨[(0, .l (.val .bool))], []⟩, fun x => cmp_isNaN_int.f k x⟩
noncomputable abbrev Γ (k : Nat) : FuncId → Option Con := look []
abbrev F : Fin Go.Proofs.Try.prog := ⟨⟨[(0, .l (.val .bool))], []⟩, [], [.tmp 2]⟩
noncomputable abbrev Tl (k : Nat) : List (Nat × Hint (prods F.cout.tys)) := []
noncomputable abbrev T (k : Nat) : Nat → Option (Hint (prods F.cout.tys)) := look (Tl k)
noncomputable abbrev body : Code := Go.Proofs.Try.f90.body.getD .skip
theorem main (k : Nat) (x : prods (con 0).cin.tys) : cmp_isNaN_int.f k x = goK (Γ k) F (T k) 2000 [.code body] ((con 0).cin.st x) := by kernel_rfl
theorem okΓ (k : Nat) : ΓOk Go.Proofs.Try.prog (Γ k) := Γnil
theorem ok (k : Nat) : ConSound Go.Proofs.Try.prog 90 (con k) := con_sound (Γ := Γ) (fn := Go.Proofs.Try.f90) (body := body) (cin := (con 0).cin) (F := F) (T := T) follows (by kernel_rfl) (by kernel_rfl) (by kernel_rfl) (by kernel_rfl) (by kernel_rfl) (by decide +kernel) (by kernel_rfl) (by kernel_rfl) (tzero trivial) k (fun m _ => okΓ m) (fun m _ => tstep trivial) (fun x y h => (main k x).symm.trans h)
end cmp_isNaN_int
namespace cmp_Compare_int
noncomputable abbrev con (k : Nat) : Con := ⟨⟨[(0, .l (.val (.int .i64))), (1, .l (.val (.int .i64)))], []⟩, ⟨[(0, .l (.val (.int .i64)))], []⟩, fun x => cmp_Compare_int.f k x.1 x.2⟩
noncomputable abbrev Γ (k : Nat) : FuncId → Option Con := look [(90, cmp_isNaN_int.con k)]
abbrev F : Fin Go.Proofs.Try.prog := ⟨⟨[(0, .l (.val (.int .i64)))], []⟩, [], [.tmp 4]⟩
noncomputable abbrev Tl (k : Nat) : List (Nat × Hint (prods F.cout.tys)) := []
noncomputable abbrev T (k : Nat) : Nat → Option (Hint (prods F.cout.tys)) := look (Tl k)
noncomputable abbrev body : Code := Go.Proofs.Try.f68.body.getD .skip
theorem main (k : Nat) (x : prods (con 0).cin.tys) : cmp_Compare_int.f k x.1 x.2 = goK (Γ k) F (T k) 2000 [.code body] ((con 0).cin.st x) := by kernel_rfl
theorem okΓ (k : Nat) : ΓOk Go.Proofs.Try.prog (Γ k) := Γcons (cmp_isNaN_int.ok k) ⟨Go.Proofs.Try.f90, by kernel_rfl, by kernel_rfl, by kernel_rfl⟩ (Γnil)
theorem ok (k : Nat) : ConSound Go.Proofs.Try.prog 68 (con k) := con_sound (Γ := Γ) (fn := Go.Proofs.Try.f68) (body := body) (cin := (con 0).cin) (F := F) (T := T) follows (by kernel_rfl) (by kernel_rfl) (by kernel_rfl) (by kernel_rfl) (by kernel_rfl) (by decide +kernel) (by kernel_rfl) (by kernel_rfl) (tzero trivial) k (fun m _ => okΓ m) (fun m _ => tstep trivial) (fun x y h => (main k x).symm.trans h)
end cmp_Compare_int
namespace auction_side_1
noncomputable abbrev con (k : Nat) : Con := ⟨⟨[(0, .l (.val (.int .i64))), (1, .l (.val (.int .i64))), (2, .l (.ptr 9000000 0)), (3, .l (.ptr 9000001 0))], [(9000000, .box 4 [.val .bool]), (9000001, .box 47 [.val (.list 49 Y2)])]⟩, ⟨[(0, .l (.val (.int .i64)))], [(9000000, .box 4 [.val .bool]), (9000001, .box 47 [.val (.list 49 Y2)])]⟩, fun x => auction_side_1.f k x.1 x.2.1 x.2.2.1 x.2.2.2⟩
noncomputable abbrev Γ (k : Nat) : FuncId → Option Con := look [(68, cmp_Compare_int.con k)]
abbrev F : Fin Go.Proofs.Try.prog := ⟨⟨[(0, .l (.val (.int .i64)))], [(9000000, .box 4 [.val .bool]), (9000001, .box 47 [.val (.list 49 Y2)])]⟩, [9000000, 9000001], [.tmp 6]⟩
noncomputable abbrev Tl (k : Nat) : List (Nat × Hint (prods F.cout.tys)) := []
noncomputable abbrev T (k : Nat) : Nat → Option (Hint (prods F.cout.tys)) := look (Tl k)
noncomputable abbrev body : Code := Go.Proofs.Try.f85.body.getD .skip
theorem main (k : Nat) (x : prods (con 0).cin.tys) : auction_side_1.f k x.1 x.2.1 x.2.2.1 x.2.2.2 = goK (Γ k) F (T k) 2000 [.code body] ((con 0).cin.st x) := by kernel_rfl
theorem okΓ (k : Nat) : ΓOk Go.Proofs.Try.prog (Γ k) := Γcons (cmp_Compare_int.ok k) ⟨Go.Proofs.Try.f68, by kernel_rfl, by kernel_rfl, by kernel_rfl⟩ (Γnil)
theorem ok (k : Nat) : ConSound Go.Proofs.Try.prog 85 (con k) := con_sound (Γ := Γ) (fn := Go.Proofs.Try.f85) (body := body) (cin := (con 0).cin) (F := F) (T := T) follows (by kernel_rfl) (by kernel_rfl) (by kernel_rfl) (by kernel_rfl) (by kernel_rfl) (by decide +kernel) (by kernel_rfl) (by kernel_rfl) (tzero trivial) k (fun m _ => okΓ m) (fun m _ => tstep trivial) (fun x y h => (main k x).symm.trans h)
end auction_side_1
namespace slices_insertionSortCmpFunc_int
noncomputable abbrev con (k : Nat) : Con := ⟨⟨[(0, .l (.row 9000000)), (1, .l (.val (.int .i64))), (2, .l (.val (.int .i64))), (3, .l (.fnc 85 9000001))], [(9000000, .row 3 (.int .i64)), (9000001, .caps [.l (.ptr 9000002 0), .l (.ptr 9000003 0)]), (9000002, .box 4 [.val .bool]), (9000003, .box 47 [.val (.list 49 Y2)])]⟩, ⟨[], [(9000000, .row 3 (.int .i64)), (9000002, .box 4 [.val .bool]), (9000003, .box 47 [.val (.list 49 Y2)])]⟩, fun x => slices_insertionSortCmpFunc_int.f k x.1 x.2.1 x.2.2.1 x.2.2.2.1 x.2.2.2.2⟩
noncomputable abbrev Γ (k : Nat) : FuncId → Option Con := look [(85, auction_side_1.con k)]
abbrev F : Fin Go.Proofs.Try.prog := ⟨⟨[], [(9000000, .row 3 (.int .i64)), (9000002, .box 4 [.val .bool]), (9000003, .box 47 [.val (.list 49 Y2)])]⟩, [9000000, 9000002, 9000003], []⟩
abbrev c1 : Cut := ⟨[(0, .l (.row 9000000)), (1, .l (.val (.int .i64))), (2, .l (.val (.int .i64))), (3, .l (.fnc 85 7000000)), (8, .l (.val (.int .i64)))], [(9000000, .row 3 (.int .i64)), (9000002, .box 4 [.val .bool]), (9000003, .box 47 [.val (.list 49 Y2)]), (7000000, .caps [.l (.ptr 9000002 0), .l (.ptr 9000003 0)])]⟩
abbrev c4 : Cut := ⟨[(0, .l (.row 9000000)), (1, .l (.val (.int .i64))), (2, .l (.val (.int .i64))), (3, .l (.fnc 85 7000000)), (8, .l (.val (.int .i64))), (9, .l (.val (.int .i64)))], [(9000000, .row 3 (.int .i64)), (9000002, .box 4 [.val .bool]), (9000003, .box 47 [.val (.list 49 Y2)]), (7000000, .caps [.l (.ptr 9000002 0), .l (.ptr 9000003 0)])]⟩
noncomputable abbrev Tl (k : Nat) : List (Nat × Hint (prods F.cout.tys)) := [(1, ⟨c1, fun x => slices_insertionSortCmpFunc_int.l1 k x.1 x.2.1 x.2.2.1 x.2.2.2.1 x.2.2.2.2.1 x.2.2.2.2.2⟩), (4, ⟨c4, fun x => slices_insertionSortCmpFunc_int.l4 k x.1 x.2.1 x.2.2.1 x.2.2.2.1 x.2.2.2.2.1 x.2.2.2.2.2.1 x.2.2.2.2.2.2⟩)]
noncomputable abbrev T (k : Nat) : Nat → Option (Hint (prods F.cout.tys)) := look (Tl k)
noncomputable abbrev body : Code := Go.Proofs.Try.f102.body.getD .skip
theorem s1 (k : Nat) (x : prods c1.tys) : slices_insertionSortCmpFunc_int.l1 (k + 1) x.1 x.2.1 x.2.2.1 x.2.2.2.1 x.2.2.2.2.1 x.2.2.2.2.2 = segK (Γ k) F (T k) body 1 (c1.st x) := by kernel_rfl
theorem s4 (k : Nat) (x : prods c4.tys) : slices_insertionSortCmpFunc_int.l4 (k + 1) x.1 x.2.1 x.2.2.1 x.2.2.2.1 x.2.2.2.2.1 x.2.2.2.2.2.1 x.2.2.2.2.2.2 = segK (Γ k) F (T k) body 4 (c4.st x) := by kernel_rfl
theorem main (k : Nat) (x : prods (con 0).cin.tys) : slices_insertionSortCmpFunc_int.f k x.1 x.2.1 x.2.2.1 x.2.2.2.1 x.2.2.2.2 = goK (Γ k) F (T k) 2000 [.code body] ((con 0).cin.st x) := by kernel_rfl
theorem okΓ (k : Nat) : ΓOk Go.Proofs.Try.prog (Γ k) := Γcons (auction_side_1.ok k) ⟨Go.Proofs.Try.f85, by kernel_rfl, by kernel_rfl, by kernel_rfl⟩ (Γnil)
theorem ok (k : Nat) : ConSound Go.Proofs.Try.prog 102 (con k) := con_sound (Γ := Γ) (fn := Go.Proofs.Try.f102) (body := body) (cin := (con 0).cin) (F := F) (T := T) follows (by kernel_rfl) (by kernel_rfl) (by kernel_rfl) (by kernel_rfl) (by kernel_rfl) (by decide +kernel) (by kernel_rfl) (by kernel_rfl) (tzero ⟨fun x => rfl, fun x => rfl, trivial⟩) k (fun m _ => okΓ m) (fun m _ => tstep ⟨fun x => s1 m x, fun x => s4 m x, trivial⟩) (fun x y h => (main k x).symm.trans h)
end slices_insertionSortCmpFunc_int
namespace slices_swapRangeCmpFunc_int
noncomputable abbrev con (k : Nat) : Con := ⟨⟨[(0, .l (.row 9000000)), (1, .l (.val (.int .i64))), (2, .l (.val (.int .i64))), (3, .l (.val (.int .i64))), (4, .l (.fnc 85 9000001))], [(9000000, .row 3 (.int .i64)), (9000001, .caps [.l (.ptr 9000002 0), .l (.ptr 9000003 0)]), (9000002, .box 4 [.val .bool]), (9000003, .box 47 [.val (.list 49 Y2)])]⟩, ⟨[], [(9000000, .row 3 (.int .i64)), (9000002, .box 4 [.val .bool]), (9000003, .box 47 [.val (.list 49 Y2)])]⟩, fun x => slices_swapRangeCmpFunc_int.f k x.1 x.2.1 x.2.2.1 x.2.2.2.1 x.2.2.2.2.1 x.2.2.2.2.2⟩
noncomputable abbrev Γ (k : Nat) : FuncId → Option Con := look []
abbrev F : Fin Go.Proofs.Try.prog := ⟨⟨[], [(9000000, .row 3 (.int .i64)), (9000002, .box 4 [.val .bool]), (9000003, .box 47 [.val (.list 49 Y2)])]⟩, [9000000, 9000002, 9000003], []⟩
abbrev c1 : Cut := ⟨[(0, .l (.row 9000000)), (1, .l (.val (.int .i64))), (2, .l (.val (.int .i64))), (3, .l (.val (.int .i64))), (10, .l (.val (.int .i64)))], [(9000000, .row 3 (.int .i64)), (9000002, .box 4 [.val .bool]), (9000003, .box 47 [.val (.list 49 Y2)])]⟩
noncomputable abbrev Tl (k : Nat) : List (Nat × Hint (prods F.cout.tys)) := [(1, ⟨c1, fun x => slices_swapRangeCmpFunc_int.l1 k x.1 x.2.1 x.2.2.1 x.2.2.2.1 x.2.2.2.2.1 x.2.2.2.2.2.1 x.2.2.2.2.2.2⟩)]
noncomputable abbrev T (k : Nat) : Nat → Option (Hint (prods F.cout.tys)) := look (Tl k)
noncomputable abbrev body : Code := Go.Proofs.Try.f112.body.getD .skip
theorem s1 (k : Nat) (x : prods c1.tys) : slices_swapRangeCmpFunc_int.l1 (k + 1) x.1 x.2.1 x.2.2.1 x.2.2.2.1 x.2.2.2.2.1 x.2.2.2.2.2.1 x.2.2.2.2.2.2 = segK (Γ k) F (T k) body 1 (c1.st x) := by kernel_rfl
theorem main (k : Nat) (x : prods (con 0).cin.tys) : slices_swapRangeCmpFunc_int.f k x.1 x.2.1 x.2.2.1 x.2.2.2.1 x.2.2.2.2.1 x.2.2.2.2.2 = goK (Γ k) F (T k) 2000 [.code body] ((con 0).cin.st x) := by kernel_rfl
theorem okΓ (k : Nat) : ΓOk Go.Proofs.Try.prog (Γ k) := Γnil
theorem ok (k : Nat) : ConSound Go.Proofs.Try.prog 112 (con k) := con_sound (Γ := Γ) (fn := Go.Proofs.Try.f112) (body := body) (cin := (con 0).cin) (F := F) (T := T) follows (by kernel_rfl) (by kernel_rfl) (by kernel_rfl) (by kernel_rfl) (by kernel_rfl) (by decide +kernel) (by kernel_rfl) (by kernel_rfl) (tzero ⟨fun x => rfl, trivial⟩) k (fun m _ => okΓ m) (fun m _ => tstep ⟨fun x => s1 m x, trivial⟩) (fun x y h => (main k x).symm.trans h)
end slices_swapRangeCmpFunc_int
namespace slices_rotateCmpFunc_int
noncomputable abbrev con (k : Nat) : Con := ⟨⟨[(0, .l (.row 9000000)), (1, .l (.val (.int .i64))), (2, .l (.val (.int .i64))), (3, .l (.val (.int .i64))), (4, .l (.fnc 85 9000001))], [(9000000, .row 3 (.int .i64)), (9000001, .caps [.l (.ptr 9000002 0), .l (.ptr 9000003 0)]), (9000002, .box 4 [.val .bool]), (9000003, .box 47 [.val (.list 49 Y2)])]⟩, ⟨[], [(9000000, .row 3 (.int .i64)), (9000002, .box 4 [.val .bool]), (9000003, .box 47 [.val (.list 49 Y2)])]⟩, fun x => slices_rotateCmpFunc_int.f k x.1 x.2.1 x.2.2.1 x.2.2.2.1 x.2.2.2.2.1 x.2.2.2.2.2⟩
noncomputable abbrev Γ (k : Nat) : FuncId → Option Con := look [(112, slices_swapRangeCmpFunc_int.con k)]
abbrev F : Fin Go.Proofs.Try.prog := ⟨⟨[], [(9000000, .row 3 (.int .i64)), (9000002, .box 4 [.val .bool]), (9000003, .box 47 [.val (.list 49 Y2)])]⟩, [9000000, 9000002, 9000003], []⟩
abbrev c2 : Cut := ⟨[(0, .l (.row 9000000)), (2, .l (.val (.int .i64))), (4, .l (.fnc 85 7000000)), (10, .l (.val (.int .i64))), (11, .l (.val (.int .i64)))], [(9000000, .row 3 (.int .i64)), (9000002, .box 4 [.val .bool]), (9000003, .box 47 [.val (.list 49 Y2)]), (7000000, .caps [.l (.ptr 9000002 0), .l (.ptr 9000003 0)])]⟩
noncomputable abbrev Tl (k : Nat) : List (Nat × Hint (prods F.cout.tys)) := [(2, ⟨c2, fun x => slices_rotateCmpFunc_int.l2 k x.1 x.2.1 x.2.2.1 x.2.2.2.1 x.2.2.2.2.1 x.2.2.2.2.2⟩)]
noncomputable abbrev T (k : Nat) : Nat → Option (Hint (prods F.cout.tys)) := look (Tl k)
noncomputable abbrev body : Code := Go.Proofs.Try.f108.body.getD .skip
theorem s2 (k : Nat) (x : prods c2.tys) : slices_rotateCmpFunc_int.l2 (k + 1) x.1 x.2.1 x.2.2.1 x.2.2.2.1 x.2.2.2.2.1 x.2.2.2.2.2 = segK (Γ k) F (T k) body 2 (c2.st x) := by kernel_rfl
theorem main (k : Nat) (x : prods (con 0).cin.tys) : slices_rotateCmpFunc_int.f k x.1 x.2.1 x.2.2.1 x.2.2.2.1 x.2.2.2.2.1 x.2.2.2.2.2 = goK (Γ k) F (T k) 2000 [.code body] ((con 0).cin.st x) := by kernel_rfl
theorem okΓ (k : Nat) : ΓOk Go.Proofs.Try.prog (Γ k) := Γcons (slices_swapRangeCmpFunc_int.ok k) ⟨Go.Proofs.Try.f112, by kernel_rfl, by kernel_rfl, by kernel_rfl⟩ (Γnil)
theorem ok (k : Nat) : ConSound Go.Proofs.Try.prog 108 (con k) := con_sound (Γ := Γ) (fn := Go.Proofs.Try.f108) (body := body) (cin := (con 0).cin) (F := F) (T := T) follows (by kernel_rfl) (by kernel_rfl) (by kernel_rfl) (by kernel_rfl) (by kernel_rfl) (by decide +kernel) (by kernel_rfl) (by kernel_rfl) (tzero ⟨fun x => rfl, trivial⟩) k (fun m _ => okΓ m) (fun m _ => tstep ⟨fun x => s2 m x, trivial⟩) (fun x y h => (main k x).symm.trans h)
end slices_rotateCmpFunc_int
namespace slices_symMergeCmpFunc_int
noncomputable abbrev con (k : Nat) : Con := ⟨⟨[(0, .l (.row 9000000)), (1, .l (.val (.int .i64))), (2, .l (.val (.int .i64))), (3, .l (.val (.int .i64))), (4, .l (.fnc 85 9000001))], [(9000000, .row 3 (.int .i64)), (9000001, .caps [.l (.ptr 9000002 0), .l (.ptr 9000003 0)]), (9000002, .box 4 [.val .bool]), (9000003, .box 47 [.val (.list 49 Y2)])]⟩, ⟨[], [(9000000, .row 3 (.int .i64)), (9000002, .box 4 [.val .bool]), (9000003, .box 47 [.val (.list 49 Y2)])]⟩, fun x => slices_symMergeCmpFunc_int.f k x.1 x.2.1 x.2.2.1 x.2.2.2.1 x.2.2.2.2.1 x.2.2.2.2.2⟩
noncomputable abbrev Γ (k : Nat) : FuncId → Option Con := look [(85, auction_side_1.con k), (103, slices_symMergeCmpFunc_int.con k), (108, slices_rotateCmpFunc_int.con k)]
abbrev F : Fin Go.Proofs.Try.prog := ⟨⟨[], [(9000000, .row 3 (.int .i64)), (9000002, .box 4 [.val .bool]), (9000003, .box 47 [.val (.list 49 Y2)])]⟩, [9000000, 9000002, 9000003], []⟩
abbrev c3 : Cut := ⟨[(0, .l (.row 9000000)), (1, .l (.val (.int .i64))), (4, .l (.fnc 85 7000000)), (10, .l (.val (.int .i64))), (11, .l (.val (.int .i64)))], [(9000000, .row 3 (.int .i64)), (9000002, .box 4 [.val .bool]), (9000003, .box 47 [.val (.list 49 Y2)]), (7000000, .caps [.l (.ptr 9000002 0), .l (.ptr 9000003 0)])]⟩
abbrev c9 : Cut := ⟨[(0, .l (.row 9000000)), (10, .l (.val (.int .i64))), (13, .l (.val (.int .i64)))], [(9000000, .row 3 (.int .i64)), (9000002, .box 4 [.val .bool]), (9000003, .box 47 [.val (.list 49 Y2)])]⟩
abbrev c15 : Cut := ⟨[(0, .l (.row 9000000)), (2, .l (.val (.int .i64))), (4, .l (.fnc 85 7000000)), (14, .l (.val (.int .i64))), (15, .l (.val (.int .i64)))], [(9000000, .row 3 (.int .i64)), (9000002, .box 4 [.val .bool]), (9000003, .box 47 [.val (.list 49 Y2)]), (7000000, .caps [.l (.ptr 9000002 0), .l (.ptr 9000003 0)])]⟩
abbrev c21 : Cut := ⟨[(0, .l (.row 9000000)), (14, .l (.val (.int .i64))), (17, .l (.val (.int .i64)))], [(9000000, .row 3 (.int .i64)), (9000002, .box 4 [.val .bool]), (9000003, .box 47 [.val (.list 49 Y2)])]⟩
abbrev c32 : Cut := ⟨[(0, .l (.row 9000000)), (1, .l (.val (.int .i64))), (2, .l (.val (.int .i64))), (3, .l (.val (.int .i64))), (4, .l (.fnc 85 7000000)), (18, .l (.val (.int .i64))), (19, .l (.val (.int .i64))), (20, .l (.val (.int .i64))), (21, .l (.val (.int .i64)))], [(9000000, .row 3 (.int .i64)), (9000002, .box 4 [.val .bool]), (9000003, .box 47 [.val (.list 49 Y2)]), (7000000, .caps [.l (.ptr 9000002 0), .l (.ptr 9000003 0)])]⟩
abbrev c33 : Cut := ⟨[(0, .l (.row 9000000)), (1, .l (.val (.int .i64))), (2, .l (.val (.int .i64))), (3, .l (.val (.int .i64))), (4, .l (.fnc 85 7000000)), (18, .l (.val (.int .i64))), (19, .l (.val (.int .i64))), (20, .l (.val (.int .i64))), (21, .l (.val (.int .i64))), (22, .l (.val (.int .i64)))], [(9000000, .row 3 (.int .i64)), (9000002, .box 4 [.val .bool]), (9000003, .box 47 [.val (.list 49 Y2)]), (7000000, .caps [.l (.ptr 9000002 0), .l (.ptr 9000003 0)])]⟩
abbrev c41 : Cut := ⟨[(0, .l (.row 9000000)), (1, .l (.val (.int .i64))), (3, .l (.val (.int .i64))), (4, .l (.fnc 85 7000000)), (18, .l (.val (.int .i64))), (20, .l (.val (.int .i64))), (24, .l (.val (.int .i64)))], [(9000000, .row 3 (.int .i64)), (9000002, .box 4 [.val .bool]), (9000003, .box 47 [.val (.list 49 Y2)]), (7000000, .caps [.l (.ptr 9000002 0), .l (.ptr 9000003 0)])]⟩
noncomputable abbrev Tl (k : Nat) : List (Nat × Hint (prods F.cout.tys)) := [(3, ⟨c3, fun x => slices_symMergeCmpFunc_int.l3 k x.1 x.2.1 x.2.2.1 x.2.2.2.1 x.2.2.2.2.1 x.2.2.2.2.2⟩), (9, ⟨c9, fun x => slices_symMergeCmpFunc_int.l9 k x.1 x.2.1 x.2.2.1 x.2.2.2.1 x.2.2.2.2⟩), (15, ⟨c15, fun x => slices_symMergeCmpFunc_int.l15 k x.1 x.2.1 x.2.2.1 x.2.2.2.1 x.2.2.2.2.1 x.2.2.2.2.2⟩), (21, ⟨c21, fun x => slices_symMergeCmpFunc_int.l21 k x.1 x.2.1 x.2.2.1 x.2.2.2.1 x.2.2.2.2⟩), (32, ⟨c32, fun x => slices_symMergeCmpFunc_int.l32 k x.1 x.2.1 x.2.2.1 x.2.2.2.1 x.2.2.2.2.1 x.2.2.2.2.2.1 x.2.2.2.2.2.2.1 x.2.2.2.2.2.2.2.1 x.2.2.2.2.2.2.2.2.1 x.2.2.2.2.2.2.2.2.2⟩), (33, ⟨c33, fun x => slices_symMergeCmpFunc_int.l33 k x.1 x.2.1 x.2.2.1 x.2.2.2.1 x.2.2.2.2.1 x.2.2.2.2.2.1 x.2.2.2.2.2.2.1 x.2.2.2.2.2.2.2.1 x.2.2.2.2.2.2.2.2.1 x.2.2.2.2.2.2.2.2.2.1 x.2.2.2.2.2.2.2.2.2.2⟩), (41, ⟨c41, fun x => slices_symMergeCmpFunc_int.l41 k x.1 x.2.1 x.2.2.1 x.2.2.2.1 x.2.2.2.2.1 x.2.2.2.2.2.1 x.2.2.2.2.2.2.1 x.2.2.2.2.2.2.2⟩)]
noncomputable abbrev T (k : Nat) : Nat → Option (Hint (prods F.cout.tys)) := look (Tl k)
noncomputable abbrev body : Code := Go.Proofs.Try.f103.body.getD .skip
theorem s3 (k : Nat) (x : prods c3.tys) : slices_symMergeCmpFunc_int.l3 (k + 1) x.1 x.2.1 x.2.2.1 x.2.2.2.1 x.2.2.2.2.1 x.2.2.2.2.2 = segK (Γ k) F (T k) body 3 (c3.st x) := by kernel_rfl
theorem s9 (k : Nat) (x : prods c9.tys) : slices_symMergeCmpFunc_int.l9 (k + 1) x.1 x.2.1 x.2.2.1 x.2.2.2.1 x.2.2.2.2 = segK (Γ k) F (T k) body 9 (c9.st x) := by kernel_rfl
theorem s15 (k : Nat) (x : prods c15.tys) : slices_symMergeCmpFunc_int.l15 (k + 1) x.1 x.2.1 x.2.2.1 x.2.2.2.1 x.2.2.2.2.1 x.2.2.2.2.2 = segK (Γ k) F (T k) body 15 (c15.st x) := by kernel_rfl
theorem s21 (k : Nat) (x : prods c21.tys) : slices_symMergeCmpFunc_int.l21 (k + 1) x.1 x.2.1 x.2.2.1 x.2.2.2.1 x.2.2.2.2 = segK (Γ k) F (T k) body 21 (c21.st x) := by kernel_rfl
theorem s32 (k : Nat) (x : prods c32.tys) : slices_symMergeCmpFunc_int.l32 (k + 1) x.1 x.2.1 x.2.2.1 x.2.2.2.1 x.2.2.2.2.1 x.2.2.2.2.2.1 x.2.2.2.2.2.2.1 x.2.2.2.2.2.2.2.1 x.2.2.2.2.2.2.2.2.1 x.2.2.2.2.2.2.2.2.2 = segK (Γ k) F (T k) body 32 (c32.st x) := by kernel_rfl
theorem s33 (k : Nat) (x : prods c33.tys) : slices_symMergeCmpFunc_int.l33 (k + 1) x.1 x.2.1 x.2.2.1 x.2.2.2.1 x.2.2.2.2.1 x.2.2.2.2.2.1 x.2.2.2.2.2.2.1 x.2.2.2.2.2.2.2.1 x.2.2.2.2.2.2.2.2.1 x.2.2.2.2.2.2.2.2.2.1 x.2.2.2.2.2.2.2.2.2.2 = segK (Γ k) F (T k) body 33 (c33.st x) := by kernel_rfl
theorem s41 (k : Nat) (x : prods c41.tys) : slices_symMergeCmpFunc_int.l41 (k + 1) x.1 x.2.1 x.2.2.1 x.2.2.2.1 x.2.2.2.2.1 x.2.2.2.2.2.1 x.2.2.2.2.2.2.1 x.2.2.2.2.2.2.2 = segK (Γ k) F (T k) body 41 (c41.st x) := by kernel_rfl
theorem main (k : Nat) (x : prods (con 0).cin.tys) : slices_symMergeCmpFunc_int.f (k + 1) x.1 x.2.1 x.2.2.1 x.2.2.2.1 x.2.2.2.2.1 x.2.2.2.2.2 = goK (Γ k) F (T k) 2000 [.code body] ((con 0).cin.st x) := by kernel_rfl
theorem okΓ (k : Nat) (h : ConSound Go.Proofs.Try.prog 103 (con k)) : ΓOk Go.Proofs.Try.prog (Γ k) := Γcons (auction_side_1.ok k) ⟨Go.Proofs.Try.f85, by kernel_rfl, by kernel_rfl, by kernel_rfl⟩ (Γcons h ⟨Go.Proofs.Try.f103, by kernel_rfl, by kernel_rfl, by kernel_rfl⟩ (Γcons (slices_rotateCmpFunc_int.ok k) ⟨Go.Proofs.Try.f108, by kernel_rfl, by kernel_rfl, by kernel_rfl⟩ (Γnil)))
theorem ok (k : Nat) : ConSound Go.Proofs.Try.prog 103 (con k) := by
  induction k using Nat.strongRecOn with
  | ind k ih => cases k with
    | zero => exact fun x y h => absurd (show (none : Option _) = some y from h) (by simp)
    | succ n => exact con_sound (Γ := Γ) (fn := Go.Proofs.Try.f103) (body := body) (cin := (con 0).cin) (F := F) (T := T) follows (by kernel_rfl) (by kernel_rfl) (by kernel_rfl) (by kernel_rfl) (by kernel_rfl) (by decide +kernel) (by kernel_rfl) (by kernel_rfl) (tzero ⟨fun x => rfl, fun x => rfl, fun x => rfl, fun x => rfl, fun x => rfl, fun x => rfl, fun x => rfl, trivial⟩) n (fun m hm => okΓ m (ih m (Nat.lt_succ_of_le hm))) (fun m _ => tstep ⟨fun x => s3 m x, fun x => s9 m x, fun x => s15 m x, fun x => s21 m x, fun x => s32 m x, fun x => s33 m x, fun x => s41 m x, trivial⟩) (fun x y h => (main n x).symm.trans h)
end slices_symMergeCmpFunc_int
namespace slices_stableCmpFunc_int
noncomputable abbrev con (k : Nat) : Con := ⟨⟨[(0, .l (.row 9000000)), (1, .l (.val (.int .i64))), (2, .l (.fnc 85 9000001))], [(9000000, .row 3 (.int .i64)), (9000001, .caps [.l (.ptr 9000002 0), .l (.ptr 9000003 0)]), (9000002, .box 4 [.val .bool]), (9000003, .box 47 [.val (.list 49 Y2)])]⟩, ⟨[], [(9000000, .row 3 (.int .i64)), (9000002, .box 4 [.val .bool]), (9000003, .box 47 [.val (.list 49 Y2)])]⟩, fun x => slices_stableCmpFunc_int.f k x.1 x.2.1 x.2.2.1 x.2.2.2⟩
noncomputable abbrev Γ (k : Nat) : FuncId → Option Con := look [(102, slices_insertionSortCmpFunc_int.con k), (103, slices_symMergeCmpFunc_int.con k)]
abbrev F : Fin Go.Proofs.Try.prog := ⟨⟨[], [(9000000, .row 3 (.int .i64)), (9000002, .box 4 [.val .bool]), (9000003, .box 47 [.val (.list 49 Y2)])]⟩, [9000000, 9000002, 9000003], []⟩
abbrev c2 : Cut := ⟨[(0, .l (.row 9000000)), (1, .l (.val (.int .i64))), (2, .l (.fnc 85 7000000)), (6, .l (.val (.int .i64))), (7, .l (.val (.int .i64))), (8, .l (.val (.int .i64)))], [(9000000, .row 3 (.int .i64)), (9000002, .box 4 [.val .bool]), (9000003, .box 47 [.val (.list 49 Y2)]), (7000000, .caps [.l (.ptr 9000002 0), .l (.ptr 9000003 0)])]⟩
abbrev c7 : Cut := ⟨[(0, .l (.row 9000000)), (1, .l (.val (.int .i64))), (2, .l (.fnc 85 7000000)), (6, .l (.val (.int .i64)))], [(9000000, .row 3 (.int .i64)), (9000002, .box 4 [.val .bool]), (9000003, .box 47 [.val (.list 49 Y2)]), (7000000, .caps [.l (.ptr 9000002 0), .l (.ptr 9000003 0)])]⟩
abbrev c9 : Cut := ⟨[(0, .l (.row 9000000)), (1, .l (.val (.int .i64))), (2, .l (.fnc 85 7000000)), (6, .l (.val (.int .i64))), (7, .l (.val (.int .i64))), (8, .l (.val (.int .i64)))], [(9000000, .row 3 (.int .i64)), (9000002, .box 4 [.val .bool]), (9000003, .box 47 [.val (.list 49 Y2)]), (7000000, .caps [.l (.ptr 9000002 0), .l (.ptr 9000003 0)])]⟩
noncomputable abbrev Tl (k : Nat) : List (Nat × Hint (prods F.cout.tys)) := [(2, ⟨c2, fun x => slices_stableCmpFunc_int.l2 k x.1 x.2.1 x.2.2.1 x.2.2.2.1 x.2.2.2.2.1 x.2.2.2.2.2.1 x.2.2.2.2.2.2⟩), (7, ⟨c7, fun x => slices_stableCmpFunc_int.l7 k x.1 x.2.1 x.2.2.1 x.2.2.2.1 x.2.2.2.2⟩), (9, ⟨c9, fun x => slices_stableCmpFunc_int.l9 k x.1 x.2.1 x.2.2.1 x.2.2.2.1 x.2.2.2.2.1 x.2.2.2.2.2.1 x.2.2.2.2.2.2⟩)]
noncomputable abbrev T (k : Nat) : Nat → Option (Hint (prods F.cout.tys)) := look (Tl k)
noncomputable abbrev body : Code := Go.Proofs.Try.f96.body.getD .skip
theorem s2 (k : Nat) (x : prods c2.tys) : slices_stableCmpFunc_int.l2 (k + 1) x.1 x.2.1 x.2.2.1 x.2.2.2.1 x.2.2.2.2.1 x.2.2.2.2.2.1 x.2.2.2.2.2.2 = segK (Γ k) F (T k) body 2 (c2.st x) := by kernel_rfl
theorem s7 (k : Nat) (x : prods c7.tys) : slices_stableCmpFunc_int.l7 (k + 1) x.1 x.2.1 x.2.2.1 x.2.2.2.1 x.2.2.2.2 = segK (Γ k) F (T k) body 7 (c7.st x) := by kernel_rfl
theorem s9 (k : Nat) (x : prods c9.tys) : slices_stableCmpFunc_int.l9 (k + 1) x.1 x.2.1 x.2.2.1 x.2.2.2.1 x.2.2.2.2.1 x.2.2.2.2.2.1 x.2.2.2.2.2.2 = segK (Γ k) F (T k) body 9 (c9.st x) := by kernel_rfl
theorem main (k : Nat) (x : prods (con 0).cin.tys) : slices_stableCmpFunc_int.f k x.1 x.2.1 x.2.2.1 x.2.2.2 = goK (Γ k) F (T k) 2000 [.code body] ((con 0).cin.st x) := by kernel_rfl
theorem okΓ (k : Nat) : ΓOk Go.Proofs.Try.prog (Γ k) := Γcons (slices_insertionSortCmpFunc_int.ok k) ⟨Go.Proofs.Try.f102, by kernel_rfl, by kernel_rfl, by kernel_rfl⟩ (Γcons (slices_symMergeCmpFunc_int.ok k) ⟨Go.Proofs.Try.f103, by kernel_rfl, by kernel_rfl, by kernel_rfl⟩ (Γnil))
theorem ok (k : Nat) : ConSound Go.Proofs.Try.prog 96 (con k) := con_sound (Γ := Γ) (fn := Go.Proofs.Try.f96) (body := body) (cin := (con 0).cin) (F := F) (T := T) follows (by kernel_rfl) (by kernel_rfl) (by kernel_rfl) (by kernel_rfl) (by kernel_rfl) (by decide +kernel) (by kernel_rfl) (by kernel_rfl) (tzero ⟨fun x => rfl, fun x => rfl, fun x => rfl, trivial⟩) k (fun m _ => okΓ m) (fun m _ => tstep ⟨fun x => s2 m x, fun x => s7 m x, fun x => s9 m x, trivial⟩) (fun x y h => (main k x).symm.trans h)
end slices_stableCmpFunc_int
namespace slices_SortStableFunc_int
noncomputable abbrev con (k : Nat) : Con := ⟨⟨[(0, .l (.row 9000000)), (1, .l (.fnc 85 9000001))], [(9000000, .row 3 (.int .i64)), (9000001, .caps [.l (.ptr 9000002 0), .l (.ptr 9000003 0)]), (9000002, .box 4 [.val .bool]), (9000003, .box 47 [.val (.list 49 Y2)])]⟩, ⟨[], [(9000000, .row 3 (.int .i64)), (9000002, .box 4 [.val .bool]), (9000003, .box 47 [.val (.list 49 Y2)])]⟩, fun x => slices_SortStableFunc_int.f k x.1 x.2.1 x.2.2⟩
noncomputable abbrev Γ (k : Nat) : FuncId → Option Con := look [(96, slices_stableCmpFunc_int.con k)]
abbrev F : Fin Go.Proofs.Try.prog := ⟨⟨[], [(9000000, .row 3 (.int .i64)), (9000002, .box 4 [.val .bool]), (9000003, .box 47 [.val (.list 49 Y2)])]⟩, [9000000, 9000002, 9000003], []⟩
noncomputable abbrev Tl (k : Nat) : List (Nat × Hint (prods F.cout.tys)) := []
noncomputable abbrev T (k : Nat) : Nat → Option (Hint (prods F.cout.tys)) := look (Tl k)
noncomputable abbrev body : Code := Go.Proofs.Try.f84.body.getD .skip
theorem main (k : Nat) (x : prods (con 0).cin.tys) : slices_SortStableFunc_int.f k x.1 x.2.1 x.2.2 = goK (Γ k) F (T k) 2000 [.code body] ((con 0).cin.st x) := by kernel_rfl
theorem okΓ (k : Nat) : ΓOk Go.Proofs.Try.prog (Γ k) := Γcons (slices_stableCmpFunc_int.ok k) ⟨Go.Proofs.Try.f96, by kernel_rfl, by kernel_rfl, by kernel_rfl⟩ (Γnil)
theorem ok (k : Nat) : ConSound Go.Proofs.Try.prog 84 (con k) := con_sound (Γ := Γ) (fn := Go.Proofs.Try.f84) (body := body) (cin := (con 0).cin) (F := F) (T := T) follows (by kernel_rfl) (by kernel_rfl) (by kernel_rfl) (by kernel_rfl) (by kernel_rfl) (by decide +kernel) (by kernel_rfl) (by kernel_rfl) (tzero trivial) k (fun m _ => okΓ m) (fun m _ => tstep trivial) (fun x y h => (main k x).symm.trans h)
end slices_SortStableFunc_int
namespace auction_side
noncomputable abbrev con (k : Nat) : Con := ⟨⟨[(0, .l (.val (.list 49 Y2))), (1, .l (.val .bool))], []⟩, ⟨[(0, .l (.val (.list 3 (.int .i64))))], []⟩, fun x => auction_side.f k x.1 x.2⟩
noncomputable abbrev Γ (k : Nat) : FuncId → Option Con := look [(84, slices_SortStableFunc_int.con k)]
abbrev F : Fin Go.Proofs.Try.prog := ⟨⟨[(0, .l (.val (.list 3 (.int .i64))))], []⟩, [], [.tmp 4]⟩
abbrev c3 : Cut := ⟨[(2, .l (.ptr 7000000 0)), (3, .l (.ptr 7000001 0)), (5, .l (.row 7000502)), (8, .l (.val (.list 49 Y2))), (9, .l (.val (.int .i64))), (10, .l (.val (.int .i64)))], [(7000000, .box 47 [.val (.list 49 Y2)]), (7000001, .box 4 [.val .bool]), (7000502, .row 3 (.int .i64))]⟩
noncomputable abbrev Tl (k : Nat) : List (Nat × Hint (prods F.cout.tys)) := [(3, ⟨c3, fun x => auction_side.l3 k x.1 x.2.1 x.2.2.1 x.2.2.2.1 x.2.2.2.2.1 x.2.2.2.2.2⟩)]
noncomputable abbrev T (k : Nat) : Nat → Option (Hint (prods F.cout.tys)) := look (Tl k)
noncomputable abbrev body : Code := Go.Proofs.Try.f49.body.getD .skip
theorem s3 (k : Nat) (x : prods c3.tys) : auction_side.l3 (k + 1) x.1 x.2.1 x.2.2.1 x.2.2.2.1 x.2.2.2.2.1 x.2.2.2.2.2 = segK (Γ k) F (T k) body 3 (c3.st x) := by kernel_rfl
theorem main (k : Nat) (x : prods (con 0).cin.tys) : auction_side.f k x.1 x.2 = goK (Γ k) F (T k) 2000 [.code body] ((con 0).cin.st x) := by kernel_rfl
theorem okΓ (k : Nat) : ΓOk Go.Proofs.Try.prog (Γ k) := Γcons (slices_SortStableFunc_int.ok k) ⟨Go.Proofs.Try.f84, by kernel_rfl, by kernel_rfl, by kernel_rfl⟩ (Γnil)
theorem ok (k : Nat) : ConSound Go.Proofs.Try.prog 49 (con k) := con_sound (Γ := Γ) (fn := Go.Proofs.Try.f49) (body := body) (cin := (con 0).cin) (F := F) (T := T) follows (by kernel_rfl) (by kernel_rfl) (by kernel_rfl) (by kernel_rfl) (by kernel_rfl) (by decide +kernel) (by kernel_rfl) (by kernel_rfl) (tzero ⟨fun x => rfl, trivial⟩) k (fun m _ => okΓ m) (fun m _ => tstep ⟨fun x => s3 m x, trivial⟩) (fun x y h => (main k x).symm.trans h)
end auction_side
namespace auction_bounds
noncomputable abbrev con (k : Nat) : Con := ⟨⟨[(0, .l (.val (.list 49 Y2))), (1, .av Y5)], []⟩, ⟨[(0, .l (.val (.int .i64))), (1, .l (.val (.int .i64)))], []⟩, fun x => auction_bounds.f k x.1 x.2⟩
noncomputable abbrev Γ (k : Nat) : FuncId → Option Con := look []
abbrev F : Fin Go.Proofs.Try.prog := ⟨⟨[(0, .l (.val (.int .i64))), (1, .l (.val (.int .i64)))], []⟩, [], [.tmp 4, .tmp 5]⟩
abbrev c3 : Cut := ⟨[(3, .l (.ptr 7000000 0)), (6, .l (.val (.int .i64))), (7, .l (.val (.int .i64))), (10, .l (.val (.list 49 Y2))), (11, .l (.val (.int .i64))), (12, .l (.val (.int .i64)))], [(7000000, .box 52 [.val (.int .i64), .val (.int .i64), .val (.list 3 (.int .i64))])]⟩
abbrev c7 : Cut := ⟨[(3, .l (.ptr 7000000 0)), (6, .l (.val (.int .i64))), (7, .l (.val (.int .i64))), (8, .l (.val (.int .i64))), (9, .l (.ptr 7000001 0)), (10, .l (.val (.list 49 Y2))), (11, .l (.val (.int .i64))), (12, .l (.val (.int .i64)))], [(7000000, .box 52 [.val (.int .i64), .val (.int .i64), .val (.list 3 (.int .i64))]), (7000001, .box 49 [.val .str, .val .bool, .val (.int .i64), .val (.int .i64)])]⟩
noncomputable abbrev Tl (k : Nat) : List (Nat × Hint (prods F.cout.tys)) := [(3, ⟨c3, fun x => auction_bounds.l3 k x.1 x.2.1 x.2.2.1 x.2.2.2.1 x.2.2.2.2.1 x.2.2.2.2.2.1 x.2.2.2.2.2.2.1 x.2.2.2.2.2.2.2⟩), (7, ⟨c7, fun x => auction_bounds.l7 k x.1 x.2.1 x.2.2.1 x.2.2.2.1 x.2.2.2.2.1 x.2.2.2.2.2.1 x.2.2.2.2.2.2.1 x.2.2.2.2.2.2.2.1 x.2.2.2.2.2.2.2.2.1 x.2.2.2.2.2.2.2.2.2.1 x.2.2.2.2.2.2.2.2.2.2.1 x.2.2.2.2.2.2.2.2.2.2.2.1 x.2.2.2.2.2.2.2.2.2.2.2.2⟩)]
noncomputable abbrev T (k : Nat) : Nat → Option (Hint (prods F.cout.tys)) := look (Tl k)
noncomputable abbrev body : Code := Go.Proofs.Try.f50.body.getD .skip
theorem s3 (k : Nat) (x : prods c3.tys) : auction_bounds.l3 (k + 1) x.1 x.2.1 x.2.2.1 x.2.2.2.1 x.2.2.2.2.1 x.2.2.2.2.2.1 x.2.2.2.2.2.2.1 x.2.2.2.2.2.2.2 = segK (Γ k) F (T k) body 3 (c3.st x) := by kernel_rfl
theorem s7 (k : Nat) (x : prods c7.tys) : auction_bounds.l7 (k + 1) x.1 x.2.1 x.2.2.1 x.2.2.2.1 x.2.2.2.2.1 x.2.2.2.2.2.1 x.2.2.2.2.2.2.1 x.2.2.2.2.2.2.2.1 x.2.2.2.2.2.2.2.2.1 x.2.2.2.2.2.2.2.2.2.1 x.2.2.2.2.2.2.2.2.2.2.1 x.2.2.2.2.2.2.2.2.2.2.2.1 x.2.2.2.2.2.2.2.2.2.2.2.2 = segK (Γ k) F (T k) body 7 (c7.st x) := by kernel_rfl
theorem main (k : Nat) (x : prods (con 0).cin.tys) : auction_bounds.f k x.1 x.2 = goK (Γ k) F (T k) 2000 [.code body] ((con 0).cin.st x) := by kernel_rfl
theorem okΓ (k : Nat) : ΓOk Go.Proofs.Try.prog (Γ k) := Γnil
theorem ok (k : Nat) : ConSound Go.Proofs.Try.prog 50 (con k) := con_sound (Γ := Γ) (fn := Go.Proofs.Try.f50) (body := body) (cin := (con 0).cin) (F := F) (T := T) follows (by kernel_rfl) (by kernel_rfl) (by kernel_rfl) (by kernel_rfl) (by kernel_rfl) (by decide +kernel) (by kernel_rfl) (by kernel_rfl) (tzero ⟨fun x => rfl, fun x => rfl, trivial⟩) k (fun m _ => okΓ m) (fun m _ => tstep ⟨fun x => s3 m x, fun x => s7 m x, trivial⟩) (fun x y h => (main k x).symm.trans h)
end auction_bounds
namespace auction_Clear
noncomputable abbrev con (k : Nat) : Con := ⟨⟨[(0, .l (.val (.list 49 Y2)))], []⟩, ⟨[(0, .av Y5), (1, .l (.val (.int .i64)))], []⟩, fun x => auction_Clear.f k x⟩
noncomputable abbrev Γ (k : Nat) : FuncId → Option Con := look [(48, auction_Check.con k), (49, auction_side.con k), (50, auction_bounds.con k)]
abbrev F : Fin Go.Proofs.Try.prog := ⟨⟨[(0, .av Y5), (1, .l (.val (.int .i64)))], []⟩, [], [.cell 2 52, .tmp 3]⟩
abbrev c7 : Cut := ⟨[(0, .l (.val (.list 49 Y2))), (2, .l (.ptr 7000000 0)), (5, .l (.ptr 7000001 0)), (6, .l (.val (.list 3 (.int .i64)))), (7, .l (.val (.list 3 (.int .i64)))), (8, .l (.val (.int .i64))), (9, .l (.val (.int .i64)))], [(7000000, .box 52 [.val (.int .i64), .val (.int .i64), .nils]), (7000001, .box 52 [.val (.int .i64), .val (.int .i64), .row 7000002]), (7000002, .row 3 (.int .i64))]⟩
abbrev c13 : Cut := ⟨[(0, .l (.val (.list 49 Y2))), (2, .l (.ptr 7000000 0)), (5, .l (.ptr 7000001 0)), (6, .l (.val (.list 3 (.int .i64)))), (7, .l (.val (.list 3 (.int .i64)))), (8, .l (.val (.int .i64))), (9, .l (.val (.int .i64))), (11, .l (.val (.int .i64)))], [(7000000, .box 52 [.val (.int .i64), .val (.int .i64), .nils]), (7000001, .box 52 [.val (.int .i64), .val (.int .i64), .row 7000002]), (7000002, .row 3 (.int .i64))]⟩
noncomputable abbrev Tl (k : Nat) : List (Nat × Hint (prods F.cout.tys)) := [(7, ⟨c7, fun x => auction_Clear.l7 k x.1 x.2.1 x.2.2.1 x.2.2.2.1 x.2.2.2.2.1 x.2.2.2.2.2.1 x.2.2.2.2.2.2.1 x.2.2.2.2.2.2.2.1 x.2.2.2.2.2.2.2.2.1 x.2.2.2.2.2.2.2.2.2⟩), (13, ⟨c13, fun x => auction_Clear.l13 k x.1 x.2.1 x.2.2.1 x.2.2.2.1 x.2.2.2.2.1 x.2.2.2.2.2.1 x.2.2.2.2.2.2.1 x.2.2.2.2.2.2.2.1 x.2.2.2.2.2.2.2.2.1 x.2.2.2.2.2.2.2.2.2.1 x.2.2.2.2.2.2.2.2.2.2⟩)]
noncomputable abbrev T (k : Nat) : Nat → Option (Hint (prods F.cout.tys)) := look (Tl k)
noncomputable abbrev body : Code := Go.Proofs.Try.f20.body.getD .skip
theorem s7 (k : Nat) (x : prods c7.tys) : auction_Clear.l7 (k + 1) x.1 x.2.1 x.2.2.1 x.2.2.2.1 x.2.2.2.2.1 x.2.2.2.2.2.1 x.2.2.2.2.2.2.1 x.2.2.2.2.2.2.2.1 x.2.2.2.2.2.2.2.2.1 x.2.2.2.2.2.2.2.2.2 = segK (Γ k) F (T k) body 7 (c7.st x) := by kernel_rfl
theorem s13 (k : Nat) (x : prods c13.tys) : auction_Clear.l13 (k + 1) x.1 x.2.1 x.2.2.1 x.2.2.2.1 x.2.2.2.2.1 x.2.2.2.2.2.1 x.2.2.2.2.2.2.1 x.2.2.2.2.2.2.2.1 x.2.2.2.2.2.2.2.2.1 x.2.2.2.2.2.2.2.2.2.1 x.2.2.2.2.2.2.2.2.2.2 = segK (Γ k) F (T k) body 13 (c13.st x) := by kernel_rfl
theorem main (k : Nat) (x : prods (con 0).cin.tys) : auction_Clear.f k x = goK (Γ k) F (T k) 2000 [.code body] ((con 0).cin.st x) := by kernel_rfl
theorem okΓ (k : Nat) : ΓOk Go.Proofs.Try.prog (Γ k) := Γcons (auction_Check.ok k) ⟨Go.Proofs.Try.f48, by kernel_rfl, by kernel_rfl, by kernel_rfl⟩ (Γcons (auction_side.ok k) ⟨Go.Proofs.Try.f49, by kernel_rfl, by kernel_rfl, by kernel_rfl⟩ (Γcons (auction_bounds.ok k) ⟨Go.Proofs.Try.f50, by kernel_rfl, by kernel_rfl, by kernel_rfl⟩ (Γnil)))
theorem ok (k : Nat) : ConSound Go.Proofs.Try.prog 20 (con k) := con_sound (Γ := Γ) (fn := Go.Proofs.Try.f20) (body := body) (cin := (con 0).cin) (F := F) (T := T) follows (by kernel_rfl) (by kernel_rfl) (by kernel_rfl) (by kernel_rfl) (by kernel_rfl) (by decide +kernel) (by kernel_rfl) (by kernel_rfl) (tzero ⟨fun x => rfl, fun x => rfl, trivial⟩) k (fun m _ => okΓ m) (fun m _ => tstep ⟨fun x => s7 m x, fun x => s13 m x, trivial⟩) (fun x y h => (main k x).symm.trans h)
end auction_Clear
namespace gridhallkeep3_sold
noncomputable abbrev con (k : Nat) : Con := ⟨⟨[], []⟩, ⟨[(0, .l (.val .bool))], []⟩, fun x => gridhallkeep3_sold.f k⟩
noncomputable abbrev Γ (k : Nat) : FuncId → Option Con := look [(20, auction_Clear.con k)]
abbrev F : Fin Go.Proofs.Try.prog := ⟨⟨[(0, .l (.val .bool))], []⟩, [], [.tmp 0]⟩
noncomputable abbrev Tl (k : Nat) : List (Nat × Hint (prods F.cout.tys)) := []
noncomputable abbrev T (k : Nat) : Nat → Option (Hint (prods F.cout.tys)) := look (Tl k)
noncomputable abbrev body : Code := Go.Proofs.Try.f19.body.getD .skip
theorem main (k : Nat) (x : prods (con 0).cin.tys) : gridhallkeep3_sold.f k = goK (Γ k) F (T k) 2000 [.code body] ((con 0).cin.st x) := by kernel_rfl
theorem okΓ (k : Nat) : ΓOk Go.Proofs.Try.prog (Γ k) := Γcons (auction_Clear.ok k) ⟨Go.Proofs.Try.f20, by kernel_rfl, by kernel_rfl, by kernel_rfl⟩ (Γnil)
theorem ok (k : Nat) : ConSound Go.Proofs.Try.prog 19 (con k) := con_sound (Γ := Γ) (fn := Go.Proofs.Try.f19) (body := body) (cin := (con 0).cin) (F := F) (T := T) follows (by kernel_rfl) (by kernel_rfl) (by kernel_rfl) (by kernel_rfl) (by kernel_rfl) (by decide +kernel) (by kernel_rfl) (by kernel_rfl) (tzero trivial) k (fun m _ => okΓ m) (fun m _ => tstep trivial) (fun x y h => (main k x).symm.trans h)
end gridhallkeep3_sold
namespace slices_Clone_api_AuctionOrder
noncomputable abbrev con (k : Nat) : Con := ⟨⟨[(0, .l (.val (.list 49 Y2)))], []⟩, ⟨[(0, .l (.row 0))], [(0, .row 49 Y2)]⟩, fun x => slices_Clone_api_AuctionOrder.f k x⟩
noncomputable abbrev Γ (k : Nat) : FuncId → Option Con := look []
abbrev F : Fin Go.Proofs.Try.prog := ⟨⟨[(0, .l (.row 0))], [(0, .row 49 Y2)]⟩, [], [.tmp 2]⟩
noncomputable abbrev Tl (k : Nat) : List (Nat × Hint (prods F.cout.tys)) := []
noncomputable abbrev T (k : Nat) : Nat → Option (Hint (prods F.cout.tys)) := look (Tl k)
noncomputable abbrev body : Code := Go.Proofs.Try.f21.body.getD .skip
theorem main (k : Nat) (x : prods (con 0).cin.tys) : slices_Clone_api_AuctionOrder.f k x = goK (Γ k) F (T k) 2000 [.code body] ((con 0).cin.st x) := by kernel_rfl
theorem okΓ (k : Nat) : ΓOk Go.Proofs.Try.prog (Γ k) := Γnil
theorem ok (k : Nat) : ConSound Go.Proofs.Try.prog 21 (con k) := con_sound (Γ := Γ) (fn := Go.Proofs.Try.f21) (body := body) (cin := (con 0).cin) (F := F) (T := T) follows (by kernel_rfl) (by kernel_rfl) (by kernel_rfl) (by kernel_rfl) (by kernel_rfl) (by decide +kernel) (by kernel_rfl) (by kernel_rfl) (tzero trivial) k (fun m _ => okΓ m) (fun m _ => tstep trivial) (fun x y h => (main k x).symm.trans h)
end slices_Clone_api_AuctionOrder
namespace gridhallkeep3_fine_1
noncomputable abbrev con (k : Nat) : Con := ⟨⟨[(0, .l (.val (.int .i64)))], []⟩, ⟨[(0, .l (.val .bool))], []⟩, fun x => gridhallkeep3_fine_1.f k x⟩
noncomputable abbrev Γ (k : Nat) : FuncId → Option Con := look []
abbrev F : Fin Go.Proofs.Try.prog := ⟨⟨[(0, .l (.val .bool))], []⟩, [], [.tmp 2]⟩
noncomputable abbrev Tl (k : Nat) : List (Nat × Hint (prods F.cout.tys)) := []
noncomputable abbrev T (k : Nat) : Nat → Option (Hint (prods F.cout.tys)) := look (Tl k)
noncomputable abbrev body : Code := Go.Proofs.Try.f52.body.getD .skip
theorem main (k : Nat) (x : prods (con 0).cin.tys) : gridhallkeep3_fine_1.f k x = goK (Γ k) F (T k) 2000 [.code body] ((con 0).cin.st x) := by kernel_rfl
theorem okΓ (k : Nat) : ΓOk Go.Proofs.Try.prog (Γ k) := Γnil
theorem ok (k : Nat) : ConSound Go.Proofs.Try.prog 52 (con k) := con_sound (Γ := Γ) (fn := Go.Proofs.Try.f52) (body := body) (cin := (con 0).cin) (F := F) (T := T) follows (by kernel_rfl) (by kernel_rfl) (by kernel_rfl) (by kernel_rfl) (by kernel_rfl) (by decide +kernel) (by kernel_rfl) (by kernel_rfl) (tzero trivial) k (fun m _ => okΓ m) (fun m _ => tstep trivial) (fun x y h => (main k x).symm.trans h)
end gridhallkeep3_fine_1
namespace slices_IndexFunc_api_Errno
noncomputable abbrev con (k : Nat) : Con := ⟨⟨[(0, .l (.val (.list 35 (.int .i64)))), (1, .l (.fn0 52))], []⟩, ⟨[(0, .l (.val (.int .i64)))], []⟩, fun x => slices_IndexFunc_api_Errno.f k x⟩
noncomputable abbrev Γ (k : Nat) : FuncId → Option Con := look [(52, gridhallkeep3_fine_1.con k)]
abbrev F : Fin Go.Proofs.Try.prog := ⟨⟨[(0, .l (.val (.int .i64)))], []⟩, [], [.tmp 4]⟩
abbrev c2 : Cut := ⟨[(0, .l (.val (.list 35 (.int .i64)))), (1, .l (.fn0 52)), (7, .l (.val (.int .i64))), (8, .l (.val (.int .i64)))], []⟩
noncomputable abbrev Tl (k : Nat) : List (Nat × Hint (prods F.cout.tys)) := [(2, ⟨c2, fun x => slices_IndexFunc_api_Errno.l2 k x.1 x.2.1 x.2.2⟩)]
noncomputable abbrev T (k : Nat) : Nat → Option (Hint (prods F.cout.tys)) := look (Tl k)
noncomputable abbrev body : Code := Go.Proofs.Try.f86.body.getD .skip
theorem s2 (k : Nat) (x : prods c2.tys) : slices_IndexFunc_api_Errno.l2 (k + 1) x.1 x.2.1 x.2.2 = segK (Γ k) F (T k) body 2 (c2.st x) := by kernel_rfl
theorem main (k : Nat) (x : prods (con 0).cin.tys) : slices_IndexFunc_api_Errno.f k x = goK (Γ k) F (T k) 2000 [.code body] ((con 0).cin.st x) := by kernel_rfl
theorem okΓ (k : Nat) : ΓOk Go.Proofs.Try.prog (Γ k) := Γcons (gridhallkeep3_fine_1.ok k) ⟨Go.Proofs.Try.f52, by kernel_rfl, by kernel_rfl, by kernel_rfl⟩ (Γnil)
theorem ok (k : Nat) : ConSound Go.Proofs.Try.prog 86 (con k) := con_sound (Γ := Γ) (fn := Go.Proofs.Try.f86) (body := body) (cin := (con 0).cin) (F := F) (T := T) follows (by kernel_rfl) (by kernel_rfl) (by kernel_rfl) (by kernel_rfl) (by kernel_rfl) (by decide +kernel) (by kernel_rfl) (by kernel_rfl) (tzero ⟨fun x => rfl, trivial⟩) k (fun m _ => okΓ m) (fun m _ => tstep ⟨fun x => s2 m x, trivial⟩) (fun x y h => (main k x).symm.trans h)
end slices_IndexFunc_api_Errno
namespace slices_ContainsFunc_api_Errno
noncomputable abbrev con (k : Nat) : Con := ⟨⟨[(0, .l (.val (.list 35 (.int .i64)))), (1, .l (.fn0 52))], []⟩, ⟨[(0, .l (.val .bool))], []⟩, fun x => slices_ContainsFunc_api_Errno.f k x⟩
noncomputable abbrev Γ (k : Nat) : FuncId → Option Con := look [(86, slices_IndexFunc_api_Errno.con k)]
abbrev F : Fin Go.Proofs.Try.prog := ⟨⟨[(0, .l (.val .bool))], []⟩, [], [.tmp 4]⟩
noncomputable abbrev Tl (k : Nat) : List (Nat × Hint (prods F.cout.tys)) := []
noncomputable abbrev T (k : Nat) : Nat → Option (Hint (prods F.cout.tys)) := look (Tl k)
noncomputable abbrev body : Code := Go.Proofs.Try.f51.body.getD .skip
theorem main (k : Nat) (x : prods (con 0).cin.tys) : slices_ContainsFunc_api_Errno.f k x = goK (Γ k) F (T k) 2000 [.code body] ((con 0).cin.st x) := by kernel_rfl
theorem okΓ (k : Nat) : ΓOk Go.Proofs.Try.prog (Γ k) := Γcons (slices_IndexFunc_api_Errno.ok k) ⟨Go.Proofs.Try.f86, by kernel_rfl, by kernel_rfl, by kernel_rfl⟩ (Γnil)
theorem ok (k : Nat) : ConSound Go.Proofs.Try.prog 51 (con k) := con_sound (Γ := Γ) (fn := Go.Proofs.Try.f51) (body := body) (cin := (con 0).cin) (F := F) (T := T) follows (by kernel_rfl) (by kernel_rfl) (by kernel_rfl) (by kernel_rfl) (by kernel_rfl) (by decide +kernel) (by kernel_rfl) (by kernel_rfl) (tzero trivial) k (fun m _ => okΓ m) (fun m _ => tstep trivial) (fun x y h => (main k x).symm.trans h)
end slices_ContainsFunc_api_Errno
namespace gridhallkeep3_fine
noncomputable abbrev con (k : Nat) : Con := ⟨⟨[(0, .l (.val (.list 35 (.int .i64))))], []⟩, ⟨[(0, .l (.val .bool))], []⟩, fun x => gridhallkeep3_fine.f k x⟩
noncomputable abbrev Γ (k : Nat) : FuncId → Option Con := look [(51, slices_ContainsFunc_api_Errno.con k)]
abbrev F : Fin Go.Proofs.Try.prog := ⟨⟨[(0, .l (.val .bool))], []⟩, [], [.tmp 2]⟩
noncomputable abbrev Tl (k : Nat) : List (Nat × Hint (prods F.cout.tys)) := []
noncomputable abbrev T (k : Nat) : Nat → Option (Hint (prods F.cout.tys)) := look (Tl k)
noncomputable abbrev body : Code := Go.Proofs.Try.f22.body.getD .skip
theorem main (k : Nat) (x : prods (con 0).cin.tys) : gridhallkeep3_fine.f k x = goK (Γ k) F (T k) 2000 [.code body] ((con 0).cin.st x) := by kernel_rfl
theorem okΓ (k : Nat) : ΓOk Go.Proofs.Try.prog (Γ k) := Γcons (slices_ContainsFunc_api_Errno.ok k) ⟨Go.Proofs.Try.f51, by kernel_rfl, by kernel_rfl, by kernel_rfl⟩ (Γnil)
theorem ok (k : Nat) : ConSound Go.Proofs.Try.prog 22 (con k) := con_sound (Γ := Γ) (fn := Go.Proofs.Try.f22) (body := body) (cin := (con 0).cin) (F := F) (T := T) follows (by kernel_rfl) (by kernel_rfl) (by kernel_rfl) (by kernel_rfl) (by kernel_rfl) (by decide +kernel) (by kernel_rfl) (by kernel_rfl) (tzero trivial) k (fun m _ => okΓ m) (fun m _ => tstep trivial) (fun x y h => (main k x).symm.trans h)
end gridhallkeep3_fine
namespace gridhallkeep3_AuctionMore
noncomputable abbrev con (k : Nat) : Con := ⟨⟨[(0, .l (.val (.list 49 Y2))), (1, .av Y2)], []⟩, ⟨[(0, .l (.val .bool))], []⟩, fun x => gridhallkeep3_AuctionMore.f k x.1 x.2⟩
noncomputable abbrev Γ (k : Nat) : FuncId → Option Con := look [(19, gridhallkeep3_sold.con k), (20, auction_Clear.con k), (21, slices_Clone_api_AuctionOrder.con k), (22, gridhallkeep3_fine.con k)]
abbrev F : Fin Go.Proofs.Try.prog := ⟨⟨[(0, .l (.val .bool))], []⟩, [], [.tmp 4]⟩
noncomputable abbrev Tl (k : Nat) : List (Nat × Hint (prods F.cout.tys)) := []
noncomputable abbrev T (k : Nat) : Nat → Option (Hint (prods F.cout.tys)) := look (Tl k)
noncomputable abbrev body : Code := Go.Proofs.Try.f4.body.getD .skip
theorem main (k : Nat) (x : prods (con 0).cin.tys) : gridhallkeep3_AuctionMore.f k x.1 x.2 = goK (Γ k) F (T k) 2000 [.code body] ((con 0).cin.st x) := by kernel_rfl
theorem okΓ (k : Nat) : ΓOk Go.Proofs.Try.prog (Γ k) := Γcons (gridhallkeep3_sold.ok k) ⟨Go.Proofs.Try.f19, by kernel_rfl, by kernel_rfl, by kernel_rfl⟩ (Γcons (auction_Clear.ok k) ⟨Go.Proofs.Try.f20, by kernel_rfl, by kernel_rfl, by kernel_rfl⟩ (Γcons (slices_Clone_api_AuctionOrder.ok k) ⟨Go.Proofs.Try.f21, by kernel_rfl, by kernel_rfl, by kernel_rfl⟩ (Γcons (gridhallkeep3_fine.ok k) ⟨Go.Proofs.Try.f22, by kernel_rfl, by kernel_rfl, by kernel_rfl⟩ (Γnil))))
theorem ok (k : Nat) : ConSound Go.Proofs.Try.prog 4 (con k) := con_sound (Γ := Γ) (fn := Go.Proofs.Try.f4) (body := body) (cin := (con 0).cin) (F := F) (T := T) follows (by kernel_rfl) (by kernel_rfl) (by kernel_rfl) (by kernel_rfl) (by kernel_rfl) (by decide +kernel) (by kernel_rfl) (by kernel_rfl) (tzero trivial) k (fun m _ => okΓ m) (fun m _ => tstep trivial) (fun x y h => (main k x).symm.trans h)
end gridhallkeep3_AuctionMore
namespace auction_valid
noncomputable abbrev con (k : Nat) : Con := ⟨⟨[(0, .l (.val (.list 49 Y2))), (1, .av Y5)], []⟩, ⟨[(0, .l (.val (.int .i64)))], []⟩, fun x => auction_valid.f k x.1 x.2⟩
noncomputable abbrev Γ (k : Nat) : FuncId → Option Con := look [(48, auction_Check.con k)]
abbrev F : Fin Go.Proofs.Try.prog := ⟨⟨[(0, .l (.val (.int .i64)))], []⟩, [], [.tmp 4]⟩
abbrev c7 : Cut := ⟨[(3, .l (.ptr 7000000 0)), (19, .l (.val (.list 49 Y2))), (20, .l (.val (.int .i64))), (21, .l (.val (.int .i64)))], [(7000000, .box 52 [.val (.int .i64), .val (.int .i64), .val (.list 3 (.int .i64))])]⟩
noncomputable abbrev Tl (k : Nat) : List (Nat × Hint (prods F.cout.tys)) := [(7, ⟨c7, fun x => auction_valid.l7 k x.1 x.2.1 x.2.2.1 x.2.2.2.1 x.2.2.2.2.1 x.2.2.2.2.2⟩)]
noncomputable abbrev T (k : Nat) : Nat → Option (Hint (prods F.cout.tys)) := look (Tl k)
noncomputable abbrev body : Code := Go.Proofs.Try.f57.body.getD .skip
theorem s7 (k : Nat) (x : prods c7.tys) : auction_valid.l7 (k + 1) x.1 x.2.1 x.2.2.1 x.2.2.2.1 x.2.2.2.2.1 x.2.2.2.2.2 = segK (Γ k) F (T k) body 7 (c7.st x) := by kernel_rfl
theorem main (k : Nat) (x : prods (con 0).cin.tys) : auction_valid.f k x.1 x.2 = goK (Γ k) F (T k) 2000 [.code body] ((con 0).cin.st x) := by kernel_rfl
theorem okΓ (k : Nat) : ΓOk Go.Proofs.Try.prog (Γ k) := Γcons (auction_Check.ok k) ⟨Go.Proofs.Try.f48, by kernel_rfl, by kernel_rfl, by kernel_rfl⟩ (Γnil)
theorem ok (k : Nat) : ConSound Go.Proofs.Try.prog 57 (con k) := con_sound (Γ := Γ) (fn := Go.Proofs.Try.f57) (body := body) (cin := (con 0).cin) (F := F) (T := T) follows (by kernel_rfl) (by kernel_rfl) (by kernel_rfl) (by kernel_rfl) (by kernel_rfl) (by decide +kernel) (by kernel_rfl) (by kernel_rfl) (tzero ⟨fun x => rfl, trivial⟩) k (fun m _ => okΓ m) (fun m _ => tstep ⟨fun x => s7 m x, trivial⟩) (fun x y h => (main k x).symm.trans h)
end auction_valid
namespace auction_Surplus
noncomputable abbrev con (k : Nat) : Con := ⟨⟨[(0, .l (.val (.list 49 Y2))), (1, .av Y5)], []⟩, ⟨[(0, .l (.val (.int .i64))), (1, .l (.val (.int .i64)))], []⟩, fun x => auction_Surplus.f k x.1 x.2⟩
noncomputable abbrev Γ (k : Nat) : FuncId → Option Con := look [(57, auction_valid.con k)]
abbrev F : Fin Go.Proofs.Try.prog := ⟨⟨[(0, .l (.val (.int .i64))), (1, .l (.val (.int .i64)))], []⟩, [], [.tmp 4, .tmp 5]⟩
abbrev c8 : Cut := ⟨[(3, .l (.ptr 7000000 0)), (7, .l (.val (.int .i64))), (24, .l (.val (.list 49 Y2))), (25, .l (.val (.int .i64))), (26, .l (.val (.int .i64)))], [(7000000, .box 52 [.val (.int .i64), .val (.int .i64), .val (.list 3 (.int .i64))])]⟩
noncomputable abbrev Tl (k : Nat) : List (Nat × Hint (prods F.cout.tys)) := [(8, ⟨c8, fun x => auction_Surplus.l8 k x.1 x.2.1 x.2.2.1 x.2.2.2.1 x.2.2.2.2.1 x.2.2.2.2.2.1 x.2.2.2.2.2.2⟩)]
noncomputable abbrev T (k : Nat) : Nat → Option (Hint (prods F.cout.tys)) := look (Tl k)
noncomputable abbrev body : Code := Go.Proofs.Try.f27.body.getD .skip
theorem s8 (k : Nat) (x : prods c8.tys) : auction_Surplus.l8 (k + 1) x.1 x.2.1 x.2.2.1 x.2.2.2.1 x.2.2.2.2.1 x.2.2.2.2.2.1 x.2.2.2.2.2.2 = segK (Γ k) F (T k) body 8 (c8.st x) := by kernel_rfl
theorem main (k : Nat) (x : prods (con 0).cin.tys) : auction_Surplus.f k x.1 x.2 = goK (Γ k) F (T k) 2000 [.code body] ((con 0).cin.st x) := by kernel_rfl
theorem okΓ (k : Nat) : ΓOk Go.Proofs.Try.prog (Γ k) := Γcons (auction_valid.ok k) ⟨Go.Proofs.Try.f57, by kernel_rfl, by kernel_rfl, by kernel_rfl⟩ (Γnil)
theorem ok (k : Nat) : ConSound Go.Proofs.Try.prog 27 (con k) := con_sound (Γ := Γ) (fn := Go.Proofs.Try.f27) (body := body) (cin := (con 0).cin) (F := F) (T := T) follows (by kernel_rfl) (by kernel_rfl) (by kernel_rfl) (by kernel_rfl) (by kernel_rfl) (by decide +kernel) (by kernel_rfl) (by kernel_rfl) (tzero ⟨fun x => rfl, trivial⟩) k (fun m _ => okΓ m) (fun m _ => tstep ⟨fun x => s8 m x, trivial⟩) (fun x y h => (main k x).symm.trans h)
end auction_Surplus
namespace gridhallkeep3_within
noncomputable abbrev con (k : Nat) : Con := ⟨⟨[(0, .l (.val (.int .i64))), (1, .l (.val (.int .i64))), (2, .l (.val (.int .i64)))], []⟩, ⟨[(0, .l (.val (.int .i64)))], []⟩, fun x => gridhallkeep3_within.f k x.1 x.2.1 x.2.2⟩
noncomputable abbrev Γ (k : Nat) : FuncId → Option Con := look []
abbrev F : Fin Go.Proofs.Try.prog := ⟨⟨[(0, .l (.val (.int .i64)))], []⟩, [], [.tmp 6]⟩
noncomputable abbrev Tl (k : Nat) : List (Nat × Hint (prods F.cout.tys)) := []
noncomputable abbrev T (k : Nat) : Nat → Option (Hint (prods F.cout.tys)) := look (Tl k)
noncomputable abbrev body : Code := Go.Proofs.Try.f28.body.getD .skip
theorem main (k : Nat) (x : prods (con 0).cin.tys) : gridhallkeep3_within.f k x.1 x.2.1 x.2.2 = goK (Γ k) F (T k) 2000 [.code body] ((con 0).cin.st x) := by kernel_rfl
theorem okΓ (k : Nat) : ΓOk Go.Proofs.Try.prog (Γ k) := Γnil
theorem ok (k : Nat) : ConSound Go.Proofs.Try.prog 28 (con k) := con_sound (Γ := Γ) (fn := Go.Proofs.Try.f28) (body := body) (cin := (con 0).cin) (F := F) (T := T) follows (by kernel_rfl) (by kernel_rfl) (by kernel_rfl) (by kernel_rfl) (by kernel_rfl) (by decide +kernel) (by kernel_rfl) (by kernel_rfl) (tzero trivial) k (fun m _ => okΓ m) (fun m _ => tstep trivial) (fun x y h => (main k x).symm.trans h)
end gridhallkeep3_within
namespace gridhallkeep3_AuctionBest
noncomputable abbrev con (k : Nat) : Con := ⟨⟨[(0, .l (.val (.list 49 Y2))), (1, .l (.val (.list 3 (.int .i64)))), (2, .l (.val (.int .i64)))], []⟩, ⟨[(0, .l (.val .bool))], []⟩, fun x => gridhallkeep3_AuctionBest.f k x.1 x.2.1 x.2.2⟩
noncomputable abbrev Γ (k : Nat) : FuncId → Option Con := look [(19, gridhallkeep3_sold.con k), (20, auction_Clear.con k), (22, gridhallkeep3_fine.con k), (27, auction_Surplus.con k), (28, gridhallkeep3_within.con k)]
abbrev F : Fin Go.Proofs.Try.prog := ⟨⟨[(0, .l (.val .bool))], []⟩, [], [.tmp 6]⟩
abbrev c18 : Cut := ⟨[(0, .l (.val (.list 49 Y2))), (1, .l (.val (.list 3 (.int .i64)))), (11, .l (.val (.int .i64))), (16, .l (.val (.int .i64))), (17, .l (.val (.int .i64))), (18, .l (.ptr 7000000 0)), (92, .l (.val (.list 49 Y2))), (93, .l (.val (.int .i64))), (94, .l (.val (.int .i64)))], [(7000000, .box 52 [.val (.int .i64), .val (.int .i64), .row 7000501]), (7000501, .row 3 (.int .i64))]⟩
noncomputable abbrev Tl (k : Nat) : List (Nat × Hint (prods F.cout.tys)) := [(18, ⟨c18, fun x => gridhallkeep3_AuctionBest.l18 k x.1 x.2.1 x.2.2.1 x.2.2.2.1 x.2.2.2.2.1 x.2.2.2.2.2.1 x.2.2.2.2.2.2.1 x.2.2.2.2.2.2.2.1 x.2.2.2.2.2.2.2.2.1 x.2.2.2.2.2.2.2.2.2.1 x.2.2.2.2.2.2.2.2.2.2⟩)]
noncomputable abbrev T (k : Nat) : Nat → Option (Hint (prods F.cout.tys)) := look (Tl k)
noncomputable abbrev body : Code := Go.Proofs.Try.f6.body.getD .skip
theorem s18 (k : Nat) (x : prods c18.tys) : gridhallkeep3_AuctionBest.l18 (k + 1) x.1 x.2.1 x.2.2.1 x.2.2.2.1 x.2.2.2.2.1 x.2.2.2.2.2.1 x.2.2.2.2.2.2.1 x.2.2.2.2.2.2.2.1 x.2.2.2.2.2.2.2.2.1 x.2.2.2.2.2.2.2.2.2.1 x.2.2.2.2.2.2.2.2.2.2 = segK (Γ k) F (T k) body 18 (c18.st x) := by kernel_rfl
theorem main (k : Nat) (x : prods (con 0).cin.tys) : gridhallkeep3_AuctionBest.f k x.1 x.2.1 x.2.2 = goK (Γ k) F (T k) 2000 [.code body] ((con 0).cin.st x) := by kernel_rfl
theorem okΓ (k : Nat) : ΓOk Go.Proofs.Try.prog (Γ k) := Γcons (gridhallkeep3_sold.ok k) ⟨Go.Proofs.Try.f19, by kernel_rfl, by kernel_rfl, by kernel_rfl⟩ (Γcons (auction_Clear.ok k) ⟨Go.Proofs.Try.f20, by kernel_rfl, by kernel_rfl, by kernel_rfl⟩ (Γcons (gridhallkeep3_fine.ok k) ⟨Go.Proofs.Try.f22, by kernel_rfl, by kernel_rfl, by kernel_rfl⟩ (Γcons (auction_Surplus.ok k) ⟨Go.Proofs.Try.f27, by kernel_rfl, by kernel_rfl, by kernel_rfl⟩ (Γcons (gridhallkeep3_within.ok k) ⟨Go.Proofs.Try.f28, by kernel_rfl, by kernel_rfl, by kernel_rfl⟩ (Γnil)))))
theorem ok (k : Nat) : ConSound Go.Proofs.Try.prog 6 (con k) := con_sound (Γ := Γ) (fn := Go.Proofs.Try.f6) (body := body) (cin := (con 0).cin) (F := F) (T := T) follows (by kernel_rfl) (by kernel_rfl) (by kernel_rfl) (by kernel_rfl) (by kernel_rfl) (by decide +kernel) (by kernel_rfl) (by kernel_rfl) (tzero ⟨fun x => rfl, trivial⟩) k (fun m _ => okΓ m) (fun m _ => tstep ⟨fun x => s18 m x, trivial⟩) (fun x y h => (main k x).symm.trans h)
end gridhallkeep3_AuctionBest
namespace auction_Verify
noncomputable abbrev con (k : Nat) : Con := ⟨⟨[(0, .l (.val (.list 49 Y2))), (1, .av Y5)], []⟩, ⟨[(0, .l (.val (.int .i64)))], []⟩, fun x => auction_Verify.f k x.1 x.2⟩
noncomputable abbrev Γ (k : Nat) : FuncId → Option Con := look [(50, auction_bounds.con k), (57, auction_valid.con k)]
abbrev F : Fin Go.Proofs.Try.prog := ⟨⟨[(0, .l (.val (.int .i64)))], []⟩, [], [.tmp 4]⟩
abbrev c6 : Cut := ⟨[(0, .l (.val (.list 49 Y2))), (3, .l (.ptr 7000000 0)), (6, .l (.val (.int .i64))), (7, .l (.val (.int .i64))), (18, .l (.val (.list 49 Y2))), (19, .l (.val (.int .i64))), (20, .l (.val (.int .i64)))], [(7000000, .box 52 [.val (.int .i64), .val (.int .i64), .val (.list 3 (.int .i64))])]⟩
noncomputable abbrev Tl (k : Nat) : List (Nat × Hint (prods F.cout.tys)) := [(6, ⟨c6, fun x => auction_Verify.l6 k x.1 x.2.1 x.2.2.1 x.2.2.2.1 x.2.2.2.2.1 x.2.2.2.2.2.1 x.2.2.2.2.2.2.1 x.2.2.2.2.2.2.2.1 x.2.2.2.2.2.2.2.2⟩)]
noncomputable abbrev T (k : Nat) : Nat → Option (Hint (prods F.cout.tys)) := look (Tl k)
noncomputable abbrev body : Code := Go.Proofs.Try.f29.body.getD .skip
theorem s6 (k : Nat) (x : prods c6.tys) : auction_Verify.l6 (k + 1) x.1 x.2.1 x.2.2.1 x.2.2.2.1 x.2.2.2.2.1 x.2.2.2.2.2.1 x.2.2.2.2.2.2.1 x.2.2.2.2.2.2.2.1 x.2.2.2.2.2.2.2.2 = segK (Γ k) F (T k) body 6 (c6.st x) := by kernel_rfl
theorem main (k : Nat) (x : prods (con 0).cin.tys) : auction_Verify.f k x.1 x.2 = goK (Γ k) F (T k) 2000 [.code body] ((con 0).cin.st x) := by kernel_rfl
theorem okΓ (k : Nat) : ΓOk Go.Proofs.Try.prog (Γ k) := Γcons (auction_bounds.ok k) ⟨Go.Proofs.Try.f50, by kernel_rfl, by kernel_rfl, by kernel_rfl⟩ (Γcons (auction_valid.ok k) ⟨Go.Proofs.Try.f57, by kernel_rfl, by kernel_rfl, by kernel_rfl⟩ (Γnil))
theorem ok (k : Nat) : ConSound Go.Proofs.Try.prog 29 (con k) := con_sound (Γ := Γ) (fn := Go.Proofs.Try.f29) (body := body) (cin := (con 0).cin) (F := F) (T := T) follows (by kernel_rfl) (by kernel_rfl) (by kernel_rfl) (by kernel_rfl) (by kernel_rfl) (by decide +kernel) (by kernel_rfl) (by kernel_rfl) (tzero ⟨fun x => rfl, trivial⟩) k (fun m _ => okΓ m) (fun m _ => tstep ⟨fun x => s6 m x, trivial⟩) (fun x y h => (main k x).symm.trans h)
end auction_Verify
namespace slices_Clone_int
noncomputable abbrev con (k : Nat) : Con := ⟨⟨[(0, .l (.val (.list 3 (.int .i64))))], []⟩, ⟨[(0, .l (.row 0))], [(0, .row 3 (.int .i64))]⟩, fun x => slices_Clone_int.f k x⟩
noncomputable abbrev Γ (k : Nat) : FuncId → Option Con := look []
abbrev F : Fin Go.Proofs.Try.prog := ⟨⟨[(0, .l (.row 0))], [(0, .row 3 (.int .i64))]⟩, [], [.tmp 2]⟩
noncomputable abbrev Tl (k : Nat) : List (Nat × Hint (prods F.cout.tys)) := []
noncomputable abbrev T (k : Nat) : Nat → Option (Hint (prods F.cout.tys)) := look (Tl k)
noncomputable abbrev body : Code := Go.Proofs.Try.f30.body.getD .skip
theorem main (k : Nat) (x : prods (con 0).cin.tys) : slices_Clone_int.f k x = goK (Γ k) F (T k) 2000 [.code body] ((con 0).cin.st x) := by kernel_rfl
theorem okΓ (k : Nat) : ΓOk Go.Proofs.Try.prog (Γ k) := Γnil
theorem ok (k : Nat) : ConSound Go.Proofs.Try.prog 30 (con k) := con_sound (Γ := Γ) (fn := Go.Proofs.Try.f30) (body := body) (cin := (con 0).cin) (F := F) (T := T) follows (by kernel_rfl) (by kernel_rfl) (by kernel_rfl) (by kernel_rfl) (by kernel_rfl) (by decide +kernel) (by kernel_rfl) (by kernel_rfl) (tzero trivial) k (fun m _ => okΓ m) (fun m _ => tstep trivial) (fun x y h => (main k x).symm.trans h)
end slices_Clone_int
namespace gridhallkeep3_AuctionVerified
noncomputable abbrev con (k : Nat) : Con := ⟨⟨[(0, .l (.val (.list 49 Y2))), (1, .l (.val (.int .i64))), (2, .l (.val (.int .i64)))], []⟩, ⟨[(0, .l (.val .bool))], []⟩, fun x => gridhallkeep3_AuctionVerified.f k x.1 x.2.1 x.2.2⟩
noncomputable abbrev Γ (k : Nat) : FuncId → Option Con := look [(19, gridhallkeep3_sold.con k), (20, auction_Clear.con k), (28, gridhallkeep3_within.con k), (29, auction_Verify.con k), (30, slices_Clone_int.con k)]
abbrev F : Fin Go.Proofs.Try.prog := ⟨⟨[(0, .l (.val .bool))], []⟩, [], [.tmp 6]⟩
noncomputable abbrev Tl (k : Nat) : List (Nat × Hint (prods F.cout.tys)) := []
noncomputable abbrev T (k : Nat) : Nat → Option (Hint (prods F.cout.tys)) := look (Tl k)
noncomputable abbrev body : Code := Go.Proofs.Try.f7.body.getD .skip
theorem main (k : Nat) (x : prods (con 0).cin.tys) : gridhallkeep3_AuctionVerified.f k x.1 x.2.1 x.2.2 = goK (Γ k) F (T k) 2000 [.code body] ((con 0).cin.st x) := by kernel_rfl
theorem okΓ (k : Nat) : ΓOk Go.Proofs.Try.prog (Γ k) := Γcons (gridhallkeep3_sold.ok k) ⟨Go.Proofs.Try.f19, by kernel_rfl, by kernel_rfl, by kernel_rfl⟩ (Γcons (auction_Clear.ok k) ⟨Go.Proofs.Try.f20, by kernel_rfl, by kernel_rfl, by kernel_rfl⟩ (Γcons (gridhallkeep3_within.ok k) ⟨Go.Proofs.Try.f28, by kernel_rfl, by kernel_rfl, by kernel_rfl⟩ (Γcons (auction_Verify.ok k) ⟨Go.Proofs.Try.f29, by kernel_rfl, by kernel_rfl, by kernel_rfl⟩ (Γcons (slices_Clone_int.ok k) ⟨Go.Proofs.Try.f30, by kernel_rfl, by kernel_rfl, by kernel_rfl⟩ (Γnil)))))
theorem ok (k : Nat) : ConSound Go.Proofs.Try.prog 7 (con k) := con_sound (Γ := Γ) (fn := Go.Proofs.Try.f7) (body := body) (cin := (con 0).cin) (F := F) (T := T) follows (by kernel_rfl) (by kernel_rfl) (by kernel_rfl) (by kernel_rfl) (by kernel_rfl) (by decide +kernel) (by kernel_rfl) (by kernel_rfl) (tzero trivial) k (fun m _ => okΓ m) (fun m _ => tstep trivial) (fun x y h => (main k x).symm.trans h)
end gridhallkeep3_AuctionVerified
end Go.Proofs.Ytodagcbcdkfniaa.VE
