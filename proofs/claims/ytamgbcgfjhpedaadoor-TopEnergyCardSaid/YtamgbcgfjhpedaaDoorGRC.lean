/- Contracts of functions (printed by a program; no statement is proved here). -/
import Derived.Test.YtamgbcgfjhpedaaDoorVeCon2
import Derived.Test.YtamgbcgfjhpedaaDoorGRD
namespace Go.Proofs.YtamgbcgfjhpedaaDoor.VE
set_option linter.unusedVariables false
set_option maxRecDepth 100000
open Go Go.RowKit
namespace gridhallkeep3_ring
noncomputable abbrev con (k : Nat) : Con := ⟨⟨[(0, .l (.val (.int .i64)))], []⟩, ⟨[(0, .av Y26), (1, .l (.val (.list 114 Y27)))], []⟩, fun x => gridhallkeep3_ring.f k x⟩
noncomputable abbrev Γ (k : Nat) : FuncId → Option Con := look []
abbrev F : Fin Go.Proofs.Tryd.prog := ⟨⟨[(0, .av Y26), (1, .l (.val (.list 114 Y27)))], []⟩, [], [.cell 2 52, .tmp 3]⟩
noncomputable abbrev Tl (k : Nat) : List (Nat × Hint (prods F.cout.tys)) := []
noncomputable abbrev T (k : Nat) : Nat → Option (Hint (prods F.cout.tys)) := look (Tl k)
noncomputable abbrev body : Code := Go.Proofs.Tryd.f17.body.getD .skip
theorem main (k : Nat) (x : prods (con 0).cin.tys) : gridhallkeep3_ring.f k x = goK (Γ k) F (T k) 2000 [.code body] ((con 0).cin.st x) := by kernel_rfl
theorem okΓ (k : Nat) : ΓOk Go.Proofs.Tryd.prog (Γ k) := Γnil
theorem ok (k : Nat) : ConSound Go.Proofs.Tryd.prog 17 (con k) := con_sound (Γ := Γ) (fn := Go.Proofs.Tryd.f17) (body := body) (cin := (con 0).cin) (F := F) (T := T) follows (by kernel_rfl) (by kernel_rfl) (by kernel_rfl) (by kernel_rfl) (by kernel_rfl) (by decide +kernel) (by kernel_rfl) (by kernel_rfl) (tzero trivial) k (fun m _ => okΓ m) (fun m _ => tstep trivial) (fun x y h => (main k x).symm.trans h)
end gridhallkeep3_ring
namespace netmodel_sizes
noncomputable abbrev con (k : Nat) : Con := ⟨⟨[(0, .av Y26)], []⟩, ⟨[(0, .l (.val (.int .i64)))], []⟩, fun x => netmodel_sizes.f k x⟩
noncomputable abbrev Γ (k : Nat) : FuncId → Option Con := look []
abbrev F : Fin Go.Proofs.Tryd.prog := ⟨⟨[(0, .l (.val (.int .i64)))], []⟩, [], [.tmp 2]⟩
noncomputable abbrev Tl (k : Nat) : List (Nat × Hint (prods F.cout.tys)) := []
noncomputable abbrev T (k : Nat) : Nat → Option (Hint (prods F.cout.tys)) := look (Tl k)
noncomputable abbrev body : Code := Go.Proofs.Tryd.f78.body.getD .skip
theorem main (k : Nat) (x : prods (con 0).cin.tys) : netmodel_sizes.f k x = goK (Γ k) F (T k) 2000 [.code body] ((con 0).cin.st x) := by kernel_rfl
theorem okΓ (k : Nat) : ΓOk Go.Proofs.Tryd.prog (Γ k) := Γnil
theorem ok (k : Nat) : ConSound Go.Proofs.Tryd.prog 78 (con k) := con_sound (Γ := Γ) (fn := Go.Proofs.Tryd.f78) (body := body) (cin := (con 0).cin) (F := F) (T := T) follows (by kernel_rfl) (by kernel_rfl) (by kernel_rfl) (by kernel_rfl) (by kernel_rfl) (by decide +kernel) (by kernel_rfl) (by kernel_rfl) (tzero trivial) k (fun m _ => okΓ m) (fun m _ => tstep trivial) (fun x y h => (main k x).symm.trans h)
end netmodel_sizes
namespace netmodel_Name
noncomputable abbrev con (k : Nat) : Con := ⟨⟨[(0, .l (.val .str))], []⟩, ⟨[(0, .l (.val .bool))], []⟩, fun x => netmodel_Name.f k x⟩
noncomputable abbrev Γ (k : Nat) : FuncId → Option Con := look []
abbrev F : Fin Go.Proofs.Tryd.prog := ⟨⟨[(0, .l (.val .bool))], []⟩, [], [.tmp 2]⟩
abbrev c2 : Cut := ⟨[(0, .l (.val .str)), (7, .l (.val (.list 5 (.int .u8)))), (8, .l (.val (.int .i64))), (9, .l (.val (.int .i64)))], []⟩
noncomputable abbrev Tl (k : Nat) : List (Nat × Hint (prods F.cout.tys)) := [(2, ⟨c2, fun x => netmodel_Name.l2 k x.1 x.2.1 x.2.2.1 x.2.2.2⟩)]
noncomputable abbrev T (k : Nat) : Nat → Option (Hint (prods F.cout.tys)) := look (Tl k)
noncomputable abbrev body : Code := Go.Proofs.Tryd.f98.body.getD .skip
theorem s2 (k : Nat) (x : prods c2.tys) : netmodel_Name.l2 (k + 1) x.1 x.2.1 x.2.2.1 x.2.2.2 = segK (Γ k) F (T k) body 2 (c2.st x) := by kernel_rfl
theorem main (k : Nat) (x : prods (con 0).cin.tys) : netmodel_Name.f k x = goK (Γ k) F (T k) 2000 [.code body] ((con 0).cin.st x) := by kernel_rfl
theorem okΓ (k : Nat) : ΓOk Go.Proofs.Tryd.prog (Γ k) := Γnil
theorem ok (k : Nat) : ConSound Go.Proofs.Tryd.prog 98 (con k) := con_sound (Γ := Γ) (fn := Go.Proofs.Tryd.f98) (body := body) (cin := (con 0).cin) (F := F) (T := T) follows (by kernel_rfl) (by kernel_rfl) (by kernel_rfl) (by kernel_rfl) (by kernel_rfl) (by decide +kernel) (by kernel_rfl) (by kernel_rfl) (tzero ⟨fun x => by kernel_rfl, trivial⟩) k (fun m _ => okΓ m) (fun m _ => tstep ⟨fun x => Eq.trans (by kernel_rfl) (s2 m x), trivial⟩) (fun x y h => (main k x).symm.trans h)
end netmodel_Name
namespace slices_Index_string
noncomputable abbrev con (k : Nat) : Con := ⟨⟨[(0, .l (.val (.list 9 .str))), (1, .l (.val .str))], []⟩, ⟨[(0, .l (.val (.int .i64)))], []⟩, fun x => slices_Index_string.f k x.1 x.2⟩
noncomputable abbrev Γ (k : Nat) : FuncId → Option Con := look []
abbrev F : Fin Go.Proofs.Tryd.prog := ⟨⟨[(0, .l (.val (.int .i64)))], []⟩, [], [.tmp 4]⟩
abbrev c2 : Cut := ⟨[(0, .l (.val (.list 9 .str))), (1, .l (.val .str)), (7, .l (.val (.int .i64))), (8, .l (.val (.int .i64)))], []⟩
noncomputable abbrev Tl (k : Nat) : List (Nat × Hint (prods F.cout.tys)) := [(2, ⟨c2, fun x => slices_Index_string.l2 k x.1 x.2.1 x.2.2.1 x.2.2.2⟩)]
noncomputable abbrev T (k : Nat) : Nat → Option (Hint (prods F.cout.tys)) := look (Tl k)
noncomputable abbrev body : Code := Go.Proofs.Tryd.f25.body.getD .skip
theorem s2 (k : Nat) (x : prods c2.tys) : slices_Index_string.l2 (k + 1) x.1 x.2.1 x.2.2.1 x.2.2.2 = segK (Γ k) F (T k) body 2 (c2.st x) := by kernel_rfl
theorem main (k : Nat) (x : prods (con 0).cin.tys) : slices_Index_string.f k x.1 x.2 = goK (Γ k) F (T k) 2000 [.code body] ((con 0).cin.st x) := by kernel_rfl
theorem okΓ (k : Nat) : ΓOk Go.Proofs.Tryd.prog (Γ k) := Γnil
theorem ok (k : Nat) : ConSound Go.Proofs.Tryd.prog 25 (con k) := con_sound (Γ := Γ) (fn := Go.Proofs.Tryd.f25) (body := body) (cin := (con 0).cin) (F := F) (T := T) follows (by kernel_rfl) (by kernel_rfl) (by kernel_rfl) (by kernel_rfl) (by kernel_rfl) (by decide +kernel) (by kernel_rfl) (by kernel_rfl) (tzero ⟨fun x => by kernel_rfl, trivial⟩) k (fun m _ => okΓ m) (fun m _ => tstep ⟨fun x => Eq.trans (by kernel_rfl) (s2 m x), trivial⟩) (fun x y h => (main k x).symm.trans h)
end slices_Index_string
namespace slices_Contains_string
noncomputable abbrev con (k : Nat) : Con := ⟨⟨[(0, .l (.val (.list 9 .str))), (1, .l (.val .str))], []⟩, ⟨[(0, .l (.val .bool))], []⟩, fun x => slices_Contains_string.f k x.1 x.2⟩
noncomputable abbrev Γ (k : Nat) : FuncId → Option Con := look [(25, slices_Index_string.con k)]
abbrev F : Fin Go.Proofs.Tryd.prog := ⟨⟨[(0, .l (.val .bool))], []⟩, [], [.tmp 4]⟩
noncomputable abbrev Tl (k : Nat) : List (Nat × Hint (prods F.cout.tys)) := []
noncomputable abbrev T (k : Nat) : Nat → Option (Hint (prods F.cout.tys)) := look (Tl k)
noncomputable abbrev body : Code := Go.Proofs.Tryd.f99.body.getD .skip
theorem main (k : Nat) (x : prods (con 0).cin.tys) : slices_Contains_string.f k x.1 x.2 = goK (Γ k) F (T k) 2000 [.code body] ((con 0).cin.st x) := by kernel_rfl
theorem okΓ (k : Nat) : ΓOk Go.Proofs.Tryd.prog (Γ k) := Γcons (slices_Index_string.ok k) ⟨Go.Proofs.Tryd.f25, by kernel_rfl, by kernel_rfl, by kernel_rfl⟩ (Γnil)
theorem ok (k : Nat) : ConSound Go.Proofs.Tryd.prog 99 (con k) := con_sound (Γ := Γ) (fn := Go.Proofs.Tryd.f99) (body := body) (cin := (con 0).cin) (F := F) (T := T) follows (by kernel_rfl) (by kernel_rfl) (by kernel_rfl) (by kernel_rfl) (by kernel_rfl) (by decide +kernel) (by kernel_rfl) (by kernel_rfl) (tzero trivial) k (fun m _ => okΓ m) (fun m _ => tstep trivial) (fun x y h => (main k x).symm.trans h)
end slices_Contains_string
namespace netmodel_names_add'
noncomputable abbrev con (k : Nat) : Con := ⟨⟨[(0, .l (.ptr 9000000 0)), (1, .l (.val .str))], [(9000000, .box 147 [.row 9000001]), (9000001, .row 9 .str)]⟩, ⟨[(0, .l (.val (.int .i64)))], [(9000000, .box 147 [.row 0]), (9000001, .gone), (0, .row 9 .str)]⟩, fun x => netmodel_names_add'.f k x.1 x.2⟩
noncomputable abbrev Γ (k : Nat) : FuncId → Option Con := look [(98, netmodel_Name.con k), (99, slices_Contains_string.con k)]
abbrev F : Fin Go.Proofs.Tryd.prog := ⟨⟨[(0, .l (.val (.int .i64)))], [(9000000, .box 147 [.row 0]), (9000001, .gone), (0, .row 9 .str)]⟩, [9000000, 9000001], [.tmp 4]⟩
noncomputable abbrev Tl (k : Nat) : List (Nat × Hint (prods F.cout.tys)) := []
noncomputable abbrev T (k : Nat) : Nat → Option (Hint (prods F.cout.tys)) := look (Tl k)
noncomputable abbrev body : Code := Go.Proofs.Tryd.f79.body.getD .skip
theorem main (k : Nat) (x : prods (con 0).cin.tys) : netmodel_names_add'.f k x.1 x.2 = goK (Γ k) F (T k) 2000 [.code body] ((con 0).cin.st x) := by kernel_rfl
theorem okΓ (k : Nat) : ΓOk Go.Proofs.Tryd.prog (Γ k) := Γcons (netmodel_Name.ok k) ⟨Go.Proofs.Tryd.f98, by kernel_rfl, by kernel_rfl, by kernel_rfl⟩ (Γcons (slices_Contains_string.ok k) ⟨Go.Proofs.Tryd.f99, by kernel_rfl, by kernel_rfl, by kernel_rfl⟩ (Γnil))
theorem ok (k : Nat) : ConSound Go.Proofs.Tryd.prog 79 (con k) := con_sound (Γ := Γ) (fn := Go.Proofs.Tryd.f79) (body := body) (cin := (con 0).cin) (F := F) (T := T) follows (by kernel_rfl) (by kernel_rfl) (by kernel_rfl) (by kernel_rfl) (by kernel_rfl) (by decide +kernel) (by kernel_rfl) (by kernel_rfl) (tzero trivial) k (fun m _ => okΓ m) (fun m _ => tstep trivial) (fun x y h => (main k x).symm.trans h)
end netmodel_names_add'
namespace netmodel_ends
noncomputable abbrev con (k : Nat) : Con := ⟨⟨[(0, .av Y26), (1, .l (.val (.list 9 .str)))], []⟩, ⟨[(0, .l (.val (.int .i64)))], []⟩, fun x => netmodel_ends.f k x.1 x.2⟩
noncomputable abbrev Γ (k : Nat) : FuncId → Option Con := look [(99, slices_Contains_string.con k)]
abbrev F : Fin Go.Proofs.Tryd.prog := ⟨⟨[(0, .l (.val (.int .i64)))], []⟩, [], [.tmp 4]⟩
abbrev c2 : Cut := ⟨[(2, .l (.ptr 7000000 0)), (7, .l (.val (.list 9 .str))), (8, .l (.val (.int .i64))), (9, .l (.val (.int .i64)))], [(7000000, .box 52 [.val (.list 9 .str), .val (.list 150 Y3), .val (.list 107 Y11), .val (.list 76 Y13), .val (.list 109 Y15), .val (.list 175 Y13)])]⟩
noncomputable abbrev Tl (k : Nat) : List (Nat × Hint (prods F.cout.tys)) := [(2, ⟨c2, fun x => netmodel_ends.l2 k x.1 x.2.1 x.2.2.1 x.2.2.2.1 x.2.2.2.2.1 x.2.2.2.2.2.1 x.2.2.2.2.2.2.1 x.2.2.2.2.2.2.2.1 x.2.2.2.2.2.2.2.2⟩)]
noncomputable abbrev T (k : Nat) : Nat → Option (Hint (prods F.cout.tys)) := look (Tl k)
noncomputable abbrev body : Code := Go.Proofs.Tryd.f100.body.getD .skip
theorem s2 (k : Nat) (x : prods c2.tys) : netmodel_ends.l2 (k + 1) x.1 x.2.1 x.2.2.1 x.2.2.2.1 x.2.2.2.2.1 x.2.2.2.2.2.1 x.2.2.2.2.2.2.1 x.2.2.2.2.2.2.2.1 x.2.2.2.2.2.2.2.2 = segK (Γ k) F (T k) body 2 (c2.st x) := by kernel_rfl
theorem main (k : Nat) (x : prods (con 0).cin.tys) : netmodel_ends.f k x.1 x.2 = goK (Γ k) F (T k) 2000 [.code body] ((con 0).cin.st x) := by kernel_rfl
theorem okΓ (k : Nat) : ΓOk Go.Proofs.Tryd.prog (Γ k) := Γcons (slices_Contains_string.ok k) ⟨Go.Proofs.Tryd.f99, by kernel_rfl, by kernel_rfl, by kernel_rfl⟩ (Γnil)
theorem ok (k : Nat) : ConSound Go.Proofs.Tryd.prog 100 (con k) := con_sound (Γ := Γ) (fn := Go.Proofs.Tryd.f100) (body := body) (cin := (con 0).cin) (F := F) (T := T) follows (by kernel_rfl) (by kernel_rfl) (by kernel_rfl) (by kernel_rfl) (by kernel_rfl) (by decide +kernel) (by kernel_rfl) (by kernel_rfl) (tzero ⟨fun x => by kernel_rfl, trivial⟩) k (fun m _ => okΓ m) (fun m _ => tstep ⟨fun x => Eq.trans (by kernel_rfl) (s2 m x), trivial⟩) (fun x y h => (main k x).symm.trans h)
end netmodel_ends
namespace netmodel_device
noncomputable abbrev con (k : Nat) : Con := ⟨⟨[(0, .av Y26), (1, .l (.ptr 9000000 0)), (2, .l (.val .str)), (3, .l (.val (.list 9 .str)))], [(9000000, .box 147 [.row 9000001]), (9000001, .row 9 .str)]⟩, ⟨[(0, .l (.val (.int .i64)))], [(9000000, .box 147 [.row 0]), (9000001, .gone), (0, .row 9 .str)]⟩, fun x => netmodel_device.f k x.1 x.2.1 x.2.2.1 x.2.2.2⟩
noncomputable abbrev Γ (k : Nat) : FuncId → Option Con := look [(79, netmodel_names_add'.con k), (100, netmodel_ends.con k)]
abbrev F : Fin Go.Proofs.Tryd.prog := ⟨⟨[(0, .l (.val (.int .i64)))], [(9000000, .box 147 [.row 0]), (9000001, .gone), (0, .row 9 .str)]⟩, [9000000, 9000001], [.tmp 8]⟩
noncomputable abbrev Tl (k : Nat) : List (Nat × Hint (prods F.cout.tys)) := []
noncomputable abbrev T (k : Nat) : Nat → Option (Hint (prods F.cout.tys)) := look (Tl k)
noncomputable abbrev body : Code := Go.Proofs.Tryd.f80.body.getD .skip
theorem main (k : Nat) (x : prods (con 0).cin.tys) : netmodel_device.f k x.1 x.2.1 x.2.2.1 x.2.2.2 = goK (Γ k) F (T k) 2000 [.code body] ((con 0).cin.st x) := by kernel_rfl
theorem okΓ (k : Nat) : ΓOk Go.Proofs.Tryd.prog (Γ k) := Γcons (netmodel_names_add'.ok k) ⟨Go.Proofs.Tryd.f79, by kernel_rfl, by kernel_rfl, by kernel_rfl⟩ (Γcons (netmodel_ends.ok k) ⟨Go.Proofs.Tryd.f100, by kernel_rfl, by kernel_rfl, by kernel_rfl⟩ (Γnil))
theorem ok (k : Nat) : ConSound Go.Proofs.Tryd.prog 80 (con k) := con_sound (Γ := Γ) (fn := Go.Proofs.Tryd.f80) (body := body) (cin := (con 0).cin) (F := F) (T := T) follows (by kernel_rfl) (by kernel_rfl) (by kernel_rfl) (by kernel_rfl) (by kernel_rfl) (by decide +kernel) (by kernel_rfl) (by kernel_rfl) (tzero trivial) k (fun m _ => okΓ m) (fun m _ => tstep trivial) (fun x y h => (main k x).symm.trans h)
end netmodel_device
namespace netmodel_within
noncomputable abbrev con (k : Nat) : Con := ⟨⟨[(0, .l (.val (.int .i64))), (1, .l (.val (.int .i64))), (2, .l (.val (.int .i64)))], []⟩, ⟨[(0, .l (.val .bool))], []⟩, fun x => netmodel_within.f k x.1 x.2.1 x.2.2⟩
noncomputable abbrev Γ (k : Nat) : FuncId → Option Con := look []
abbrev F : Fin Go.Proofs.Tryd.prog := ⟨⟨[(0, .l (.val .bool))], []⟩, [], [.tmp 6]⟩
noncomputable abbrev Tl (k : Nat) : List (Nat × Hint (prods F.cout.tys)) := []
noncomputable abbrev T (k : Nat) : Nat → Option (Hint (prods F.cout.tys)) := look (Tl k)
noncomputable abbrev body : Code := Go.Proofs.Tryd.f101.body.getD .skip
theorem main (k : Nat) (x : prods (con 0).cin.tys) : netmodel_within.f k x.1 x.2.1 x.2.2 = goK (Γ k) F (T k) 2000 [.code body] ((con 0).cin.st x) := by kernel_rfl
theorem okΓ (k : Nat) : ΓOk Go.Proofs.Tryd.prog (Γ k) := Γnil
theorem ok (k : Nat) : ConSound Go.Proofs.Tryd.prog 101 (con k) := con_sound (Γ := Γ) (fn := Go.Proofs.Tryd.f101) (body := body) (cin := (con 0).cin) (F := F) (T := T) follows (by kernel_rfl) (by kernel_rfl) (by kernel_rfl) (by kernel_rfl) (by kernel_rfl) (by decide +kernel) (by kernel_rfl) (by kernel_rfl) (tzero trivial) k (fun m _ => okΓ m) (fun m _ => tstep trivial) (fun x y h => (main k x).symm.trans h)
end netmodel_within
namespace netmodel_Branch
noncomputable abbrev con (k : Nat) : Con := ⟨⟨[(0, .av Y11)], []⟩, ⟨[(0, .l (.val (.int .i64)))], []⟩, fun x => netmodel_Branch.f k x⟩
noncomputable abbrev Γ (k : Nat) : FuncId → Option Con := look [(101, netmodel_within.con k)]
abbrev F : Fin Go.Proofs.Tryd.prog := ⟨⟨[(0, .l (.val (.int .i64)))], []⟩, [], [.tmp 2]⟩
noncomputable abbrev Tl (k : Nat) : List (Nat × Hint (prods F.cout.tys)) := []
noncomputable abbrev T (k : Nat) : Nat → Option (Hint (prods F.cout.tys)) := look (Tl k)
noncomputable abbrev body : Code := Go.Proofs.Tryd.f81.body.getD .skip
theorem main (k : Nat) (x : prods (con 0).cin.tys) : netmodel_Branch.f k x = goK (Γ k) F (T k) 2000 [.code body] ((con 0).cin.st x) := by kernel_rfl
theorem okΓ (k : Nat) : ΓOk Go.Proofs.Tryd.prog (Γ k) := Γcons (netmodel_within.ok k) ⟨Go.Proofs.Tryd.f101, by kernel_rfl, by kernel_rfl, by kernel_rfl⟩ (Γnil)
theorem ok (k : Nat) : ConSound Go.Proofs.Tryd.prog 81 (con k) := con_sound (Γ := Γ) (fn := Go.Proofs.Tryd.f81) (body := body) (cin := (con 0).cin) (F := F) (T := T) follows (by kernel_rfl) (by kernel_rfl) (by kernel_rfl) (by kernel_rfl) (by kernel_rfl) (by decide +kernel) (by kernel_rfl) (by kernel_rfl) (tzero trivial) k (fun m _ => okΓ m) (fun m _ => tstep trivial) (fun x y h => (main k x).symm.trans h)
end netmodel_Branch
namespace netmodel_sources
noncomputable abbrev con (k : Nat) : Con := ⟨⟨[(0, .av Y26), (1, .l (.ptr 9000000 0))], [(9000000, .box 147 [.row 9000001]), (9000001, .row 9 .str)]⟩, ⟨[(0, .l (.val (.int .i64)))], [(9000000, .box 147 [.row 0]), (9000001, .gone), (0, .row 9 .str)]⟩, fun x => netmodel_sources.f k x.1 x.2⟩
noncomputable abbrev Γ (k : Nat) : FuncId → Option Con := look [(80, netmodel_device.con k), (101, netmodel_within.con k)]
abbrev F : Fin Go.Proofs.Tryd.prog := ⟨⟨[(0, .l (.val (.int .i64)))], [(9000000, .box 147 [.row 0]), (9000001, .gone), (0, .row 9 .str)]⟩, [9000000, 9000001], [.tmp 4]⟩
abbrev c2 : Cut := ⟨[(1, .l (.ptr 9000000 0)), (2, .l (.ptr 7000000 0)), (15, .l (.val (.list 76 Y13))), (16, .l (.val (.int .i64))), (17, .l (.val (.int .i64)))], [(9000000, .box 147 [.row 7000001]), (9000001, .gone), (7000000, .box 52 [.val (.list 9 .str), .val (.list 150 Y3), .val (.list 107 Y11), .val (.list 76 Y13), .val (.list 109 Y15), .val (.list 175 Y13)]), (7000001, .row 9 .str)]⟩
abbrev c11 : Cut := ⟨[(1, .l (.ptr 9000000 0)), (2, .l (.ptr 7000000 0)), (52, .l (.val (.list 109 Y15))), (53, .l (.val (.int .i64))), (54, .l (.val (.int .i64)))], [(9000000, .box 147 [.row 7000001]), (9000001, .gone), (7000000, .box 52 [.val (.list 9 .str), .val (.list 150 Y3), .val (.list 107 Y11), .val (.list 76 Y13), .val (.list 109 Y15), .val (.list 175 Y13)]), (7000001, .row 9 .str)]⟩
abbrev c20 : Cut := ⟨[(1, .l (.ptr 9000000 0)), (2, .l (.ptr 7000000 0)), (75, .l (.val (.list 175 Y13))), (76, .l (.val (.int .i64))), (77, .l (.val (.int .i64)))], [(9000000, .box 147 [.row 7000001]), (9000001, .gone), (7000000, .box 52 [.val (.list 9 .str), .val (.list 150 Y3), .val (.list 107 Y11), .val (.list 76 Y13), .val (.list 109 Y15), .val (.list 175 Y13)]), (7000001, .row 9 .str)]⟩
noncomputable abbrev Tl (k : Nat) : List (Nat × Hint (prods F.cout.tys)) := [(2, ⟨c2, fun x => netmodel_sources.l2 k x.1 x.2.1 x.2.2.1 x.2.2.2.1 x.2.2.2.2.1 x.2.2.2.2.2.1 x.2.2.2.2.2.2.1 x.2.2.2.2.2.2.2.1 x.2.2.2.2.2.2.2.2.1 x.2.2.2.2.2.2.2.2.2⟩), (11, ⟨c11, fun x => netmodel_sources.l11 k x.1 x.2.1 x.2.2.1 x.2.2.2.1 x.2.2.2.2.1 x.2.2.2.2.2.1 x.2.2.2.2.2.2.1 x.2.2.2.2.2.2.2.1 x.2.2.2.2.2.2.2.2.1 x.2.2.2.2.2.2.2.2.2⟩), (20, ⟨c20, fun x => netmodel_sources.l20 k x.1 x.2.1 x.2.2.1 x.2.2.2.1 x.2.2.2.2.1 x.2.2.2.2.2.1 x.2.2.2.2.2.2.1 x.2.2.2.2.2.2.2.1 x.2.2.2.2.2.2.2.2.1 x.2.2.2.2.2.2.2.2.2⟩)]
noncomputable abbrev T (k : Nat) : Nat → Option (Hint (prods F.cout.tys)) := look (Tl k)
noncomputable abbrev body : Code := Go.Proofs.Tryd.f82.body.getD .skip
theorem s2 (k : Nat) (x : prods c2.tys) : netmodel_sources.l2 (k + 1) x.1 x.2.1 x.2.2.1 x.2.2.2.1 x.2.2.2.2.1 x.2.2.2.2.2.1 x.2.2.2.2.2.2.1 x.2.2.2.2.2.2.2.1 x.2.2.2.2.2.2.2.2.1 x.2.2.2.2.2.2.2.2.2 = segK (Γ k) F (T k) body 2 (c2.st x) := by kernel_rfl
theorem s11 (k : Nat) (x : prods c11.tys) : netmodel_sources.l11 (k + 1) x.1 x.2.1 x.2.2.1 x.2.2.2.1 x.2.2.2.2.1 x.2.2.2.2.2.1 x.2.2.2.2.2.2.1 x.2.2.2.2.2.2.2.1 x.2.2.2.2.2.2.2.2.1 x.2.2.2.2.2.2.2.2.2 = segK (Γ k) F (T k) body 11 (c11.st x) := by kernel_rfl
theorem s20 (k : Nat) (x : prods c20.tys) : netmodel_sources.l20 (k + 1) x.1 x.2.1 x.2.2.1 x.2.2.2.1 x.2.2.2.2.1 x.2.2.2.2.2.1 x.2.2.2.2.2.2.1 x.2.2.2.2.2.2.2.1 x.2.2.2.2.2.2.2.2.1 x.2.2.2.2.2.2.2.2.2 = segK (Γ k) F (T k) body 20 (c20.st x) := by kernel_rfl
theorem main (k : Nat) (x : prods (con 0).cin.tys) : netmodel_sources.f k x.1 x.2 = goK (Γ k) F (T k) 2000 [.code body] ((con 0).cin.st x) := by kernel_rfl
theorem okΓ (k : Nat) : ΓOk Go.Proofs.Tryd.prog (Γ k) := Γcons (netmodel_device.ok k) ⟨Go.Proofs.Tryd.f80, by kernel_rfl, by kernel_rfl, by kernel_rfl⟩ (Γcons (netmodel_within.ok k) ⟨Go.Proofs.Tryd.f101, by kernel_rfl, by kernel_rfl, by kernel_rfl⟩ (Γnil))
theorem ok (k : Nat) : ConSound Go.Proofs.Tryd.prog 82 (con k) := con_sound (Γ := Γ) (fn := Go.Proofs.Tryd.f82) (body := body) (cin := (con 0).cin) (F := F) (T := T) follows (by kernel_rfl) (by kernel_rfl) (by kernel_rfl) (by kernel_rfl) (by kernel_rfl) (by decide +kernel) (by kernel_rfl) (by kernel_rfl) (tzero ⟨fun x => by kernel_rfl, fun x => by kernel_rfl, fun x => by kernel_rfl, trivial⟩) k (fun m _ => okΓ m) (fun m _ => tstep ⟨fun x => Eq.trans (by kernel_rfl) (s2 m x), fun x => Eq.trans (by kernel_rfl) (s11 m x), fun x => Eq.trans (by kernel_rfl) (s20 m x), trivial⟩) (fun x y h => (main k x).symm.trans h)
end netmodel_sources
namespace netmodel_Check
noncomputable abbrev con (k : Nat) : Con := ⟨⟨[(0, .av Y26)], []⟩, ⟨[(0, .l (.val (.int .i64)))], []⟩, fun x => netmodel_Check.f k x⟩
noncomputable abbrev Γ (k : Nat) : FuncId → Option Con := look [(78, netmodel_sizes.con k), (79, netmodel_names_add'.con k), (80, netmodel_device.con k), (81, netmodel_Branch.con k), (82, netmodel_sources.con k)]
abbrev F : Fin Go.Proofs.Tryd.prog := ⟨⟨[(0, .l (.val (.int .i64)))], []⟩, [], [.tmp 2]⟩
abbrev c6 : Cut := ⟨[(1, .l (.ptr 7000000 0)), (4, .l (.ptr 7000001 0)), (21, .l (.val (.list 9 .str))), (22, .l (.val (.int .i64))), (23, .l (.val (.int .i64)))], [(7000000, .box 52 [.val (.list 9 .str), .val (.list 150 Y3), .val (.list 107 Y11), .val (.list 76 Y13), .val (.list 109 Y15), .val (.list 175 Y13)]), (7000001, .box 147 [.row 7000502]), (7000502, .row 9 .str)]⟩
abbrev c13 : Cut := ⟨[(1, .l (.ptr 7000000 0)), (4, .l (.ptr 7000001 0)), (34, .l (.val (.list 150 Y3))), (35, .l (.val (.int .i64))), (36, .l (.val (.int .i64)))], [(7000000, .box 52 [.val (.list 9 .str), .val (.list 150 Y3), .val (.list 107 Y11), .val (.list 76 Y13), .val (.list 109 Y15), .val (.list 175 Y13)]), (7000001, .box 147 [.row 7000002]), (7000002, .row 9 .str)]⟩
abbrev c22 : Cut := ⟨[(1, .l (.ptr 7000000 0)), (4, .l (.ptr 7000001 0)), (59, .l (.val (.list 107 Y11))), (60, .l (.val (.int .i64))), (61, .l (.val (.int .i64)))], [(7000000, .box 52 [.val (.list 9 .str), .val (.list 150 Y3), .val (.list 107 Y11), .val (.list 76 Y13), .val (.list 109 Y15), .val (.list 175 Y13)]), (7000001, .box 147 [.row 7000002]), (7000002, .row 9 .str)]⟩
noncomputable abbrev Tl (k : Nat) : List (Nat × Hint (prods F.cout.tys)) := [(6, ⟨c6, fun x => netmodel_Check.l6 k x.1 x.2.1 x.2.2.1 x.2.2.2.1 x.2.2.2.2.1 x.2.2.2.2.2.1 x.2.2.2.2.2.2.1 x.2.2.2.2.2.2.2.1 x.2.2.2.2.2.2.2.2.1 x.2.2.2.2.2.2.2.2.2⟩), (13, ⟨c13, fun x => netmodel_Check.l13 k x.1 x.2.1 x.2.2.1 x.2.2.2.1 x.2.2.2.2.1 x.2.2.2.2.2.1 x.2.2.2.2.2.2.1 x.2.2.2.2.2.2.2.1 x.2.2.2.2.2.2.2.2.1 x.2.2.2.2.2.2.2.2.2⟩), (22, ⟨c22, fun x => netmodel_Check.l22 k x.1 x.2.1 x.2.2.1 x.2.2.2.1 x.2.2.2.2.1 x.2.2.2.2.2.1 x.2.2.2.2.2.2.1 x.2.2.2.2.2.2.2.1 x.2.2.2.2.2.2.2.2.1 x.2.2.2.2.2.2.2.2.2⟩)]
noncomputable abbrev T (k : Nat) : Nat → Option (Hint (prods F.cout.tys)) := look (Tl k)
noncomputable abbrev body : Code := Go.Proofs.Tryd.f54.body.getD .skip
theorem s6 (k : Nat) (x : prods c6.tys) : netmodel_Check.l6 (k + 1) x.1 x.2.1 x.2.2.1 x.2.2.2.1 x.2.2.2.2.1 x.2.2.2.2.2.1 x.2.2.2.2.2.2.1 x.2.2.2.2.2.2.2.1 x.2.2.2.2.2.2.2.2.1 x.2.2.2.2.2.2.2.2.2 = segK (Γ k) F (T k) body 6 (c6.st x) := by kernel_rfl
theorem s13 (k : Nat) (x : prods c13.tys) : netmodel_Check.l13 (k + 1) x.1 x.2.1 x.2.2.1 x.2.2.2.1 x.2.2.2.2.1 x.2.2.2.2.2.1 x.2.2.2.2.2.2.1 x.2.2.2.2.2.2.2.1 x.2.2.2.2.2.2.2.2.1 x.2.2.2.2.2.2.2.2.2 = segK (Γ k) F (T k) body 13 (c13.st x) := by kernel_rfl
theorem s22 (k : Nat) (x : prods c22.tys) : netmodel_Check.l22 (k + 1) x.1 x.2.1 x.2.2.1 x.2.2.2.1 x.2.2.2.2.1 x.2.2.2.2.2.1 x.2.2.2.2.2.2.1 x.2.2.2.2.2.2.2.1 x.2.2.2.2.2.2.2.2.1 x.2.2.2.2.2.2.2.2.2 = segK (Γ k) F (T k) body 22 (c22.st x) := by kernel_rfl
theorem main (k : Nat) (x : prods (con 0).cin.tys) : netmodel_Check.f k x = goK (Γ k) F (T k) 2000 [.code body] ((con 0).cin.st x) := by kernel_rfl
theorem okΓ (k : Nat) : ΓOk Go.Proofs.Tryd.prog (Γ k) := Γcons (netmodel_sizes.ok k) ⟨Go.Proofs.Tryd.f78, by kernel_rfl, by kernel_rfl, by kernel_rfl⟩ (Γcons (netmodel_names_add'.ok k) ⟨Go.Proofs.Tryd.f79, by kernel_rfl, by kernel_rfl, by kernel_rfl⟩ (Γcons (netmodel_device.ok k) ⟨Go.Proofs.Tryd.f80, by kernel_rfl, by kernel_rfl, by kernel_rfl⟩ (Γcons (netmodel_Branch.ok k) ⟨Go.Proofs.Tryd.f81, by kernel_rfl, by kernel_rfl, by kernel_rfl⟩ (Γcons (netmodel_sources.ok k) ⟨Go.Proofs.Tryd.f82, by kernel_rfl, by kernel_rfl, by kernel_rfl⟩ (Γnil)))))
theorem ok (k : Nat) : ConSound Go.Proofs.Tryd.prog 54 (con k) := con_sound (Γ := Γ) (fn := Go.Proofs.Tryd.f54) (body := body) (cin := (con 0).cin) (F := F) (T := T) follows (by kernel_rfl) (by kernel_rfl) (by kernel_rfl) (by kernel_rfl) (by kernel_rfl) (by decide +kernel) (by kernel_rfl) (by kernel_rfl) (tzero ⟨fun x => by kernel_rfl, fun x => by kernel_rfl, fun x => by kernel_rfl, trivial⟩) k (fun m _ => okΓ m) (fun m _ => tstep ⟨fun x => Eq.trans (by kernel_rfl) (s6 m x), fun x => Eq.trans (by kernel_rfl) (s13 m x), fun x => Eq.trans (by kernel_rfl) (s22 m x), trivial⟩) (fun x y h => (main k x).symm.trans h)
end netmodel_Check
namespace netmodel_Node
noncomputable abbrev con (k : Nat) : Con := ⟨⟨[(0, .av Y26), (1, .l (.val .str))], []⟩, ⟨[(0, .l (.val (.int .i64))), (1, .l (.val (.int .i64)))], []⟩, fun x => netmodel_Node.f k x.1 x.2⟩
noncomputable abbrev Γ (k : Nat) : FuncId → Option Con := look [(25, slices_Index_string.con k), (54, netmodel_Check.con k)]
abbrev F : Fin Go.Proofs.Tryd.prog := ⟨⟨[(0, .l (.val (.int .i64))), (1, .l (.val (.int .i64)))], []⟩, [], [.tmp 4, .tmp 5]⟩
noncomputable abbrev Tl (k : Nat) : List (Nat × Hint (prods F.cout.tys)) := []
noncomputable abbrev T (k : Nat) : Nat → Option (Hint (prods F.cout.tys)) := look (Tl k)
noncomputable abbrev body : Code := Go.Proofs.Tryd.f75.body.getD .skip
theorem main (k : Nat) (x : prods (con 0).cin.tys) : netmodel_Node.f k x.1 x.2 = goK (Γ k) F (T k) 2000 [.code body] ((con 0).cin.st x) := by kernel_rfl
theorem okΓ (k : Nat) : ΓOk Go.Proofs.Tryd.prog (Γ k) := Γcons (slices_Index_string.ok k) ⟨Go.Proofs.Tryd.f25, by kernel_rfl, by kernel_rfl, by kernel_rfl⟩ (Γcons (netmodel_Check.ok k) ⟨Go.Proofs.Tryd.f54, by kernel_rfl, by kernel_rfl, by kernel_rfl⟩ (Γnil))
theorem ok (k : Nat) : ConSound Go.Proofs.Tryd.prog 75 (con k) := con_sound (Γ := Γ) (fn := Go.Proofs.Tryd.f75) (body := body) (cin := (con 0).cin) (F := F) (T := T) follows (by kernel_rfl) (by kernel_rfl) (by kernel_rfl) (by kernel_rfl) (by kernel_rfl) (by decide +kernel) (by kernel_rfl) (by kernel_rfl) (tzero trivial) k (fun m _ => okΓ m) (fun m _ => tstep trivial) (fun x y h => (main k x).symm.trans h)
end netmodel_Node
namespace rights_Check
noncomputable abbrev con (k : Nat) : Con := ⟨⟨[(0, .av Y26), (1, .l (.val (.list 54 Y15)))], []⟩, ⟨[(0, .l (.val (.int .i64)))], []⟩, fun x => rights_Check.f k x.1 x.2⟩
noncomputable abbrev Γ (k : Nat) : FuncId → Option Con := look [(54, netmodel_Check.con k), (75, netmodel_Node.con k)]
abbrev F : Fin Go.Proofs.Tryd.prog := ⟨⟨[(0, .l (.val (.int .i64)))], []⟩, [], [.tmp 4]⟩
abbrev c7 : Cut := ⟨[(2, .l (.ptr 7000000 0)), (20, .l (.val (.list 54 Y15))), (21, .l (.val (.int .i64))), (22, .l (.val (.int .i64)))], [(7000000, .box 52 [.val (.list 9 .str), .val (.list 150 Y3), .val (.list 107 Y11), .val (.list 76 Y13), .val (.list 109 Y15), .val (.list 175 Y13)])]⟩
abbrev c10 : Cut := ⟨[(2, .l (.ptr 7000000 0)), (7, .l (.ptr 7000001 0)), (20, .l (.val (.list 54 Y15))), (21, .l (.val (.int .i64))), (22, .l (.val (.int .i64))), (30, .av Y28), (31, .l (.val (.int .i64)))], [(7000000, .box 52 [.val (.list 9 .str), .val (.list 150 Y3), .val (.list 107 Y11), .val (.list 76 Y13), .val (.list 109 Y15), .val (.list 175 Y13)]), (7000001, .box 54 [.val .str, .val .str, .val (.int .i64)])]⟩
noncomputable abbrev Tl (k : Nat) : List (Nat × Hint (prods F.cout.tys)) := [(7, ⟨c7, fun x => rights_Check.l7 k x.1 x.2.1 x.2.2.1 x.2.2.2.1 x.2.2.2.2.1 x.2.2.2.2.2.1 x.2.2.2.2.2.2.1 x.2.2.2.2.2.2.2.1 x.2.2.2.2.2.2.2.2⟩), (10, ⟨c10, fun x => rights_Check.l10 k x.1 x.2.1 x.2.2.1 x.2.2.2.1 x.2.2.2.2.1 x.2.2.2.2.2.1 x.2.2.2.2.2.2.1 x.2.2.2.2.2.2.2.1 x.2.2.2.2.2.2.2.2.1 x.2.2.2.2.2.2.2.2.2.1 x.2.2.2.2.2.2.2.2.2.2.1 x.2.2.2.2.2.2.2.2.2.2.2.1 x.2.2.2.2.2.2.2.2.2.2.2.2.1 x.2.2.2.2.2.2.2.2.2.2.2.2.2⟩)]
noncomputable abbrev T (k : Nat) : Nat → Option (Hint (prods F.cout.tys)) := look (Tl k)
noncomputable abbrev body : Code := Go.Proofs.Tryd.f49.body.getD .skip
theorem s7 (k : Nat) (x : prods c7.tys) : rights_Check.l7 (k + 1) x.1 x.2.1 x.2.2.1 x.2.2.2.1 x.2.2.2.2.1 x.2.2.2.2.2.1 x.2.2.2.2.2.2.1 x.2.2.2.2.2.2.2.1 x.2.2.2.2.2.2.2.2 = segK (Γ k) F (T k) body 7 (c7.st x) := by kernel_rfl
theorem s10 (k : Nat) (x : prods c10.tys) : rights_Check.l10 (k + 1) x.1 x.2.1 x.2.2.1 x.2.2.2.1 x.2.2.2.2.1 x.2.2.2.2.2.1 x.2.2.2.2.2.2.1 x.2.2.2.2.2.2.2.1 x.2.2.2.2.2.2.2.2.1 x.2.2.2.2.2.2.2.2.2.1 x.2.2.2.2.2.2.2.2.2.2.1 x.2.2.2.2.2.2.2.2.2.2.2.1 x.2.2.2.2.2.2.2.2.2.2.2.2.1 x.2.2.2.2.2.2.2.2.2.2.2.2.2 = segK (Γ k) F (T k) body 10 (c10.st x) := by kernel_rfl
theorem main (k : Nat) (x : prods (con 0).cin.tys) : rights_Check.f k x.1 x.2 = goK (Γ k) F (T k) 2000 [.code body] ((con 0).cin.st x) := by kernel_rfl
theorem okΓ (k : Nat) : ΓOk Go.Proofs.Tryd.prog (Γ k) := Γcons (netmodel_Check.ok k) ⟨Go.Proofs.Tryd.f54, by kernel_rfl, by kernel_rfl, by kernel_rfl⟩ (Γcons (netmodel_Node.ok k) ⟨Go.Proofs.Tryd.f75, by kernel_rfl, by kernel_rfl, by kernel_rfl⟩ (Γnil))
theorem ok (k : Nat) : ConSound Go.Proofs.Tryd.prog 49 (con k) := con_sound (Γ := Γ) (fn := Go.Proofs.Tryd.f49) (body := body) (cin := (con 0).cin) (F := F) (T := T) follows (by kernel_rfl) (by kernel_rfl) (by kernel_rfl) (by kernel_rfl) (by kernel_rfl) (by decide +kernel) (by kernel_rfl) (by kernel_rfl) (tzero ⟨fun x => by kernel_rfl, fun x => by kernel_rfl, trivial⟩) k (fun m _ => okΓ m) (fun m _ => tstep ⟨fun x => Eq.trans (by kernel_rfl) (s7 m x), fun x => Eq.trans (by kernel_rfl) (s10 m x), trivial⟩) (fun x y h => (main k x).symm.trans h)
end rights_Check
namespace station_Edges
noncomputable abbrev con (k : Nat) : Con := ⟨⟨[(0, .av Y26)], []⟩, ⟨[(0, .l (.val (.list 188 Y4)))], []⟩, fun x => station_Edges.f k x⟩
noncomputable abbrev Γ (k : Nat) : FuncId → Option Con := look [(25, slices_Index_string.con k)]
abbrev F : Fin Go.Proofs.Tryd.prog := ⟨⟨[(0, .l (.val (.list 188 Y4)))], []⟩, [], [.tmp 2]⟩
abbrev c3 : Cut := ⟨[(1, .l (.ptr 7000000 0)), (3, .l (.row 7000501)), (7, .l (.val (.list 150 Y3))), (8, .l (.val (.int .i64))), (9, .l (.val (.int .i64)))], [(7000000, .box 52 [.val (.list 9 .str), .val (.list 150 Y3), .val (.list 107 Y11), .val (.list 76 Y13), .val (.list 109 Y15), .val (.list 175 Y13)]), (7000501, .row 188 Y4)]⟩
noncomputable abbrev Tl (k : Nat) : List (Nat × Hint (prods F.cout.tys)) := [(3, ⟨c3, fun x => station_Edges.l3 k x.1 x.2.1 x.2.2.1 x.2.2.2.1 x.2.2.2.2.1 x.2.2.2.2.2.1 x.2.2.2.2.2.2.1 x.2.2.2.2.2.2.2.1 x.2.2.2.2.2.2.2.2.1 x.2.2.2.2.2.2.2.2.2⟩)]
noncomputable abbrev T (k : Nat) : Nat → Option (Hint (prods F.cout.tys)) := look (Tl k)
noncomputable abbrev body : Code := Go.Proofs.Tryd.f109.body.getD .skip
theorem s3 (k : Nat) (x : prods c3.tys) : station_Edges.l3 (k + 1) x.1 x.2.1 x.2.2.1 x.2.2.2.1 x.2.2.2.2.1 x.2.2.2.2.2.1 x.2.2.2.2.2.2.1 x.2.2.2.2.2.2.2.1 x.2.2.2.2.2.2.2.2.1 x.2.2.2.2.2.2.2.2.2 = segK (Γ k) F (T k) body 3 (c3.st x) := by kernel_rfl
theorem main (k : Nat) (x : prods (con 0).cin.tys) : station_Edges.f k x = goK (Γ k) F (T k) 2000 [.code body] ((con 0).cin.st x) := by kernel_rfl
theorem okΓ (k : Nat) : ΓOk Go.Proofs.Tryd.prog (Γ k) := Γcons (slices_Index_string.ok k) ⟨Go.Proofs.Tryd.f25, by kernel_rfl, by kernel_rfl, by kernel_rfl⟩ (Γnil)
theorem ok (k : Nat) : ConSound Go.Proofs.Tryd.prog 109 (con k) := con_sound (Γ := Γ) (fn := Go.Proofs.Tryd.f109) (body := body) (cin := (con 0).cin) (F := F) (T := T) follows (by kernel_rfl) (by kernel_rfl) (by kernel_rfl) (by kernel_rfl) (by kernel_rfl) (by decide +kernel) (by kernel_rfl) (by kernel_rfl) (tzero ⟨fun x => by kernel_rfl, trivial⟩) k (fun m _ => okΓ m) (fun m _ => tstep ⟨fun x => Eq.trans (by kernel_rfl) (s3 m x), trivial⟩) (fun x y h => (main k x).symm.trans h)
end station_Edges
namespace bits_Mul64
noncomputable abbrev con (k : Nat) : Con := ⟨⟨[(0, .l (.val (.int .u64))), (1, .l (.val (.int .u64)))], []⟩, ⟨[(0, .l (.val (.int .u64))), (1, .l (.val (.int .u64)))], []⟩, fun x => bits_Mul64.f k x.1 x.2⟩
noncomputable abbrev Γ (k : Nat) : FuncId → Option Con := look []
abbrev F : Fin Go.Proofs.Tryd.prog := ⟨⟨[(0, .l (.val (.int .u64))), (1, .l (.val (.int .u64)))], []⟩, [], [.tmp 4, .tmp 5]⟩
noncomputable abbrev Tl (k : Nat) : List (Nat × Hint (prods F.cout.tys)) := []
noncomputable abbrev T (k : Nat) : Nat → Option (Hint (prods F.cout.tys)) := look (Tl k)
noncomputable abbrev body : Code := Go.Proofs.Tryd.f126.body.getD .skip
theorem main (k : Nat) (x : prods (con 0).cin.tys) : bits_Mul64.f k x.1 x.2 = goK (Γ k) F (T k) 2000 [.code body] ((con 0).cin.st x) := by kernel_rfl
theorem okΓ (k : Nat) : ΓOk Go.Proofs.Tryd.prog (Γ k) := Γnil
theorem ok (k : Nat) : ConSound Go.Proofs.Tryd.prog 126 (con k) := con_sound (Γ := Γ) (fn := Go.Proofs.Tryd.f126) (body := body) (cin := (con 0).cin) (F := F) (T := T) follows (by kernel_rfl) (by kernel_rfl) (by kernel_rfl) (by kernel_rfl) (by kernel_rfl) (by decide +kernel) (by kernel_rfl) (by kernel_rfl) (tzero trivial) k (fun m _ => okΓ m) (fun m _ => tstep trivial) (fun x y h => (main k x).symm.trans h)
end bits_Mul64
namespace bits_Mul
noncomputable abbrev con (k : Nat) : Con := ⟨⟨[(0, .l (.val (.int .u64))), (1, .l (.val (.int .u64)))], []⟩, ⟨[(0, .l (.val (.int .u64))), (1, .l (.val (.int .u64)))], []⟩, fun x => bits_Mul.f k x.1 x.2⟩
noncomputable abbrev Γ (k : Nat) : FuncId → Option Con := look [(126, bits_Mul64.con k)]
abbrev F : Fin Go.Proofs.Tryd.prog := ⟨⟨[(0, .l (.val (.int .u64))), (1, .l (.val (.int .u64)))], []⟩, [], [.tmp 4, .tmp 5]⟩
noncomputable abbrev Tl (k : Nat) : List (Nat × Hint (prods F.cout.tys)) := []
noncomputable abbrev T (k : Nat) : Nat → Option (Hint (prods F.cout.tys)) := look (Tl k)
noncomputable abbrev body : Code := Go.Proofs.Tryd.f120.body.getD .skip
theorem main (k : Nat) (x : prods (con 0).cin.tys) : bits_Mul.f k x.1 x.2 = goK (Γ k) F (T k) 2000 [.code body] ((con 0).cin.st x) := by kernel_rfl
theorem okΓ (k : Nat) : ΓOk Go.Proofs.Tryd.prog (Γ k) := Γcons (bits_Mul64.ok k) ⟨Go.Proofs.Tryd.f126, by kernel_rfl, by kernel_rfl, by kernel_rfl⟩ (Γnil)
theorem ok (k : Nat) : ConSound Go.Proofs.Tryd.prog 120 (con k) := con_sound (Γ := Γ) (fn := Go.Proofs.Tryd.f120) (body := body) (cin := (con 0).cin) (F := F) (T := T) follows (by kernel_rfl) (by kernel_rfl) (by kernel_rfl) (by kernel_rfl) (by kernel_rfl) (by decide +kernel) (by kernel_rfl) (by kernel_rfl) (tzero trivial) k (fun m _ => okΓ m) (fun m _ => tstep trivial) (fun x y h => (main k x).symm.trans h)
end bits_Mul
namespace slices_Repeat_int
noncomputable abbrev con (k : Nat) : Con := ⟨⟨[(0, .l (.val (.list 3 (.int .i64)))), (1, .l (.val (.int .i64)))], []⟩, ⟨[(0, .l (.row 0))], [(0, .row 3 (.int .i64))]⟩, fun x => slices_Repeat_int.f k x.1 x.2⟩
noncomputable abbrev Γ (k : Nat) : FuncId → Option Con := look [(120, bits_Mul.con k)]
abbrev F : Fin Go.Proofs.Tryd.prog := ⟨⟨[(0, .l (.row 0))], [(0, .row 3 (.int .i64))]⟩, [], [.tmp 4]⟩
abbrev c3 : Cut := ⟨[(0, .l (.val (.list 3 (.int .i64)))), (1, .l (.val (.int .i64)))], []⟩
abbrev c6 : Cut := ⟨[(0, .l (.val (.list 3 (.int .i64)))), (6, .l (.val (.int .u64)))], []⟩
abbrev c8 : Cut := ⟨[(7, .l (.row 7000000)), (8, .l (.val (.int .i64)))], [(7000000, .row 3 (.int .i64))]⟩
noncomputable abbrev Tl (k : Nat) : List (Nat × Hint (prods F.cout.tys)) := [(3, ⟨c3, fun x => slices_Repeat_int.l3 k x.1 x.2⟩), (6, ⟨c6, fun x => slices_Repeat_int.l6 k x.1 x.2⟩), (8, ⟨c8, fun x => slices_Repeat_int.l8 k x.1 x.2⟩)]
noncomputable abbrev T (k : Nat) : Nat → Option (Hint (prods F.cout.tys)) := look (Tl k)
noncomputable abbrev body : Code := Go.Proofs.Tryd.f111.body.getD .skip
theorem s3 (k : Nat) (x : prods c3.tys) : slices_Repeat_int.l3 (k + 1) x.1 x.2 = segK (Γ k) F (T k) body 3 (c3.st x) := by kernel_rfl
theorem s6 (k : Nat) (x : prods c6.tys) : slices_Repeat_int.l6 (k + 1) x.1 x.2 = segK (Γ k) F (T k) body 6 (c6.st x) := by kernel_rfl
theorem s8 (k : Nat) (x : prods c8.tys) : slices_Repeat_int.l8 (k + 1) x.1 x.2 = segK (Γ k) F (T k) body 8 (c8.st x) := by kernel_rfl
theorem main (k : Nat) (x : prods (con 0).cin.tys) : slices_Repeat_int.f k x.1 x.2 = goK (Γ k) F (T k) 2000 [.code body] ((con 0).cin.st x) := by kernel_rfl
theorem okΓ (k : Nat) : ΓOk Go.Proofs.Tryd.prog (Γ k) := Γcons (bits_Mul.ok k) ⟨Go.Proofs.Tryd.f120, by kernel_rfl, by kernel_rfl, by kernel_rfl⟩ (Γnil)
theorem ok (k : Nat) : ConSound Go.Proofs.Tryd.prog 111 (con k) := con_sound (Γ := Γ) (fn := Go.Proofs.Tryd.f111) (body := body) (cin := (con 0).cin) (F := F) (T := T) follows (by kernel_rfl) (by kernel_rfl) (by kernel_rfl) (by kernel_rfl) (by kernel_rfl) (by decide +kernel) (by kernel_rfl) (by kernel_rfl) (tzero ⟨fun x => by kernel_rfl, fun x => by kernel_rfl, fun x => by kernel_rfl, trivial⟩) k (fun m _ => okΓ m) (fun m _ => tstep ⟨fun x => Eq.trans (by kernel_rfl) (s3 m x), fun x => Eq.trans (by kernel_rfl) (s6 m x), fun x => Eq.trans (by kernel_rfl) (s8 m x), trivial⟩) (fun x y h => (main k x).symm.trans h)
end slices_Repeat_int
namespace station_Buses_1
noncomputable abbrev con (k : Nat) : Con := ⟨⟨[(0, .l (.val (.int .i64))), (1, .l (.ptr 9000000 0))], [(9000000, .box 52 [.val (.list 9 .str), .val (.list 150 Y3), .val (.list 107 Y11), .val (.list 76 Y13), .val (.list 109 Y15), .val (.list 175 Y13)])]⟩, ⟨[(0, .l (.val .bool))], [(9000000, .box 52 [.val (.list 9 .str), .val (.list 150 Y3), .val (.list 107 Y11), .val (.list 76 Y13), .val (.list 109 Y15), .val (.list 175 Y13)])]⟩, fun x => station_Buses_1.f k x.1 x.2.1 x.2.2.1 x.2.2.2.1 x.2.2.2.2.1 x.2.2.2.2.2.1 x.2.2.2.2.2.2⟩
noncomputable abbrev Γ (k : Nat) : FuncId → Option Con := look []
abbrev F : Fin Go.Proofs.Tryd.prog := ⟨⟨[(0, .l (.val .bool))], [(9000000, .box 52 [.val (.list 9 .str), .val (.list 150 Y3), .val (.list 107 Y11), .val (.list 76 Y13), .val (.list 109 Y15), .val (.list 175 Y13)])]⟩, [9000000], [.tmp 3]⟩
noncomputable abbrev Tl (k : Nat) : List (Nat × Hint (prods F.cout.tys)) := []
noncomputable abbrev T (k : Nat) : Nat → Option (Hint (prods F.cout.tys)) := look (Tl k)
noncomputable abbrev body : Code := Go.Proofs.Tryd.f110.body.getD .skip
theorem main (k : Nat) (x : prods (con 0).cin.tys) : station_Buses_1.f k x.1 x.2.1 x.2.2.1 x.2.2.2.1 x.2.2.2.2.1 x.2.2.2.2.2.1 x.2.2.2.2.2.2 = goK (Γ k) F (T k) 2000 [.code body] ((con 0).cin.st x) := by kernel_rfl
theorem okΓ (k : Nat) : ΓOk Go.Proofs.Tryd.prog (Γ k) := Γnil
theorem ok (k : Nat) : ConSound Go.Proofs.Tryd.prog 110 (con k) := con_sound (Γ := Γ) (fn := Go.Proofs.Tryd.f110) (body := body) (cin := (con 0).cin) (F := F) (T := T) follows (by kernel_rfl) (by kernel_rfl) (by kernel_rfl) (by kernel_rfl) (by kernel_rfl) (by decide +kernel) (by kernel_rfl) (by kernel_rfl) (tzero trivial) k (fun m _ => okΓ m) (fun m _ => tstep trivial) (fun x y h => (main k x).symm.trans h)
end station_Buses_1
namespace graph_Parts
noncomputable abbrev con (k : Nat) : Con := ⟨⟨[(0, .l (.val (.int .i64))), (1, .l (.val (.list 188 Y4))), (2, .l (.fnc 110 9000000))], [(9000000, .caps [.l (.ptr 9000001 0)]), (9000001, .box 52 [.val (.list 9 .str), .val (.list 150 Y3), .val (.list 107 Y11), .val (.list 76 Y13), .val (.list 109 Y15), .val (.list 175 Y13)])]⟩, ⟨[(0, .l (.val (.list 3 (.int .i64))))], [(9000001, .box 52 [.val (.list 9 .str), .val (.list 150 Y3), .val (.list 107 Y11), .val (.list 76 Y13), .val (.list 109 Y15), .val (.list 175 Y13)])]⟩, fun x => graph_Parts.f k x.1 x.2.1 x.2.2.1 x.2.2.2.1 x.2.2.2.2.1 x.2.2.2.2.2.1 x.2.2.2.2.2.2.1 x.2.2.2.2.2.2.2⟩
noncomputable abbrev Γ (k : Nat) : FuncId → Option Con := look [(110, station_Buses_1.con k), (111, slices_Repeat_int.con k)]
abbrev F : Fin Go.Proofs.Tryd.prog := ⟨⟨[(0, .l (.val (.list 3 (.int .i64))))], [(9000001, .box 52 [.val (.list 9 .str), .val (.list 150 Y3), .val (.list 107 Y11), .val (.list 76 Y13), .val (.list 109 Y15), .val (.list 175 Y13)])]⟩, [9000001], [.tmp 6]⟩
abbrev c4 : Cut := ⟨[(1, .l (.val (.list 188 Y4))), (2, .l (.fnc 110 7000000)), (7, .l (.row 7000001)), (8, .l (.val (.int .i64))), (18, .l (.val (.int .i64))), (19, .l (.val (.int .i64)))], [(9000001, .box 52 [.val (.list 9 .str), .val (.list 150 Y3), .val (.list 107 Y11), .val (.list 76 Y13), .val (.list 109 Y15), .val (.list 175 Y13)]), (7000000, .caps [.l (.ptr 9000001 0)]), (7000001, .row 3 (.int .i64))]⟩
abbrev c9 : Cut := ⟨[(1, .l (.val (.list 188 Y4))), (2, .l (.fnc 110 7000000)), (7, .l (.row 7000001)), (8, .l (.val (.int .i64))), (10, .l (.val .bool)), (18, .l (.val (.int .i64))), (19, .l (.val (.int .i64)))], [(9000001, .box 52 [.val (.list 9 .str), .val (.list 150 Y3), .val (.list 107 Y11), .val (.list 76 Y13), .val (.list 109 Y15), .val (.list 175 Y13)]), (7000000, .caps [.l (.ptr 9000001 0)]), (7000001, .row 3 (.int .i64))]⟩
abbrev c12 : Cut := ⟨[(1, .l (.val (.list 188 Y4))), (2, .l (.fnc 110 7000000)), (7, .l (.row 7000001)), (8, .l (.val (.int .i64))), (10, .l (.val .bool)), (18, .l (.val (.int .i64))), (19, .l (.val (.int .i64))), (32, .l (.val (.list 188 Y4))), (33, .l (.val (.int .i64))), (34, .l (.val (.int .i64)))], [(9000001, .box 52 [.val (.list 9 .str), .val (.list 150 Y3), .val (.list 107 Y11), .val (.list 76 Y13), .val (.list 109 Y15), .val (.list 175 Y13)]), (7000000, .caps [.l (.ptr 9000001 0)]), (7000001, .row 3 (.int .i64))]⟩
noncomputable abbrev Tl (k : Nat) : List (Nat × Hint (prods F.cout.tys)) := [(4, ⟨c4, fun x => graph_Parts.l4 k x.1 x.2.1 x.2.2.1 x.2.2.2.1 x.2.2.2.2.1 x.2.2.2.2.2.1 x.2.2.2.2.2.2.1 x.2.2.2.2.2.2.2.1 x.2.2.2.2.2.2.2.2.1 x.2.2.2.2.2.2.2.2.2.1 x.2.2.2.2.2.2.2.2.2.2⟩), (9, ⟨c9, fun x => graph_Parts.l9 k x.1 x.2.1 x.2.2.1 x.2.2.2.1 x.2.2.2.2.1 x.2.2.2.2.2.1 x.2.2.2.2.2.2.1 x.2.2.2.2.2.2.2.1 x.2.2.2.2.2.2.2.2.1 x.2.2.2.2.2.2.2.2.2.1 x.2.2.2.2.2.2.2.2.2.2.1 x.2.2.2.2.2.2.2.2.2.2.2⟩), (12, ⟨c12, fun x => graph_Parts.l12 k x.1 x.2.1 x.2.2.1 x.2.2.2.1 x.2.2.2.2.1 x.2.2.2.2.2.1 x.2.2.2.2.2.2.1 x.2.2.2.2.2.2.2.1 x.2.2.2.2.2.2.2.2.1 x.2.2.2.2.2.2.2.2.2.1 x.2.2.2.2.2.2.2.2.2.2.1 x.2.2.2.2.2.2.2.2.2.2.2.1 x.2.2.2.2.2.2.2.2.2.2.2.2.1 x.2.2.2.2.2.2.2.2.2.2.2.2.2.1 x.2.2.2.2.2.2.2.2.2.2.2.2.2.2⟩)]
noncomputable abbrev T (k : Nat) : Nat → Option (Hint (prods F.cout.tys)) := look (Tl k)
noncomputable abbrev body : Code := Go.Proofs.Tryd.f94.body.getD .skip
theorem s4 (k : Nat) (x : prods c4.tys) : graph_Parts.l4 (k + 1) x.1 x.2.1 x.2.2.1 x.2.2.2.1 x.2.2.2.2.1 x.2.2.2.2.2.1 x.2.2.2.2.2.2.1 x.2.2.2.2.2.2.2.1 x.2.2.2.2.2.2.2.2.1 x.2.2.2.2.2.2.2.2.2.1 x.2.2.2.2.2.2.2.2.2.2 = segK (Γ k) F (T k) body 4 (c4.st x) := by kernel_rfl
theorem s9 (k : Nat) (x : prods c9.tys) : graph_Parts.l9 (k + 1) x.1 x.2.1 x.2.2.1 x.2.2.2.1 x.2.2.2.2.1 x.2.2.2.2.2.1 x.2.2.2.2.2.2.1 x.2.2.2.2.2.2.2.1 x.2.2.2.2.2.2.2.2.1 x.2.2.2.2.2.2.2.2.2.1 x.2.2.2.2.2.2.2.2.2.2.1 x.2.2.2.2.2.2.2.2.2.2.2 = segK (Γ k) F (T k) body 9 (c9.st x) := by kernel_rfl
theorem s12 (k : Nat) (x : prods c12.tys) : graph_Parts.l12 (k + 1) x.1 x.2.1 x.2.2.1 x.2.2.2.1 x.2.2.2.2.1 x.2.2.2.2.2.1 x.2.2.2.2.2.2.1 x.2.2.2.2.2.2.2.1 x.2.2.2.2.2.2.2.2.1 x.2.2.2.2.2.2.2.2.2.1 x.2.2.2.2.2.2.2.2.2.2.1 x.2.2.2.2.2.2.2.2.2.2.2.1 x.2.2.2.2.2.2.2.2.2.2.2.2.1 x.2.2.2.2.2.2.2.2.2.2.2.2.2.1 x.2.2.2.2.2.2.2.2.2.2.2.2.2.2 = segK (Γ k) F (T k) body 12 (c12.st x) := by kernel_rfl
theorem main (k : Nat) (x : prods (con 0).cin.tys) : graph_Parts.f k x.1 x.2.1 x.2.2.1 x.2.2.2.1 x.2.2.2.2.1 x.2.2.2.2.2.1 x.2.2.2.2.2.2.1 x.2.2.2.2.2.2.2 = goK (Γ k) F (T k) 2000 [.code body] ((con 0).cin.st x) := by kernel_rfl
theorem okΓ (k : Nat) : ΓOk Go.Proofs.Tryd.prog (Γ k) := Γcons (station_Buses_1.ok k) ⟨Go.Proofs.Tryd.f110, by kernel_rfl, by kernel_rfl, by kernel_rfl⟩ (Γcons (slices_Repeat_int.ok k) ⟨Go.Proofs.Tryd.f111, by kernel_rfl, by kernel_rfl, by kernel_rfl⟩ (Γnil))
theorem ok (k : Nat) : ConSound Go.Proofs.Tryd.prog 94 (con k) := con_sound (Γ := Γ) (fn := Go.Proofs.Tryd.f94) (body := body) (cin := (con 0).cin) (F := F) (T := T) follows (by kernel_rfl) (by kernel_rfl) (by kernel_rfl) (by kernel_rfl) (by kernel_rfl) (by decide +kernel) (by kernel_rfl) (by kernel_rfl) (tzero ⟨fun x => by kernel_rfl, fun x => by kernel_rfl, fun x => by kernel_rfl, trivial⟩) k (fun m _ => okΓ m) (fun m _ => tstep ⟨fun x => Eq.trans (by kernel_rfl) (s4 m x), fun x => Eq.trans (by kernel_rfl) (s9 m x), fun x => Eq.trans (by kernel_rfl) (s12 m x), trivial⟩) (fun x y h => (main k x).symm.trans h)
end graph_Parts
namespace station_Buses
noncomputable abbrev con (k : Nat) : Con := ⟨⟨[(0, .av Y26)], []⟩, ⟨[(0, .l (.val (.list 3 (.int .i64))))], []⟩, fun x => station_Buses.f k x⟩
noncomputable abbrev Γ (k : Nat) : FuncId → Option Con := look [(94, graph_Parts.con k), (109, station_Edges.con k)]
abbrev F : Fin Go.Proofs.Tryd.prog := ⟨⟨[(0, .l (.val (.list 3 (.int .i64))))], []⟩, [], [.tmp 2]⟩
noncomputable abbrev Tl (k : Nat) : List (Nat × Hint (prods F.cout.tys)) := []
noncomputable abbrev T (k : Nat) : Nat → Option (Hint (prods F.cout.tys)) := look (Tl k)
noncomputable abbrev body : Code := Go.Proofs.Tryd.f93.body.getD .skip
theorem main (k : Nat) (x : prods (con 0).cin.tys) : station_Buses.f k x = goK (Γ k) F (T k) 2000 [.code body] ((con 0).cin.st x) := by kernel_rfl
theorem okΓ (k : Nat) : ΓOk Go.Proofs.Tryd.prog (Γ k) := Γcons (graph_Parts.ok k) ⟨Go.Proofs.Tryd.f94, by kernel_rfl, by kernel_rfl, by kernel_rfl⟩ (Γcons (station_Edges.ok k) ⟨Go.Proofs.Tryd.f109, by kernel_rfl, by kernel_rfl, by kernel_rfl⟩ (Γnil))
theorem ok (k : Nat) : ConSound Go.Proofs.Tryd.prog 93 (con k) := con_sound (Γ := Γ) (fn := Go.Proofs.Tryd.f93) (body := body) (cin := (con 0).cin) (F := F) (T := T) follows (by kernel_rfl) (by kernel_rfl) (by kernel_rfl) (by kernel_rfl) (by kernel_rfl) (by decide +kernel) (by kernel_rfl) (by kernel_rfl) (tzero trivial) k (fun m _ => okΓ m) (fun m _ => tstep trivial) (fun x y h => (main k x).symm.trans h)
end station_Buses
namespace graph_Count
noncomputable abbrev con (k : Nat) : Con := ⟨⟨[(0, .l (.val (.list 3 (.int .i64))))], []⟩, ⟨[(0, .l (.val (.int .i64)))], []⟩, fun x => graph_Count.f k x⟩
noncomputable abbrev Γ (k : Nat) : FuncId → Option Con := look []
abbrev F : Fin Go.Proofs.Tryd.prog := ⟨⟨[(0, .l (.val (.int .i64)))], []⟩, [], [.tmp 2]⟩
abbrev c3 : Cut := ⟨[(3, .l (.val (.int .i64))), (6, .l (.val (.list 3 (.int .i64)))), (7, .l (.val (.int .i64))), (8, .l (.val (.int .i64)))], []⟩
noncomputable abbrev Tl (k : Nat) : List (Nat × Hint (prods F.cout.tys)) := [(3, ⟨c3, fun x => graph_Count.l3 k x.1 x.2.1 x.2.2.1 x.2.2.2⟩)]
noncomputable abbrev T (k : Nat) : Nat → Option (Hint (prods F.cout.tys)) := look (Tl k)
noncomputable abbrev body : Code := Go.Proofs.Tryd.f95.body.getD .skip
theorem s3 (k : Nat) (x : prods c3.tys) : graph_Count.l3 (k + 1) x.1 x.2.1 x.2.2.1 x.2.2.2 = segK (Γ k) F (T k) body 3 (c3.st x) := by kernel_rfl
theorem main (k : Nat) (x : prods (con 0).cin.tys) : graph_Count.f k x = goK (Γ k) F (T k) 2000 [.code body] ((con 0).cin.st x) := by kernel_rfl
theorem okΓ (k : Nat) : ΓOk Go.Proofs.Tryd.prog (Γ k) := Γnil
theorem ok (k : Nat) : ConSound Go.Proofs.Tryd.prog 95 (con k) := con_sound (Γ := Γ) (fn := Go.Proofs.Tryd.f95) (body := body) (cin := (con 0).cin) (F := F) (T := T) follows (by kernel_rfl) (by kernel_rfl) (by kernel_rfl) (by kernel_rfl) (by kernel_rfl) (by decide +kernel) (by kernel_rfl) (by kernel_rfl) (tzero ⟨fun x => by kernel_rfl, trivial⟩) k (fun m _ => okΓ m) (fun m _ => tstep ⟨fun x => Eq.trans (by kernel_rfl) (s3 m x), trivial⟩) (fun x y h => (main k x).symm.trans h)
end graph_Count
namespace topology_Wires
noncomputable abbrev con (k : Nat) : Con := ⟨⟨[(0, .av Y26), (1, .l (.val (.list 3 (.int .i64))))], []⟩, ⟨[(0, .l (.val (.list 188 Y4)))], []⟩, fun x => topology_Wires.f k x.1 x.2⟩
noncomputable abbrev Γ (k : Nat) : FuncId → Option Con := look [(25, slices_Index_string.con k)]
abbrev F : Fin Go.Proofs.Tryd.prog := ⟨⟨[(0, .l (.val (.list 188 Y4)))], []⟩, [], [.tmp 4]⟩
abbrev c3 : Cut := ⟨[(1, .l (.val (.list 3 (.int .i64)))), (2, .l (.ptr 7000000 0)), (5, .l (.row 7000501)), (9, .l (.val (.list 107 Y11))), (10, .l (.val (.int .i64))), (11, .l (.val (.int .i64)))], [(7000000, .box 52 [.val (.list 9 .str), .val (.list 150 Y3), .val (.list 107 Y11), .val (.list 76 Y13), .val (.list 109 Y15), .val (.list 175 Y13)]), (7000501, .row 188 Y4)]⟩
noncomputable abbrev Tl (k : Nat) : List (Nat × Hint (prods F.cout.tys)) := [(3, ⟨c3, fun x => topology_Wires.l3 k x.1 x.2.1 x.2.2.1 x.2.2.2.1 x.2.2.2.2.1 x.2.2.2.2.2.1 x.2.2.2.2.2.2.1 x.2.2.2.2.2.2.2.1 x.2.2.2.2.2.2.2.2.1 x.2.2.2.2.2.2.2.2.2.1 x.2.2.2.2.2.2.2.2.2.2⟩)]
noncomputable abbrev T (k : Nat) : Nat → Option (Hint (prods F.cout.tys)) := look (Tl k)
noncomputable abbrev body : Code := Go.Proofs.Tryd.f96.body.getD .skip
theorem s3 (k : Nat) (x : prods c3.tys) : topology_Wires.l3 (k + 1) x.1 x.2.1 x.2.2.1 x.2.2.2.1 x.2.2.2.2.1 x.2.2.2.2.2.1 x.2.2.2.2.2.2.1 x.2.2.2.2.2.2.2.1 x.2.2.2.2.2.2.2.2.1 x.2.2.2.2.2.2.2.2.2.1 x.2.2.2.2.2.2.2.2.2.2 = segK (Γ k) F (T k) body 3 (c3.st x) := by kernel_rfl
theorem main (k : Nat) (x : prods (con 0).cin.tys) : topology_Wires.f k x.1 x.2 = goK (Γ k) F (T k) 2000 [.code body] ((con 0).cin.st x) := by kernel_rfl
theorem okΓ (k : Nat) : ΓOk Go.Proofs.Tryd.prog (Γ k) := Γcons (slices_Index_string.ok k) ⟨Go.Proofs.Tryd.f25, by kernel_rfl, by kernel_rfl, by kernel_rfl⟩ (Γnil)
theorem ok (k : Nat) : ConSound Go.Proofs.Tryd.prog 96 (con k) := con_sound (Γ := Γ) (fn := Go.Proofs.Tryd.f96) (body := body) (cin := (con 0).cin) (F := F) (T := T) follows (by kernel_rfl) (by kernel_rfl) (by kernel_rfl) (by kernel_rfl) (by kernel_rfl) (by decide +kernel) (by kernel_rfl) (by kernel_rfl) (tzero ⟨fun x => by kernel_rfl, trivial⟩) k (fun m _ => okΓ m) (fun m _ => tstep ⟨fun x => Eq.trans (by kernel_rfl) (s3 m x), trivial⟩) (fun x y h => (main k x).symm.trans h)
end topology_Wires
namespace topology_Fresh_1
noncomputable abbrev con (k : Nat) : Con := ⟨⟨[(0, .l (.val (.int .i64)))], []⟩, ⟨[(0, .l (.val .bool))], []⟩, fun x => topology_Fresh_1.f k x⟩
noncomputable abbrev Γ (k : Nat) : FuncId → Option Con := look []
abbrev F : Fin Go.Proofs.Tryd.prog := ⟨⟨[(0, .l (.val .bool))], []⟩, [], [.tmp 2]⟩
noncomputable abbrev Tl (k : Nat) : List (Nat × Hint (prods F.cout.tys)) := []
noncomputable abbrev T (k : Nat) : Nat → Option (Hint (prods F.cout.tys)) := look (Tl k)
noncomputable abbrev body : Code := Go.Proofs.Tryd.f97.body.getD .skip
theorem main (k : Nat) (x : prods (con 0).cin.tys) : topology_Fresh_1.f k x = goK (Γ k) F (T k) 2000 [.code body] ((con 0).cin.st x) := by kernel_rfl
theorem okΓ (k : Nat) : ΓOk Go.Proofs.Tryd.prog (Γ k) := Γnil
theorem ok (k : Nat) : ConSound Go.Proofs.Tryd.prog 97 (con k) := con_sound (Γ := Γ) (fn := Go.Proofs.Tryd.f97) (body := body) (cin := (con 0).cin) (F := F) (T := T) follows (by kernel_rfl) (by kernel_rfl) (by kernel_rfl) (by kernel_rfl) (by kernel_rfl) (by decide +kernel) (by kernel_rfl) (by kernel_rfl) (tzero trivial) k (fun m _ => okΓ m) (fun m _ => tstep trivial) (fun x y h => (main k x).symm.trans h)
end topology_Fresh_1
namespace graph_Parts'
noncomputable abbrev con (k : Nat) : Con := ⟨⟨[(0, .l (.val (.int .i64))), (1, .l (.val (.list 188 Y4))), (2, .l (.fn0 97))], []⟩, ⟨[(0, .l (.val (.list 3 (.int .i64))))], []⟩, fun x => graph_Parts'.f k x.1 x.2⟩
noncomputable abbrev Γ (k : Nat) : FuncId → Option Con := look [(97, topology_Fresh_1.con k), (111, slices_Repeat_int.con k)]
abbrev F : Fin Go.Proofs.Tryd.prog := ⟨⟨[(0, .l (.val (.list 3 (.int .i64))))], []⟩, [], [.tmp 6]⟩
abbrev c4 : Cut := ⟨[(1, .l (.val (.list 188 Y4))), (2, .l (.fn0 97)), (7, .l (.row 7000000)), (8, .l (.val (.int .i64))), (18, .l (.val (.int .i64))), (19, .l (.val (.int .i64)))], [(7000000, .row 3 (.int .i64))]⟩
abbrev c9 : Cut := ⟨[(1, .l (.val (.list 188 Y4))), (2, .l (.fn0 97)), (7, .l (.row 7000000)), (8, .l (.val (.int .i64))), (10, .l (.val .bool)), (18, .l (.val (.int .i64))), (19, .l (.val (.int .i64)))], [(7000000, .row 3 (.int .i64))]⟩
abbrev c12 : Cut := ⟨[(1, .l (.val (.list 188 Y4))), (2, .l (.fn0 97)), (7, .l (.row 7000000)), (8, .l (.val (.int .i64))), (10, .l (.val .bool)), (18, .l (.val (.int .i64))), (19, .l (.val (.int .i64))), (32, .l (.val (.list 188 Y4))), (33, .l (.val (.int .i64))), (34, .l (.val (.int .i64)))], [(7000000, .row 3 (.int .i64))]⟩
noncomputable abbrev Tl (k : Nat) : List (Nat × Hint (prods F.cout.tys)) := [(4, ⟨c4, fun x => graph_Parts'.l4 k x.1 x.2.1 x.2.2.1 x.2.2.2.1 x.2.2.2.2⟩), (9, ⟨c9, fun x => graph_Parts'.l9 k x.1 x.2.1 x.2.2.1 x.2.2.2.1 x.2.2.2.2.1 x.2.2.2.2.2⟩), (12, ⟨c12, fun x => graph_Parts'.l12 k x.1 x.2.1 x.2.2.1 x.2.2.2.1 x.2.2.2.2.1 x.2.2.2.2.2.1 x.2.2.2.2.2.2.1 x.2.2.2.2.2.2.2.1 x.2.2.2.2.2.2.2.2⟩)]
noncomputable abbrev T (k : Nat) : Nat → Option (Hint (prods F.cout.tys)) := look (Tl k)
noncomputable abbrev body : Code := Go.Proofs.Tryd.f94.body.getD .skip
theorem s4 (k : Nat) (x : prods c4.tys) : graph_Parts'.l4 (k + 1) x.1 x.2.1 x.2.2.1 x.2.2.2.1 x.2.2.2.2 = segK (Γ k) F (T k) body 4 (c4.st x) := by kernel_rfl
theorem s9 (k : Nat) (x : prods c9.tys) : graph_Parts'.l9 (k + 1) x.1 x.2.1 x.2.2.1 x.2.2.2.1 x.2.2.2.2.1 x.2.2.2.2.2 = segK (Γ k) F (T k) body 9 (c9.st x) := by kernel_rfl
theorem s12 (k : Nat) (x : prods c12.tys) : graph_Parts'.l12 (k + 1) x.1 x.2.1 x.2.2.1 x.2.2.2.1 x.2.2.2.2.1 x.2.2.2.2.2.1 x.2.2.2.2.2.2.1 x.2.2.2.2.2.2.2.1 x.2.2.2.2.2.2.2.2 = segK (Γ k) F (T k) body 12 (c12.st x) := by kernel_rfl
theorem main (k : Nat) (x : prods (con 0).cin.tys) : graph_Parts'.f k x.1 x.2 = goK (Γ k) F (T k) 2000 [.code body] ((con 0).cin.st x) := by kernel_rfl
theorem okΓ (k : Nat) : ΓOk Go.Proofs.Tryd.prog (Γ k) := Γcons (topology_Fresh_1.ok k) ⟨Go.Proofs.Tryd.f97, by kernel_rfl, by kernel_rfl, by kernel_rfl⟩ (Γcons (slices_Repeat_int.ok k) ⟨Go.Proofs.Tryd.f111, by kernel_rfl, by kernel_rfl, by kernel_rfl⟩ (Γnil))
theorem ok (k : Nat) : ConSound Go.Proofs.Tryd.prog 94 (con k) := con_sound (Γ := Γ) (fn := Go.Proofs.Tryd.f94) (body := body) (cin := (con 0).cin) (F := F) (T := T) follows (by kernel_rfl) (by kernel_rfl) (by kernel_rfl) (by kernel_rfl) (by kernel_rfl) (by decide +kernel) (by kernel_rfl) (by kernel_rfl) (tzero ⟨fun x => by kernel_rfl, fun x => by kernel_rfl, fun x => by kernel_rfl, trivial⟩) k (fun m _ => okΓ m) (fun m _ => tstep ⟨fun x => Eq.trans (by kernel_rfl) (s4 m x), fun x => Eq.trans (by kernel_rfl) (s9 m x), fun x => Eq.trans (by kernel_rfl) (s12 m x), trivial⟩) (fun x y h => (main k x).symm.trans h)
end graph_Parts'
namespace topology_Fresh
noncomputable abbrev con (k : Nat) : Con := ⟨⟨[(0, .av Y26)], []⟩, ⟨[(0, .av Y29)], []⟩, fun x => topology_Fresh.f k x⟩
noncomputable abbrev Γ (k : Nat) : FuncId → Option Con := look [(93, station_Buses.con k), (94, graph_Parts'.con k), (95, graph_Count.con k), (96, topology_Wires.con k)]
abbrev F : Fin Go.Proofs.Tryd.prog := ⟨⟨[(0, .av Y29)], []⟩, [], [.cell 2 117]⟩
noncomputable abbrev Tl (k : Nat) : List (Nat × Hint (prods F.cout.tys)) := []
noncomputable abbrev T (k : Nat) : Nat → Option (Hint (prods F.cout.tys)) := look (Tl k)
noncomputable abbrev body : Code := Go.Proofs.Tryd.f76.body.getD .skip
theorem main (k : Nat) (x : prods (con 0).cin.tys) : topology_Fresh.f k x = goK (Γ k) F (T k) 2000 [.code body] ((con 0).cin.st x) := by kernel_rfl
theorem okΓ (k : Nat) : ΓOk Go.Proofs.Tryd.prog (Γ k) := Γcons (station_Buses.ok k) ⟨Go.Proofs.Tryd.f93, by kernel_rfl, by kernel_rfl, by kernel_rfl⟩ (Γcons (graph_Parts'.ok k) ⟨Go.Proofs.Tryd.f94, by kernel_rfl, by kernel_rfl, by kernel_rfl⟩ (Γcons (graph_Count.ok k) ⟨Go.Proofs.Tryd.f95, by kernel_rfl, by kernel_rfl, by kernel_rfl⟩ (Γcons (topology_Wires.ok k) ⟨Go.Proofs.Tryd.f96, by kernel_rfl, by kernel_rfl, by kernel_rfl⟩ (Γnil))))
theorem ok (k : Nat) : ConSound Go.Proofs.Tryd.prog 76 (con k) := con_sound (Γ := Γ) (fn := Go.Proofs.Tryd.f76) (body := body) (cin := (con 0).cin) (F := F) (T := T) follows (by kernel_rfl) (by kernel_rfl) (by kernel_rfl) (by kernel_rfl) (by kernel_rfl) (by decide +kernel) (by kernel_rfl) (by kernel_rfl) (tzero trivial) k (fun m _ => okΓ m) (fun m _ => tstep trivial) (fun x y h => (main k x).symm.trans h)
end topology_Fresh
namespace topology_Of
noncomputable abbrev con (k : Nat) : Con := ⟨⟨[(0, .av Y26)], []⟩, ⟨[(0, .av Y29), (1, .l (.val (.int .i64)))], []⟩, fun x => topology_Of.f k x⟩
noncomputable abbrev Γ (k : Nat) : FuncId → Option Con := look [(54, netmodel_Check.con k), (76, topology_Fresh.con k)]
abbrev F : Fin Go.Proofs.Tryd.prog := ⟨⟨[(0, .av Y29), (1, .l (.val (.int .i64)))], []⟩, [], [.cell 2 117, .tmp 3]⟩
noncomputable abbrev Tl (k : Nat) : List (Nat × Hint (prods F.cout.tys)) := []
noncomputable abbrev T (k : Nat) : Nat → Option (Hint (prods F.cout.tys)) := look (Tl k)
noncomputable abbrev body : Code := Go.Proofs.Tryd.f50.body.getD .skip
theorem main (k : Nat) (x : prods (con 0).cin.tys) : topology_Of.f k x = goK (Γ k) F (T k) 2000 [.code body] ((con 0).cin.st x) := by kernel_rfl
theorem okΓ (k : Nat) : ΓOk Go.Proofs.Tryd.prog (Γ k) := Γcons (netmodel_Check.ok k) ⟨Go.Proofs.Tryd.f54, by kernel_rfl, by kernel_rfl, by kernel_rfl⟩ (Γcons (topology_Fresh.ok k) ⟨Go.Proofs.Tryd.f76, by kernel_rfl, by kernel_rfl, by kernel_rfl⟩ (Γnil))
theorem ok (k : Nat) : ConSound Go.Proofs.Tryd.prog 50 (con k) := con_sound (Γ := Γ) (fn := Go.Proofs.Tryd.f50) (body := body) (cin := (con 0).cin) (F := F) (T := T) follows (by kernel_rfl) (by kernel_rfl) (by kernel_rfl) (by kernel_rfl) (by kernel_rfl) (by decide +kernel) (by kernel_rfl) (by kernel_rfl) (tzero trivial) k (fun m _ => okΓ m) (fun m _ => tstep trivial) (fun x y h => (main k x).symm.trans h)
end topology_Of
namespace stringslite_HasPrefix
noncomputable abbrev con (k : Nat) : Con := ⟨⟨[(0, .l (.val .str)), (1, .l (.val .str))], []⟩, ⟨[(0, .l (.val .bool))], []⟩, fun x => stringslite_HasPrefix.f k x.1 x.2⟩
noncomputable abbrev Γ (k : Nat) : FuncId → Option Con := look []
abbrev F : Fin Go.Proofs.Tryd.prog := ⟨⟨[(0, .l (.val .bool))], []⟩, [], [.tmp 4]⟩
noncomputable abbrev Tl (k : Nat) : List (Nat × Hint (prods F.cout.tys)) := []
noncomputable abbrev T (k : Nat) : Nat → Option (Hint (prods F.cout.tys)) := look (Tl k)
noncomputable abbrev body : Code := Go.Proofs.Tryd.f102.body.getD .skip
theorem main (k : Nat) (x : prods (con 0).cin.tys) : stringslite_HasPrefix.f k x.1 x.2 = goK (Γ k) F (T k) 2000 [.code body] ((con 0).cin.st x) := by kernel_rfl
theorem okΓ (k : Nat) : ΓOk Go.Proofs.Tryd.prog (Γ k) := Γnil
theorem ok (k : Nat) : ConSound Go.Proofs.Tryd.prog 102 (con k) := con_sound (Γ := Γ) (fn := Go.Proofs.Tryd.f102) (body := body) (cin := (con 0).cin) (F := F) (T := T) follows (by kernel_rfl) (by kernel_rfl) (by kernel_rfl) (by kernel_rfl) (by kernel_rfl) (by decide +kernel) (by kernel_rfl) (by kernel_rfl) (tzero trivial) k (fun m _ => okΓ m) (fun m _ => tstep trivial) (fun x y h => (main k x).symm.trans h)
end stringslite_HasPrefix
namespace stringslite_CutPrefix
noncomputable abbrev con (k : Nat) : Con := ⟨⟨[(0, .l (.val .str)), (1, .l (.val .str))], []⟩, ⟨[(0, .l (.val .str)), (1, .l (.val .bool))], []⟩, fun x => stringslite_CutPrefix.f k x.1 x.2⟩
noncomputable abbrev Γ (k : Nat) : FuncId → Option Con := look [(102, stringslite_HasPrefix.con k)]
abbrev F : Fin Go.Proofs.Tryd.prog := ⟨⟨[(0, .l (.val .str)), (1, .l (.val .bool))], []⟩, [], [.tmp 4, .tmp 5]⟩
noncomputable abbrev Tl (k : Nat) : List (Nat × Hint (prods F.cout.tys)) := []
noncomputable abbrev T (k : Nat) : Nat → Option (Hint (prods F.cout.tys)) := look (Tl k)
noncomputable abbrev body : Code := Go.Proofs.Tryd.f84.body.getD .skip
theorem main (k : Nat) (x : prods (con 0).cin.tys) : stringslite_CutPrefix.f k x.1 x.2 = goK (Γ k) F (T k) 2000 [.code body] ((con 0).cin.st x) := by kernel_rfl
theorem okΓ (k : Nat) : ΓOk Go.Proofs.Tryd.prog (Γ k) := Γcons (stringslite_HasPrefix.ok k) ⟨Go.Proofs.Tryd.f102, by kernel_rfl, by kernel_rfl, by kernel_rfl⟩ (Γnil)
theorem ok (k : Nat) : ConSound Go.Proofs.Tryd.prog 84 (con k) := con_sound (Γ := Γ) (fn := Go.Proofs.Tryd.f84) (body := body) (cin := (con 0).cin) (F := F) (T := T) follows (by kernel_rfl) (by kernel_rfl) (by kernel_rfl) (by kernel_rfl) (by kernel_rfl) (by decide +kernel) (by kernel_rfl) (by kernel_rfl) (tzero trivial) k (fun m _ => okΓ m) (fun m _ => tstep trivial) (fun x y h => (main k x).symm.trans h)
end stringslite_CutPrefix
namespace strings_CutPrefix
noncomputable abbrev con (k : Nat) : Con := ⟨⟨[(0, .l (.val .str)), (1, .l (.val .str))], []⟩, ⟨[(0, .l (.val .str)), (1, .l (.val .bool))], []⟩, fun x => strings_CutPrefix.f k x.1 x.2⟩
noncomputable abbrev Γ (k : Nat) : FuncId → Option Con := look [(84, stringslite_CutPrefix.con k)]
abbrev F : Fin Go.Proofs.Tryd.prog := ⟨⟨[(0, .l (.val .str)), (1, .l (.val .bool))], []⟩, [], [.tmp 4, .tmp 5]⟩
noncomputable abbrev Tl (k : Nat) : List (Nat × Hint (prods F.cout.tys)) := []
noncomputable abbrev T (k : Nat) : Nat → Option (Hint (prods F.cout.tys)) := look (Tl k)
noncomputable abbrev body : Code := Go.Proofs.Tryd.f58.body.getD .skip
theorem main (k : Nat) (x : prods (con 0).cin.tys) : strings_CutPrefix.f k x.1 x.2 = goK (Γ k) F (T k) 2000 [.code body] ((con 0).cin.st x) := by kernel_rfl
theorem okΓ (k : Nat) : ΓOk Go.Proofs.Tryd.prog (Γ k) := Γcons (stringslite_CutPrefix.ok k) ⟨Go.Proofs.Tryd.f84, by kernel_rfl, by kernel_rfl, by kernel_rfl⟩ (Γnil)
theorem ok (k : Nat) : ConSound Go.Proofs.Tryd.prog 58 (con k) := con_sound (Γ := Γ) (fn := Go.Proofs.Tryd.f58) (body := body) (cin := (con 0).cin) (F := F) (T := T) follows (by kernel_rfl) (by kernel_rfl) (by kernel_rfl) (by kernel_rfl) (by kernel_rfl) (by decide +kernel) (by kernel_rfl) (by kernel_rfl) (tzero trivial) k (fun m _ => okΓ m) (fun m _ => tstep trivial) (fun x y h => (main k x).symm.trans h)
end strings_CutPrefix
namespace stringslite_IndexByte
noncomputable abbrev con (k : Nat) : Con := ⟨⟨[(0, .l (.val .str)), (1, .l (.val (.int .u8)))], []⟩, ⟨[(0, .l (.val (.int .i64)))], []⟩, fun x => stringslite_IndexByte.f k x.1 x.2⟩
noncomputable abbrev Γ (k : Nat) : FuncId → Option Con := look []
abbrev F : Fin Go.Proofs.Tryd.prog := ⟨⟨[(0, .l (.val (.int .i64)))], []⟩, [], [.tmp 4]⟩
noncomputable abbrev Tl (k : Nat) : List (Nat × Hint (prods F.cout.tys)) := []
noncomputable abbrev T (k : Nat) : Nat → Option (Hint (prods F.cout.tys)) := look (Tl k)
noncomputable abbrev body : Code := Go.Proofs.Tryd.f112.body.getD .skip
theorem main (k : Nat) (x : prods (con 0).cin.tys) : stringslite_IndexByte.f k x.1 x.2 = goK (Γ k) F (T k) 2000 [.code body] ((con 0).cin.st x) := by kernel_rfl
theorem okΓ (k : Nat) : ΓOk Go.Proofs.Tryd.prog (Γ k) := Γnil
theorem ok (k : Nat) : ConSound Go.Proofs.Tryd.prog 112 (con k) := con_sound (Γ := Γ) (fn := Go.Proofs.Tryd.f112) (body := body) (cin := (con 0).cin) (F := F) (T := T) follows (by kernel_rfl) (by kernel_rfl) (by kernel_rfl) (by kernel_rfl) (by kernel_rfl) (by decide +kernel) (by kernel_rfl) (by kernel_rfl) (tzero trivial) k (fun m _ => okΓ m) (fun m _ => tstep trivial) (fun x y h => (main k x).symm.trans h)
end stringslite_IndexByte
namespace stringslite_Index
noncomputable abbrev con (k : Nat) : Con := ⟨⟨[(0, .l (.val .str)), (1, .l (.val .str))], []⟩, ⟨[(0, .l (.val (.int .i64)))], []⟩, fun x => stringslite_Index.f k x.1 x.2⟩
noncomputable abbrev Γ (k : Nat) : FuncId → Option Con := look [(112, stringslite_IndexByte.con k)]
abbrev F : Fin Go.Proofs.Tryd.prog := ⟨⟨[(0, .l (.val (.int .i64)))], []⟩, [], [.tmp 4]⟩
noncomputable abbrev Tl (k : Nat) : List (Nat × Hint (prods F.cout.tys)) := []
noncomputable abbrev T (k : Nat) : Nat → Option (Hint (prods F.cout.tys)) := look (Tl k)
noncomputable abbrev body : Code := Go.Proofs.Tryd.f103.body.getD .skip
theorem main (k : Nat) (x : prods (con 0).cin.tys) : stringslite_Index.f k x.1 x.2 = goK (Γ k) F (T k) 2000 [.code body] ((con 0).cin.st x) := by kernel_rfl
theorem okΓ (k : Nat) : ΓOk Go.Proofs.Tryd.prog (Γ k) := Γcons (stringslite_IndexByte.ok k) ⟨Go.Proofs.Tryd.f112, by kernel_rfl, by kernel_rfl, by kernel_rfl⟩ (Γnil)
theorem ok (k : Nat) : ConSound Go.Proofs.Tryd.prog 103 (con k) := con_sound (Γ := Γ) (fn := Go.Proofs.Tryd.f103) (body := body) (cin := (con 0).cin) (F := F) (T := T) follows (by kernel_rfl) (by kernel_rfl) (by kernel_rfl) (by kernel_rfl) (by kernel_rfl) (by decide +kernel) (by kernel_rfl) (by kernel_rfl) (tzero trivial) k (fun m _ => okΓ m) (fun m _ => tstep trivial) (fun x y h => (main k x).symm.trans h)
end stringslite_Index
namespace stringslite_Cut
noncomputable abbrev con (k : Nat) : Con := ⟨⟨[(0, .l (.val .str)), (1, .l (.val .str))], []⟩, ⟨[(0, .l (.val .str)), (1, .l (.val .str)), (2, .l (.val .bool))], []⟩, fun x => stringslite_Cut.f k x.1 x.2⟩
noncomputable abbrev Γ (k : Nat) : FuncId → Option Con := look [(103, stringslite_Index.con k)]
abbrev F : Fin Go.Proofs.Tryd.prog := ⟨⟨[(0, .l (.val .str)), (1, .l (.val .str)), (2, .l (.val .bool))], []⟩, [], [.tmp 4, .tmp 5, .tmp 6]⟩
noncomputable abbrev Tl (k : Nat) : List (Nat × Hint (prods F.cout.tys)) := []
noncomputable abbrev T (k : Nat) : Nat → Option (Hint (prods F.cout.tys)) := look (Tl k)
noncomputable abbrev body : Code := Go.Proofs.Tryd.f85.body.getD .skip
theorem main (k : Nat) (x : prods (con 0).cin.tys) : stringslite_Cut.f k x.1 x.2 = goK (Γ k) F (T k) 2000 [.code body] ((con 0).cin.st x) := by kernel_rfl
theorem okΓ (k : Nat) : ΓOk Go.Proofs.Tryd.prog (Γ k) := Γcons (stringslite_Index.ok k) ⟨Go.Proofs.Tryd.f103, by kernel_rfl, by kernel_rfl, by kernel_rfl⟩ (Γnil)
theorem ok (k : Nat) : ConSound Go.Proofs.Tryd.prog 85 (con k) := con_sound (Γ := Γ) (fn := Go.Proofs.Tryd.f85) (body := body) (cin := (con 0).cin) (F := F) (T := T) follows (by kernel_rfl) (by kernel_rfl) (by kernel_rfl) (by kernel_rfl) (by kernel_rfl) (by decide +kernel) (by kernel_rfl) (by kernel_rfl) (tzero trivial) k (fun m _ => okΓ m) (fun m _ => tstep trivial) (fun x y h => (main k x).symm.trans h)
end stringslite_Cut
namespace strings_Cut
noncomputable abbrev con (k : Nat) : Con := ⟨⟨[(0, .l (.val .str)), (1, .l (.val .str))], []⟩, ⟨[(0, .l (.val .str)), (1, .l (.val .str)), (2, .l (.val .bool))], []⟩, fun x => strings_Cut.f k x.1 x.2⟩
noncomputable abbrev Γ (k : Nat) : FuncId → Option Con := look [(85, stringslite_Cut.con k)]
abbrev F : Fin Go.Proofs.Tryd.prog := ⟨⟨[(0, .l (.val .str)), (1, .l (.val .str)), (2, .l (.val .bool))], []⟩, [], [.tmp 4, .tmp 5, .tmp 6]⟩
noncomputable abbrev Tl (k : Nat) : List (Nat × Hint (prods F.cout.tys)) := []
noncomputable abbrev T (k : Nat) : Nat → Option (Hint (prods F.cout.tys)) := look (Tl k)
noncomputable abbrev body : Code := Go.Proofs.Tryd.f59.body.getD .skip
theorem main (k : Nat) (x : prods (con 0).cin.tys) : strings_Cut.f k x.1 x.2 = goK (Γ k) F (T k) 2000 [.code body] ((con 0).cin.st x) := by kernel_rfl
theorem okΓ (k : Nat) : ΓOk Go.Proofs.Tryd.prog (Γ k) := Γcons (stringslite_Cut.ok k) ⟨Go.Proofs.Tryd.f85, by kernel_rfl, by kernel_rfl, by kernel_rfl⟩ (Γnil)
theorem ok (k : Nat) : ConSound Go.Proofs.Tryd.prog 59 (con k) := con_sound (Γ := Γ) (fn := Go.Proofs.Tryd.f59) (body := body) (cin := (con 0).cin) (F := F) (T := T) follows (by kernel_rfl) (by kernel_rfl) (by kernel_rfl) (by kernel_rfl) (by kernel_rfl) (by decide +kernel) (by kernel_rfl) (by kernel_rfl) (tzero trivial) k (fun m _ => okΓ m) (fun m _ => tstep trivial) (fun x y h => (main k x).symm.trans h)
end strings_Cut
namespace nat_Check
noncomputable abbrev con (k : Nat) : Con := ⟨⟨[(0, .l (.val .str))], []⟩, ⟨[(0, .l (.val (.int .i64)))], []⟩, fun x => nat_Check.f k x⟩
noncomputable abbrev Γ (k : Nat) : FuncId → Option Con := look []
abbrev F : Fin Go.Proofs.Tryd.prog := ⟨⟨[(0, .l (.val (.int .i64)))], []⟩, [], [.tmp 2]⟩
abbrev c4 : Cut := ⟨[(0, .l (.val .str)), (18, .l (.val (.list 5 (.int .u8)))), (19, .l (.val (.int .i64))), (20, .l (.val (.int .i64)))], []⟩
noncomputable abbrev Tl (k : Nat) : List (Nat × Hint (prods F.cout.tys)) := [(4, ⟨c4, fun x => nat_Check.l4 k x.1 x.2.1 x.2.2.1 x.2.2.2⟩)]
noncomputable abbrev T (k : Nat) : Nat → Option (Hint (prods F.cout.tys)) := look (Tl k)
noncomputable abbrev body : Code := Go.Proofs.Tryd.f83.body.getD .skip
theorem s4 (k : Nat) (x : prods c4.tys) : nat_Check.l4 (k + 1) x.1 x.2.1 x.2.2.1 x.2.2.2 = segK (Γ k) F (T k) body 4 (c4.st x) := by kernel_rfl
theorem main (k : Nat) (x : prods (con 0).cin.tys) : nat_Check.f k x = goK (Γ k) F (T k) 2000 [.code body] ((con 0).cin.st x) := by kernel_rfl
theorem okΓ (k : Nat) : ΓOk Go.Proofs.Tryd.prog (Γ k) := Γnil
theorem ok (k : Nat) : ConSound Go.Proofs.Tryd.prog 83 (con k) := con_sound (Γ := Γ) (fn := Go.Proofs.Tryd.f83) (body := body) (cin := (con 0).cin) (F := F) (T := T) follows (by kernel_rfl) (by kernel_rfl) (by kernel_rfl) (by kernel_rfl) (by kernel_rfl) (by decide +kernel) (by kernel_rfl) (by kernel_rfl) (tzero ⟨fun x => by kernel_rfl, trivial⟩) k (fun m _ => okΓ m) (fun m _ => tstep ⟨fun x => Eq.trans (by kernel_rfl) (s4 m x), trivial⟩) (fun x y h => (main k x).symm.trans h)
end nat_Check
namespace nat_N_trim
noncomputable abbrev con (k : Nat) : Con := ⟨⟨[(0, .l (.row 9000000))], [(9000000, .row 138 (.int .u32))]⟩, ⟨[(0, .l (.row 0))], [(9000000, .gone), (0, .row 138 (.int .u32))]⟩, fun x => nat_N_trim.f k x⟩
noncomputable abbrev Γ (k : Nat) : FuncId → Option Con := look []
abbrev F : Fin Go.Proofs.Tryd.prog := ⟨⟨[(0, .l (.row 0))], [(9000000, .gone), (0, .row 138 (.int .u32))]⟩, [9000000], [.tmp 2]⟩
abbrev c1 : Cut := ⟨[(0, .l (.row 7000000))], [(9000000, .gone), (7000000, .row 138 (.int .u32))]⟩
noncomputable abbrev Tl (k : Nat) : List (Nat × Hint (prods F.cout.tys)) := [(1, ⟨c1, fun x => nat_N_trim.l1 k x⟩)]
noncomputable abbrev T (k : Nat) : Nat → Option (Hint (prods F.cout.tys)) := look (Tl k)
noncomputable abbrev body : Code := Go.Proofs.Tryd.f86.body.getD .skip
theorem s1 (k : Nat) (x : prods c1.tys) : nat_N_trim.l1 (k + 1) x = segK (Γ k) F (T k) body 1 (c1.st x) := by kernel_rfl
theorem main (k : Nat) (x : prods (con 0).cin.tys) : nat_N_trim.f k x = goK (Γ k) F (T k) 2000 [.code body] ((con 0).cin.st x) := by kernel_rfl
theorem okΓ (k : Nat) : ΓOk Go.Proofs.Tryd.prog (Γ k) := Γnil
theorem ok (k : Nat) : ConSound Go.Proofs.Tryd.prog 86 (con k) := con_sound (Γ := Γ) (fn := Go.Proofs.Tryd.f86) (body := body) (cin := (con 0).cin) (F := F) (T := T) follows (by kernel_rfl) (by kernel_rfl) (by kernel_rfl) (by kernel_rfl) (by kernel_rfl) (by decide +kernel) (by kernel_rfl) (by kernel_rfl) (tzero ⟨fun x => by kernel_rfl, trivial⟩) k (fun m _ => okΓ m) (fun m _ => tstep ⟨fun x => Eq.trans (by kernel_rfl) (s1 m x), trivial⟩) (fun x y h => (main k x).symm.trans h)
end nat_N_trim
namespace nat_Read
noncomputable abbrev con (k : Nat) : Con := ⟨⟨[(0, .l (.val .str))], []⟩, ⟨[(0, .l (.val (.list 138 (.int .u32))))], []⟩, fun x => nat_Read.f k x⟩
noncomputable abbrev Γ (k : Nat) : FuncId → Option Con := look [(86, nat_N_trim.con k)]
abbrev F : Fin Go.Proofs.Tryd.prog := ⟨⟨[(0, .l (.val (.list 138 (.int .u32))))], []⟩, [], [.tmp 2]⟩
abbrev c3 : Cut := ⟨[(0, .l (.val .str)), (3, .l (.row 7000500)), (4, .l (.val (.int .i64)))], [(7000500, .row 138 (.int .u32))]⟩
abbrev c7 : Cut := ⟨[(0, .l (.val .str)), (3, .l (.row 7000500)), (4, .l (.val (.int .i64))), (5, .l (.val (.int .u32))), (20, .l (.val (.list 5 (.int .u8)))), (21, .l (.val (.int .i64))), (22, .l (.val (.int .i64)))], [(7000500, .row 138 (.int .u32))]⟩
noncomputable abbrev Tl (k : Nat) : List (Nat × Hint (prods F.cout.tys)) := [(3, ⟨c3, fun x => nat_Read.l3 k x.1 x.2.1 x.2.2⟩), (7, ⟨c7, fun x => nat_Read.l7 k x.1 x.2.1 x.2.2.1 x.2.2.2.1 x.2.2.2.2.1 x.2.2.2.2.2.1 x.2.2.2.2.2.2⟩)]
noncomputable abbrev T (k : Nat) : Nat → Option (Hint (prods F.cout.tys)) := look (Tl k)
noncomputable abbrev body : Code := Go.Proofs.Tryd.f60.body.getD .skip
theorem s3 (k : Nat) (x : prods c3.tys) : nat_Read.l3 (k + 1) x.1 x.2.1 x.2.2 = segK (Γ k) F (T k) body 3 (c3.st x) := by kernel_rfl
theorem s7 (k : Nat) (x : prods c7.tys) : nat_Read.l7 (k + 1) x.1 x.2.1 x.2.2.1 x.2.2.2.1 x.2.2.2.2.1 x.2.2.2.2.2.1 x.2.2.2.2.2.2 = segK (Γ k) F (T k) body 7 (c7.st x) := by kernel_rfl
theorem main (k : Nat) (x : prods (con 0).cin.tys) : nat_Read.f k x = goK (Γ k) F (T k) 2000 [.code body] ((con 0).cin.st x) := by kernel_rfl
theorem okΓ (k : Nat) : ΓOk Go.Proofs.Tryd.prog (Γ k) := Γcons (nat_N_trim.ok k) ⟨Go.Proofs.Tryd.f86, by kernel_rfl, by kernel_rfl, by kernel_rfl⟩ (Γnil)
theorem ok (k : Nat) : ConSound Go.Proofs.Tryd.prog 60 (con k) := con_sound (Γ := Γ) (fn := Go.Proofs.Tryd.f60) (body := body) (cin := (con 0).cin) (F := F) (T := T) follows (by kernel_rfl) (by kernel_rfl) (by kernel_rfl) (by kernel_rfl) (by kernel_rfl) (by decide +kernel) (by kernel_rfl) (by kernel_rfl) (tzero ⟨fun x => by kernel_rfl, fun x => by kernel_rfl, trivial⟩) k (fun m _ => okΓ m) (fun m _ => tstep ⟨fun x => Eq.trans (by kernel_rfl) (s3 m x), fun x => Eq.trans (by kernel_rfl) (s7 m x), trivial⟩) (fun x y h => (main k x).symm.trans h)
end nat_Read
namespace nat_N_Cmp
noncomputable abbrev con (k : Nat) : Con := ⟨⟨[(0, .l (.val (.list 138 (.int .u32)))), (1, .l (.val (.list 138 (.int .u32))))], []⟩, ⟨[(0, .l (.val (.int .i64)))], []⟩, fun x => nat_N_Cmp.f k x.1 x.2⟩
noncomputable abbrev Γ (k : Nat) : FuncId → Option Con := look []
abbrev F : Fin Go.Proofs.Tryd.prog := ⟨⟨[(0, .l (.val (.int .i64)))], []⟩, [], [.tmp 4]⟩
abbrev c6 : Cut := ⟨[(0, .l (.val (.list 138 (.int .u32)))), (1, .l (.val (.list 138 (.int .u32)))), (5, .l (.val (.int .i64)))], []⟩
noncomputable abbrev Tl (k : Nat) : List (Nat × Hint (prods F.cout.tys)) := [(6, ⟨c6, fun x => nat_N_Cmp.l6 k x.1 x.2.1 x.2.2⟩)]
noncomputable abbrev T (k : Nat) : Nat → Option (Hint (prods F.cout.tys)) := look (Tl k)
noncomputable abbrev body : Code := Go.Proofs.Tryd.f68.body.getD .skip
theorem s6 (k : Nat) (x : prods c6.tys) : nat_N_Cmp.l6 (k + 1) x.1 x.2.1 x.2.2 = segK (Γ k) F (T k) body 6 (c6.st x) := by kernel_rfl
theorem main (k : Nat) (x : prods (con 0).cin.tys) : nat_N_Cmp.f k x.1 x.2 = goK (Γ k) F (T k) 2000 [.code body] ((con 0).cin.st x) := by kernel_rfl
theorem okΓ (k : Nat) : ΓOk Go.Proofs.Tryd.prog (Γ k) := Γnil
theorem ok (k : Nat) : ConSound Go.Proofs.Tryd.prog 68 (con k) := con_sound (Γ := Γ) (fn := Go.Proofs.Tryd.f68) (body := body) (cin := (con 0).cin) (F := F) (T := T) follows (by kernel_rfl) (by kernel_rfl) (by kernel_rfl) (by kernel_rfl) (by kernel_rfl) (by decide +kernel) (by kernel_rfl) (by kernel_rfl) (tzero ⟨fun x => by kernel_rfl, trivial⟩) k (fun m _ => okΓ m) (fun m _ => tstep ⟨fun x => Eq.trans (by kernel_rfl) (s6 m x), trivial⟩) (fun x y h => (main k x).symm.trans h)
end nat_N_Cmp
namespace nat_N_short
noncomputable abbrev con (k : Nat) : Con := ⟨⟨[(0, .l (.val (.list 138 (.int .u32)))), (1, .l (.val (.int .u32)))], []⟩, ⟨[(0, .l (.val (.list 138 (.int .u32)))), (1, .l (.val (.list 138 (.int .u32))))], []⟩, fun x => nat_N_short.f k x.1 x.2⟩
noncomputable abbrev Γ (k : Nat) : FuncId → Option Con := look [(86, nat_N_trim.con k)]
abbrev F : Fin Go.Proofs.Tryd.prog := ⟨⟨[(0, .l (.val (.list 138 (.int .u32)))), (1, .l (.val (.list 138 (.int .u32))))], []⟩, [], [.tmp 4, .tmp 5]⟩
abbrev c0 : Cut := ⟨[(0, .l (.val (.list 138 (.int .u32)))), (1, .l (.val (.int .u32)))], []⟩
abbrev c4 : Cut := ⟨[(0, .l (.val (.list 138 (.int .u32)))), (1, .l (.val (.int .u32))), (6, .l (.row 7000000)), (7, .l (.val (.int .u64))), (8, .l (.val (.int .i64)))], [(7000000, .row 138 (.int .u32))]⟩
noncomputable abbrev Tl (k : Nat) : List (Nat × Hint (prods F.cout.tys)) := [(0, ⟨c0, fun x => nat_N_short.l0 k x.1 x.2⟩), (4, ⟨c4, fun x => nat_N_short.l4 k x.1 x.2.1 x.2.2.1 x.2.2.2.1 x.2.2.2.2⟩)]
noncomputable abbrev T (k : Nat) : Nat → Option (Hint (prods F.cout.tys)) := look (Tl k)
noncomputable abbrev body : Code := Go.Proofs.Tryd.f90.body.getD .skip
theorem s0 (k : Nat) (x : prods c0.tys) : nat_N_short.l0 (k + 1) x.1 x.2 = segK (Γ k) F (T k) body 0 (c0.st x) := by kernel_rfl
theorem s4 (k : Nat) (x : prods c4.tys) : nat_N_short.l4 (k + 1) x.1 x.2.1 x.2.2.1 x.2.2.2.1 x.2.2.2.2 = segK (Γ k) F (T k) body 4 (c4.st x) := by kernel_rfl
theorem main (k : Nat) (x : prods (con 0).cin.tys) : nat_N_short.f k x.1 x.2 = goK (Γ k) F (T k) 2000 [.code body] ((con 0).cin.st x) := by kernel_rfl
theorem okΓ (k : Nat) : ΓOk Go.Proofs.Tryd.prog (Γ k) := Γcons (nat_N_trim.ok k) ⟨Go.Proofs.Tryd.f86, by kernel_rfl, by kernel_rfl, by kernel_rfl⟩ (Γnil)
theorem ok (k : Nat) : ConSound Go.Proofs.Tryd.prog 90 (con k) := con_sound (Γ := Γ) (fn := Go.Proofs.Tryd.f90) (body := body) (cin := (con 0).cin) (F := F) (T := T) follows (by kernel_rfl) (by kernel_rfl) (by kernel_rfl) (by kernel_rfl) (by kernel_rfl) (by decide +kernel) (by kernel_rfl) (by kernel_rfl) (tzero ⟨fun x => by kernel_rfl, fun x => by kernel_rfl, trivial⟩) k (fun m _ => okΓ m) (fun m _ => tstep ⟨fun x => Eq.trans (by kernel_rfl) (s0 m x), fun x => Eq.trans (by kernel_rfl) (s4 m x), trivial⟩) (fun x y h => (main k x).symm.trans h)
end nat_N_short
namespace nat_N_Mul
noncomputable abbrev con (k : Nat) : Con := ⟨⟨[(0, .l (.val (.list 138 (.int .u32)))), (1, .l (.val (.list 138 (.int .u32))))], []⟩, ⟨[(0, .l (.row 0))], [(0, .row 138 (.int .u32))]⟩, fun x => nat_N_Mul.f k x.1 x.2⟩
noncomputable abbrev Γ (k : Nat) : FuncId → Option Con := look [(86, nat_N_trim.con k)]
abbrev F : Fin Go.Proofs.Tryd.prog := ⟨⟨[(0, .l (.row 0))], [(0, .row 138 (.int .u32))]⟩, [], [.tmp 4]⟩
abbrev c0 : Cut := ⟨[(0, .l (.val (.list 138 (.int .u32)))), (1, .l (.val (.list 138 (.int .u32))))], []⟩
abbrev c3 : Cut := ⟨[(1, .l (.val (.list 138 (.int .u32)))), (5, .l (.row 7000000)), (18, .l (.val (.list 138 (.int .u32)))), (19, .l (.val (.int .i64))), (20, .l (.val (.int .i64)))], [(7000000, .row 138 (.int .u32))]⟩
abbrev c7 : Cut := ⟨[(1, .l (.val (.list 138 (.int .u32)))), (5, .l (.row 7000000)), (6, .l (.val (.int .i64))), (7, .l (.val (.int .u32))), (8, .l (.val (.int .u64))), (18, .l (.val (.list 138 (.int .u32)))), (19, .l (.val (.int .i64))), (20, .l (.val (.int .i64))), (25, .l (.val (.list 138 (.int .u32)))), (26, .l (.val (.int .i64))), (27, .l (.val (.int .i64)))], [(7000000, .row 138 (.int .u32))]⟩
noncomputable abbrev Tl (k : Nat) : List (Nat × Hint (prods F.cout.tys)) := [(0, ⟨c0, fun x => nat_N_Mul.l0 k x.1 x.2⟩), (3, ⟨c3, fun x => nat_N_Mul.l3 k x.1 x.2.1 x.2.2.1 x.2.2.2.1 x.2.2.2.2⟩), (7, ⟨c7, fun x => nat_N_Mul.l7 k x.1 x.2.1 x.2.2.1 x.2.2.2.1 x.2.2.2.2.1 x.2.2.2.2.2.1 x.2.2.2.2.2.2.1 x.2.2.2.2.2.2.2.1 x.2.2.2.2.2.2.2.2.1 x.2.2.2.2.2.2.2.2.2.1 x.2.2.2.2.2.2.2.2.2.2⟩)]
noncomputable abbrev T (k : Nat) : Nat → Option (Hint (prods F.cout.tys)) := look (Tl k)
noncomputable abbrev body : Code := Go.Proofs.Tryd.f66.body.getD .skip
theorem s0 (k : Nat) (x : prods c0.tys) : nat_N_Mul.l0 (k + 1) x.1 x.2 = segK (Γ k) F (T k) body 0 (c0.st x) := by kernel_rfl
theorem s3 (k : Nat) (x : prods c3.tys) : nat_N_Mul.l3 (k + 1) x.1 x.2.1 x.2.2.1 x.2.2.2.1 x.2.2.2.2 = segK (Γ k) F (T k) body 3 (c3.st x) := by kernel_rfl
theorem s7 (k : Nat) (x : prods c7.tys) : nat_N_Mul.l7 (k + 1) x.1 x.2.1 x.2.2.1 x.2.2.2.1 x.2.2.2.2.1 x.2.2.2.2.2.1 x.2.2.2.2.2.2.1 x.2.2.2.2.2.2.2.1 x.2.2.2.2.2.2.2.2.1 x.2.2.2.2.2.2.2.2.2.1 x.2.2.2.2.2.2.2.2.2.2 = segK (Γ k) F (T k) body 7 (c7.st x) := by kernel_rfl
theorem main (k : Nat) (x : prods (con 0).cin.tys) : nat_N_Mul.f k x.1 x.2 = goK (Γ k) F (T k) 2000 [.code body] ((con 0).cin.st x) := by kernel_rfl
theorem okΓ (k : Nat) : ΓOk Go.Proofs.Tryd.prog (Γ k) := Γcons (nat_N_trim.ok k) ⟨Go.Proofs.Tryd.f86, by kernel_rfl, by kernel_rfl, by kernel_rfl⟩ (Γnil)
theorem ok (k : Nat) : ConSound Go.Proofs.Tryd.prog 66 (con k) := con_sound (Γ := Γ) (fn := Go.Proofs.Tryd.f66) (body := body) (cin := (con 0).cin) (F := F) (T := T) follows (by kernel_rfl) (by kernel_rfl) (by kernel_rfl) (by kernel_rfl) (by kernel_rfl) (by decide +kernel) (by kernel_rfl) (by kernel_rfl) (tzero ⟨fun x => by kernel_rfl, fun x => by kernel_rfl, fun x => by kernel_rfl, trivial⟩) k (fun m _ => okΓ m) (fun m _ => tstep ⟨fun x => Eq.trans (by kernel_rfl) (s0 m x), fun x => Eq.trans (by kernel_rfl) (s3 m x), fun x => Eq.trans (by kernel_rfl) (s7 m x), trivial⟩) (fun x y h => (main k x).symm.trans h)
end nat_N_Mul
namespace nat_N_minus
noncomputable abbrev con (k : Nat) : Con := ⟨⟨[(0, .l (.row 9000000)), (1, .l (.val (.list 138 (.int .u32)))), (2, .l (.val (.int .i64))), (3, .l (.val (.int .u64)))], [(9000000, .row 138 (.int .u32))]⟩, ⟨[(0, .l (.val .bool))], [(9000000, .row 138 (.int .u32))]⟩, fun x => nat_N_minus.f k x.1 x.2.1 x.2.2.1 x.2.2.2⟩
noncomputable abbrev Γ (k : Nat) : FuncId → Option Con := look []
abbrev F : Fin Go.Proofs.Tryd.prog := ⟨⟨[(0, .l (.val .bool))], [(9000000, .row 138 (.int .u32))]⟩, [9000000], [.tmp 8]⟩
abbrev c4 : Cut := ⟨[(0, .l (.row 9000000)), (1, .l (.val (.list 138 (.int .u32)))), (2, .l (.val (.int .i64))), (3, .l (.val (.int .u64))), (9, .l (.val (.int .i64))), (10, .l (.val (.int .u64))), (11, .l (.val (.int .i64)))], [(9000000, .row 138 (.int .u32))]⟩
abbrev c9 : Cut := ⟨[(0, .l (.row 9000000)), (1, .l (.val (.list 138 (.int .u32)))), (2, .l (.val (.int .i64))), (3, .l (.val (.int .u64))), (9, .l (.val (.int .i64))), (11, .l (.val (.int .i64))), (12, .l (.val (.int .u64)))], [(9000000, .row 138 (.int .u32))]⟩
noncomputable abbrev Tl (k : Nat) : List (Nat × Hint (prods F.cout.tys)) := [(4, ⟨c4, fun x => nat_N_minus.l4 k x.1 x.2.1 x.2.2.1 x.2.2.2.1 x.2.2.2.2.1 x.2.2.2.2.2.1 x.2.2.2.2.2.2⟩), (9, ⟨c9, fun x => nat_N_minus.l9 k x.1 x.2.1 x.2.2.1 x.2.2.2.1 x.2.2.2.2.1 x.2.2.2.2.2.1 x.2.2.2.2.2.2⟩)]
noncomputable abbrev T (k : Nat) : Nat → Option (Hint (prods F.cout.tys)) := look (Tl k)
noncomputable abbrev body : Code := Go.Proofs.Tryd.f91.body.getD .skip
theorem s4 (k : Nat) (x : prods c4.tys) : nat_N_minus.l4 (k + 1) x.1 x.2.1 x.2.2.1 x.2.2.2.1 x.2.2.2.2.1 x.2.2.2.2.2.1 x.2.2.2.2.2.2 = segK (Γ k) F (T k) body 4 (c4.st x) := by kernel_rfl
theorem s9 (k : Nat) (x : prods c9.tys) : nat_N_minus.l9 (k + 1) x.1 x.2.1 x.2.2.1 x.2.2.2.1 x.2.2.2.2.1 x.2.2.2.2.2.1 x.2.2.2.2.2.2 = segK (Γ k) F (T k) body 9 (c9.st x) := by kernel_rfl
theorem main (k : Nat) (x : prods (con 0).cin.tys) : nat_N_minus.f k x.1 x.2.1 x.2.2.1 x.2.2.2 = goK (Γ k) F (T k) 2000 [.code body] ((con 0).cin.st x) := by kernel_rfl
theorem okΓ (k : Nat) : ΓOk Go.Proofs.Tryd.prog (Γ k) := Γnil
theorem ok (k : Nat) : ConSound Go.Proofs.Tryd.prog 91 (con k) := con_sound (Γ := Γ) (fn := Go.Proofs.Tryd.f91) (body := body) (cin := (con 0).cin) (F := F) (T := T) follows (by kernel_rfl) (by kernel_rfl) (by kernel_rfl) (by kernel_rfl) (by kernel_rfl) (by decide +kernel) (by kernel_rfl) (by kernel_rfl) (tzero ⟨fun x => by kernel_rfl, fun x => by kernel_rfl, trivial⟩) k (fun m _ => okΓ m) (fun m _ => tstep ⟨fun x => Eq.trans (by kernel_rfl) (s4 m x), fun x => Eq.trans (by kernel_rfl) (s9 m x), trivial⟩) (fun x y h => (main k x).symm.trans h)
end nat_N_minus
namespace nat_N_plus
noncomputable abbrev con (k : Nat) : Con := ⟨⟨[(0, .l (.row 9000000)), (1, .l (.val (.list 138 (.int .u32)))), (2, .l (.val (.int .i64)))], [(9000000, .row 138 (.int .u32))]⟩, ⟨[], [(9000000, .row 138 (.int .u32))]⟩, fun x => nat_N_plus.f k x.1 x.2.1 x.2.2⟩
noncomputable abbrev Γ (k : Nat) : FuncId → Option Con := look []
abbrev F : Fin Go.Proofs.Tryd.prog := ⟨⟨[], [(9000000, .row 138 (.int .u32))]⟩, [9000000], []⟩
abbrev c2 : Cut := ⟨[(0, .l (.row 9000000)), (1, .l (.val (.list 138 (.int .u32)))), (2, .l (.val (.int .i64))), (6, .l (.val (.int .u32))), (7, .l (.val (.int .i64)))], [(9000000, .row 138 (.int .u32))]⟩
noncomputable abbrev Tl (k : Nat) : List (Nat × Hint (prods F.cout.tys)) := [(2, ⟨c2, fun x => nat_N_plus.l2 k x.1 x.2.1 x.2.2.1 x.2.2.2.1 x.2.2.2.2⟩)]
noncomputable abbrev T (k : Nat) : Nat → Option (Hint (prods F.cout.tys)) := look (Tl k)
noncomputable abbrev body : Code := Go.Proofs.Tryd.f92.body.getD .skip
theorem s2 (k : Nat) (x : prods c2.tys) : nat_N_plus.l2 (k + 1) x.1 x.2.1 x.2.2.1 x.2.2.2.1 x.2.2.2.2 = segK (Γ k) F (T k) body 2 (c2.st x) := by kernel_rfl
theorem main (k : Nat) (x : prods (con 0).cin.tys) : nat_N_plus.f k x.1 x.2.1 x.2.2 = goK (Γ k) F (T k) 2000 [.code body] ((con 0).cin.st x) := by kernel_rfl
theorem okΓ (k : Nat) : ΓOk Go.Proofs.Tryd.prog (Γ k) := Γnil
theorem ok (k : Nat) : ConSound Go.Proofs.Tryd.prog 92 (con k) := con_sound (Γ := Γ) (fn := Go.Proofs.Tryd.f92) (body := body) (cin := (con 0).cin) (F := F) (T := T) follows (by kernel_rfl) (by kernel_rfl) (by kernel_rfl) (by kernel_rfl) (by kernel_rfl) (by decide +kernel) (by kernel_rfl) (by kernel_rfl) (tzero ⟨fun x => by kernel_rfl, trivial⟩) k (fun m _ => okΓ m) (fun m _ => tstep ⟨fun x => Eq.trans (by kernel_rfl) (s2 m x), trivial⟩) (fun x y h => (main k x).symm.trans h)
end nat_N_plus
namespace nat_N_Div
noncomputable abbrev con (k : Nat) : Con := ⟨⟨[(0, .l (.val (.list 138 (.int .u32)))), (1, .l (.val (.list 138 (.int .u32))))], []⟩, ⟨[(0, .l (.val (.list 138 (.int .u32)))), (1, .l (.val (.list 138 (.int .u32))))], []⟩, fun x => nat_N_Div.f k x.1 x.2⟩
noncomputable abbrev Γ (k : Nat) : FuncId → Option Con := look [(66, nat_N_Mul.con k), (68, nat_N_Cmp.con k), (86, nat_N_trim.con k), (90, nat_N_short.con k), (91, nat_N_minus.con k), (92, nat_N_plus.con k)]
abbrev F : Fin Go.Proofs.Tryd.prog := ⟨⟨[(0, .l (.val (.list 138 (.int .u32)))), (1, .l (.val (.list 138 (.int .u32))))], []⟩, [], [.tmp 4, .tmp 5]⟩
abbrev c0 : Cut := ⟨[(0, .l (.val (.list 138 (.int .u32)))), (1, .l (.val (.list 138 (.int .u32))))], []⟩
abbrev c7 : Cut := ⟨[(0, .l (.val (.list 138 (.int .u32)))), (6, .l (.val (.int .u32))), (7, .l (.row 7000000)), (8, .l (.row 7000001))], [(7000000, .row 138 (.int .u32)), (7000001, .row 138 (.int .u32))]⟩
abbrev c12 : Cut := ⟨[(6, .l (.val (.int .u32))), (7, .l (.row 7000000)), (8, .l (.row 7000001)), (9, .l (.val (.int .i64))), (10, .l (.row 7000002)), (11, .l (.val (.int .i64)))], [(7000000, .row 138 (.int .u32)), (7000001, .row 138 (.int .u32)), (7000002, .row 138 (.int .u32))]⟩
abbrev c16 : Cut := ⟨[(6, .l (.val (.int .u32))), (7, .l (.row 7000000)), (8, .l (.row 7000001)), (9, .l (.val (.int .i64))), (10, .l (.row 7000002)), (11, .l (.val (.int .i64))), (13, .l (.val (.int .u64))), (14, .l (.val (.int .u64)))], [(7000000, .row 138 (.int .u32)), (7000001, .row 138 (.int .u32)), (7000002, .row 138 (.int .u32))]⟩
noncomputable abbrev Tl (k : Nat) : List (Nat × Hint (prods F.cout.tys)) := [(0, ⟨c0, fun x => nat_N_Div.l0 k x.1 x.2⟩), (7, ⟨c7, fun x => nat_N_Div.l7 k x.1 x.2.1 x.2.2.1 x.2.2.2⟩), (12, ⟨c12, fun x => nat_N_Div.l12 k x.1 x.2.1 x.2.2.1 x.2.2.2.1 x.2.2.2.2.1 x.2.2.2.2.2⟩), (16, ⟨c16, fun x => nat_N_Div.l16 k x.1 x.2.1 x.2.2.1 x.2.2.2.1 x.2.2.2.2.1 x.2.2.2.2.2.1 x.2.2.2.2.2.2.1 x.2.2.2.2.2.2.2⟩)]
noncomputable abbrev T (k : Nat) : Nat → Option (Hint (prods F.cout.tys)) := look (Tl k)
noncomputable abbrev body : Code := Go.Proofs.Tryd.f73.body.getD .skip
theorem s0 (k : Nat) (x : prods c0.tys) : nat_N_Div.l0 (k + 1) x.1 x.2 = segK (Γ k) F (T k) body 0 (c0.st x) := by kernel_rfl
theorem s7 (k : Nat) (x : prods c7.tys) : nat_N_Div.l7 (k + 1) x.1 x.2.1 x.2.2.1 x.2.2.2 = segK (Γ k) F (T k) body 7 (c7.st x) := by kernel_rfl
theorem s12 (k : Nat) (x : prods c12.tys) : nat_N_Div.l12 (k + 1) x.1 x.2.1 x.2.2.1 x.2.2.2.1 x.2.2.2.2.1 x.2.2.2.2.2 = segK (Γ k) F (T k) body 12 (c12.st x) := by kernel_rfl
theorem s16 (k : Nat) (x : prods c16.tys) : nat_N_Div.l16 (k + 1) x.1 x.2.1 x.2.2.1 x.2.2.2.1 x.2.2.2.2.1 x.2.2.2.2.2.1 x.2.2.2.2.2.2.1 x.2.2.2.2.2.2.2 = segK (Γ k) F (T k) body 16 (c16.st x) := by kernel_rfl
theorem main (k : Nat) (x : prods (con 0).cin.tys) : nat_N_Div.f k x.1 x.2 = goK (Γ k) F (T k) 2000 [.code body] ((con 0).cin.st x) := by kernel_rfl
theorem okΓ (k : Nat) : ΓOk Go.Proofs.Tryd.prog (Γ k) := Γcons (nat_N_Mul.ok k) ⟨Go.Proofs.Tryd.f66, by kernel_rfl, by kernel_rfl, by kernel_rfl⟩ (Γcons (nat_N_Cmp.ok k) ⟨Go.Proofs.Tryd.f68, by kernel_rfl, by kernel_rfl, by kernel_rfl⟩ (Γcons (nat_N_trim.ok k) ⟨Go.Proofs.Tryd.f86, by kernel_rfl, by kernel_rfl, by kernel_rfl⟩ (Γcons (nat_N_short.ok k) ⟨Go.Proofs.Tryd.f90, by kernel_rfl, by kernel_rfl, by kernel_rfl⟩ (Γcons (nat_N_minus.ok k) ⟨Go.Proofs.Tryd.f91, by kernel_rfl, by kernel_rfl, by kernel_rfl⟩ (Γcons (nat_N_plus.ok k) ⟨Go.Proofs.Tryd.f92, by kernel_rfl, by kernel_rfl, by kernel_rfl⟩ (Γnil))))))
theorem ok (k : Nat) : ConSound Go.Proofs.Tryd.prog 73 (con k) := con_sound (Γ := Γ) (fn := Go.Proofs.Tryd.f73) (body := body) (cin := (con 0).cin) (F := F) (T := T) follows (by kernel_rfl) (by kernel_rfl) (by kernel_rfl) (by kernel_rfl) (by kernel_rfl) (by decide +kernel) (by kernel_rfl) (by kernel_rfl) (tzero ⟨fun x => by kernel_rfl, fun x => by kernel_rfl, fun x => by kernel_rfl, fun x => by kernel_rfl, trivial⟩) k (fun m _ => okΓ m) (fun m _ => tstep ⟨fun x => Eq.trans (by kernel_rfl) (s0 m x), fun x => Eq.trans (by kernel_rfl) (s7 m x), fun x => Eq.trans (by kernel_rfl) (s12 m x), fun x => Eq.trans (by kernel_rfl) (s16 m x), trivial⟩) (fun x y h => (main k x).symm.trans h)
end nat_N_Div
namespace nat_N_Gcd
noncomputable abbrev con (k : Nat) : Con := ⟨⟨[(0, .l (.val (.list 138 (.int .u32)))), (1, .l (.val (.list 138 (.int .u32))))], []⟩, ⟨[(0, .l (.val (.list 138 (.int .u32))))], []⟩, fun x => nat_N_Gcd.f k x.1 x.2⟩
noncomputable abbrev Γ (k : Nat) : FuncId → Option Con := look [(73, nat_N_Div.con k)]
abbrev F : Fin Go.Proofs.Tryd.prog := ⟨⟨[(0, .l (.val (.list 138 (.int .u32))))], []⟩, [], [.tmp 4]⟩
abbrev c1 : Cut := ⟨[(0, .l (.val (.list 138 (.int .u32)))), (1, .l (.val (.list 138 (.int .u32))))], []⟩
noncomputable abbrev Tl (k : Nat) : List (Nat × Hint (prods F.cout.tys)) := [(1, ⟨c1, fun x => nat_N_Gcd.l1 k x.1 x.2⟩)]
noncomputable abbrev T (k : Nat) : Nat → Option (Hint (prods F.cout.tys)) := look (Tl k)
noncomputable abbrev body : Code := Go.Proofs.Tryd.f72.body.getD .skip
theorem s1 (k : Nat) (x : prods c1.tys) : nat_N_Gcd.l1 (k + 1) x.1 x.2 = segK (Γ k) F (T k) body 1 (c1.st x) := by kernel_rfl
theorem main (k : Nat) (x : prods (con 0).cin.tys) : nat_N_Gcd.f k x.1 x.2 = goK (Γ k) F (T k) 2000 [.code body] ((con 0).cin.st x) := by kernel_rfl
theorem okΓ (k : Nat) : ΓOk Go.Proofs.Tryd.prog (Γ k) := Γcons (nat_N_Div.ok k) ⟨Go.Proofs.Tryd.f73, by kernel_rfl, by kernel_rfl, by kernel_rfl⟩ (Γnil)
theorem ok (k : Nat) : ConSound Go.Proofs.Tryd.prog 72 (con k) := con_sound (Γ := Γ) (fn := Go.Proofs.Tryd.f72) (body := body) (cin := (con 0).cin) (F := F) (T := T) follows (by kernel_rfl) (by kernel_rfl) (by kernel_rfl) (by kernel_rfl) (by kernel_rfl) (by decide +kernel) (by kernel_rfl) (by kernel_rfl) (tzero ⟨fun x => by kernel_rfl, trivial⟩) k (fun m _ => okΓ m) (fun m _ => tstep ⟨fun x => Eq.trans (by kernel_rfl) (s1 m x), trivial⟩) (fun x y h => (main k x).symm.trans h)
end nat_N_Gcd
namespace nat_Of
noncomputable abbrev con (k : Nat) : Con := ⟨⟨[(0, .l (.val (.int .i64)))], []⟩, ⟨[(0, .l (.val (.list 138 (.int .u32))))], []⟩, fun x => nat_Of.f k x⟩
noncomputable abbrev Γ (k : Nat) : FuncId → Option Con := look []
abbrev F : Fin Go.Proofs.Tryd.prog := ⟨⟨[(0, .l (.val (.list 138 (.int .u32))))], []⟩, [], [.tmp 2]⟩
abbrev c2 : Cut := ⟨[(0, .l (.val (.int .i64))), (3, .l (.row 7000500))], [(7000500, .row 138 (.int .u32))]⟩
noncomputable abbrev Tl (k : Nat) : List (Nat × Hint (prods F.cout.tys)) := [(2, ⟨c2, fun x => nat_Of.l2 k x.1 x.2⟩)]
noncomputable abbrev T (k : Nat) : Nat → Option (Hint (prods F.cout.tys)) := look (Tl k)
noncomputable abbrev body : Code := Go.Proofs.Tryd.f61.body.getD .skip
theorem s2 (k : Nat) (x : prods c2.tys) : nat_Of.l2 (k + 1) x.1 x.2 = segK (Γ k) F (T k) body 2 (c2.st x) := by kernel_rfl
theorem main (k : Nat) (x : prods (con 0).cin.tys) : nat_Of.f k x = goK (Γ k) F (T k) 2000 [.code body] ((con 0).cin.st x) := by kernel_rfl
theorem okΓ (k : Nat) : ΓOk Go.Proofs.Tryd.prog (Γ k) := Γnil
theorem ok (k : Nat) : ConSound Go.Proofs.Tryd.prog 61 (con k) := con_sound (Γ := Γ) (fn := Go.Proofs.Tryd.f61) (body := body) (cin := (con 0).cin) (F := F) (T := T) follows (by kernel_rfl) (by kernel_rfl) (by kernel_rfl) (by kernel_rfl) (by kernel_rfl) (by decide +kernel) (by kernel_rfl) (by kernel_rfl) (tzero ⟨fun x => by kernel_rfl, trivial⟩) k (fun m _ => okΓ m) (fun m _ => tstep ⟨fun x => Eq.trans (by kernel_rfl) (s2 m x), trivial⟩) (fun x y h => (main k x).symm.trans h)
end nat_Of
namespace rat_Check
noncomputable abbrev con (k : Nat) : Con := ⟨⟨[(0, .l (.val .str))], []⟩, ⟨[(0, .l (.val (.int .i64)))], []⟩, fun x => rat_Check.f k x⟩
noncomputable abbrev Γ (k : Nat) : FuncId → Option Con := look [(58, strings_CutPrefix.con k), (59, strings_Cut.con k), (60, nat_Read.con k), (61, nat_Of.con k), (68, nat_N_Cmp.con k), (72, nat_N_Gcd.con k), (83, nat_Check.con k)]
abbrev F : Fin Go.Proofs.Tryd.prog := ⟨⟨[(0, .l (.val (.int .i64)))], []⟩, [], [.tmp 2]⟩
abbrev c6 : Cut := ⟨[(4, .l (.val .bool)), (5, .l (.val .str)), (6, .l (.val .str)), (7, .l (.val .bool)), (8, .l (.val (.int .i64))), (9, .l (.val (.int .i64)))], []⟩
noncomputable abbrev Tl (k : Nat) : List (Nat × Hint (prods F.cout.tys)) := [(6, ⟨c6, fun x => rat_Check.l6 k x.1 x.2.1 x.2.2.1 x.2.2.2.1 x.2.2.2.2.1 x.2.2.2.2.2⟩)]
noncomputable abbrev T (k : Nat) : Nat → Option (Hint (prods F.cout.tys)) := look (Tl k)
noncomputable abbrev body : Code := Go.Proofs.Tryd.f57.body.getD .skip
theorem s6 (k : Nat) (x : prods c6.tys) : rat_Check.l6 (k + 1) x.1 x.2.1 x.2.2.1 x.2.2.2.1 x.2.2.2.2.1 x.2.2.2.2.2 = segK (Γ k) F (T k) body 6 (c6.st x) := by kernel_rfl
theorem main (k : Nat) (x : prods (con 0).cin.tys) : rat_Check.f k x = goK (Γ k) F (T k) 2000 [.code body] ((con 0).cin.st x) := by kernel_rfl
theorem okΓ (k : Nat) : ΓOk Go.Proofs.Tryd.prog (Γ k) := Γcons (strings_CutPrefix.ok k) ⟨Go.Proofs.Tryd.f58, by kernel_rfl, by kernel_rfl, by kernel_rfl⟩ (Γcons (strings_Cut.ok k) ⟨Go.Proofs.Tryd.f59, by kernel_rfl, by kernel_rfl, by kernel_rfl⟩ (Γcons (nat_Read.ok k) ⟨Go.Proofs.Tryd.f60, by kernel_rfl, by kernel_rfl, by kernel_rfl⟩ (Γcons (nat_Of.ok k) ⟨Go.Proofs.Tryd.f61, by kernel_rfl, by kernel_rfl, by kernel_rfl⟩ (Γcons (nat_N_Cmp.ok k) ⟨Go.Proofs.Tryd.f68, by kernel_rfl, by kernel_rfl, by kernel_rfl⟩ (Γcons (nat_N_Gcd.ok k) ⟨Go.Proofs.Tryd.f72, by kernel_rfl, by kernel_rfl, by kernel_rfl⟩ (Γcons (nat_Check.ok k) ⟨Go.Proofs.Tryd.f83, by kernel_rfl, by kernel_rfl, by kernel_rfl⟩ (Γnil)))))))
theorem ok (k : Nat) : ConSound Go.Proofs.Tryd.prog 57 (con k) := con_sound (Γ := Γ) (fn := Go.Proofs.Tryd.f57) (body := body) (cin := (con 0).cin) (F := F) (T := T) follows (by kernel_rfl) (by kernel_rfl) (by kernel_rfl) (by kernel_rfl) (by kernel_rfl) (by decide +kernel) (by kernel_rfl) (by kernel_rfl) (tzero ⟨fun x => by kernel_rfl, trivial⟩) k (fun m _ => okΓ m) (fun m _ => tstep ⟨fun x => Eq.trans (by kernel_rfl) (s6 m x), trivial⟩) (fun x y h => (main k x).symm.trans h)
end rat_Check
namespace rat_CheckAll
noncomputable abbrev con (k : Nat) : Con := ⟨⟨[(0, .l (.val (.list 28 .str)))], []⟩, ⟨[(0, .l (.val (.int .i64)))], []⟩, fun x => rat_CheckAll.f k x⟩
noncomputable abbrev Γ (k : Nat) : FuncId → Option Con := look [(57, rat_Check.con k)]
abbrev F : Fin Go.Proofs.Tryd.prog := ⟨⟨[(0, .l (.val (.int .i64)))], []⟩, [], [.tmp 2]⟩
abbrev c2 : Cut := ⟨[(6, .l (.val (.list 28 .str))), (7, .l (.val (.int .i64))), (8, .l (.val (.int .i64)))], []⟩
noncomputable abbrev Tl (k : Nat) : List (Nat × Hint (prods F.cout.tys)) := [(2, ⟨c2, fun x => rat_CheckAll.l2 k x.1 x.2.1 x.2.2⟩)]
noncomputable abbrev T (k : Nat) : Nat → Option (Hint (prods F.cout.tys)) := look (Tl k)
noncomputable abbrev body : Code := Go.Proofs.Tryd.f28.body.getD .skip
theorem s2 (k : Nat) (x : prods c2.tys) : rat_CheckAll.l2 (k + 1) x.1 x.2.1 x.2.2 = segK (Γ k) F (T k) body 2 (c2.st x) := by kernel_rfl
theorem main (k : Nat) (x : prods (con 0).cin.tys) : rat_CheckAll.f k x = goK (Γ k) F (T k) 2000 [.code body] ((con 0).cin.st x) := by kernel_rfl
theorem okΓ (k : Nat) : ΓOk Go.Proofs.Tryd.prog (Γ k) := Γcons (rat_Check.ok k) ⟨Go.Proofs.Tryd.f57, by kernel_rfl, by kernel_rfl, by kernel_rfl⟩ (Γnil)
theorem ok (k : Nat) : ConSound Go.Proofs.Tryd.prog 28 (con k) := con_sound (Γ := Γ) (fn := Go.Proofs.Tryd.f28) (body := body) (cin := (con 0).cin) (F := F) (T := T) follows (by kernel_rfl) (by kernel_rfl) (by kernel_rfl) (by kernel_rfl) (by kernel_rfl) (by decide +kernel) (by kernel_rfl) (by kernel_rfl) (tzero ⟨fun x => by kernel_rfl, trivial⟩) k (fun m _ => okΓ m) (fun m _ => tstep ⟨fun x => Eq.trans (by kernel_rfl) (s2 m x), trivial⟩) (fun x y h => (main k x).symm.trans h)
end rat_CheckAll
namespace rights_bus
noncomputable abbrev con (k : Nat) : Con := ⟨⟨[(0, .av Y26), (1, .av Y29), (2, .l (.val .str))], []⟩, ⟨[(0, .l (.val (.int .i64)))], []⟩, fun x => rights_bus.f k x.1 x.2.1 x.2.2⟩
noncomputable abbrev Γ (k : Nat) : FuncId → Option Con := look [(75, netmodel_Node.con k)]
abbrev F : Fin Go.Proofs.Tryd.prog := ⟨⟨[(0, .l (.val (.int .i64)))], []⟩, [], [.tmp 6]⟩
noncomputable abbrev Tl (k : Nat) : List (Nat × Hint (prods F.cout.tys)) := []
noncomputable abbrev T (k : Nat) : Nat → Option (Hint (prods F.cout.tys)) := look (Tl k)
noncomputable abbrev body : Code := Go.Proofs.Tryd.f51.body.getD .skip
theorem main (k : Nat) (x : prods (con 0).cin.tys) : rights_bus.f k x.1 x.2.1 x.2.2 = goK (Γ k) F (T k) 2000 [.code body] ((con 0).cin.st x) := by kernel_rfl
theorem okΓ (k : Nat) : ΓOk Go.Proofs.Tryd.prog (Γ k) := Γcons (netmodel_Node.ok k) ⟨Go.Proofs.Tryd.f75, by kernel_rfl, by kernel_rfl, by kernel_rfl⟩ (Γnil)
theorem ok (k : Nat) : ConSound Go.Proofs.Tryd.prog 51 (con k) := con_sound (Γ := Γ) (fn := Go.Proofs.Tryd.f51) (body := body) (cin := (con 0).cin) (F := F) (T := T) follows (by kernel_rfl) (by kernel_rfl) (by kernel_rfl) (by kernel_rfl) (by kernel_rfl) (by decide +kernel) (by kernel_rfl) (by kernel_rfl) (tzero trivial) k (fun m _ => okΓ m) (fun m _ => tstep trivial) (fun x y h => (main k x).symm.trans h)
end rights_bus
namespace rat_In
noncomputable abbrev con (k : Nat) : Con := ⟨⟨[(0, .l (.val .str))], []⟩, ⟨[(0, .av Y21)], []⟩, fun x => rat_In.f k x⟩
noncomputable abbrev Γ (k : Nat) : FuncId → Option Con := look [(58, strings_CutPrefix.con k), (59, strings_Cut.con k), (60, nat_Read.con k), (61, nat_Of.con k)]
abbrev F : Fin Go.Proofs.Tryd.prog := ⟨⟨[(0, .av Y21)], []⟩, [], [.cell 2 85]⟩
noncomputable abbrev Tl (k : Nat) : List (Nat × Hint (prods F.cout.tys)) := []
noncomputable abbrev T (k : Nat) : Nat → Option (Hint (prods F.cout.tys)) := look (Tl k)
noncomputable abbrev body : Code := Go.Proofs.Tryd.f29.body.getD .skip
theorem main (k : Nat) (x : prods (con 0).cin.tys) : rat_In.f k x = goK (Γ k) F (T k) 2000 [.code body] ((con 0).cin.st x) := by kernel_rfl
theorem okΓ (k : Nat) : ΓOk Go.Proofs.Tryd.prog (Γ k) := Γcons (strings_CutPrefix.ok k) ⟨Go.Proofs.Tryd.f58, by kernel_rfl, by kernel_rfl, by kernel_rfl⟩ (Γcons (strings_Cut.ok k) ⟨Go.Proofs.Tryd.f59, by kernel_rfl, by kernel_rfl, by kernel_rfl⟩ (Γcons (nat_Read.ok k) ⟨Go.Proofs.Tryd.f60, by kernel_rfl, by kernel_rfl, by kernel_rfl⟩ (Γcons (nat_Of.ok k) ⟨Go.Proofs.Tryd.f61, by kernel_rfl, by kernel_rfl, by kernel_rfl⟩ (Γnil))))
theorem ok (k : Nat) : ConSound Go.Proofs.Tryd.prog 29 (con k) := con_sound (Γ := Γ) (fn := Go.Proofs.Tryd.f29) (body := body) (cin := (con 0).cin) (F := F) (T := T) follows (by kernel_rfl) (by kernel_rfl) (by kernel_rfl) (by kernel_rfl) (by kernel_rfl) (by decide +kernel) (by kernel_rfl) (by kernel_rfl) (tzero trivial) k (fun m _ => okΓ m) (fun m _ => tstep trivial) (fun x y h => (main k x).symm.trans h)
end rat_In
namespace rat_Q_Neg
noncomputable abbrev con (k : Nat) : Con := ⟨⟨[(0, .av Y21)], []⟩, ⟨[(0, .av Y21)], []⟩, fun x => rat_Q_Neg.f k x⟩
noncomputable abbrev Γ (k : Nat) : FuncId → Option Con := look []
abbrev F : Fin Go.Proofs.Tryd.prog := ⟨⟨[(0, .av Y21)], []⟩, [], [.cell 2 85]⟩
noncomputable abbrev Tl (k : Nat) : List (Nat × Hint (prods F.cout.tys)) := []
noncomputable abbrev T (k : Nat) : Nat → Option (Hint (prods F.cout.tys)) := look (Tl k)
noncomputable abbrev body : Code := Go.Proofs.Tryd.f62.body.getD .skip
theorem main (k : Nat) (x : prods (con 0).cin.tys) : rat_Q_Neg.f k x = goK (Γ k) F (T k) 2000 [.code body] ((con 0).cin.st x) := by kernel_rfl
theorem okΓ (k : Nat) : ΓOk Go.Proofs.Tryd.prog (Γ k) := Γnil
theorem ok (k : Nat) : ConSound Go.Proofs.Tryd.prog 62 (con k) := con_sound (Γ := Γ) (fn := Go.Proofs.Tryd.f62) (body := body) (cin := (con 0).cin) (F := F) (T := T) follows (by kernel_rfl) (by kernel_rfl) (by kernel_rfl) (by kernel_rfl) (by kernel_rfl) (by decide +kernel) (by kernel_rfl) (by kernel_rfl) (tzero trivial) k (fun m _ => okΓ m) (fun m _ => tstep trivial) (fun x y h => (main k x).symm.trans h)
end rat_Q_Neg
namespace rat_Q_whole
noncomputable abbrev con (k : Nat) : Con := ⟨⟨[(0, .av Y21)], []⟩, ⟨[(0, .l (.val (.list 138 (.int .u32))))], []⟩, fun x => rat_Q_whole.f k x⟩
noncomputable abbrev Γ (k : Nat) : FuncId → Option Con := look [(61, nat_Of.con k)]
abbrev F : Fin Go.Proofs.Tryd.prog := ⟨⟨[(0, .l (.val (.list 138 (.int .u32))))], []⟩, [], [.tmp 2]⟩
noncomputable abbrev Tl (k : Nat) : List (Nat × Hint (prods F.cout.tys)) := []
noncomputable abbrev T (k : Nat) : Nat → Option (Hint (prods F.cout.tys)) := look (Tl k)
noncomputable abbrev body : Code := Go.Proofs.Tryd.f65.body.getD .skip
theorem main (k : Nat) (x : prods (con 0).cin.tys) : rat_Q_whole.f k x = goK (Γ k) F (T k) 2000 [.code body] ((con 0).cin.st x) := by kernel_rfl
theorem okΓ (k : Nat) : ΓOk Go.Proofs.Tryd.prog (Γ k) := Γcons (nat_Of.ok k) ⟨Go.Proofs.Tryd.f61, by kernel_rfl, by kernel_rfl, by kernel_rfl⟩ (Γnil)
theorem ok (k : Nat) : ConSound Go.Proofs.Tryd.prog 65 (con k) := con_sound (Γ := Γ) (fn := Go.Proofs.Tryd.f65) (body := body) (cin := (con 0).cin) (F := F) (T := T) follows (by kernel_rfl) (by kernel_rfl) (by kernel_rfl) (by kernel_rfl) (by kernel_rfl) (by decide +kernel) (by kernel_rfl) (by kernel_rfl) (tzero trivial) k (fun m _ => okΓ m) (fun m _ => tstep trivial) (fun x y h => (main k x).symm.trans h)
end rat_Q_whole
namespace nat_N_Add
noncomputable abbrev con (k : Nat) : Con := ⟨⟨[(0, .l (.val (.list 138 (.int .u32)))), (1, .l (.val (.list 138 (.int .u32))))], []⟩, ⟨[(0, .l (.val (.list 138 (.int .u32))))], []⟩, fun x => nat_N_Add.f k x.1 x.2⟩
noncomputable abbrev Γ (k : Nat) : FuncId → Option Con := look []
abbrev F : Fin Go.Proofs.Tryd.prog := ⟨⟨[(0, .l (.val (.list 138 (.int .u32))))], []⟩, [], [.tmp 4]⟩
abbrev c0 : Cut := ⟨[(0, .l (.val (.list 138 (.int .u32)))), (1, .l (.val (.list 138 (.int .u32))))], []⟩
abbrev c3 : Cut := ⟨[(0, .l (.val (.list 138 (.int .u32)))), (1, .l (.val (.list 138 (.int .u32))))], []⟩
abbrev c6 : Cut := ⟨[(1, .l (.val (.list 138 (.int .u32)))), (5, .l (.row 7000000)), (6, .l (.val (.int .u32))), (20, .l (.val (.list 138 (.int .u32)))), (21, .l (.val (.int .i64))), (22, .l (.val (.int .i64)))], [(7000000, .row 138 (.int .u32))]⟩
noncomputable abbrev Tl (k : Nat) : List (Nat × Hint (prods F.cout.tys)) := [(0, ⟨c0, fun x => nat_N_Add.l0 k x.1 x.2⟩), (3, ⟨c3, fun x => nat_N_Add.l3 k x.1 x.2⟩), (6, ⟨c6, fun x => nat_N_Add.l6 k x.1 x.2.1 x.2.2.1 x.2.2.2.1 x.2.2.2.2.1 x.2.2.2.2.2⟩)]
noncomputable abbrev T (k : Nat) : Nat → Option (Hint (prods F.cout.tys)) := look (Tl k)
noncomputable abbrev body : Code := Go.Proofs.Tryd.f67.body.getD .skip
theorem s0 (k : Nat) (x : prods c0.tys) : nat_N_Add.l0 (k + 1) x.1 x.2 = segK (Γ k) F (T k) body 0 (c0.st x) := by kernel_rfl
theorem s3 (k : Nat) (x : prods c3.tys) : nat_N_Add.l3 (k + 1) x.1 x.2 = segK (Γ k) F (T k) body 3 (c3.st x) := by kernel_rfl
theorem s6 (k : Nat) (x : prods c6.tys) : nat_N_Add.l6 (k + 1) x.1 x.2.1 x.2.2.1 x.2.2.2.1 x.2.2.2.2.1 x.2.2.2.2.2 = segK (Γ k) F (T k) body 6 (c6.st x) := by kernel_rfl
theorem main (k : Nat) (x : prods (con 0).cin.tys) : nat_N_Add.f k x.1 x.2 = goK (Γ k) F (T k) 2000 [.code body] ((con 0).cin.st x) := by kernel_rfl
theorem okΓ (k : Nat) : ΓOk Go.Proofs.Tryd.prog (Γ k) := Γnil
theorem ok (k : Nat) : ConSound Go.Proofs.Tryd.prog 67 (con k) := con_sound (Γ := Γ) (fn := Go.Proofs.Tryd.f67) (body := body) (cin := (con 0).cin) (F := F) (T := T) follows (by kernel_rfl) (by kernel_rfl) (by kernel_rfl) (by kernel_rfl) (by kernel_rfl) (by decide +kernel) (by kernel_rfl) (by kernel_rfl) (tzero ⟨fun x => by kernel_rfl, fun x => by kernel_rfl, fun x => by kernel_rfl, trivial⟩) k (fun m _ => okΓ m) (fun m _ => tstep ⟨fun x => Eq.trans (by kernel_rfl) (s0 m x), fun x => Eq.trans (by kernel_rfl) (s3 m x), fun x => Eq.trans (by kernel_rfl) (s6 m x), trivial⟩) (fun x y h => (main k x).symm.trans h)
end nat_N_Add
namespace rat_low
noncomputable abbrev con (k : Nat) : Con := ⟨⟨[(0, .l (.val .bool)), (1, .l (.val (.list 138 (.int .u32)))), (2, .l (.val (.list 138 (.int .u32))))], []⟩, ⟨[(0, .av Y21)], []⟩, fun x => rat_low.f k x.1 x.2.1 x.2.2⟩
noncomputable abbrev Γ (k : Nat) : FuncId → Option Con := look [(61, nat_Of.con k), (68, nat_N_Cmp.con k), (72, nat_N_Gcd.con k), (73, nat_N_Div.con k)]
abbrev F : Fin Go.Proofs.Tryd.prog := ⟨⟨[(0, .av Y21)], []⟩, [], [.cell 6 85]⟩
noncomputable abbrev Tl (k : Nat) : List (Nat × Hint (prods F.cout.tys)) := []
noncomputable abbrev T (k : Nat) : Nat → Option (Hint (prods F.cout.tys)) := look (Tl k)
noncomputable abbrev body : Code := Go.Proofs.Tryd.f42.body.getD .skip
theorem main (k : Nat) (x : prods (con 0).cin.tys) : rat_low.f k x.1 x.2.1 x.2.2 = goK (Γ k) F (T k) 2000 [.code body] ((con 0).cin.st x) := by kernel_rfl
theorem okΓ (k : Nat) : ΓOk Go.Proofs.Tryd.prog (Γ k) := Γcons (nat_Of.ok k) ⟨Go.Proofs.Tryd.f61, by kernel_rfl, by kernel_rfl, by kernel_rfl⟩ (Γcons (nat_N_Cmp.ok k) ⟨Go.Proofs.Tryd.f68, by kernel_rfl, by kernel_rfl, by kernel_rfl⟩ (Γcons (nat_N_Gcd.ok k) ⟨Go.Proofs.Tryd.f72, by kernel_rfl, by kernel_rfl, by kernel_rfl⟩ (Γcons (nat_N_Div.ok k) ⟨Go.Proofs.Tryd.f73, by kernel_rfl, by kernel_rfl, by kernel_rfl⟩ (Γnil))))
theorem ok (k : Nat) : ConSound Go.Proofs.Tryd.prog 42 (con k) := con_sound (Γ := Γ) (fn := Go.Proofs.Tryd.f42) (body := body) (cin := (con 0).cin) (F := F) (T := T) follows (by kernel_rfl) (by kernel_rfl) (by kernel_rfl) (by kernel_rfl) (by kernel_rfl) (by decide +kernel) (by kernel_rfl) (by kernel_rfl) (tzero trivial) k (fun m _ => okΓ m) (fun m _ => tstep trivial) (fun x y h => (main k x).symm.trans h)
end rat_low
namespace nat_N_Sub
noncomputable abbrev con (k : Nat) : Con := ⟨⟨[(0, .l (.val (.list 138 (.int .u32)))), (1, .l (.val (.list 138 (.int .u32))))], []⟩, ⟨[(0, .l (.val (.list 138 (.int .u32))))], []⟩, fun x => nat_N_Sub.f k x.1 x.2⟩
noncomputable abbrev Γ (k : Nat) : FuncId → Option Con := look [(86, nat_N_trim.con k)]
abbrev F : Fin Go.Proofs.Tryd.prog := ⟨⟨[(0, .l (.val (.list 138 (.int .u32))))], []⟩, [], [.tmp 4]⟩
abbrev c0 : Cut := ⟨[(0, .l (.val (.list 138 (.int .u32)))), (1, .l (.val (.list 138 (.int .u32))))], []⟩
abbrev c4 : Cut := ⟨[(0, .l (.val (.list 138 (.int .u32)))), (1, .l (.val (.list 138 (.int .u32)))), (5, .l (.row 7000000)), (6, .l (.val (.int .i64))), (13, .l (.val (.int .i64))), (14, .l (.val (.int .i64)))], [(7000000, .row 138 (.int .u32))]⟩
noncomputable abbrev Tl (k : Nat) : List (Nat × Hint (prods F.cout.tys)) := [(0, ⟨c0, fun x => nat_N_Sub.l0 k x.1 x.2⟩), (4, ⟨c4, fun x => nat_N_Sub.l4 k x.1 x.2.1 x.2.2.1 x.2.2.2.1 x.2.2.2.2.1 x.2.2.2.2.2⟩)]
noncomputable abbrev T (k : Nat) : Nat → Option (Hint (prods F.cout.tys)) := look (Tl k)
noncomputable abbrev body : Code := Go.Proofs.Tryd.f69.body.getD .skip
theorem s0 (k : Nat) (x : prods c0.tys) : nat_N_Sub.l0 (k + 1) x.1 x.2 = segK (Γ k) F (T k) body 0 (c0.st x) := by kernel_rfl
theorem s4 (k : Nat) (x : prods c4.tys) : nat_N_Sub.l4 (k + 1) x.1 x.2.1 x.2.2.1 x.2.2.2.1 x.2.2.2.2.1 x.2.2.2.2.2 = segK (Γ k) F (T k) body 4 (c4.st x) := by kernel_rfl
theorem main (k : Nat) (x : prods (con 0).cin.tys) : nat_N_Sub.f k x.1 x.2 = goK (Γ k) F (T k) 2000 [.code body] ((con 0).cin.st x) := by kernel_rfl
theorem okΓ (k : Nat) : ΓOk Go.Proofs.Tryd.prog (Γ k) := Γcons (nat_N_trim.ok k) ⟨Go.Proofs.Tryd.f86, by kernel_rfl, by kernel_rfl, by kernel_rfl⟩ (Γnil)
theorem ok (k : Nat) : ConSound Go.Proofs.Tryd.prog 69 (con k) := con_sound (Γ := Γ) (fn := Go.Proofs.Tryd.f69) (body := body) (cin := (con 0).cin) (F := F) (T := T) follows (by kernel_rfl) (by kernel_rfl) (by kernel_rfl) (by kernel_rfl) (by kernel_rfl) (by decide +kernel) (by kernel_rfl) (by kernel_rfl) (tzero ⟨fun x => by kernel_rfl, fun x => by kernel_rfl, trivial⟩) k (fun m _ => okΓ m) (fun m _ => tstep ⟨fun x => Eq.trans (by kernel_rfl) (s0 m x), fun x => Eq.trans (by kernel_rfl) (s4 m x), trivial⟩) (fun x y h => (main k x).symm.trans h)
end nat_N_Sub
namespace rat_Q_Add
noncomputable abbrev con (k : Nat) : Con := ⟨⟨[(0, .av Y21), (1, .av Y21)], []⟩, ⟨[(0, .av Y21)], []⟩, fun x => rat_Q_Add.f k x.1 x.2⟩
noncomputable abbrev Γ (k : Nat) : FuncId → Option Con := look [(42, rat_low.con k), (65, rat_Q_whole.con k), (66, nat_N_Mul.con k), (67, nat_N_Add.con k), (68, nat_N_Cmp.con k), (69, nat_N_Sub.con k)]
abbrev F : Fin Go.Proofs.Tryd.prog := ⟨⟨[(0, .av Y21)], []⟩, [], [.cell 4 85]⟩
noncomputable abbrev Tl (k : Nat) : List (Nat × Hint (prods F.cout.tys)) := []
noncomputable abbrev T (k : Nat) : Nat → Option (Hint (prods F.cout.tys)) := look (Tl k)
noncomputable abbrev body : Code := Go.Proofs.Tryd.f34.body.getD .skip
theorem main (k : Nat) (x : prods (con 0).cin.tys) : rat_Q_Add.f k x.1 x.2 = goK (Γ k) F (T k) 2000 [.code body] ((con 0).cin.st x) := by kernel_rfl
theorem okΓ (k : Nat) : ΓOk Go.Proofs.Tryd.prog (Γ k) := Γcons (rat_low.ok k) ⟨Go.Proofs.Tryd.f42, by kernel_rfl, by kernel_rfl, by kernel_rfl⟩ (Γcons (rat_Q_whole.ok k) ⟨Go.Proofs.Tryd.f65, by kernel_rfl, by kernel_rfl, by kernel_rfl⟩ (Γcons (nat_N_Mul.ok k) ⟨Go.Proofs.Tryd.f66, by kernel_rfl, by kernel_rfl, by kernel_rfl⟩ (Γcons (nat_N_Add.ok k) ⟨Go.Proofs.Tryd.f67, by kernel_rfl, by kernel_rfl, by kernel_rfl⟩ (Γcons (nat_N_Cmp.ok k) ⟨Go.Proofs.Tryd.f68, by kernel_rfl, by kernel_rfl, by kernel_rfl⟩ (Γcons (nat_N_Sub.ok k) ⟨Go.Proofs.Tryd.f69, by kernel_rfl, by kernel_rfl, by kernel_rfl⟩ (Γnil))))))
theorem ok (k : Nat) : ConSound Go.Proofs.Tryd.prog 34 (con k) := con_sound (Γ := Γ) (fn := Go.Proofs.Tryd.f34) (body := body) (cin := (con 0).cin) (F := F) (T := T) follows (by kernel_rfl) (by kernel_rfl) (by kernel_rfl) (by kernel_rfl) (by kernel_rfl) (by decide +kernel) (by kernel_rfl) (by kernel_rfl) (tzero trivial) k (fun m _ => okΓ m) (fun m _ => tstep trivial) (fun x y h => (main k x).symm.trans h)
end rat_Q_Add
namespace rat_Q_Sub
noncomputable abbrev con (k : Nat) : Con := ⟨⟨[(0, .av Y21), (1, .av Y21)], []⟩, ⟨[(0, .av Y21)], []⟩, fun x => rat_Q_Sub.f k x.1 x.2⟩
noncomputable abbrev Γ (k : Nat) : FuncId → Option Con := look [(34, rat_Q_Add.con k), (62, rat_Q_Neg.con k)]
abbrev F : Fin Go.Proofs.Tryd.prog := ⟨⟨[(0, .av Y21)], []⟩, [], [.cell 4 85]⟩
noncomputable abbrev Tl (k : Nat) : List (Nat × Hint (prods F.cout.tys)) := []
noncomputable abbrev T (k : Nat) : Nat → Option (Hint (prods F.cout.tys)) := look (Tl k)
noncomputable abbrev body : Code := Go.Proofs.Tryd.f30.body.getD .skip
theorem main (k : Nat) (x : prods (con 0).cin.tys) : rat_Q_Sub.f k x.1 x.2 = goK (Γ k) F (T k) 2000 [.code body] ((con 0).cin.st x) := by kernel_rfl
theorem okΓ (k : Nat) : ΓOk Go.Proofs.Tryd.prog (Γ k) := Γcons (rat_Q_Add.ok k) ⟨Go.Proofs.Tryd.f34, by kernel_rfl, by kernel_rfl, by kernel_rfl⟩ (Γcons (rat_Q_Neg.ok k) ⟨Go.Proofs.Tryd.f62, by kernel_rfl, by kernel_rfl, by kernel_rfl⟩ (Γnil))
theorem ok (k : Nat) : ConSound Go.Proofs.Tryd.prog 30 (con k) := con_sound (Γ := Γ) (fn := Go.Proofs.Tryd.f30) (body := body) (cin := (con 0).cin) (F := F) (T := T) follows (by kernel_rfl) (by kernel_rfl) (by kernel_rfl) (by kernel_rfl) (by kernel_rfl) (by decide +kernel) (by kernel_rfl) (by kernel_rfl) (tzero trivial) k (fun m _ => okΓ m) (fun m _ => tstep trivial) (fun x y h => (main k x).symm.trans h)
end rat_Q_Sub
namespace rat_Int
noncomputable abbrev con (k : Nat) : Con := ⟨⟨[(0, .l (.val (.int .i64)))], []⟩, ⟨[(0, .av Y21)], []⟩, fun x => rat_Int.f k x⟩
noncomputable abbrev Γ (k : Nat) : FuncId → Option Con := look [(61, nat_Of.con k)]
abbrev F : Fin Go.Proofs.Tryd.prog := ⟨⟨[(0, .av Y21)], []⟩, [], [.cell 2 85]⟩
noncomputable abbrev Tl (k : Nat) : List (Nat × Hint (prods F.cout.tys)) := []
noncomputable abbrev T (k : Nat) : Nat → Option (Hint (prods F.cout.tys)) := look (Tl k)
noncomputable abbrev body : Code := Go.Proofs.Tryd.f35.body.getD .skip
theorem main (k : Nat) (x : prods (con 0).cin.tys) : rat_Int.f k x = goK (Γ k) F (T k) 2000 [.code body] ((con 0).cin.st x) := by kernel_rfl
theorem okΓ (k : Nat) : ΓOk Go.Proofs.Tryd.prog (Γ k) := Γcons (nat_Of.ok k) ⟨Go.Proofs.Tryd.f61, by kernel_rfl, by kernel_rfl, by kernel_rfl⟩ (Γnil)
theorem ok (k : Nat) : ConSound Go.Proofs.Tryd.prog 35 (con k) := con_sound (Γ := Γ) (fn := Go.Proofs.Tryd.f35) (body := body) (cin := (con 0).cin) (F := F) (T := T) follows (by kernel_rfl) (by kernel_rfl) (by kernel_rfl) (by kernel_rfl) (by kernel_rfl) (by decide +kernel) (by kernel_rfl) (by kernel_rfl) (tzero trivial) k (fun m _ => okΓ m) (fun m _ => tstep trivial) (fun x y h => (main k x).symm.trans h)
end rat_Int
namespace rat_Q_Mul
noncomputable abbrev con (k : Nat) : Con := ⟨⟨[(0, .av Y21), (1, .av Y21)], []⟩, ⟨[(0, .av Y21)], []⟩, fun x => rat_Q_Mul.f k x.1 x.2⟩
noncomputable abbrev Γ (k : Nat) : FuncId → Option Con := look [(42, rat_low.con k), (65, rat_Q_whole.con k), (66, nat_N_Mul.con k)]
abbrev F : Fin Go.Proofs.Tryd.prog := ⟨⟨[(0, .av Y21)], []⟩, [], [.cell 4 85]⟩
noncomputable abbrev Tl (k : Nat) : List (Nat × Hint (prods F.cout.tys)) := []
noncomputable abbrev T (k : Nat) : Nat → Option (Hint (prods F.cout.tys)) := look (Tl k)
noncomputable abbrev body : Code := Go.Proofs.Tryd.f47.body.getD .skip
theorem main (k : Nat) (x : prods (con 0).cin.tys) : rat_Q_Mul.f k x.1 x.2 = goK (Γ k) F (T k) 2000 [.code body] ((con 0).cin.st x) := by kernel_rfl
theorem okΓ (k : Nat) : ΓOk Go.Proofs.Tryd.prog (Γ k) := Γcons (rat_low.ok k) ⟨Go.Proofs.Tryd.f42, by kernel_rfl, by kernel_rfl, by kernel_rfl⟩ (Γcons (rat_Q_whole.ok k) ⟨Go.Proofs.Tryd.f65, by kernel_rfl, by kernel_rfl, by kernel_rfl⟩ (Γcons (nat_N_Mul.ok k) ⟨Go.Proofs.Tryd.f66, by kernel_rfl, by kernel_rfl, by kernel_rfl⟩ (Γnil)))
theorem ok (k : Nat) : ConSound Go.Proofs.Tryd.prog 47 (con k) := con_sound (Γ := Γ) (fn := Go.Proofs.Tryd.f47) (body := body) (cin := (con 0).cin) (F := F) (T := T) follows (by kernel_rfl) (by kernel_rfl) (by kernel_rfl) (by kernel_rfl) (by kernel_rfl) (by decide +kernel) (by kernel_rfl) (by kernel_rfl) (tzero trivial) k (fun m _ => okΓ m) (fun m _ => tstep trivial) (fun x y h => (main k x).symm.trans h)
end rat_Q_Mul
namespace strings_trimLeftByte
noncomputable abbrev con (k : Nat) : Con := ⟨⟨[(0, .l (.val .str)), (1, .l (.val (.int .u8)))], []⟩, ⟨[(0, .l (.val .str))], []⟩, fun x => strings_trimLeftByte.f k x.1 x.2⟩
noncomputable abbrev Γ (k : Nat) : FuncId → Option Con := look []
abbrev F : Fin Go.Proofs.Tryd.prog := ⟨⟨[(0, .l (.val .str))], []⟩, [], [.tmp 4]⟩
abbrev c1 : Cut := ⟨[(0, .l (.val .str)), (1, .l (.val (.int .u8)))], []⟩
noncomputable abbrev Tl (k : Nat) : List (Nat × Hint (prods F.cout.tys)) := [(1, ⟨c1, fun x => strings_trimLeftByte.l1 k x.1 x.2⟩)]
noncomputable abbrev T (k : Nat) : Nat → Option (Hint (prods F.cout.tys)) := look (Tl k)
noncomputable abbrev body : Code := Go.Proofs.Tryd.f104.body.getD .skip
theorem s1 (k : Nat) (x : prods c1.tys) : strings_trimLeftByte.l1 (k + 1) x.1 x.2 = segK (Γ k) F (T k) body 1 (c1.st x) := by kernel_rfl
theorem main (k : Nat) (x : prods (con 0).cin.tys) : strings_trimLeftByte.f k x.1 x.2 = goK (Γ k) F (T k) 2000 [.code body] ((con 0).cin.st x) := by kernel_rfl
theorem okΓ (k : Nat) : ΓOk Go.Proofs.Tryd.prog (Γ k) := Γnil
theorem ok (k : Nat) : ConSound Go.Proofs.Tryd.prog 104 (con k) := con_sound (Γ := Γ) (fn := Go.Proofs.Tryd.f104) (body := body) (cin := (con 0).cin) (F := F) (T := T) follows (by kernel_rfl) (by kernel_rfl) (by kernel_rfl) (by kernel_rfl) (by kernel_rfl) (by decide +kernel) (by kernel_rfl) (by kernel_rfl) (tzero ⟨fun x => by kernel_rfl, trivial⟩) k (fun m _ => okΓ m) (fun m _ => tstep ⟨fun x => Eq.trans (by kernel_rfl) (s1 m x), trivial⟩) (fun x y h => (main k x).symm.trans h)
end strings_trimLeftByte
namespace strings_TrimLeft
noncomputable abbrev con (k : Nat) : Con := ⟨⟨[(0, .l (.val .str)), (1, .l (.val .str))], []⟩, ⟨[(0, .l (.val .str))], []⟩, fun x => strings_TrimLeft.f k x.1 x.2⟩
noncomputable abbrev Γ (k : Nat) : FuncId → Option Con := look [(104, strings_trimLeftByte.con k)]
abbrev F : Fin Go.Proofs.Tryd.prog := ⟨⟨[(0, .l (.val .str))], []⟩, [], [.tmp 4]⟩
noncomputable abbrev Tl (k : Nat) : List (Nat × Hint (prods F.cout.tys)) := []
noncomputable abbrev T (k : Nat) : Nat → Option (Hint (prods F.cout.tys)) := look (Tl k)
noncomputable abbrev body : Code := Go.Proofs.Tryd.f87.body.getD .skip
theorem main (k : Nat) (x : prods (con 0).cin.tys) : strings_TrimLeft.f k x.1 x.2 = goK (Γ k) F (T k) 2000 [.code body] ((con 0).cin.st x) := by kernel_rfl
theorem okΓ (k : Nat) : ΓOk Go.Proofs.Tryd.prog (Γ k) := Γcons (strings_trimLeftByte.ok k) ⟨Go.Proofs.Tryd.f104, by kernel_rfl, by kernel_rfl, by kernel_rfl⟩ (Γnil)
theorem ok (k : Nat) : ConSound Go.Proofs.Tryd.prog 87 (con k) := con_sound (Γ := Γ) (fn := Go.Proofs.Tryd.f87) (body := body) (cin := (con 0).cin) (F := F) (T := T) follows (by kernel_rfl) (by kernel_rfl) (by kernel_rfl) (by kernel_rfl) (by kernel_rfl) (by decide +kernel) (by kernel_rfl) (by kernel_rfl) (tzero trivial) k (fun m _ => okΓ m) (fun m _ => tstep trivial) (fun x y h => (main k x).symm.trans h)
end strings_TrimLeft
namespace nat_N_Text
noncomputable abbrev con (k : Nat) : Con := ⟨⟨[(0, .l (.val (.list 138 (.int .u32))))], []⟩, ⟨[(0, .l (.val .str))], []⟩, fun x => nat_N_Text.f k x⟩
noncomputable abbrev Γ (k : Nat) : FuncId → Option Con := look [(87, strings_TrimLeft.con k)]
abbrev F : Fin Go.Proofs.Tryd.prog := ⟨⟨[(0, .l (.val .str))], []⟩, [], [.tmp 2]⟩
abbrev c0 : Cut := ⟨[(0, .l (.val (.list 138 (.int .u32))))], []⟩
abbrev c5 : Cut := ⟨[(0, .l (.val (.list 138 (.int .u32)))), (3, .l (.row 7000000)), (4, .l (.val (.int .i64)))], [(7000000, .row 5 (.int .u8))]⟩
abbrev c10 : Cut := ⟨[(0, .l (.val (.list 138 (.int .u32)))), (3, .l (.row 7000000)), (4, .l (.val (.int .i64))), (5, .l (.val (.int .u32))), (6, .l (.ap 7000001)), (7, .l (.val (.int .i64)))], [(7000000, .row 5 (.int .u8)), (7000001, .row 5 (.int .u8))]⟩
noncomputable abbrev Tl (k : Nat) : List (Nat × Hint (prods F.cout.tys)) := [(0, ⟨c0, fun x => nat_N_Text.l0 k x⟩), (5, ⟨c5, fun x => nat_N_Text.l5 k x.1 x.2.1 x.2.2⟩), (10, ⟨c10, fun x => nat_N_Text.l10 k x.1 x.2.1 x.2.2.1 x.2.2.2.1 x.2.2.2.2.1 x.2.2.2.2.2⟩)]
noncomputable abbrev T (k : Nat) : Nat → Option (Hint (prods F.cout.tys)) := look (Tl k)
noncomputable abbrev body : Code := Go.Proofs.Tryd.f64.body.getD .skip
theorem s0 (k : Nat) (x : prods c0.tys) : nat_N_Text.l0 (k + 1) x = segK (Γ k) F (T k) body 0 (c0.st x) := by kernel_rfl
theorem s5 (k : Nat) (x : prods c5.tys) : nat_N_Text.l5 (k + 1) x.1 x.2.1 x.2.2 = segK (Γ k) F (T k) body 5 (c5.st x) := by kernel_rfl
theorem s10 (k : Nat) (x : prods c10.tys) : nat_N_Text.l10 (k + 1) x.1 x.2.1 x.2.2.1 x.2.2.2.1 x.2.2.2.2.1 x.2.2.2.2.2 = segK (Γ k) F (T k) body 10 (c10.st x) := by kernel_rfl
theorem main (k : Nat) (x : prods (con 0).cin.tys) : nat_N_Text.f k x = goK (Γ k) F (T k) 2000 [.code body] ((con 0).cin.st x) := by kernel_rfl
theorem okΓ (k : Nat) : ΓOk Go.Proofs.Tryd.prog (Γ k) := Γcons (strings_TrimLeft.ok k) ⟨Go.Proofs.Tryd.f87, by kernel_rfl, by kernel_rfl, by kernel_rfl⟩ (Γnil)
theorem ok (k : Nat) : ConSound Go.Proofs.Tryd.prog 64 (con k) := con_sound (Γ := Γ) (fn := Go.Proofs.Tryd.f64) (body := body) (cin := (con 0).cin) (F := F) (T := T) follows (by kernel_rfl) (by kernel_rfl) (by kernel_rfl) (by kernel_rfl) (by kernel_rfl) (by decide +kernel) (by kernel_rfl) (by kernel_rfl) (tzero ⟨fun x => by kernel_rfl, fun x => by kernel_rfl, fun x => by kernel_rfl, trivial⟩) k (fun m _ => okΓ m) (fun m _ => tstep ⟨fun x => Eq.trans (by kernel_rfl) (s0 m x), fun x => Eq.trans (by kernel_rfl) (s5 m x), fun x => Eq.trans (by kernel_rfl) (s10 m x), trivial⟩) (fun x y h => (main k x).symm.trans h)
end nat_N_Text
namespace nat_N_Digits
noncomputable abbrev con (k : Nat) : Con := ⟨⟨[(0, .l (.val (.list 138 (.int .u32))))], []⟩, ⟨[(0, .l (.val (.int .i64)))], []⟩, fun x => nat_N_Digits.f k x⟩
noncomputable abbrev Γ (k : Nat) : FuncId → Option Con := look [(64, nat_N_Text.con k)]
abbrev F : Fin Go.Proofs.Tryd.prog := ⟨⟨[(0, .l (.val (.int .i64)))], []⟩, [], [.tmp 2]⟩
noncomputable abbrev Tl (k : Nat) : List (Nat × Hint (prods F.cout.tys)) := []
noncomputable abbrev T (k : Nat) : Nat → Option (Hint (prods F.cout.tys)) := look (Tl k)
noncomputable abbrev body : Code := Go.Proofs.Tryd.f63.body.getD .skip
theorem main (k : Nat) (x : prods (con 0).cin.tys) : nat_N_Digits.f k x = goK (Γ k) F (T k) 2000 [.code body] ((con 0).cin.st x) := by kernel_rfl
theorem okΓ (k : Nat) : ΓOk Go.Proofs.Tryd.prog (Γ k) := Γcons (nat_N_Text.ok k) ⟨Go.Proofs.Tryd.f64, by kernel_rfl, by kernel_rfl, by kernel_rfl⟩ (Γnil)
theorem ok (k : Nat) : ConSound Go.Proofs.Tryd.prog 63 (con k) := con_sound (Γ := Γ) (fn := Go.Proofs.Tryd.f63) (body := body) (cin := (con 0).cin) (F := F) (T := T) follows (by kernel_rfl) (by kernel_rfl) (by kernel_rfl) (by kernel_rfl) (by kernel_rfl) (by decide +kernel) (by kernel_rfl) (by kernel_rfl) (tzero trivial) k (fun m _ => okΓ m) (fun m _ => tstep trivial) (fun x y h => (main k x).symm.trans h)
end nat_N_Digits
namespace rat_Fits
noncomputable abbrev con (k : Nat) : Con := ⟨⟨[(0, .av Y21)], []⟩, ⟨[(0, .l (.val (.int .i64)))], []⟩, fun x => rat_Fits.f k x⟩
noncomputable abbrev Γ (k : Nat) : FuncId → Option Con := look [(63, nat_N_Digits.con k)]
abbrev F : Fin Go.Proofs.Tryd.prog := ⟨⟨[(0, .l (.val (.int .i64)))], []⟩, [], [.tmp 2]⟩
noncomputable abbrev Tl (k : Nat) : List (Nat × Hint (prods F.cout.tys)) := []
noncomputable abbrev T (k : Nat) : Nat → Option (Hint (prods F.cout.tys)) := look (Tl k)
noncomputable abbrev body : Code := Go.Proofs.Tryd.f31.body.getD .skip
theorem main (k : Nat) (x : prods (con 0).cin.tys) : rat_Fits.f k x = goK (Γ k) F (T k) 2000 [.code body] ((con 0).cin.st x) := by kernel_rfl
theorem okΓ (k : Nat) : ΓOk Go.Proofs.Tryd.prog (Γ k) := Γcons (nat_N_Digits.ok k) ⟨Go.Proofs.Tryd.f63, by kernel_rfl, by kernel_rfl, by kernel_rfl⟩ (Γnil)
theorem ok (k : Nat) : ConSound Go.Proofs.Tryd.prog 31 (con k) := con_sound (Γ := Γ) (fn := Go.Proofs.Tryd.f31) (body := body) (cin := (con 0).cin) (F := F) (T := T) follows (by kernel_rfl) (by kernel_rfl) (by kernel_rfl) (by kernel_rfl) (by kernel_rfl) (by decide +kernel) (by kernel_rfl) (by kernel_rfl) (tzero trivial) k (fun m _ => okΓ m) (fun m _ => tstep trivial) (fun x y h => (main k x).symm.trans h)
end rat_Fits
namespace rat_Q_Out
noncomputable abbrev con (k : Nat) : Con := ⟨⟨[(0, .av Y21)], []⟩, ⟨[(0, .l (.val .str))], []⟩, fun x => rat_Q_Out.f k x⟩
noncomputable abbrev Γ (k : Nat) : FuncId → Option Con := look [(64, nat_N_Text.con k), (65, rat_Q_whole.con k)]
abbrev F : Fin Go.Proofs.Tryd.prog := ⟨⟨[(0, .l (.val .str))], []⟩, [], [.tmp 2]⟩
noncomputable abbrev Tl (k : Nat) : List (Nat × Hint (prods F.cout.tys)) := []
noncomputable abbrev T (k : Nat) : Nat → Option (Hint (prods F.cout.tys)) := look (Tl k)
noncomputable abbrev body : Code := Go.Proofs.Tryd.f32.body.getD .skip
theorem main (k : Nat) (x : prods (con 0).cin.tys) : rat_Q_Out.f k x = goK (Γ k) F (T k) 2000 [.code body] ((con 0).cin.st x) := by kernel_rfl
theorem okΓ (k : Nat) : ΓOk Go.Proofs.Tryd.prog (Γ k) := Γcons (nat_N_Text.ok k) ⟨Go.Proofs.Tryd.f64, by kernel_rfl, by kernel_rfl, by kernel_rfl⟩ (Γcons (rat_Q_whole.ok k) ⟨Go.Proofs.Tryd.f65, by kernel_rfl, by kernel_rfl, by kernel_rfl⟩ (Γnil))
theorem ok (k : Nat) : ConSound Go.Proofs.Tryd.prog 32 (con k) := con_sound (Γ := Γ) (fn := Go.Proofs.Tryd.f32) (body := body) (cin := (con 0).cin) (F := F) (T := T) follows (by kernel_rfl) (by kernel_rfl) (by kernel_rfl) (by kernel_rfl) (by kernel_rfl) (by decide +kernel) (by kernel_rfl) (by kernel_rfl) (tzero trivial) k (fun m _ => okΓ m) (fun m _ => tstep trivial) (fun x y h => (main k x).symm.trans h)
end rat_Q_Out
namespace rights_Payout
noncomputable abbrev con (k : Nat) : Con := ⟨⟨[(0, .av Y26), (1, .l (.val (.list 54 Y15))), (2, .l (.val (.list 28 .str)))], []⟩, ⟨[(0, .l (.val (.list 28 .str))), (1, .l (.val (.int .i64)))], []⟩, fun x => rights_Payout.f k x.1 x.2.1 x.2.2⟩
noncomputable abbrev Γ (k : Nat) : FuncId → Option Con := look [(28, rat_CheckAll.con k), (29, rat_In.con k), (30, rat_Q_Sub.con k), (31, rat_Fits.con k), (32, rat_Q_Out.con k), (35, rat_Int.con k), (47, rat_Q_Mul.con k), (49, rights_Check.con k), (50, topology_Of.con k), (51, rights_bus.con k)]
abbrev F : Fin Go.Proofs.Tryd.prog := ⟨⟨[(0, .l (.val (.list 28 .str))), (1, .l (.val (.int .i64)))], []⟩, [], [.tmp 6, .tmp 7]⟩
abbrev c14 : Cut := ⟨[(2, .l (.val (.list 28 .str))), (3, .l (.ptr 7000000 0)), (9, .l (.ptr 7000001 0)), (12, .l (.row 7000502)), (41, .l (.val (.list 54 Y15))), (42, .l (.val (.int .i64))), (43, .l (.val (.int .i64)))], [(7000000, .box 52 [.val (.list 9 .str), .val (.list 150 Y3), .val (.list 107 Y11), .val (.list 76 Y13), .val (.list 109 Y15), .val (.list 175 Y13)]), (7000001, .box 117 [.val (.list 3 (.int .i64)), .val (.list 3 (.int .i64))]), (7000502, .row 28 .str)]⟩
noncomputable abbrev Tl (k : Nat) : List (Nat × Hint (prods F.cout.tys)) := [(14, ⟨c14, fun x => rights_Payout.l14 k x.1 x.2.1 x.2.2.1 x.2.2.2.1 x.2.2.2.2.1 x.2.2.2.2.2.1 x.2.2.2.2.2.2.1 x.2.2.2.2.2.2.2.1 x.2.2.2.2.2.2.2.2.1 x.2.2.2.2.2.2.2.2.2.1 x.2.2.2.2.2.2.2.2.2.2.1 x.2.2.2.2.2.2.2.2.2.2.2.1 x.2.2.2.2.2.2.2.2.2.2.2.2⟩)]
noncomputable abbrev T (k : Nat) : Nat → Option (Hint (prods F.cout.tys)) := look (Tl k)
noncomputable abbrev body : Code := Go.Proofs.Tryd.f18.body.getD .skip
theorem s14 (k : Nat) (x : prods c14.tys) : rights_Payout.l14 (k + 1) x.1 x.2.1 x.2.2.1 x.2.2.2.1 x.2.2.2.2.1 x.2.2.2.2.2.1 x.2.2.2.2.2.2.1 x.2.2.2.2.2.2.2.1 x.2.2.2.2.2.2.2.2.1 x.2.2.2.2.2.2.2.2.2.1 x.2.2.2.2.2.2.2.2.2.2.1 x.2.2.2.2.2.2.2.2.2.2.2.1 x.2.2.2.2.2.2.2.2.2.2.2.2 = segK (Γ k) F (T k) body 14 (c14.st x) := by kernel_rfl
theorem main (k : Nat) (x : prods (con 0).cin.tys) : rights_Payout.f k x.1 x.2.1 x.2.2 = goK (Γ k) F (T k) 2000 [.code body] ((con 0).cin.st x) := by kernel_rfl
theorem okΓ (k : Nat) : ΓOk Go.Proofs.Tryd.prog (Γ k) := Γcons (rat_CheckAll.ok k) ⟨Go.Proofs.Tryd.f28, by kernel_rfl, by kernel_rfl, by kernel_rfl⟩ (Γcons (rat_In.ok k) ⟨Go.Proofs.Tryd.f29, by kernel_rfl, by kernel_rfl, by kernel_rfl⟩ (Γcons (rat_Q_Sub.ok k) ⟨Go.Proofs.Tryd.f30, by kernel_rfl, by kernel_rfl, by kernel_rfl⟩ (Γcons (rat_Fits.ok k) ⟨Go.Proofs.Tryd.f31, by kernel_rfl, by kernel_rfl, by kernel_rfl⟩ (Γcons (rat_Q_Out.ok k) ⟨Go.Proofs.Tryd.f32, by kernel_rfl, by kernel_rfl, by kernel_rfl⟩ (Γcons (rat_Int.ok k) ⟨Go.Proofs.Tryd.f35, by kernel_rfl, by kernel_rfl, by kernel_rfl⟩ (Γcons (rat_Q_Mul.ok k) ⟨Go.Proofs.Tryd.f47, by kernel_rfl, by kernel_rfl, by kernel_rfl⟩ (Γcons (rights_Check.ok k) ⟨Go.Proofs.Tryd.f49, by kernel_rfl, by kernel_rfl, by kernel_rfl⟩ (Γcons (topology_Of.ok k) ⟨Go.Proofs.Tryd.f50, by kernel_rfl, by kernel_rfl, by kernel_rfl⟩ (Γcons (rights_bus.ok k) ⟨Go.Proofs.Tryd.f51, by kernel_rfl, by kernel_rfl, by kernel_rfl⟩ (Γnil))))))))))
theorem ok (k : Nat) : ConSound Go.Proofs.Tryd.prog 18 (con k) := con_sound (Γ := Γ) (fn := Go.Proofs.Tryd.f18) (body := body) (cin := (con 0).cin) (F := F) (T := T) follows (by kernel_rfl) (by kernel_rfl) (by kernel_rfl) (by kernel_rfl) (by kernel_rfl) (by decide +kernel) (by kernel_rfl) (by kernel_rfl) (tzero ⟨fun x => by kernel_rfl, trivial⟩) k (fun m _ => okΓ m) (fun m _ => tstep ⟨fun x => Eq.trans (by kernel_rfl) (s14 m x), trivial⟩) (fun x y h => (main k x).symm.trans h)
end rights_Payout
namespace slices_Equal_api_Rat
noncomputable abbrev con (k : Nat) : Con := ⟨⟨[(0, .l (.val (.list 28 .str))), (1, .l (.val (.list 28 .str)))], []⟩, ⟨[(0, .l (.val .bool))], []⟩, fun x => slices_Equal_api_Rat.f k x.1 x.2⟩
noncomputable abbrev Γ (k : Nat) : FuncId → Option Con := look []
abbrev F : Fin Go.Proofs.Tryd.prog := ⟨⟨[(0, .l (.val .bool))], []⟩, [], [.tmp 4]⟩
abbrev c4 : Cut := ⟨[(0, .l (.val (.list 28 .str))), (1, .l (.val (.list 28 .str))), (12, .l (.val (.int .i64))), (13, .l (.val (.int .i64)))], []⟩
noncomputable abbrev Tl (k : Nat) : List (Nat × Hint (prods F.cout.tys)) := [(4, ⟨c4, fun x => slices_Equal_api_Rat.l4 k x.1 x.2.1 x.2.2.1 x.2.2.2⟩)]
noncomputable abbrev T (k : Nat) : Nat → Option (Hint (prods F.cout.tys)) := look (Tl k)
noncomputable abbrev body : Code := Go.Proofs.Tryd.f19.body.getD .skip
theorem s4 (k : Nat) (x : prods c4.tys) : slices_Equal_api_Rat.l4 (k + 1) x.1 x.2.1 x.2.2.1 x.2.2.2 = segK (Γ k) F (T k) body 4 (c4.st x) := by kernel_rfl
theorem main (k : Nat) (x : prods (con 0).cin.tys) : slices_Equal_api_Rat.f k x.1 x.2 = goK (Γ k) F (T k) 2000 [.code body] ((con 0).cin.st x) := by kernel_rfl
theorem okΓ (k : Nat) : ΓOk Go.Proofs.Tryd.prog (Γ k) := Γnil
theorem ok (k : Nat) : ConSound Go.Proofs.Tryd.prog 19 (con k) := con_sound (Γ := Γ) (fn := Go.Proofs.Tryd.f19) (body := body) (cin := (con 0).cin) (F := F) (T := T) follows (by kernel_rfl) (by kernel_rfl) (by kernel_rfl) (by kernel_rfl) (by kernel_rfl) (by decide +kernel) (by kernel_rfl) (by kernel_rfl) (tzero ⟨fun x => by kernel_rfl, trivial⟩) k (fun m _ => okΓ m) (fun m _ => tstep ⟨fun x => Eq.trans (by kernel_rfl) (s4 m x), trivial⟩) (fun x y h => (main k x).symm.trans h)
end slices_Equal_api_Rat
namespace gridhallkeep3_within
noncomputable abbrev con (k : Nat) : Con := ⟨⟨[(0, .l (.val (.int .i64))), (1, .l (.val (.int .i64))), (2, .l (.val (.int .i64)))], []⟩, ⟨[(0, .l (.val (.int .i64)))], []⟩, fun x => gridhallkeep3_within.f k x.1 x.2.1 x.2.2⟩
noncomputable abbrev Γ (k : Nat) : FuncId → Option Con := look []
abbrev F : Fin Go.Proofs.Tryd.prog := ⟨⟨[(0, .l (.val (.int .i64)))], []⟩, [], [.tmp 6]⟩
noncomputable abbrev Tl (k : Nat) : List (Nat × Hint (prods F.cout.tys)) := []
noncomputable abbrev T (k : Nat) : Nat → Option (Hint (prods F.cout.tys)) := look (Tl k)
noncomputable abbrev body : Code := Go.Proofs.Tryd.f20.body.getD .skip
theorem main (k : Nat) (x : prods (con 0).cin.tys) : gridhallkeep3_within.f k x.1 x.2.1 x.2.2 = goK (Γ k) F (T k) 2000 [.code body] ((con 0).cin.st x) := by kernel_rfl
theorem okΓ (k : Nat) : ΓOk Go.Proofs.Tryd.prog (Γ k) := Γnil
theorem ok (k : Nat) : ConSound Go.Proofs.Tryd.prog 20 (con k) := con_sound (Γ := Γ) (fn := Go.Proofs.Tryd.f20) (body := body) (cin := (con 0).cin) (F := F) (T := T) follows (by kernel_rfl) (by kernel_rfl) (by kernel_rfl) (by kernel_rfl) (by kernel_rfl) (by decide +kernel) (by kernel_rfl) (by kernel_rfl) (tzero trivial) k (fun m _ => okΓ m) (fun m _ => tstep trivial) (fun x y h => (main k x).symm.trans h)
end gridhallkeep3_within
namespace rat_told
noncomputable abbrev con (k : Nat) : Con := ⟨⟨[(0, .av Y21)], []⟩, ⟨[(0, .l (.val .str)), (1, .l (.val (.int .i64)))], []⟩, fun x => rat_told.f k x⟩
noncomputable abbrev Γ (k : Nat) : FuncId → Option Con := look [(31, rat_Fits.con k), (32, rat_Q_Out.con k)]
abbrev F : Fin Go.Proofs.Tryd.prog := ⟨⟨[(0, .l (.val .str)), (1, .l (.val (.int .i64)))], []⟩, [], [.tmp 2, .tmp 3]⟩
noncomputable abbrev Tl (k : Nat) : List (Nat × Hint (prods F.cout.tys)) := []
noncomputable abbrev T (k : Nat) : Nat → Option (Hint (prods F.cout.tys)) := look (Tl k)
noncomputable abbrev body : Code := Go.Proofs.Tryd.f41.body.getD .skip
theorem main (k : Nat) (x : prods (con 0).cin.tys) : rat_told.f k x = goK (Γ k) F (T k) 2000 [.code body] ((con 0).cin.st x) := by kernel_rfl
theorem okΓ (k : Nat) : ΓOk Go.Proofs.Tryd.prog (Γ k) := Γcons (rat_Fits.ok k) ⟨Go.Proofs.Tryd.f31, by kernel_rfl, by kernel_rfl, by kernel_rfl⟩ (Γcons (rat_Q_Out.ok k) ⟨Go.Proofs.Tryd.f32, by kernel_rfl, by kernel_rfl, by kernel_rfl⟩ (Γnil))
theorem ok (k : Nat) : ConSound Go.Proofs.Tryd.prog 41 (con k) := con_sound (Γ := Γ) (fn := Go.Proofs.Tryd.f41) (body := body) (cin := (con 0).cin) (F := F) (T := T) follows (by kernel_rfl) (by kernel_rfl) (by kernel_rfl) (by kernel_rfl) (by kernel_rfl) (by decide +kernel) (by kernel_rfl) (by kernel_rfl) (tzero trivial) k (fun m _ => okΓ m) (fun m _ => tstep trivial) (fun x y h => (main k x).symm.trans h)
end rat_told
namespace rat_two
noncomputable abbrev con (k : Nat) : Con := ⟨⟨[(0, .l (.val .str)), (1, .l (.val .str)), (2, .l (.fn0 34))], []⟩, ⟨[(0, .l (.val .str)), (1, .l (.val (.int .i64)))], []⟩, fun x => rat_two.f k x.1 x.2⟩
noncomputable abbrev Γ (k : Nat) : FuncId → Option Con := look [(28, rat_CheckAll.con k), (29, rat_In.con k), (34, rat_Q_Add.con k), (41, rat_told.con k)]
abbrev F : Fin Go.Proofs.Tryd.prog := ⟨⟨[(0, .l (.val .str)), (1, .l (.val (.int .i64)))], []⟩, [], [.tmp 6, .tmp 7]⟩
noncomputable abbrev Tl (k : Nat) : List (Nat × Hint (prods F.cout.tys)) := []
noncomputable abbrev T (k : Nat) : Nat → Option (Hint (prods F.cout.tys)) := look (Tl k)
noncomputable abbrev body : Code := Go.Proofs.Tryd.f33.body.getD .skip
theorem main (k : Nat) (x : prods (con 0).cin.tys) : rat_two.f k x.1 x.2 = goK (Γ k) F (T k) 2000 [.code body] ((con 0).cin.st x) := by kernel_rfl
theorem okΓ (k : Nat) : ΓOk Go.Proofs.Tryd.prog (Γ k) := Γcons (rat_CheckAll.ok k) ⟨Go.Proofs.Tryd.f28, by kernel_rfl, by kernel_rfl, by kernel_rfl⟩ (Γcons (rat_In.ok k) ⟨Go.Proofs.Tryd.f29, by kernel_rfl, by kernel_rfl, by kernel_rfl⟩ (Γcons (rat_Q_Add.ok k) ⟨Go.Proofs.Tryd.f34, by kernel_rfl, by kernel_rfl, by kernel_rfl⟩ (Γcons (rat_told.ok k) ⟨Go.Proofs.Tryd.f41, by kernel_rfl, by kernel_rfl, by kernel_rfl⟩ (Γnil))))
theorem ok (k : Nat) : ConSound Go.Proofs.Tryd.prog 33 (con k) := con_sound (Γ := Γ) (fn := Go.Proofs.Tryd.f33) (body := body) (cin := (con 0).cin) (F := F) (T := T) follows (by kernel_rfl) (by kernel_rfl) (by kernel_rfl) (by kernel_rfl) (by kernel_rfl) (by decide +kernel) (by kernel_rfl) (by kernel_rfl) (tzero trivial) k (fun m _ => okΓ m) (fun m _ => tstep trivial) (fun x y h => (main k x).symm.trans h)
end rat_two
namespace rat_Add
noncomputable abbrev con (k : Nat) : Con := ⟨⟨[(0, .l (.val .str)), (1, .l (.val .str))], []⟩, ⟨[(0, .l (.val .str)), (1, .l (.val (.int .i64)))], []⟩, fun x => rat_Add.f k x.1 x.2⟩
noncomputable abbrev Γ (k : Nat) : FuncId → Option Con := look [(33, rat_two.con k)]
abbrev F : Fin Go.Proofs.Tryd.prog := ⟨⟨[(0, .l (.val .str)), (1, .l (.val (.int .i64)))], []⟩, [], [.tmp 4, .tmp 5]⟩
noncomputable abbrev Tl (k : Nat) : List (Nat × Hint (prods F.cout.tys)) := []
noncomputable abbrev T (k : Nat) : Nat → Option (Hint (prods F.cout.tys)) := look (Tl k)
noncomputable abbrev body : Code := Go.Proofs.Tryd.f9.body.getD .skip
theorem main (k : Nat) (x : prods (con 0).cin.tys) : rat_Add.f k x.1 x.2 = goK (Γ k) F (T k) 2000 [.code body] ((con 0).cin.st x) := by kernel_rfl
theorem okΓ (k : Nat) : ΓOk Go.Proofs.Tryd.prog (Γ k) := Γcons (rat_two.ok k) ⟨Go.Proofs.Tryd.f33, by kernel_rfl, by kernel_rfl, by kernel_rfl⟩ (Γnil)
theorem ok (k : Nat) : ConSound Go.Proofs.Tryd.prog 9 (con k) := con_sound (Γ := Γ) (fn := Go.Proofs.Tryd.f9) (body := body) (cin := (con 0).cin) (F := F) (T := T) follows (by kernel_rfl) (by kernel_rfl) (by kernel_rfl) (by kernel_rfl) (by kernel_rfl) (by decide +kernel) (by kernel_rfl) (by kernel_rfl) (tzero trivial) k (fun m _ => okΓ m) (fun m _ => tstep trivial) (fun x y h => (main k x).symm.trans h)
end rat_Add
namespace gridhallkeep3_fine_1
noncomputable abbrev con (k : Nat) : Con := ⟨⟨[(0, .l (.val (.int .i64)))], []⟩, ⟨[(0, .l (.val .bool))], []⟩, fun x => gridhallkeep3_fine_1.f k x⟩
noncomputable abbrev Γ (k : Nat) : FuncId → Option Con := look []
abbrev F : Fin Go.Proofs.Tryd.prog := ⟨⟨[(0, .l (.val .bool))], []⟩, [], [.tmp 2]⟩
noncomputable abbrev Tl (k : Nat) : List (Nat × Hint (prods F.cout.tys)) := []
noncomputable abbrev T (k : Nat) : Nat → Option (Hint (prods F.cout.tys)) := look (Tl k)
noncomputable abbrev body : Code := Go.Proofs.Tryd.f45.body.getD .skip
theorem main (k : Nat) (x : prods (con 0).cin.tys) : gridhallkeep3_fine_1.f k x = goK (Γ k) F (T k) 2000 [.code body] ((con 0).cin.st x) := by kernel_rfl
theorem okΓ (k : Nat) : ΓOk Go.Proofs.Tryd.prog (Γ k) := Γnil
theorem ok (k : Nat) : ConSound Go.Proofs.Tryd.prog 45 (con k) := con_sound (Γ := Γ) (fn := Go.Proofs.Tryd.f45) (body := body) (cin := (con 0).cin) (F := F) (T := T) follows (by kernel_rfl) (by kernel_rfl) (by kernel_rfl) (by kernel_rfl) (by kernel_rfl) (by decide +kernel) (by kernel_rfl) (by kernel_rfl) (tzero trivial) k (fun m _ => okΓ m) (fun m _ => tstep trivial) (fun x y h => (main k x).symm.trans h)
end gridhallkeep3_fine_1
namespace slices_IndexFunc_api_Errno
noncomputable abbrev con (k : Nat) : Con := ⟨⟨[(0, .l (.val (.list 25 (.int .i64)))), (1, .l (.fn0 45))], []⟩, ⟨[(0, .l (.val (.int .i64)))], []⟩, fun x => slices_IndexFunc_api_Errno.f k x⟩
noncomputable abbrev Γ (k : Nat) : FuncId → Option Con := look [(45, gridhallkeep3_fine_1.con k)]
abbrev F : Fin Go.Proofs.Tryd.prog := ⟨⟨[(0, .l (.val (.int .i64)))], []⟩, [], [.tmp 4]⟩
abbrev c2 : Cut := ⟨[(0, .l (.val (.list 25 (.int .i64)))), (1, .l (.fn0 45)), (7, .l (.val (.int .i64))), (8, .l (.val (.int .i64)))], []⟩
noncomputable abbrev Tl (k : Nat) : List (Nat × Hint (prods F.cout.tys)) := [(2, ⟨c2, fun x => slices_IndexFunc_api_Errno.l2 k x.1 x.2.1 x.2.2⟩)]
noncomputable abbrev T (k : Nat) : Nat → Option (Hint (prods F.cout.tys)) := look (Tl k)
noncomputable abbrev body : Code := Go.Proofs.Tryd.f74.body.getD .skip
theorem s2 (k : Nat) (x : prods c2.tys) : slices_IndexFunc_api_Errno.l2 (k + 1) x.1 x.2.1 x.2.2 = segK (Γ k) F (T k) body 2 (c2.st x) := by kernel_rfl
theorem main (k : Nat) (x : prods (con 0).cin.tys) : slices_IndexFunc_api_Errno.f k x = goK (Γ k) F (T k) 2000 [.code body] ((con 0).cin.st x) := by kernel_rfl
theorem okΓ (k : Nat) : ΓOk Go.Proofs.Tryd.prog (Γ k) := Γcons (gridhallkeep3_fine_1.ok k) ⟨Go.Proofs.Tryd.f45, by kernel_rfl, by kernel_rfl, by kernel_rfl⟩ (Γnil)
theorem ok (k : Nat) : ConSound Go.Proofs.Tryd.prog 74 (con k) := con_sound (Γ := Γ) (fn := Go.Proofs.Tryd.f74) (body := body) (cin := (con 0).cin) (F := F) (T := T) follows (by kernel_rfl) (by kernel_rfl) (by kernel_rfl) (by kernel_rfl) (by kernel_rfl) (by decide +kernel) (by kernel_rfl) (by kernel_rfl) (tzero ⟨fun x => by kernel_rfl, trivial⟩) k (fun m _ => okΓ m) (fun m _ => tstep ⟨fun x => Eq.trans (by kernel_rfl) (s2 m x), trivial⟩) (fun x y h => (main k x).symm.trans h)
end slices_IndexFunc_api_Errno
namespace slices_ContainsFunc_api_Errno
noncomputable abbrev con (k : Nat) : Con := ⟨⟨[(0, .l (.val (.list 25 (.int .i64)))), (1, .l (.fn0 45))], []⟩, ⟨[(0, .l (.val .bool))], []⟩, fun x => slices_ContainsFunc_api_Errno.f k x⟩
noncomputable abbrev Γ (k : Nat) : FuncId → Option Con := look [(74, slices_IndexFunc_api_Errno.con k)]
abbrev F : Fin Go.Proofs.Tryd.prog := ⟨⟨[(0, .l (.val .bool))], []⟩, [], [.tmp 4]⟩
noncomputable abbrev Tl (k : Nat) : List (Nat × Hint (prods F.cout.tys)) := []
noncomputable abbrev T (k : Nat) : Nat → Option (Hint (prods F.cout.tys)) := look (Tl k)
noncomputable abbrev body : Code := Go.Proofs.Tryd.f44.body.getD .skip
theorem main (k : Nat) (x : prods (con 0).cin.tys) : slices_ContainsFunc_api_Errno.f k x = goK (Γ k) F (T k) 2000 [.code body] ((con 0).cin.st x) := by kernel_rfl
theorem okΓ (k : Nat) : ΓOk Go.Proofs.Tryd.prog (Γ k) := Γcons (slices_IndexFunc_api_Errno.ok k) ⟨Go.Proofs.Tryd.f74, by kernel_rfl, by kernel_rfl, by kernel_rfl⟩ (Γnil)
theorem ok (k : Nat) : ConSound Go.Proofs.Tryd.prog 44 (con k) := con_sound (Γ := Γ) (fn := Go.Proofs.Tryd.f44) (body := body) (cin := (con 0).cin) (F := F) (T := T) follows (by kernel_rfl) (by kernel_rfl) (by kernel_rfl) (by kernel_rfl) (by kernel_rfl) (by decide +kernel) (by kernel_rfl) (by kernel_rfl) (tzero trivial) k (fun m _ => okΓ m) (fun m _ => tstep trivial) (fun x y h => (main k x).symm.trans h)
end slices_ContainsFunc_api_Errno
namespace gridhallkeep3_fine
noncomputable abbrev con (k : Nat) : Con := ⟨⟨[(0, .l (.val (.list 25 (.int .i64))))], []⟩, ⟨[(0, .l (.val .bool))], []⟩, fun x => gridhallkeep3_fine.f k x⟩
noncomputable abbrev Γ (k : Nat) : FuncId → Option Con := look [(44, slices_ContainsFunc_api_Errno.con k)]
abbrev F : Fin Go.Proofs.Tryd.prog := ⟨⟨[(0, .l (.val .bool))], []⟩, [], [.tmp 2]⟩
noncomputable abbrev Tl (k : Nat) : List (Nat × Hint (prods F.cout.tys)) := []
noncomputable abbrev T (k : Nat) : Nat → Option (Hint (prods F.cout.tys)) := look (Tl k)
noncomputable abbrev body : Code := Go.Proofs.Tryd.f15.body.getD .skip
theorem main (k : Nat) (x : prods (con 0).cin.tys) : gridhallkeep3_fine.f k x = goK (Γ k) F (T k) 2000 [.code body] ((con 0).cin.st x) := by kernel_rfl
theorem okΓ (k : Nat) : ΓOk Go.Proofs.Tryd.prog (Γ k) := Γcons (slices_ContainsFunc_api_Errno.ok k) ⟨Go.Proofs.Tryd.f44, by kernel_rfl, by kernel_rfl, by kernel_rfl⟩ (Γnil)
theorem ok (k : Nat) : ConSound Go.Proofs.Tryd.prog 15 (con k) := con_sound (Γ := Γ) (fn := Go.Proofs.Tryd.f15) (body := body) (cin := (con 0).cin) (F := F) (T := T) follows (by kernel_rfl) (by kernel_rfl) (by kernel_rfl) (by kernel_rfl) (by kernel_rfl) (by decide +kernel) (by kernel_rfl) (by kernel_rfl) (tzero trivial) k (fun m _ => okΓ m) (fun m _ => tstep trivial) (fun x y h => (main k x).symm.trans h)
end gridhallkeep3_fine
namespace gridhallkeep3_RightsPaid
noncomputable abbrev con (k : Nat) : Con := ⟨⟨[(0, .av Y26), (1, .av Y15), (2, .l (.val (.list 28 .str))), (3, .l (.val (.int .i64)))], []⟩, ⟨[(0, .l (.val .bool))], []⟩, fun x => gridhallkeep3_RightsPaid.f k x.1 x.2.1 x.2.2.1 x.2.2.2⟩
noncomputable abbrev Γ (k : Nat) : FuncId → Option Con := look [(9, rat_Add.con k), (15, gridhallkeep3_fine.con k), (17, gridhallkeep3_ring.con k), (18, rights_Payout.con k), (19, slices_Equal_api_Rat.con k), (20, gridhallkeep3_within.con k)]
abbrev F : Fin Go.Proofs.Tryd.prog := ⟨⟨[(0, .l (.val .bool))], []⟩, [], [.tmp 8]⟩
noncomputable abbrev Tl (k : Nat) : List (Nat × Hint (prods F.cout.tys)) := []
noncomputable abbrev T (k : Nat) : Nat → Option (Hint (prods F.cout.tys)) := look (Tl k)
noncomputable abbrev body : Code := Go.Proofs.Tryd.f6.body.getD .skip
theorem main (k : Nat) (x : prods (con 0).cin.tys) : gridhallkeep3_RightsPaid.f k x.1 x.2.1 x.2.2.1 x.2.2.2 = goK (Γ k) F (T k) 2000 [.code body] ((con 0).cin.st x) := by kernel_rfl
theorem okΓ (k : Nat) : ΓOk Go.Proofs.Tryd.prog (Γ k) := Γcons (rat_Add.ok k) ⟨Go.Proofs.Tryd.f9, by kernel_rfl, by kernel_rfl, by kernel_rfl⟩ (Γcons (gridhallkeep3_fine.ok k) ⟨Go.Proofs.Tryd.f15, by kernel_rfl, by kernel_rfl, by kernel_rfl⟩ (Γcons (gridhallkeep3_ring.ok k) ⟨Go.Proofs.Tryd.f17, by kernel_rfl, by kernel_rfl, by kernel_rfl⟩ (Γcons (rights_Payout.ok k) ⟨Go.Proofs.Tryd.f18, by kernel_rfl, by kernel_rfl, by kernel_rfl⟩ (Γcons (slices_Equal_api_Rat.ok k) ⟨Go.Proofs.Tryd.f19, by kernel_rfl, by kernel_rfl, by kernel_rfl⟩ (Γcons (gridhallkeep3_within.ok k) ⟨Go.Proofs.Tryd.f20, by kernel_rfl, by kernel_rfl, by kernel_rfl⟩ (Γnil))))))
theorem ok (k : Nat) : ConSound Go.Proofs.Tryd.prog 6 (con k) := con_sound (Γ := Γ) (fn := Go.Proofs.Tryd.f6) (body := body) (cin := (con 0).cin) (F := F) (T := T) follows (by kernel_rfl) (by kernel_rfl) (by kernel_rfl) (by kernel_rfl) (by kernel_rfl) (by decide +kernel) (by kernel_rfl) (by kernel_rfl) (tzero trivial) k (fun m _ => okΓ m) (fun m _ => tstep trivial) (fun x y h => (main k x).symm.trans h)
end gridhallkeep3_RightsPaid
namespace swing_Check
noncomputable abbrev con (k : Nat) : Con := ⟨⟨[(0, .av Y19)], []⟩, ⟨[(0, .l (.val (.int .i64)))], []⟩, fun x => swing_Check.f k x⟩
noncomputable abbrev Γ (k : Nat) : FuncId → Option Con := look [(57, rat_Check.con k)]
abbrev F : Fin Go.Proofs.Tryd.prog := ⟨⟨[(0, .l (.val (.int .i64)))], []⟩, [], [.tmp 2]⟩
noncomputable abbrev Tl (k : Nat) : List (Nat × Hint (prods F.cout.tys)) := []
noncomputable abbrev T (k : Nat) : Nat → Option (Hint (prods F.cout.tys)) := look (Tl k)
noncomputable abbrev body : Code := Go.Proofs.Tryd.f26.body.getD .skip
theorem main (k : Nat) (x : prods (con 0).cin.tys) : swing_Check.f k x = goK (Γ k) F (T k) 2000 [.code body] ((con 0).cin.st x) := by kernel_rfl
theorem okΓ (k : Nat) : ΓOk Go.Proofs.Tryd.prog (Γ k) := Γcons (rat_Check.ok k) ⟨Go.Proofs.Tryd.f57, by kernel_rfl, by kernel_rfl, by kernel_rfl⟩ (Γnil)
theorem ok (k : Nat) : ConSound Go.Proofs.Tryd.prog 26 (con k) := con_sound (Γ := Γ) (fn := Go.Proofs.Tryd.f26) (body := body) (cin := (con 0).cin) (F := F) (T := T) follows (by kernel_rfl) (by kernel_rfl) (by kernel_rfl) (by kernel_rfl) (by kernel_rfl) (by decide +kernel) (by kernel_rfl) (by kernel_rfl) (tzero trivial) k (fun m _ => okΓ m) (fun m _ => tstep trivial) (fun x y h => (main k x).symm.trans h)
end swing_Check
namespace swing_excess
noncomputable abbrev con (k : Nat) : Con := ⟨⟨[(0, .av Y19), (1, .av Y21)], []⟩, ⟨[(0, .av Y21)], []⟩, fun x => swing_excess.f k x.1 x.2⟩
noncomputable abbrev Γ (k : Nat) : FuncId → Option Con := look [(30, rat_Q_Sub.con k), (35, rat_Int.con k), (47, rat_Q_Mul.con k)]
abbrev F : Fin Go.Proofs.Tryd.prog := ⟨⟨[(0, .av Y21)], []⟩, [], [.cell 4 85]⟩
noncomputable abbrev Tl (k : Nat) : List (Nat × Hint (prods F.cout.tys)) := []
noncomputable abbrev T (k : Nat) : Nat → Option (Hint (prods F.cout.tys)) := look (Tl k)
noncomputable abbrev body : Code := Go.Proofs.Tryd.f77.body.getD .skip
theorem main (k : Nat) (x : prods (con 0).cin.tys) : swing_excess.f k x.1 x.2 = goK (Γ k) F (T k) 2000 [.code body] ((con 0).cin.st x) := by kernel_rfl
theorem okΓ (k : Nat) : ΓOk Go.Proofs.Tryd.prog (Γ k) := Γcons (rat_Q_Sub.ok k) ⟨Go.Proofs.Tryd.f30, by kernel_rfl, by kernel_rfl, by kernel_rfl⟩ (Γcons (rat_Int.ok k) ⟨Go.Proofs.Tryd.f35, by kernel_rfl, by kernel_rfl, by kernel_rfl⟩ (Γcons (rat_Q_Mul.ok k) ⟨Go.Proofs.Tryd.f47, by kernel_rfl, by kernel_rfl, by kernel_rfl⟩ (Γnil)))
theorem ok (k : Nat) : ConSound Go.Proofs.Tryd.prog 77 (con k) := con_sound (Γ := Γ) (fn := Go.Proofs.Tryd.f77) (body := body) (cin := (con 0).cin) (F := F) (T := T) follows (by kernel_rfl) (by kernel_rfl) (by kernel_rfl) (by kernel_rfl) (by kernel_rfl) (by decide +kernel) (by kernel_rfl) (by kernel_rfl) (tzero trivial) k (fun m _ => okΓ m) (fun m _ => tstep trivial) (fun x y h => (main k x).symm.trans h)
end swing_excess
namespace rat_Q_Quo
noncomputable abbrev con (k : Nat) : Con := ⟨⟨[(0, .av Y21), (1, .av Y21)], []⟩, ⟨[(0, .av Y21)], []⟩, fun x => rat_Q_Quo.f k x.1 x.2⟩
noncomputable abbrev Γ (k : Nat) : FuncId → Option Con := look [(42, rat_low.con k), (65, rat_Q_whole.con k), (66, nat_N_Mul.con k)]
abbrev F : Fin Go.Proofs.Tryd.prog := ⟨⟨[(0, .av Y21)], []⟩, [], [.cell 4 85]⟩
noncomputable abbrev Tl (k : Nat) : List (Nat × Hint (prods F.cout.tys)) := []
noncomputable abbrev T (k : Nat) : Nat → Option (Hint (prods F.cout.tys)) := look (Tl k)
noncomputable abbrev body : Code := Go.Proofs.Tryd.f48.body.getD .skip
theorem main (k : Nat) (x : prods (con 0).cin.tys) : rat_Q_Quo.f k x.1 x.2 = goK (Γ k) F (T k) 2000 [.code body] ((con 0).cin.st x) := by kernel_rfl
theorem okΓ (k : Nat) : ΓOk Go.Proofs.Tryd.prog (Γ k) := Γcons (rat_low.ok k) ⟨Go.Proofs.Tryd.f42, by kernel_rfl, by kernel_rfl, by kernel_rfl⟩ (Γcons (rat_Q_whole.ok k) ⟨Go.Proofs.Tryd.f65, by kernel_rfl, by kernel_rfl, by kernel_rfl⟩ (Γcons (nat_N_Mul.ok k) ⟨Go.Proofs.Tryd.f66, by kernel_rfl, by kernel_rfl, by kernel_rfl⟩ (Γnil)))
theorem ok (k : Nat) : ConSound Go.Proofs.Tryd.prog 48 (con k) := con_sound (Γ := Γ) (fn := Go.Proofs.Tryd.f48) (body := body) (cin := (con 0).cin) (F := F) (T := T) follows (by kernel_rfl) (by kernel_rfl) (by kernel_rfl) (by kernel_rfl) (by kernel_rfl) (by decide +kernel) (by kernel_rfl) (by kernel_rfl) (tzero trivial) k (fun m _ => okΓ m) (fun m _ => tstep trivial) (fun x y h => (main k x).symm.trans h)
end rat_Q_Quo
namespace swing_step
noncomputable abbrev con (k : Nat) : Con := ⟨⟨[(0, .av Y19), (1, .av Y21)], []⟩, ⟨[(0, .av Y21)], []⟩, fun x => swing_step.f k x.1 x.2⟩
noncomputable abbrev Γ (k : Nat) : FuncId → Option Con := look [(34, rat_Q_Add.con k), (35, rat_Int.con k), (48, rat_Q_Quo.con k), (77, swing_excess.con k)]
abbrev F : Fin Go.Proofs.Tryd.prog := ⟨⟨[(0, .av Y21)], []⟩, [], [.cell 4 85]⟩
noncomputable abbrev Tl (k : Nat) : List (Nat × Hint (prods F.cout.tys)) := []
noncomputable abbrev T (k : Nat) : Nat → Option (Hint (prods F.cout.tys)) := look (Tl k)
noncomputable abbrev body : Code := Go.Proofs.Tryd.f53.body.getD .skip
theorem main (k : Nat) (x : prods (con 0).cin.tys) : swing_step.f k x.1 x.2 = goK (Γ k) F (T k) 2000 [.code body] ((con 0).cin.st x) := by kernel_rfl
theorem okΓ (k : Nat) : ΓOk Go.Proofs.Tryd.prog (Γ k) := Γcons (rat_Q_Add.ok k) ⟨Go.Proofs.Tryd.f34, by kernel_rfl, by kernel_rfl, by kernel_rfl⟩ (Γcons (rat_Int.ok k) ⟨Go.Proofs.Tryd.f35, by kernel_rfl, by kernel_rfl, by kernel_rfl⟩ (Γcons (rat_Q_Quo.ok k) ⟨Go.Proofs.Tryd.f48, by kernel_rfl, by kernel_rfl, by kernel_rfl⟩ (Γcons (swing_excess.ok k) ⟨Go.Proofs.Tryd.f77, by kernel_rfl, by kernel_rfl, by kernel_rfl⟩ (Γnil))))
theorem ok (k : Nat) : ConSound Go.Proofs.Tryd.prog 53 (con k) := con_sound (Γ := Γ) (fn := Go.Proofs.Tryd.f53) (body := body) (cin := (con 0).cin) (F := F) (T := T) follows (by kernel_rfl) (by kernel_rfl) (by kernel_rfl) (by kernel_rfl) (by kernel_rfl) (by decide +kernel) (by kernel_rfl) (by kernel_rfl) (tzero trivial) k (fun m _ => okΓ m) (fun m _ => tstep trivial) (fun x y h => (main k x).symm.trans h)
end swing_step
namespace swing_text
noncomputable abbrev con (k : Nat) : Con := ⟨⟨[(0, .av Y21)], []⟩, ⟨[(0, .l (.val .str)), (1, .l (.val (.int .i64)))], []⟩, fun x => swing_text.f k x⟩
noncomputable abbrev Γ (k : Nat) : FuncId → Option Con := look [(31, rat_Fits.con k), (32, rat_Q_Out.con k)]
abbrev F : Fin Go.Proofs.Tryd.prog := ⟨⟨[(0, .l (.val .str)), (1, .l (.val (.int .i64)))], []⟩, [], [.tmp 2, .tmp 3]⟩
noncomputable abbrev Tl (k : Nat) : List (Nat × Hint (prods F.cout.tys)) := []
noncomputable abbrev T (k : Nat) : Nat → Option (Hint (prods F.cout.tys)) := look (Tl k)
noncomputable abbrev body : Code := Go.Proofs.Tryd.f52.body.getD .skip
theorem main (k : Nat) (x : prods (con 0).cin.tys) : swing_text.f k x = goK (Γ k) F (T k) 2000 [.code body] ((con 0).cin.st x) := by kernel_rfl
theorem okΓ (k : Nat) : ΓOk Go.Proofs.Tryd.prog (Γ k) := Γcons (rat_Fits.ok k) ⟨Go.Proofs.Tryd.f31, by kernel_rfl, by kernel_rfl, by kernel_rfl⟩ (Γcons (rat_Q_Out.ok k) ⟨Go.Proofs.Tryd.f32, by kernel_rfl, by kernel_rfl, by kernel_rfl⟩ (Γnil))
theorem ok (k : Nat) : ConSound Go.Proofs.Tryd.prog 52 (con k) := con_sound (Γ := Γ) (fn := Go.Proofs.Tryd.f52) (body := body) (cin := (con 0).cin) (F := F) (T := T) follows (by kernel_rfl) (by kernel_rfl) (by kernel_rfl) (by kernel_rfl) (by kernel_rfl) (by decide +kernel) (by kernel_rfl) (by kernel_rfl) (tzero trivial) k (fun m _ => okΓ m) (fun m _ => tstep trivial) (fun x y h => (main k x).symm.trans h)
end swing_text
namespace swing_Step
noncomputable abbrev con (k : Nat) : Con := ⟨⟨[(0, .av Y19)], []⟩, ⟨[(0, .av Y19), (1, .l (.val (.int .i64)))], []⟩, fun x => swing_Step.f k x⟩
noncomputable abbrev Γ (k : Nat) : FuncId → Option Con := look [(26, swing_Check.con k), (29, rat_In.con k), (52, swing_text.con k), (53, swing_step.con k)]
abbrev F : Fin Go.Proofs.Tryd.prog := ⟨⟨[(0, .av Y19), (1, .l (.val (.int .i64)))], []⟩, [], [.cell 2 65, .tmp 3]⟩
noncomputable abbrev Tl (k : Nat) : List (Nat × Hint (prods F.cout.tys)) := []
noncomputable abbrev T (k : Nat) : Nat → Option (Hint (prods F.cout.tys)) := look (Tl k)
noncomputable abbrev body : Code := Go.Proofs.Tryd.f21.body.getD .skip
theorem main (k : Nat) (x : prods (con 0).cin.tys) : swing_Step.f k x = goK (Γ k) F (T k) 2000 [.code body] ((con 0).cin.st x) := by kernel_rfl
theorem okΓ (k : Nat) : ΓOk Go.Proofs.Tryd.prog (Γ k) := Γcons (swing_Check.ok k) ⟨Go.Proofs.Tryd.f26, by kernel_rfl, by kernel_rfl, by kernel_rfl⟩ (Γcons (rat_In.ok k) ⟨Go.Proofs.Tryd.f29, by kernel_rfl, by kernel_rfl, by kernel_rfl⟩ (Γcons (swing_text.ok k) ⟨Go.Proofs.Tryd.f52, by kernel_rfl, by kernel_rfl, by kernel_rfl⟩ (Γcons (swing_step.ok k) ⟨Go.Proofs.Tryd.f53, by kernel_rfl, by kernel_rfl, by kernel_rfl⟩ (Γnil))))
theorem ok (k : Nat) : ConSound Go.Proofs.Tryd.prog 21 (con k) := con_sound (Γ := Γ) (fn := Go.Proofs.Tryd.f21) (body := body) (cin := (con 0).cin) (F := F) (T := T) follows (by kernel_rfl) (by kernel_rfl) (by kernel_rfl) (by kernel_rfl) (by kernel_rfl) (by decide +kernel) (by kernel_rfl) (by kernel_rfl) (tzero trivial) k (fun m _ => okΓ m) (fun m _ => tstep trivial) (fun x y h => (main k x).symm.trans h)
end swing_Step
namespace islands_places
noncomputable abbrev con (k : Nat) : Con := ⟨⟨[(0, .av Y26)], []⟩, ⟨[(0, .l (.val (.list 3 (.int .i64)))), (1, .l (.val (.int .i64)))], []⟩, fun x => islands_places.f k x⟩
noncomputable abbrev Γ (k : Nat) : FuncId → Option Con := look [(50, topology_Of.con k)]
abbrev F : Fin Go.Proofs.Tryd.prog := ⟨⟨[(0, .l (.val (.list 3 (.int .i64)))), (1, .l (.val (.int .i64)))], []⟩, [], [.tmp 2, .tmp 3]⟩
abbrev c4 : Cut := ⟨[(4, .l (.ptr 7000000 0)), (6, .l (.row 7000001)), (7, .l (.val (.int .i64))), (20, .l (.val (.list 3 (.int .i64)))), (21, .l (.val (.int .i64))), (22, .l (.val (.int .i64)))], [(7000000, .box 117 [.val (.list 3 (.int .i64)), .val (.list 3 (.int .i64))]), (7000001, .row 3 (.int .i64))]⟩
noncomputable abbrev Tl (k : Nat) : List (Nat × Hint (prods F.cout.tys)) := [(4, ⟨c4, fun x => islands_places.l4 k x.1 x.2.1 x.2.2.1 x.2.2.2.1 x.2.2.2.2.1 x.2.2.2.2.2.1 x.2.2.2.2.2.2⟩)]
noncomputable abbrev T (k : Nat) : Nat → Option (Hint (prods F.cout.tys)) := look (Tl k)
noncomputable abbrev body : Code := Go.Proofs.Tryd.f55.body.getD .skip
theorem s4 (k : Nat) (x : prods c4.tys) : islands_places.l4 (k + 1) x.1 x.2.1 x.2.2.1 x.2.2.2.1 x.2.2.2.2.1 x.2.2.2.2.2.1 x.2.2.2.2.2.2 = segK (Γ k) F (T k) body 4 (c4.st x) := by kernel_rfl
theorem main (k : Nat) (x : prods (con 0).cin.tys) : islands_places.f k x = goK (Γ k) F (T k) 2000 [.code body] ((con 0).cin.st x) := by kernel_rfl
theorem okΓ (k : Nat) : ΓOk Go.Proofs.Tryd.prog (Γ k) := Γcons (topology_Of.ok k) ⟨Go.Proofs.Tryd.f50, by kernel_rfl, by kernel_rfl, by kernel_rfl⟩ (Γnil)
theorem ok (k : Nat) : ConSound Go.Proofs.Tryd.prog 55 (con k) := con_sound (Γ := Γ) (fn := Go.Proofs.Tryd.f55) (body := body) (cin := (con 0).cin) (F := F) (T := T) follows (by kernel_rfl) (by kernel_rfl) (by kernel_rfl) (by kernel_rfl) (by kernel_rfl) (by decide +kernel) (by kernel_rfl) (by kernel_rfl) (tzero ⟨fun x => by kernel_rfl, trivial⟩) k (fun m _ => okΓ m) (fun m _ => tstep ⟨fun x => Eq.trans (by kernel_rfl) (s4 m x), trivial⟩) (fun x y h => (main k x).symm.trans h)
end islands_places
namespace islands_at
noncomputable abbrev con (k : Nat) : Con := ⟨⟨[(0, .av Y26), (1, .l (.val (.list 3 (.int .i64)))), (2, .l (.val .str))], []⟩, ⟨[(0, .l (.val (.int .i64)))], []⟩, fun x => islands_at.f k x.1 x.2.1 x.2.2⟩
noncomputable abbrev Γ (k : Nat) : FuncId → Option Con := look [(75, netmodel_Node.con k)]
abbrev F : Fin Go.Proofs.Tryd.prog := ⟨⟨[(0, .l (.val (.int .i64)))], []⟩, [], [.tmp 6]⟩
noncomputable abbrev Tl (k : Nat) : List (Nat × Hint (prods F.cout.tys)) := []
noncomputable abbrev T (k : Nat) : Nat → Option (Hint (prods F.cout.tys)) := look (Tl k)
noncomputable abbrev body : Code := Go.Proofs.Tryd.f56.body.getD .skip
theorem main (k : Nat) (x : prods (con 0).cin.tys) : islands_at.f k x.1 x.2.1 x.2.2 = goK (Γ k) F (T k) 2000 [.code body] ((con 0).cin.st x) := by kernel_rfl
theorem okΓ (k : Nat) : ΓOk Go.Proofs.Tryd.prog (Γ k) := Γcons (netmodel_Node.ok k) ⟨Go.Proofs.Tryd.f75, by kernel_rfl, by kernel_rfl, by kernel_rfl⟩ (Γnil)
theorem ok (k : Nat) : ConSound Go.Proofs.Tryd.prog 56 (con k) := con_sound (Γ := Γ) (fn := Go.Proofs.Tryd.f56) (body := body) (cin := (con 0).cin) (F := F) (T := T) follows (by kernel_rfl) (by kernel_rfl) (by kernel_rfl) (by kernel_rfl) (by kernel_rfl) (by decide +kernel) (by kernel_rfl) (by kernel_rfl) (tzero trivial) k (fun m _ => okΓ m) (fun m _ => tstep trivial) (fun x y h => (main k x).symm.trans h)
end islands_at
namespace islands_Of
noncomputable abbrev con (k : Nat) : Con := ⟨⟨[(0, .av Y26)], []⟩, ⟨[(0, .l (.val (.list 74 Y5))), (1, .l (.val (.int .i64)))], []⟩, fun x => islands_Of.f k x⟩
noncomputable abbrev Γ (k : Nat) : FuncId → Option Con := look [(54, netmodel_Check.con k), (55, islands_places.con k), (56, islands_at.con k)]
abbrev F : Fin Go.Proofs.Tryd.prog := ⟨⟨[(0, .l (.val (.list 74 Y5))), (1, .l (.val (.int .i64)))], []⟩, [], [.tmp 2, .tmp 3]⟩
abbrev c7 : Cut := ⟨[(1, .l (.ptr 7000000 0)), (5, .l (.val (.list 3 (.int .i64)))), (7, .l (.row 7000001)), (26, .l (.val (.list 76 Y13))), (27, .l (.val (.int .i64))), (28, .l (.val (.int .i64)))], [(7000000, .box 52 [.val (.list 9 .str), .val (.list 150 Y3), .val (.list 107 Y11), .val (.list 76 Y13), .val (.list 109 Y15), .val (.list 175 Y13)]), (7000001, .row 74 Y5)]⟩
abbrev c14 : Cut := ⟨[(1, .l (.ptr 7000000 0)), (5, .l (.val (.list 3 (.int .i64)))), (7, .l (.row 7000001)), (59, .l (.val (.list 109 Y15))), (60, .l (.val (.int .i64))), (61, .l (.val (.int .i64)))], [(7000000, .box 52 [.val (.list 9 .str), .val (.list 150 Y3), .val (.list 107 Y11), .val (.list 76 Y13), .val (.list 109 Y15), .val (.list 175 Y13)]), (7000001, .row 74 Y5)]⟩
noncomputable abbrev Tl (k : Nat) : List (Nat × Hint (prods F.cout.tys)) := [(7, ⟨c7, fun x => islands_Of.l7 k x.1 x.2.1 x.2.2.1 x.2.2.2.1 x.2.2.2.2.1 x.2.2.2.2.2.1 x.2.2.2.2.2.2.1 x.2.2.2.2.2.2.2.1 x.2.2.2.2.2.2.2.2.1 x.2.2.2.2.2.2.2.2.2.1 x.2.2.2.2.2.2.2.2.2.2⟩), (14, ⟨c14, fun x => islands_Of.l14 k x.1 x.2.1 x.2.2.1 x.2.2.2.1 x.2.2.2.2.1 x.2.2.2.2.2.1 x.2.2.2.2.2.2.1 x.2.2.2.2.2.2.2.1 x.2.2.2.2.2.2.2.2.1 x.2.2.2.2.2.2.2.2.2.1 x.2.2.2.2.2.2.2.2.2.2⟩)]
noncomputable abbrev T (k : Nat) : Nat → Option (Hint (prods F.cout.tys)) := look (Tl k)
noncomputable abbrev body : Code := Go.Proofs.Tryd.f22.body.getD .skip
theorem s7 (k : Nat) (x : prods c7.tys) : islands_Of.l7 (k + 1) x.1 x.2.1 x.2.2.1 x.2.2.2.1 x.2.2.2.2.1 x.2.2.2.2.2.1 x.2.2.2.2.2.2.1 x.2.2.2.2.2.2.2.1 x.2.2.2.2.2.2.2.2.1 x.2.2.2.2.2.2.2.2.2.1 x.2.2.2.2.2.2.2.2.2.2 = segK (Γ k) F (T k) body 7 (c7.st x) := by kernel_rfl
theorem s14 (k : Nat) (x : prods c14.tys) : islands_Of.l14 (k + 1) x.1 x.2.1 x.2.2.1 x.2.2.2.1 x.2.2.2.2.1 x.2.2.2.2.2.1 x.2.2.2.2.2.2.1 x.2.2.2.2.2.2.2.1 x.2.2.2.2.2.2.2.2.1 x.2.2.2.2.2.2.2.2.2.1 x.2.2.2.2.2.2.2.2.2.2 = segK (Γ k) F (T k) body 14 (c14.st x) := by kernel_rfl
theorem main (k : Nat) (x : prods (con 0).cin.tys) : islands_Of.f k x = goK (Γ k) F (T k) 2000 [.code body] ((con 0).cin.st x) := by kernel_rfl
theorem okΓ (k : Nat) : ΓOk Go.Proofs.Tryd.prog (Γ k) := Γcons (netmodel_Check.ok k) ⟨Go.Proofs.Tryd.f54, by kernel_rfl, by kernel_rfl, by kernel_rfl⟩ (Γcons (islands_places.ok k) ⟨Go.Proofs.Tryd.f55, by kernel_rfl, by kernel_rfl, by kernel_rfl⟩ (Γcons (islands_at.ok k) ⟨Go.Proofs.Tryd.f56, by kernel_rfl, by kernel_rfl, by kernel_rfl⟩ (Γnil)))
theorem ok (k : Nat) : ConSound Go.Proofs.Tryd.prog 22 (con k) := con_sound (Γ := Γ) (fn := Go.Proofs.Tryd.f22) (body := body) (cin := (con 0).cin) (F := F) (T := T) follows (by kernel_rfl) (by kernel_rfl) (by kernel_rfl) (by kernel_rfl) (by kernel_rfl) (by decide +kernel) (by kernel_rfl) (by kernel_rfl) (tzero ⟨fun x => by kernel_rfl, fun x => by kernel_rfl, trivial⟩) k (fun m _ => okΓ m) (fun m _ => tstep ⟨fun x => Eq.trans (by kernel_rfl) (s7 m x), fun x => Eq.trans (by kernel_rfl) (s14 m x), trivial⟩) (fun x y h => (main k x).symm.trans h)
end islands_Of
namespace islands_Places
noncomputable abbrev con (k : Nat) : Con := ⟨⟨[(0, .av Y26)], []⟩, ⟨[(0, .l (.val (.list 3 (.int .i64)))), (1, .l (.val (.int .i64)))], []⟩, fun x => islands_Places.f k x⟩
noncomputable abbrev Γ (k : Nat) : FuncId → Option Con := look [(54, netmodel_Check.con k), (55, islands_places.con k)]
abbrev F : Fin Go.Proofs.Tryd.prog := ⟨⟨[(0, .l (.val (.list 3 (.int .i64)))), (1, .l (.val (.int .i64)))], []⟩, [], [.tmp 2, .tmp 3]⟩
noncomputable abbrev Tl (k : Nat) : List (Nat × Hint (prods F.cout.tys)) := []
noncomputable abbrev T (k : Nat) : Nat → Option (Hint (prods F.cout.tys)) := look (Tl k)
noncomputable abbrev body : Code := Go.Proofs.Tryd.f23.body.getD .skip
theorem main (k : Nat) (x : prods (con 0).cin.tys) : islands_Places.f k x = goK (Γ k) F (T k) 2000 [.code body] ((con 0).cin.st x) := by kernel_rfl
theorem okΓ (k : Nat) : ΓOk Go.Proofs.Tryd.prog (Γ k) := Γcons (netmodel_Check.ok k) ⟨Go.Proofs.Tryd.f54, by kernel_rfl, by kernel_rfl, by kernel_rfl⟩ (Γcons (islands_places.ok k) ⟨Go.Proofs.Tryd.f55, by kernel_rfl, by kernel_rfl, by kernel_rfl⟩ (Γnil))
theorem ok (k : Nat) : ConSound Go.Proofs.Tryd.prog 23 (con k) := con_sound (Γ := Γ) (fn := Go.Proofs.Tryd.f23) (body := body) (cin := (con 0).cin) (F := F) (T := T) follows (by kernel_rfl) (by kernel_rfl) (by kernel_rfl) (by kernel_rfl) (by kernel_rfl) (by decide +kernel) (by kernel_rfl) (by kernel_rfl) (tzero trivial) k (fun m _ => okΓ m) (fun m _ => tstep trivial) (fun x y h => (main k x).symm.trans h)
end islands_Places
namespace gridhallref4_Cut
noncomputable abbrev con (k : Nat) : Con := ⟨⟨[(0, .l (.val (.int .i64))), (1, .l (.val (.int .i64))), (2, .l (.val (.int .i64)))], []⟩, ⟨[(0, .l (.val (.int .i64)))], []⟩, fun x => gridhallref4_Cut.f k x.1 x.2.1 x.2.2⟩
noncomputable abbrev Γ (k : Nat) : FuncId → Option Con := look []
abbrev F : Fin Go.Proofs.Tryd.prog := ⟨⟨[(0, .l (.val (.int .i64)))], []⟩, [], [.tmp 6]⟩
noncomputable abbrev Tl (k : Nat) : List (Nat × Hint (prods F.cout.tys)) := []
noncomputable abbrev T (k : Nat) : Nat → Option (Hint (prods F.cout.tys)) := look (Tl k)
noncomputable abbrev body : Code := Go.Proofs.Tryd.f24.body.getD .skip
theorem main (k : Nat) (x : prods (con 0).cin.tys) : gridhallref4_Cut.f k x.1 x.2.1 x.2.2 = goK (Γ k) F (T k) 2000 [.code body] ((con 0).cin.st x) := by kernel_rfl
theorem okΓ (k : Nat) : ΓOk Go.Proofs.Tryd.prog (Γ k) := Γnil
theorem ok (k : Nat) : ConSound Go.Proofs.Tryd.prog 24 (con k) := con_sound (Γ := Γ) (fn := Go.Proofs.Tryd.f24) (body := body) (cin := (con 0).cin) (F := F) (T := T) follows (by kernel_rfl) (by kernel_rfl) (by kernel_rfl) (by kernel_rfl) (by kernel_rfl) (by decide +kernel) (by kernel_rfl) (by kernel_rfl) (tzero trivial) k (fun m _ => okΓ m) (fun m _ => tstep trivial) (fun x y h => (main k x).symm.trans h)
end gridhallref4_Cut
namespace swing_Momentum
noncomputable abbrev con (k : Nat) : Con := ⟨⟨[(0, .av Y19)], []⟩, ⟨[(0, .l (.val .str)), (1, .l (.val (.int .i64)))], []⟩, fun x => swing_Momentum.f k x⟩
noncomputable abbrev Γ (k : Nat) : FuncId → Option Con := look [(26, swing_Check.con k), (29, rat_In.con k), (35, rat_Int.con k), (47, rat_Q_Mul.con k), (52, swing_text.con k)]
abbrev F : Fin Go.Proofs.Tryd.prog := ⟨⟨[(0, .l (.val .str)), (1, .l (.val (.int .i64)))], []⟩, [], [.tmp 2, .tmp 3]⟩
noncomputable abbrev Tl (k : Nat) : List (Nat × Hint (prods F.cout.tys)) := []
noncomputable abbrev T (k : Nat) : Nat → Option (Hint (prods F.cout.tys)) := look (Tl k)
noncomputable abbrev body : Code := Go.Proofs.Tryd.f27.body.getD .skip
theorem main (k : Nat) (x : prods (con 0).cin.tys) : swing_Momentum.f k x = goK (Γ k) F (T k) 2000 [.code body] ((con 0).cin.st x) := by kernel_rfl
theorem okΓ (k : Nat) : ΓOk Go.Proofs.Tryd.prog (Γ k) := Γcons (swing_Check.ok k) ⟨Go.Proofs.Tryd.f26, by kernel_rfl, by kernel_rfl, by kernel_rfl⟩ (Γcons (rat_In.ok k) ⟨Go.Proofs.Tryd.f29, by kernel_rfl, by kernel_rfl, by kernel_rfl⟩ (Γcons (rat_Int.ok k) ⟨Go.Proofs.Tryd.f35, by kernel_rfl, by kernel_rfl, by kernel_rfl⟩ (Γcons (rat_Q_Mul.ok k) ⟨Go.Proofs.Tryd.f47, by kernel_rfl, by kernel_rfl, by kernel_rfl⟩ (Γcons (swing_text.ok k) ⟨Go.Proofs.Tryd.f52, by kernel_rfl, by kernel_rfl, by kernel_rfl⟩ (Γnil)))))
theorem ok (k : Nat) : ConSound Go.Proofs.Tryd.prog 27 (con k) := con_sound (Γ := Γ) (fn := Go.Proofs.Tryd.f27) (body := body) (cin := (con 0).cin) (F := F) (T := T) follows (by kernel_rfl) (by kernel_rfl) (by kernel_rfl) (by kernel_rfl) (by kernel_rfl) (by decide +kernel) (by kernel_rfl) (by kernel_rfl) (tzero trivial) k (fun m _ => okΓ m) (fun m _ => tstep trivial) (fun x y h => (main k x).symm.trans h)
end swing_Momentum
namespace rat_size
noncomputable abbrev con (k : Nat) : Con := ⟨⟨[(0, .l (.val (.int .i64)))], []⟩, ⟨[(0, .l (.val (.list 138 (.int .u32))))], []⟩, fun x => rat_size.f k x⟩
noncomputable abbrev Γ (k : Nat) : FuncId → Option Con := look [(61, nat_Of.con k), (67, nat_N_Add.con k)]
abbrev F : Fin Go.Proofs.Tryd.prog := ⟨⟨[(0, .l (.val (.list 138 (.int .u32))))], []⟩, [], [.tmp 2]⟩
noncomputable abbrev Tl (k : Nat) : List (Nat × Hint (prods F.cout.tys)) := []
noncomputable abbrev T (k : Nat) : Nat → Option (Hint (prods F.cout.tys)) := look (Tl k)
noncomputable abbrev body : Code := Go.Proofs.Tryd.f43.body.getD .skip
theorem main (k : Nat) (x : prods (con 0).cin.tys) : rat_size.f k x = goK (Γ k) F (T k) 2000 [.code body] ((con 0).cin.st x) := by kernel_rfl
theorem okΓ (k : Nat) : ΓOk Go.Proofs.Tryd.prog (Γ k) := Γcons (nat_Of.ok k) ⟨Go.Proofs.Tryd.f61, by kernel_rfl, by kernel_rfl, by kernel_rfl⟩ (Γcons (nat_N_Add.ok k) ⟨Go.Proofs.Tryd.f67, by kernel_rfl, by kernel_rfl, by kernel_rfl⟩ (Γnil))
theorem ok (k : Nat) : ConSound Go.Proofs.Tryd.prog 43 (con k) := con_sound (Γ := Γ) (fn := Go.Proofs.Tryd.f43) (body := body) (cin := (con 0).cin) (F := F) (T := T) follows (by kernel_rfl) (by kernel_rfl) (by kernel_rfl) (by kernel_rfl) (by kernel_rfl) (by decide +kernel) (by kernel_rfl) (by kernel_rfl) (tzero trivial) k (fun m _ => okΓ m) (fun m _ => tstep trivial) (fun x y h => (main k x).symm.trans h)
end rat_size
namespace rat_Of
noncomputable abbrev con (k : Nat) : Con := ⟨⟨[(0, .l (.val (.int .i64))), (1, .l (.val (.int .i64)))], []⟩, ⟨[(0, .l (.val .str)), (1, .l (.val (.int .i64)))], []⟩, fun x => rat_Of.f k x.1 x.2⟩
noncomputable abbrev Γ (k : Nat) : FuncId → Option Con := look [(41, rat_told.con k), (42, rat_low.con k), (43, rat_size.con k)]
abbrev F : Fin Go.Proofs.Tryd.prog := ⟨⟨[(0, .l (.val .str)), (1, .l (.val (.int .i64)))], []⟩, [], [.tmp 4, .tmp 5]⟩
noncomputable abbrev Tl (k : Nat) : List (Nat × Hint (prods F.cout.tys)) := []
noncomputable abbrev T (k : Nat) : Nat → Option (Hint (prods F.cout.tys)) := look (Tl k)
noncomputable abbrev body : Code := Go.Proofs.Tryd.f12.body.getD .skip
theorem main (k : Nat) (x : prods (con 0).cin.tys) : rat_Of.f k x.1 x.2 = goK (Γ k) F (T k) 2000 [.code body] ((con 0).cin.st x) := by kernel_rfl
theorem okΓ (k : Nat) : ΓOk Go.Proofs.Tryd.prog (Γ k) := Γcons (rat_told.ok k) ⟨Go.Proofs.Tryd.f41, by kernel_rfl, by kernel_rfl, by kernel_rfl⟩ (Γcons (rat_low.ok k) ⟨Go.Proofs.Tryd.f42, by kernel_rfl, by kernel_rfl, by kernel_rfl⟩ (Γcons (rat_size.ok k) ⟨Go.Proofs.Tryd.f43, by kernel_rfl, by kernel_rfl, by kernel_rfl⟩ (Γnil)))
theorem ok (k : Nat) : ConSound Go.Proofs.Tryd.prog 12 (con k) := con_sound (Γ := Γ) (fn := Go.Proofs.Tryd.f12) (body := body) (cin := (con 0).cin) (F := F) (T := T) follows (by kernel_rfl) (by kernel_rfl) (by kernel_rfl) (by kernel_rfl) (by kernel_rfl) (by decide +kernel) (by kernel_rfl) (by kernel_rfl) (tzero trivial) k (fun m _ => okΓ m) (fun m _ => tstep trivial) (fun x y h => (main k x).symm.trans h)
end rat_Of
namespace gridhalltop_TopEnergy
noncomputable abbrev con (k : Nat) : Con := ⟨⟨[(0, .av Y26), (1, .l (.val (.list 3 (.int .i64)))), (2, .l (.val (.list 3 (.int .i64))))], []⟩, ⟨[(0, .l (.val .bool))], []⟩, fun x => gridhalltop_TopEnergy.f k x.1 x.2.1 x.2.2⟩
noncomputable abbrev Γ (k : Nat) : FuncId → Option Con := look [(9, rat_Add.con k), (12, rat_Of.con k), (21, swing_Step.con k), (22, islands_Of.con k), (23, islands_Places.con k), (24, gridhallref4_Cut.con k), (25, slices_Index_string.con k), (26, swing_Check.con k), (27, swing_Momentum.con k)]
abbrev F : Fin Go.Proofs.Tryd.prog := ⟨⟨[(0, .l (.val .bool))], []⟩, [], [.tmp 6]⟩
abbrev c14 : Cut := ⟨[(1, .l (.val (.list 3 (.int .i64)))), (2, .l (.val (.list 3 (.int .i64)))), (3, .l (.ptr 7000000 0)), (11, .l (.val (.list 3 (.int .i64)))), (13, .l (.row 7000001)), (14, .l (.val (.int .i64))), (15, .l (.val (.int .i64))), (92, .l (.val (.list 74 Y5))), (93, .l (.val (.int .i64))), (94, .l (.val (.int .i64)))], [(7000000, .box 52 [.val (.list 9 .str), .val (.list 150 Y3), .val (.list 107 Y11), .val (.list 76 Y13), .val (.list 109 Y15), .val (.list 175 Y13)]), (7000001, .row 65 Y19)]⟩
abbrev c22 : Cut := ⟨[(1, .l (.val (.list 3 (.int .i64)))), (3, .l (.ptr 7000000 0)), (11, .l (.val (.list 3 (.int .i64)))), (13, .l (.row 7000001)), (14, .l (.val (.int .i64))), (15, .l (.val (.int .i64))), (124, .l (.val (.list 76 Y13))), (125, .l (.val (.int .i64))), (126, .l (.val (.int .i64)))], [(7000000, .box 52 [.val (.list 9 .str), .val (.list 150 Y3), .val (.list 107 Y11), .val (.list 76 Y13), .val (.list 109 Y15), .val (.list 175 Y13)]), (7000001, .row 65 Y19)]⟩
abbrev c27 : Cut := ⟨[(1, .l (.val (.list 3 (.int .i64)))), (3, .l (.ptr 7000000 0)), (11, .l (.val (.list 3 (.int .i64)))), (13, .l (.row 7000001)), (14, .l (.val (.int .i64))), (15, .l (.val (.int .i64))), (19, .l (.ptr 7000002 0)), (20, .l (.val (.int .i64))), (124, .l (.val (.list 76 Y13))), (125, .l (.val (.int .i64))), (126, .l (.val (.int .i64)))], [(7000000, .box 52 [.val (.list 9 .str), .val (.list 150 Y3), .val (.list 107 Y11), .val (.list 76 Y13), .val (.list 109 Y15), .val (.list 175 Y13)]), (7000001, .row 65 Y19), (7000002, .box 76 [.val .str, .val .str, .val (.int .i64), .val (.int .i64), .val (.int .i64)])]⟩
abbrev c35 : Cut := ⟨[(14, .l (.val (.int .i64))), (15, .l (.val (.int .i64))), (22, .l (.val .str)), (172, .l (.row 7000000)), (173, .l (.val (.int .i64))), (174, .l (.val (.int .i64)))], [(7000000, .row 65 Y19)]⟩
noncomputable abbrev Tl (k : Nat) : List (Nat × Hint (prods F.cout.tys)) := [(14, ⟨c14, fun x => gridhalltop_TopEnergy.l14 k x.1 x.2.1 x.2.2.1 x.2.2.2.1 x.2.2.2.2.1 x.2.2.2.2.2.1 x.2.2.2.2.2.2.1 x.2.2.2.2.2.2.2.1 x.2.2.2.2.2.2.2.2.1 x.2.2.2.2.2.2.2.2.2.1 x.2.2.2.2.2.2.2.2.2.2.1 x.2.2.2.2.2.2.2.2.2.2.2.1 x.2.2.2.2.2.2.2.2.2.2.2.2.1 x.2.2.2.2.2.2.2.2.2.2.2.2.2.1 x.2.2.2.2.2.2.2.2.2.2.2.2.2.2⟩), (22, ⟨c22, fun x => gridhalltop_TopEnergy.l22 k x.1 x.2.1 x.2.2.1 x.2.2.2.1 x.2.2.2.2.1 x.2.2.2.2.2.1 x.2.2.2.2.2.2.1 x.2.2.2.2.2.2.2.1 x.2.2.2.2.2.2.2.2.1 x.2.2.2.2.2.2.2.2.2.1 x.2.2.2.2.2.2.2.2.2.2.1 x.2.2.2.2.2.2.2.2.2.2.2.1 x.2.2.2.2.2.2.2.2.2.2.2.2.1 x.2.2.2.2.2.2.2.2.2.2.2.2.2⟩), (27, ⟨c27, fun x => gridhalltop_TopEnergy.l27 k x.1 x.2.1 x.2.2.1 x.2.2.2.1 x.2.2.2.2.1 x.2.2.2.2.2.1 x.2.2.2.2.2.2.1 x.2.2.2.2.2.2.2.1 x.2.2.2.2.2.2.2.2.1 x.2.2.2.2.2.2.2.2.2.1 x.2.2.2.2.2.2.2.2.2.2.1 x.2.2.2.2.2.2.2.2.2.2.2.1 x.2.2.2.2.2.2.2.2.2.2.2.2.1 x.2.2.2.2.2.2.2.2.2.2.2.2.2.1 x.2.2.2.2.2.2.2.2.2.2.2.2.2.2.1 x.2.2.2.2.2.2.2.2.2.2.2.2.2.2.2.1 x.2.2.2.2.2.2.2.2.2.2.2.2.2.2.2.2.1 x.2.2.2.2.2.2.2.2.2.2.2.2.2.2.2.2.2.1 x.2.2.2.2.2.2.2.2.2.2.2.2.2.2.2.2.2.2.1 x.2.2.2.2.2.2.2.2.2.2.2.2.2.2.2.2.2.2.2⟩), (35, ⟨c35, fun x => gridhalltop_TopEnergy.l35 k x.1 x.2.1 x.2.2.1 x.2.2.2.1 x.2.2.2.2.1 x.2.2.2.2.2⟩)]
noncomputable abbrev T (k : Nat) : Nat → Option (Hint (prods F.cout.tys)) := look (Tl k)
noncomputable abbrev body : Code := Go.Proofs.Tryd.f7.body.getD .skip
theorem s14 (k : Nat) (x : prods c14.tys) : gridhalltop_TopEnergy.l14 (k + 1) x.1 x.2.1 x.2.2.1 x.2.2.2.1 x.2.2.2.2.1 x.2.2.2.2.2.1 x.2.2.2.2.2.2.1 x.2.2.2.2.2.2.2.1 x.2.2.2.2.2.2.2.2.1 x.2.2.2.2.2.2.2.2.2.1 x.2.2.2.2.2.2.2.2.2.2.1 x.2.2.2.2.2.2.2.2.2.2.2.1 x.2.2.2.2.2.2.2.2.2.2.2.2.1 x.2.2.2.2.2.2.2.2.2.2.2.2.2.1 x.2.2.2.2.2.2.2.2.2.2.2.2.2.2 = segK (Γ k) F (T k) body 14 (c14.st x) := by kernel_rfl
theorem s22 (k : Nat) (x : prods c22.tys) : gridhalltop_TopEnergy.l22 (k + 1) x.1 x.2.1 x.2.2.1 x.2.2.2.1 x.2.2.2.2.1 x.2.2.2.2.2.1 x.2.2.2.2.2.2.1 x.2.2.2.2.2.2.2.1 x.2.2.2.2.2.2.2.2.1 x.2.2.2.2.2.2.2.2.2.1 x.2.2.2.2.2.2.2.2.2.2.1 x.2.2.2.2.2.2.2.2.2.2.2.1 x.2.2.2.2.2.2.2.2.2.2.2.2.1 x.2.2.2.2.2.2.2.2.2.2.2.2.2 = segK (Γ k) F (T k) body 22 (c22.st x) := by kernel_rfl
theorem s27 (k : Nat) (x : prods c27.tys) : gridhalltop_TopEnergy.l27 (k + 1) x.1 x.2.1 x.2.2.1 x.2.2.2.1 x.2.2.2.2.1 x.2.2.2.2.2.1 x.2.2.2.2.2.2.1 x.2.2.2.2.2.2.2.1 x.2.2.2.2.2.2.2.2.1 x.2.2.2.2.2.2.2.2.2.1 x.2.2.2.2.2.2.2.2.2.2.1 x.2.2.2.2.2.2.2.2.2.2.2.1 x.2.2.2.2.2.2.2.2.2.2.2.2.1 x.2.2.2.2.2.2.2.2.2.2.2.2.2.1 x.2.2.2.2.2.2.2.2.2.2.2.2.2.2.1 x.2.2.2.2.2.2.2.2.2.2.2.2.2.2.2.1 x.2.2.2.2.2.2.2.2.2.2.2.2.2.2.2.2.1 x.2.2.2.2.2.2.2.2.2.2.2.2.2.2.2.2.2.1 x.2.2.2.2.2.2.2.2.2.2.2.2.2.2.2.2.2.2.1 x.2.2.2.2.2.2.2.2.2.2.2.2.2.2.2.2.2.2.2 = segK (Γ k) F (T k) body 27 (c27.st x) := by kernel_rfl
theorem s35 (k : Nat) (x : prods c35.tys) : gridhalltop_TopEnergy.l35 (k + 1) x.1 x.2.1 x.2.2.1 x.2.2.2.1 x.2.2.2.2.1 x.2.2.2.2.2 = segK (Γ k) F (T k) body 35 (c35.st x) := by kernel_rfl
theorem main (k : Nat) (x : prods (con 0).cin.tys) : gridhalltop_TopEnergy.f k x.1 x.2.1 x.2.2 = goK (Γ k) F (T k) 2000 [.code body] ((con 0).cin.st x) := by kernel_rfl
theorem okΓ (k : Nat) : ΓOk Go.Proofs.Tryd.prog (Γ k) := Γcons (rat_Add.ok k) ⟨Go.Proofs.Tryd.f9, by kernel_rfl, by kernel_rfl, by kernel_rfl⟩ (Γcons (rat_Of.ok k) ⟨Go.Proofs.Tryd.f12, by kernel_rfl, by kernel_rfl, by kernel_rfl⟩ (Γcons (swing_Step.ok k) ⟨Go.Proofs.Tryd.f21, by kernel_rfl, by kernel_rfl, by kernel_rfl⟩ (Γcons (islands_Of.ok k) ⟨Go.Proofs.Tryd.f22, by kernel_rfl, by kernel_rfl, by kernel_rfl⟩ (Γcons (islands_Places.ok k) ⟨Go.Proofs.Tryd.f23, by kernel_rfl, by kernel_rfl, by kernel_rfl⟩ (Γcons (gridhallref4_Cut.ok k) ⟨Go.Proofs.Tryd.f24, by kernel_rfl, by kernel_rfl, by kernel_rfl⟩ (Γcons (slices_Index_string.ok k) ⟨Go.Proofs.Tryd.f25, by kernel_rfl, by kernel_rfl, by kernel_rfl⟩ (Γcons (swing_Check.ok k) ⟨Go.Proofs.Tryd.f26, by kernel_rfl, by kernel_rfl, by kernel_rfl⟩ (Γcons (swing_Momentum.ok k) ⟨Go.Proofs.Tryd.f27, by kernel_rfl, by kernel_rfl, by kernel_rfl⟩ (Γnil)))))))))
theorem ok (k : Nat) : ConSound Go.Proofs.Tryd.prog 7 (con k) := con_sound (Γ := Γ) (fn := Go.Proofs.Tryd.f7) (body := body) (cin := (con 0).cin) (F := F) (T := T) follows (by kernel_rfl) (by kernel_rfl) (by kernel_rfl) (by kernel_rfl) (by kernel_rfl) (by decide +kernel) (by kernel_rfl) (by kernel_rfl) (tzero ⟨fun x => by kernel_rfl, fun x => by kernel_rfl, fun x => by kernel_rfl, fun x => by kernel_rfl, trivial⟩) k (fun m _ => okΓ m) (fun m _ => tstep ⟨fun x => Eq.trans (by kernel_rfl) (s14 m x), fun x => Eq.trans (by kernel_rfl) (s22 m x), fun x => Eq.trans (by kernel_rfl) (s27 m x), fun x => Eq.trans (by kernel_rfl) (s35 m x), trivial⟩) (fun x y h => (main k x).symm.trans h)
end gridhalltop_TopEnergy
namespace rat_Q_down
noncomputable abbrev con (k : Nat) : Con := ⟨⟨[(0, .av Y21)], []⟩, ⟨[(0, .av Y21)], []⟩, fun x => rat_Q_down.f k x⟩
noncomputable abbrev Γ (k : Nat) : FuncId → Option Con := look [(42, rat_low.con k), (61, nat_Of.con k), (65, rat_Q_whole.con k), (67, nat_N_Add.con k), (73, nat_N_Div.con k)]
abbrev F : Fin Go.Proofs.Tryd.prog := ⟨⟨[(0, .av Y21)], []⟩, [], [.cell 2 85]⟩
noncomputable abbrev Tl (k : Nat) : List (Nat × Hint (prods F.cout.tys)) := []
noncomputable abbrev T (k : Nat) : Nat → Option (Hint (prods F.cout.tys)) := look (Tl k)
noncomputable abbrev body : Code := Go.Proofs.Tryd.f70.body.getD .skip
theorem main (k : Nat) (x : prods (con 0).cin.tys) : rat_Q_down.f k x = goK (Γ k) F (T k) 2000 [.code body] ((con 0).cin.st x) := by kernel_rfl
theorem okΓ (k : Nat) : ΓOk Go.Proofs.Tryd.prog (Γ k) := Γcons (rat_low.ok k) ⟨Go.Proofs.Tryd.f42, by kernel_rfl, by kernel_rfl, by kernel_rfl⟩ (Γcons (nat_Of.ok k) ⟨Go.Proofs.Tryd.f61, by kernel_rfl, by kernel_rfl, by kernel_rfl⟩ (Γcons (rat_Q_whole.ok k) ⟨Go.Proofs.Tryd.f65, by kernel_rfl, by kernel_rfl, by kernel_rfl⟩ (Γcons (nat_N_Add.ok k) ⟨Go.Proofs.Tryd.f67, by kernel_rfl, by kernel_rfl, by kernel_rfl⟩ (Γcons (nat_N_Div.ok k) ⟨Go.Proofs.Tryd.f73, by kernel_rfl, by kernel_rfl, by kernel_rfl⟩ (Γnil)))))
theorem ok (k : Nat) : ConSound Go.Proofs.Tryd.prog 70 (con k) := con_sound (Γ := Γ) (fn := Go.Proofs.Tryd.f70) (body := body) (cin := (con 0).cin) (F := F) (T := T) follows (by kernel_rfl) (by kernel_rfl) (by kernel_rfl) (by kernel_rfl) (by kernel_rfl) (by decide +kernel) (by kernel_rfl) (by kernel_rfl) (tzero trivial) k (fun m _ => okΓ m) (fun m _ => tstep trivial) (fun x y h => (main k x).symm.trans h)
end rat_Q_down
namespace rat_Floor
noncomputable abbrev con (k : Nat) : Con := ⟨⟨[(0, .l (.val .str))], []⟩, ⟨[(0, .l (.val .str)), (1, .l (.val (.int .i64)))], []⟩, fun x => rat_Floor.f k x⟩
noncomputable abbrev Γ (k : Nat) : FuncId → Option Con := look [(29, rat_In.con k), (41, rat_told.con k), (57, rat_Check.con k), (70, rat_Q_down.con k)]
abbrev F : Fin Go.Proofs.Tryd.prog := ⟨⟨[(0, .l (.val .str)), (1, .l (.val (.int .i64)))], []⟩, [], [.tmp 2, .tmp 3]⟩
noncomputable abbrev Tl (k : Nat) : List (Nat × Hint (prods F.cout.tys)) := []
noncomputable abbrev T (k : Nat) : Nat → Option (Hint (prods F.cout.tys)) := look (Tl k)
noncomputable abbrev body : Code := Go.Proofs.Tryd.f36.body.getD .skip
theorem main (k : Nat) (x : prods (con 0).cin.tys) : rat_Floor.f k x = goK (Γ k) F (T k) 2000 [.code body] ((con 0).cin.st x) := by kernel_rfl
theorem okΓ (k : Nat) : ΓOk Go.Proofs.Tryd.prog (Γ k) := Γcons (rat_In.ok k) ⟨Go.Proofs.Tryd.f29, by kernel_rfl, by kernel_rfl, by kernel_rfl⟩ (Γcons (rat_told.ok k) ⟨Go.Proofs.Tryd.f41, by kernel_rfl, by kernel_rfl, by kernel_rfl⟩ (Γcons (rat_Check.ok k) ⟨Go.Proofs.Tryd.f57, by kernel_rfl, by kernel_rfl, by kernel_rfl⟩ (Γcons (rat_Q_down.ok k) ⟨Go.Proofs.Tryd.f70, by kernel_rfl, by kernel_rfl, by kernel_rfl⟩ (Γnil))))
theorem ok (k : Nat) : ConSound Go.Proofs.Tryd.prog 36 (con k) := con_sound (Γ := Γ) (fn := Go.Proofs.Tryd.f36) (body := body) (cin := (con 0).cin) (F := F) (T := T) follows (by kernel_rfl) (by kernel_rfl) (by kernel_rfl) (by kernel_rfl) (by kernel_rfl) (by decide +kernel) (by kernel_rfl) (by kernel_rfl) (tzero trivial) k (fun m _ => okΓ m) (fun m _ => tstep trivial) (fun x y h => (main k x).symm.trans h)
end rat_Floor
namespace rat_Integer
noncomputable abbrev con (k : Nat) : Con := ⟨⟨[(0, .l (.val .str))], []⟩, ⟨[(0, .l (.val (.int .i64))), (1, .l (.val (.int .i64)))], []⟩, fun x => rat_Integer.f k x⟩
noncomputable abbrev Γ (k : Nat) : FuncId → Option Con := look [(29, rat_In.con k), (57, rat_Check.con k), (61, nat_Of.con k), (65, rat_Q_whole.con k), (67, nat_N_Add.con k), (68, nat_N_Cmp.con k)]
abbrev F : Fin Go.Proofs.Tryd.prog := ⟨⟨[(0, .l (.val (.int .i64))), (1, .l (.val (.int .i64)))], []⟩, [], [.tmp 2, .tmp 3]⟩
abbrev c14 : Cut := ⟨[(5, .l (.ptr 7000000 0)), (7, .l (.val (.int .i64))), (8, .l (.val (.int .i64)))], [(7000000, .box 85 [.val .bool, .val (.list 138 (.int .u32)), .val (.list 138 (.int .u32))])]⟩
noncomputable abbrev Tl (k : Nat) : List (Nat × Hint (prods F.cout.tys)) := [(14, ⟨c14, fun x => rat_Integer.l14 k x.1 x.2.1 x.2.2.1 x.2.2.2.1 x.2.2.2.2⟩)]
noncomputable abbrev T (k : Nat) : Nat → Option (Hint (prods F.cout.tys)) := look (Tl k)
noncomputable abbrev body : Code := Go.Proofs.Tryd.f37.body.getD .skip
theorem s14 (k : Nat) (x : prods c14.tys) : rat_Integer.l14 (k + 1) x.1 x.2.1 x.2.2.1 x.2.2.2.1 x.2.2.2.2 = segK (Γ k) F (T k) body 14 (c14.st x) := by kernel_rfl
theorem main (k : Nat) (x : prods (con 0).cin.tys) : rat_Integer.f k x = goK (Γ k) F (T k) 2000 [.code body] ((con 0).cin.st x) := by kernel_rfl
theorem okΓ (k : Nat) : ΓOk Go.Proofs.Tryd.prog (Γ k) := Γcons (rat_In.ok k) ⟨Go.Proofs.Tryd.f29, by kernel_rfl, by kernel_rfl, by kernel_rfl⟩ (Γcons (rat_Check.ok k) ⟨Go.Proofs.Tryd.f57, by kernel_rfl, by kernel_rfl, by kernel_rfl⟩ (Γcons (nat_Of.ok k) ⟨Go.Proofs.Tryd.f61, by kernel_rfl, by kernel_rfl, by kernel_rfl⟩ (Γcons (rat_Q_whole.ok k) ⟨Go.Proofs.Tryd.f65, by kernel_rfl, by kernel_rfl, by kernel_rfl⟩ (Γcons (nat_N_Add.ok k) ⟨Go.Proofs.Tryd.f67, by kernel_rfl, by kernel_rfl, by kernel_rfl⟩ (Γcons (nat_N_Cmp.ok k) ⟨Go.Proofs.Tryd.f68, by kernel_rfl, by kernel_rfl, by kernel_rfl⟩ (Γnil))))))
theorem ok (k : Nat) : ConSound Go.Proofs.Tryd.prog 37 (con k) := con_sound (Γ := Γ) (fn := Go.Proofs.Tryd.f37) (body := body) (cin := (con 0).cin) (F := F) (T := T) follows (by kernel_rfl) (by kernel_rfl) (by kernel_rfl) (by kernel_rfl) (by kernel_rfl) (by decide +kernel) (by kernel_rfl) (by kernel_rfl) (tzero ⟨fun x => by kernel_rfl, trivial⟩) k (fun m _ => okΓ m) (fun m _ => tstep ⟨fun x => Eq.trans (by kernel_rfl) (s14 m x), trivial⟩) (fun x y h => (main k x).symm.trans h)
end rat_Integer
namespace rat_Q_Sign
noncomputable abbrev con (k : Nat) : Con := ⟨⟨[(0, .av Y21)], []⟩, ⟨[(0, .l (.val (.int .i64)))], []⟩, fun x => rat_Q_Sign.f k x⟩
noncomputable abbrev Γ (k : Nat) : FuncId → Option Con := look []
abbrev F : Fin Go.Proofs.Tryd.prog := ⟨⟨[(0, .l (.val (.int .i64)))], []⟩, [], [.tmp 2]⟩
noncomputable abbrev Tl (k : Nat) : List (Nat × Hint (prods F.cout.tys)) := []
noncomputable abbrev T (k : Nat) : Nat → Option (Hint (prods F.cout.tys)) := look (Tl k)
noncomputable abbrev body : Code := Go.Proofs.Tryd.f46.body.getD .skip
theorem main (k : Nat) (x : prods (con 0).cin.tys) : rat_Q_Sign.f k x = goK (Γ k) F (T k) 2000 [.code body] ((con 0).cin.st x) := by kernel_rfl
theorem okΓ (k : Nat) : ΓOk Go.Proofs.Tryd.prog (Γ k) := Γnil
theorem ok (k : Nat) : ConSound Go.Proofs.Tryd.prog 46 (con k) := con_sound (Γ := Γ) (fn := Go.Proofs.Tryd.f46) (body := body) (cin := (con 0).cin) (F := F) (T := T) follows (by kernel_rfl) (by kernel_rfl) (by kernel_rfl) (by kernel_rfl) (by kernel_rfl) (by decide +kernel) (by kernel_rfl) (by kernel_rfl) (tzero trivial) k (fun m _ => okΓ m) (fun m _ => tstep trivial) (fun x y h => (main k x).symm.trans h)
end rat_Q_Sign
namespace rat_Q_Cmp
noncomputable abbrev con (k : Nat) : Con := ⟨⟨[(0, .av Y21), (1, .av Y21)], []⟩, ⟨[(0, .l (.val (.int .i64)))], []⟩, fun x => rat_Q_Cmp.f k x.1 x.2⟩
noncomputable abbrev Γ (k : Nat) : FuncId → Option Con := look [(30, rat_Q_Sub.con k), (46, rat_Q_Sign.con k)]
abbrev F : Fin Go.Proofs.Tryd.prog := ⟨⟨[(0, .l (.val (.int .i64)))], []⟩, [], [.tmp 4]⟩
noncomputable abbrev Tl (k : Nat) : List (Nat × Hint (prods F.cout.tys)) := []
noncomputable abbrev T (k : Nat) : Nat → Option (Hint (prods F.cout.tys)) := look (Tl k)
noncomputable abbrev body : Code := Go.Proofs.Tryd.f40.body.getD .skip
theorem main (k : Nat) (x : prods (con 0).cin.tys) : rat_Q_Cmp.f k x.1 x.2 = goK (Γ k) F (T k) 2000 [.code body] ((con 0).cin.st x) := by kernel_rfl
theorem okΓ (k : Nat) : ΓOk Go.Proofs.Tryd.prog (Γ k) := Γcons (rat_Q_Sub.ok k) ⟨Go.Proofs.Tryd.f30, by kernel_rfl, by kernel_rfl, by kernel_rfl⟩ (Γcons (rat_Q_Sign.ok k) ⟨Go.Proofs.Tryd.f46, by kernel_rfl, by kernel_rfl, by kernel_rfl⟩ (Γnil))
theorem ok (k : Nat) : ConSound Go.Proofs.Tryd.prog 40 (con k) := con_sound (Γ := Γ) (fn := Go.Proofs.Tryd.f40) (body := body) (cin := (con 0).cin) (F := F) (T := T) follows (by kernel_rfl) (by kernel_rfl) (by kernel_rfl) (by kernel_rfl) (by kernel_rfl) (by decide +kernel) (by kernel_rfl) (by kernel_rfl) (tzero trivial) k (fun m _ => okΓ m) (fun m _ => tstep trivial) (fun x y h => (main k x).symm.trans h)
end rat_Q_Cmp
namespace settle_Round_1
noncomputable abbrev con (k : Nat) : Con := ⟨⟨[(0, .l (.val (.int .i64))), (1, .l (.val (.int .i64))), (2, .l (.ptr 9000000 0))], [(9000000, .box 93 [.row 9000001]), (9000001, .row 85 Y21)]⟩, ⟨[(0, .l (.val (.int .i64)))], [(9000000, .box 93 [.row 9000001]), (9000001, .row 85 Y21)]⟩, fun x => settle_Round_1.f k x.1 x.2.1 x.2.2⟩
noncomputable abbrev Γ (k : Nat) : FuncId → Option Con := look [(40, rat_Q_Cmp.con k)]
abbrev F : Fin Go.Proofs.Tryd.prog := ⟨⟨[(0, .l (.val (.int .i64)))], [(9000000, .box 93 [.row 9000001]), (9000001, .row 85 Y21)]⟩, [9000000, 9000001], [.tmp 5]⟩
noncomputable abbrev Tl (k : Nat) : List (Nat × Hint (prods F.cout.tys)) := []
noncomputable abbrev T (k : Nat) : Nat → Option (Hint (prods F.cout.tys)) := look (Tl k)
noncomputable abbrev body : Code := Go.Proofs.Tryd.f39.body.getD .skip
theorem main (k : Nat) (x : prods (con 0).cin.tys) : settle_Round_1.f k x.1 x.2.1 x.2.2 = goK (Γ k) F (T k) 2000 [.code body] ((con 0).cin.st x) := by kernel_rfl
theorem okΓ (k : Nat) : ΓOk Go.Proofs.Tryd.prog (Γ k) := Γcons (rat_Q_Cmp.ok k) ⟨Go.Proofs.Tryd.f40, by kernel_rfl, by kernel_rfl, by kernel_rfl⟩ (Γnil)
theorem ok (k : Nat) : ConSound Go.Proofs.Tryd.prog 39 (con k) := con_sound (Γ := Γ) (fn := Go.Proofs.Tryd.f39) (body := body) (cin := (con 0).cin) (F := F) (T := T) follows (by kernel_rfl) (by kernel_rfl) (by kernel_rfl) (by kernel_rfl) (by kernel_rfl) (by decide +kernel) (by kernel_rfl) (by kernel_rfl) (tzero trivial) k (fun m _ => okΓ m) (fun m _ => tstep trivial) (fun x y h => (main k x).symm.trans h)
end settle_Round_1
namespace slices_insertionSortCmpFunc_int
noncomputable abbrev con (k : Nat) : Con := ⟨⟨[(0, .l (.row 9000000)), (1, .l (.val (.int .i64))), (2, .l (.val (.int .i64))), (3, .l (.fnc 39 9000001))], [(9000000, .row 3 (.int .i64)), (9000001, .caps [.l (.ptr 9000002 0)]), (9000002, .box 93 [.row 9000003]), (9000003, .row 85 Y21)]⟩, ⟨[], [(9000000, .row 3 (.int .i64)), (9000002, .box 93 [.row 9000003]), (9000003, .row 85 Y21)]⟩, fun x => slices_insertionSortCmpFunc_int.f k x.1 x.2.1 x.2.2.1 x.2.2.2⟩
noncomputable abbrev Γ (k : Nat) : FuncId → Option Con := look [(39, settle_Round_1.con k)]
abbrev F : Fin Go.Proofs.Tryd.prog := ⟨⟨[], [(9000000, .row 3 (.int .i64)), (9000002, .box 93 [.row 9000003]), (9000003, .row 85 Y21)]⟩, [9000000, 9000002, 9000003], []⟩
abbrev c1 : Cut := ⟨[(0, .l (.row 9000000)), (1, .l (.val (.int .i64))), (2, .l (.val (.int .i64))), (3, .l (.fnc 39 7000000)), (8, .l (.val (.int .i64)))], [(9000000, .row 3 (.int .i64)), (9000002, .box 93 [.row 9000003]), (9000003, .row 85 Y21), (7000000, .caps [.l (.ptr 9000002 0)])]⟩
abbrev c4 : Cut := ⟨[(0, .l (.row 9000000)), (1, .l (.val (.int .i64))), (2, .l (.val (.int .i64))), (3, .l (.fnc 39 7000000)), (8, .l (.val (.int .i64))), (9, .l (.val (.int .i64)))], [(9000000, .row 3 (.int .i64)), (9000002, .box 93 [.row 9000003]), (9000003, .row 85 Y21), (7000000, .caps [.l (.ptr 9000002 0)])]⟩
noncomputable abbrev Tl (k : Nat) : List (Nat × Hint (prods F.cout.tys)) := [(1, ⟨c1, fun x => slices_insertionSortCmpFunc_int.l1 k x.1 x.2.1 x.2.2.1 x.2.2.2.1 x.2.2.2.2⟩), (4, ⟨c4, fun x => slices_insertionSortCmpFunc_int.l4 k x.1 x.2.1 x.2.2.1 x.2.2.2.1 x.2.2.2.2.1 x.2.2.2.2.2⟩)]
noncomputable abbrev T (k : Nat) : Nat → Option (Hint (prods F.cout.tys)) := look (Tl k)
noncomputable abbrev body : Code := Go.Proofs.Tryd.f88.body.getD .skip
theorem s1 (k : Nat) (x : prods c1.tys) : slices_insertionSortCmpFunc_int.l1 (k + 1) x.1 x.2.1 x.2.2.1 x.2.2.2.1 x.2.2.2.2 = segK (Γ k) F (T k) body 1 (c1.st x) := by kernel_rfl
theorem s4 (k : Nat) (x : prods c4.tys) : slices_insertionSortCmpFunc_int.l4 (k + 1) x.1 x.2.1 x.2.2.1 x.2.2.2.1 x.2.2.2.2.1 x.2.2.2.2.2 = segK (Γ k) F (T k) body 4 (c4.st x) := by kernel_rfl
theorem main (k : Nat) (x : prods (con 0).cin.tys) : slices_insertionSortCmpFunc_int.f k x.1 x.2.1 x.2.2.1 x.2.2.2 = goK (Γ k) F (T k) 2000 [.code body] ((con 0).cin.st x) := by kernel_rfl
theorem okΓ (k : Nat) : ΓOk Go.Proofs.Tryd.prog (Γ k) := Γcons (settle_Round_1.ok k) ⟨Go.Proofs.Tryd.f39, by kernel_rfl, by kernel_rfl, by kernel_rfl⟩ (Γnil)
theorem ok (k : Nat) : ConSound Go.Proofs.Tryd.prog 88 (con k) := con_sound (Γ := Γ) (fn := Go.Proofs.Tryd.f88) (body := body) (cin := (con 0).cin) (F := F) (T := T) follows (by kernel_rfl) (by kernel_rfl) (by kernel_rfl) (by kernel_rfl) (by kernel_rfl) (by decide +kernel) (by kernel_rfl) (by kernel_rfl) (tzero ⟨fun x => by kernel_rfl, fun x => by kernel_rfl, trivial⟩) k (fun m _ => okΓ m) (fun m _ => tstep ⟨fun x => Eq.trans (by kernel_rfl) (s1 m x), fun x => Eq.trans (by kernel_rfl) (s4 m x), trivial⟩) (fun x y h => (main k x).symm.trans h)
end slices_insertionSortCmpFunc_int
namespace slices_swapRangeCmpFunc_int
noncomputable abbrev con (k : Nat) : Con := ⟨⟨[(0, .l (.row 9000000)), (1, .l (.val (.int .i64))), (2, .l (.val (.int .i64))), (3, .l (.val (.int .i64))), (4, .l (.fnc 39 9000001))], [(9000000, .row 3 (.int .i64)), (9000001, .caps [.l (.ptr 9000002 0)]), (9000002, .box 93 [.row 9000003]), (9000003, .row 85 Y21)]⟩, ⟨[], [(9000000, .row 3 (.int .i64)), (9000002, .box 93 [.row 9000003]), (9000003, .row 85 Y21)]⟩, fun x => slices_swapRangeCmpFunc_int.f k x.1 x.2.1 x.2.2.1 x.2.2.2.1 x.2.2.2.2⟩
noncomputable abbrev Γ (k : Nat) : FuncId → Option Con := look []
abbrev F : Fin Go.Proofs.Tryd.prog := ⟨⟨[], [(9000000, .row 3 (.int .i64)), (9000002, .box 93 [.row 9000003]), (9000003, .row 85 Y21)]⟩, [9000000, 9000002, 9000003], []⟩
abbrev c1 : Cut := ⟨[(0, .l (.row 9000000)), (1, .l (.val (.int .i64))), (2, .l (.val (.int .i64))), (3, .l (.val (.int .i64))), (10, .l (.val (.int .i64)))], [(9000000, .row 3 (.int .i64)), (9000002, .box 93 [.row 9000003]), (9000003, .row 85 Y21)]⟩
noncomputable abbrev Tl (k : Nat) : List (Nat × Hint (prods F.cout.tys)) := [(1, ⟨c1, fun x => slices_swapRangeCmpFunc_int.l1 k x.1 x.2.1 x.2.2.1 x.2.2.2.1 x.2.2.2.2.1 x.2.2.2.2.2⟩)]
noncomputable abbrev T (k : Nat) : Nat → Option (Hint (prods F.cout.tys)) := look (Tl k)
noncomputable abbrev body : Code := Go.Proofs.Tryd.f119.body.getD .skip
theorem s1 (k : Nat) (x : prods c1.tys) : slices_swapRangeCmpFunc_int.l1 (k + 1) x.1 x.2.1 x.2.2.1 x.2.2.2.1 x.2.2.2.2.1 x.2.2.2.2.2 = segK (Γ k) F (T k) body 1 (c1.st x) := by kernel_rfl
theorem main (k : Nat) (x : prods (con 0).cin.tys) : slices_swapRangeCmpFunc_int.f k x.1 x.2.1 x.2.2.1 x.2.2.2.1 x.2.2.2.2 = goK (Γ k) F (T k) 2000 [.code body] ((con 0).cin.st x) := by kernel_rfl
theorem okΓ (k : Nat) : ΓOk Go.Proofs.Tryd.prog (Γ k) := Γnil
theorem ok (k : Nat) : ConSound Go.Proofs.Tryd.prog 119 (con k) := con_sound (Γ := Γ) (fn := Go.Proofs.Tryd.f119) (body := body) (cin := (con 0).cin) (F := F) (T := T) follows (by kernel_rfl) (by kernel_rfl) (by kernel_rfl) (by kernel_rfl) (by kernel_rfl) (by decide +kernel) (by kernel_rfl) (by kernel_rfl) (tzero ⟨fun x => by kernel_rfl, trivial⟩) k (fun m _ => okΓ m) (fun m _ => tstep ⟨fun x => Eq.trans (by kernel_rfl) (s1 m x), trivial⟩) (fun x y h => (main k x).symm.trans h)
end slices_swapRangeCmpFunc_int
namespace slices_rotateCmpFunc_int
noncomputable abbrev con (k : Nat) : Con := ⟨⟨[(0, .l (.row 9000000)), (1, .l (.val (.int .i64))), (2, .l (.val (.int .i64))), (3, .l (.val (.int .i64))), (4, .l (.fnc 39 9000001))], [(9000000, .row 3 (.int .i64)), (9000001, .caps [.l (.ptr 9000002 0)]), (9000002, .box 93 [.row 9000003]), (9000003, .row 85 Y21)]⟩, ⟨[], [(9000000, .row 3 (.int .i64)), (9000002, .box 93 [.row 9000003]), (9000003, .row 85 Y21)]⟩, fun x => slices_rotateCmpFunc_int.f k x.1 x.2.1 x.2.2.1 x.2.2.2.1 x.2.2.2.2⟩
noncomputable abbrev Γ (k : Nat) : FuncId → Option Con := look [(119, slices_swapRangeCmpFunc_int.con k)]
abbrev F : Fin Go.Proofs.Tryd.prog := ⟨⟨[], [(9000000, .row 3 (.int .i64)), (9000002, .box 93 [.row 9000003]), (9000003, .row 85 Y21)]⟩, [9000000, 9000002, 9000003], []⟩
abbrev c2 : Cut := ⟨[(0, .l (.row 9000000)), (2, .l (.val (.int .i64))), (4, .l (.fnc 39 7000000)), (10, .l (.val (.int .i64))), (11, .l (.val (.int .i64)))], [(9000000, .row 3 (.int .i64)), (9000002, .box 93 [.row 9000003]), (9000003, .row 85 Y21), (7000000, .caps [.l (.ptr 9000002 0)])]⟩
noncomputable abbrev Tl (k : Nat) : List (Nat × Hint (prods F.cout.tys)) := [(2, ⟨c2, fun x => slices_rotateCmpFunc_int.l2 k x.1 x.2.1 x.2.2.1 x.2.2.2.1 x.2.2.2.2⟩)]
noncomputable abbrev T (k : Nat) : Nat → Option (Hint (prods F.cout.tys)) := look (Tl k)
noncomputable abbrev body : Code := Go.Proofs.Tryd.f108.body.getD .skip
theorem s2 (k : Nat) (x : prods c2.tys) : slices_rotateCmpFunc_int.l2 (k + 1) x.1 x.2.1 x.2.2.1 x.2.2.2.1 x.2.2.2.2 = segK (Γ k) F (T k) body 2 (c2.st x) := by kernel_rfl
theorem main (k : Nat) (x : prods (con 0).cin.tys) : slices_rotateCmpFunc_int.f k x.1 x.2.1 x.2.2.1 x.2.2.2.1 x.2.2.2.2 = goK (Γ k) F (T k) 2000 [.code body] ((con 0).cin.st x) := by kernel_rfl
theorem okΓ (k : Nat) : ΓOk Go.Proofs.Tryd.prog (Γ k) := Γcons (slices_swapRangeCmpFunc_int.ok k) ⟨Go.Proofs.Tryd.f119, by kernel_rfl, by kernel_rfl, by kernel_rfl⟩ (Γnil)
theorem ok (k : Nat) : ConSound Go.Proofs.Tryd.prog 108 (con k) := con_sound (Γ := Γ) (fn := Go.Proofs.Tryd.f108) (body := body) (cin := (con 0).cin) (F := F) (T := T) follows (by kernel_rfl) (by kernel_rfl) (by kernel_rfl) (by kernel_rfl) (by kernel_rfl) (by decide +kernel) (by kernel_rfl) (by kernel_rfl) (tzero ⟨fun x => by kernel_rfl, trivial⟩) k (fun m _ => okΓ m) (fun m _ => tstep ⟨fun x => Eq.trans (by kernel_rfl) (s2 m x), trivial⟩) (fun x y h => (main k x).symm.trans h)
end slices_rotateCmpFunc_int
namespace slices_symMergeCmpFunc_int
noncomputable abbrev con (k : Nat) : Con := ⟨⟨[(0, .l (.row 9000000)), (1, .l (.val (.int .i64))), (2, .l (.val (.int .i64))), (3, .l (.val (.int .i64))), (4, .l (.fnc 39 9000001))], [(9000000, .row 3 (.int .i64)), (9000001, .caps [.l (.ptr 9000002 0)]), (9000002, .box 93 [.row 9000003]), (9000003, .row 85 Y21)]⟩, ⟨[], [(9000000, .row 3 (.int .i64)), (9000002, .box 93 [.row 9000003]), (9000003, .row 85 Y21)]⟩, fun x => slices_symMergeCmpFunc_int.f k x.1 x.2.1 x.2.2.1 x.2.2.2.1 x.2.2.2.2⟩
noncomputable abbrev Γ (k : Nat) : FuncId → Option Con := look [(39, settle_Round_1.con k), (89, slices_symMergeCmpFunc_int.con k), (108, slices_rotateCmpFunc_int.con k)]
abbrev F : Fin Go.Proofs.Tryd.prog := ⟨⟨[], [(9000000, .row 3 (.int .i64)), (9000002, .box 93 [.row 9000003]), (9000003, .row 85 Y21)]⟩, [9000000, 9000002, 9000003], []⟩
abbrev c3 : Cut := ⟨[(0, .l (.row 9000000)), (1, .l (.val (.int .i64))), (4, .l (.fnc 39 7000000)), (10, .l (.val (.int .i64))), (11, .l (.val (.int .i64)))], [(9000000, .row 3 (.int .i64)), (9000002, .box 93 [.row 9000003]), (9000003, .row 85 Y21), (7000000, .caps [.l (.ptr 9000002 0)])]⟩
abbrev c9 : Cut := ⟨[(0, .l (.row 9000000)), (10, .l (.val (.int .i64))), (13, .l (.val (.int .i64)))], [(9000000, .row 3 (.int .i64)), (9000002, .box 93 [.row 9000003]), (9000003, .row 85 Y21)]⟩
abbrev c15 : Cut := ⟨[(0, .l (.row 9000000)), (2, .l (.val (.int .i64))), (4, .l (.fnc 39 7000000)), (14, .l (.val (.int .i64))), (15, .l (.val (.int .i64)))], [(9000000, .row 3 (.int .i64)), (9000002, .box 93 [.row 9000003]), (9000003, .row 85 Y21), (7000000, .caps [.l (.ptr 9000002 0)])]⟩
abbrev c21 : Cut := ⟨[(0, .l (.row 9000000)), (14, .l (.val (.int .i64))), (17, .l (.val (.int .i64)))], [(9000000, .row 3 (.int .i64)), (9000002, .box 93 [.row 9000003]), (9000003, .row 85 Y21)]⟩
abbrev c32 : Cut := ⟨[(0, .l (.row 9000000)), (1, .l (.val (.int .i64))), (2, .l (.val (.int .i64))), (3, .l (.val (.int .i64))), (4, .l (.fnc 39 7000000)), (18, .l (.val (.int .i64))), (19, .l (.val (.int .i64))), (20, .l (.val (.int .i64))), (21, .l (.val (.int .i64)))], [(9000000, .row 3 (.int .i64)), (9000002, .box 93 [.row 9000003]), (9000003, .row 85 Y21), (7000000, .caps [.l (.ptr 9000002 0)])]⟩
abbrev c33 : Cut := ⟨[(0, .l (.row 9000000)), (1, .l (.val (.int .i64))), (2, .l (.val (.int .i64))), (3, .l (.val (.int .i64))), (4, .l (.fnc 39 7000000)), (18, .l (.val (.int .i64))), (19, .l (.val (.int .i64))), (20, .l (.val (.int .i64))), (21, .l (.val (.int .i64))), (22, .l (.val (.int .i64)))], [(9000000, .row 3 (.int .i64)), (9000002, .box 93 [.row 9000003]), (9000003, .row 85 Y21), (7000000, .caps [.l (.ptr 9000002 0)])]⟩
abbrev c41 : Cut := ⟨[(0, .l (.row 9000000)), (1, .l (.val (.int .i64))), (3, .l (.val (.int .i64))), (4, .l (.fnc 39 7000000)), (18, .l (.val (.int .i64))), (20, .l (.val (.int .i64))), (24, .l (.val (.int .i64)))], [(9000000, .row 3 (.int .i64)), (9000002, .box 93 [.row 9000003]), (9000003, .row 85 Y21), (7000000, .caps [.l (.ptr 9000002 0)])]⟩
noncomputable abbrev Tl (k : Nat) : List (Nat × Hint (prods F.cout.tys)) := [(3, ⟨c3, fun x => slices_symMergeCmpFunc_int.l3 k x.1 x.2.1 x.2.2.1 x.2.2.2.1 x.2.2.2.2⟩), (9, ⟨c9, fun x => slices_symMergeCmpFunc_int.l9 k x.1 x.2.1 x.2.2.1 x.2.2.2⟩), (15, ⟨c15, fun x => slices_symMergeCmpFunc_int.l15 k x.1 x.2.1 x.2.2.1 x.2.2.2.1 x.2.2.2.2⟩), (21, ⟨c21, fun x => slices_symMergeCmpFunc_int.l21 k x.1 x.2.1 x.2.2.1 x.2.2.2⟩), (32, ⟨c32, fun x => slices_symMergeCmpFunc_int.l32 k x.1 x.2.1 x.2.2.1 x.2.2.2.1 x.2.2.2.2.1 x.2.2.2.2.2.1 x.2.2.2.2.2.2.1 x.2.2.2.2.2.2.2.1 x.2.2.2.2.2.2.2.2⟩), (33, ⟨c33, fun x => slices_symMergeCmpFunc_int.l33 k x.1 x.2.1 x.2.2.1 x.2.2.2.1 x.2.2.2.2.1 x.2.2.2.2.2.1 x.2.2.2.2.2.2.1 x.2.2.2.2.2.2.2.1 x.2.2.2.2.2.2.2.2.1 x.2.2.2.2.2.2.2.2.2⟩), (41, ⟨c41, fun x => slices_symMergeCmpFunc_int.l41 k x.1 x.2.1 x.2.2.1 x.2.2.2.1 x.2.2.2.2.1 x.2.2.2.2.2.1 x.2.2.2.2.2.2⟩)]
noncomputable abbrev T (k : Nat) : Nat → Option (Hint (prods F.cout.tys)) := look (Tl k)
noncomputable abbrev body : Code := Go.Proofs.Tryd.f89.body.getD .skip
theorem s3 (k : Nat) (x : prods c3.tys) : slices_symMergeCmpFunc_int.l3 (k + 1) x.1 x.2.1 x.2.2.1 x.2.2.2.1 x.2.2.2.2 = segK (Γ k) F (T k) body 3 (c3.st x) := by kernel_rfl
theorem s9 (k : Nat) (x : prods c9.tys) : slices_symMergeCmpFunc_int.l9 (k + 1) x.1 x.2.1 x.2.2.1 x.2.2.2 = segK (Γ k) F (T k) body 9 (c9.st x) := by kernel_rfl
theorem s15 (k : Nat) (x : prods c15.tys) : slices_symMergeCmpFunc_int.l15 (k + 1) x.1 x.2.1 x.2.2.1 x.2.2.2.1 x.2.2.2.2 = segK (Γ k) F (T k) body 15 (c15.st x) := by kernel_rfl
theorem s21 (k : Nat) (x : prods c21.tys) : slices_symMergeCmpFunc_int.l21 (k + 1) x.1 x.2.1 x.2.2.1 x.2.2.2 = segK (Γ k) F (T k) body 21 (c21.st x) := by kernel_rfl
theorem s32 (k : Nat) (x : prods c32.tys) : slices_symMergeCmpFunc_int.l32 (k + 1) x.1 x.2.1 x.2.2.1 x.2.2.2.1 x.2.2.2.2.1 x.2.2.2.2.2.1 x.2.2.2.2.2.2.1 x.2.2.2.2.2.2.2.1 x.2.2.2.2.2.2.2.2 = segK (Γ k) F (T k) body 32 (c32.st x) := by kernel_rfl
theorem s33 (k : Nat) (x : prods c33.tys) : slices_symMergeCmpFunc_int.l33 (k + 1) x.1 x.2.1 x.2.2.1 x.2.2.2.1 x.2.2.2.2.1 x.2.2.2.2.2.1 x.2.2.2.2.2.2.1 x.2.2.2.2.2.2.2.1 x.2.2.2.2.2.2.2.2.1 x.2.2.2.2.2.2.2.2.2 = segK (Γ k) F (T k) body 33 (c33.st x) := by kernel_rfl
theorem s41 (k : Nat) (x : prods c41.tys) : slices_symMergeCmpFunc_int.l41 (k + 1) x.1 x.2.1 x.2.2.1 x.2.2.2.1 x.2.2.2.2.1 x.2.2.2.2.2.1 x.2.2.2.2.2.2 = segK (Γ k) F (T k) body 41 (c41.st x) := by kernel_rfl
theorem main (k : Nat) (x : prods (con 0).cin.tys) : slices_symMergeCmpFunc_int.f (k + 1) x.1 x.2.1 x.2.2.1 x.2.2.2.1 x.2.2.2.2 = goK (Γ k) F (T k) 2000 [.code body] ((con 0).cin.st x) := by kernel_rfl
theorem okΓ (k : Nat) (h : ConSound Go.Proofs.Tryd.prog 89 (con k)) : ΓOk Go.Proofs.Tryd.prog (Γ k) := Γcons (settle_Round_1.ok k) ⟨Go.Proofs.Tryd.f39, by kernel_rfl, by kernel_rfl, by kernel_rfl⟩ (Γcons h ⟨Go.Proofs.Tryd.f89, by kernel_rfl, by kernel_rfl, by kernel_rfl⟩ (Γcons (slices_rotateCmpFunc_int.ok k) ⟨Go.Proofs.Tryd.f108, by kernel_rfl, by kernel_rfl, by kernel_rfl⟩ (Γnil)))
theorem ok (k : Nat) : ConSound Go.Proofs.Tryd.prog 89 (con k) := by
  induction k using Nat.strongRecOn with
  | ind k ih => cases k with
    | zero => exact fun x y h => absurd (show (none : Option _) = some y from h) (by simp)
    | succ n => exact con_sound (Γ := Γ) (fn := Go.Proofs.Tryd.f89) (body := body) (cin := (con 0).cin) (F := F) (T := T) follows (by kernel_rfl) (by kernel_rfl) (by kernel_rfl) (by kernel_rfl) (by kernel_rfl) (by decide +kernel) (by kernel_rfl) (by kernel_rfl) (tzero ⟨fun x => by kernel_rfl, fun x => by kernel_rfl, fun x => by kernel_rfl, fun x => by kernel_rfl, fun x => by kernel_rfl, fun x => by kernel_rfl, fun x => by kernel_rfl, trivial⟩) n (fun m hm => okΓ m (ih m (Nat.lt_succ_of_le hm))) (fun m _ => tstep ⟨fun x => Eq.trans (by kernel_rfl) (s3 m x), fun x => Eq.trans (by kernel_rfl) (s9 m x), fun x => Eq.trans (by kernel_rfl) (s15 m x), fun x => Eq.trans (by kernel_rfl) (s21 m x), fun x => Eq.trans (by kernel_rfl) (s32 m x), fun x => Eq.trans (by kernel_rfl) (s33 m x), fun x => Eq.trans (by kernel_rfl) (s41 m x), trivial⟩) (fun x y h => (main n x).symm.trans h)
end slices_symMergeCmpFunc_int
namespace slices_stableCmpFunc_int
noncomputable abbrev con (k : Nat) : Con := ⟨⟨[(0, .l (.row 9000000)), (1, .l (.val (.int .i64))), (2, .l (.fnc 39 9000001))], [(9000000, .row 3 (.int .i64)), (9000001, .caps [.l (.ptr 9000002 0)]), (9000002, .box 93 [.row 9000003]), (9000003, .row 85 Y21)]⟩, ⟨[], [(9000000, .row 3 (.int .i64)), (9000002, .box 93 [.row 9000003]), (9000003, .row 85 Y21)]⟩, fun x => slices_stableCmpFunc_int.f k x.1 x.2.1 x.2.2⟩
noncomputable abbrev Γ (k : Nat) : FuncId → Option Con := look [(88, slices_insertionSortCmpFunc_int.con k), (89, slices_symMergeCmpFunc_int.con k)]
abbrev F : Fin Go.Proofs.Tryd.prog := ⟨⟨[], [(9000000, .row 3 (.int .i64)), (9000002, .box 93 [.row 9000003]), (9000003, .row 85 Y21)]⟩, [9000000, 9000002, 9000003], []⟩
abbrev c2 : Cut := ⟨[(0, .l (.row 9000000)), (1, .l (.val (.int .i64))), (2, .l (.fnc 39 7000000)), (6, .l (.val (.int .i64))), (7, .l (.val (.int .i64))), (8, .l (.val (.int .i64)))], [(9000000, .row 3 (.int .i64)), (9000002, .box 93 [.row 9000003]), (9000003, .row 85 Y21), (7000000, .caps [.l (.ptr 9000002 0)])]⟩
abbrev c7 : Cut := ⟨[(0, .l (.row 9000000)), (1, .l (.val (.int .i64))), (2, .l (.fnc 39 7000000)), (6, .l (.val (.int .i64)))], [(9000000, .row 3 (.int .i64)), (9000002, .box 93 [.row 9000003]), (9000003, .row 85 Y21), (7000000, .caps [.l (.ptr 9000002 0)])]⟩
abbrev c9 : Cut := ⟨[(0, .l (.row 9000000)), (1, .l (.val (.int .i64))), (2, .l (.fnc 39 7000000)), (6, .l (.val (.int .i64))), (7, .l (.val (.int .i64))), (8, .l (.val (.int .i64)))], [(9000000, .row 3 (.int .i64)), (9000002, .box 93 [.row 9000003]), (9000003, .row 85 Y21), (7000000, .caps [.l (.ptr 9000002 0)])]⟩
noncomputable abbrev Tl (k : Nat) : List (Nat × Hint (prods F.cout.tys)) := [(2, ⟨c2, fun x => slices_stableCmpFunc_int.l2 k x.1 x.2.1 x.2.2.1 x.2.2.2.1 x.2.2.2.2.1 x.2.2.2.2.2⟩), (7, ⟨c7, fun x => slices_stableCmpFunc_int.l7 k x.1 x.2.1 x.2.2.1 x.2.2.2⟩), (9, ⟨c9, fun x => slices_stableCmpFunc_int.l9 k x.1 x.2.1 x.2.2.1 x.2.2.2.1 x.2.2.2.2.1 x.2.2.2.2.2⟩)]
noncomputable abbrev T (k : Nat) : Nat → Option (Hint (prods F.cout.tys)) := look (Tl k)
noncomputable abbrev body : Code := Go.Proofs.Tryd.f71.body.getD .skip
theorem s2 (k : Nat) (x : prods c2.tys) : slices_stableCmpFunc_int.l2 (k + 1) x.1 x.2.1 x.2.2.1 x.2.2.2.1 x.2.2.2.2.1 x.2.2.2.2.2 = segK (Γ k) F (T k) body 2 (c2.st x) := by kernel_rfl
theorem s7 (k : Nat) (x : prods c7.tys) : slices_stableCmpFunc_int.l7 (k + 1) x.1 x.2.1 x.2.2.1 x.2.2.2 = segK (Γ k) F (T k) body 7 (c7.st x) := by kernel_rfl
theorem s9 (k : Nat) (x : prods c9.tys) : slices_stableCmpFunc_int.l9 (k + 1) x.1 x.2.1 x.2.2.1 x.2.2.2.1 x.2.2.2.2.1 x.2.2.2.2.2 = segK (Γ k) F (T k) body 9 (c9.st x) := by kernel_rfl
theorem main (k : Nat) (x : prods (con 0).cin.tys) : slices_stableCmpFunc_int.f k x.1 x.2.1 x.2.2 = goK (Γ k) F (T k) 2000 [.code body] ((con 0).cin.st x) := by kernel_rfl
theorem okΓ (k : Nat) : ΓOk Go.Proofs.Tryd.prog (Γ k) := Γcons (slices_insertionSortCmpFunc_int.ok k) ⟨Go.Proofs.Tryd.f88, by kernel_rfl, by kernel_rfl, by kernel_rfl⟩ (Γcons (slices_symMergeCmpFunc_int.ok k) ⟨Go.Proofs.Tryd.f89, by kernel_rfl, by kernel_rfl, by kernel_rfl⟩ (Γnil))
theorem ok (k : Nat) : ConSound Go.Proofs.Tryd.prog 71 (con k) := con_sound (Γ := Γ) (fn := Go.Proofs.Tryd.f71) (body := body) (cin := (con 0).cin) (F := F) (T := T) follows (by kernel_rfl) (by kernel_rfl) (by kernel_rfl) (by kernel_rfl) (by kernel_rfl) (by decide +kernel) (by kernel_rfl) (by kernel_rfl) (tzero ⟨fun x => by kernel_rfl, fun x => by kernel_rfl, fun x => by kernel_rfl, trivial⟩) k (fun m _ => okΓ m) (fun m _ => tstep ⟨fun x => Eq.trans (by kernel_rfl) (s2 m x), fun x => Eq.trans (by kernel_rfl) (s7 m x), fun x => Eq.trans (by kernel_rfl) (s9 m x), trivial⟩) (fun x y h => (main k x).symm.trans h)
end slices_stableCmpFunc_int
namespace slices_SortStableFunc_int
noncomputable abbrev con (k : Nat) : Con := ⟨⟨[(0, .l (.row 9000000)), (1, .l (.fnc 39 9000001))], [(9000000, .row 3 (.int .i64)), (9000001, .caps [.l (.ptr 9000002 0)]), (9000002, .box 93 [.row 9000003]), (9000003, .row 85 Y21)]⟩, ⟨[], [(9000000, .row 3 (.int .i64)), (9000002, .box 93 [.row 9000003]), (9000003, .row 85 Y21)]⟩, fun x => slices_SortStableFunc_int.f k x.1 x.2⟩
noncomputable abbrev Γ (k : Nat) : FuncId → Option Con := look [(71, slices_stableCmpFunc_int.con k)]
abbrev F : Fin Go.Proofs.Tryd.prog := ⟨⟨[], [(9000000, .row 3 (.int .i64)), (9000002, .box 93 [.row 9000003]), (9000003, .row 85 Y21)]⟩, [9000000, 9000002, 9000003], []⟩
noncomputable abbrev Tl (k : Nat) : List (Nat × Hint (prods F.cout.tys)) := []
noncomputable abbrev T (k : Nat) : Nat → Option (Hint (prods F.cout.tys)) := look (Tl k)
noncomputable abbrev body : Code := Go.Proofs.Tryd.f38.body.getD .skip
theorem main (k : Nat) (x : prods (con 0).cin.tys) : slices_SortStableFunc_int.f k x.1 x.2 = goK (Γ k) F (T k) 2000 [.code body] ((con 0).cin.st x) := by kernel_rfl
theorem okΓ (k : Nat) : ΓOk Go.Proofs.Tryd.prog (Γ k) := Γcons (slices_stableCmpFunc_int.ok k) ⟨Go.Proofs.Tryd.f71, by kernel_rfl, by kernel_rfl, by kernel_rfl⟩ (Γnil)
theorem ok (k : Nat) : ConSound Go.Proofs.Tryd.prog 38 (con k) := con_sound (Γ := Γ) (fn := Go.Proofs.Tryd.f38) (body := body) (cin := (con 0).cin) (F := F) (T := T) follows (by kernel_rfl) (by kernel_rfl) (by kernel_rfl) (by kernel_rfl) (by kernel_rfl) (by decide +kernel) (by kernel_rfl) (by kernel_rfl) (tzero trivial) k (fun m _ => okΓ m) (fun m _ => tstep trivial) (fun x y h => (main k x).symm.trans h)
end slices_SortStableFunc_int
namespace settle_Round
noncomputable abbrev con (k : Nat) : Con := ⟨⟨[(0, .l (.val (.list 28 .str)))], []⟩, ⟨[(0, .l (.val (.list 3 (.int .i64)))), (1, .l (.val (.int .i64)))], []⟩, fun x => settle_Round.f k x⟩
noncomputable abbrev Γ (k : Nat) : FuncId → Option Con := look [(28, rat_CheckAll.con k), (29, rat_In.con k), (30, rat_Q_Sub.con k), (32, rat_Q_Out.con k), (34, rat_Q_Add.con k), (35, rat_Int.con k), (36, rat_Floor.con k), (37, rat_Integer.con k), (38, slices_SortStableFunc_int.con k)]
abbrev F : Fin Go.Proofs.Tryd.prog := ⟨⟨[(0, .l (.val (.list 3 (.int .i64)))), (1, .l (.val (.int .i64)))], []⟩, [], [.tmp 2, .tmp 3]⟩
abbrev c11 : Cut := ⟨[(5, .l (.ptr 7000000 0)), (6, .l (.row 7000503)), (7, .l (.row 7000504)), (8, .l (.ptr 7000001 0)), (9, .l (.ptr 7000002 0)), (32, .l (.val (.list 28 .str))), (33, .l (.val (.int .i64))), (34, .l (.val (.int .i64)))], [(7000000, .box 85 [.val .bool, .val (.list 138 (.int .u32)), .val (.list 138 (.int .u32))]), (7000503, .row 3 (.int .i64)), (7000504, .row 3 (.int .i64)), (7000001, .box 93 [.row 7000505]), (7000002, .box 85 [.val .bool, .val (.list 138 (.int .u32)), .val (.list 138 (.int .u32))]), (7000505, .row 85 Y21)]⟩
abbrev c27 : Cut := ⟨[(6, .l (.row 7000000)), (97, .l (.val (.list 3 (.int .i64)))), (98, .l (.val (.int .i64))), (99, .l (.val (.int .i64)))], [(7000000, .row 3 (.int .i64))]⟩
noncomputable abbrev Tl (k : Nat) : List (Nat × Hint (prods F.cout.tys)) := [(11, ⟨c11, fun x => settle_Round.l11 k x.1 x.2.1 x.2.2.1 x.2.2.2.1 x.2.2.2.2.1 x.2.2.2.2.2.1 x.2.2.2.2.2.2.1 x.2.2.2.2.2.2.2.1 x.2.2.2.2.2.2.2.2.1 x.2.2.2.2.2.2.2.2.2.1 x.2.2.2.2.2.2.2.2.2.2.1 x.2.2.2.2.2.2.2.2.2.2.2⟩), (27, ⟨c27, fun x => settle_Round.l27 k x.1 x.2.1 x.2.2.1 x.2.2.2⟩)]
noncomputable abbrev T (k : Nat) : Nat → Option (Hint (prods F.cout.tys)) := look (Tl k)
noncomputable abbrev body : Code := Go.Proofs.Tryd.f10.body.getD .skip
theorem s11 (k : Nat) (x : prods c11.tys) : settle_Round.l11 (k + 1) x.1 x.2.1 x.2.2.1 x.2.2.2.1 x.2.2.2.2.1 x.2.2.2.2.2.1 x.2.2.2.2.2.2.1 x.2.2.2.2.2.2.2.1 x.2.2.2.2.2.2.2.2.1 x.2.2.2.2.2.2.2.2.2.1 x.2.2.2.2.2.2.2.2.2.2.1 x.2.2.2.2.2.2.2.2.2.2.2 = segK (Γ k) F (T k) body 11 (c11.st x) := by kernel_rfl
theorem s27 (k : Nat) (x : prods c27.tys) : settle_Round.l27 (k + 1) x.1 x.2.1 x.2.2.1 x.2.2.2 = segK (Γ k) F (T k) body 27 (c27.st x) := by kernel_rfl
theorem main (k : Nat) (x : prods (con 0).cin.tys) : settle_Round.f k x = goK (Γ k) F (T k) 2000 [.code body] ((con 0).cin.st x) := by kernel_rfl
theorem okΓ (k : Nat) : ΓOk Go.Proofs.Tryd.prog (Γ k) := Γcons (rat_CheckAll.ok k) ⟨Go.Proofs.Tryd.f28, by kernel_rfl, by kernel_rfl, by kernel_rfl⟩ (Γcons (rat_In.ok k) ⟨Go.Proofs.Tryd.f29, by kernel_rfl, by kernel_rfl, by kernel_rfl⟩ (Γcons (rat_Q_Sub.ok k) ⟨Go.Proofs.Tryd.f30, by kernel_rfl, by kernel_rfl, by kernel_rfl⟩ (Γcons (rat_Q_Out.ok k) ⟨Go.Proofs.Tryd.f32, by kernel_rfl, by kernel_rfl, by kernel_rfl⟩ (Γcons (rat_Q_Add.ok k) ⟨Go.Proofs.Tryd.f34, by kernel_rfl, by kernel_rfl, by kernel_rfl⟩ (Γcons (rat_Int.ok k) ⟨Go.Proofs.Tryd.f35, by kernel_rfl, by kernel_rfl, by kernel_rfl⟩ (Γcons (rat_Floor.ok k) ⟨Go.Proofs.Tryd.f36, by kernel_rfl, by kernel_rfl, by kernel_rfl⟩ (Γcons (rat_Integer.ok k) ⟨Go.Proofs.Tryd.f37, by kernel_rfl, by kernel_rfl, by kernel_rfl⟩ (Γcons (slices_SortStableFunc_int.ok k) ⟨Go.Proofs.Tryd.f38, by kernel_rfl, by kernel_rfl, by kernel_rfl⟩ (Γnil)))))))))
theorem ok (k : Nat) : ConSound Go.Proofs.Tryd.prog 10 (con k) := con_sound (Γ := Γ) (fn := Go.Proofs.Tryd.f10) (body := body) (cin := (con 0).cin) (F := F) (T := T) follows (by kernel_rfl) (by kernel_rfl) (by kernel_rfl) (by kernel_rfl) (by kernel_rfl) (by decide +kernel) (by kernel_rfl) (by kernel_rfl) (tzero ⟨fun x => by kernel_rfl, fun x => by kernel_rfl, trivial⟩) k (fun m _ => okΓ m) (fun m _ => tstep ⟨fun x => Eq.trans (by kernel_rfl) (s11 m x), fun x => Eq.trans (by kernel_rfl) (s27 m x), trivial⟩) (fun x y h => (main k x).symm.trans h)
end settle_Round
namespace slices_Equal_int
noncomputable abbrev con (k : Nat) : Con := ⟨⟨[(0, .l (.val (.list 3 (.int .i64)))), (1, .l (.val (.list 3 (.int .i64))))], []⟩, ⟨[(0, .l (.val .bool))], []⟩, fun x => slices_Equal_int.f k x.1 x.2⟩
noncomputable abbrev Γ (k : Nat) : FuncId → Option Con := look []
abbrev F : Fin Go.Proofs.Tryd.prog := ⟨⟨[(0, .l (.val .bool))], []⟩, [], [.tmp 4]⟩
abbrev c4 : Cut := ⟨[(0, .l (.val (.list 3 (.int .i64)))), (1, .l (.val (.list 3 (.int .i64)))), (12, .l (.val (.int .i64))), (13, .l (.val (.int .i64)))], []⟩
noncomputable abbrev Tl (k : Nat) : List (Nat × Hint (prods F.cout.tys)) := [(4, ⟨c4, fun x => slices_Equal_int.l4 k x.1 x.2.1 x.2.2.1 x.2.2.2⟩)]
noncomputable abbrev T (k : Nat) : Nat → Option (Hint (prods F.cout.tys)) := look (Tl k)
noncomputable abbrev body : Code := Go.Proofs.Tryd.f11.body.getD .skip
theorem s4 (k : Nat) (x : prods c4.tys) : slices_Equal_int.l4 (k + 1) x.1 x.2.1 x.2.2.1 x.2.2.2 = segK (Γ k) F (T k) body 4 (c4.st x) := by kernel_rfl
theorem main (k : Nat) (x : prods (con 0).cin.tys) : slices_Equal_int.f k x.1 x.2 = goK (Γ k) F (T k) 2000 [.code body] ((con 0).cin.st x) := by kernel_rfl
theorem okΓ (k : Nat) : ΓOk Go.Proofs.Tryd.prog (Γ k) := Γnil
theorem ok (k : Nat) : ConSound Go.Proofs.Tryd.prog 11 (con k) := con_sound (Γ := Γ) (fn := Go.Proofs.Tryd.f11) (body := body) (cin := (con 0).cin) (F := F) (T := T) follows (by kernel_rfl) (by kernel_rfl) (by kernel_rfl) (by kernel_rfl) (by kernel_rfl) (by decide +kernel) (by kernel_rfl) (by kernel_rfl) (tzero ⟨fun x => by kernel_rfl, trivial⟩) k (fun m _ => okΓ m) (fun m _ => tstep ⟨fun x => Eq.trans (by kernel_rfl) (s4 m x), trivial⟩) (fun x y h => (main k x).symm.trans h)
end slices_Equal_int
namespace rat_two'
noncomputable abbrev con (k : Nat) : Con := ⟨⟨[(0, .l (.val .str)), (1, .l (.val .str)), (2, .l (.fn0 30))], []⟩, ⟨[(0, .l (.val .str)), (1, .l (.val (.int .i64)))], []⟩, fun x => rat_two'.f k x.1 x.2⟩
noncomputable abbrev Γ (k : Nat) : FuncId → Option Con := look [(28, rat_CheckAll.con k), (29, rat_In.con k), (30, rat_Q_Sub.con k), (41, rat_told.con k)]
abbrev F : Fin Go.Proofs.Tryd.prog := ⟨⟨[(0, .l (.val .str)), (1, .l (.val (.int .i64)))], []⟩, [], [.tmp 6, .tmp 7]⟩
noncomputable abbrev Tl (k : Nat) : List (Nat × Hint (prods F.cout.tys)) := []
noncomputable abbrev T (k : Nat) : Nat → Option (Hint (prods F.cout.tys)) := look (Tl k)
noncomputable abbrev body : Code := Go.Proofs.Tryd.f33.body.getD .skip
theorem main (k : Nat) (x : prods (con 0).cin.tys) : rat_two'.f k x.1 x.2 = goK (Γ k) F (T k) 2000 [.code body] ((con 0).cin.st x) := by kernel_rfl
theorem okΓ (k : Nat) : ΓOk Go.Proofs.Tryd.prog (Γ k) := Γcons (rat_CheckAll.ok k) ⟨Go.Proofs.Tryd.f28, by kernel_rfl, by kernel_rfl, by kernel_rfl⟩ (Γcons (rat_In.ok k) ⟨Go.Proofs.Tryd.f29, by kernel_rfl, by kernel_rfl, by kernel_rfl⟩ (Γcons (rat_Q_Sub.ok k) ⟨Go.Proofs.Tryd.f30, by kernel_rfl, by kernel_rfl, by kernel_rfl⟩ (Γcons (rat_told.ok k) ⟨Go.Proofs.Tryd.f41, by kernel_rfl, by kernel_rfl, by kernel_rfl⟩ (Γnil))))
theorem ok (k : Nat) : ConSound Go.Proofs.Tryd.prog 33 (con k) := con_sound (Γ := Γ) (fn := Go.Proofs.Tryd.f33) (body := body) (cin := (con 0).cin) (F := F) (T := T) follows (by kernel_rfl) (by kernel_rfl) (by kernel_rfl) (by kernel_rfl) (by kernel_rfl) (by decide +kernel) (by kernel_rfl) (by kernel_rfl) (tzero trivial) k (fun m _ => okΓ m) (fun m _ => tstep trivial) (fun x y h => (main k x).symm.trans h)
end rat_two'
namespace rat_Sub
noncomputable abbrev con (k : Nat) : Con := ⟨⟨[(0, .l (.val .str)), (1, .l (.val .str))], []⟩, ⟨[(0, .l (.val .str)), (1, .l (.val (.int .i64)))], []⟩, fun x => rat_Sub.f k x.1 x.2⟩
noncomputable abbrev Γ (k : Nat) : FuncId → Option Con := look [(33, rat_two'.con k)]
abbrev F : Fin Go.Proofs.Tryd.prog := ⟨⟨[(0, .l (.val .str)), (1, .l (.val (.int .i64)))], []⟩, [], [.tmp 4, .tmp 5]⟩
noncomputable abbrev Tl (k : Nat) : List (Nat × Hint (prods F.cout.tys)) := []
noncomputable abbrev T (k : Nat) : Nat → Option (Hint (prods F.cout.tys)) := look (Tl k)
noncomputable abbrev body : Code := Go.Proofs.Tryd.f13.body.getD .skip
theorem main (k : Nat) (x : prods (con 0).cin.tys) : rat_Sub.f k x.1 x.2 = goK (Γ k) F (T k) 2000 [.code body] ((con 0).cin.st x) := by kernel_rfl
theorem okΓ (k : Nat) : ΓOk Go.Proofs.Tryd.prog (Γ k) := Γcons (rat_two'.ok k) ⟨Go.Proofs.Tryd.f33, by kernel_rfl, by kernel_rfl, by kernel_rfl⟩ (Γnil)
theorem ok (k : Nat) : ConSound Go.Proofs.Tryd.prog 13 (con k) := con_sound (Γ := Γ) (fn := Go.Proofs.Tryd.f13) (body := body) (cin := (con 0).cin) (F := F) (T := T) follows (by kernel_rfl) (by kernel_rfl) (by kernel_rfl) (by kernel_rfl) (by kernel_rfl) (by decide +kernel) (by kernel_rfl) (by kernel_rfl) (tzero trivial) k (fun m _ => okΓ m) (fun m _ => tstep trivial) (fun x y h => (main k x).symm.trans h)
end rat_Sub
namespace rat_Compare
noncomputable abbrev con (k : Nat) : Con := ⟨⟨[(0, .l (.val .str)), (1, .l (.val .str))], []⟩, ⟨[(0, .l (.val (.int .i64))), (1, .l (.val (.int .i64)))], []⟩, fun x => rat_Compare.f k x.1 x.2⟩
noncomputable abbrev Γ (k : Nat) : FuncId → Option Con := look [(28, rat_CheckAll.con k), (29, rat_In.con k), (40, rat_Q_Cmp.con k)]
abbrev F : Fin Go.Proofs.Tryd.prog := ⟨⟨[(0, .l (.val (.int .i64))), (1, .l (.val (.int .i64)))], []⟩, [], [.tmp 4, .tmp 5]⟩
noncomputable abbrev Tl (k : Nat) : List (Nat × Hint (prods F.cout.tys)) := []
noncomputable abbrev T (k : Nat) : Nat → Option (Hint (prods F.cout.tys)) := look (Tl k)
noncomputable abbrev body : Code := Go.Proofs.Tryd.f14.body.getD .skip
theorem main (k : Nat) (x : prods (con 0).cin.tys) : rat_Compare.f k x.1 x.2 = goK (Γ k) F (T k) 2000 [.code body] ((con 0).cin.st x) := by kernel_rfl
theorem okΓ (k : Nat) : ΓOk Go.Proofs.Tryd.prog (Γ k) := Γcons (rat_CheckAll.ok k) ⟨Go.Proofs.Tryd.f28, by kernel_rfl, by kernel_rfl, by kernel_rfl⟩ (Γcons (rat_In.ok k) ⟨Go.Proofs.Tryd.f29, by kernel_rfl, by kernel_rfl, by kernel_rfl⟩ (Γcons (rat_Q_Cmp.ok k) ⟨Go.Proofs.Tryd.f40, by kernel_rfl, by kernel_rfl, by kernel_rfl⟩ (Γnil)))
theorem ok (k : Nat) : ConSound Go.Proofs.Tryd.prog 14 (con k) := con_sound (Γ := Γ) (fn := Go.Proofs.Tryd.f14) (body := body) (cin := (con 0).cin) (F := F) (T := T) follows (by kernel_rfl) (by kernel_rfl) (by kernel_rfl) (by kernel_rfl) (by kernel_rfl) (by decide +kernel) (by kernel_rfl) (by kernel_rfl) (tzero trivial) k (fun m _ => okΓ m) (fun m _ => tstep trivial) (fun x y h => (main k x).symm.trans h)
end rat_Compare
namespace gridhallkeep3_SettleKept
noncomputable abbrev con (k : Nat) : Con := ⟨⟨[(0, .l (.val (.list 28 .str)))], []⟩, ⟨[(0, .l (.val .bool))], []⟩, fun x => gridhallkeep3_SettleKept.f k x⟩
noncomputable abbrev Γ (k : Nat) : FuncId → Option Con := look [(9, rat_Add.con k), (10, settle_Round.con k), (11, slices_Equal_int.con k), (12, rat_Of.con k), (13, rat_Sub.con k), (14, rat_Compare.con k), (15, gridhallkeep3_fine.con k)]
abbrev F : Fin Go.Proofs.Tryd.prog := ⟨⟨[(0, .l (.val .bool))], []⟩, [], [.tmp 2]⟩
abbrev c9 : Cut := ⟨[(0, .l (.val (.list 28 .str))), (5, .l (.val (.list 3 (.int .i64)))), (7, .l (.val .str)), (41, .l (.val (.list 3 (.int .i64)))), (42, .l (.val (.int .i64))), (43, .l (.val (.int .i64)))], []⟩
noncomputable abbrev Tl (k : Nat) : List (Nat × Hint (prods F.cout.tys)) := [(9, ⟨c9, fun x => gridhallkeep3_SettleKept.l9 k x.1 x.2.1 x.2.2.1 x.2.2.2.1 x.2.2.2.2.1 x.2.2.2.2.2⟩)]
noncomputable abbrev T (k : Nat) : Nat → Option (Hint (prods F.cout.tys)) := look (Tl k)
noncomputable abbrev body : Code := Go.Proofs.Tryd.f4.body.getD .skip
theorem s9 (k : Nat) (x : prods c9.tys) : gridhallkeep3_SettleKept.l9 (k + 1) x.1 x.2.1 x.2.2.1 x.2.2.2.1 x.2.2.2.2.1 x.2.2.2.2.2 = segK (Γ k) F (T k) body 9 (c9.st x) := by kernel_rfl
theorem main (k : Nat) (x : prods (con 0).cin.tys) : gridhallkeep3_SettleKept.f k x = goK (Γ k) F (T k) 2000 [.code body] ((con 0).cin.st x) := by kernel_rfl
theorem okΓ (k : Nat) : ΓOk Go.Proofs.Tryd.prog (Γ k) := Γcons (rat_Add.ok k) ⟨Go.Proofs.Tryd.f9, by kernel_rfl, by kernel_rfl, by kernel_rfl⟩ (Γcons (settle_Round.ok k) ⟨Go.Proofs.Tryd.f10, by kernel_rfl, by kernel_rfl, by kernel_rfl⟩ (Γcons (slices_Equal_int.ok k) ⟨Go.Proofs.Tryd.f11, by kernel_rfl, by kernel_rfl, by kernel_rfl⟩ (Γcons (rat_Of.ok k) ⟨Go.Proofs.Tryd.f12, by kernel_rfl, by kernel_rfl, by kernel_rfl⟩ (Γcons (rat_Sub.ok k) ⟨Go.Proofs.Tryd.f13, by kernel_rfl, by kernel_rfl, by kernel_rfl⟩ (Γcons (rat_Compare.ok k) ⟨Go.Proofs.Tryd.f14, by kernel_rfl, by kernel_rfl, by kernel_rfl⟩ (Γcons (gridhallkeep3_fine.ok k) ⟨Go.Proofs.Tryd.f15, by kernel_rfl, by kernel_rfl, by kernel_rfl⟩ (Γnil)))))))
theorem ok (k : Nat) : ConSound Go.Proofs.Tryd.prog 4 (con k) := con_sound (Γ := Γ) (fn := Go.Proofs.Tryd.f4) (body := body) (cin := (con 0).cin) (F := F) (T := T) follows (by kernel_rfl) (by kernel_rfl) (by kernel_rfl) (by kernel_rfl) (by kernel_rfl) (by decide +kernel) (by kernel_rfl) (by kernel_rfl) (tzero ⟨fun x => by kernel_rfl, trivial⟩) k (fun m _ => okΓ m) (fun m _ => tstep ⟨fun x => Eq.trans (by kernel_rfl) (s9 m x), trivial⟩) (fun x y h => (main k x).symm.trans h)
end gridhallkeep3_SettleKept
end Go.Proofs.YtamgbcgfjhpedaaDoor.VE
