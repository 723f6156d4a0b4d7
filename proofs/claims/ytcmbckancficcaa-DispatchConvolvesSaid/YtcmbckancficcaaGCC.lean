/- Contracts of functions (printed by a program; no statement is proved here). -/
import Derived.Test.YtcmbckancficcaaVeCon2
import Derived.Test.YtcmbckancficcaaGCD
namespace Go.Proofs.Ytcmbckancficcaa.VE
set_option linter.unusedVariables false
set_option maxRecDepth 100000
open Go Go.RowKit
namespace gridhallkeep3_rises
noncomputable abbrev con (k : Nat) : Con := ⟨⟨[], []⟩, ⟨[(0, .av Y3)], []⟩, fun x => gridhallkeep3_rises.f k⟩
noncomputable abbrev Γ (k : Nat) : FuncId → Option Con := look []
abbrev F : Fin Go.Proofs.Try.prog := ⟨⟨[(0, .av Y3)], []⟩, [], [.cell 0 32]⟩
noncomputable abbrev Tl (k : Nat) : List (Nat × Hint (prods F.cout.tys)) := []
noncomputable abbrev T (k : Nat) : Nat → Option (Hint (prods F.cout.tys)) := look (Tl k)
noncomputable abbrev body : Code := Go.Proofs.Try.f26.body.getD .skip
theorem main (k : Nat) (x : prods (con 0).cin.tys) : gridhallkeep3_rises.f k = goK (Γ k) F (T k) 2000 [.code body] ((con 0).cin.st x) := by kernel_rfl
theorem okΓ (k : Nat) : ΓOk Go.Proofs.Try.prog (Γ k) := Γnil
theorem ok (k : Nat) : ConSound Go.Proofs.Try.prog 26 (con k) := con_sound (Γ := Γ) (fn := Go.Proofs.Try.f26) (body := body) (cin := (con 0).cin) (F := F) (T := T) follows (by kernel_rfl) (by kernel_rfl) (by kernel_rfl) (by kernel_rfl) (by kernel_rfl) (by decide +kernel) (by kernel_rfl) (by kernel_rfl) (tzero trivial) k (fun m _ => okΓ m) (fun m _ => tstep trivial) (fun x y h => (main k x).symm.trans h)
end gridhallkeep3_rises
namespace convexpl_Check
noncomputable abbrev con (k : Nat) : Con := ⟨⟨[(0, .av Y3)], []⟩, ⟨[(0, .l (.val (.int .i64)))], []⟩, fun x => convexpl_Check.f k x⟩
noncomputable abbrev Γ (k : Nat) : FuncId → Option Con := look []
abbrev F : Fin Go.Proofs.Try.prog := ⟨⟨[(0, .l (.val (.int .i64)))], []⟩, [], [.tmp 2]⟩
abbrev c7 : Cut := ⟨[(1, .l (.ptr 7000000 0)), (3, .l (.val (.int .i64))), (4, .l (.val (.int .i64))), (34, .l (.val (.list 60 Y0))), (35, .l (.val (.int .i64))), (36, .l (.val (.int .i64)))], [(7000000, .box 32 [.val (.int .i64), .val (.int .i64), .val (.list 60 Y0)])]⟩
noncomputable abbrev Tl (k : Nat) : List (Nat × Hint (prods F.cout.tys)) := [(7, ⟨c7, fun x => convexpl_Check.l7 k x.1 x.2.1 x.2.2.1 x.2.2.2.1 x.2.2.2.2.1 x.2.2.2.2.2.1 x.2.2.2.2.2.2.1 x.2.2.2.2.2.2.2⟩)]
noncomputable abbrev T (k : Nat) : Nat → Option (Hint (prods F.cout.tys)) := look (Tl k)
noncomputable abbrev body : Code := Go.Proofs.Try.f51.body.getD .skip
theorem s7 (k : Nat) (x : prods c7.tys) : convexpl_Check.l7 (k + 1) x.1 x.2.1 x.2.2.1 x.2.2.2.1 x.2.2.2.2.1 x.2.2.2.2.2.1 x.2.2.2.2.2.2.1 x.2.2.2.2.2.2.2 = segK (Γ k) F (T k) body 7 (c7.st x) := by kernel_rfl
theorem main (k : Nat) (x : prods (con 0).cin.tys) : convexpl_Check.f k x = goK (Γ k) F (T k) 2000 [.code body] ((con 0).cin.st x) := by kernel_rfl
theorem okΓ (k : Nat) : ΓOk Go.Proofs.Try.prog (Γ k) := Γnil
theorem ok (k : Nat) : ConSound Go.Proofs.Try.prog 51 (con k) := con_sound (Γ := Γ) (fn := Go.Proofs.Try.f51) (body := body) (cin := (con 0).cin) (F := F) (T := T) follows (by kernel_rfl) (by kernel_rfl) (by kernel_rfl) (by kernel_rfl) (by kernel_rfl) (by decide +kernel) (by kernel_rfl) (by kernel_rfl) (tzero ⟨fun x => rfl, trivial⟩) k (fun m _ => okΓ m) (fun m _ => tstep ⟨fun x => s7 m x, trivial⟩) (fun x y h => (main k x).symm.trans h)
end convexpl_Check
namespace convexpl_high
noncomputable abbrev con (k : Nat) : Con := ⟨⟨[(0, .av Y3)], []⟩, ⟨[(0, .l (.val (.int .i64)))], []⟩, fun x => convexpl_high.f k x⟩
noncomputable abbrev Γ (k : Nat) : FuncId → Option Con := look []
abbrev F : Fin Go.Proofs.Try.prog := ⟨⟨[(0, .l (.val (.int .i64)))], []⟩, [], [.tmp 2]⟩
abbrev c3 : Cut := ⟨[(3, .l (.val (.int .i64))), (9, .l (.val (.list 60 Y0))), (10, .l (.val (.int .i64))), (11, .l (.val (.int .i64)))], []⟩
noncomputable abbrev Tl (k : Nat) : List (Nat × Hint (prods F.cout.tys)) := [(3, ⟨c3, fun x => convexpl_high.l3 k x.1 x.2.1 x.2.2.1 x.2.2.2⟩)]
noncomputable abbrev T (k : Nat) : Nat → Option (Hint (prods F.cout.tys)) := look (Tl k)
noncomputable abbrev body : Code := Go.Proofs.Try.f52.body.getD .skip
theorem s3 (k : Nat) (x : prods c3.tys) : convexpl_high.l3 (k + 1) x.1 x.2.1 x.2.2.1 x.2.2.2 = segK (Γ k) F (T k) body 3 (c3.st x) := by kernel_rfl
theorem main (k : Nat) (x : prods (con 0).cin.tys) : convexpl_high.f k x = goK (Γ k) F (T k) 2000 [.code body] ((con 0).cin.st x) := by kernel_rfl
theorem okΓ (k : Nat) : ΓOk Go.Proofs.Try.prog (Γ k) := Γnil
theorem ok (k : Nat) : ConSound Go.Proofs.Try.prog 52 (con k) := con_sound (Γ := Γ) (fn := Go.Proofs.Try.f52) (body := body) (cin := (con 0).cin) (F := F) (T := T) follows (by kernel_rfl) (by kernel_rfl) (by kernel_rfl) (by kernel_rfl) (by kernel_rfl) (by decide +kernel) (by kernel_rfl) (by kernel_rfl) (tzero ⟨fun x => rfl, trivial⟩) k (fun m _ => okΓ m) (fun m _ => tstep ⟨fun x => s3 m x, trivial⟩) (fun x y h => (main k x).symm.trans h)
end convexpl_high
namespace convexpl_value
noncomputable abbrev con (k : Nat) : Con := ⟨⟨[(0, .av Y3), (1, .l (.val (.int .i64)))], []⟩, ⟨[(0, .l (.val (.int .i64)))], []⟩, fun x => convexpl_value.f k x.1 x.2⟩
noncomputable abbrev Γ (k : Nat) : FuncId → Option Con := look []
abbrev F : Fin Go.Proofs.Try.prog := ⟨⟨[(0, .l (.val (.int .i64)))], []⟩, [], [.tmp 4]⟩
abbrev c3 : Cut := ⟨[(1, .l (.val (.int .i64))), (5, .l (.val (.int .i64))), (6, .l (.val (.int .i64))), (15, .l (.val (.list 60 Y0))), (16, .l (.val (.int .i64))), (17, .l (.val (.int .i64)))], []⟩
noncomputable abbrev Tl (k : Nat) : List (Nat × Hint (prods F.cout.tys)) := [(3, ⟨c3, fun x => convexpl_value.l3 k x.1 x.2.1 x.2.2.1 x.2.2.2.1 x.2.2.2.2.1 x.2.2.2.2.2⟩)]
noncomputable abbrev T (k : Nat) : Nat → Option (Hint (prods F.cout.tys)) := look (Tl k)
noncomputable abbrev body : Code := Go.Proofs.Try.f54.body.getD .skip
theorem s3 (k : Nat) (x : prods c3.tys) : convexpl_value.l3 (k + 1) x.1 x.2.1 x.2.2.1 x.2.2.2.1 x.2.2.2.2.1 x.2.2.2.2.2 = segK (Γ k) F (T k) body 3 (c3.st x) := by kernel_rfl
theorem main (k : Nat) (x : prods (con 0).cin.tys) : convexpl_value.f k x.1 x.2 = goK (Γ k) F (T k) 2000 [.code body] ((con 0).cin.st x) := by kernel_rfl
theorem okΓ (k : Nat) : ΓOk Go.Proofs.Try.prog (Γ k) := Γnil
theorem ok (k : Nat) : ConSound Go.Proofs.Try.prog 54 (con k) := con_sound (Γ := Γ) (fn := Go.Proofs.Try.f54) (body := body) (cin := (con 0).cin) (F := F) (T := T) follows (by kernel_rfl) (by kernel_rfl) (by kernel_rfl) (by kernel_rfl) (by kernel_rfl) (by decide +kernel) (by kernel_rfl) (by kernel_rfl) (tzero ⟨fun x => rfl, trivial⟩) k (fun m _ => okΓ m) (fun m _ => tstep ⟨fun x => s3 m x, trivial⟩) (fun x y h => (main k x).symm.trans h)
end convexpl_value
namespace convexpl_At
noncomputable abbrev con (k : Nat) : Con := ⟨⟨[(0, .av Y3), (1, .l (.val (.int .i64)))], []⟩, ⟨[(0, .l (.val (.int .i64))), (1, .l (.val (.int .i64)))], []⟩, fun x => convexpl_At.f k x.1 x.2⟩
noncomputable abbrev Γ (k : Nat) : FuncId → Option Con := look [(51, convexpl_Check.con k), (52, convexpl_high.con k), (54, convexpl_value.con k)]
abbrev F : Fin Go.Proofs.Try.prog := ⟨⟨[(0, .l (.val (.int .i64))), (1, .l (.val (.int .i64)))], []⟩, [], [.tmp 4, .tmp 5]⟩
noncomputable abbrev Tl (k : Nat) : List (Nat × Hint (prods F.cout.tys)) := []
noncomputable abbrev T (k : Nat) : Nat → Option (Hint (prods F.cout.tys)) := look (Tl k)
noncomputable abbrev body : Code := Go.Proofs.Try.f23.body.getD .skip
theorem main (k : Nat) (x : prods (con 0).cin.tys) : convexpl_At.f k x.1 x.2 = goK (Γ k) F (T k) 2000 [.code body] ((con 0).cin.st x) := by kernel_rfl
theorem okΓ (k : Nat) : ΓOk Go.Proofs.Try.prog (Γ k) := Γcons (convexpl_Check.ok k) ⟨Go.Proofs.Try.f51, by kernel_rfl, by kernel_rfl, by kernel_rfl⟩ (Γcons (convexpl_high.ok k) ⟨Go.Proofs.Try.f52, by kernel_rfl, by kernel_rfl, by kernel_rfl⟩ (Γcons (convexpl_value.ok k) ⟨Go.Proofs.Try.f54, by kernel_rfl, by kernel_rfl, by kernel_rfl⟩ (Γnil)))
theorem ok (k : Nat) : ConSound Go.Proofs.Try.prog 23 (con k) := con_sound (Γ := Γ) (fn := Go.Proofs.Try.f23) (body := body) (cin := (con 0).cin) (F := F) (T := T) follows (by kernel_rfl) (by kernel_rfl) (by kernel_rfl) (by kernel_rfl) (by kernel_rfl) (by decide +kernel) (by kernel_rfl) (by kernel_rfl) (tzero trivial) k (fun m _ => okΓ m) (fun m _ => tstep trivial) (fun x y h => (main k x).symm.trans h)
end convexpl_At
namespace gridhallkeep3_slopes
noncomputable abbrev con (k : Nat) : Con := ⟨⟨[], []⟩, ⟨[(0, .l (.val .bool))], []⟩, fun x => gridhallkeep3_slopes.f k⟩
noncomputable abbrev Γ (k : Nat) : FuncId → Option Con := look [(23, convexpl_At.con k), (26, gridhallkeep3_rises.con k)]
abbrev F : Fin Go.Proofs.Try.prog := ⟨⟨[(0, .l (.val .bool))], []⟩, [], [.tmp 0]⟩
noncomputable abbrev Tl (k : Nat) : List (Nat × Hint (prods F.cout.tys)) := []
noncomputable abbrev T (k : Nat) : Nat → Option (Hint (prods F.cout.tys)) := look (Tl k)
noncomputable abbrev body : Code := Go.Proofs.Try.f19.body.getD .skip
theorem main (k : Nat) (x : prods (con 0).cin.tys) : gridhallkeep3_slopes.f k = goK (Γ k) F (T k) 2000 [.code body] ((con 0).cin.st x) := by kernel_rfl
theorem okΓ (k : Nat) : ΓOk Go.Proofs.Try.prog (Γ k) := Γcons (convexpl_At.ok k) ⟨Go.Proofs.Try.f23, by kernel_rfl, by kernel_rfl, by kernel_rfl⟩ (Γcons (gridhallkeep3_rises.ok k) ⟨Go.Proofs.Try.f26, by kernel_rfl, by kernel_rfl, by kernel_rfl⟩ (Γnil))
theorem ok (k : Nat) : ConSound Go.Proofs.Try.prog 19 (con k) := con_sound (Γ := Γ) (fn := Go.Proofs.Try.f19) (body := body) (cin := (con 0).cin) (F := F) (T := T) follows (by kernel_rfl) (by kernel_rfl) (by kernel_rfl) (by kernel_rfl) (by kernel_rfl) (by decide +kernel) (by kernel_rfl) (by kernel_rfl) (tzero trivial) k (fun m _ => okΓ m) (fun m _ => tstep trivial) (fun x y h => (main k x).symm.trans h)
end gridhallkeep3_slopes
namespace convexpl_High
noncomputable abbrev con (k : Nat) : Con := ⟨⟨[(0, .av Y3)], []⟩, ⟨[(0, .l (.val (.int .i64))), (1, .l (.val (.int .i64)))], []⟩, fun x => convexpl_High.f k x⟩
noncomputable abbrev Γ (k : Nat) : FuncId → Option Con := look [(51, convexpl_Check.con k), (52, convexpl_high.con k)]
abbrev F : Fin Go.Proofs.Try.prog := ⟨⟨[(0, .l (.val (.int .i64))), (1, .l (.val (.int .i64)))], []⟩, [], [.tmp 2, .tmp 3]⟩
noncomputable abbrev Tl (k : Nat) : List (Nat × Hint (prods F.cout.tys)) := []
noncomputable abbrev T (k : Nat) : Nat → Option (Hint (prods F.cout.tys)) := look (Tl k)
noncomputable abbrev body : Code := Go.Proofs.Try.f20.body.getD .skip
theorem main (k : Nat) (x : prods (con 0).cin.tys) : convexpl_High.f k x = goK (Γ k) F (T k) 2000 [.code body] ((con 0).cin.st x) := by kernel_rfl
theorem okΓ (k : Nat) : ΓOk Go.Proofs.Try.prog (Γ k) := Γcons (convexpl_Check.ok k) ⟨Go.Proofs.Try.f51, by kernel_rfl, by kernel_rfl, by kernel_rfl⟩ (Γcons (convexpl_high.ok k) ⟨Go.Proofs.Try.f52, by kernel_rfl, by kernel_rfl, by kernel_rfl⟩ (Γnil))
theorem ok (k : Nat) : ConSound Go.Proofs.Try.prog 20 (con k) := con_sound (Γ := Γ) (fn := Go.Proofs.Try.f20) (body := body) (cin := (con 0).cin) (F := F) (T := T) follows (by kernel_rfl) (by kernel_rfl) (by kernel_rfl) (by kernel_rfl) (by kernel_rfl) (by decide +kernel) (by kernel_rfl) (by kernel_rfl) (tzero trivial) k (fun m _ => okΓ m) (fun m _ => tstep trivial) (fun x y h => (main k x).symm.trans h)
end convexpl_High
namespace gridhallkeep3_within
noncomputable abbrev con (k : Nat) : Con := ⟨⟨[(0, .l (.val (.int .i64))), (1, .l (.val (.int .i64))), (2, .l (.val (.int .i64)))], []⟩, ⟨[(0, .l (.val (.int .i64)))], []⟩, fun x => gridhallkeep3_within.f k x.1 x.2.1 x.2.2⟩
noncomputable abbrev Γ (k : Nat) : FuncId → Option Con := look []
abbrev F : Fin Go.Proofs.Try.prog := ⟨⟨[(0, .l (.val (.int .i64)))], []⟩, [], [.tmp 6]⟩
noncomputable abbrev Tl (k : Nat) : List (Nat × Hint (prods F.cout.tys)) := []
noncomputable abbrev T (k : Nat) : Nat → Option (Hint (prods F.cout.tys)) := look (Tl k)
noncomputable abbrev body : Code := Go.Proofs.Try.f21.body.getD .skip
theorem main (k : Nat) (x : prods (con 0).cin.tys) : gridhallkeep3_within.f k x.1 x.2.1 x.2.2 = goK (Γ k) F (T k) 2000 [.code body] ((con 0).cin.st x) := by kernel_rfl
theorem okΓ (k : Nat) : ΓOk Go.Proofs.Try.prog (Γ k) := Γnil
theorem ok (k : Nat) : ConSound Go.Proofs.Try.prog 21 (con k) := con_sound (Γ := Γ) (fn := Go.Proofs.Try.f21) (body := body) (cin := (con 0).cin) (F := F) (T := T) follows (by kernel_rfl) (by kernel_rfl) (by kernel_rfl) (by kernel_rfl) (by kernel_rfl) (by decide +kernel) (by kernel_rfl) (by kernel_rfl) (tzero trivial) k (fun m _ => okΓ m) (fun m _ => tstep trivial) (fun x y h => (main k x).symm.trans h)
end gridhallkeep3_within
namespace convexpl_cut
noncomputable abbrev con (k : Nat) : Con := ⟨⟨[(0, .av Y3), (1, .l (.val (.int .i64))), (2, .l (.val (.int .i64)))], []⟩, ⟨[(0, .l (.row 0))], [(0, .row 60 Y0)]⟩, fun x => convexpl_cut.f k x.1 x.2.1 x.2.2⟩
noncomputable abbrev Γ (k : Nat) : FuncId → Option Con := look []
abbrev F : Fin Go.Proofs.Try.prog := ⟨⟨[(0, .l (.row 0))], [(0, .row 60 Y0)]⟩, [], [.tmp 6]⟩
abbrev c4 : Cut := ⟨[(1, .l (.val (.int .i64))), (2, .l (.val (.int .i64))), (7, .l (.row 7000500)), (8, .l (.val (.int .i64))), (16, .l (.val (.list 60 Y0))), (17, .l (.val (.int .i64))), (18, .l (.val (.int .i64)))], [(7000500, .row 60 Y0)]⟩
noncomputable abbrev Tl (k : Nat) : List (Nat × Hint (prods F.cout.tys)) := [(4, ⟨c4, fun x => convexpl_cut.l4 k x.1 x.2.1 x.2.2.1 x.2.2.2.1 x.2.2.2.2.1 x.2.2.2.2.2.1 x.2.2.2.2.2.2⟩)]
noncomputable abbrev T (k : Nat) : Nat → Option (Hint (prods F.cout.tys)) := look (Tl k)
noncomputable abbrev body : Code := Go.Proofs.Try.f55.body.getD .skip
theorem s4 (k : Nat) (x : prods c4.tys) : convexpl_cut.l4 (k + 1) x.1 x.2.1 x.2.2.1 x.2.2.2.1 x.2.2.2.2.1 x.2.2.2.2.2.1 x.2.2.2.2.2.2 = segK (Γ k) F (T k) body 4 (c4.st x) := by kernel_rfl
theorem main (k : Nat) (x : prods (con 0).cin.tys) : convexpl_cut.f k x.1 x.2.1 x.2.2 = goK (Γ k) F (T k) 2000 [.code body] ((con 0).cin.st x) := by kernel_rfl
theorem okΓ (k : Nat) : ΓOk Go.Proofs.Try.prog (Γ k) := Γnil
theorem ok (k : Nat) : ConSound Go.Proofs.Try.prog 55 (con k) := con_sound (Γ := Γ) (fn := Go.Proofs.Try.f55) (body := body) (cin := (con 0).cin) (F := F) (T := T) follows (by kernel_rfl) (by kernel_rfl) (by kernel_rfl) (by kernel_rfl) (by kernel_rfl) (by decide +kernel) (by kernel_rfl) (by kernel_rfl) (tzero ⟨fun x => rfl, trivial⟩) k (fun m _ => okΓ m) (fun m _ => tstep ⟨fun x => s4 m x, trivial⟩) (fun x y h => (main k x).symm.trans h)
end convexpl_cut
namespace cmp_isNaN_int
noncomputable abbrev con (k : Nat) : Con := ⟨⟨[(0, .l (.val (.int .i64)))], []⟩, ⟨[(0, .l (.val .bool))], []⟩, fun x => cmp_isNaN_int.f k x⟩
noncomputable abbrev Γ (k : Nat) : FuncId → Option Con := look []
abbrev F : Fin Go.Proofs.Try.prog := ⟨⟨[(0, .l (.val .bool))], []⟩, [], [.tmp 2]⟩
noncomputable abbrev Tl (k : Nat) : List (Nat × Hint (prods F.cout.tys)) := []
noncomputable abbrev T (k : Nat) : Nat → Option (Hint (prods F.cout.tys)) := look (Tl k)
noncomputable abbrev body : Code := Go.Proofs.Try.f78.body.getD .skip
theorem main (k : Nat) (x : prods (con 0).cin.tys) : cmp_isNaN_int.f k x = goK (Γ k) F (T k) 2000 [.code body] ((con 0).cin.st x) := by kernel_rfl
theorem okΓ (k : Nat) : ΓOk Go.Proofs.Try.prog (Γ k) := Γnil
theorem ok (k : Nat) : ConSound Go.Proofs.Try.prog 78 (con k) := con_sound (Γ := Γ) (fn := Go.Proofs.Try.f78) (body := body) (cin := (con 0).cin) (F := F) (T := T) follows (by kernel_rfl) (by kernel_rfl) (by kernel_rfl) (by kernel_rfl) (by kernel_rfl) (by decide +kernel) (by kernel_rfl) (by kernel_rfl) (tzero trivial) k (fun m _ => okΓ m) (fun m _ => tstep trivial) (fun x y h => (main k x).symm.trans h)
end cmp_isNaN_int
namespace cmp_Compare_int
noncomputable abbrev con (k : Nat) : Con := ⟨⟨[(0, .l (.val (.int .i64))), (1, .l (.val (.int .i64)))], []⟩, ⟨[(0, .l (.val (.int .i64)))], []⟩, fun x => cmp_Compare_int.f k x.1 x.2⟩
noncomputable abbrev Γ (k : Nat) : FuncId → Option Con := look [(78, cmp_isNaN_int.con k)]
abbrev F : Fin Go.Proofs.Try.prog := ⟨⟨[(0, .l (.val (.int .i64)))], []⟩, [], [.tmp 4]⟩
noncomputable abbrev Tl (k : Nat) : List (Nat × Hint (prods F.cout.tys)) := []
noncomputable abbrev T (k : Nat) : Nat → Option (Hint (prods F.cout.tys)) := look (Tl k)
noncomputable abbrev body : Code := Go.Proofs.Try.f49.body.getD .skip
theorem main (k : Nat) (x : prods (con 0).cin.tys) : cmp_Compare_int.f k x.1 x.2 = goK (Γ k) F (T k) 2000 [.code body] ((con 0).cin.st x) := by kernel_rfl
theorem okΓ (k : Nat) : ΓOk Go.Proofs.Try.prog (Γ k) := Γcons (cmp_isNaN_int.ok k) ⟨Go.Proofs.Try.f78, by kernel_rfl, by kernel_rfl, by kernel_rfl⟩ (Γnil)
theorem ok (k : Nat) : ConSound Go.Proofs.Try.prog 49 (con k) := con_sound (Γ := Γ) (fn := Go.Proofs.Try.f49) (body := body) (cin := (con 0).cin) (F := F) (T := T) follows (by kernel_rfl) (by kernel_rfl) (by kernel_rfl) (by kernel_rfl) (by kernel_rfl) (by decide +kernel) (by kernel_rfl) (by kernel_rfl) (tzero trivial) k (fun m _ => okΓ m) (fun m _ => tstep trivial) (fun x y h => (main k x).symm.trans h)
end cmp_Compare_int
namespace convexpl_made_1
noncomputable abbrev con (k : Nat) : Con := ⟨⟨[(0, .av Y0), (1, .av Y0)], []⟩, ⟨[(0, .l (.val (.int .i64)))], []⟩, fun x => convexpl_made_1.f k x.1 x.2⟩
noncomputable abbrev Γ (k : Nat) : FuncId → Option Con := look [(49, cmp_Compare_int.con k)]
abbrev F : Fin Go.Proofs.Try.prog := ⟨⟨[(0, .l (.val (.int .i64)))], []⟩, [], [.tmp 4]⟩
noncomputable abbrev Tl (k : Nat) : List (Nat × Hint (prods F.cout.tys)) := []
noncomputable abbrev T (k : Nat) : Nat → Option (Hint (prods F.cout.tys)) := look (Tl k)
noncomputable abbrev body : Code := Go.Proofs.Try.f81.body.getD .skip
theorem main (k : Nat) (x : prods (con 0).cin.tys) : convexpl_made_1.f k x.1 x.2 = goK (Γ k) F (T k) 2000 [.code body] ((con 0).cin.st x) := by kernel_rfl
theorem okΓ (k : Nat) : ΓOk Go.Proofs.Try.prog (Γ k) := Γcons (cmp_Compare_int.ok k) ⟨Go.Proofs.Try.f49, by kernel_rfl, by kernel_rfl, by kernel_rfl⟩ (Γnil)
theorem ok (k : Nat) : ConSound Go.Proofs.Try.prog 81 (con k) := con_sound (Γ := Γ) (fn := Go.Proofs.Try.f81) (body := body) (cin := (con 0).cin) (F := F) (T := T) follows (by kernel_rfl) (by kernel_rfl) (by kernel_rfl) (by kernel_rfl) (by kernel_rfl) (by decide +kernel) (by kernel_rfl) (by kernel_rfl) (tzero trivial) k (fun m _ => okΓ m) (fun m _ => tstep trivial) (fun x y h => (main k x).symm.trans h)
end convexpl_made_1
namespace slices_insertionSortCmpFunc_api_ConvexPiece
noncomputable abbrev con (k : Nat) : Con := ⟨⟨[(0, .l (.row 9000000)), (1, .l (.val (.int .i64))), (2, .l (.val (.int .i64))), (3, .l (.fn0 81))], [(9000000, .row 60 Y0)]⟩, ⟨[], [(9000000, .row 60 Y0)]⟩, fun x => slices_insertionSortCmpFunc_api_ConvexPiece.f k x.1 x.2.1 x.2.2⟩
noncomputable abbrev Γ (k : Nat) : FuncId → Option Con := look [(81, convexpl_made_1.con k)]
abbrev F : Fin Go.Proofs.Try.prog := ⟨⟨[], [(9000000, .row 60 Y0)]⟩, [9000000], []⟩
abbrev c1 : Cut := ⟨[(0, .l (.row 9000000)), (1, .l (.val (.int .i64))), (2, .l (.val (.int .i64))), (3, .l (.fn0 81)), (8, .l (.val (.int .i64)))], [(9000000, .row 60 Y0)]⟩
abbrev c4 : Cut := ⟨[(0, .l (.row 9000000)), (1, .l (.val (.int .i64))), (2, .l (.val (.int .i64))), (3, .l (.fn0 81)), (8, .l (.val (.int .i64))), (9, .l (.val (.int .i64)))], [(9000000, .row 60 Y0)]⟩
noncomputable abbrev Tl (k : Nat) : List (Nat × Hint (prods F.cout.tys)) := [(1, ⟨c1, fun x => slices_insertionSortCmpFunc_api_ConvexPiece.l1 k x.1 x.2.1 x.2.2.1 x.2.2.2⟩), (4, ⟨c4, fun x => slices_insertionSortCmpFunc_api_ConvexPiece.l4 k x.1 x.2.1 x.2.2.1 x.2.2.2.1 x.2.2.2.2⟩)]
noncomputable abbrev T (k : Nat) : Nat → Option (Hint (prods F.cout.tys)) := look (Tl k)
noncomputable abbrev body : Code := Go.Proofs.Try.f93.body.getD .skip
theorem s1 (k : Nat) (x : prods c1.tys) : slices_insertionSortCmpFunc_api_ConvexPiece.l1 (k + 1) x.1 x.2.1 x.2.2.1 x.2.2.2 = segK (Γ k) F (T k) body 1 (c1.st x) := by kernel_rfl
theorem s4 (k : Nat) (x : prods c4.tys) : slices_insertionSortCmpFunc_api_ConvexPiece.l4 (k + 1) x.1 x.2.1 x.2.2.1 x.2.2.2.1 x.2.2.2.2 = segK (Γ k) F (T k) body 4 (c4.st x) := by kernel_rfl
theorem main (k : Nat) (x : prods (con 0).cin.tys) : slices_insertionSortCmpFunc_api_ConvexPiece.f k x.1 x.2.1 x.2.2 = goK (Γ k) F (T k) 2000 [.code body] ((con 0).cin.st x) := by kernel_rfl
theorem okΓ (k : Nat) : ΓOk Go.Proofs.Try.prog (Γ k) := Γcons (convexpl_made_1.ok k) ⟨Go.Proofs.Try.f81, by kernel_rfl, by kernel_rfl, by kernel_rfl⟩ (Γnil)
theorem ok (k : Nat) : ConSound Go.Proofs.Try.prog 93 (con k) := con_sound (Γ := Γ) (fn := Go.Proofs.Try.f93) (body := body) (cin := (con 0).cin) (F := F) (T := T) follows (by kernel_rfl) (by kernel_rfl) (by kernel_rfl) (by kernel_rfl) (by kernel_rfl) (by decide +kernel) (by kernel_rfl) (by kernel_rfl) (tzero ⟨fun x => rfl, fun x => rfl, trivial⟩) k (fun m _ => okΓ m) (fun m _ => tstep ⟨fun x => s1 m x, fun x => s4 m x, trivial⟩) (fun x y h => (main k x).symm.trans h)
end slices_insertionSortCmpFunc_api_ConvexPiece
namespace slices_swapRangeCmpFunc_api_ConvexPiece
noncomputable abbrev con (k : Nat) : Con := ⟨⟨[(0, .l (.row 9000000)), (1, .l (.val (.int .i64))), (2, .l (.val (.int .i64))), (3, .l (.val (.int .i64))), (4, .l (.fn0 81))], [(9000000, .row 60 Y0)]⟩, ⟨[], [(9000000, .row 60 Y0)]⟩, fun x => slices_swapRangeCmpFunc_api_ConvexPiece.f k x.1 x.2.1 x.2.2.1 x.2.2.2⟩
noncomputable abbrev Γ (k : Nat) : FuncId → Option Con := look []
abbrev F : Fin Go.Proofs.Try.prog := ⟨⟨[], [(9000000, .row 60 Y0)]⟩, [9000000], []⟩
abbrev c1 : Cut := ⟨[(0, .l (.row 9000000)), (1, .l (.val (.int .i64))), (2, .l (.val (.int .i64))), (3, .l (.val (.int .i64))), (10, .l (.val (.int .i64)))], [(9000000, .row 60 Y0)]⟩
noncomputable abbrev Tl (k : Nat) : List (Nat × Hint (prods F.cout.tys)) := [(1, ⟨c1, fun x => slices_swapRangeCmpFunc_api_ConvexPiece.l1 k x.1 x.2.1 x.2.2.1 x.2.2.2.1 x.2.2.2.2⟩)]
noncomputable abbrev T (k : Nat) : Nat → Option (Hint (prods F.cout.tys)) := look (Tl k)
noncomputable abbrev body : Code := Go.Proofs.Try.f97.body.getD .skip
theorem s1 (k : Nat) (x : prods c1.tys) : slices_swapRangeCmpFunc_api_ConvexPiece.l1 (k + 1) x.1 x.2.1 x.2.2.1 x.2.2.2.1 x.2.2.2.2 = segK (Γ k) F (T k) body 1 (c1.st x) := by kernel_rfl
theorem main (k : Nat) (x : prods (con 0).cin.tys) : slices_swapRangeCmpFunc_api_ConvexPiece.f k x.1 x.2.1 x.2.2.1 x.2.2.2 = goK (Γ k) F (T k) 2000 [.code body] ((con 0).cin.st x) := by kernel_rfl
theorem okΓ (k : Nat) : ΓOk Go.Proofs.Try.prog (Γ k) := Γnil
theorem ok (k : Nat) : ConSound Go.Proofs.Try.prog 97 (con k) := con_sound (Γ := Γ) (fn := Go.Proofs.Try.f97) (body := body) (cin := (con 0).cin) (F := F) (T := T) follows (by kernel_rfl) (by kernel_rfl) (by kernel_rfl) (by kernel_rfl) (by kernel_rfl) (by decide +kernel) (by kernel_rfl) (by kernel_rfl) (tzero ⟨fun x => rfl, trivial⟩) k (fun m _ => okΓ m) (fun m _ => tstep ⟨fun x => s1 m x, trivial⟩) (fun x y h => (main k x).symm.trans h)
end slices_swapRangeCmpFunc_api_ConvexPiece
namespace slices_rotateCmpFunc_api_ConvexPiece
noncomputable abbrev con (k : Nat) : Con := ⟨⟨[(0, .l (.row 9000000)), (1, .l (.val (.int .i64))), (2, .l (.val (.int .i64))), (3, .l (.val (.int .i64))), (4, .l (.fn0 81))], [(9000000, .row 60 Y0)]⟩, ⟨[], [(9000000, .row 60 Y0)]⟩, fun x => slices_rotateCmpFunc_api_ConvexPiece.f k x.1 x.2.1 x.2.2.1 x.2.2.2⟩
noncomputable abbrev Γ (k : Nat) : FuncId → Option Con := look [(97, slices_swapRangeCmpFunc_api_ConvexPiece.con k)]
abbrev F : Fin Go.Proofs.Try.prog := ⟨⟨[], [(9000000, .row 60 Y0)]⟩, [9000000], []⟩
abbrev c2 : Cut := ⟨[(0, .l (.row 9000000)), (2, .l (.val (.int .i64))), (4, .l (.fn0 81)), (10, .l (.val (.int .i64))), (11, .l (.val (.int .i64)))], [(9000000, .row 60 Y0)]⟩
noncomputable abbrev Tl (k : Nat) : List (Nat × Hint (prods F.cout.tys)) := [(2, ⟨c2, fun x => slices_rotateCmpFunc_api_ConvexPiece.l2 k x.1 x.2.1 x.2.2.1 x.2.2.2⟩)]
noncomputable abbrev T (k : Nat) : Nat → Option (Hint (prods F.cout.tys)) := look (Tl k)
noncomputable abbrev body : Code := Go.Proofs.Try.f96.body.getD .skip
theorem s2 (k : Nat) (x : prods c2.tys) : slices_rotateCmpFunc_api_ConvexPiece.l2 (k + 1) x.1 x.2.1 x.2.2.1 x.2.2.2 = segK (Γ k) F (T k) body 2 (c2.st x) := by kernel_rfl
theorem main (k : Nat) (x : prods (con 0).cin.tys) : slices_rotateCmpFunc_api_ConvexPiece.f k x.1 x.2.1 x.2.2.1 x.2.2.2 = goK (Γ k) F (T k) 2000 [.code body] ((con 0).cin.st x) := by kernel_rfl
theorem okΓ (k : Nat) : ΓOk Go.Proofs.Try.prog (Γ k) := Γcons (slices_swapRangeCmpFunc_api_ConvexPiece.ok k) ⟨Go.Proofs.Try.f97, by kernel_rfl, by kernel_rfl, by kernel_rfl⟩ (Γnil)
theorem ok (k : Nat) : ConSound Go.Proofs.Try.prog 96 (con k) := con_sound (Γ := Γ) (fn := Go.Proofs.Try.f96) (body := body) (cin := (con 0).cin) (F := F) (T := T) follows (by kernel_rfl) (by kernel_rfl) (by kernel_rfl) (by kernel_rfl) (by kernel_rfl) (by decide +kernel) (by kernel_rfl) (by kernel_rfl) (tzero ⟨fun x => rfl, trivial⟩) k (fun m _ => okΓ m) (fun m _ => tstep ⟨fun x => s2 m x, trivial⟩) (fun x y h => (main k x).symm.trans h)
end slices_rotateCmpFunc_api_ConvexPiece
namespace slices_symMergeCmpFunc_api_ConvexPiece
noncomputable abbrev con (k : Nat) : Con := ⟨⟨[(0, .l (.row 9000000)), (1, .l (.val (.int .i64))), (2, .l (.val (.int .i64))), (3, .l (.val (.int .i64))), (4, .l (.fn0 81))], [(9000000, .row 60 Y0)]⟩, ⟨[], [(9000000, .row 60 Y0)]⟩, fun x => slices_symMergeCmpFunc_api_ConvexPiece.f k x.1 x.2.1 x.2.2.1 x.2.2.2⟩
noncomputable abbrev Γ (k : Nat) : FuncId → Option Con := look [(81, convexpl_made_1.con k), (94, slices_symMergeCmpFunc_api_ConvexPiece.con k), (96, slices_rotateCmpFunc_api_ConvexPiece.con k)]
abbrev F : Fin Go.Proofs.Try.prog := ⟨⟨[], [(9000000, .row 60 Y0)]⟩, [9000000], []⟩
abbrev c3 : Cut := ⟨[(0, .l (.row 9000000)), (1, .l (.val (.int .i64))), (4, .l (.fn0 81)), (10, .l (.val (.int .i64))), (11, .l (.val (.int .i64)))], [(9000000, .row 60 Y0)]⟩
abbrev c9 : Cut := ⟨[(0, .l (.row 9000000)), (10, .l (.val (.int .i64))), (13, .l (.val (.int .i64)))], [(9000000, .row 60 Y0)]⟩
abbrev c15 : Cut := ⟨[(0, .l (.row 9000000)), (2, .l (.val (.int .i64))), (4, .l (.fn0 81)), (14, .l (.val (.int .i64))), (15, .l (.val (.int .i64)))], [(9000000, .row 60 Y0)]⟩
abbrev c21 : Cut := ⟨[(0, .l (.row 9000000)), (14, .l (.val (.int .i64))), (17, .l (.val (.int .i64)))], [(9000000, .row 60 Y0)]⟩
abbrev c32 : Cut := ⟨[(0, .l (.row 9000000)), (1, .l (.val (.int .i64))), (2, .l (.val (.int .i64))), (3, .l (.val (.int .i64))), (4, .l (.fn0 81)), (18, .l (.val (.int .i64))), (19, .l (.val (.int .i64))), (20, .l (.val (.int .i64))), (21, .l (.val (.int .i64)))], [(9000000, .row 60 Y0)]⟩
abbrev c33 : Cut := ⟨[(0, .l (.row 9000000)), (1, .l (.val (.int .i64))), (2, .l (.val (.int .i64))), (3, .l (.val (.int .i64))), (4, .l (.fn0 81)), (18, .l (.val (.int .i64))), (19, .l (.val (.int .i64))), (20, .l (.val (.int .i64))), (21, .l (.val (.int .i64))), (22, .l (.val (.int .i64)))], [(9000000, .row 60 Y0)]⟩
abbrev c41 : Cut := ⟨[(0, .l (.row 9000000)), (1, .l (.val (.int .i64))), (3, .l (.val (.int .i64))), (4, .l (.fn0 81)), (18, .l (.val (.int .i64))), (20, .l (.val (.int .i64))), (24, .l (.val (.int .i64)))], [(9000000, .row 60 Y0)]⟩
noncomputable abbrev Tl (k : Nat) : List (Nat × Hint (prods F.cout.tys)) := [(3, ⟨c3, fun x => slices_symMergeCmpFunc_api_ConvexPiece.l3 k x.1 x.2.1 x.2.2.1 x.2.2.2⟩), (9, ⟨c9, fun x => slices_symMergeCmpFunc_api_ConvexPiece.l9 k x.1 x.2.1 x.2.2⟩), (15, ⟨c15, fun x => slices_symMergeCmpFunc_api_ConvexPiece.l15 k x.1 x.2.1 x.2.2.1 x.2.2.2⟩), (21, ⟨c21, fun x => slices_symMergeCmpFunc_api_ConvexPiece.l21 k x.1 x.2.1 x.2.2⟩), (32, ⟨c32, fun x => slices_symMergeCmpFunc_api_ConvexPiece.l32 k x.1 x.2.1 x.2.2.1 x.2.2.2.1 x.2.2.2.2.1 x.2.2.2.2.2.1 x.2.2.2.2.2.2.1 x.2.2.2.2.2.2.2⟩), (33, ⟨c33, fun x => slices_symMergeCmpFunc_api_ConvexPiece.l33 k x.1 x.2.1 x.2.2.1 x.2.2.2.1 x.2.2.2.2.1 x.2.2.2.2.2.1 x.2.2.2.2.2.2.1 x.2.2.2.2.2.2.2.1 x.2.2.2.2.2.2.2.2⟩), (41, ⟨c41, fun x => slices_symMergeCmpFunc_api_ConvexPiece.l41 k x.1 x.2.1 x.2.2.1 x.2.2.2.1 x.2.2.2.2.1 x.2.2.2.2.2⟩)]
noncomputable abbrev T (k : Nat) : Nat → Option (Hint (prods F.cout.tys)) := look (Tl k)
noncomputable abbrev body : Code := Go.Proofs.Try.f94.body.getD .skip
theorem s3 (k : Nat) (x : prods c3.tys) : slices_symMergeCmpFunc_api_ConvexPiece.l3 (k + 1) x.1 x.2.1 x.2.2.1 x.2.2.2 = segK (Γ k) F (T k) body 3 (c3.st x) := by kernel_rfl
theorem s9 (k : Nat) (x : prods c9.tys) : slices_symMergeCmpFunc_api_ConvexPiece.l9 (k + 1) x.1 x.2.1 x.2.2 = segK (Γ k) F (T k) body 9 (c9.st x) := by kernel_rfl
theorem s15 (k : Nat) (x : prods c15.tys) : slices_symMergeCmpFunc_api_ConvexPiece.l15 (k + 1) x.1 x.2.1 x.2.2.1 x.2.2.2 = segK (Γ k) F (T k) body 15 (c15.st x) := by kernel_rfl
theorem s21 (k : Nat) (x : prods c21.tys) : slices_symMergeCmpFunc_api_ConvexPiece.l21 (k + 1) x.1 x.2.1 x.2.2 = segK (Γ k) F (T k) body 21 (c21.st x) := by kernel_rfl
theorem s32 (k : Nat) (x : prods c32.tys) : slices_symMergeCmpFunc_api_ConvexPiece.l32 (k + 1) x.1 x.2.1 x.2.2.1 x.2.2.2.1 x.2.2.2.2.1 x.2.2.2.2.2.1 x.2.2.2.2.2.2.1 x.2.2.2.2.2.2.2 = segK (Γ k) F (T k) body 32 (c32.st x) := by kernel_rfl
theorem s33 (k : Nat) (x : prods c33.tys) : slices_symMergeCmpFunc_api_ConvexPiece.l33 (k + 1) x.1 x.2.1 x.2.2.1 x.2.2.2.1 x.2.2.2.2.1 x.2.2.2.2.2.1 x.2.2.2.2.2.2.1 x.2.2.2.2.2.2.2.1 x.2.2.2.2.2.2.2.2 = segK (Γ k) F (T k) body 33 (c33.st x) := by kernel_rfl
theorem s41 (k : Nat) (x : prods c41.tys) : slices_symMergeCmpFunc_api_ConvexPiece.l41 (k + 1) x.1 x.2.1 x.2.2.1 x.2.2.2.1 x.2.2.2.2.1 x.2.2.2.2.2 = segK (Γ k) F (T k) body 41 (c41.st x) := by kernel_rfl
theorem main (k : Nat) (x : prods (con 0).cin.tys) : slices_symMergeCmpFunc_api_ConvexPiece.f (k + 1) x.1 x.2.1 x.2.2.1 x.2.2.2 = goK (Γ k) F (T k) 2000 [.code body] ((con 0).cin.st x) := by kernel_rfl
theorem okΓ (k : Nat) (h : ConSound Go.Proofs.Try.prog 94 (con k)) : ΓOk Go.Proofs.Try.prog (Γ k) := Γcons (convexpl_made_1.ok k) ⟨Go.Proofs.Try.f81, by kernel_rfl, by kernel_rfl, by kernel_rfl⟩ (Γcons h ⟨Go.Proofs.Try.f94, by kernel_rfl, by kernel_rfl, by kernel_rfl⟩ (Γcons (slices_rotateCmpFunc_api_ConvexPiece.ok k) ⟨Go.Proofs.Try.f96, by kernel_rfl, by kernel_rfl, by kernel_rfl⟩ (Γnil)))
theorem ok (k : Nat) : ConSound Go.Proofs.Try.prog 94 (con k) := by
  induction k using Nat.strongRecOn with
  | ind k ih => cases k with
    | zero => exact fun x y h => absurd (show (none : Option _) = some y from h) (by simp)
    | succ n => exact con_sound (Γ := Γ) (fn := Go.Proofs.Try.f94) (body := body) (cin := (con 0).cin) (F := F) (T := T) follows (by kernel_rfl) (by kernel_rfl) (by kernel_rfl) (by kernel_rfl) (by kernel_rfl) (by decide +kernel) (by kernel_rfl) (by kernel_rfl) (tzero ⟨fun x => rfl, fun x => rfl, fun x => rfl, fun x => rfl, fun x => rfl, fun x => rfl, fun x => rfl, trivial⟩) n (fun m hm => okΓ m (ih m (Nat.lt_succ_of_le hm))) (fun m _ => tstep ⟨fun x => s3 m x, fun x => s9 m x, fun x => s15 m x, fun x => s21 m x, fun x => s32 m x, fun x => s33 m x, fun x => s41 m x, trivial⟩) (fun x y h => (main n x).symm.trans h)
end slices_symMergeCmpFunc_api_ConvexPiece
namespace slices_stableCmpFunc_api_ConvexPiece
noncomputable abbrev con (k : Nat) : Con := ⟨⟨[(0, .l (.row 9000000)), (1, .l (.val (.int .i64))), (2, .l (.fn0 81))], [(9000000, .row 60 Y0)]⟩, ⟨[], [(9000000, .row 60 Y0)]⟩, fun x => slices_stableCmpFunc_api_ConvexPiece.f k x.1 x.2⟩
noncomputable abbrev Γ (k : Nat) : FuncId → Option Con := look [(93, slices_insertionSortCmpFunc_api_ConvexPiece.con k), (94, slices_symMergeCmpFunc_api_ConvexPiece.con k)]
abbrev F : Fin Go.Proofs.Try.prog := ⟨⟨[], [(9000000, .row 60 Y0)]⟩, [9000000], []⟩
abbrev c2 : Cut := ⟨[(0, .l (.row 9000000)), (1, .l (.val (.int .i64))), (2, .l (.fn0 81)), (6, .l (.val (.int .i64))), (7, .l (.val (.int .i64))), (8, .l (.val (.int .i64)))], [(9000000, .row 60 Y0)]⟩
abbrev c7 : Cut := ⟨[(0, .l (.row 9000000)), (1, .l (.val (.int .i64))), (2, .l (.fn0 81)), (6, .l (.val (.int .i64)))], [(9000000, .row 60 Y0)]⟩
abbrev c9 : Cut := ⟨[(0, .l (.row 9000000)), (1, .l (.val (.int .i64))), (2, .l (.fn0 81)), (6, .l (.val (.int .i64))), (7, .l (.val (.int .i64))), (8, .l (.val (.int .i64)))], [(9000000, .row 60 Y0)]⟩
noncomputable abbrev Tl (k : Nat) : List (Nat × Hint (prods F.cout.tys)) := [(2, ⟨c2, fun x => slices_stableCmpFunc_api_ConvexPiece.l2 k x.1 x.2.1 x.2.2.1 x.2.2.2.1 x.2.2.2.2⟩), (7, ⟨c7, fun x => slices_stableCmpFunc_api_ConvexPiece.l7 k x.1 x.2.1 x.2.2⟩), (9, ⟨c9, fun x => slices_stableCmpFunc_api_ConvexPiece.l9 k x.1 x.2.1 x.2.2.1 x.2.2.2.1 x.2.2.2.2⟩)]
noncomputable abbrev T (k : Nat) : Nat → Option (Hint (prods F.cout.tys)) := look (Tl k)
noncomputable abbrev body : Code := Go.Proofs.Try.f91.body.getD .skip
theorem s2 (k : Nat) (x : prods c2.tys) : slices_stableCmpFunc_api_ConvexPiece.l2 (k + 1) x.1 x.2.1 x.2.2.1 x.2.2.2.1 x.2.2.2.2 = segK (Γ k) F (T k) body 2 (c2.st x) := by kernel_rfl
theorem s7 (k : Nat) (x : prods c7.tys) : slices_stableCmpFunc_api_ConvexPiece.l7 (k + 1) x.1 x.2.1 x.2.2 = segK (Γ k) F (T k) body 7 (c7.st x) := by kernel_rfl
theorem s9 (k : Nat) (x : prods c9.tys) : slices_stableCmpFunc_api_ConvexPiece.l9 (k + 1) x.1 x.2.1 x.2.2.1 x.2.2.2.1 x.2.2.2.2 = segK (Γ k) F (T k) body 9 (c9.st x) := by kernel_rfl
theorem main (k : Nat) (x : prods (con 0).cin.tys) : slices_stableCmpFunc_api_ConvexPiece.f k x.1 x.2 = goK (Γ k) F (T k) 2000 [.code body] ((con 0).cin.st x) := by kernel_rfl
theorem okΓ (k : Nat) : ΓOk Go.Proofs.Try.prog (Γ k) := Γcons (slices_insertionSortCmpFunc_api_ConvexPiece.ok k) ⟨Go.Proofs.Try.f93, by kernel_rfl, by kernel_rfl, by kernel_rfl⟩ (Γcons (slices_symMergeCmpFunc_api_ConvexPiece.ok k) ⟨Go.Proofs.Try.f94, by kernel_rfl, by kernel_rfl, by kernel_rfl⟩ (Γnil))
theorem ok (k : Nat) : ConSound Go.Proofs.Try.prog 91 (con k) := con_sound (Γ := Γ) (fn := Go.Proofs.Try.f91) (body := body) (cin := (con 0).cin) (F := F) (T := T) follows (by kernel_rfl) (by kernel_rfl) (by kernel_rfl) (by kernel_rfl) (by kernel_rfl) (by decide +kernel) (by kernel_rfl) (by kernel_rfl) (tzero ⟨fun x => rfl, fun x => rfl, fun x => rfl, trivial⟩) k (fun m _ => okΓ m) (fun m _ => tstep ⟨fun x => s2 m x, fun x => s7 m x, fun x => s9 m x, trivial⟩) (fun x y h => (main k x).symm.trans h)
end slices_stableCmpFunc_api_ConvexPiece
namespace slices_SortStableFunc_api_ConvexPiece
noncomputable abbrev con (k : Nat) : Con := ⟨⟨[(0, .l (.row 9000000)), (1, .l (.fn0 81))], [(9000000, .row 60 Y0)]⟩, ⟨[], [(9000000, .row 60 Y0)]⟩, fun x => slices_SortStableFunc_api_ConvexPiece.f k x⟩
noncomputable abbrev Γ (k : Nat) : FuncId → Option Con := look [(91, slices_stableCmpFunc_api_ConvexPiece.con k)]
abbrev F : Fin Go.Proofs.Try.prog := ⟨⟨[], [(9000000, .row 60 Y0)]⟩, [9000000], []⟩
noncomputable abbrev Tl (k : Nat) : List (Nat × Hint (prods F.cout.tys)) := []
noncomputable abbrev T (k : Nat) : Nat → Option (Hint (prods F.cout.tys)) := look (Tl k)
noncomputable abbrev body : Code := Go.Proofs.Try.f80.body.getD .skip
theorem main (k : Nat) (x : prods (con 0).cin.tys) : slices_SortStableFunc_api_ConvexPiece.f k x = goK (Γ k) F (T k) 2000 [.code body] ((con 0).cin.st x) := by kernel_rfl
theorem okΓ (k : Nat) : ΓOk Go.Proofs.Try.prog (Γ k) := Γcons (slices_stableCmpFunc_api_ConvexPiece.ok k) ⟨Go.Proofs.Try.f91, by kernel_rfl, by kernel_rfl, by kernel_rfl⟩ (Γnil)
theorem ok (k : Nat) : ConSound Go.Proofs.Try.prog 80 (con k) := con_sound (Γ := Γ) (fn := Go.Proofs.Try.f80) (body := body) (cin := (con 0).cin) (F := F) (T := T) follows (by kernel_rfl) (by kernel_rfl) (by kernel_rfl) (by kernel_rfl) (by kernel_rfl) (by decide +kernel) (by kernel_rfl) (by kernel_rfl) (tzero trivial) k (fun m _ => okΓ m) (fun m _ => tstep trivial) (fun x y h => (main k x).symm.trans h)
end slices_SortStableFunc_api_ConvexPiece
namespace convexpl_made
noncomputable abbrev con (k : Nat) : Con := ⟨⟨[(0, .l (.val (.int .i64))), (1, .l (.val (.int .i64))), (2, .l (.row 9000000))], [(9000000, .row 60 Y0)]⟩, ⟨[(0, .av Y3), (1, .l (.val (.int .i64)))], [(9000000, .row 60 Y0)]⟩, fun x => convexpl_made.f k x.1 x.2.1 x.2.2⟩
noncomputable abbrev Γ (k : Nat) : FuncId → Option Con := look [(51, convexpl_Check.con k), (80, slices_SortStableFunc_api_ConvexPiece.con k)]
abbrev F : Fin Go.Proofs.Try.prog := ⟨⟨[(0, .av Y3), (1, .l (.val (.int .i64)))], [(9000000, .row 60 Y0)]⟩, [9000000], [.cell 6 32, .tmp 7]⟩
abbrev c4 : Cut := ⟨[(6, .l (.ptr 7000000 0)), (8, .l (.ptr 7000001 0)), (17, .l (.row 9000000)), (18, .l (.val (.int .i64))), (19, .l (.val (.int .i64)))], [(9000000, .row 60 Y0), (7000000, .box 32 [.val (.int .i64), .val (.int .i64), .nils]), (7000001, .box 32 [.val (.int .i64), .val (.int .i64), .row 7000503]), (7000503, .row 60 Y0)]⟩
noncomputable abbrev Tl (k : Nat) : List (Nat × Hint (prods F.cout.tys)) := [(4, ⟨c4, fun x => convexpl_made.l4 k x.1 x.2.1 x.2.2.1 x.2.2.2.1 x.2.2.2.2.1 x.2.2.2.2.2.1 x.2.2.2.2.2.2.1 x.2.2.2.2.2.2.2⟩)]
noncomputable abbrev T (k : Nat) : Nat → Option (Hint (prods F.cout.tys)) := look (Tl k)
noncomputable abbrev body : Code := Go.Proofs.Try.f53.body.getD .skip
theorem s4 (k : Nat) (x : prods c4.tys) : convexpl_made.l4 (k + 1) x.1 x.2.1 x.2.2.1 x.2.2.2.1 x.2.2.2.2.1 x.2.2.2.2.2.1 x.2.2.2.2.2.2.1 x.2.2.2.2.2.2.2 = segK (Γ k) F (T k) body 4 (c4.st x) := by kernel_rfl
theorem main (k : Nat) (x : prods (con 0).cin.tys) : convexpl_made.f k x.1 x.2.1 x.2.2 = goK (Γ k) F (T k) 2000 [.code body] ((con 0).cin.st x) := by kernel_rfl
theorem okΓ (k : Nat) : ΓOk Go.Proofs.Try.prog (Γ k) := Γcons (convexpl_Check.ok k) ⟨Go.Proofs.Try.f51, by kernel_rfl, by kernel_rfl, by kernel_rfl⟩ (Γcons (slices_SortStableFunc_api_ConvexPiece.ok k) ⟨Go.Proofs.Try.f80, by kernel_rfl, by kernel_rfl, by kernel_rfl⟩ (Γnil))
theorem ok (k : Nat) : ConSound Go.Proofs.Try.prog 53 (con k) := con_sound (Γ := Γ) (fn := Go.Proofs.Try.f53) (body := body) (cin := (con 0).cin) (F := F) (T := T) follows (by kernel_rfl) (by kernel_rfl) (by kernel_rfl) (by kernel_rfl) (by kernel_rfl) (by decide +kernel) (by kernel_rfl) (by kernel_rfl) (tzero ⟨fun x => rfl, trivial⟩) k (fun m _ => okΓ m) (fun m _ => tstep ⟨fun x => s4 m x, trivial⟩) (fun x y h => (main k x).symm.trans h)
end convexpl_made
namespace convexpl_Restrict
noncomputable abbrev con (k : Nat) : Con := ⟨⟨[(0, .av Y3), (1, .l (.val (.int .i64))), (2, .l (.val (.int .i64)))], []⟩, ⟨[(0, .av Y3), (1, .l (.val (.int .i64)))], []⟩, fun x => convexpl_Restrict.f k x.1 x.2.1 x.2.2⟩
noncomputable abbrev Γ (k : Nat) : FuncId → Option Con := look [(51, convexpl_Check.con k), (52, convexpl_high.con k), (53, convexpl_made.con k), (54, convexpl_value.con k), (55, convexpl_cut.con k)]
abbrev F : Fin Go.Proofs.Try.prog := ⟨⟨[(0, .av Y3), (1, .l (.val (.int .i64)))], []⟩, [], [.cell 6 32, .tmp 7]⟩
noncomputable abbrev Tl (k : Nat) : List (Nat × Hint (prods F.cout.tys)) := []
noncomputable abbrev T (k : Nat) : Nat → Option (Hint (prods F.cout.tys)) := look (Tl k)
noncomputable abbrev body : Code := Go.Proofs.Try.f22.body.getD .skip
theorem main (k : Nat) (x : prods (con 0).cin.tys) : convexpl_Restrict.f k x.1 x.2.1 x.2.2 = goK (Γ k) F (T k) 2000 [.code body] ((con 0).cin.st x) := by kernel_rfl
theorem okΓ (k : Nat) : ΓOk Go.Proofs.Try.prog (Γ k) := Γcons (convexpl_Check.ok k) ⟨Go.Proofs.Try.f51, by kernel_rfl, by kernel_rfl, by kernel_rfl⟩ (Γcons (convexpl_high.ok k) ⟨Go.Proofs.Try.f52, by kernel_rfl, by kernel_rfl, by kernel_rfl⟩ (Γcons (convexpl_made.ok k) ⟨Go.Proofs.Try.f53, by kernel_rfl, by kernel_rfl, by kernel_rfl⟩ (Γcons (convexpl_value.ok k) ⟨Go.Proofs.Try.f54, by kernel_rfl, by kernel_rfl, by kernel_rfl⟩ (Γcons (convexpl_cut.ok k) ⟨Go.Proofs.Try.f55, by kernel_rfl, by kernel_rfl, by kernel_rfl⟩ (Γnil)))))
theorem ok (k : Nat) : ConSound Go.Proofs.Try.prog 22 (con k) := con_sound (Γ := Γ) (fn := Go.Proofs.Try.f22) (body := body) (cin := (con 0).cin) (F := F) (T := T) follows (by kernel_rfl) (by kernel_rfl) (by kernel_rfl) (by kernel_rfl) (by kernel_rfl) (by decide +kernel) (by kernel_rfl) (by kernel_rfl) (tzero trivial) k (fun m _ => okΓ m) (fun m _ => tstep trivial) (fun x y h => (main k x).symm.trans h)
end convexpl_Restrict
namespace gridhallkeep3_fine_1
noncomputable abbrev con (k : Nat) : Con := ⟨⟨[(0, .l (.val (.int .i64)))], []⟩, ⟨[(0, .l (.val .bool))], []⟩, fun x => gridhallkeep3_fine_1.f k x⟩
noncomputable abbrev Γ (k : Nat) : FuncId → Option Con := look []
abbrev F : Fin Go.Proofs.Try.prog := ⟨⟨[(0, .l (.val .bool))], []⟩, [], [.tmp 2]⟩
noncomputable abbrev Tl (k : Nat) : List (Nat × Hint (prods F.cout.tys)) := []
noncomputable abbrev T (k : Nat) : Nat → Option (Hint (prods F.cout.tys)) := look (Tl k)
noncomputable abbrev body : Code := Go.Proofs.Try.f57.body.getD .skip
theorem main (k : Nat) (x : prods (con 0).cin.tys) : gridhallkeep3_fine_1.f k x = goK (Γ k) F (T k) 2000 [.code body] ((con 0).cin.st x) := by kernel_rfl
theorem okΓ (k : Nat) : ΓOk Go.Proofs.Try.prog (Γ k) := Γnil
theorem ok (k : Nat) : ConSound Go.Proofs.Try.prog 57 (con k) := con_sound (Γ := Γ) (fn := Go.Proofs.Try.f57) (body := body) (cin := (con 0).cin) (F := F) (T := T) follows (by kernel_rfl) (by kernel_rfl) (by kernel_rfl) (by kernel_rfl) (by kernel_rfl) (by decide +kernel) (by kernel_rfl) (by kernel_rfl) (tzero trivial) k (fun m _ => okΓ m) (fun m _ => tstep trivial) (fun x y h => (main k x).symm.trans h)
end gridhallkeep3_fine_1
namespace slices_IndexFunc_api_Errno
noncomputable abbrev con (k : Nat) : Con := ⟨⟨[(0, .l (.val (.list 23 (.int .i64)))), (1, .l (.fn0 57))], []⟩, ⟨[(0, .l (.val (.int .i64)))], []⟩, fun x => slices_IndexFunc_api_Errno.f k x⟩
noncomputable abbrev Γ (k : Nat) : FuncId → Option Con := look [(57, gridhallkeep3_fine_1.con k)]
abbrev F : Fin Go.Proofs.Try.prog := ⟨⟨[(0, .l (.val (.int .i64)))], []⟩, [], [.tmp 4]⟩
abbrev c2 : Cut := ⟨[(0, .l (.val (.list 23 (.int .i64)))), (1, .l (.fn0 57)), (7, .l (.val (.int .i64))), (8, .l (.val (.int .i64)))], []⟩
noncomputable abbrev Tl (k : Nat) : List (Nat × Hint (prods F.cout.tys)) := [(2, ⟨c2, fun x => slices_IndexFunc_api_Errno.l2 k x.1 x.2.1 x.2.2⟩)]
noncomputable abbrev T (k : Nat) : Nat → Option (Hint (prods F.cout.tys)) := look (Tl k)
noncomputable abbrev body : Code := Go.Proofs.Try.f82.body.getD .skip
theorem s2 (k : Nat) (x : prods c2.tys) : slices_IndexFunc_api_Errno.l2 (k + 1) x.1 x.2.1 x.2.2 = segK (Γ k) F (T k) body 2 (c2.st x) := by kernel_rfl
theorem main (k : Nat) (x : prods (con 0).cin.tys) : slices_IndexFunc_api_Errno.f k x = goK (Γ k) F (T k) 2000 [.code body] ((con 0).cin.st x) := by kernel_rfl
theorem okΓ (k : Nat) : ΓOk Go.Proofs.Try.prog (Γ k) := Γcons (gridhallkeep3_fine_1.ok k) ⟨Go.Proofs.Try.f57, by kernel_rfl, by kernel_rfl, by kernel_rfl⟩ (Γnil)
theorem ok (k : Nat) : ConSound Go.Proofs.Try.prog 82 (con k) := con_sound (Γ := Γ) (fn := Go.Proofs.Try.f82) (body := body) (cin := (con 0).cin) (F := F) (T := T) follows (by kernel_rfl) (by kernel_rfl) (by kernel_rfl) (by kernel_rfl) (by kernel_rfl) (by decide +kernel) (by kernel_rfl) (by kernel_rfl) (tzero ⟨fun x => rfl, trivial⟩) k (fun m _ => okΓ m) (fun m _ => tstep ⟨fun x => s2 m x, trivial⟩) (fun x y h => (main k x).symm.trans h)
end slices_IndexFunc_api_Errno
namespace slices_ContainsFunc_api_Errno
noncomputable abbrev con (k : Nat) : Con := ⟨⟨[(0, .l (.val (.list 23 (.int .i64)))), (1, .l (.fn0 57))], []⟩, ⟨[(0, .l (.val .bool))], []⟩, fun x => slices_ContainsFunc_api_Errno.f k x⟩
noncomputable abbrev Γ (k : Nat) : FuncId → Option Con := look [(82, slices_IndexFunc_api_Errno.con k)]
abbrev F : Fin Go.Proofs.Try.prog := ⟨⟨[(0, .l (.val .bool))], []⟩, [], [.tmp 4]⟩
noncomputable abbrev Tl (k : Nat) : List (Nat × Hint (prods F.cout.tys)) := []
noncomputable abbrev T (k : Nat) : Nat → Option (Hint (prods F.cout.tys)) := look (Tl k)
noncomputable abbrev body : Code := Go.Proofs.Try.f56.body.getD .skip
theorem main (k : Nat) (x : prods (con 0).cin.tys) : slices_ContainsFunc_api_Errno.f k x = goK (Γ k) F (T k) 2000 [.code body] ((con 0).cin.st x) := by kernel_rfl
theorem okΓ (k : Nat) : ΓOk Go.Proofs.Try.prog (Γ k) := Γcons (slices_IndexFunc_api_Errno.ok k) ⟨Go.Proofs.Try.f82, by kernel_rfl, by kernel_rfl, by kernel_rfl⟩ (Γnil)
theorem ok (k : Nat) : ConSound Go.Proofs.Try.prog 56 (con k) := con_sound (Γ := Γ) (fn := Go.Proofs.Try.f56) (body := body) (cin := (con 0).cin) (F := F) (T := T) follows (by kernel_rfl) (by kernel_rfl) (by kernel_rfl) (by kernel_rfl) (by kernel_rfl) (by decide +kernel) (by kernel_rfl) (by kernel_rfl) (tzero trivial) k (fun m _ => okΓ m) (fun m _ => tstep trivial) (fun x y h => (main k x).symm.trans h)
end slices_ContainsFunc_api_Errno
namespace gridhallkeep3_fine
noncomputable abbrev con (k : Nat) : Con := ⟨⟨[(0, .l (.val (.list 23 (.int .i64))))], []⟩, ⟨[(0, .l (.val .bool))], []⟩, fun x => gridhallkeep3_fine.f k x⟩
noncomputable abbrev Γ (k : Nat) : FuncId → Option Con := look [(56, slices_ContainsFunc_api_Errno.con k)]
abbrev F : Fin Go.Proofs.Try.prog := ⟨⟨[(0, .l (.val .bool))], []⟩, [], [.tmp 2]⟩
noncomputable abbrev Tl (k : Nat) : List (Nat × Hint (prods F.cout.tys)) := []
noncomputable abbrev T (k : Nat) : Nat → Option (Hint (prods F.cout.tys)) := look (Tl k)
noncomputable abbrev body : Code := Go.Proofs.Try.f24.body.getD .skip
theorem main (k : Nat) (x : prods (con 0).cin.tys) : gridhallkeep3_fine.f k x = goK (Γ k) F (T k) 2000 [.code body] ((con 0).cin.st x) := by kernel_rfl
theorem okΓ (k : Nat) : ΓOk Go.Proofs.Try.prog (Γ k) := Γcons (slices_ContainsFunc_api_Errno.ok k) ⟨Go.Proofs.Try.f56, by kernel_rfl, by kernel_rfl, by kernel_rfl⟩ (Γnil)
theorem ok (k : Nat) : ConSound Go.Proofs.Try.prog 24 (con k) := con_sound (Γ := Γ) (fn := Go.Proofs.Try.f24) (body := body) (cin := (con 0).cin) (F := F) (T := T) follows (by kernel_rfl) (by kernel_rfl) (by kernel_rfl) (by kernel_rfl) (by kernel_rfl) (by decide +kernel) (by kernel_rfl) (by kernel_rfl) (tzero trivial) k (fun m _ => okΓ m) (fun m _ => tstep trivial) (fun x y h => (main k x).symm.trans h)
end gridhallkeep3_fine
namespace gridhallkeep3_ConvexParts
noncomputable abbrev con (k : Nat) : Con := ⟨⟨[(0, .av Y3), (1, .l (.val (.int .i64))), (2, .l (.val (.int .i64)))], []⟩, ⟨[(0, .l (.val .bool))], []⟩, fun x => gridhallkeep3_ConvexParts.f k x.1 x.2.1 x.2.2⟩
noncomputable abbrev Γ (k : Nat) : FuncId → Option Con := look [(19, gridhallkeep3_slopes.con k), (20, convexpl_High.con k), (21, gridhallkeep3_within.con k), (22, convexpl_Restrict.con k), (23, convexpl_At.con k), (24, gridhallkeep3_fine.con k)]
abbrev F : Fin Go.Proofs.Try.prog := ⟨⟨[(0, .l (.val .bool))], []⟩, [], [.tmp 6]⟩
noncomputable abbrev Tl (k : Nat) : List (Nat × Hint (prods F.cout.tys)) := []
noncomputable abbrev T (k : Nat) : Nat → Option (Hint (prods F.cout.tys)) := look (Tl k)
noncomputable abbrev body : Code := Go.Proofs.Try.f4.body.getD .skip
theorem main (k : Nat) (x : prods (con 0).cin.tys) : gridhallkeep3_ConvexParts.f k x.1 x.2.1 x.2.2 = goK (Γ k) F (T k) 2000 [.code body] ((con 0).cin.st x) := by kernel_rfl
theorem okΓ (k : Nat) : ΓOk Go.Proofs.Try.prog (Γ k) := Γcons (gridhallkeep3_slopes.ok k) ⟨Go.Proofs.Try.f19, by kernel_rfl, by kernel_rfl, by kernel_rfl⟩ (Γcons (convexpl_High.ok k) ⟨Go.Proofs.Try.f20, by kernel_rfl, by kernel_rfl, by kernel_rfl⟩ (Γcons (gridhallkeep3_within.ok k) ⟨Go.Proofs.Try.f21, by kernel_rfl, by kernel_rfl, by kernel_rfl⟩ (Γcons (convexpl_Restrict.ok k) ⟨Go.Proofs.Try.f22, by kernel_rfl, by kernel_rfl, by kernel_rfl⟩ (Γcons (convexpl_At.ok k) ⟨Go.Proofs.Try.f23, by kernel_rfl, by kernel_rfl, by kernel_rfl⟩ (Γcons (gridhallkeep3_fine.ok k) ⟨Go.Proofs.Try.f24, by kernel_rfl, by kernel_rfl, by kernel_rfl⟩ (Γnil))))))
theorem ok (k : Nat) : ConSound Go.Proofs.Try.prog 4 (con k) := con_sound (Γ := Γ) (fn := Go.Proofs.Try.f4) (body := body) (cin := (con 0).cin) (F := F) (T := T) follows (by kernel_rfl) (by kernel_rfl) (by kernel_rfl) (by kernel_rfl) (by kernel_rfl) (by decide +kernel) (by kernel_rfl) (by kernel_rfl) (tzero trivial) k (fun m _ => okΓ m) (fun m _ => tstep trivial) (fun x y h => (main k x).symm.trans h)
end gridhallkeep3_ConvexParts
namespace convexpl_Turn
noncomputable abbrev con (k : Nat) : Con := ⟨⟨[(0, .av Y3)], []⟩, ⟨[(0, .av Y3), (1, .l (.val (.int .i64)))], []⟩, fun x => convexpl_Turn.f k x⟩
noncomputable abbrev Γ (k : Nat) : FuncId → Option Con := look [(51, convexpl_Check.con k), (52, convexpl_high.con k), (53, convexpl_made.con k), (54, convexpl_value.con k)]
abbrev F : Fin Go.Proofs.Try.prog := ⟨⟨[(0, .av Y3), (1, .l (.val (.int .i64)))], []⟩, [], [.cell 2 32, .tmp 3]⟩
abbrev c7 : Cut := ⟨[(1, .l (.ptr 7000000 0)), (2, .l (.ptr 7000001 0)), (5, .l (.val (.int .i64))), (6, .l (.row 7000502)), (18, .l (.val (.list 60 Y0))), (19, .l (.val (.int .i64))), (20, .l (.val (.int .i64)))], [(7000000, .box 32 [.val (.int .i64), .val (.int .i64), .val (.list 60 Y0)]), (7000001, .box 32 [.val (.int .i64), .val (.int .i64), .nils]), (7000502, .row 60 Y0)]⟩
noncomputable abbrev Tl (k : Nat) : List (Nat × Hint (prods F.cout.tys)) := [(7, ⟨c7, fun x => convexpl_Turn.l7 k x.1 x.2.1 x.2.2.1 x.2.2.2.1 x.2.2.2.2.1 x.2.2.2.2.2.1 x.2.2.2.2.2.2.1 x.2.2.2.2.2.2.2.1 x.2.2.2.2.2.2.2.2.1 x.2.2.2.2.2.2.2.2.2⟩)]
noncomputable abbrev T (k : Nat) : Nat → Option (Hint (prods F.cout.tys)) := look (Tl k)
noncomputable abbrev body : Code := Go.Proofs.Try.f25.body.getD .skip
theorem s7 (k : Nat) (x : prods c7.tys) : convexpl_Turn.l7 (k + 1) x.1 x.2.1 x.2.2.1 x.2.2.2.1 x.2.2.2.2.1 x.2.2.2.2.2.1 x.2.2.2.2.2.2.1 x.2.2.2.2.2.2.2.1 x.2.2.2.2.2.2.2.2.1 x.2.2.2.2.2.2.2.2.2 = segK (Γ k) F (T k) body 7 (c7.st x) := by kernel_rfl
theorem main (k : Nat) (x : prods (con 0).cin.tys) : convexpl_Turn.f k x = goK (Γ k) F (T k) 2000 [.code body] ((con 0).cin.st x) := by kernel_rfl
theorem okΓ (k : Nat) : ΓOk Go.Proofs.Try.prog (Γ k) := Γcons (convexpl_Check.ok k) ⟨Go.Proofs.Try.f51, by kernel_rfl, by kernel_rfl, by kernel_rfl⟩ (Γcons (convexpl_high.ok k) ⟨Go.Proofs.Try.f52, by kernel_rfl, by kernel_rfl, by kernel_rfl⟩ (Γcons (convexpl_made.ok k) ⟨Go.Proofs.Try.f53, by kernel_rfl, by kernel_rfl, by kernel_rfl⟩ (Γcons (convexpl_value.ok k) ⟨Go.Proofs.Try.f54, by kernel_rfl, by kernel_rfl, by kernel_rfl⟩ (Γnil))))
theorem ok (k : Nat) : ConSound Go.Proofs.Try.prog 25 (con k) := con_sound (Γ := Γ) (fn := Go.Proofs.Try.f25) (body := body) (cin := (con 0).cin) (F := F) (T := T) follows (by kernel_rfl) (by kernel_rfl) (by kernel_rfl) (by kernel_rfl) (by kernel_rfl) (by decide +kernel) (by kernel_rfl) (by kernel_rfl) (tzero ⟨fun x => rfl, trivial⟩) k (fun m _ => okΓ m) (fun m _ => tstep ⟨fun x => s7 m x, trivial⟩) (fun x y h => (main k x).symm.trans h)
end convexpl_Turn
namespace slices_Clone_api_ConvexPiece
noncomputable abbrev con (k : Nat) : Con := ⟨⟨[(0, .l (.val (.list 60 Y0)))], []⟩, ⟨[(0, .l (.row 0))], [(0, .row 60 Y0)]⟩, fun x => slices_Clone_api_ConvexPiece.f k x⟩
noncomputable abbrev Γ (k : Nat) : FuncId → Option Con := look []
abbrev F : Fin Go.Proofs.Try.prog := ⟨⟨[(0, .l (.row 0))], [(0, .row 60 Y0)]⟩, [], [.tmp 2]⟩
noncomputable abbrev Tl (k : Nat) : List (Nat × Hint (prods F.cout.tys)) := []
noncomputable abbrev T (k : Nat) : Nat → Option (Hint (prods F.cout.tys)) := look (Tl k)
noncomputable abbrev body : Code := Go.Proofs.Try.f58.body.getD .skip
theorem main (k : Nat) (x : prods (con 0).cin.tys) : slices_Clone_api_ConvexPiece.f k x = goK (Γ k) F (T k) 2000 [.code body] ((con 0).cin.st x) := by kernel_rfl
theorem okΓ (k : Nat) : ΓOk Go.Proofs.Try.prog (Γ k) := Γnil
theorem ok (k : Nat) : ConSound Go.Proofs.Try.prog 58 (con k) := con_sound (Γ := Γ) (fn := Go.Proofs.Try.f58) (body := body) (cin := (con 0).cin) (F := F) (T := T) follows (by kernel_rfl) (by kernel_rfl) (by kernel_rfl) (by kernel_rfl) (by kernel_rfl) (by decide +kernel) (by kernel_rfl) (by kernel_rfl) (tzero trivial) k (fun m _ => okΓ m) (fun m _ => tstep trivial) (fun x y h => (main k x).symm.trans h)
end slices_Clone_api_ConvexPiece
namespace convexpl_Move
noncomputable abbrev con (k : Nat) : Con := ⟨⟨[(0, .av Y3), (1, .l (.val (.int .i64))), (2, .l (.val (.int .i64)))], []⟩, ⟨[(0, .av Y3), (1, .l (.val (.int .i64)))], []⟩, fun x => convexpl_Move.f k x.1 x.2.1 x.2.2⟩
noncomputable abbrev Γ (k : Nat) : FuncId → Option Con := look [(51, convexpl_Check.con k), (53, convexpl_made.con k), (58, slices_Clone_api_ConvexPiece.con k)]
abbrev F : Fin Go.Proofs.Try.prog := ⟨⟨[(0, .av Y3), (1, .l (.val (.int .i64)))], []⟩, [], [.cell 6 32, .tmp 7]⟩
noncomputable abbrev Tl (k : Nat) : List (Nat × Hint (prods F.cout.tys)) := []
noncomputable abbrev T (k : Nat) : Nat → Option (Hint (prods F.cout.tys)) := look (Tl k)
noncomputable abbrev body : Code := Go.Proofs.Try.f27.body.getD .skip
theorem main (k : Nat) (x : prods (con 0).cin.tys) : convexpl_Move.f k x.1 x.2.1 x.2.2 = goK (Γ k) F (T k) 2000 [.code body] ((con 0).cin.st x) := by kernel_rfl
theorem okΓ (k : Nat) : ΓOk Go.Proofs.Try.prog (Γ k) := Γcons (convexpl_Check.ok k) ⟨Go.Proofs.Try.f51, by kernel_rfl, by kernel_rfl, by kernel_rfl⟩ (Γcons (convexpl_made.ok k) ⟨Go.Proofs.Try.f53, by kernel_rfl, by kernel_rfl, by kernel_rfl⟩ (Γcons (slices_Clone_api_ConvexPiece.ok k) ⟨Go.Proofs.Try.f58, by kernel_rfl, by kernel_rfl, by kernel_rfl⟩ (Γnil)))
theorem ok (k : Nat) : ConSound Go.Proofs.Try.prog 27 (con k) := con_sound (Γ := Γ) (fn := Go.Proofs.Try.f27) (body := body) (cin := (con 0).cin) (F := F) (T := T) follows (by kernel_rfl) (by kernel_rfl) (by kernel_rfl) (by kernel_rfl) (by kernel_rfl) (by decide +kernel) (by kernel_rfl) (by kernel_rfl) (tzero trivial) k (fun m _ => okΓ m) (fun m _ => tstep trivial) (fun x y h => (main k x).symm.trans h)
end convexpl_Move
namespace slices_Equal_api_ConvexPiece
noncomputable abbrev con (k : Nat) : Con := ⟨⟨[(0, .l (.val (.list 60 Y0))), (1, .l (.val (.list 60 Y0)))], []⟩, ⟨[(0, .l (.val .bool))], []⟩, fun x => slices_Equal_api_ConvexPiece.f k x.1 x.2⟩
noncomputable abbrev Γ (k : Nat) : FuncId → Option Con := look []
abbrev F : Fin Go.Proofs.Try.prog := ⟨⟨[(0, .l (.val .bool))], []⟩, [], [.tmp 4]⟩
abbrev c4 : Cut := ⟨[(0, .l (.val (.list 60 Y0))), (1, .l (.val (.list 60 Y0))), (12, .l (.val (.int .i64))), (13, .l (.val (.int .i64)))], []⟩
noncomputable abbrev Tl (k : Nat) : List (Nat × Hint (prods F.cout.tys)) := [(4, ⟨c4, fun x => slices_Equal_api_ConvexPiece.l4 k x.1 x.2.1 x.2.2.1 x.2.2.2⟩)]
noncomputable abbrev T (k : Nat) : Nat → Option (Hint (prods F.cout.tys)) := look (Tl k)
noncomputable abbrev body : Code := Go.Proofs.Try.f59.body.getD .skip
theorem s4 (k : Nat) (x : prods c4.tys) : slices_Equal_api_ConvexPiece.l4 (k + 1) x.1 x.2.1 x.2.2.1 x.2.2.2 = segK (Γ k) F (T k) body 4 (c4.st x) := by kernel_rfl
theorem main (k : Nat) (x : prods (con 0).cin.tys) : slices_Equal_api_ConvexPiece.f k x.1 x.2 = goK (Γ k) F (T k) 2000 [.code body] ((con 0).cin.st x) := by kernel_rfl
theorem okΓ (k : Nat) : ΓOk Go.Proofs.Try.prog (Γ k) := Γnil
theorem ok (k : Nat) : ConSound Go.Proofs.Try.prog 59 (con k) := con_sound (Γ := Γ) (fn := Go.Proofs.Try.f59) (body := body) (cin := (con 0).cin) (F := F) (T := T) follows (by kernel_rfl) (by kernel_rfl) (by kernel_rfl) (by kernel_rfl) (by kernel_rfl) (by decide +kernel) (by kernel_rfl) (by kernel_rfl) (tzero ⟨fun x => rfl, trivial⟩) k (fun m _ => okΓ m) (fun m _ => tstep ⟨fun x => s4 m x, trivial⟩) (fun x y h => (main k x).symm.trans h)
end slices_Equal_api_ConvexPiece
namespace gridhallkeep3_sameConvex
noncomputable abbrev con (k : Nat) : Con := ⟨⟨[(0, .av Y3), (1, .av Y3)], []⟩, ⟨[(0, .l (.val .bool))], []⟩, fun x => gridhallkeep3_sameConvex.f k x.1 x.2⟩
noncomputable abbrev Γ (k : Nat) : FuncId → Option Con := look [(59, slices_Equal_api_ConvexPiece.con k)]
abbrev F : Fin Go.Proofs.Try.prog := ⟨⟨[(0, .l (.val .bool))], []⟩, [], [.tmp 4]⟩
noncomputable abbrev Tl (k : Nat) : List (Nat × Hint (prods F.cout.tys)) := []
noncomputable abbrev T (k : Nat) : Nat → Option (Hint (prods F.cout.tys)) := look (Tl k)
noncomputable abbrev body : Code := Go.Proofs.Try.f28.body.getD .skip
theorem main (k : Nat) (x : prods (con 0).cin.tys) : gridhallkeep3_sameConvex.f k x.1 x.2 = goK (Γ k) F (T k) 2000 [.code body] ((con 0).cin.st x) := by kernel_rfl
theorem okΓ (k : Nat) : ΓOk Go.Proofs.Try.prog (Γ k) := Γcons (slices_Equal_api_ConvexPiece.ok k) ⟨Go.Proofs.Try.f59, by kernel_rfl, by kernel_rfl, by kernel_rfl⟩ (Γnil)
theorem ok (k : Nat) : ConSound Go.Proofs.Try.prog 28 (con k) := con_sound (Γ := Γ) (fn := Go.Proofs.Try.f28) (body := body) (cin := (con 0).cin) (F := F) (T := T) follows (by kernel_rfl) (by kernel_rfl) (by kernel_rfl) (by kernel_rfl) (by kernel_rfl) (by decide +kernel) (by kernel_rfl) (by kernel_rfl) (tzero trivial) k (fun m _ => okΓ m) (fun m _ => tstep trivial) (fun x y h => (main k x).symm.trans h)
end gridhallkeep3_sameConvex
namespace gridhallkeep3_ConvexTurns
noncomputable abbrev con (k : Nat) : Con := ⟨⟨[(0, .av Y3), (1, .l (.val (.int .i64))), (2, .l (.val (.int .i64)))], []⟩, ⟨[(0, .l (.val .bool))], []⟩, fun x => gridhallkeep3_ConvexTurns.f k x.1 x.2.1 x.2.2⟩
noncomputable abbrev Γ (k : Nat) : FuncId → Option Con := look [(24, gridhallkeep3_fine.con k), (25, convexpl_Turn.con k), (26, gridhallkeep3_rises.con k), (27, convexpl_Move.con k), (28, gridhallkeep3_sameConvex.con k)]
abbrev F : Fin Go.Proofs.Try.prog := ⟨⟨[(0, .l (.val .bool))], []⟩, [], [.tmp 6]⟩
noncomputable abbrev Tl (k : Nat) : List (Nat × Hint (prods F.cout.tys)) := []
noncomputable abbrev T (k : Nat) : Nat → Option (Hint (prods F.cout.tys)) := look (Tl k)
noncomputable abbrev body : Code := Go.Proofs.Try.f5.body.getD .skip
theorem main (k : Nat) (x : prods (con 0).cin.tys) : gridhallkeep3_ConvexTurns.f k x.1 x.2.1 x.2.2 = goK (Γ k) F (T k) 2000 [.code body] ((con 0).cin.st x) := by kernel_rfl
theorem okΓ (k : Nat) : ΓOk Go.Proofs.Try.prog (Γ k) := Γcons (gridhallkeep3_fine.ok k) ⟨Go.Proofs.Try.f24, by kernel_rfl, by kernel_rfl, by kernel_rfl⟩ (Γcons (convexpl_Turn.ok k) ⟨Go.Proofs.Try.f25, by kernel_rfl, by kernel_rfl, by kernel_rfl⟩ (Γcons (gridhallkeep3_rises.ok k) ⟨Go.Proofs.Try.f26, by kernel_rfl, by kernel_rfl, by kernel_rfl⟩ (Γcons (convexpl_Move.ok k) ⟨Go.Proofs.Try.f27, by kernel_rfl, by kernel_rfl, by kernel_rfl⟩ (Γcons (gridhallkeep3_sameConvex.ok k) ⟨Go.Proofs.Try.f28, by kernel_rfl, by kernel_rfl, by kernel_rfl⟩ (Γnil)))))
theorem ok (k : Nat) : ConSound Go.Proofs.Try.prog 5 (con k) := con_sound (Γ := Γ) (fn := Go.Proofs.Try.f5) (body := body) (cin := (con 0).cin) (F := F) (T := T) follows (by kernel_rfl) (by kernel_rfl) (by kernel_rfl) (by kernel_rfl) (by kernel_rfl) (by decide +kernel) (by kernel_rfl) (by kernel_rfl) (tzero trivial) k (fun m _ => okΓ m) (fun m _ => tstep trivial) (fun x y h => (main k x).symm.trans h)
end gridhallkeep3_ConvexTurns
namespace convexpl_Conjugate
noncomputable abbrev con (k : Nat) : Con := ⟨⟨[(0, .av Y3), (1, .l (.val (.int .i64)))], []⟩, ⟨[(0, .l (.val (.int .i64))), (1, .l (.val (.int .i64)))], []⟩, fun x => convexpl_Conjugate.f k x.1 x.2⟩
noncomputable abbrev Γ (k : Nat) : FuncId → Option Con := look [(51, convexpl_Check.con k)]
abbrev F : Fin Go.Proofs.Try.prog := ⟨⟨[(0, .l (.val (.int .i64))), (1, .l (.val (.int .i64)))], []⟩, [], [.tmp 4, .tmp 5]⟩
abbrev c8 : Cut := ⟨[(1, .l (.val (.int .i64))), (7, .l (.val (.int .i64))), (8, .l (.val (.int .i64))), (27, .l (.val (.list 60 Y0))), (28, .l (.val (.int .i64))), (29, .l (.val (.int .i64)))], []⟩
noncomputable abbrev Tl (k : Nat) : List (Nat × Hint (prods F.cout.tys)) := [(8, ⟨c8, fun x => convexpl_Conjugate.l8 k x.1 x.2.1 x.2.2.1 x.2.2.2.1 x.2.2.2.2.1 x.2.2.2.2.2⟩)]
noncomputable abbrev T (k : Nat) : Nat → Option (Hint (prods F.cout.tys)) := look (Tl k)
noncomputable abbrev body : Code := Go.Proofs.Try.f29.body.getD .skip
theorem s8 (k : Nat) (x : prods c8.tys) : convexpl_Conjugate.l8 (k + 1) x.1 x.2.1 x.2.2.1 x.2.2.2.1 x.2.2.2.2.1 x.2.2.2.2.2 = segK (Γ k) F (T k) body 8 (c8.st x) := by kernel_rfl
theorem main (k : Nat) (x : prods (con 0).cin.tys) : convexpl_Conjugate.f k x.1 x.2 = goK (Γ k) F (T k) 2000 [.code body] ((con 0).cin.st x) := by kernel_rfl
theorem okΓ (k : Nat) : ΓOk Go.Proofs.Try.prog (Γ k) := Γcons (convexpl_Check.ok k) ⟨Go.Proofs.Try.f51, by kernel_rfl, by kernel_rfl, by kernel_rfl⟩ (Γnil)
theorem ok (k : Nat) : ConSound Go.Proofs.Try.prog 29 (con k) := con_sound (Γ := Γ) (fn := Go.Proofs.Try.f29) (body := body) (cin := (con 0).cin) (F := F) (T := T) follows (by kernel_rfl) (by kernel_rfl) (by kernel_rfl) (by kernel_rfl) (by kernel_rfl) (by decide +kernel) (by kernel_rfl) (by kernel_rfl) (tzero ⟨fun x => rfl, trivial⟩) k (fun m _ => okΓ m) (fun m _ => tstep ⟨fun x => s8 m x, trivial⟩) (fun x y h => (main k x).symm.trans h)
end convexpl_Conjugate
namespace convexpl_both
noncomputable abbrev con (k : Nat) : Con := ⟨⟨[(0, .av Y3), (1, .av Y3)], []⟩, ⟨[(0, .l (.val (.int .i64)))], []⟩, fun x => convexpl_both.f k x.1 x.2⟩
noncomputable abbrev Γ (k : Nat) : FuncId → Option Con := look [(51, convexpl_Check.con k)]
abbrev F : Fin Go.Proofs.Try.prog := ⟨⟨[(0, .l (.val (.int .i64)))], []⟩, [], [.tmp 4]⟩
noncomputable abbrev Tl (k : Nat) : List (Nat × Hint (prods F.cout.tys)) := []
noncomputable abbrev T (k : Nat) : Nat → Option (Hint (prods F.cout.tys)) := look (Tl k)
noncomputable abbrev body : Code := Go.Proofs.Try.f60.body.getD .skip
theorem main (k : Nat) (x : prods (con 0).cin.tys) : convexpl_both.f k x.1 x.2 = goK (Γ k) F (T k) 2000 [.code body] ((con 0).cin.st x) := by kernel_rfl
theorem okΓ (k : Nat) : ΓOk Go.Proofs.Try.prog (Γ k) := Γcons (convexpl_Check.ok k) ⟨Go.Proofs.Try.f51, by kernel_rfl, by kernel_rfl, by kernel_rfl⟩ (Γnil)
theorem ok (k : Nat) : ConSound Go.Proofs.Try.prog 60 (con k) := con_sound (Γ := Γ) (fn := Go.Proofs.Try.f60) (body := body) (cin := (con 0).cin) (F := F) (T := T) follows (by kernel_rfl) (by kernel_rfl) (by kernel_rfl) (by kernel_rfl) (by kernel_rfl) (by decide +kernel) (by kernel_rfl) (by kernel_rfl) (tzero trivial) k (fun m _ => okΓ m) (fun m _ => tstep trivial) (fun x y h => (main k x).symm.trans h)
end convexpl_both
namespace slices_Grow_api_ConvexPiece
noncomputable abbrev con (k : Nat) : Con := ⟨⟨[(0, .l (.nils)), (1, .l (.val (.int .i64)))], []⟩, ⟨[(0, .l (.row 0))], [(0, .row 60 Y0)]⟩, fun x => slices_Grow_api_ConvexPiece.f k x⟩
noncomputable abbrev Γ (k : Nat) : FuncId → Option Con := look []
abbrev F : Fin Go.Proofs.Try.prog := ⟨⟨[(0, .l (.row 0))], [(0, .row 60 Y0)]⟩, [], [.tmp 4]⟩
abbrev c3 : Cut := ⟨[(0, .l (.nils)), (1, .l (.val (.int .i64)))], []⟩
noncomputable abbrev Tl (k : Nat) : List (Nat × Hint (prods F.cout.tys)) := [(3, ⟨c3, fun x => slices_Grow_api_ConvexPiece.l3 k x⟩)]
noncomputable abbrev T (k : Nat) : Nat → Option (Hint (prods F.cout.tys)) := look (Tl k)
noncomputable abbrev body : Code := Go.Proofs.Try.f83.body.getD .skip
theorem s3 (k : Nat) (x : prods c3.tys) : slices_Grow_api_ConvexPiece.l3 (k + 1) x = segK (Γ k) F (T k) body 3 (c3.st x) := by kernel_rfl
theorem main (k : Nat) (x : prods (con 0).cin.tys) : slices_Grow_api_ConvexPiece.f k x = goK (Γ k) F (T k) 2000 [.code body] ((con 0).cin.st x) := by kernel_rfl
theorem okΓ (k : Nat) : ΓOk Go.Proofs.Try.prog (Γ k) := Γnil
theorem ok (k : Nat) : ConSound Go.Proofs.Try.prog 83 (con k) := con_sound (Γ := Γ) (fn := Go.Proofs.Try.f83) (body := body) (cin := (con 0).cin) (F := F) (T := T) follows (by kernel_rfl) (by kernel_rfl) (by kernel_rfl) (by kernel_rfl) (by kernel_rfl) (by decide +kernel) (by kernel_rfl) (by kernel_rfl) (tzero ⟨fun x => rfl, trivial⟩) k (fun m _ => okΓ m) (fun m _ => tstep ⟨fun x => s3 m x, trivial⟩) (fun x y h => (main k x).symm.trans h)
end slices_Grow_api_ConvexPiece
namespace slices_Concat_api_ConvexPiece
noncomputable abbrev con (k : Nat) : Con := ⟨⟨[(0, .l (.val (.list 30 (.list 60 Y0))))], []⟩, ⟨[(0, .l (.row 0))], [(0, .row 60 Y0)]⟩, fun x => slices_Concat_api_ConvexPiece.f k x⟩
noncomputable abbrev Γ (k : Nat) : FuncId → Option Con := look [(83, slices_Grow_api_ConvexPiece.con k)]
abbrev F : Fin Go.Proofs.Try.prog := ⟨⟨[(0, .l (.row 0))], [(0, .row 60 Y0)]⟩, [], [.tmp 2]⟩
abbrev c3 : Cut := ⟨[(0, .l (.val (.list 30 (.list 60 Y0)))), (3, .l (.val (.int .i64))), (9, .l (.val (.list 30 (.list 60 Y0)))), (10, .l (.val (.int .i64))), (11, .l (.val (.int .i64)))], []⟩
abbrev c11 : Cut := ⟨[(6, .l (.row 7000000)), (25, .l (.val (.list 30 (.list 60 Y0)))), (26, .l (.val (.int .i64))), (27, .l (.val (.int .i64)))], [(7000000, .row 60 Y0)]⟩
noncomputable abbrev Tl (k : Nat) : List (Nat × Hint (prods F.cout.tys)) := [(3, ⟨c3, fun x => slices_Concat_api_ConvexPiece.l3 k x.1 x.2.1 x.2.2.1 x.2.2.2.1 x.2.2.2.2⟩), (11, ⟨c11, fun x => slices_Concat_api_ConvexPiece.l11 k x.1 x.2.1 x.2.2.1 x.2.2.2⟩)]
noncomputable abbrev T (k : Nat) : Nat → Option (Hint (prods F.cout.tys)) := look (Tl k)
noncomputable abbrev body : Code := Go.Proofs.Try.f61.body.getD .skip
theorem s3 (k : Nat) (x : prods c3.tys) : slices_Concat_api_ConvexPiece.l3 (k + 1) x.1 x.2.1 x.2.2.1 x.2.2.2.1 x.2.2.2.2 = segK (Γ k) F (T k) body 3 (c3.st x) := by kernel_rfl
theorem s11 (k : Nat) (x : prods c11.tys) : slices_Concat_api_ConvexPiece.l11 (k + 1) x.1 x.2.1 x.2.2.1 x.2.2.2 = segK (Γ k) F (T k) body 11 (c11.st x) := by kernel_rfl
theorem main (k : Nat) (x : prods (con 0).cin.tys) : slices_Concat_api_ConvexPiece.f k x = goK (Γ k) F (T k) 2000 [.code body] ((con 0).cin.st x) := by kernel_rfl
theorem okΓ (k : Nat) : ΓOk Go.Proofs.Try.prog (Γ k) := Γcons (slices_Grow_api_ConvexPiece.ok k) ⟨Go.Proofs.Try.f83, by kernel_rfl, by kernel_rfl, by kernel_rfl⟩ (Γnil)
theorem ok (k : Nat) : ConSound Go.Proofs.Try.prog 61 (con k) := con_sound (Γ := Γ) (fn := Go.Proofs.Try.f61) (body := body) (cin := (con 0).cin) (F := F) (T := T) follows (by kernel_rfl) (by kernel_rfl) (by kernel_rfl) (by kernel_rfl) (by kernel_rfl) (by decide +kernel) (by kernel_rfl) (by kernel_rfl) (tzero ⟨fun x => rfl, fun x => rfl, trivial⟩) k (fun m _ => okΓ m) (fun m _ => tstep ⟨fun x => s3 m x, fun x => s11 m x, trivial⟩) (fun x y h => (main k x).symm.trans h)
end slices_Concat_api_ConvexPiece
namespace convexpl_Convolve
noncomputable abbrev con (k : Nat) : Con := ⟨⟨[(0, .av Y3), (1, .av Y3)], []⟩, ⟨[(0, .av Y3), (1, .l (.val (.int .i64)))], []⟩, fun x => convexpl_Convolve.f k x.1 x.2⟩
noncomputable abbrev Γ (k : Nat) : FuncId → Option Con := look [(53, convexpl_made.con k), (60, convexpl_both.con k), (61, slices_Concat_api_ConvexPiece.con k)]
abbrev F : Fin Go.Proofs.Try.prog := ⟨⟨[(0, .av Y3), (1, .l (.val (.int .i64)))], []⟩, [], [.cell 4 32, .tmp 5]⟩
noncomputable abbrev Tl (k : Nat) : List (Nat × Hint (prods F.cout.tys)) := []
noncomputable abbrev T (k : Nat) : Nat → Option (Hint (prods F.cout.tys)) := look (Tl k)
noncomputable abbrev body : Code := Go.Proofs.Try.f30.body.getD .skip
theorem main (k : Nat) (x : prods (con 0).cin.tys) : convexpl_Convolve.f k x.1 x.2 = goK (Γ k) F (T k) 2000 [.code body] ((con 0).cin.st x) := by kernel_rfl
theorem okΓ (k : Nat) : ΓOk Go.Proofs.Try.prog (Γ k) := Γcons (convexpl_made.ok k) ⟨Go.Proofs.Try.f53, by kernel_rfl, by kernel_rfl, by kernel_rfl⟩ (Γcons (convexpl_both.ok k) ⟨Go.Proofs.Try.f60, by kernel_rfl, by kernel_rfl, by kernel_rfl⟩ (Γcons (slices_Concat_api_ConvexPiece.ok k) ⟨Go.Proofs.Try.f61, by kernel_rfl, by kernel_rfl, by kernel_rfl⟩ (Γnil)))
theorem ok (k : Nat) : ConSound Go.Proofs.Try.prog 30 (con k) := con_sound (Γ := Γ) (fn := Go.Proofs.Try.f30) (body := body) (cin := (con 0).cin) (F := F) (T := T) follows (by kernel_rfl) (by kernel_rfl) (by kernel_rfl) (by kernel_rfl) (by kernel_rfl) (by decide +kernel) (by kernel_rfl) (by kernel_rfl) (tzero trivial) k (fun m _ => okΓ m) (fun m _ => tstep trivial) (fun x y h => (main k x).symm.trans h)
end convexpl_Convolve
namespace gridhallkeep3_ConvexFenchel
noncomputable abbrev con (k : Nat) : Con := ⟨⟨[(0, .av Y3), (1, .av Y3), (2, .l (.val (.int .i64))), (3, .l (.val (.int .i64)))], []⟩, ⟨[(0, .l (.val .bool))], []⟩, fun x => gridhallkeep3_ConvexFenchel.f k x.1 x.2.1 x.2.2.1 x.2.2.2⟩
noncomputable abbrev Γ (k : Nat) : FuncId → Option Con := look [(19, gridhallkeep3_slopes.con k), (23, convexpl_At.con k), (24, gridhallkeep3_fine.con k), (26, gridhallkeep3_rises.con k), (29, convexpl_Conjugate.con k), (30, convexpl_Convolve.con k)]
abbrev F : Fin Go.Proofs.Try.prog := ⟨⟨[(0, .l (.val .bool))], []⟩, [], [.tmp 8]⟩
noncomputable abbrev Tl (k : Nat) : List (Nat × Hint (prods F.cout.tys)) := []
noncomputable abbrev T (k : Nat) : Nat → Option (Hint (prods F.cout.tys)) := look (Tl k)
noncomputable abbrev body : Code := Go.Proofs.Try.f6.body.getD .skip
theorem main (k : Nat) (x : prods (con 0).cin.tys) : gridhallkeep3_ConvexFenchel.f k x.1 x.2.1 x.2.2.1 x.2.2.2 = goK (Γ k) F (T k) 2000 [.code body] ((con 0).cin.st x) := by kernel_rfl
theorem okΓ (k : Nat) : ΓOk Go.Proofs.Try.prog (Γ k) := Γcons (gridhallkeep3_slopes.ok k) ⟨Go.Proofs.Try.f19, by kernel_rfl, by kernel_rfl, by kernel_rfl⟩ (Γcons (convexpl_At.ok k) ⟨Go.Proofs.Try.f23, by kernel_rfl, by kernel_rfl, by kernel_rfl⟩ (Γcons (gridhallkeep3_fine.ok k) ⟨Go.Proofs.Try.f24, by kernel_rfl, by kernel_rfl, by kernel_rfl⟩ (Γcons (gridhallkeep3_rises.ok k) ⟨Go.Proofs.Try.f26, by kernel_rfl, by kernel_rfl, by kernel_rfl⟩ (Γcons (convexpl_Conjugate.ok k) ⟨Go.Proofs.Try.f29, by kernel_rfl, by kernel_rfl, by kernel_rfl⟩ (Γcons (convexpl_Convolve.ok k) ⟨Go.Proofs.Try.f30, by kernel_rfl, by kernel_rfl, by kernel_rfl⟩ (Γnil))))))
theorem ok (k : Nat) : ConSound Go.Proofs.Try.prog 6 (con k) := con_sound (Γ := Γ) (fn := Go.Proofs.Try.f6) (body := body) (cin := (con 0).cin) (F := F) (T := T) follows (by kernel_rfl) (by kernel_rfl) (by kernel_rfl) (by kernel_rfl) (by kernel_rfl) (by decide +kernel) (by kernel_rfl) (by kernel_rfl) (tzero trivial) k (fun m _ => okΓ m) (fun m _ => tstep trivial) (fun x y h => (main k x).symm.trans h)
end gridhallkeep3_ConvexFenchel
namespace gridhallkeep3_two
noncomputable abbrev con (k : Nat) : Con := ⟨⟨[(0, .l (.val .str))], []⟩, ⟨[(0, .av Y1)], []⟩, fun x => gridhallkeep3_two.f k x⟩
noncomputable abbrev Γ (k : Nat) : FuncId → Option Con := look []
abbrev F : Fin Go.Proofs.Try.prog := ⟨⟨[(0, .av Y1)], []⟩, [], [.cell 2 49]⟩
noncomputable abbrev Tl (k : Nat) : List (Nat × Hint (prods F.cout.tys)) := []
noncomputable abbrev T (k : Nat) : Nat → Option (Hint (prods F.cout.tys)) := look (Tl k)
noncomputable abbrev body : Code := Go.Proofs.Try.f32.body.getD .skip
theorem main (k : Nat) (x : prods (con 0).cin.tys) : gridhallkeep3_two.f k x = goK (Γ k) F (T k) 2000 [.code body] ((con 0).cin.st x) := by kernel_rfl
theorem okΓ (k : Nat) : ΓOk Go.Proofs.Try.prog (Γ k) := Γnil
theorem ok (k : Nat) : ConSound Go.Proofs.Try.prog 32 (con k) := con_sound (Γ := Γ) (fn := Go.Proofs.Try.f32) (body := body) (cin := (con 0).cin) (F := F) (T := T) follows (by kernel_rfl) (by kernel_rfl) (by kernel_rfl) (by kernel_rfl) (by kernel_rfl) (by decide +kernel) (by kernel_rfl) (by kernel_rfl) (tzero trivial) k (fun m _ => okΓ m) (fun m _ => tstep trivial) (fun x y h => (main k x).symm.trans h)
end gridhallkeep3_two
namespace offer_named
noncomputable abbrev con (k : Nat) : Con := ⟨⟨[(0, .l (.val .str))], []⟩, ⟨[(0, .l (.val .bool))], []⟩, fun x => offer_named.f k x⟩
noncomputable abbrev Γ (k : Nat) : FuncId → Option Con := look []
abbrev F : Fin Go.Proofs.Try.prog := ⟨⟨[(0, .l (.val .bool))], []⟩, [], [.tmp 2]⟩
abbrev c4 : Cut := ⟨[(0, .l (.val .str)), (22, .l (.val (.int .i64))), (23, .l (.val (.int .i64)))], []⟩
noncomputable abbrev Tl (k : Nat) : List (Nat × Hint (prods F.cout.tys)) := [(4, ⟨c4, fun x => offer_named.l4 k x.1 x.2.1 x.2.2⟩)]
noncomputable abbrev T (k : Nat) : Nat → Option (Hint (prods F.cout.tys)) := look (Tl k)
noncomputable abbrev body : Code := Go.Proofs.Try.f84.body.getD .skip
theorem s4 (k : Nat) (x : prods c4.tys) : offer_named.l4 (k + 1) x.1 x.2.1 x.2.2 = segK (Γ k) F (T k) body 4 (c4.st x) := by kernel_rfl
theorem main (k : Nat) (x : prods (con 0).cin.tys) : offer_named.f k x = goK (Γ k) F (T k) 2000 [.code body] ((con 0).cin.st x) := by kernel_rfl
theorem okΓ (k : Nat) : ΓOk Go.Proofs.Try.prog (Γ k) := Γnil
theorem ok (k : Nat) : ConSound Go.Proofs.Try.prog 84 (con k) := con_sound (Γ := Γ) (fn := Go.Proofs.Try.f84) (body := body) (cin := (con 0).cin) (F := F) (T := T) follows (by kernel_rfl) (by kernel_rfl) (by kernel_rfl) (by kernel_rfl) (by kernel_rfl) (by decide +kernel) (by kernel_rfl) (by kernel_rfl) (tzero ⟨fun x => rfl, trivial⟩) k (fun m _ => okΓ m) (fun m _ => tstep ⟨fun x => s4 m x, trivial⟩) (fun x y h => (main k x).symm.trans h)
end offer_named
namespace offer_Check
noncomputable abbrev con (k : Nat) : Con := ⟨⟨[(0, .av Y1)], []⟩, ⟨[(0, .l (.val (.int .i64)))], []⟩, fun x => offer_Check.f k x⟩
noncomputable abbrev Γ (k : Nat) : FuncId → Option Con := look [(84, offer_named.con k)]
abbrev F : Fin Go.Proofs.Try.prog := ⟨⟨[(0, .l (.val (.int .i64)))], []⟩, [], [.tmp 2]⟩
abbrev c7 : Cut := ⟨[(1, .l (.ptr 7000000 0)), (3, .l (.val (.int .i64))), (15, .l (.val (.list 99 Y0))), (16, .l (.val (.int .i64))), (17, .l (.val (.int .i64)))], [(7000000, .box 49 [.val .str, .val (.list 99 Y0)])]⟩
noncomputable abbrev Tl (k : Nat) : List (Nat × Hint (prods F.cout.tys)) := [(7, ⟨c7, fun x => offer_Check.l7 k x.1 x.2.1 x.2.2.1 x.2.2.2.1 x.2.2.2.2.1 x.2.2.2.2.2⟩)]
noncomputable abbrev T (k : Nat) : Nat → Option (Hint (prods F.cout.tys)) := look (Tl k)
noncomputable abbrev body : Code := Go.Proofs.Try.f62.body.getD .skip
theorem s7 (k : Nat) (x : prods c7.tys) : offer_Check.l7 (k + 1) x.1 x.2.1 x.2.2.1 x.2.2.2.1 x.2.2.2.2.1 x.2.2.2.2.2 = segK (Γ k) F (T k) body 7 (c7.st x) := by kernel_rfl
theorem main (k : Nat) (x : prods (con 0).cin.tys) : offer_Check.f k x = goK (Γ k) F (T k) 2000 [.code body] ((con 0).cin.st x) := by kernel_rfl
theorem okΓ (k : Nat) : ΓOk Go.Proofs.Try.prog (Γ k) := Γcons (offer_named.ok k) ⟨Go.Proofs.Try.f84, by kernel_rfl, by kernel_rfl, by kernel_rfl⟩ (Γnil)
theorem ok (k : Nat) : ConSound Go.Proofs.Try.prog 62 (con k) := con_sound (Γ := Γ) (fn := Go.Proofs.Try.f62) (body := body) (cin := (con 0).cin) (F := F) (T := T) follows (by kernel_rfl) (by kernel_rfl) (by kernel_rfl) (by kernel_rfl) (by kernel_rfl) (by decide +kernel) (by kernel_rfl) (by kernel_rfl) (tzero ⟨fun x => rfl, trivial⟩) k (fun m _ => okΓ m) (fun m _ => tstep ⟨fun x => s7 m x, trivial⟩) (fun x y h => (main k x).symm.trans h)
end offer_Check
namespace convexpl_Of
noncomputable abbrev con (k : Nat) : Con := ⟨⟨[(0, .av Y1)], []⟩, ⟨[(0, .av Y3), (1, .l (.val (.int .i64)))], []⟩, fun x => convexpl_Of.f k x⟩
noncomputable abbrev Γ (k : Nat) : FuncId → Option Con := look [(53, convexpl_made.con k), (62, offer_Check.con k)]
abbrev F : Fin Go.Proofs.Try.prog := ⟨⟨[(0, .av Y3), (1, .l (.val (.int .i64)))], []⟩, [], [.cell 2 32, .tmp 3]⟩
abbrev c6 : Cut := ⟨[(2, .l (.ptr 7000000 0)), (5, .l (.row 7000501)), (15, .l (.val (.list 99 Y0))), (16, .l (.val (.int .i64))), (17, .l (.val (.int .i64)))], [(7000000, .box 32 [.val (.int .i64), .val (.int .i64), .nils]), (7000501, .row 60 Y0)]⟩
noncomputable abbrev Tl (k : Nat) : List (Nat × Hint (prods F.cout.tys)) := [(6, ⟨c6, fun x => convexpl_Of.l6 k x.1 x.2.1 x.2.2.1 x.2.2.2.1 x.2.2.2.2.1 x.2.2.2.2.2⟩)]
noncomputable abbrev T (k : Nat) : Nat → Option (Hint (prods F.cout.tys)) := look (Tl k)
noncomputable abbrev body : Code := Go.Proofs.Try.f31.body.getD .skip
theorem s6 (k : Nat) (x : prods c6.tys) : convexpl_Of.l6 (k + 1) x.1 x.2.1 x.2.2.1 x.2.2.2.1 x.2.2.2.2.1 x.2.2.2.2.2 = segK (Γ k) F (T k) body 6 (c6.st x) := by kernel_rfl
theorem main (k : Nat) (x : prods (con 0).cin.tys) : convexpl_Of.f k x = goK (Γ k) F (T k) 2000 [.code body] ((con 0).cin.st x) := by kernel_rfl
theorem okΓ (k : Nat) : ΓOk Go.Proofs.Try.prog (Γ k) := Γcons (convexpl_made.ok k) ⟨Go.Proofs.Try.f53, by kernel_rfl, by kernel_rfl, by kernel_rfl⟩ (Γcons (offer_Check.ok k) ⟨Go.Proofs.Try.f62, by kernel_rfl, by kernel_rfl, by kernel_rfl⟩ (Γnil))
theorem ok (k : Nat) : ConSound Go.Proofs.Try.prog 31 (con k) := con_sound (Γ := Γ) (fn := Go.Proofs.Try.f31) (body := body) (cin := (con 0).cin) (F := F) (T := T) follows (by kernel_rfl) (by kernel_rfl) (by kernel_rfl) (by kernel_rfl) (by kernel_rfl) (by decide +kernel) (by kernel_rfl) (by kernel_rfl) (tzero ⟨fun x => rfl, trivial⟩) k (fun m _ => okΓ m) (fun m _ => tstep ⟨fun x => s6 m x, trivial⟩) (fun x y h => (main k x).symm.trans h)
end convexpl_Of
namespace offer_Most
noncomputable abbrev con (k : Nat) : Con := ⟨⟨[(0, .av Y1)], []⟩, ⟨[(0, .l (.val (.int .i64)))], []⟩, fun x => offer_Most.f k x⟩
noncomputable abbrev Γ (k : Nat) : FuncId → Option Con := look []
abbrev F : Fin Go.Proofs.Try.prog := ⟨⟨[(0, .l (.val (.int .i64)))], []⟩, [], [.tmp 2]⟩
abbrev c3 : Cut := ⟨[(3, .l (.val (.int .i64))), (7, .l (.val (.list 99 Y0))), (8, .l (.val (.int .i64))), (9, .l (.val (.int .i64)))], []⟩
noncomputable abbrev Tl (k : Nat) : List (Nat × Hint (prods F.cout.tys)) := [(3, ⟨c3, fun x => offer_Most.l3 k x.1 x.2.1 x.2.2.1 x.2.2.2⟩)]
noncomputable abbrev T (k : Nat) : Nat → Option (Hint (prods F.cout.tys)) := look (Tl k)
noncomputable abbrev body : Code := Go.Proofs.Try.f63.body.getD .skip
theorem s3 (k : Nat) (x : prods c3.tys) : offer_Most.l3 (k + 1) x.1 x.2.1 x.2.2.1 x.2.2.2 = segK (Γ k) F (T k) body 3 (c3.st x) := by kernel_rfl
theorem main (k : Nat) (x : prods (con 0).cin.tys) : offer_Most.f k x = goK (Γ k) F (T k) 2000 [.code body] ((con 0).cin.st x) := by kernel_rfl
theorem okΓ (k : Nat) : ΓOk Go.Proofs.Try.prog (Γ k) := Γnil
theorem ok (k : Nat) : ConSound Go.Proofs.Try.prog 63 (con k) := con_sound (Γ := Γ) (fn := Go.Proofs.Try.f63) (body := body) (cin := (con 0).cin) (F := F) (T := T) follows (by kernel_rfl) (by kernel_rfl) (by kernel_rfl) (by kernel_rfl) (by kernel_rfl) (by decide +kernel) (by kernel_rfl) (by kernel_rfl) (tzero ⟨fun x => rfl, trivial⟩) k (fun m _ => okΓ m) (fun m _ => tstep ⟨fun x => s3 m x, trivial⟩) (fun x y h => (main k x).symm.trans h)
end offer_Most
namespace offer_Cost
noncomputable abbrev con (k : Nat) : Con := ⟨⟨[(0, .av Y1), (1, .l (.val (.int .i64)))], []⟩, ⟨[(0, .l (.val (.int .i64))), (1, .l (.val (.int .i64)))], []⟩, fun x => offer_Cost.f k x.1 x.2⟩
noncomputable abbrev Γ (k : Nat) : FuncId → Option Con := look [(62, offer_Check.con k), (63, offer_Most.con k)]
abbrev F : Fin Go.Proofs.Try.prog := ⟨⟨[(0, .l (.val (.int .i64))), (1, .l (.val (.int .i64)))], []⟩, [], [.tmp 4, .tmp 5]⟩
abbrev c8 : Cut := ⟨[(1, .l (.val (.int .i64))), (7, .l (.val (.int .i64))), (25, .l (.val (.list 99 Y0))), (26, .l (.val (.int .i64))), (27, .l (.val (.int .i64)))], []⟩
noncomputable abbrev Tl (k : Nat) : List (Nat × Hint (prods F.cout.tys)) := [(8, ⟨c8, fun x => offer_Cost.l8 k x.1 x.2.1 x.2.2.1 x.2.2.2.1 x.2.2.2.2⟩)]
noncomputable abbrev T (k : Nat) : Nat → Option (Hint (prods F.cout.tys)) := look (Tl k)
noncomputable abbrev body : Code := Go.Proofs.Try.f33.body.getD .skip
theorem s8 (k : Nat) (x : prods c8.tys) : offer_Cost.l8 (k + 1) x.1 x.2.1 x.2.2.1 x.2.2.2.1 x.2.2.2.2 = segK (Γ k) F (T k) body 8 (c8.st x) := by kernel_rfl
theorem main (k : Nat) (x : prods (con 0).cin.tys) : offer_Cost.f k x.1 x.2 = goK (Γ k) F (T k) 2000 [.code body] ((con 0).cin.st x) := by kernel_rfl
theorem okΓ (k : Nat) : ΓOk Go.Proofs.Try.prog (Γ k) := Γcons (offer_Check.ok k) ⟨Go.Proofs.Try.f62, by kernel_rfl, by kernel_rfl, by kernel_rfl⟩ (Γcons (offer_Most.ok k) ⟨Go.Proofs.Try.f63, by kernel_rfl, by kernel_rfl, by kernel_rfl⟩ (Γnil))
theorem ok (k : Nat) : ConSound Go.Proofs.Try.prog 33 (con k) := con_sound (Γ := Γ) (fn := Go.Proofs.Try.f33) (body := body) (cin := (con 0).cin) (F := F) (T := T) follows (by kernel_rfl) (by kernel_rfl) (by kernel_rfl) (by kernel_rfl) (by kernel_rfl) (by decide +kernel) (by kernel_rfl) (by kernel_rfl) (tzero ⟨fun x => rfl, trivial⟩) k (fun m _ => okΓ m) (fun m _ => tstep ⟨fun x => s8 m x, trivial⟩) (fun x y h => (main k x).symm.trans h)
end offer_Cost
namespace gridhallkeep3_ConvexOffer
noncomputable abbrev con (k : Nat) : Con := ⟨⟨[(0, .av Y1), (1, .l (.val (.int .i64)))], []⟩, ⟨[(0, .l (.val .bool))], []⟩, fun x => gridhallkeep3_ConvexOffer.f k x.1 x.2⟩
noncomputable abbrev Γ (k : Nat) : FuncId → Option Con := look [(19, gridhallkeep3_slopes.con k), (23, convexpl_At.con k), (26, gridhallkeep3_rises.con k), (28, gridhallkeep3_sameConvex.con k), (31, convexpl_Of.con k), (32, gridhallkeep3_two.con k), (33, offer_Cost.con k)]
abbrev F : Fin Go.Proofs.Try.prog := ⟨⟨[(0, .l (.val .bool))], []⟩, [], [.tmp 4]⟩
noncomputable abbrev Tl (k : Nat) : List (Nat × Hint (prods F.cout.tys)) := []
noncomputable abbrev T (k : Nat) : Nat → Option (Hint (prods F.cout.tys)) := look (Tl k)
noncomputable abbrev body : Code := Go.Proofs.Try.f7.body.getD .skip
theorem main (k : Nat) (x : prods (con 0).cin.tys) : gridhallkeep3_ConvexOffer.f k x.1 x.2 = goK (Γ k) F (T k) 2000 [.code body] ((con 0).cin.st x) := by kernel_rfl
theorem okΓ (k : Nat) : ΓOk Go.Proofs.Try.prog (Γ k) := Γcons (gridhallkeep3_slopes.ok k) ⟨Go.Proofs.Try.f19, by kernel_rfl, by kernel_rfl, by kernel_rfl⟩ (Γcons (convexpl_At.ok k) ⟨Go.Proofs.Try.f23, by kernel_rfl, by kernel_rfl, by kernel_rfl⟩ (Γcons (gridhallkeep3_rises.ok k) ⟨Go.Proofs.Try.f26, by kernel_rfl, by kernel_rfl, by kernel_rfl⟩ (Γcons (gridhallkeep3_sameConvex.ok k) ⟨Go.Proofs.Try.f28, by kernel_rfl, by kernel_rfl, by kernel_rfl⟩ (Γcons (convexpl_Of.ok k) ⟨Go.Proofs.Try.f31, by kernel_rfl, by kernel_rfl, by kernel_rfl⟩ (Γcons (gridhallkeep3_two.ok k) ⟨Go.Proofs.Try.f32, by kernel_rfl, by kernel_rfl, by kernel_rfl⟩ (Γcons (offer_Cost.ok k) ⟨Go.Proofs.Try.f33, by kernel_rfl, by kernel_rfl, by kernel_rfl⟩ (Γnil)))))))
theorem ok (k : Nat) : ConSound Go.Proofs.Try.prog 7 (con k) := con_sound (Γ := Γ) (fn := Go.Proofs.Try.f7) (body := body) (cin := (con 0).cin) (F := F) (T := T) follows (by kernel_rfl) (by kernel_rfl) (by kernel_rfl) (by kernel_rfl) (by kernel_rfl) (by decide +kernel) (by kernel_rfl) (by kernel_rfl) (tzero trivial) k (fun m _ => okΓ m) (fun m _ => tstep trivial) (fun x y h => (main k x).symm.trans h)
end gridhallkeep3_ConvexOffer
namespace offer_CheckAll
noncomputable abbrev con (k : Nat) : Con := ⟨⟨[(0, .l (.val (.list 49 Y1)))], []⟩, ⟨[(0, .l (.val (.int .i64)))], []⟩, fun x => offer_CheckAll.f k x⟩
noncomputable abbrev Γ (k : Nat) : FuncId → Option Con := look [(62, offer_Check.con k)]
abbrev F : Fin Go.Proofs.Try.prog := ⟨⟨[(0, .l (.val (.int .i64)))], []⟩, [], [.tmp 2]⟩
abbrev c4 : Cut := ⟨[(0, .l (.val (.list 49 Y1))), (11, .l (.val (.list 49 Y1))), (12, .l (.val (.int .i64))), (13, .l (.val (.int .i64)))], []⟩
abbrev c10 : Cut := ⟨[(0, .l (.val (.list 49 Y1))), (4, .l (.ptr 7000000 0)), (11, .l (.val (.list 49 Y1))), (12, .l (.val (.int .i64))), (13, .l (.val (.int .i64))), (25, .l (.val (.list 49 Y1))), (26, .l (.val (.int .i64))), (27, .l (.val (.int .i64)))], [(7000000, .box 49 [.val .str, .val (.list 99 Y0)])]⟩
noncomputable abbrev Tl (k : Nat) : List (Nat × Hint (prods F.cout.tys)) := [(4, ⟨c4, fun x => offer_CheckAll.l4 k x.1 x.2.1 x.2.2.1 x.2.2.2⟩), (10, ⟨c10, fun x => offer_CheckAll.l10 k x.1 x.2.1 x.2.2.1 x.2.2.2.1 x.2.2.2.2.1 x.2.2.2.2.2.1 x.2.2.2.2.2.2.1 x.2.2.2.2.2.2.2.1 x.2.2.2.2.2.2.2.2⟩)]
noncomputable abbrev T (k : Nat) : Nat → Option (Hint (prods F.cout.tys)) := look (Tl k)
noncomputable abbrev body : Code := Go.Proofs.Try.f87.body.getD .skip
theorem s4 (k : Nat) (x : prods c4.tys) : offer_CheckAll.l4 (k + 1) x.1 x.2.1 x.2.2.1 x.2.2.2 = segK (Γ k) F (T k) body 4 (c4.st x) := by kernel_rfl
theorem s10 (k : Nat) (x : prods c10.tys) : offer_CheckAll.l10 (k + 1) x.1 x.2.1 x.2.2.1 x.2.2.2.1 x.2.2.2.2.1 x.2.2.2.2.2.1 x.2.2.2.2.2.2.1 x.2.2.2.2.2.2.2.1 x.2.2.2.2.2.2.2.2 = segK (Γ k) F (T k) body 10 (c10.st x) := by kernel_rfl
theorem main (k : Nat) (x : prods (con 0).cin.tys) : offer_CheckAll.f k x = goK (Γ k) F (T k) 2000 [.code body] ((con 0).cin.st x) := by kernel_rfl
theorem okΓ (k : Nat) : ΓOk Go.Proofs.Try.prog (Γ k) := Γcons (offer_Check.ok k) ⟨Go.Proofs.Try.f62, by kernel_rfl, by kernel_rfl, by kernel_rfl⟩ (Γnil)
theorem ok (k : Nat) : ConSound Go.Proofs.Try.prog 87 (con k) := con_sound (Γ := Γ) (fn := Go.Proofs.Try.f87) (body := body) (cin := (con 0).cin) (F := F) (T := T) follows (by kernel_rfl) (by kernel_rfl) (by kernel_rfl) (by kernel_rfl) (by kernel_rfl) (by decide +kernel) (by kernel_rfl) (by kernel_rfl) (tzero ⟨fun x => rfl, fun x => rfl, trivial⟩) k (fun m _ => okΓ m) (fun m _ => tstep ⟨fun x => s4 m x, fun x => s10 m x, trivial⟩) (fun x y h => (main k x).symm.trans h)
end offer_CheckAll
namespace dispatch_sum
noncomputable abbrev con (k : Nat) : Con := ⟨⟨[(0, .l (.val (.list 49 Y1)))], []⟩, ⟨[(0, .l (.val (.int .i64)))], []⟩, fun x => dispatch_sum.f k x⟩
noncomputable abbrev Γ (k : Nat) : FuncId → Option Con := look [(63, offer_Most.con k)]
abbrev F : Fin Go.Proofs.Try.prog := ⟨⟨[(0, .l (.val (.int .i64)))], []⟩, [], [.tmp 2]⟩
abbrev c3 : Cut := ⟨[(3, .l (.val (.int .i64))), (6, .l (.val (.list 49 Y1))), (7, .l (.val (.int .i64))), (8, .l (.val (.int .i64)))], []⟩
noncomputable abbrev Tl (k : Nat) : List (Nat × Hint (prods F.cout.tys)) := [(3, ⟨c3, fun x => dispatch_sum.l3 k x.1 x.2.1 x.2.2.1 x.2.2.2⟩)]
noncomputable abbrev T (k : Nat) : Nat → Option (Hint (prods F.cout.tys)) := look (Tl k)
noncomputable abbrev body : Code := Go.Proofs.Try.f88.body.getD .skip
theorem s3 (k : Nat) (x : prods c3.tys) : dispatch_sum.l3 (k + 1) x.1 x.2.1 x.2.2.1 x.2.2.2 = segK (Γ k) F (T k) body 3 (c3.st x) := by kernel_rfl
theorem main (k : Nat) (x : prods (con 0).cin.tys) : dispatch_sum.f k x = goK (Γ k) F (T k) 2000 [.code body] ((con 0).cin.st x) := by kernel_rfl
theorem okΓ (k : Nat) : ΓOk Go.Proofs.Try.prog (Γ k) := Γcons (offer_Most.ok k) ⟨Go.Proofs.Try.f63, by kernel_rfl, by kernel_rfl, by kernel_rfl⟩ (Γnil)
theorem ok (k : Nat) : ConSound Go.Proofs.Try.prog 88 (con k) := con_sound (Γ := Γ) (fn := Go.Proofs.Try.f88) (body := body) (cin := (con 0).cin) (F := F) (T := T) follows (by kernel_rfl) (by kernel_rfl) (by kernel_rfl) (by kernel_rfl) (by kernel_rfl) (by decide +kernel) (by kernel_rfl) (by kernel_rfl) (tzero ⟨fun x => rfl, trivial⟩) k (fun m _ => okΓ m) (fun m _ => tstep ⟨fun x => s3 m x, trivial⟩) (fun x y h => (main k x).symm.trans h)
end dispatch_sum
namespace dispatch_check
noncomputable abbrev con (k : Nat) : Con := ⟨⟨[(0, .l (.val (.list 49 Y1))), (1, .l (.val (.int .i64)))], []⟩, ⟨[(0, .l (.val (.int .i64)))], []⟩, fun x => dispatch_check.f k x.1 x.2⟩
noncomputable abbrev Γ (k : Nat) : FuncId → Option Con := look [(87, offer_CheckAll.con k), (88, dispatch_sum.con k)]
abbrev F : Fin Go.Proofs.Try.prog := ⟨⟨[(0, .l (.val (.int .i64)))], []⟩, [], [.tmp 4]⟩
noncomputable abbrev Tl (k : Nat) : List (Nat × Hint (prods F.cout.tys)) := []
noncomputable abbrev T (k : Nat) : Nat → Option (Hint (prods F.cout.tys)) := look (Tl k)
noncomputable abbrev body : Code := Go.Proofs.Try.f71.body.getD .skip
theorem main (k : Nat) (x : prods (con 0).cin.tys) : dispatch_check.f k x.1 x.2 = goK (Γ k) F (T k) 2000 [.code body] ((con 0).cin.st x) := by kernel_rfl
theorem okΓ (k : Nat) : ΓOk Go.Proofs.Try.prog (Γ k) := Γcons (offer_CheckAll.ok k) ⟨Go.Proofs.Try.f87, by kernel_rfl, by kernel_rfl, by kernel_rfl⟩ (Γcons (dispatch_sum.ok k) ⟨Go.Proofs.Try.f88, by kernel_rfl, by kernel_rfl, by kernel_rfl⟩ (Γnil))
theorem ok (k : Nat) : ConSound Go.Proofs.Try.prog 71 (con k) := con_sound (Γ := Γ) (fn := Go.Proofs.Try.f71) (body := body) (cin := (con 0).cin) (F := F) (T := T) follows (by kernel_rfl) (by kernel_rfl) (by kernel_rfl) (by kernel_rfl) (by kernel_rfl) (by decide +kernel) (by kernel_rfl) (by kernel_rfl) (tzero trivial) k (fun m _ => okΓ m) (fun m _ => tstep trivial) (fun x y h => (main k x).symm.trans h)
end dispatch_check
namespace dispatch_offered
noncomputable abbrev con (k : Nat) : Con := ⟨⟨[(0, .l (.val (.list 49 Y1))), (1, .l (.val (.int .i64))), (2, .l (.val .bool))], []⟩, ⟨[(0, .l (.val (.int .i64)))], []⟩, fun x => dispatch_offered.f k x.1 x.2.1 x.2.2⟩
noncomputable abbrev Γ (k : Nat) : FuncId → Option Con := look []
abbrev F : Fin Go.Proofs.Try.prog := ⟨⟨[(0, .l (.val (.int .i64)))], []⟩, [], [.tmp 6]⟩
abbrev c3 : Cut := ⟨[(1, .l (.val (.int .i64))), (2, .l (.val .bool)), (7, .l (.val (.int .i64))), (12, .l (.val (.list 49 Y1))), (13, .l (.val (.int .i64))), (14, .l (.val (.int .i64)))], []⟩
abbrev c6 : Cut := ⟨[(1, .l (.val (.int .i64))), (2, .l (.val .bool)), (7, .l (.val (.int .i64))), (12, .l (.val (.list 49 Y1))), (13, .l (.val (.int .i64))), (14, .l (.val (.int .i64))), (19, .l (.val (.list 99 Y0))), (20, .l (.val (.int .i64))), (21, .l (.val (.int .i64)))], []⟩
noncomputable abbrev Tl (k : Nat) : List (Nat × Hint (prods F.cout.tys)) := [(3, ⟨c3, fun x => dispatch_offered.l3 k x.1 x.2.1 x.2.2.1 x.2.2.2.1 x.2.2.2.2.1 x.2.2.2.2.2⟩), (6, ⟨c6, fun x => dispatch_offered.l6 k x.1 x.2.1 x.2.2.1 x.2.2.2.1 x.2.2.2.2.1 x.2.2.2.2.2.1 x.2.2.2.2.2.2.1 x.2.2.2.2.2.2.2.1 x.2.2.2.2.2.2.2.2⟩)]
noncomputable abbrev T (k : Nat) : Nat → Option (Hint (prods F.cout.tys)) := look (Tl k)
noncomputable abbrev body : Code := Go.Proofs.Try.f73.body.getD .skip
theorem s3 (k : Nat) (x : prods c3.tys) : dispatch_offered.l3 (k + 1) x.1 x.2.1 x.2.2.1 x.2.2.2.1 x.2.2.2.2.1 x.2.2.2.2.2 = segK (Γ k) F (T k) body 3 (c3.st x) := by kernel_rfl
theorem s6 (k : Nat) (x : prods c6.tys) : dispatch_offered.l6 (k + 1) x.1 x.2.1 x.2.2.1 x.2.2.2.1 x.2.2.2.2.1 x.2.2.2.2.2.1 x.2.2.2.2.2.2.1 x.2.2.2.2.2.2.2.1 x.2.2.2.2.2.2.2.2 = segK (Γ k) F (T k) body 6 (c6.st x) := by kernel_rfl
theorem main (k : Nat) (x : prods (con 0).cin.tys) : dispatch_offered.f k x.1 x.2.1 x.2.2 = goK (Γ k) F (T k) 2000 [.code body] ((con 0).cin.st x) := by kernel_rfl
theorem okΓ (k : Nat) : ΓOk Go.Proofs.Try.prog (Γ k) := Γnil
theorem ok (k : Nat) : ConSound Go.Proofs.Try.prog 73 (con k) := con_sound (Γ := Γ) (fn := Go.Proofs.Try.f73) (body := body) (cin := (con 0).cin) (F := F) (T := T) follows (by kernel_rfl) (by kernel_rfl) (by kernel_rfl) (by kernel_rfl) (by kernel_rfl) (by decide +kernel) (by kernel_rfl) (by kernel_rfl) (tzero ⟨fun x => rfl, fun x => rfl, trivial⟩) k (fun m _ => okΓ m) (fun m _ => tstep ⟨fun x => s3 m x, fun x => s6 m x, trivial⟩) (fun x y h => (main k x).symm.trans h)
end dispatch_offered
namespace dispatch_marginal
noncomputable abbrev con (k : Nat) : Con := ⟨⟨[(0, .l (.val (.list 49 Y1))), (1, .l (.val (.int .i64)))], []⟩, ⟨[(0, .l (.val (.int .i64)))], []⟩, fun x => dispatch_marginal.f k x.1 x.2⟩
noncomputable abbrev Γ (k : Nat) : FuncId → Option Con := look [(73, dispatch_offered.con k)]
abbrev F : Fin Go.Proofs.Try.prog := ⟨⟨[(0, .l (.val (.int .i64)))], []⟩, [], [.tmp 4]⟩
abbrev c3 : Cut := ⟨[(0, .l (.val (.list 49 Y1))), (1, .l (.val (.int .i64))), (5, .l (.val (.int .i64))), (10, .l (.val (.list 49 Y1))), (11, .l (.val (.int .i64))), (12, .l (.val (.int .i64)))], []⟩
abbrev c6 : Cut := ⟨[(0, .l (.val (.list 49 Y1))), (1, .l (.val (.int .i64))), (5, .l (.val (.int .i64))), (10, .l (.val (.list 49 Y1))), (11, .l (.val (.int .i64))), (12, .l (.val (.int .i64))), (17, .l (.val (.list 99 Y0))), (18, .l (.val (.int .i64))), (19, .l (.val (.int .i64)))], []⟩
noncomputable abbrev Tl (k : Nat) : List (Nat × Hint (prods F.cout.tys)) := [(3, ⟨c3, fun x => dispatch_marginal.l3 k x.1 x.2.1 x.2.2.1 x.2.2.2.1 x.2.2.2.2.1 x.2.2.2.2.2⟩), (6, ⟨c6, fun x => dispatch_marginal.l6 k x.1 x.2.1 x.2.2.1 x.2.2.2.1 x.2.2.2.2.1 x.2.2.2.2.2.1 x.2.2.2.2.2.2.1 x.2.2.2.2.2.2.2.1 x.2.2.2.2.2.2.2.2⟩)]
noncomputable abbrev T (k : Nat) : Nat → Option (Hint (prods F.cout.tys)) := look (Tl k)
noncomputable abbrev body : Code := Go.Proofs.Try.f72.body.getD .skip
theorem s3 (k : Nat) (x : prods c3.tys) : dispatch_marginal.l3 (k + 1) x.1 x.2.1 x.2.2.1 x.2.2.2.1 x.2.2.2.2.1 x.2.2.2.2.2 = segK (Γ k) F (T k) body 3 (c3.st x) := by kernel_rfl
theorem s6 (k : Nat) (x : prods c6.tys) : dispatch_marginal.l6 (k + 1) x.1 x.2.1 x.2.2.1 x.2.2.2.1 x.2.2.2.2.1 x.2.2.2.2.2.1 x.2.2.2.2.2.2.1 x.2.2.2.2.2.2.2.1 x.2.2.2.2.2.2.2.2 = segK (Γ k) F (T k) body 6 (c6.st x) := by kernel_rfl
theorem main (k : Nat) (x : prods (con 0).cin.tys) : dispatch_marginal.f k x.1 x.2 = goK (Γ k) F (T k) 2000 [.code body] ((con 0).cin.st x) := by kernel_rfl
theorem okΓ (k : Nat) : ΓOk Go.Proofs.Try.prog (Γ k) := Γcons (dispatch_offered.ok k) ⟨Go.Proofs.Try.f73, by kernel_rfl, by kernel_rfl, by kernel_rfl⟩ (Γnil)
theorem ok (k : Nat) : ConSound Go.Proofs.Try.prog 72 (con k) := con_sound (Γ := Γ) (fn := Go.Proofs.Try.f72) (body := body) (cin := (con 0).cin) (F := F) (T := T) follows (by kernel_rfl) (by kernel_rfl) (by kernel_rfl) (by kernel_rfl) (by kernel_rfl) (by decide +kernel) (by kernel_rfl) (by kernel_rfl) (tzero ⟨fun x => rfl, fun x => rfl, trivial⟩) k (fun m _ => okΓ m) (fun m _ => tstep ⟨fun x => s3 m x, fun x => s6 m x, trivial⟩) (fun x y h => (main k x).symm.trans h)
end dispatch_marginal
namespace offer_Supply
noncomputable abbrev con (k : Nat) : Con := ⟨⟨[(0, .av Y1), (1, .l (.val (.int .i64)))], []⟩, ⟨[(0, .l (.val (.int .i64))), (1, .l (.val (.int .i64))), (2, .l (.val (.int .i64)))], []⟩, fun x => offer_Supply.f k x.1 x.2⟩
noncomputable abbrev Γ (k : Nat) : FuncId → Option Con := look [(62, offer_Check.con k)]
abbrev F : Fin Go.Proofs.Try.prog := ⟨⟨[(0, .l (.val (.int .i64))), (1, .l (.val (.int .i64))), (2, .l (.val (.int .i64)))], []⟩, [], [.tmp 4, .tmp 5, .tmp 6]⟩
abbrev c8 : Cut := ⟨[(1, .l (.val (.int .i64))), (8, .l (.val (.int .i64))), (9, .l (.val (.int .i64))), (24, .l (.val (.list 99 Y0))), (25, .l (.val (.int .i64))), (26, .l (.val (.int .i64)))], []⟩
abbrev c12 : Cut := ⟨[(1, .l (.val (.int .i64))), (8, .l (.val (.int .i64))), (9, .l (.val (.int .i64))), (11, .l (.ptr 7000000 0)), (24, .l (.val (.list 99 Y0))), (25, .l (.val (.int .i64))), (26, .l (.val (.int .i64)))], [(7000000, .box 99 [.val (.int .i64), .val (.int .i64)])]⟩
noncomputable abbrev Tl (k : Nat) : List (Nat × Hint (prods F.cout.tys)) := [(8, ⟨c8, fun x => offer_Supply.l8 k x.1 x.2.1 x.2.2.1 x.2.2.2.1 x.2.2.2.2.1 x.2.2.2.2.2⟩), (12, ⟨c12, fun x => offer_Supply.l12 k x.1 x.2.1 x.2.2.1 x.2.2.2.1 x.2.2.2.2.1 x.2.2.2.2.2.1 x.2.2.2.2.2.2.1 x.2.2.2.2.2.2.2⟩)]
noncomputable abbrev T (k : Nat) : Nat → Option (Hint (prods F.cout.tys)) := look (Tl k)
noncomputable abbrev body : Code := Go.Proofs.Try.f74.body.getD .skip
theorem s8 (k : Nat) (x : prods c8.tys) : offer_Supply.l8 (k + 1) x.1 x.2.1 x.2.2.1 x.2.2.2.1 x.2.2.2.2.1 x.2.2.2.2.2 = segK (Γ k) F (T k) body 8 (c8.st x) := by kernel_rfl
theorem s12 (k : Nat) (x : prods c12.tys) : offer_Supply.l12 (k + 1) x.1 x.2.1 x.2.2.1 x.2.2.2.1 x.2.2.2.2.1 x.2.2.2.2.2.1 x.2.2.2.2.2.2.1 x.2.2.2.2.2.2.2 = segK (Γ k) F (T k) body 12 (c12.st x) := by kernel_rfl
theorem main (k : Nat) (x : prods (con 0).cin.tys) : offer_Supply.f k x.1 x.2 = goK (Γ k) F (T k) 2000 [.code body] ((con 0).cin.st x) := by kernel_rfl
theorem okΓ (k : Nat) : ΓOk Go.Proofs.Try.prog (Γ k) := Γcons (offer_Check.ok k) ⟨Go.Proofs.Try.f62, by kernel_rfl, by kernel_rfl, by kernel_rfl⟩ (Γnil)
theorem ok (k : Nat) : ConSound Go.Proofs.Try.prog 74 (con k) := con_sound (Γ := Γ) (fn := Go.Proofs.Try.f74) (body := body) (cin := (con 0).cin) (F := F) (T := T) follows (by kernel_rfl) (by kernel_rfl) (by kernel_rfl) (by kernel_rfl) (by kernel_rfl) (by decide +kernel) (by kernel_rfl) (by kernel_rfl) (tzero ⟨fun x => rfl, fun x => rfl, trivial⟩) k (fun m _ => okΓ m) (fun m _ => tstep ⟨fun x => s8 m x, fun x => s12 m x, trivial⟩) (fun x y h => (main k x).symm.trans h)
end offer_Supply
namespace dispatch_costs
noncomputable abbrev con (k : Nat) : Con := ⟨⟨[(0, .l (.val (.list 49 Y1))), (1, .l (.val (.list 3 (.int .i64))))], []⟩, ⟨[(0, .l (.val (.list 3 (.int .i64)))), (1, .l (.val (.int .i64))), (2, .l (.val (.int .i64)))], []⟩, fun x => dispatch_costs.f k x.1 x.2⟩
noncomputable abbrev Γ (k : Nat) : FuncId → Option Con := look [(33, offer_Cost.con k)]
abbrev F : Fin Go.Proofs.Try.prog := ⟨⟨[(0, .l (.val (.list 3 (.int .i64)))), (1, .l (.val (.int .i64))), (2, .l (.val (.int .i64)))], []⟩, [], [.tmp 4, .tmp 5, .tmp 6]⟩
abbrev c3 : Cut := ⟨[(1, .l (.val (.list 3 (.int .i64)))), (7, .l (.val (.int .i64))), (12, .l (.val (.list 49 Y1))), (13, .l (.val (.int .i64))), (14, .l (.val (.int .i64)))], []⟩
noncomputable abbrev Tl (k : Nat) : List (Nat × Hint (prods F.cout.tys)) := [(3, ⟨c3, fun x => dispatch_costs.l3 k x.1 x.2.1 x.2.2.1 x.2.2.2.1 x.2.2.2.2⟩)]
noncomputable abbrev T (k : Nat) : Nat → Option (Hint (prods F.cout.tys)) := look (Tl k)
noncomputable abbrev body : Code := Go.Proofs.Try.f75.body.getD .skip
theorem s3 (k : Nat) (x : prods c3.tys) : dispatch_costs.l3 (k + 1) x.1 x.2.1 x.2.2.1 x.2.2.2.1 x.2.2.2.2 = segK (Γ k) F (T k) body 3 (c3.st x) := by kernel_rfl
theorem main (k : Nat) (x : prods (con 0).cin.tys) : dispatch_costs.f k x.1 x.2 = goK (Γ k) F (T k) 2000 [.code body] ((con 0).cin.st x) := by kernel_rfl
theorem okΓ (k : Nat) : ΓOk Go.Proofs.Try.prog (Γ k) := Γcons (offer_Cost.ok k) ⟨Go.Proofs.Try.f33, by kernel_rfl, by kernel_rfl, by kernel_rfl⟩ (Γnil)
theorem ok (k : Nat) : ConSound Go.Proofs.Try.prog 75 (con k) := con_sound (Γ := Γ) (fn := Go.Proofs.Try.f75) (body := body) (cin := (con 0).cin) (F := F) (T := T) follows (by kernel_rfl) (by kernel_rfl) (by kernel_rfl) (by kernel_rfl) (by kernel_rfl) (by decide +kernel) (by kernel_rfl) (by kernel_rfl) (tzero ⟨fun x => rfl, trivial⟩) k (fun m _ => okΓ m) (fun m _ => tstep ⟨fun x => s3 m x, trivial⟩) (fun x y h => (main k x).symm.trans h)
end dispatch_costs
namespace dispatch_Best
noncomputable abbrev con (k : Nat) : Con := ⟨⟨[(0, .l (.val (.list 49 Y1))), (1, .l (.val (.int .i64)))], []⟩, ⟨[(0, .l (.val (.list 3 (.int .i64)))), (1, .l (.val (.int .i64))), (2, .l (.val (.int .i64)))], []⟩, fun x => dispatch_Best.f k x.1 x.2⟩
noncomputable abbrev Γ (k : Nat) : FuncId → Option Con := look [(71, dispatch_check.con k), (72, dispatch_marginal.con k), (73, dispatch_offered.con k), (74, offer_Supply.con k), (75, dispatch_costs.con k)]
abbrev F : Fin Go.Proofs.Try.prog := ⟨⟨[(0, .l (.val (.list 3 (.int .i64)))), (1, .l (.val (.int .i64))), (2, .l (.val (.int .i64)))], []⟩, [], [.tmp 4, .tmp 5, .tmp 6]⟩
abbrev c10 : Cut := ⟨[(0, .l (.val (.list 49 Y1))), (8, .l (.row 7000000)), (9, .l (.val (.int .i64))), (10, .l (.val (.int .i64))), (37, .l (.val (.list 49 Y1))), (38, .l (.val (.int .i64))), (39, .l (.val (.int .i64)))], [(7000000, .row 3 (.int .i64))]⟩
noncomputable abbrev Tl (k : Nat) : List (Nat × Hint (prods F.cout.tys)) := [(10, ⟨c10, fun x => dispatch_Best.l10 k x.1 x.2.1 x.2.2.1 x.2.2.2.1 x.2.2.2.2.1 x.2.2.2.2.2.1 x.2.2.2.2.2.2⟩)]
noncomputable abbrev T (k : Nat) : Nat → Option (Hint (prods F.cout.tys)) := look (Tl k)
noncomputable abbrev body : Code := Go.Proofs.Try.f42.body.getD .skip
theorem s10 (k : Nat) (x : prods c10.tys) : dispatch_Best.l10 (k + 1) x.1 x.2.1 x.2.2.1 x.2.2.2.1 x.2.2.2.2.1 x.2.2.2.2.2.1 x.2.2.2.2.2.2 = segK (Γ k) F (T k) body 10 (c10.st x) := by kernel_rfl
theorem main (k : Nat) (x : prods (con 0).cin.tys) : dispatch_Best.f k x.1 x.2 = goK (Γ k) F (T k) 2000 [.code body] ((con 0).cin.st x) := by kernel_rfl
theorem okΓ (k : Nat) : ΓOk Go.Proofs.Try.prog (Γ k) := Γcons (dispatch_check.ok k) ⟨Go.Proofs.Try.f71, by kernel_rfl, by kernel_rfl, by kernel_rfl⟩ (Γcons (dispatch_marginal.ok k) ⟨Go.Proofs.Try.f72, by kernel_rfl, by kernel_rfl, by kernel_rfl⟩ (Γcons (dispatch_offered.ok k) ⟨Go.Proofs.Try.f73, by kernel_rfl, by kernel_rfl, by kernel_rfl⟩ (Γcons (offer_Supply.ok k) ⟨Go.Proofs.Try.f74, by kernel_rfl, by kernel_rfl, by kernel_rfl⟩ (Γcons (dispatch_costs.ok k) ⟨Go.Proofs.Try.f75, by kernel_rfl, by kernel_rfl, by kernel_rfl⟩ (Γnil)))))
theorem ok (k : Nat) : ConSound Go.Proofs.Try.prog 42 (con k) := con_sound (Γ := Γ) (fn := Go.Proofs.Try.f42) (body := body) (cin := (con 0).cin) (F := F) (T := T) follows (by kernel_rfl) (by kernel_rfl) (by kernel_rfl) (by kernel_rfl) (by kernel_rfl) (by decide +kernel) (by kernel_rfl) (by kernel_rfl) (tzero ⟨fun x => rfl, trivial⟩) k (fun m _ => okΓ m) (fun m _ => tstep ⟨fun x => s10 m x, trivial⟩) (fun x y h => (main k x).symm.trans h)
end dispatch_Best
namespace slices_Equal_int
noncomputable abbrev con (k : Nat) : Con := ⟨⟨[(0, .l (.val (.list 3 (.int .i64)))), (1, .l (.val (.list 3 (.int .i64))))], []⟩, ⟨[(0, .l (.val .bool))], []⟩, fun x => slices_Equal_int.f k x.1 x.2⟩
noncomputable abbrev Γ (k : Nat) : FuncId → Option Con := look []
abbrev F : Fin Go.Proofs.Try.prog := ⟨⟨[(0, .l (.val .bool))], []⟩, [], [.tmp 4]⟩
abbrev c4 : Cut := ⟨[(0, .l (.val (.list 3 (.int .i64)))), (1, .l (.val (.list 3 (.int .i64)))), (12, .l (.val (.int .i64))), (13, .l (.val (.int .i64)))], []⟩
noncomputable abbrev Tl (k : Nat) : List (Nat × Hint (prods F.cout.tys)) := [(4, ⟨c4, fun x => slices_Equal_int.l4 k x.1 x.2.1 x.2.2.1 x.2.2.2⟩)]
noncomputable abbrev T (k : Nat) : Nat → Option (Hint (prods F.cout.tys)) := look (Tl k)
noncomputable abbrev body : Code := Go.Proofs.Try.f16.body.getD .skip
theorem s4 (k : Nat) (x : prods c4.tys) : slices_Equal_int.l4 (k + 1) x.1 x.2.1 x.2.2.1 x.2.2.2 = segK (Γ k) F (T k) body 4 (c4.st x) := by kernel_rfl
theorem main (k : Nat) (x : prods (con 0).cin.tys) : slices_Equal_int.f k x.1 x.2 = goK (Γ k) F (T k) 2000 [.code body] ((con 0).cin.st x) := by kernel_rfl
theorem okΓ (k : Nat) : ΓOk Go.Proofs.Try.prog (Γ k) := Γnil
theorem ok (k : Nat) : ConSound Go.Proofs.Try.prog 16 (con k) := con_sound (Γ := Γ) (fn := Go.Proofs.Try.f16) (body := body) (cin := (con 0).cin) (F := F) (T := T) follows (by kernel_rfl) (by kernel_rfl) (by kernel_rfl) (by kernel_rfl) (by kernel_rfl) (by decide +kernel) (by kernel_rfl) (by kernel_rfl) (tzero ⟨fun x => rfl, trivial⟩) k (fun m _ => okΓ m) (fun m _ => tstep ⟨fun x => s4 m x, trivial⟩) (fun x y h => (main k x).symm.trans h)
end slices_Equal_int
namespace gridhallkeep3_served
noncomputable abbrev con (k : Nat) : Con := ⟨⟨[], []⟩, ⟨[(0, .l (.val .bool))], []⟩, fun x => gridhallkeep3_served.f k⟩
noncomputable abbrev Γ (k : Nat) : FuncId → Option Con := look [(16, slices_Equal_int.con k), (32, gridhallkeep3_two.con k), (42, dispatch_Best.con k)]
abbrev F : Fin Go.Proofs.Try.prog := ⟨⟨[(0, .l (.val .bool))], []⟩, [], [.tmp 0]⟩
noncomputable abbrev Tl (k : Nat) : List (Nat × Hint (prods F.cout.tys)) := []
noncomputable abbrev T (k : Nat) : Nat → Option (Hint (prods F.cout.tys)) := look (Tl k)
noncomputable abbrev body : Code := Go.Proofs.Try.f41.body.getD .skip
theorem main (k : Nat) (x : prods (con 0).cin.tys) : gridhallkeep3_served.f k = goK (Γ k) F (T k) 2000 [.code body] ((con 0).cin.st x) := by kernel_rfl
theorem okΓ (k : Nat) : ΓOk Go.Proofs.Try.prog (Γ k) := Γcons (slices_Equal_int.ok k) ⟨Go.Proofs.Try.f16, by kernel_rfl, by kernel_rfl, by kernel_rfl⟩ (Γcons (gridhallkeep3_two.ok k) ⟨Go.Proofs.Try.f32, by kernel_rfl, by kernel_rfl, by kernel_rfl⟩ (Γcons (dispatch_Best.ok k) ⟨Go.Proofs.Try.f42, by kernel_rfl, by kernel_rfl, by kernel_rfl⟩ (Γnil)))
theorem ok (k : Nat) : ConSound Go.Proofs.Try.prog 41 (con k) := con_sound (Γ := Γ) (fn := Go.Proofs.Try.f41) (body := body) (cin := (con 0).cin) (F := F) (T := T) follows (by kernel_rfl) (by kernel_rfl) (by kernel_rfl) (by kernel_rfl) (by kernel_rfl) (by decide +kernel) (by kernel_rfl) (by kernel_rfl) (tzero trivial) k (fun m _ => okΓ m) (fun m _ => tstep trivial) (fun x y h => (main k x).symm.trans h)
end gridhallkeep3_served
namespace gridhallkeep3_DispatchConvolves
noncomputable abbrev con (k : Nat) : Con := ⟨⟨[(0, .l (.val (.list 49 Y1))), (1, .l (.val (.int .i64)))], []⟩, ⟨[(0, .l (.val .bool))], []⟩, fun x => gridhallkeep3_DispatchConvolves.f k x.1 x.2⟩
noncomputable abbrev Γ (k : Nat) : FuncId → Option Con := look [(19, gridhallkeep3_slopes.con k), (23, convexpl_At.con k), (30, convexpl_Convolve.con k), (31, convexpl_Of.con k), (41, gridhallkeep3_served.con k), (42, dispatch_Best.con k)]
abbrev F : Fin Go.Proofs.Try.prog := ⟨⟨[(0, .l (.val .bool))], []⟩, [], [.tmp 4]⟩
abbrev c7 : Cut := ⟨[(1, .l (.val (.int .i64))), (6, .l (.val (.int .i64))), (7, .l (.val (.int .i64))), (8, .l (.ptr 7000000 0)), (34, .l (.val (.list 49 Y1))), (35, .l (.val (.int .i64))), (36, .l (.val (.int .i64)))], [(7000000, .box 32 [.val (.int .i64), .val (.int .i64), .val (.list 60 Y0)])]⟩
noncomputable abbrev Tl (k : Nat) : List (Nat × Hint (prods F.cout.tys)) := [(7, ⟨c7, fun x => gridhallkeep3_DispatchConvolves.l7 k x.1 x.2.1 x.2.2.1 x.2.2.2.1 x.2.2.2.2.1 x.2.2.2.2.2.1 x.2.2.2.2.2.2.1 x.2.2.2.2.2.2.2.1 x.2.2.2.2.2.2.2.2⟩)]
noncomputable abbrev T (k : Nat) : Nat → Option (Hint (prods F.cout.tys)) := look (Tl k)
noncomputable abbrev body : Code := Go.Proofs.Try.f11.body.getD .skip
theorem s7 (k : Nat) (x : prods c7.tys) : gridhallkeep3_DispatchConvolves.l7 (k + 1) x.1 x.2.1 x.2.2.1 x.2.2.2.1 x.2.2.2.2.1 x.2.2.2.2.2.1 x.2.2.2.2.2.2.1 x.2.2.2.2.2.2.2.1 x.2.2.2.2.2.2.2.2 = segK (Γ k) F (T k) body 7 (c7.st x) := by kernel_rfl
theorem main (k : Nat) (x : prods (con 0).cin.tys) : gridhallkeep3_DispatchConvolves.f k x.1 x.2 = goK (Γ k) F (T k) 2000 [.code body] ((con 0).cin.st x) := by kernel_rfl
theorem okΓ (k : Nat) : ΓOk Go.Proofs.Try.prog (Γ k) := Γcons (gridhallkeep3_slopes.ok k) ⟨Go.Proofs.Try.f19, by kernel_rfl, by kernel_rfl, by kernel_rfl⟩ (Γcons (convexpl_At.ok k) ⟨Go.Proofs.Try.f23, by kernel_rfl, by kernel_rfl, by kernel_rfl⟩ (Γcons (convexpl_Convolve.ok k) ⟨Go.Proofs.Try.f30, by kernel_rfl, by kernel_rfl, by kernel_rfl⟩ (Γcons (convexpl_Of.ok k) ⟨Go.Proofs.Try.f31, by kernel_rfl, by kernel_rfl, by kernel_rfl⟩ (Γcons (gridhallkeep3_served.ok k) ⟨Go.Proofs.Try.f41, by kernel_rfl, by kernel_rfl, by kernel_rfl⟩ (Γcons (dispatch_Best.ok k) ⟨Go.Proofs.Try.f42, by kernel_rfl, by kernel_rfl, by kernel_rfl⟩ (Γnil))))))
theorem ok (k : Nat) : ConSound Go.Proofs.Try.prog 11 (con k) := con_sound (Γ := Γ) (fn := Go.Proofs.Try.f11) (body := body) (cin := (con 0).cin) (F := F) (T := T) follows (by kernel_rfl) (by kernel_rfl) (by kernel_rfl) (by kernel_rfl) (by kernel_rfl) (by decide +kernel) (by kernel_rfl) (by kernel_rfl) (tzero ⟨fun x => rfl, trivial⟩) k (fun m _ => okΓ m) (fun m _ => tstep ⟨fun x => s7 m x, trivial⟩) (fun x y h => (main k x).symm.trans h)
end gridhallkeep3_DispatchConvolves
end Go.Proofs.Ytcmbckancficcaa.VE
