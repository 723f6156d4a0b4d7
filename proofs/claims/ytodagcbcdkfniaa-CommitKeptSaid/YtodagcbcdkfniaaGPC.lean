/- Contracts of functions (printed by a program; no statement is proved here). -/
import Derived.Test.YtodagcbcdkfniaaVeCon2
import Derived.Test.YtodagcbcdkfniaaGPD
namespace Go.Proofs.Ytodagcbcdkfniaa.VE
set_option linter.unusedVariables false
set_option maxRecDepth 100000
open Go Go.RowKit
namespace gridhallkeep3_two
noncomputable abbrev con (k : Nat) : Con := ⟨⟨[(0, .l (.val .str))], []⟩, ⟨[(0, .av Y7)], []⟩, fun x => gridhallkeep3_two.f k x⟩
noncomputable abbrev Γ (k : Nat) : FuncId → Option Con := look []
abbrev F : Fin Go.Proofs.Try.prog := ⟨⟨[(0, .av Y7)], []⟩, [], [.cell 2 28]⟩
noncomputable abbrev Tl (k : Nat) : List (Nat × Hint (prods F.cout.tys)) := []
noncomputable abbrev T (k : Nat) : Nat → Option (Hint (prods F.cout.tys)) := look (Tl k)
noncomputable abbrev body : Code := Go.Proofs.Try.f34.body.getD .skip
theorem main (k : Nat) (x : prods (con 0).cin.tys) : gridhallkeep3_two.f k x = goK (Γ k) F (T k) 2000 [.code body] ((con 0).cin.st x) := by kernel_rfl
theorem okΓ (k : Nat) : ΓOk Go.Proofs.Try.prog (Γ k) := Γnil
theorem ok (k : Nat) : ConSound Go.Proofs.Try.prog 34 (con k) := con_sound (Γ := Γ) (fn := Go.Proofs.Try.f34) (body := body) (cin := (con 0).cin) (F := F) (T := T) follows (by kernel_rfl) (by kernel_rfl) (by kernel_rfl) (by kernel_rfl) (by kernel_rfl) (by decide +kernel) (by kernel_rfl) (by kernel_rfl) (tzero trivial) k (fun m _ => okΓ m) (fun m _ => tstep trivial) (fun x y h => (main k x).symm.trans h)
end gridhallkeep3_two
namespace gridhallkeep3_alone
noncomputable abbrev con (k : Nat) : Con := ⟨⟨[], []⟩, ⟨[(0, .av Y10)], []⟩, fun x => gridhallkeep3_alone.f k⟩
noncomputable abbrev Γ (k : Nat) : FuncId → Option Con := look [(34, gridhallkeep3_two.con k)]
abbrev F : Fin Go.Proofs.Try.prog := ⟨⟨[(0, .av Y10)], []⟩, [], [.cell 0 33]⟩
noncomputable abbrev Tl (k : Nat) : List (Nat × Hint (prods F.cout.tys)) := []
noncomputable abbrev T (k : Nat) : Nat → Option (Hint (prods F.cout.tys)) := look (Tl k)
noncomputable abbrev body : Code := Go.Proofs.Try.f24.body.getD .skip
theorem main (k : Nat) (x : prods (con 0).cin.tys) : gridhallkeep3_alone.f k = goK (Γ k) F (T k) 2000 [.code body] ((con 0).cin.st x) := by kernel_rfl
theorem okΓ (k : Nat) : ΓOk Go.Proofs.Try.prog (Γ k) := Γcons (gridhallkeep3_two.ok k) ⟨Go.Proofs.Try.f34, by kernel_rfl, by kernel_rfl, by kernel_rfl⟩ (Γnil)
theorem ok (k : Nat) : ConSound Go.Proofs.Try.prog 24 (con k) := con_sound (Γ := Γ) (fn := Go.Proofs.Try.f24) (body := body) (cin := (con 0).cin) (F := F) (T := T) follows (by kernel_rfl) (by kernel_rfl) (by kernel_rfl) (by kernel_rfl) (by kernel_rfl) (by decide +kernel) (by kernel_rfl) (by kernel_rfl) (tzero trivial) k (fun m _ => okΓ m) (fun m _ => tstep trivial) (fun x y h => (main k x).symm.trans h)
end gridhallkeep3_alone
namespace unit_named
noncomputable abbrev con (k : Nat) : Con := ⟨⟨[(0, .l (.val .str))], []⟩, ⟨[(0, .l (.val .bool))], []⟩, fun x => unit_named.f k x⟩
noncomputable abbrev Γ (k : Nat) : FuncId → Option Con := look []
abbrev F : Fin Go.Proofs.Try.prog := ⟨⟨[(0, .l (.val .bool))], []⟩, [], [.tmp 2]⟩
abbrev c4 : Cut := ⟨[(0, .l (.val .str)), (22, .l (.val (.int .i64))), (23, .l (.val (.int .i64)))], []⟩
noncomputable abbrev Tl (k : Nat) : List (Nat × Hint (prods F.cout.tys)) := [(4, ⟨c4, fun x => unit_named.l4 k x.1 x.2.1 x.2.2⟩)]
noncomputable abbrev T (k : Nat) : Nat → Option (Hint (prods F.cout.tys)) := look (Tl k)
noncomputable abbrev body : Code := Go.Proofs.Try.f93.body.getD .skip
theorem s4 (k : Nat) (x : prods c4.tys) : unit_named.l4 (k + 1) x.1 x.2.1 x.2.2 = segK (Γ k) F (T k) body 4 (c4.st x) := by kernel_rfl
theorem main (k : Nat) (x : prods (con 0).cin.tys) : unit_named.f k x = goK (Γ k) F (T k) 2000 [.code body] ((con 0).cin.st x) := by kernel_rfl
theorem okΓ (k : Nat) : ΓOk Go.Proofs.Try.prog (Γ k) := Γnil
theorem ok (k : Nat) : ConSound Go.Proofs.Try.prog 93 (con k) := con_sound (Γ := Γ) (fn := Go.Proofs.Try.f93) (body := body) (cin := (con 0).cin) (F := F) (T := T) follows (by kernel_rfl) (by kernel_rfl) (by kernel_rfl) (by kernel_rfl) (by kernel_rfl) (by decide +kernel) (by kernel_rfl) (by kernel_rfl) (tzero ⟨fun x => rfl, trivial⟩) k (fun m _ => okΓ m) (fun m _ => tstep ⟨fun x => s4 m x, trivial⟩) (fun x y h => (main k x).symm.trans h)
end unit_named
namespace unit_Check
noncomputable abbrev con (k : Nat) : Con := ⟨⟨[(0, .av Y6)], []⟩, ⟨[(0, .l (.val (.int .i64)))], []⟩, fun x => unit_Check.f k x⟩
noncomputable abbrev Γ (k : Nat) : FuncId → Option Con := look [(93, unit_named.con k)]
abbrev F : Fin Go.Proofs.Try.prog := ⟨⟨[(0, .l (.val (.int .i64)))], []⟩, [], [.tmp 2]⟩
noncomputable abbrev Tl (k : Nat) : List (Nat × Hint (prods F.cout.tys)) := []
noncomputable abbrev T (k : Nat) : Nat → Option (Hint (prods F.cout.tys)) := look (Tl k)
noncomputable abbrev body : Code := Go.Proofs.Try.f80.body.getD .skip
theorem main (k : Nat) (x : prods (con 0).cin.tys) : unit_Check.f k x = goK (Γ k) F (T k) 2000 [.code body] ((con 0).cin.st x) := by kernel_rfl
theorem okΓ (k : Nat) : ΓOk Go.Proofs.Try.prog (Γ k) := Γcons (unit_named.ok k) ⟨Go.Proofs.Try.f93, by kernel_rfl, by kernel_rfl, by kernel_rfl⟩ (Γnil)
theorem ok (k : Nat) : ConSound Go.Proofs.Try.prog 80 (con k) := con_sound (Γ := Γ) (fn := Go.Proofs.Try.f80) (body := body) (cin := (con 0).cin) (F := F) (T := T) follows (by kernel_rfl) (by kernel_rfl) (by kernel_rfl) (by kernel_rfl) (by kernel_rfl) (by decide +kernel) (by kernel_rfl) (by kernel_rfl) (tzero trivial) k (fun m _ => okΓ m) (fun m _ => tstep trivial) (fun x y h => (main k x).symm.trans h)
end unit_Check
namespace unit_CheckState
noncomputable abbrev con (k : Nat) : Con := ⟨⟨[(0, .av Y6), (1, .av Y8)], []⟩, ⟨[(0, .l (.val (.int .i64)))], []⟩, fun x => unit_CheckState.f k x.1 x.2⟩
noncomputable abbrev Γ (k : Nat) : FuncId → Option Con := look [(80, unit_Check.con k)]
abbrev F : Fin Go.Proofs.Try.prog := ⟨⟨[(0, .l (.val (.int .i64)))], []⟩, [], [.tmp 4]⟩
noncomputable abbrev Tl (k : Nat) : List (Nat × Hint (prods F.cout.tys)) := []
noncomputable abbrev T (k : Nat) : Nat → Option (Hint (prods F.cout.tys)) := look (Tl k)
noncomputable abbrev body : Code := Go.Proofs.Try.f46.body.getD .skip
theorem main (k : Nat) (x : prods (con 0).cin.tys) : unit_CheckState.f k x.1 x.2 = goK (Γ k) F (T k) 2000 [.code body] ((con 0).cin.st x) := by kernel_rfl
theorem okΓ (k : Nat) : ΓOk Go.Proofs.Try.prog (Γ k) := Γcons (unit_Check.ok k) ⟨Go.Proofs.Try.f80, by kernel_rfl, by kernel_rfl, by kernel_rfl⟩ (Γnil)
theorem ok (k : Nat) : ConSound Go.Proofs.Try.prog 46 (con k) := con_sound (Γ := Γ) (fn := Go.Proofs.Try.f46) (body := body) (cin := (con 0).cin) (F := F) (T := T) follows (by kernel_rfl) (by kernel_rfl) (by kernel_rfl) (by kernel_rfl) (by kernel_rfl) (by decide +kernel) (by kernel_rfl) (by kernel_rfl) (tzero trivial) k (fun m _ => okΓ m) (fun m _ => tstep trivial) (fun x y h => (main k x).symm.trans h)
end unit_CheckState
namespace offer_named
noncomputable abbrev con (k : Nat) : Con := ⟨⟨[(0, .l (.val .str))], []⟩, ⟨[(0, .l (.val .bool))], []⟩, fun x => offer_named.f k x⟩
noncomputable abbrev Γ (k : Nat) : FuncId → Option Con := look []
abbrev F : Fin Go.Proofs.Try.prog := ⟨⟨[(0, .l (.val .bool))], []⟩, [], [.tmp 2]⟩
abbrev c4 : Cut := ⟨[(0, .l (.val .str)), (22, .l (.val (.int .i64))), (23, .l (.val (.int .i64)))], []⟩
noncomputable abbrev Tl (k : Nat) : List (Nat × Hint (prods F.cout.tys)) := [(4, ⟨c4, fun x => offer_named.l4 k x.1 x.2.1 x.2.2⟩)]
noncomputable abbrev T (k : Nat) : Nat → Option (Hint (prods F.cout.tys)) := look (Tl k)
noncomputable abbrev body : Code := Go.Proofs.Try.f94.body.getD .skip
theorem s4 (k : Nat) (x : prods c4.tys) : offer_named.l4 (k + 1) x.1 x.2.1 x.2.2 = segK (Γ k) F (T k) body 4 (c4.st x) := by kernel_rfl
theorem main (k : Nat) (x : prods (con 0).cin.tys) : offer_named.f k x = goK (Γ k) F (T k) 2000 [.code body] ((con 0).cin.st x) := by kernel_rfl
theorem okΓ (k : Nat) : ΓOk Go.Proofs.Try.prog (Γ k) := Γnil
theorem ok (k : Nat) : ConSound Go.Proofs.Try.prog 94 (con k) := con_sound (Γ := Γ) (fn := Go.Proofs.Try.f94) (body := body) (cin := (con 0).cin) (F := F) (T := T) follows (by kernel_rfl) (by kernel_rfl) (by kernel_rfl) (by kernel_rfl) (by kernel_rfl) (by decide +kernel) (by kernel_rfl) (by kernel_rfl) (tzero ⟨fun x => rfl, trivial⟩) k (fun m _ => okΓ m) (fun m _ => tstep ⟨fun x => s4 m x, trivial⟩) (fun x y h => (main k x).symm.trans h)
end offer_named
namespace offer_Check
noncomputable abbrev con (k : Nat) : Con := ⟨⟨[(0, .av Y7)], []⟩, ⟨[(0, .l (.val (.int .i64)))], []⟩, fun x => offer_Check.f k x⟩
noncomputable abbrev Γ (k : Nat) : FuncId → Option Con := look [(94, offer_named.con k)]
abbrev F : Fin Go.Proofs.Try.prog := ⟨⟨[(0, .l (.val (.int .i64)))], []⟩, [], [.tmp 2]⟩
abbrev c7 : Cut := ⟨[(1, .l (.ptr 7000000 0)), (3, .l (.val (.int .i64))), (15, .l (.val (.list 72 Y0))), (16, .l (.val (.int .i64))), (17, .l (.val (.int .i64)))], [(7000000, .box 28 [.val .str, .val (.list 72 Y0)])]⟩
noncomputable abbrev Tl (k : Nat) : List (Nat × Hint (prods F.cout.tys)) := [(7, ⟨c7, fun x => offer_Check.l7 k x.1 x.2.1 x.2.2.1 x.2.2.2.1 x.2.2.2.2.1 x.2.2.2.2.2⟩)]
noncomputable abbrev T (k : Nat) : Nat → Option (Hint (prods F.cout.tys)) := look (Tl k)
noncomputable abbrev body : Code := Go.Proofs.Try.f81.body.getD .skip
theorem s7 (k : Nat) (x : prods c7.tys) : offer_Check.l7 (k + 1) x.1 x.2.1 x.2.2.1 x.2.2.2.1 x.2.2.2.2.1 x.2.2.2.2.2 = segK (Γ k) F (T k) body 7 (c7.st x) := by kernel_rfl
theorem main (k : Nat) (x : prods (con 0).cin.tys) : offer_Check.f k x = goK (Γ k) F (T k) 2000 [.code body] ((con 0).cin.st x) := by kernel_rfl
theorem okΓ (k : Nat) : ΓOk Go.Proofs.Try.prog (Γ k) := Γcons (offer_named.ok k) ⟨Go.Proofs.Try.f94, by kernel_rfl, by kernel_rfl, by kernel_rfl⟩ (Γnil)
theorem ok (k : Nat) : ConSound Go.Proofs.Try.prog 81 (con k) := con_sound (Γ := Γ) (fn := Go.Proofs.Try.f81) (body := body) (cin := (con 0).cin) (F := F) (T := T) follows (by kernel_rfl) (by kernel_rfl) (by kernel_rfl) (by kernel_rfl) (by kernel_rfl) (by decide +kernel) (by kernel_rfl) (by kernel_rfl) (tzero ⟨fun x => rfl, trivial⟩) k (fun m _ => okΓ m) (fun m _ => tstep ⟨fun x => s7 m x, trivial⟩) (fun x y h => (main k x).symm.trans h)
end offer_Check
namespace offer_Most
noncomputable abbrev con (k : Nat) : Con := ⟨⟨[(0, .av Y7)], []⟩, ⟨[(0, .l (.val (.int .i64)))], []⟩, fun x => offer_Most.f k x⟩
noncomputable abbrev Γ (k : Nat) : FuncId → Option Con := look []
abbrev F : Fin Go.Proofs.Try.prog := ⟨⟨[(0, .l (.val (.int .i64)))], []⟩, [], [.tmp 2]⟩
abbrev c3 : Cut := ⟨[(3, .l (.val (.int .i64))), (7, .l (.val (.list 72 Y0))), (8, .l (.val (.int .i64))), (9, .l (.val (.int .i64)))], []⟩
noncomputable abbrev Tl (k : Nat) : List (Nat × Hint (prods F.cout.tys)) := [(3, ⟨c3, fun x => offer_Most.l3 k x.1 x.2.1 x.2.2.1 x.2.2.2⟩)]
noncomputable abbrev T (k : Nat) : Nat → Option (Hint (prods F.cout.tys)) := look (Tl k)
noncomputable abbrev body : Code := Go.Proofs.Try.f64.body.getD .skip
theorem s3 (k : Nat) (x : prods c3.tys) : offer_Most.l3 (k + 1) x.1 x.2.1 x.2.2.1 x.2.2.2 = segK (Γ k) F (T k) body 3 (c3.st x) := by kernel_rfl
theorem main (k : Nat) (x : prods (con 0).cin.tys) : offer_Most.f k x = goK (Γ k) F (T k) 2000 [.code body] ((con 0).cin.st x) := by kernel_rfl
theorem okΓ (k : Nat) : ΓOk Go.Proofs.Try.prog (Γ k) := Γnil
theorem ok (k : Nat) : ConSound Go.Proofs.Try.prog 64 (con k) := con_sound (Γ := Γ) (fn := Go.Proofs.Try.f64) (body := body) (cin := (con 0).cin) (F := F) (T := T) follows (by kernel_rfl) (by kernel_rfl) (by kernel_rfl) (by kernel_rfl) (by kernel_rfl) (by decide +kernel) (by kernel_rfl) (by kernel_rfl) (tzero ⟨fun x => rfl, trivial⟩) k (fun m _ => okΓ m) (fun m _ => tstep ⟨fun x => s3 m x, trivial⟩) (fun x y h => (main k x).symm.trans h)
end offer_Most
namespace dual_Check
noncomputable abbrev con (k : Nat) : Con := ⟨⟨[(0, .av Y10)], []⟩, ⟨[(0, .l (.val (.int .i64)))], []⟩, fun x => dual_Check.f k x⟩
noncomputable abbrev Γ (k : Nat) : FuncId → Option Con := look [(46, unit_CheckState.con k), (64, offer_Most.con k), (81, offer_Check.con k)]
abbrev F : Fin Go.Proofs.Try.prog := ⟨⟨[(0, .l (.val (.int .i64)))], []⟩, [], [.tmp 2]⟩
noncomputable abbrev Tl (k : Nat) : List (Nat × Hint (prods F.cout.tys)) := []
noncomputable abbrev T (k : Nat) : Nat → Option (Hint (prods F.cout.tys)) := look (Tl k)
noncomputable abbrev body : Code := Go.Proofs.Try.f53.body.getD .skip
theorem main (k : Nat) (x : prods (con 0).cin.tys) : dual_Check.f k x = goK (Γ k) F (T k) 2000 [.code body] ((con 0).cin.st x) := by kernel_rfl
theorem okΓ (k : Nat) : ΓOk Go.Proofs.Try.prog (Γ k) := Γcons (unit_CheckState.ok k) ⟨Go.Proofs.Try.f46, by kernel_rfl, by kernel_rfl, by kernel_rfl⟩ (Γcons (offer_Most.ok k) ⟨Go.Proofs.Try.f64, by kernel_rfl, by kernel_rfl, by kernel_rfl⟩ (Γcons (offer_Check.ok k) ⟨Go.Proofs.Try.f81, by kernel_rfl, by kernel_rfl, by kernel_rfl⟩ (Γnil)))
theorem ok (k : Nat) : ConSound Go.Proofs.Try.prog 53 (con k) := con_sound (Γ := Γ) (fn := Go.Proofs.Try.f53) (body := body) (cin := (con 0).cin) (F := F) (T := T) follows (by kernel_rfl) (by kernel_rfl) (by kernel_rfl) (by kernel_rfl) (by kernel_rfl) (by decide +kernel) (by kernel_rfl) (by kernel_rfl) (tzero trivial) k (fun m _ => okΓ m) (fun m _ => tstep trivial) (fun x y h => (main k x).symm.trans h)
end dual_Check
namespace dual_CheckAll
noncomputable abbrev con (k : Nat) : Con := ⟨⟨[(0, .l (.val (.list 33 Y10))), (1, .l (.val (.list 3 (.int .i64))))], []⟩, ⟨[(0, .l (.val (.int .i64)))], []⟩, fun x => dual_CheckAll.f k x.1 x.2⟩
noncomputable abbrev Γ (k : Nat) : FuncId → Option Con := look [(53, dual_Check.con k)]
abbrev F : Fin Go.Proofs.Try.prog := ⟨⟨[(0, .l (.val (.int .i64)))], []⟩, [], [.tmp 4]⟩
abbrev c4 : Cut := ⟨[(0, .l (.val (.list 33 Y10))), (1, .l (.val (.list 3 (.int .i64)))), (20, .l (.val (.list 33 Y10))), (21, .l (.val (.int .i64))), (22, .l (.val (.int .i64)))], []⟩
abbrev c10 : Cut := ⟨[(0, .l (.val (.list 33 Y10))), (1, .l (.val (.list 3 (.int .i64)))), (6, .l (.ptr 7000000 0)), (20, .l (.val (.list 33 Y10))), (21, .l (.val (.int .i64))), (22, .l (.val (.int .i64))), (34, .l (.val (.list 33 Y10))), (35, .l (.val (.int .i64))), (36, .l (.val (.int .i64)))], [(7000000, .box 33 [.val .str, .val (.int .i64), .val (.int .i64), .val (.int .i64), .val (.int .i64), .val (.int .i64), .val (.int .i64), .val (.int .i64), .val .str, .val (.list 72 Y0), .val .bool, .val (.int .i64), .val (.int .i64)])]⟩
abbrev c17 : Cut := ⟨[(49, .l (.val (.list 3 (.int .i64)))), (50, .l (.val (.int .i64))), (51, .l (.val (.int .i64)))], []⟩
noncomputable abbrev Tl (k : Nat) : List (Nat × Hint (prods F.cout.tys)) := [(4, ⟨c4, fun x => dual_CheckAll.l4 k x.1 x.2.1 x.2.2.1 x.2.2.2.1 x.2.2.2.2⟩), (10, ⟨c10, fun x => dual_CheckAll.l10 k x.1 x.2.1 x.2.2.1 x.2.2.2.1 x.2.2.2.2.1 x.2.2.2.2.2.1 x.2.2.2.2.2.2.1 x.2.2.2.2.2.2.2.1 x.2.2.2.2.2.2.2.2.1 x.2.2.2.2.2.2.2.2.2.1 x.2.2.2.2.2.2.2.2.2.2.1 x.2.2.2.2.2.2.2.2.2.2.2.1 x.2.2.2.2.2.2.2.2.2.2.2.2.1 x.2.2.2.2.2.2.2.2.2.2.2.2.2.1 x.2.2.2.2.2.2.2.2.2.2.2.2.2.2.1 x.2.2.2.2.2.2.2.2.2.2.2.2.2.2.2.1 x.2.2.2.2.2.2.2.2.2.2.2.2.2.2.2.2.1 x.2.2.2.2.2.2.2.2.2.2.2.2.2.2.2.2.2.1 x.2.2.2.2.2.2.2.2.2.2.2.2.2.2.2.2.2.2.1 x.2.2.2.2.2.2.2.2.2.2.2.2.2.2.2.2.2.2.2.1 x.2.2.2.2.2.2.2.2.2.2.2.2.2.2.2.2.2.2.2.2⟩), (17, ⟨c17, fun x => dual_CheckAll.l17 k x.1 x.2.1 x.2.2⟩)]
noncomputable abbrev T (k : Nat) : Nat → Option (Hint (prods F.cout.tys)) := look (Tl k)
noncomputable abbrev body : Code := Go.Proofs.Try.f41.body.getD .skip
theorem s4 (k : Nat) (x : prods c4.tys) : dual_CheckAll.l4 (k + 1) x.1 x.2.1 x.2.2.1 x.2.2.2.1 x.2.2.2.2 = segK (Γ k) F (T k) body 4 (c4.st x) := by kernel_rfl
theorem s10 (k : Nat) (x : prods c10.tys) : dual_CheckAll.l10 (k + 1) x.1 x.2.1 x.2.2.1 x.2.2.2.1 x.2.2.2.2.1 x.2.2.2.2.2.1 x.2.2.2.2.2.2.1 x.2.2.2.2.2.2.2.1 x.2.2.2.2.2.2.2.2.1 x.2.2.2.2.2.2.2.2.2.1 x.2.2.2.2.2.2.2.2.2.2.1 x.2.2.2.2.2.2.2.2.2.2.2.1 x.2.2.2.2.2.2.2.2.2.2.2.2.1 x.2.2.2.2.2.2.2.2.2.2.2.2.2.1 x.2.2.2.2.2.2.2.2.2.2.2.2.2.2.1 x.2.2.2.2.2.2.2.2.2.2.2.2.2.2.2.1 x.2.2.2.2.2.2.2.2.2.2.2.2.2.2.2.2.1 x.2.2.2.2.2.2.2.2.2.2.2.2.2.2.2.2.2.1 x.2.2.2.2.2.2.2.2.2.2.2.2.2.2.2.2.2.2.1 x.2.2.2.2.2.2.2.2.2.2.2.2.2.2.2.2.2.2.2.1 x.2.2.2.2.2.2.2.2.2.2.2.2.2.2.2.2.2.2.2.2 = segK (Γ k) F (T k) body 10 (c10.st x) := by kernel_rfl
theorem s17 (k : Nat) (x : prods c17.tys) : dual_CheckAll.l17 (k + 1) x.1 x.2.1 x.2.2 = segK (Γ k) F (T k) body 17 (c17.st x) := by kernel_rfl
theorem main (k : Nat) (x : prods (con 0).cin.tys) : dual_CheckAll.f k x.1 x.2 = goK (Γ k) F (T k) 2000 [.code body] ((con 0).cin.st x) := by kernel_rfl
theorem okΓ (k : Nat) : ΓOk Go.Proofs.Try.prog (Γ k) := Γcons (dual_Check.ok k) ⟨Go.Proofs.Try.f53, by kernel_rfl, by kernel_rfl, by kernel_rfl⟩ (Γnil)
theorem ok (k : Nat) : ConSound Go.Proofs.Try.prog 41 (con k) := con_sound (Γ := Γ) (fn := Go.Proofs.Try.f41) (body := body) (cin := (con 0).cin) (F := F) (T := T) follows (by kernel_rfl) (by kernel_rfl) (by kernel_rfl) (by kernel_rfl) (by kernel_rfl) (by decide +kernel) (by kernel_rfl) (by kernel_rfl) (tzero ⟨fun x => rfl, fun x => rfl, fun x => rfl, trivial⟩) k (fun m _ => okΓ m) (fun m _ => tstep ⟨fun x => s4 m x, fun x => s10 m x, fun x => s17 m x, trivial⟩) (fun x y h => (main k x).symm.trans h)
end dual_CheckAll
namespace dual_cut
noncomputable abbrev con (k : Nat) : Con := ⟨⟨[(0, .av Y10), (1, .av Y8)], []⟩, ⟨[(0, .av Y8)], []⟩, fun x => dual_cut.f k x.1 x.2⟩
noncomputable abbrev Γ (k : Nat) : FuncId → Option Con := look []
abbrev F : Fin Go.Proofs.Try.prog := ⟨⟨[(0, .av Y8)], []⟩, [], [.cell 4 31]⟩
noncomputable abbrev Tl (k : Nat) : List (Nat × Hint (prods F.cout.tys)) := []
noncomputable abbrev T (k : Nat) : Nat → Option (Hint (prods F.cout.tys)) := look (Tl k)
noncomputable abbrev body : Code := Go.Proofs.Try.f54.body.getD .skip
theorem main (k : Nat) (x : prods (con 0).cin.tys) : dual_cut.f k x.1 x.2 = goK (Γ k) F (T k) 2000 [.code body] ((con 0).cin.st x) := by kernel_rfl
theorem okΓ (k : Nat) : ΓOk Go.Proofs.Try.prog (Γ k) := Γnil
theorem ok (k : Nat) : ConSound Go.Proofs.Try.prog 54 (con k) := con_sound (Γ := Γ) (fn := Go.Proofs.Try.f54) (body := body) (cin := (con 0).cin) (F := F) (T := T) follows (by kernel_rfl) (by kernel_rfl) (by kernel_rfl) (by kernel_rfl) (by kernel_rfl) (by decide +kernel) (by kernel_rfl) (by kernel_rfl) (tzero trivial) k (fun m _ => okΓ m) (fun m _ => tstep trivial) (fun x y h => (main k x).symm.trans h)
end dual_cut
namespace offer_Supply
noncomputable abbrev con (k : Nat) : Con := ⟨⟨[(0, .av Y7), (1, .l (.val (.int .i64)))], []⟩, ⟨[(0, .l (.val (.int .i64))), (1, .l (.val (.int .i64))), (2, .l (.val (.int .i64)))], []⟩, fun x => offer_Supply.f k x.1 x.2⟩
noncomputable abbrev Γ (k : Nat) : FuncId → Option Con := look [(81, offer_Check.con k)]
abbrev F : Fin Go.Proofs.Try.prog := ⟨⟨[(0, .l (.val (.int .i64))), (1, .l (.val (.int .i64))), (2, .l (.val (.int .i64)))], []⟩, [], [.tmp 4, .tmp 5, .tmp 6]⟩
abbrev c8 : Cut := ⟨[(1, .l (.val (.int .i64))), (8, .l (.val (.int .i64))), (9, .l (.val (.int .i64))), (24, .l (.val (.list 72 Y0))), (25, .l (.val (.int .i64))), (26, .l (.val (.int .i64)))], []⟩
abbrev c12 : Cut := ⟨[(1, .l (.val (.int .i64))), (8, .l (.val (.int .i64))), (9, .l (.val (.int .i64))), (11, .l (.ptr 7000000 0)), (24, .l (.val (.list 72 Y0))), (25, .l (.val (.int .i64))), (26, .l (.val (.int .i64)))], [(7000000, .box 72 [.val (.int .i64), .val (.int .i64)])]⟩
noncomputable abbrev Tl (k : Nat) : List (Nat × Hint (prods F.cout.tys)) := [(8, ⟨c8, fun x => offer_Supply.l8 k x.1 x.2.1 x.2.2.1 x.2.2.2.1 x.2.2.2.2.1 x.2.2.2.2.2⟩), (12, ⟨c12, fun x => offer_Supply.l12 k x.1 x.2.1 x.2.2.1 x.2.2.2.1 x.2.2.2.2.1 x.2.2.2.2.2.1 x.2.2.2.2.2.2.1 x.2.2.2.2.2.2.2⟩)]
noncomputable abbrev T (k : Nat) : Nat → Option (Hint (prods F.cout.tys)) := look (Tl k)
noncomputable abbrev body : Code := Go.Proofs.Try.f72.body.getD .skip
theorem s8 (k : Nat) (x : prods c8.tys) : offer_Supply.l8 (k + 1) x.1 x.2.1 x.2.2.1 x.2.2.2.1 x.2.2.2.2.1 x.2.2.2.2.2 = segK (Γ k) F (T k) body 8 (c8.st x) := by kernel_rfl
theorem s12 (k : Nat) (x : prods c12.tys) : offer_Supply.l12 (k + 1) x.1 x.2.1 x.2.2.1 x.2.2.2.1 x.2.2.2.2.1 x.2.2.2.2.2.1 x.2.2.2.2.2.2.1 x.2.2.2.2.2.2.2 = segK (Γ k) F (T k) body 12 (c12.st x) := by kernel_rfl
theorem main (k : Nat) (x : prods (con 0).cin.tys) : offer_Supply.f k x.1 x.2 = goK (Γ k) F (T k) 2000 [.code body] ((con 0).cin.st x) := by kernel_rfl
theorem okΓ (k : Nat) : ΓOk Go.Proofs.Try.prog (Γ k) := Γcons (offer_Check.ok k) ⟨Go.Proofs.Try.f81, by kernel_rfl, by kernel_rfl, by kernel_rfl⟩ (Γnil)
theorem ok (k : Nat) : ConSound Go.Proofs.Try.prog 72 (con k) := con_sound (Γ := Γ) (fn := Go.Proofs.Try.f72) (body := body) (cin := (con 0).cin) (F := F) (T := T) follows (by kernel_rfl) (by kernel_rfl) (by kernel_rfl) (by kernel_rfl) (by kernel_rfl) (by decide +kernel) (by kernel_rfl) (by kernel_rfl) (tzero ⟨fun x => rfl, fun x => rfl, trivial⟩) k (fun m _ => okΓ m) (fun m _ => tstep ⟨fun x => s8 m x, fun x => s12 m x, trivial⟩) (fun x y h => (main k x).symm.trans h)
end offer_Supply
namespace offer_Cost
noncomputable abbrev con (k : Nat) : Con := ⟨⟨[(0, .av Y7), (1, .l (.val (.int .i64)))], []⟩, ⟨[(0, .l (.val (.int .i64))), (1, .l (.val (.int .i64)))], []⟩, fun x => offer_Cost.f k x.1 x.2⟩
noncomputable abbrev Γ (k : Nat) : FuncId → Option Con := look [(64, offer_Most.con k), (81, offer_Check.con k)]
abbrev F : Fin Go.Proofs.Try.prog := ⟨⟨[(0, .l (.val (.int .i64))), (1, .l (.val (.int .i64)))], []⟩, [], [.tmp 4, .tmp 5]⟩
abbrev c8 : Cut := ⟨[(1, .l (.val (.int .i64))), (7, .l (.val (.int .i64))), (25, .l (.val (.list 72 Y0))), (26, .l (.val (.int .i64))), (27, .l (.val (.int .i64)))], []⟩
noncomputable abbrev Tl (k : Nat) : List (Nat × Hint (prods F.cout.tys)) := [(8, ⟨c8, fun x => offer_Cost.l8 k x.1 x.2.1 x.2.2.1 x.2.2.2.1 x.2.2.2.2⟩)]
noncomputable abbrev T (k : Nat) : Nat → Option (Hint (prods F.cout.tys)) := look (Tl k)
noncomputable abbrev body : Code := Go.Proofs.Try.f62.body.getD .skip
theorem s8 (k : Nat) (x : prods c8.tys) : offer_Cost.l8 (k + 1) x.1 x.2.1 x.2.2.1 x.2.2.2.1 x.2.2.2.2 = segK (Γ k) F (T k) body 8 (c8.st x) := by kernel_rfl
theorem main (k : Nat) (x : prods (con 0).cin.tys) : offer_Cost.f k x.1 x.2 = goK (Γ k) F (T k) 2000 [.code body] ((con 0).cin.st x) := by kernel_rfl
theorem okΓ (k : Nat) : ΓOk Go.Proofs.Try.prog (Γ k) := Γcons (offer_Most.ok k) ⟨Go.Proofs.Try.f64, by kernel_rfl, by kernel_rfl, by kernel_rfl⟩ (Γcons (offer_Check.ok k) ⟨Go.Proofs.Try.f81, by kernel_rfl, by kernel_rfl, by kernel_rfl⟩ (Γnil))
theorem ok (k : Nat) : ConSound Go.Proofs.Try.prog 62 (con k) := con_sound (Γ := Γ) (fn := Go.Proofs.Try.f62) (body := body) (cin := (con 0).cin) (F := F) (T := T) follows (by kernel_rfl) (by kernel_rfl) (by kernel_rfl) (by kernel_rfl) (by kernel_rfl) (by decide +kernel) (by kernel_rfl) (by kernel_rfl) (tzero ⟨fun x => rfl, trivial⟩) k (fun m _ => okΓ m) (fun m _ => tstep ⟨fun x => s8 m x, trivial⟩) (fun x y h => (main k x).symm.trans h)
end offer_Cost
namespace dual_earn
noncomputable abbrev con (k : Nat) : Con := ⟨⟨[(0, .av Y10), (1, .l (.val (.int .i64)))], []⟩, ⟨[(0, .l (.val (.int .i64))), (1, .l (.val (.int .i64)))], []⟩, fun x => dual_earn.f k x.1 x.2⟩
noncomputable abbrev Γ (k : Nat) : FuncId → Option Con := look [(62, offer_Cost.con k), (72, offer_Supply.con k)]
abbrev F : Fin Go.Proofs.Try.prog := ⟨⟨[(0, .l (.val (.int .i64))), (1, .l (.val (.int .i64)))], []⟩, [], [.tmp 4, .tmp 5]⟩
noncomputable abbrev Tl (k : Nat) : List (Nat × Hint (prods F.cout.tys)) := []
noncomputable abbrev T (k : Nat) : Nat → Option (Hint (prods F.cout.tys)) := look (Tl k)
noncomputable abbrev body : Code := Go.Proofs.Try.f55.body.getD .skip
theorem main (k : Nat) (x : prods (con 0).cin.tys) : dual_earn.f k x.1 x.2 = goK (Γ k) F (T k) 2000 [.code body] ((con 0).cin.st x) := by kernel_rfl
theorem okΓ (k : Nat) : ΓOk Go.Proofs.Try.prog (Γ k) := Γcons (offer_Cost.ok k) ⟨Go.Proofs.Try.f62, by kernel_rfl, by kernel_rfl, by kernel_rfl⟩ (Γcons (offer_Supply.ok k) ⟨Go.Proofs.Try.f72, by kernel_rfl, by kernel_rfl, by kernel_rfl⟩ (Γnil))
theorem ok (k : Nat) : ConSound Go.Proofs.Try.prog 55 (con k) := con_sound (Γ := Γ) (fn := Go.Proofs.Try.f55) (body := body) (cin := (con 0).cin) (F := F) (T := T) follows (by kernel_rfl) (by kernel_rfl) (by kernel_rfl) (by kernel_rfl) (by kernel_rfl) (by decide +kernel) (by kernel_rfl) (by kernel_rfl) (tzero trivial) k (fun m _ => okΓ m) (fun m _ => tstep trivial) (fun x y h => (main k x).symm.trans h)
end dual_earn
namespace unit_Next
noncomputable abbrev con (k : Nat) : Con := ⟨⟨[(0, .av Y6), (1, .av Y8), (2, .l (.val (.int .i64)))], []⟩, ⟨[(0, .av Y8), (1, .l (.val (.int .i64))), (2, .l (.val (.int .i64)))], []⟩, fun x => unit_Next.f k x.1 x.2.1 x.2.2⟩
noncomputable abbrev Γ (k : Nat) : FuncId → Option Con := look [(46, unit_CheckState.con k)]
abbrev F : Fin Go.Proofs.Try.prog := ⟨⟨[(0, .av Y8), (1, .l (.val (.int .i64))), (2, .l (.val (.int .i64)))], []⟩, [], [.cell 6 31, .tmp 7, .tmp 8]⟩
noncomputable abbrev Tl (k : Nat) : List (Nat × Hint (prods F.cout.tys)) := []
noncomputable abbrev T (k : Nat) : Nat → Option (Hint (prods F.cout.tys)) := look (Tl k)
noncomputable abbrev body : Code := Go.Proofs.Try.f47.body.getD .skip
theorem main (k : Nat) (x : prods (con 0).cin.tys) : unit_Next.f k x.1 x.2.1 x.2.2 = goK (Γ k) F (T k) 2000 [.code body] ((con 0).cin.st x) := by kernel_rfl
theorem okΓ (k : Nat) : ΓOk Go.Proofs.Try.prog (Γ k) := Γcons (unit_CheckState.ok k) ⟨Go.Proofs.Try.f46, by kernel_rfl, by kernel_rfl, by kernel_rfl⟩ (Γnil)
theorem ok (k : Nat) : ConSound Go.Proofs.Try.prog 47 (con k) := con_sound (Γ := Γ) (fn := Go.Proofs.Try.f47) (body := body) (cin := (con 0).cin) (F := F) (T := T) follows (by kernel_rfl) (by kernel_rfl) (by kernel_rfl) (by kernel_rfl) (by kernel_rfl) (by decide +kernel) (by kernel_rfl) (by kernel_rfl) (tzero trivial) k (fun m _ => okΓ m) (fun m _ => tstep trivial) (fun x y h => (main k x).symm.trans h)
end unit_Next
namespace dual_put
noncomputable abbrev con (k : Nat) : Con := ⟨⟨[(0, .l (.row 9000000)), (1, .av Y11)], [(9000000, .row 117 Y11)]⟩, ⟨[(0, .l (.row 0))], [(9000000, .gone), (0, .row 117 Y11)]⟩, fun x => dual_put.f k x.1 x.2⟩
noncomputable abbrev Γ (k : Nat) : FuncId → Option Con := look []
abbrev F : Fin Go.Proofs.Try.prog := ⟨⟨[(0, .l (.row 0))], [(9000000, .gone), (0, .row 117 Y11)]⟩, [9000000], [.tmp 4]⟩
abbrev c2 : Cut := ⟨[(0, .l (.row 9000000)), (3, .l (.ptr 7000000 0)), (7, .l (.row 9000000)), (8, .l (.val (.int .i64))), (9, .l (.val (.int .i64)))], [(9000000, .row 117 Y11), (7000000, .box 117 [.val .bool, .val (.int .i64), .val (.int .i64), .val (.int .i64), .val (.int .i64)])]⟩
noncomputable abbrev Tl (k : Nat) : List (Nat × Hint (prods F.cout.tys)) := [(2, ⟨c2, fun x => dual_put.l2 k x.1 x.2.1 x.2.2.1 x.2.2.2.1 x.2.2.2.2.1 x.2.2.2.2.2.1 x.2.2.2.2.2.2.1 x.2.2.2.2.2.2.2⟩)]
noncomputable abbrev T (k : Nat) : Nat → Option (Hint (prods F.cout.tys)) := look (Tl k)
noncomputable abbrev body : Code := Go.Proofs.Try.f56.body.getD .skip
theorem s2 (k : Nat) (x : prods c2.tys) : dual_put.l2 (k + 1) x.1 x.2.1 x.2.2.1 x.2.2.2.1 x.2.2.2.2.1 x.2.2.2.2.2.1 x.2.2.2.2.2.2.1 x.2.2.2.2.2.2.2 = segK (Γ k) F (T k) body 2 (c2.st x) := by kernel_rfl
theorem main (k : Nat) (x : prods (con 0).cin.tys) : dual_put.f k x.1 x.2 = goK (Γ k) F (T k) 2000 [.code body] ((con 0).cin.st x) := by kernel_rfl
theorem okΓ (k : Nat) : ΓOk Go.Proofs.Try.prog (Γ k) := Γnil
theorem ok (k : Nat) : ConSound Go.Proofs.Try.prog 56 (con k) := con_sound (Γ := Γ) (fn := Go.Proofs.Try.f56) (body := body) (cin := (con 0).cin) (F := F) (T := T) follows (by kernel_rfl) (by kernel_rfl) (by kernel_rfl) (by kernel_rfl) (by kernel_rfl) (by decide +kernel) (by kernel_rfl) (by kernel_rfl) (tzero ⟨fun x => rfl, trivial⟩) k (fun m _ => okΓ m) (fun m _ => tstep ⟨fun x => s2 m x, trivial⟩) (fun x y h => (main k x).symm.trans h)
end dual_put
namespace dual_Single
noncomputable abbrev con (k : Nat) : Con := ⟨⟨[(0, .av Y10), (1, .l (.val (.list 3 (.int .i64))))], []⟩, ⟨[(0, .l (.val (.list 3 (.int .i64)))), (1, .l (.val (.int .i64))), (2, .l (.val (.int .i64)))], []⟩, fun x => dual_Single.f k x.1 x.2⟩
noncomputable abbrev Γ (k : Nat) : FuncId → Option Con := look [(47, unit_Next.con k), (53, dual_Check.con k), (54, dual_cut.con k), (55, dual_earn.con k), (56, dual_put.con k)]
abbrev F : Fin Go.Proofs.Try.prog := ⟨⟨[(0, .l (.val (.list 3 (.int .i64)))), (1, .l (.val (.int .i64))), (2, .l (.val (.int .i64)))], []⟩, [], [.tmp 4, .tmp 5, .tmp 6]⟩
abbrev c7 : Cut := ⟨[(1, .l (.val (.list 3 (.int .i64)))), (2, .l (.ptr 7000000 0)), (40, .l (.val (.list 3 (.int .i64)))), (41, .l (.val (.int .i64))), (42, .l (.val (.int .i64)))], [(7000000, .box 33 [.val .str, .val (.int .i64), .val (.int .i64), .val (.int .i64), .val (.int .i64), .val (.int .i64), .val (.int .i64), .val (.int .i64), .val .str, .val (.list 72 Y0), .val .bool, .val (.int .i64), .val (.int .i64)])]⟩
abbrev c14 : Cut := ⟨[(1, .l (.val (.list 3 (.int .i64)))), (2, .l (.ptr 7000000 0)), (10, .l (.row 7000001)), (60, .l (.val (.list 3 (.int .i64)))), (61, .l (.val (.int .i64))), (62, .l (.val (.int .i64)))], [(7000000, .box 33 [.val .str, .val (.int .i64), .val (.int .i64), .val (.int .i64), .val (.int .i64), .val (.int .i64), .val (.int .i64), .val (.int .i64), .val .str, .val (.list 72 Y0), .val .bool, .val (.int .i64), .val (.int .i64)]), (7000001, .row 118 (.list 117 Y11))]⟩
abbrev c19 : Cut := ⟨[(1, .l (.val (.list 3 (.int .i64)))), (2, .l (.ptr 7000000 0)), (10, .l (.row 7000001)), (13, .l (.val (.int .i64))), (14, .l (.val (.int .i64))), (15, .l (.row 7000502)), (60, .l (.val (.list 3 (.int .i64)))), (61, .l (.val (.int .i64))), (62, .l (.val (.int .i64))), (77, .l (.val (.list 117 Y11))), (78, .l (.val (.int .i64))), (79, .l (.val (.int .i64)))], [(7000000, .box 33 [.val .str, .val (.int .i64), .val (.int .i64), .val (.int .i64), .val (.int .i64), .val (.int .i64), .val (.int .i64), .val (.int .i64), .val .str, .val (.list 72 Y0), .val .bool, .val (.int .i64), .val (.int .i64)]), (7000001, .row 118 (.list 117 Y11)), (7000502, .row 117 Y11)]⟩
abbrev c24 : Cut := ⟨[(1, .l (.val (.list 3 (.int .i64)))), (2, .l (.ptr 7000000 0)), (10, .l (.row 7000001)), (13, .l (.val (.int .i64))), (14, .l (.val (.int .i64))), (15, .l (.row 7000002)), (16, .l (.val (.int .i64))), (17, .l (.ptr 7000003 0)), (60, .l (.val (.list 3 (.int .i64)))), (61, .l (.val (.int .i64))), (62, .l (.val (.int .i64))), (77, .l (.val (.list 117 Y11))), (78, .l (.val (.int .i64))), (79, .l (.val (.int .i64)))], [(7000000, .box 33 [.val .str, .val (.int .i64), .val (.int .i64), .val (.int .i64), .val (.int .i64), .val (.int .i64), .val (.int .i64), .val (.int .i64), .val .str, .val (.list 72 Y0), .val .bool, .val (.int .i64), .val (.int .i64)]), (7000001, .row 118 (.list 117 Y11)), (7000002, .row 117 Y11), (7000003, .box 117 [.val .bool, .val (.int .i64), .val (.int .i64), .val (.int .i64), .val (.int .i64)])]⟩
abbrev c33 : Cut := ⟨[(1, .l (.val (.list 3 (.int .i64)))), (2, .l (.ptr 7000000 0)), (10, .l (.row 7000001)), (24, .l (.val (.list 117 Y11))), (25, .l (.val (.int .i64))), (141, .l (.val (.list 117 Y11))), (142, .l (.val (.int .i64))), (143, .l (.val (.int .i64)))], [(7000000, .box 33 [.val .str, .val (.int .i64), .val (.int .i64), .val (.int .i64), .val (.int .i64), .val (.int .i64), .val (.int .i64), .val (.int .i64), .val .str, .val (.list 72 Y0), .val .bool, .val (.int .i64), .val (.int .i64)]), (7000001, .row 118 (.list 117 Y11))]⟩
abbrev c41 : Cut := ⟨[(1, .l (.val (.list 3 (.int .i64)))), (2, .l (.ptr 7000000 0)), (10, .l (.row 7000001)), (25, .l (.val (.int .i64))), (28, .l (.val (.int .i64))), (29, .l (.row 7000002)), (30, .l (.val (.int .i64)))], [(7000000, .box 33 [.val .str, .val (.int .i64), .val (.int .i64), .val (.int .i64), .val (.int .i64), .val (.int .i64), .val (.int .i64), .val (.int .i64), .val .str, .val (.list 72 Y0), .val .bool, .val (.int .i64), .val (.int .i64)]), (7000001, .row 118 (.list 117 Y11)), (7000002, .row 3 (.int .i64))]⟩
noncomputable abbrev Tl (k : Nat) : List (Nat × Hint (prods F.cout.tys)) := [(7, ⟨c7, fun x => dual_Single.l7 k x.1 x.2.1 x.2.2.1 x.2.2.2.1 x.2.2.2.2.1 x.2.2.2.2.2.1 x.2.2.2.2.2.2.1 x.2.2.2.2.2.2.2.1 x.2.2.2.2.2.2.2.2.1 x.2.2.2.2.2.2.2.2.2.1 x.2.2.2.2.2.2.2.2.2.2.1 x.2.2.2.2.2.2.2.2.2.2.2.1 x.2.2.2.2.2.2.2.2.2.2.2.2.1 x.2.2.2.2.2.2.2.2.2.2.2.2.2.1 x.2.2.2.2.2.2.2.2.2.2.2.2.2.2.1 x.2.2.2.2.2.2.2.2.2.2.2.2.2.2.2.1 x.2.2.2.2.2.2.2.2.2.2.2.2.2.2.2.2⟩), (14, ⟨c14, fun x => dual_Single.l14 k x.1 x.2.1 x.2.2.1 x.2.2.2.1 x.2.2.2.2.1 x.2.2.2.2.2.1 x.2.2.2.2.2.2.1 x.2.2.2.2.2.2.2.1 x.2.2.2.2.2.2.2.2.1 x.2.2.2.2.2.2.2.2.2.1 x.2.2.2.2.2.2.2.2.2.2.1 x.2.2.2.2.2.2.2.2.2.2.2.1 x.2.2.2.2.2.2.2.2.2.2.2.2.1 x.2.2.2.2.2.2.2.2.2.2.2.2.2.1 x.2.2.2.2.2.2.2.2.2.2.2.2.2.2.1 x.2.2.2.2.2.2.2.2.2.2.2.2.2.2.2.1 x.2.2.2.2.2.2.2.2.2.2.2.2.2.2.2.2.1 x.2.2.2.2.2.2.2.2.2.2.2.2.2.2.2.2.2⟩), (19, ⟨c19, fun x => dual_Single.l19 k x.1 x.2.1 x.2.2.1 x.2.2.2.1 x.2.2.2.2.1 x.2.2.2.2.2.1 x.2.2.2.2.2.2.1 x.2.2.2.2.2.2.2.1 x.2.2.2.2.2.2.2.2.1 x.2.2.2.2.2.2.2.2.2.1 x.2.2.2.2.2.2.2.2.2.2.1 x.2.2.2.2.2.2.2.2.2.2.2.1 x.2.2.2.2.2.2.2.2.2.2.2.2.1 x.2.2.2.2.2.2.2.2.2.2.2.2.2.1 x.2.2.2.2.2.2.2.2.2.2.2.2.2.2.1 x.2.2.2.2.2.2.2.2.2.2.2.2.2.2.2.1 x.2.2.2.2.2.2.2.2.2.2.2.2.2.2.2.2.1 x.2.2.2.2.2.2.2.2.2.2.2.2.2.2.2.2.2.1 x.2.2.2.2.2.2.2.2.2.2.2.2.2.2.2.2.2.2.1 x.2.2.2.2.2.2.2.2.2.2.2.2.2.2.2.2.2.2.2.1 x.2.2.2.2.2.2.2.2.2.2.2.2.2.2.2.2.2.2.2.2.1 x.2.2.2.2.2.2.2.2.2.2.2.2.2.2.2.2.2.2.2.2.2.1 x.2.2.2.2.2.2.2.2.2.2.2.2.2.2.2.2.2.2.2.2.2.2.1 x.2.2.2.2.2.2.2.2.2.2.2.2.2.2.2.2.2.2.2.2.2.2.2⟩), (24, ⟨c24, fun x => dual_Single.l24 k x.1 x.2.1 x.2.2.1 x.2.2.2.1 x.2.2.2.2.1 x.2.2.2.2.2.1 x.2.2.2.2.2.2.1 x.2.2.2.2.2.2.2.1 x.2.2.2.2.2.2.2.2.1 x.2.2.2.2.2.2.2.2.2.1 x.2.2.2.2.2.2.2.2.2.2.1 x.2.2.2.2.2.2.2.2.2.2.2.1 x.2.2.2.2.2.2.2.2.2.2.2.2.1 x.2.2.2.2.2.2.2.2.2.2.2.2.2.1 x.2.2.2.2.2.2.2.2.2.2.2.2.2.2.1 x.2.2.2.2.2.2.2.2.2.2.2.2.2.2.2.1 x.2.2.2.2.2.2.2.2.2.2.2.2.2.2.2.2.1 x.2.2.2.2.2.2.2.2.2.2.2.2.2.2.2.2.2.1 x.2.2.2.2.2.2.2.2.2.2.2.2.2.2.2.2.2.2.1 x.2.2.2.2.2.2.2.2.2.2.2.2.2.2.2.2.2.2.2.1 x.2.2.2.2.2.2.2.2.2.2.2.2.2.2.2.2.2.2.2.2.1 x.2.2.2.2.2.2.2.2.2.2.2.2.2.2.2.2.2.2.2.2.2.1 x.2.2.2.2.2.2.2.2.2.2.2.2.2.2.2.2.2.2.2.2.2.2.1 x.2.2.2.2.2.2.2.2.2.2.2.2.2.2.2.2.2.2.2.2.2.2.2.1 x.2.2.2.2.2.2.2.2.2.2.2.2.2.2.2.2.2.2.2.2.2.2.2.2.1 x.2.2.2.2.2.2.2.2.2.2.2.2.2.2.2.2.2.2.2.2.2.2.2.2.2.1 x.2.2.2.2.2.2.2.2.2.2.2.2.2.2.2.2.2.2.2.2.2.2.2.2.2.2.1 x.2.2.2.2.2.2.2.2.2.2.2.2.2.2.2.2.2.2.2.2.2.2.2.2.2.2.2.1 x.2.2.2.2.2.2.2.2.2.2.2.2.2.2.2.2.2.2.2.2.2.2.2.2.2.2.2.2.1 x.2.2.2.2.2.2.2.2.2.2.2.2.2.2.2.2.2.2.2.2.2.2.2.2.2.2.2.2.2⟩), (33, ⟨c33, fun x => dual_Single.l33 k x.1 x.2.1 x.2.2.1 x.2.2.2.1 x.2.2.2.2.1 x.2.2.2.2.2.1 x.2.2.2.2.2.2.1 x.2.2.2.2.2.2.2.1 x.2.2.2.2.2.2.2.2.1 x.2.2.2.2.2.2.2.2.2.1 x.2.2.2.2.2.2.2.2.2.2.1 x.2.2.2.2.2.2.2.2.2.2.2.1 x.2.2.2.2.2.2.2.2.2.2.2.2.1 x.2.2.2.2.2.2.2.2.2.2.2.2.2.1 x.2.2.2.2.2.2.2.2.2.2.2.2.2.2.1 x.2.2.2.2.2.2.2.2.2.2.2.2.2.2.2.1 x.2.2.2.2.2.2.2.2.2.2.2.2.2.2.2.2.1 x.2.2.2.2.2.2.2.2.2.2.2.2.2.2.2.2.2.1 x.2.2.2.2.2.2.2.2.2.2.2.2.2.2.2.2.2.2.1 x.2.2.2.2.2.2.2.2.2.2.2.2.2.2.2.2.2.2.2⟩), (41, ⟨c41, fun x => dual_Single.l41 k x.1 x.2.1 x.2.2.1 x.2.2.2.1 x.2.2.2.2.1 x.2.2.2.2.2.1 x.2.2.2.2.2.2.1 x.2.2.2.2.2.2.2.1 x.2.2.2.2.2.2.2.2.1 x.2.2.2.2.2.2.2.2.2.1 x.2.2.2.2.2.2.2.2.2.2.1 x.2.2.2.2.2.2.2.2.2.2.2.1 x.2.2.2.2.2.2.2.2.2.2.2.2.1 x.2.2.2.2.2.2.2.2.2.2.2.2.2.1 x.2.2.2.2.2.2.2.2.2.2.2.2.2.2.1 x.2.2.2.2.2.2.2.2.2.2.2.2.2.2.2.1 x.2.2.2.2.2.2.2.2.2.2.2.2.2.2.2.2.1 x.2.2.2.2.2.2.2.2.2.2.2.2.2.2.2.2.2.1 x.2.2.2.2.2.2.2.2.2.2.2.2.2.2.2.2.2.2⟩)]
noncomputable abbrev T (k : Nat) : Nat → Option (Hint (prods F.cout.tys)) := look (Tl k)
noncomputable abbrev body : Code := Go.Proofs.Try.f26.body.getD .skip
theorem s7 (k : Nat) (x : prods c7.tys) : dual_Single.l7 (k + 1) x.1 x.2.1 x.2.2.1 x.2.2.2.1 x.2.2.2.2.1 x.2.2.2.2.2.1 x.2.2.2.2.2.2.1 x.2.2.2.2.2.2.2.1 x.2.2.2.2.2.2.2.2.1 x.2.2.2.2.2.2.2.2.2.1 x.2.2.2.2.2.2.2.2.2.2.1 x.2.2.2.2.2.2.2.2.2.2.2.1 x.2.2.2.2.2.2.2.2.2.2.2.2.1 x.2.2.2.2.2.2.2.2.2.2.2.2.2.1 x.2.2.2.2.2.2.2.2.2.2.2.2.2.2.1 x.2.2.2.2.2.2.2.2.2.2.2.2.2.2.2.1 x.2.2.2.2.2.2.2.2.2.2.2.2.2.2.2.2 = segK (Γ k) F (T k) body 7 (c7.st x) := by kernel_rfl
theorem s14 (k : Nat) (x : prods c14.tys) : dual_Single.l14 (k + 1) x.1 x.2.1 x.2.2.1 x.2.2.2.1 x.2.2.2.2.1 x.2.2.2.2.2.1 x.2.2.2.2.2.2.1 x.2.2.2.2.2.2.2.1 x.2.2.2.2.2.2.2.2.1 x.2.2.2.2.2.2.2.2.2.1 x.2.2.2.2.2.2.2.2.2.2.1 x.2.2.2.2.2.2.2.2.2.2.2.1 x.2.2.2.2.2.2.2.2.2.2.2.2.1 x.2.2.2.2.2.2.2.2.2.2.2.2.2.1 x.2.2.2.2.2.2.2.2.2.2.2.2.2.2.1 x.2.2.2.2.2.2.2.2.2.2.2.2.2.2.2.1 x.2.2.2.2.2.2.2.2.2.2.2.2.2.2.2.2.1 x.2.2.2.2.2.2.2.2.2.2.2.2.2.2.2.2.2 = segK (Γ k) F (T k) body 14 (c14.st x) := by kernel_rfl
theorem s19 (k : Nat) (x : prods c19.tys) : dual_Single.l19 (k + 1) x.1 x.2.1 x.2.2.1 x.2.2.2.1 x.2.2.2.2.1 x.2.2.2.2.2.1 x.2.2.2.2.2.2.1 x.2.2.2.2.2.2.2.1 x.2.2.2.2.2.2.2.2.1 x.2.2.2.2.2.2.2.2.2.1 x.2.2.2.2.2.2.2.2.2.2.1 x.2.2.2.2.2.2.2.2.2.2.2.1 x.2.2.2.2.2.2.2.2.2.2.2.2.1 x.2.2.2.2.2.2.2.2.2.2.2.2.2.1 x.2.2.2.2.2.2.2.2.2.2.2.2.2.2.1 x.2.2.2.2.2.2.2.2.2.2.2.2.2.2.2.1 x.2.2.2.2.2.2.2.2.2.2.2.2.2.2.2.2.1 x.2.2.2.2.2.2.2.2.2.2.2.2.2.2.2.2.2.1 x.2.2.2.2.2.2.2.2.2.2.2.2.2.2.2.2.2.2.1 x.2.2.2.2.2.2.2.2.2.2.2.2.2.2.2.2.2.2.2.1 x.2.2.2.2.2.2.2.2.2.2.2.2.2.2.2.2.2.2.2.2.1 x.2.2.2.2.2.2.2.2.2.2.2.2.2.2.2.2.2.2.2.2.2.1 x.2.2.2.2.2.2.2.2.2.2.2.2.2.2.2.2.2.2.2.2.2.2.1 x.2.2.2.2.2.2.2.2.2.2.2.2.2.2.2.2.2.2.2.2.2.2.2 = segK (Γ k) F (T k) body 19 (c19.st x) := by kernel_rfl
theorem s24 (k : Nat) (x : prods c24.tys) : dual_Single.l24 (k + 1) x.1 x.2.1 x.2.2.1 x.2.2.2.1 x.2.2.2.2.1 x.2.2.2.2.2.1 x.2.2.2.2.2.2.1 x.2.2.2.2.2.2.2.1 x.2.2.2.2.2.2.2.2.1 x.2.2.2.2.2.2.2.2.2.1 x.2.2.2.2.2.2.2.2.2.2.1 x.2.2.2.2.2.2.2.2.2.2.2.1 x.2.2.2.2.2.2.2.2.2.2.2.2.1 x.2.2.2.2.2.2.2.2.2.2.2.2.2.1 x.2.2.2.2.2.2.2.2.2.2.2.2.2.2.1 x.2.2.2.2.2.2.2.2.2.2.2.2.2.2.2.1 x.2.2.2.2.2.2.2.2.2.2.2.2.2.2.2.2.1 x.2.2.2.2.2.2.2.2.2.2.2.2.2.2.2.2.2.1 x.2.2.2.2.2.2.2.2.2.2.2.2.2.2.2.2.2.2.1 x.2.2.2.2.2.2.2.2.2.2.2.2.2.2.2.2.2.2.2.1 x.2.2.2.2.2.2.2.2.2.2.2.2.2.2.2.2.2.2.2.2.1 x.2.2.2.2.2.2.2.2.2.2.2.2.2.2.2.2.2.2.2.2.2.1 x.2.2.2.2.2.2.2.2.2.2.2.2.2.2.2.2.2.2.2.2.2.2.1 x.2.2.2.2.2.2.2.2.2.2.2.2.2.2.2.2.2.2.2.2.2.2.2.1 x.2.2.2.2.2.2.2.2.2.2.2.2.2.2.2.2.2.2.2.2.2.2.2.2.1 x.2.2.2.2.2.2.2.2.2.2.2.2.2.2.2.2.2.2.2.2.2.2.2.2.2.1 x.2.2.2.2.2.2.2.2.2.2.2.2.2.2.2.2.2.2.2.2.2.2.2.2.2.2.1 x.2.2.2.2.2.2.2.2.2.2.2.2.2.2.2.2.2.2.2.2.2.2.2.2.2.2.2.1 x.2.2.2.2.2.2.2.2.2.2.2.2.2.2.2.2.2.2.2.2.2.2.2.2.2.2.2.2.1 x.2.2.2.2.2.2.2.2.2.2.2.2.2.2.2.2.2.2.2.2.2.2.2.2.2.2.2.2.2 = segK (Γ k) F (T k) body 24 (c24.st x) := by kernel_rfl
theorem s33 (k : Nat) (x : prods c33.tys) : dual_Single.l33 (k + 1) x.1 x.2.1 x.2.2.1 x.2.2.2.1 x.2.2.2.2.1 x.2.2.2.2.2.1 x.2.2.2.2.2.2.1 x.2.2.2.2.2.2.2.1 x.2.2.2.2.2.2.2.2.1 x.2.2.2.2.2.2.2.2.2.1 x.2.2.2.2.2.2.2.2.2.2.1 x.2.2.2.2.2.2.2.2.2.2.2.1 x.2.2.2.2.2.2.2.2.2.2.2.2.1 x.2.2.2.2.2.2.2.2.2.2.2.2.2.1 x.2.2.2.2.2.2.2.2.2.2.2.2.2.2.1 x.2.2.2.2.2.2.2.2.2.2.2.2.2.2.2.1 x.2.2.2.2.2.2.2.2.2.2.2.2.2.2.2.2.1 x.2.2.2.2.2.2.2.2.2.2.2.2.2.2.2.2.2.1 x.2.2.2.2.2.2.2.2.2.2.2.2.2.2.2.2.2.2.1 x.2.2.2.2.2.2.2.2.2.2.2.2.2.2.2.2.2.2.2 = segK (Γ k) F (T k) body 33 (c33.st x) := by kernel_rfl
theorem s41 (k : Nat) (x : prods c41.tys) : dual_Single.l41 (k + 1) x.1 x.2.1 x.2.2.1 x.2.2.2.1 x.2.2.2.2.1 x.2.2.2.2.2.1 x.2.2.2.2.2.2.1 x.2.2.2.2.2.2.2.1 x.2.2.2.2.2.2.2.2.1 x.2.2.2.2.2.2.2.2.2.1 x.2.2.2.2.2.2.2.2.2.2.1 x.2.2.2.2.2.2.2.2.2.2.2.1 x.2.2.2.2.2.2.2.2.2.2.2.2.1 x.2.2.2.2.2.2.2.2.2.2.2.2.2.1 x.2.2.2.2.2.2.2.2.2.2.2.2.2.2.1 x.2.2.2.2.2.2.2.2.2.2.2.2.2.2.2.1 x.2.2.2.2.2.2.2.2.2.2.2.2.2.2.2.2.1 x.2.2.2.2.2.2.2.2.2.2.2.2.2.2.2.2.2.1 x.2.2.2.2.2.2.2.2.2.2.2.2.2.2.2.2.2.2 = segK (Γ k) F (T k) body 41 (c41.st x) := by kernel_rfl
theorem main (k : Nat) (x : prods (con 0).cin.tys) : dual_Single.f k x.1 x.2 = goK (Γ k) F (T k) 2000 [.code body] ((con 0).cin.st x) := by kernel_rfl
theorem okΓ (k : Nat) : ΓOk Go.Proofs.Try.prog (Γ k) := Γcons (unit_Next.ok k) ⟨Go.Proofs.Try.f47, by kernel_rfl, by kernel_rfl, by kernel_rfl⟩ (Γcons (dual_Check.ok k) ⟨Go.Proofs.Try.f53, by kernel_rfl, by kernel_rfl, by kernel_rfl⟩ (Γcons (dual_cut.ok k) ⟨Go.Proofs.Try.f54, by kernel_rfl, by kernel_rfl, by kernel_rfl⟩ (Γcons (dual_earn.ok k) ⟨Go.Proofs.Try.f55, by kernel_rfl, by kernel_rfl, by kernel_rfl⟩ (Γcons (dual_put.ok k) ⟨Go.Proofs.Try.f56, by kernel_rfl, by kernel_rfl, by kernel_rfl⟩ (Γnil)))))
theorem ok (k : Nat) : ConSound Go.Proofs.Try.prog 26 (con k) := con_sound (Γ := Γ) (fn := Go.Proofs.Try.f26) (body := body) (cin := (con 0).cin) (F := F) (T := T) follows (by kernel_rfl) (by kernel_rfl) (by kernel_rfl) (by kernel_rfl) (by kernel_rfl) (by decide +kernel) (by kernel_rfl) (by kernel_rfl) (tzero ⟨fun x => rfl, fun x => rfl, fun x => rfl, fun x => rfl, fun x => rfl, fun x => rfl, trivial⟩) k (fun m _ => okΓ m) (fun m _ => tstep ⟨fun x => s7 m x, fun x => s14 m x, fun x => s19 m x, fun x => s24 m x, fun x => s33 m x, fun x => s41 m x, trivial⟩) (fun x y h => (main k x).symm.trans h)
end dual_Single
namespace dual_Bound
noncomputable abbrev con (k : Nat) : Con := ⟨⟨[(0, .l (.val (.list 33 Y10))), (1, .l (.val (.list 3 (.int .i64)))), (2, .l (.val (.list 3 (.int .i64))))], []⟩, ⟨[(0, .l (.val (.int .i64))), (1, .l (.val (.int .i64)))], []⟩, fun x => dual_Bound.f k x.1 x.2.1 x.2.2⟩
noncomputable abbrev Γ (k : Nat) : FuncId → Option Con := look [(26, dual_Single.con k), (41, dual_CheckAll.con k)]
abbrev F : Fin Go.Proofs.Try.prog := ⟨⟨[(0, .l (.val (.int .i64))), (1, .l (.val (.int .i64)))], []⟩, [], [.tmp 6, .tmp 7]⟩
abbrev c8 : Cut := ⟨[(0, .l (.val (.list 33 Y10))), (2, .l (.val (.list 3 (.int .i64)))), (9, .l (.val (.int .i64))), (28, .l (.val (.list 3 (.int .i64)))), (29, .l (.val (.int .i64))), (30, .l (.val (.int .i64)))], []⟩
abbrev c15 : Cut := ⟨[(2, .l (.val (.list 3 (.int .i64)))), (9, .l (.val (.int .i64))), (56, .l (.val (.list 33 Y10))), (57, .l (.val (.int .i64))), (58, .l (.val (.int .i64)))], []⟩
noncomputable abbrev Tl (k : Nat) : List (Nat × Hint (prods F.cout.tys)) := [(8, ⟨c8, fun x => dual_Bound.l8 k x.1 x.2.1 x.2.2.1 x.2.2.2.1 x.2.2.2.2.1 x.2.2.2.2.2⟩), (15, ⟨c15, fun x => dual_Bound.l15 k x.1 x.2.1 x.2.2.1 x.2.2.2.1 x.2.2.2.2⟩)]
noncomputable abbrev T (k : Nat) : Nat → Option (Hint (prods F.cout.tys)) := look (Tl k)
noncomputable abbrev body : Code := Go.Proofs.Try.f16.body.getD .skip
theorem s8 (k : Nat) (x : prods c8.tys) : dual_Bound.l8 (k + 1) x.1 x.2.1 x.2.2.1 x.2.2.2.1 x.2.2.2.2.1 x.2.2.2.2.2 = segK (Γ k) F (T k) body 8 (c8.st x) := by kernel_rfl
theorem s15 (k : Nat) (x : prods c15.tys) : dual_Bound.l15 (k + 1) x.1 x.2.1 x.2.2.1 x.2.2.2.1 x.2.2.2.2 = segK (Γ k) F (T k) body 15 (c15.st x) := by kernel_rfl
theorem main (k : Nat) (x : prods (con 0).cin.tys) : dual_Bound.f k x.1 x.2.1 x.2.2 = goK (Γ k) F (T k) 2000 [.code body] ((con 0).cin.st x) := by kernel_rfl
theorem okΓ (k : Nat) : ΓOk Go.Proofs.Try.prog (Γ k) := Γcons (dual_Single.ok k) ⟨Go.Proofs.Try.f26, by kernel_rfl, by kernel_rfl, by kernel_rfl⟩ (Γcons (dual_CheckAll.ok k) ⟨Go.Proofs.Try.f41, by kernel_rfl, by kernel_rfl, by kernel_rfl⟩ (Γnil))
theorem ok (k : Nat) : ConSound Go.Proofs.Try.prog 16 (con k) := con_sound (Γ := Γ) (fn := Go.Proofs.Try.f16) (body := body) (cin := (con 0).cin) (F := F) (T := T) follows (by kernel_rfl) (by kernel_rfl) (by kernel_rfl) (by kernel_rfl) (by kernel_rfl) (by decide +kernel) (by kernel_rfl) (by kernel_rfl) (tzero ⟨fun x => rfl, fun x => rfl, trivial⟩) k (fun m _ => okΓ m) (fun m _ => tstep ⟨fun x => s8 m x, fun x => s15 m x, trivial⟩) (fun x y h => (main k x).symm.trans h)
end dual_Bound
namespace dual_Step
noncomputable abbrev con (k : Nat) : Con := ⟨⟨[(0, .l (.val (.list 33 Y10))), (1, .l (.val (.list 3 (.int .i64)))), (2, .l (.val (.list 3 (.int .i64)))), (3, .l (.val (.int .i64)))], []⟩, ⟨[(0, .l (.val (.list 3 (.int .i64)))), (1, .l (.val (.int .i64)))], []⟩, fun x => dual_Step.f k x.1 x.2.1 x.2.2.1 x.2.2.2⟩
noncomputable abbrev Γ (k : Nat) : FuncId → Option Con := look [(16, dual_Bound.con k), (26, dual_Single.con k)]
abbrev F : Fin Go.Proofs.Try.prog := ⟨⟨[(0, .l (.val (.list 3 (.int .i64)))), (1, .l (.val (.int .i64)))], []⟩, [], [.tmp 8, .tmp 9]⟩
abbrev c8 : Cut := ⟨[(1, .l (.val (.list 3 (.int .i64)))), (2, .l (.val (.list 3 (.int .i64)))), (3, .l (.val (.int .i64))), (12, .l (.row 7000000)), (42, .l (.val (.list 33 Y10))), (43, .l (.val (.int .i64))), (44, .l (.val (.int .i64)))], [(7000000, .row 3 (.int .i64))]⟩
abbrev c12 : Cut := ⟨[(1, .l (.val (.list 3 (.int .i64)))), (2, .l (.val (.list 3 (.int .i64)))), (3, .l (.val (.int .i64))), (12, .l (.row 7000000)), (42, .l (.val (.list 33 Y10))), (43, .l (.val (.int .i64))), (44, .l (.val (.int .i64))), (55, .l (.val (.list 3 (.int .i64)))), (56, .l (.val (.int .i64))), (57, .l (.val (.int .i64)))], [(7000000, .row 3 (.int .i64))]⟩
abbrev c19 : Cut := ⟨[(1, .l (.val (.list 3 (.int .i64)))), (3, .l (.val (.int .i64))), (12, .l (.row 7000000)), (20, .l (.row 7000001)), (75, .l (.val (.list 3 (.int .i64)))), (76, .l (.val (.int .i64))), (77, .l (.val (.int .i64)))], [(7000000, .row 3 (.int .i64)), (7000001, .row 3 (.int .i64))]⟩
noncomputable abbrev Tl (k : Nat) : List (Nat × Hint (prods F.cout.tys)) := [(8, ⟨c8, fun x => dual_Step.l8 k x.1 x.2.1 x.2.2.1 x.2.2.2.1 x.2.2.2.2.1 x.2.2.2.2.2.1 x.2.2.2.2.2.2⟩), (12, ⟨c12, fun x => dual_Step.l12 k x.1 x.2.1 x.2.2.1 x.2.2.2.1 x.2.2.2.2.1 x.2.2.2.2.2.1 x.2.2.2.2.2.2.1 x.2.2.2.2.2.2.2.1 x.2.2.2.2.2.2.2.2.1 x.2.2.2.2.2.2.2.2.2⟩), (19, ⟨c19, fun x => dual_Step.l19 k x.1 x.2.1 x.2.2.1 x.2.2.2.1 x.2.2.2.2.1 x.2.2.2.2.2.1 x.2.2.2.2.2.2⟩)]
noncomputable abbrev T (k : Nat) : Nat → Option (Hint (prods F.cout.tys)) := look (Tl k)
noncomputable abbrev body : Code := Go.Proofs.Try.f23.body.getD .skip
theorem s8 (k : Nat) (x : prods c8.tys) : dual_Step.l8 (k + 1) x.1 x.2.1 x.2.2.1 x.2.2.2.1 x.2.2.2.2.1 x.2.2.2.2.2.1 x.2.2.2.2.2.2 = segK (Γ k) F (T k) body 8 (c8.st x) := by kernel_rfl
theorem s12 (k : Nat) (x : prods c12.tys) : dual_Step.l12 (k + 1) x.1 x.2.1 x.2.2.1 x.2.2.2.1 x.2.2.2.2.1 x.2.2.2.2.2.1 x.2.2.2.2.2.2.1 x.2.2.2.2.2.2.2.1 x.2.2.2.2.2.2.2.2.1 x.2.2.2.2.2.2.2.2.2 = segK (Γ k) F (T k) body 12 (c12.st x) := by kernel_rfl
theorem s19 (k : Nat) (x : prods c19.tys) : dual_Step.l19 (k + 1) x.1 x.2.1 x.2.2.1 x.2.2.2.1 x.2.2.2.2.1 x.2.2.2.2.2.1 x.2.2.2.2.2.2 = segK (Γ k) F (T k) body 19 (c19.st x) := by kernel_rfl
theorem main (k : Nat) (x : prods (con 0).cin.tys) : dual_Step.f k x.1 x.2.1 x.2.2.1 x.2.2.2 = goK (Γ k) F (T k) 2000 [.code body] ((con 0).cin.st x) := by kernel_rfl
theorem okΓ (k : Nat) : ΓOk Go.Proofs.Try.prog (Γ k) := Γcons (dual_Bound.ok k) ⟨Go.Proofs.Try.f16, by kernel_rfl, by kernel_rfl, by kernel_rfl⟩ (Γcons (dual_Single.ok k) ⟨Go.Proofs.Try.f26, by kernel_rfl, by kernel_rfl, by kernel_rfl⟩ (Γnil))
theorem ok (k : Nat) : ConSound Go.Proofs.Try.prog 23 (con k) := con_sound (Γ := Γ) (fn := Go.Proofs.Try.f23) (body := body) (cin := (con 0).cin) (F := F) (T := T) follows (by kernel_rfl) (by kernel_rfl) (by kernel_rfl) (by kernel_rfl) (by kernel_rfl) (by decide +kernel) (by kernel_rfl) (by kernel_rfl) (tzero ⟨fun x => rfl, fun x => rfl, fun x => rfl, trivial⟩) k (fun m _ => okΓ m) (fun m _ => tstep ⟨fun x => s8 m x, fun x => s12 m x, fun x => s19 m x, trivial⟩) (fun x y h => (main k x).symm.trans h)
end dual_Step
namespace slices_Equal_int
noncomputable abbrev con (k : Nat) : Con := ⟨⟨[(0, .l (.val (.list 3 (.int .i64)))), (1, .l (.val (.list 3 (.int .i64))))], []⟩, ⟨[(0, .l (.val .bool))], []⟩, fun x => slices_Equal_int.f k x.1 x.2⟩
noncomputable abbrev Γ (k : Nat) : FuncId → Option Con := look []
abbrev F : Fin Go.Proofs.Try.prog := ⟨⟨[(0, .l (.val .bool))], []⟩, [], [.tmp 4]⟩
abbrev c4 : Cut := ⟨[(0, .l (.val (.list 3 (.int .i64)))), (1, .l (.val (.list 3 (.int .i64)))), (12, .l (.val (.int .i64))), (13, .l (.val (.int .i64)))], []⟩
noncomputable abbrev Tl (k : Nat) : List (Nat × Hint (prods F.cout.tys)) := [(4, ⟨c4, fun x => slices_Equal_int.l4 k x.1 x.2.1 x.2.2.1 x.2.2.2⟩)]
noncomputable abbrev T (k : Nat) : Nat → Option (Hint (prods F.cout.tys)) := look (Tl k)
noncomputable abbrev body : Code := Go.Proofs.Try.f25.body.getD .skip
theorem s4 (k : Nat) (x : prods c4.tys) : slices_Equal_int.l4 (k + 1) x.1 x.2.1 x.2.2.1 x.2.2.2 = segK (Γ k) F (T k) body 4 (c4.st x) := by kernel_rfl
theorem main (k : Nat) (x : prods (con 0).cin.tys) : slices_Equal_int.f k x.1 x.2 = goK (Γ k) F (T k) 2000 [.code body] ((con 0).cin.st x) := by kernel_rfl
theorem okΓ (k : Nat) : ΓOk Go.Proofs.Try.prog (Γ k) := Γnil
theorem ok (k : Nat) : ConSound Go.Proofs.Try.prog 25 (con k) := con_sound (Γ := Γ) (fn := Go.Proofs.Try.f25) (body := body) (cin := (con 0).cin) (F := F) (T := T) follows (by kernel_rfl) (by kernel_rfl) (by kernel_rfl) (by kernel_rfl) (by kernel_rfl) (by decide +kernel) (by kernel_rfl) (by kernel_rfl) (tzero ⟨fun x => rfl, trivial⟩) k (fun m _ => okΓ m) (fun m _ => tstep ⟨fun x => s4 m x, trivial⟩) (fun x y h => (main k x).symm.trans h)
end slices_Equal_int
namespace gridhallkeep3_DualSteps
noncomputable abbrev con (k : Nat) : Con := ⟨⟨[(0, .l (.val (.list 33 Y10))), (1, .l (.val (.list 3 (.int .i64)))), (2, .l (.val (.list 3 (.int .i64)))), (3, .l (.val (.int .i64)))], []⟩, ⟨[(0, .l (.val .bool))], []⟩, fun x => gridhallkeep3_DualSteps.f k x.1 x.2.1 x.2.2.1 x.2.2.2⟩
noncomputable abbrev Γ (k : Nat) : FuncId → Option Con := look [(23, dual_Step.con k), (24, gridhallkeep3_alone.con k), (25, slices_Equal_int.con k), (26, dual_Single.con k)]
abbrev F : Fin Go.Proofs.Try.prog := ⟨⟨[(0, .l (.val .bool))], []⟩, [], [.tmp 8]⟩
abbrev c11 : Cut := ⟨[(1, .l (.val (.list 3 (.int .i64)))), (2, .l (.val (.list 3 (.int .i64)))), (3, .l (.val (.int .i64))), (11, .l (.val (.list 3 (.int .i64)))), (13, .l (.row 7000000)), (61, .l (.val (.list 33 Y10))), (62, .l (.val (.int .i64))), (63, .l (.val (.int .i64)))], [(7000000, .row 3 (.int .i64))]⟩
abbrev c17 : Cut := ⟨[(1, .l (.val (.list 3 (.int .i64)))), (2, .l (.val (.list 3 (.int .i64)))), (3, .l (.val (.int .i64))), (11, .l (.val (.list 3 (.int .i64)))), (13, .l (.row 7000000)), (61, .l (.val (.list 33 Y10))), (62, .l (.val (.int .i64))), (63, .l (.val (.int .i64))), (83, .l (.val (.list 3 (.int .i64)))), (84, .l (.val (.int .i64))), (85, .l (.val (.int .i64)))], [(7000000, .row 3 (.int .i64))]⟩
abbrev c23 : Cut := ⟨[(1, .l (.val (.list 3 (.int .i64)))), (2, .l (.val (.list 3 (.int .i64)))), (3, .l (.val (.int .i64))), (13, .l (.row 7000000)), (100, .l (.val (.list 3 (.int .i64)))), (101, .l (.val (.int .i64))), (102, .l (.val (.int .i64)))], [(7000000, .row 3 (.int .i64))]⟩
noncomputable abbrev Tl (k : Nat) : List (Nat × Hint (prods F.cout.tys)) := [(11, ⟨c11, fun x => gridhallkeep3_DualSteps.l11 k x.1 x.2.1 x.2.2.1 x.2.2.2.1 x.2.2.2.2.1 x.2.2.2.2.2.1 x.2.2.2.2.2.2.1 x.2.2.2.2.2.2.2⟩), (17, ⟨c17, fun x => gridhallkeep3_DualSteps.l17 k x.1 x.2.1 x.2.2.1 x.2.2.2.1 x.2.2.2.2.1 x.2.2.2.2.2.1 x.2.2.2.2.2.2.1 x.2.2.2.2.2.2.2.1 x.2.2.2.2.2.2.2.2.1 x.2.2.2.2.2.2.2.2.2.1 x.2.2.2.2.2.2.2.2.2.2⟩), (23, ⟨c23, fun x => gridhallkeep3_DualSteps.l23 k x.1 x.2.1 x.2.2.1 x.2.2.2.1 x.2.2.2.2.1 x.2.2.2.2.2.1 x.2.2.2.2.2.2⟩)]
noncomputable abbrev T (k : Nat) : Nat → Option (Hint (prods F.cout.tys)) := look (Tl k)
noncomputable abbrev body : Code := Go.Proofs.Try.f5.body.getD .skip
theorem s11 (k : Nat) (x : prods c11.tys) : gridhallkeep3_DualSteps.l11 (k + 1) x.1 x.2.1 x.2.2.1 x.2.2.2.1 x.2.2.2.2.1 x.2.2.2.2.2.1 x.2.2.2.2.2.2.1 x.2.2.2.2.2.2.2 = segK (Γ k) F (T k) body 11 (c11.st x) := by kernel_rfl
theorem s17 (k : Nat) (x : prods c17.tys) : gridhallkeep3_DualSteps.l17 (k + 1) x.1 x.2.1 x.2.2.1 x.2.2.2.1 x.2.2.2.2.1 x.2.2.2.2.2.1 x.2.2.2.2.2.2.1 x.2.2.2.2.2.2.2.1 x.2.2.2.2.2.2.2.2.1 x.2.2.2.2.2.2.2.2.2.1 x.2.2.2.2.2.2.2.2.2.2 = segK (Γ k) F (T k) body 17 (c17.st x) := by kernel_rfl
theorem s23 (k : Nat) (x : prods c23.tys) : gridhallkeep3_DualSteps.l23 (k + 1) x.1 x.2.1 x.2.2.1 x.2.2.2.1 x.2.2.2.2.1 x.2.2.2.2.2.1 x.2.2.2.2.2.2 = segK (Γ k) F (T k) body 23 (c23.st x) := by kernel_rfl
theorem main (k : Nat) (x : prods (con 0).cin.tys) : gridhallkeep3_DualSteps.f k x.1 x.2.1 x.2.2.1 x.2.2.2 = goK (Γ k) F (T k) 2000 [.code body] ((con 0).cin.st x) := by kernel_rfl
theorem okΓ (k : Nat) : ΓOk Go.Proofs.Try.prog (Γ k) := Γcons (dual_Step.ok k) ⟨Go.Proofs.Try.f23, by kernel_rfl, by kernel_rfl, by kernel_rfl⟩ (Γcons (gridhallkeep3_alone.ok k) ⟨Go.Proofs.Try.f24, by kernel_rfl, by kernel_rfl, by kernel_rfl⟩ (Γcons (slices_Equal_int.ok k) ⟨Go.Proofs.Try.f25, by kernel_rfl, by kernel_rfl, by kernel_rfl⟩ (Γcons (dual_Single.ok k) ⟨Go.Proofs.Try.f26, by kernel_rfl, by kernel_rfl, by kernel_rfl⟩ (Γnil))))
theorem ok (k : Nat) : ConSound Go.Proofs.Try.prog 5 (con k) := con_sound (Γ := Γ) (fn := Go.Proofs.Try.f5) (body := body) (cin := (con 0).cin) (F := F) (T := T) follows (by kernel_rfl) (by kernel_rfl) (by kernel_rfl) (by kernel_rfl) (by kernel_rfl) (by decide +kernel) (by kernel_rfl) (by kernel_rfl) (tzero ⟨fun x => rfl, fun x => rfl, fun x => rfl, trivial⟩) k (fun m _ => okΓ m) (fun m _ => tstep ⟨fun x => s11 m x, fun x => s17 m x, fun x => s23 m x, trivial⟩) (fun x y h => (main k x).symm.trans h)
end gridhallkeep3_DualSteps
namespace unit_Run
noncomputable abbrev con (k : Nat) : Con := ⟨⟨[(0, .av Y6), (1, .av Y8), (2, .l (.val (.list 3 (.int .i64))))], []⟩, ⟨[(0, .l (.val (.list 31 Y8))), (1, .l (.val (.int .i64))), (2, .l (.val (.int .i64)))], []⟩, fun x => unit_Run.f k x.1 x.2.1 x.2.2⟩
noncomputable abbrev Γ (k : Nat) : FuncId → Option Con := look [(46, unit_CheckState.con k), (47, unit_Next.con k)]
abbrev F : Fin Go.Proofs.Try.prog := ⟨⟨[(0, .l (.val (.list 31 Y8))), (1, .l (.val (.int .i64))), (2, .l (.val (.int .i64)))], []⟩, [], [.tmp 6, .tmp 7, .tmp 8]⟩
abbrev c9 : Cut := ⟨[(3, .l (.ptr 7000000 0)), (4, .l (.ptr 7000001 0)), (10, .l (.row 7000502)), (11, .l (.val (.int .i64))), (26, .l (.val (.list 3 (.int .i64)))), (27, .l (.val (.int .i64))), (28, .l (.val (.int .i64)))], [(7000000, .box 25 [.val .str, .val (.int .i64), .val (.int .i64), .val (.int .i64), .val (.int .i64), .val (.int .i64), .val (.int .i64), .val (.int .i64)]), (7000001, .box 31 [.val .bool, .val (.int .i64), .val (.int .i64)]), (7000502, .row 31 Y8)]⟩
noncomputable abbrev Tl (k : Nat) : List (Nat × Hint (prods F.cout.tys)) := [(9, ⟨c9, fun x => unit_Run.l9 k x.1 x.2.1 x.2.2.1 x.2.2.2.1 x.2.2.2.2.1 x.2.2.2.2.2.1 x.2.2.2.2.2.2.1 x.2.2.2.2.2.2.2.1 x.2.2.2.2.2.2.2.2.1 x.2.2.2.2.2.2.2.2.2.1 x.2.2.2.2.2.2.2.2.2.2.1 x.2.2.2.2.2.2.2.2.2.2.2.1 x.2.2.2.2.2.2.2.2.2.2.2.2.1 x.2.2.2.2.2.2.2.2.2.2.2.2.2.1 x.2.2.2.2.2.2.2.2.2.2.2.2.2.2.1 x.2.2.2.2.2.2.2.2.2.2.2.2.2.2.2⟩)]
noncomputable abbrev T (k : Nat) : Nat → Option (Hint (prods F.cout.tys)) := look (Tl k)
noncomputable abbrev body : Code := Go.Proofs.Try.f17.body.getD .skip
theorem s9 (k : Nat) (x : prods c9.tys) : unit_Run.l9 (k + 1) x.1 x.2.1 x.2.2.1 x.2.2.2.1 x.2.2.2.2.1 x.2.2.2.2.2.1 x.2.2.2.2.2.2.1 x.2.2.2.2.2.2.2.1 x.2.2.2.2.2.2.2.2.1 x.2.2.2.2.2.2.2.2.2.1 x.2.2.2.2.2.2.2.2.2.2.1 x.2.2.2.2.2.2.2.2.2.2.2.1 x.2.2.2.2.2.2.2.2.2.2.2.2.1 x.2.2.2.2.2.2.2.2.2.2.2.2.2.1 x.2.2.2.2.2.2.2.2.2.2.2.2.2.2.1 x.2.2.2.2.2.2.2.2.2.2.2.2.2.2.2 = segK (Γ k) F (T k) body 9 (c9.st x) := by kernel_rfl
theorem main (k : Nat) (x : prods (con 0).cin.tys) : unit_Run.f k x.1 x.2.1 x.2.2 = goK (Γ k) F (T k) 2000 [.code body] ((con 0).cin.st x) := by kernel_rfl
theorem okΓ (k : Nat) : ΓOk Go.Proofs.Try.prog (Γ k) := Γcons (unit_CheckState.ok k) ⟨Go.Proofs.Try.f46, by kernel_rfl, by kernel_rfl, by kernel_rfl⟩ (Γcons (unit_Next.ok k) ⟨Go.Proofs.Try.f47, by kernel_rfl, by kernel_rfl, by kernel_rfl⟩ (Γnil))
theorem ok (k : Nat) : ConSound Go.Proofs.Try.prog 17 (con k) := con_sound (Γ := Γ) (fn := Go.Proofs.Try.f17) (body := body) (cin := (con 0).cin) (F := F) (T := T) follows (by kernel_rfl) (by kernel_rfl) (by kernel_rfl) (by kernel_rfl) (by kernel_rfl) (by decide +kernel) (by kernel_rfl) (by kernel_rfl) (tzero ⟨fun x => rfl, trivial⟩) k (fun m _ => okΓ m) (fun m _ => tstep ⟨fun x => s9 m x, trivial⟩) (fun x y h => (main k x).symm.trans h)
end unit_Run
namespace commit_Cost
noncomputable abbrev con (k : Nat) : Con := ⟨⟨[(0, .l (.val (.list 33 Y10))), (1, .l (.val (.list 3 (.int .i64)))), (2, .l (.val (.list 23 (.list 3 (.int .i64)))))], []⟩, ⟨[(0, .l (.val (.int .i64))), (1, .l (.val (.int .i64)))], []⟩, fun x => commit_Cost.f k x.1 x.2.1 x.2.2⟩
noncomputable abbrev Γ (k : Nat) : FuncId → Option Con := look [(17, unit_Run.con k), (41, dual_CheckAll.con k), (62, offer_Cost.con k)]
abbrev F : Fin Go.Proofs.Try.prog := ⟨⟨[(0, .l (.val (.int .i64))), (1, .l (.val (.int .i64)))], []⟩, [], [.tmp 6, .tmp 7]⟩
abbrev c7 : Cut := ⟨[(0, .l (.val (.list 33 Y10))), (1, .l (.val (.list 3 (.int .i64)))), (2, .l (.val (.list 23 (.list 3 (.int .i64))))), (36, .l (.val (.list 23 (.list 3 (.int .i64))))), (37, .l (.val (.int .i64))), (38, .l (.val (.int .i64)))], []⟩
abbrev c14 : Cut := ⟨[(0, .l (.val (.list 33 Y10))), (1, .l (.val (.list 3 (.int .i64)))), (2, .l (.val (.list 23 (.list 3 (.int .i64))))), (11, .l (.val (.int .i64))), (48, .l (.val (.list 33 Y10))), (49, .l (.val (.int .i64))), (50, .l (.val (.int .i64)))], []⟩
abbrev c21 : Cut := ⟨[(0, .l (.val (.list 33 Y10))), (1, .l (.val (.list 3 (.int .i64)))), (2, .l (.val (.list 23 (.list 3 (.int .i64))))), (11, .l (.val (.int .i64))), (13, .l (.ptr 7000000 0)), (48, .l (.val (.list 33 Y10))), (49, .l (.val (.int .i64))), (50, .l (.val (.int .i64))), (77, .l (.val (.list 3 (.int .i64)))), (78, .l (.val (.int .i64))), (79, .l (.val (.int .i64)))], [(7000000, .box 33 [.val .str, .val (.int .i64), .val (.int .i64), .val (.int .i64), .val (.int .i64), .val (.int .i64), .val (.int .i64), .val (.int .i64), .val .str, .val (.list 72 Y0), .val .bool, .val (.int .i64), .val (.int .i64)])]⟩
abbrev c28 : Cut := ⟨[(0, .l (.val (.list 33 Y10))), (2, .l (.val (.list 23 (.list 3 (.int .i64))))), (11, .l (.val (.int .i64))), (96, .l (.val (.list 3 (.int .i64)))), (97, .l (.val (.int .i64))), (98, .l (.val (.int .i64)))], []⟩
abbrev c32 : Cut := ⟨[(0, .l (.val (.list 33 Y10))), (2, .l (.val (.list 23 (.list 3 (.int .i64))))), (11, .l (.val (.int .i64))), (21, .l (.val (.int .i64))), (22, .l (.val (.int .i64))), (23, .l (.val (.int .i64))), (96, .l (.val (.list 3 (.int .i64)))), (97, .l (.val (.int .i64))), (98, .l (.val (.int .i64))), (104, .l (.val (.int .i64))), (105, .l (.val (.int .i64)))], []⟩
noncomputable abbrev Tl (k : Nat) : List (Nat × Hint (prods F.cout.tys)) := [(7, ⟨c7, fun x => commit_Cost.l7 k x.1 x.2.1 x.2.2.1 x.2.2.2.1 x.2.2.2.2.1 x.2.2.2.2.2⟩), (14, ⟨c14, fun x => commit_Cost.l14 k x.1 x.2.1 x.2.2.1 x.2.2.2.1 x.2.2.2.2.1 x.2.2.2.2.2.1 x.2.2.2.2.2.2⟩), (21, ⟨c21, fun x => commit_Cost.l21 k x.1 x.2.1 x.2.2.1 x.2.2.2.1 x.2.2.2.2.1 x.2.2.2.2.2.1 x.2.2.2.2.2.2.1 x.2.2.2.2.2.2.2.1 x.2.2.2.2.2.2.2.2.1 x.2.2.2.2.2.2.2.2.2.1 x.2.2.2.2.2.2.2.2.2.2.1 x.2.2.2.2.2.2.2.2.2.2.2.1 x.2.2.2.2.2.2.2.2.2.2.2.2.1 x.2.2.2.2.2.2.2.2.2.2.2.2.2.1 x.2.2.2.2.2.2.2.2.2.2.2.2.2.2.1 x.2.2.2.2.2.2.2.2.2.2.2.2.2.2.2.1 x.2.2.2.2.2.2.2.2.2.2.2.2.2.2.2.2.1 x.2.2.2.2.2.2.2.2.2.2.2.2.2.2.2.2.2.1 x.2.2.2.2.2.2.2.2.2.2.2.2.2.2.2.2.2.2.1 x.2.2.2.2.2.2.2.2.2.2.2.2.2.2.2.2.2.2.2.1 x.2.2.2.2.2.2.2.2.2.2.2.2.2.2.2.2.2.2.2.2.1 x.2.2.2.2.2.2.2.2.2.2.2.2.2.2.2.2.2.2.2.2.2.1 x.2.2.2.2.2.2.2.2.2.2.2.2.2.2.2.2.2.2.2.2.2.2⟩), (28, ⟨c28, fun x => commit_Cost.l28 k x.1 x.2.1 x.2.2.1 x.2.2.2.1 x.2.2.2.2.1 x.2.2.2.2.2⟩), (32, ⟨c32, fun x => commit_Cost.l32 k x.1 x.2.1 x.2.2.1 x.2.2.2.1 x.2.2.2.2.1 x.2.2.2.2.2.1 x.2.2.2.2.2.2.1 x.2.2.2.2.2.2.2.1 x.2.2.2.2.2.2.2.2.1 x.2.2.2.2.2.2.2.2.2.1 x.2.2.2.2.2.2.2.2.2.2⟩)]
noncomputable abbrev T (k : Nat) : Nat → Option (Hint (prods F.cout.tys)) := look (Tl k)
noncomputable abbrev body : Code := Go.Proofs.Try.f40.body.getD .skip
theorem s7 (k : Nat) (x : prods c7.tys) : commit_Cost.l7 (k + 1) x.1 x.2.1 x.2.2.1 x.2.2.2.1 x.2.2.2.2.1 x.2.2.2.2.2 = segK (Γ k) F (T k) body 7 (c7.st x) := by kernel_rfl
theorem s14 (k : Nat) (x : prods c14.tys) : commit_Cost.l14 (k + 1) x.1 x.2.1 x.2.2.1 x.2.2.2.1 x.2.2.2.2.1 x.2.2.2.2.2.1 x.2.2.2.2.2.2 = segK (Γ k) F (T k) body 14 (c14.st x) := by kernel_rfl
theorem s21 (k : Nat) (x : prods c21.tys) : commit_Cost.l21 (k + 1) x.1 x.2.1 x.2.2.1 x.2.2.2.1 x.2.2.2.2.1 x.2.2.2.2.2.1 x.2.2.2.2.2.2.1 x.2.2.2.2.2.2.2.1 x.2.2.2.2.2.2.2.2.1 x.2.2.2.2.2.2.2.2.2.1 x.2.2.2.2.2.2.2.2.2.2.1 x.2.2.2.2.2.2.2.2.2.2.2.1 x.2.2.2.2.2.2.2.2.2.2.2.2.1 x.2.2.2.2.2.2.2.2.2.2.2.2.2.1 x.2.2.2.2.2.2.2.2.2.2.2.2.2.2.1 x.2.2.2.2.2.2.2.2.2.2.2.2.2.2.2.1 x.2.2.2.2.2.2.2.2.2.2.2.2.2.2.2.2.1 x.2.2.2.2.2.2.2.2.2.2.2.2.2.2.2.2.2.1 x.2.2.2.2.2.2.2.2.2.2.2.2.2.2.2.2.2.2.1 x.2.2.2.2.2.2.2.2.2.2.2.2.2.2.2.2.2.2.2.1 x.2.2.2.2.2.2.2.2.2.2.2.2.2.2.2.2.2.2.2.2.1 x.2.2.2.2.2.2.2.2.2.2.2.2.2.2.2.2.2.2.2.2.2.1 x.2.2.2.2.2.2.2.2.2.2.2.2.2.2.2.2.2.2.2.2.2.2 = segK (Γ k) F (T k) body 21 (c21.st x) := by kernel_rfl
theorem s28 (k : Nat) (x : prods c28.tys) : commit_Cost.l28 (k + 1) x.1 x.2.1 x.2.2.1 x.2.2.2.1 x.2.2.2.2.1 x.2.2.2.2.2 = segK (Γ k) F (T k) body 28 (c28.st x) := by kernel_rfl
theorem s32 (k : Nat) (x : prods c32.tys) : commit_Cost.l32 (k + 1) x.1 x.2.1 x.2.2.1 x.2.2.2.1 x.2.2.2.2.1 x.2.2.2.2.2.1 x.2.2.2.2.2.2.1 x.2.2.2.2.2.2.2.1 x.2.2.2.2.2.2.2.2.1 x.2.2.2.2.2.2.2.2.2.1 x.2.2.2.2.2.2.2.2.2.2 = segK (Γ k) F (T k) body 32 (c32.st x) := by kernel_rfl
theorem main (k : Nat) (x : prods (con 0).cin.tys) : commit_Cost.f k x.1 x.2.1 x.2.2 = goK (Γ k) F (T k) 2000 [.code body] ((con 0).cin.st x) := by kernel_rfl
theorem okΓ (k : Nat) : ΓOk Go.Proofs.Try.prog (Γ k) := Γcons (unit_Run.ok k) ⟨Go.Proofs.Try.f17, by kernel_rfl, by kernel_rfl, by kernel_rfl⟩ (Γcons (dual_CheckAll.ok k) ⟨Go.Proofs.Try.f41, by kernel_rfl, by kernel_rfl, by kernel_rfl⟩ (Γcons (offer_Cost.ok k) ⟨Go.Proofs.Try.f62, by kernel_rfl, by kernel_rfl, by kernel_rfl⟩ (Γnil)))
theorem ok (k : Nat) : ConSound Go.Proofs.Try.prog 40 (con k) := con_sound (Γ := Γ) (fn := Go.Proofs.Try.f40) (body := body) (cin := (con 0).cin) (F := F) (T := T) follows (by kernel_rfl) (by kernel_rfl) (by kernel_rfl) (by kernel_rfl) (by kernel_rfl) (by decide +kernel) (by kernel_rfl) (by kernel_rfl) (tzero ⟨fun x => rfl, fun x => rfl, fun x => rfl, fun x => rfl, fun x => rfl, trivial⟩) k (fun m _ => okΓ m) (fun m _ => tstep ⟨fun x => s7 m x, fun x => s14 m x, fun x => s21 m x, fun x => s28 m x, fun x => s32 m x, trivial⟩) (fun x y h => (main k x).symm.trans h)
end commit_Cost
namespace commit_cut
noncomputable abbrev con (k : Nat) : Con := ⟨⟨[(0, .av Y6), (1, .av Y8)], []⟩, ⟨[(0, .av Y8)], []⟩, fun x => commit_cut.f k x.1 x.2⟩
noncomputable abbrev Γ (k : Nat) : FuncId → Option Con := look []
abbrev F : Fin Go.Proofs.Try.prog := ⟨⟨[(0, .av Y8)], []⟩, [], [.cell 4 31]⟩
noncomputable abbrev Tl (k : Nat) : List (Nat × Hint (prods F.cout.tys)) := []
noncomputable abbrev T (k : Nat) : Nat → Option (Hint (prods F.cout.tys)) := look (Tl k)
noncomputable abbrev body : Code := Go.Proofs.Try.f42.body.getD .skip
theorem main (k : Nat) (x : prods (con 0).cin.tys) : commit_cut.f k x.1 x.2 = goK (Γ k) F (T k) 2000 [.code body] ((con 0).cin.st x) := by kernel_rfl
theorem okΓ (k : Nat) : ΓOk Go.Proofs.Try.prog (Γ k) := Γnil
theorem ok (k : Nat) : ConSound Go.Proofs.Try.prog 42 (con k) := con_sound (Γ := Γ) (fn := Go.Proofs.Try.f42) (body := body) (cin := (con 0).cin) (F := F) (T := T) follows (by kernel_rfl) (by kernel_rfl) (by kernel_rfl) (by kernel_rfl) (by kernel_rfl) (by decide +kernel) (by kernel_rfl) (by kernel_rfl) (tzero trivial) k (fun m _ => okΓ m) (fun m _ => tstep trivial) (fun x y h => (main k x).symm.trans h)
end commit_cut
namespace commit_bools
noncomputable abbrev con (k : Nat) : Con := ⟨⟨[(0, .l (.val (.int .i64))), (1, .l (.val (.int .i64)))], []⟩, ⟨[(0, .l (.val (.list 4 .bool)))], []⟩, fun x => commit_bools.f k x.1 x.2⟩
noncomputable abbrev Γ (k : Nat) : FuncId → Option Con := look []
abbrev F : Fin Go.Proofs.Try.prog := ⟨⟨[(0, .l (.val (.list 4 .bool)))], []⟩, [], [.tmp 4]⟩
abbrev c3 : Cut := ⟨[(0, .l (.val (.int .i64))), (5, .l (.row 7000000)), (10, .l (.val (.int .i64))), (11, .l (.val (.int .i64)))], [(7000000, .row 4 .bool)]⟩
noncomputable abbrev Tl (k : Nat) : List (Nat × Hint (prods F.cout.tys)) := [(3, ⟨c3, fun x => commit_bools.l3 k x.1 x.2.1 x.2.2.1 x.2.2.2⟩)]
noncomputable abbrev T (k : Nat) : Nat → Option (Hint (prods F.cout.tys)) := look (Tl k)
noncomputable abbrev body : Code := Go.Proofs.Try.f45.body.getD .skip
theorem s3 (k : Nat) (x : prods c3.tys) : commit_bools.l3 (k + 1) x.1 x.2.1 x.2.2.1 x.2.2.2 = segK (Γ k) F (T k) body 3 (c3.st x) := by kernel_rfl
theorem main (k : Nat) (x : prods (con 0).cin.tys) : commit_bools.f k x.1 x.2 = goK (Γ k) F (T k) 2000 [.code body] ((con 0).cin.st x) := by kernel_rfl
theorem okΓ (k : Nat) : ΓOk Go.Proofs.Try.prog (Γ k) := Γnil
theorem ok (k : Nat) : ConSound Go.Proofs.Try.prog 45 (con k) := con_sound (Γ := Γ) (fn := Go.Proofs.Try.f45) (body := body) (cin := (con 0).cin) (F := F) (T := T) follows (by kernel_rfl) (by kernel_rfl) (by kernel_rfl) (by kernel_rfl) (by kernel_rfl) (by decide +kernel) (by kernel_rfl) (by kernel_rfl) (tzero ⟨fun x => rfl, trivial⟩) k (fun m _ => okΓ m) (fun m _ => tstep ⟨fun x => s3 m x, trivial⟩) (fun x y h => (main k x).symm.trans h)
end commit_bools
namespace cmp_isNaN_int
noncomputable abbrev con (k : Nat) : Con := ⟨⟨[(0, .l (.val (.int .i64)))], []⟩, ⟨[(0, .l (.val .bool))], []⟩, fun x => cmp_isNaN_int.f k x⟩
noncomputable abbrev Γ (k : Nat) : FuncId → Option Con := look []
abbrev F : Fin Go.Proofs.Try.prog := ⟨⟨[(0, .l (.val .bool))], []⟩, [], [.tmp 2]⟩
noncomputable abbrev Tl (k : Nat) : List (Nat × Hint (prods F.cout.tys)) := []
noncomputable abbrev T (k : Nat) : Nat → Option (Hint (prods F.cout.tys)) := look (Tl k)
noncomputable abbrev body : Code := Go.Proofs.Try.f90.body.getD .skip
theorem main (k : Nat) (x : prods (con 0).cin.tys) : cmp_isNaN_int.f k x = goK (Γ k) F (T k) 2000 [.code body] ((con 0).cin.st x) := by kernel_rfl
theorem okΓ (k : Nat) : ΓOk Go.Proofs.Try.prog (Γ k) := Γnil
theorem ok (k : Nat) : ConSound Go.Proofs.Try.prog 90 (con k) := con_sound (Γ := Γ) (fn := Go.Proofs.Try.f90) (body := body) (cin := (con 0).cin) (F := F) (T := T) follows (by kernel_rfl) (by kernel_rfl) (by kernel_rfl) (by kernel_rfl) (by kernel_rfl) (by decide +kernel) (by kernel_rfl) (by kernel_rfl) (tzero trivial) k (fun m _ => okΓ m) (fun m _ => tstep trivial) (fun x y h => (main k x).symm.trans h)
end cmp_isNaN_int
namespace cmp_Compare_int
noncomputable abbrev con (k : Nat) : Con := ⟨⟨[(0, .l (.val (.int .i64))), (1, .l (.val (.int .i64)))], []⟩, ⟨[(0, .l (.val (.int .i64)))], []⟩, fun x => cmp_Compare_int.f k x.1 x.2⟩
noncomputable abbrev Γ (k : Nat) : FuncId → Option Con := look [(90, cmp_isNaN_int.con k)]
abbrev F : Fin Go.Proofs.Try.prog := ⟨⟨[(0, .l (.val (.int .i64)))], []⟩, [], [.tmp 4]⟩
noncomputable abbrev Tl (k : Nat) : List (Nat × Hint (prods F.cout.tys)) := []
noncomputable abbrev T (k : Nat) : Nat → Option (Hint (prods F.cout.tys)) := look (Tl k)
noncomputable abbrev body : Code := Go.Proofs.Try.f68.body.getD .skip
theorem main (k : Nat) (x : prods (con 0).cin.tys) : cmp_Compare_int.f k x.1 x.2 = goK (Γ k) F (T k) 2000 [.code body] ((con 0).cin.st x) := by kernel_rfl
theorem okΓ (k : Nat) : ΓOk Go.Proofs.Try.prog (Γ k) := Γcons (cmp_isNaN_int.ok k) ⟨Go.Proofs.Try.f90, by kernel_rfl, by kernel_rfl, by kernel_rfl⟩ (Γnil)
theorem ok (k : Nat) : ConSound Go.Proofs.Try.prog 68 (con k) := con_sound (Γ := Γ) (fn := Go.Proofs.Try.f68) (body := body) (cin := (con 0).cin) (F := F) (T := T) follows (by kernel_rfl) (by kernel_rfl) (by kernel_rfl) (by kernel_rfl) (by kernel_rfl) (by decide +kernel) (by kernel_rfl) (by kernel_rfl) (tzero trivial) k (fun m _ => okΓ m) (fun m _ => tstep trivial) (fun x y h => (main k x).symm.trans h)
end cmp_Compare_int
namespace cmp_Or_int
noncomputable abbrev con (k : Nat) : Con := ⟨⟨[(0, .l (.val (.list 3 (.int .i64))))], []⟩, ⟨[(0, .l (.val (.int .i64)))], []⟩, fun x => cmp_Or_int.f k x⟩
noncomputable abbrev Γ (k : Nat) : FuncId → Option Con := look []
abbrev F : Fin Go.Proofs.Try.prog := ⟨⟨[(0, .l (.val (.int .i64)))], []⟩, [], [.tmp 2]⟩
abbrev c3 : Cut := ⟨[(3, .l (.val (.int .i64))), (6, .l (.val (.list 3 (.int .i64)))), (7, .l (.val (.int .i64))), (8, .l (.val (.int .i64)))], []⟩
noncomputable abbrev Tl (k : Nat) : List (Nat × Hint (prods F.cout.tys)) := [(3, ⟨c3, fun x => cmp_Or_int.l3 k x.1 x.2.1 x.2.2.1 x.2.2.2⟩)]
noncomputable abbrev T (k : Nat) : Nat → Option (Hint (prods F.cout.tys)) := look (Tl k)
noncomputable abbrev body : Code := Go.Proofs.Try.f79.body.getD .skip
theorem s3 (k : Nat) (x : prods c3.tys) : cmp_Or_int.l3 (k + 1) x.1 x.2.1 x.2.2.1 x.2.2.2 = segK (Γ k) F (T k) body 3 (c3.st x) := by kernel_rfl
theorem main (k : Nat) (x : prods (con 0).cin.tys) : cmp_Or_int.f k x = goK (Γ k) F (T k) 2000 [.code body] ((con 0).cin.st x) := by kernel_rfl
theorem okΓ (k : Nat) : ΓOk Go.Proofs.Try.prog (Γ k) := Γnil
theorem ok (k : Nat) : ConSound Go.Proofs.Try.prog 79 (con k) := con_sound (Γ := Γ) (fn := Go.Proofs.Try.f79) (body := body) (cin := (con 0).cin) (F := F) (T := T) follows (by kernel_rfl) (by kernel_rfl) (by kernel_rfl) (by kernel_rfl) (by kernel_rfl) (by decide +kernel) (by kernel_rfl) (by kernel_rfl) (tzero ⟨fun x => rfl, trivial⟩) k (fun m _ => okΓ m) (fun m _ => tstep ⟨fun x => s3 m x, trivial⟩) (fun x y h => (main k x).symm.trans h)
end cmp_Or_int
namespace commit_serve_1
noncomputable abbrev con (k : Nat) : Con := ⟨⟨[(0, .av Y1), (1, .av Y1)], []⟩, ⟨[(0, .l (.val (.int .i64)))], []⟩, fun x => commit_serve_1.f k x.1 x.2⟩
noncomputable abbrev Γ (k : Nat) : FuncId → Option Con := look [(68, cmp_Compare_int.con k), (79, cmp_Or_int.con k)]
abbrev F : Fin Go.Proofs.Try.prog := ⟨⟨[(0, .l (.val (.int .i64)))], []⟩, [], [.tmp 4]⟩
noncomputable abbrev Tl (k : Nat) : List (Nat × Hint (prods F.cout.tys)) := []
noncomputable abbrev T (k : Nat) : Nat → Option (Hint (prods F.cout.tys)) := look (Tl k)
noncomputable abbrev body : Code := Go.Proofs.Try.f78.body.getD .skip
theorem main (k : Nat) (x : prods (con 0).cin.tys) : commit_serve_1.f k x.1 x.2 = goK (Γ k) F (T k) 2000 [.code body] ((con 0).cin.st x) := by kernel_rfl
theorem okΓ (k : Nat) : ΓOk Go.Proofs.Try.prog (Γ k) := Γcons (cmp_Compare_int.ok k) ⟨Go.Proofs.Try.f68, by kernel_rfl, by kernel_rfl, by kernel_rfl⟩ (Γcons (cmp_Or_int.ok k) ⟨Go.Proofs.Try.f79, by kernel_rfl, by kernel_rfl, by kernel_rfl⟩ (Γnil))
theorem ok (k : Nat) : ConSound Go.Proofs.Try.prog 78 (con k) := con_sound (Γ := Γ) (fn := Go.Proofs.Try.f78) (body := body) (cin := (con 0).cin) (F := F) (T := T) follows (by kernel_rfl) (by kernel_rfl) (by kernel_rfl) (by kernel_rfl) (by kernel_rfl) (by decide +kernel) (by kernel_rfl) (by kernel_rfl) (tzero trivial) k (fun m _ => okΓ m) (fun m _ => tstep trivial) (fun x y h => (main k x).symm.trans h)
end commit_serve_1
namespace slices_insertionSortCmpFunc_commit_piece
noncomputable abbrev con (k : Nat) : Con := ⟨⟨[(0, .l (.row 9000000)), (1, .l (.val (.int .i64))), (2, .l (.val (.int .i64))), (3, .l (.fn0 78))], [(9000000, .row 153 Y1)]⟩, ⟨[], [(9000000, .row 153 Y1)]⟩, fun x => slices_insertionSortCmpFunc_commit_piece.f k x.1 x.2.1 x.2.2⟩
noncomputable abbrev Γ (k : Nat) : FuncId → Option Con := look [(78, commit_serve_1.con k)]
abbrev F : Fin Go.Proofs.Try.prog := ⟨⟨[], [(9000000, .row 153 Y1)]⟩, [9000000], []⟩
abbrev c1 : Cut := ⟨[(0, .l (.row 9000000)), (1, .l (.val (.int .i64))), (2, .l (.val (.int .i64))), (3, .l (.fn0 78)), (8, .l (.val (.int .i64)))], [(9000000, .row 153 Y1)]⟩
abbrev c4 : Cut := ⟨[(0, .l (.row 9000000)), (1, .l (.val (.int .i64))), (2, .l (.val (.int .i64))), (3, .l (.fn0 78)), (8, .l (.val (.int .i64))), (9, .l (.val (.int .i64)))], [(9000000, .row 153 Y1)]⟩
noncomputable abbrev Tl (k : Nat) : List (Nat × Hint (prods F.cout.tys)) := [(1, ⟨c1, fun x => slices_insertionSortCmpFunc_commit_piece.l1 k x.1 x.2.1 x.2.2.1 x.2.2.2⟩), (4, ⟨c4, fun x => slices_insertionSortCmpFunc_commit_piece.l4 k x.1 x.2.1 x.2.2.1 x.2.2.2.1 x.2.2.2.2⟩)]
noncomputable abbrev T (k : Nat) : Nat → Option (Hint (prods F.cout.tys)) := look (Tl k)
noncomputable abbrev body : Code := Go.Proofs.Try.f100.body.getD .skip
theorem s1 (k : Nat) (x : prods c1.tys) : slices_insertionSortCmpFunc_commit_piece.l1 (k + 1) x.1 x.2.1 x.2.2.1 x.2.2.2 = segK (Γ k) F (T k) body 1 (c1.st x) := by kernel_rfl
theorem s4 (k : Nat) (x : prods c4.tys) : slices_insertionSortCmpFunc_commit_piece.l4 (k + 1) x.1 x.2.1 x.2.2.1 x.2.2.2.1 x.2.2.2.2 = segK (Γ k) F (T k) body 4 (c4.st x) := by kernel_rfl
theorem main (k : Nat) (x : prods (con 0).cin.tys) : slices_insertionSortCmpFunc_commit_piece.f k x.1 x.2.1 x.2.2 = goK (Γ k) F (T k) 2000 [.code body] ((con 0).cin.st x) := by kernel_rfl
theorem okΓ (k : Nat) : ΓOk Go.Proofs.Try.prog (Γ k) := Γcons (commit_serve_1.ok k) ⟨Go.Proofs.Try.f78, by kernel_rfl, by kernel_rfl, by kernel_rfl⟩ (Γnil)
theorem ok (k : Nat) : ConSound Go.Proofs.Try.prog 100 (con k) := con_sound (Γ := Γ) (fn := Go.Proofs.Try.f100) (body := body) (cin := (con 0).cin) (F := F) (T := T) follows (by kernel_rfl) (by kernel_rfl) (by kernel_rfl) (by kernel_rfl) (by kernel_rfl) (by decide +kernel) (by kernel_rfl) (by kernel_rfl) (tzero ⟨fun x => rfl, fun x => rfl, trivial⟩) k (fun m _ => okΓ m) (fun m _ => tstep ⟨fun x => s1 m x, fun x => s4 m x, trivial⟩) (fun x y h => (main k x).symm.trans h)
end slices_insertionSortCmpFunc_commit_piece
namespace slices_swapRangeCmpFunc_commit_piece
noncomputable abbrev con (k : Nat) : Con := ⟨⟨[(0, .l (.row 9000000)), (1, .l (.val (.int .i64))), (2, .l (.val (.int .i64))), (3, .l (.val (.int .i64))), (4, .l (.fn0 78))], [(9000000, .row 153 Y1)]⟩, ⟨[], [(9000000, .row 153 Y1)]⟩, fun x => slices_swapRangeCmpFunc_commit_piece.f k x.1 x.2.1 x.2.2.1 x.2.2.2⟩
noncomputable abbrev Γ (k : Nat) : FuncId → Option Con := look []
abbrev F : Fin Go.Proofs.Try.prog := ⟨⟨[], [(9000000, .row 153 Y1)]⟩, [9000000], []⟩
abbrev c1 : Cut := ⟨[(0, .l (.row 9000000)), (1, .l (.val (.int .i64))), (2, .l (.val (.int .i64))), (3, .l (.val (.int .i64))), (10, .l (.val (.int .i64)))], [(9000000, .row 153 Y1)]⟩
noncomputable abbrev Tl (k : Nat) : List (Nat × Hint (prods F.cout.tys)) := [(1, ⟨c1, fun x => slices_swapRangeCmpFunc_commit_piece.l1 k x.1 x.2.1 x.2.2.1 x.2.2.2.1 x.2.2.2.2⟩)]
noncomputable abbrev T (k : Nat) : Nat → Option (Hint (prods F.cout.tys)) := look (Tl k)
noncomputable abbrev body : Code := Go.Proofs.Try.f111.body.getD .skip
theorem s1 (k : Nat) (x : prods c1.tys) : slices_swapRangeCmpFunc_commit_piece.l1 (k + 1) x.1 x.2.1 x.2.2.1 x.2.2.2.1 x.2.2.2.2 = segK (Γ k) F (T k) body 1 (c1.st x) := by kernel_rfl
theorem main (k : Nat) (x : prods (con 0).cin.tys) : slices_swapRangeCmpFunc_commit_piece.f k x.1 x.2.1 x.2.2.1 x.2.2.2 = goK (Γ k) F (T k) 2000 [.code body] ((con 0).cin.st x) := by kernel_rfl
theorem okΓ (k : Nat) : ΓOk Go.Proofs.Try.prog (Γ k) := Γnil
theorem ok (k : Nat) : ConSound Go.Proofs.Try.prog 111 (con k) := con_sound (Γ := Γ) (fn := Go.Proofs.Try.f111) (body := body) (cin := (con 0).cin) (F := F) (T := T) follows (by kernel_rfl) (by kernel_rfl) (by kernel_rfl) (by kernel_rfl) (by kernel_rfl) (by decide +kernel) (by kernel_rfl) (by kernel_rfl) (tzero ⟨fun x => rfl, trivial⟩) k (fun m _ => okΓ m) (fun m _ => tstep ⟨fun x => s1 m x, trivial⟩) (fun x y h => (main k x).symm.trans h)
end slices_swapRangeCmpFunc_commit_piece
namespace slices_rotateCmpFunc_commit_piece
noncomputable abbrev con (k : Nat) : Con := ⟨⟨[(0, .l (.row 9000000)), (1, .l (.val (.int .i64))), (2, .l (.val (.int .i64))), (3, .l (.val (.int .i64))), (4, .l (.fn0 78))], [(9000000, .row 153 Y1)]⟩, ⟨[], [(9000000, .row 153 Y1)]⟩, fun x => slices_rotateCmpFunc_commit_piece.f k x.1 x.2.1 x.2.2.1 x.2.2.2⟩
noncomputable abbrev Γ (k : Nat) : FuncId → Option Con := look [(111, slices_swapRangeCmpFunc_commit_piece.con k)]
abbrev F : Fin Go.Proofs.Try.prog := ⟨⟨[], [(9000000, .row 153 Y1)]⟩, [9000000], []⟩
abbrev c2 : Cut := ⟨[(0, .l (.row 9000000)), (2, .l (.val (.int .i64))), (4, .l (.fn0 78)), (10, .l (.val (.int .i64))), (11, .l (.val (.int .i64)))], [(9000000, .row 153 Y1)]⟩
noncomputable abbrev Tl (k : Nat) : List (Nat × Hint (prods F.cout.tys)) := [(2, ⟨c2, fun x => slices_rotateCmpFunc_commit_piece.l2 k x.1 x.2.1 x.2.2.1 x.2.2.2⟩)]
noncomputable abbrev T (k : Nat) : Nat → Option (Hint (prods F.cout.tys)) := look (Tl k)
noncomputable abbrev body : Code := Go.Proofs.Try.f107.body.getD .skip
theorem s2 (k : Nat) (x : prods c2.tys) : slices_rotateCmpFunc_commit_piece.l2 (k + 1) x.1 x.2.1 x.2.2.1 x.2.2.2 = segK (Γ k) F (T k) body 2 (c2.st x) := by kernel_rfl
theorem main (k : Nat) (x : prods (con 0).cin.tys) : slices_rotateCmpFunc_commit_piece.f k x.1 x.2.1 x.2.2.1 x.2.2.2 = goK (Γ k) F (T k) 2000 [.code body] ((con 0).cin.st x) := by kernel_rfl
theorem okΓ (k : Nat) : ΓOk Go.Proofs.Try.prog (Γ k) := Γcons (slices_swapRangeCmpFunc_commit_piece.ok k) ⟨Go.Proofs.Try.f111, by kernel_rfl, by kernel_rfl, by kernel_rfl⟩ (Γnil)
theorem ok (k : Nat) : ConSound Go.Proofs.Try.prog 107 (con k) := con_sound (Γ := Γ) (fn := Go.Proofs.Try.f107) (body := body) (cin := (con 0).cin) (F := F) (T := T) follows (by kernel_rfl) (by kernel_rfl) (by kernel_rfl) (by kernel_rfl) (by kernel_rfl) (by decide +kernel) (by kernel_rfl) (by kernel_rfl) (tzero ⟨fun x => rfl, trivial⟩) k (fun m _ => okΓ m) (fun m _ => tstep ⟨fun x => s2 m x, trivial⟩) (fun x y h => (main k x).symm.trans h)
end slices_rotateCmpFunc_commit_piece
namespace slices_symMergeCmpFunc_commit_piece
noncomputable abbrev con (k : Nat) : Con := ⟨⟨[(0, .l (.row 9000000)), (1, .l (.val (.int .i64))), (2, .l (.val (.int .i64))), (3, .l (.val (.int .i64))), (4, .l (.fn0 78))], [(9000000, .row 153 Y1)]⟩, ⟨[], [(9000000, .row 153 Y1)]⟩, fun x => slices_symMergeCmpFunc_commit_piece.f k x.1 x.2.1 x.2.2.1 x.2.2.2⟩
noncomputable abbrev Γ (k : Nat) : FuncId → Option Con := look [(78, commit_serve_1.con k), (101, slices_symMergeCmpFunc_commit_piece.con k), (107, slices_rotateCmpFunc_commit_piece.con k)]
abbrev F : Fin Go.Proofs.Try.prog := ⟨⟨[], [(9000000, .row 153 Y1)]⟩, [9000000], []⟩
abbrev c3 : Cut := ⟨[(0, .l (.row 9000000)), (1, .l (.val (.int .i64))), (4, .l (.fn0 78)), (10, .l (.val (.int .i64))), (11, .l (.val (.int .i64)))], [(9000000, .row 153 Y1)]⟩
abbrev c9 : Cut := ⟨[(0, .l (.row 9000000)), (10, .l (.val (.int .i64))), (13, .l (.val (.int .i64)))], [(9000000, .row 153 Y1)]⟩
abbrev c15 : Cut := ⟨[(0, .l (.row 9000000)), (2, .l (.val (.int .i64))), (4, .l (.fn0 78)), (14, .l (.val (.int .i64))), (15, .l (.val (.int .i64)))], [(9000000, .row 153 Y1)]⟩
abbrev c21 : Cut := ⟨[(0, .l (.row 9000000)), (14, .l (.val (.int .i64))), (17, .l (.val (.int .i64)))], [(9000000, .row 153 Y1)]⟩
abbrev c32 : Cut := ⟨[(0, .l (.row 9000000)), (1, .l (.val (.int .i64))), (2, .l (.val (.int .i64))), (3, .l (.val (.int .i64))), (4, .l (.fn0 78)), (18, .l (.val (.int .i64))), (19, .l (.val (.int .i64))), (20, .l (.val (.int .i64))), (21, .l (.val (.int .i64)))], [(9000000, .row 153 Y1)]⟩
abbrev c33 : Cut := ⟨[(0, .l (.row 9000000)), (1, .l (.val (.int .i64))), (2, .l (.val (.int .i64))), (3, .l (.val (.int .i64))), (4, .l (.fn0 78)), (18, .l (.val (.int .i64))), (19, .l (.val (.int .i64))), (20, .l (.val (.int .i64))), (21, .l (.val (.int .i64))), (22, .l (.val (.int .i64)))], [(9000000, .row 153 Y1)]⟩
abbrev c41 : Cut := ⟨[(0, .l (.row 9000000)), (1, .l (.val (.int .i64))), (3, .l (.val (.int .i64))), (4, .l (.fn0 78)), (18, .l (.val (.int .i64))), (20, .l (.val (.int .i64))), (24, .l (.val (.int .i64)))], [(9000000, .row 153 Y1)]⟩
noncomputable abbrev Tl (k : Nat) : List (Nat × Hint (prods F.cout.tys)) := [(3, ⟨c3, fun x => slices_symMergeCmpFunc_commit_piece.l3 k x.1 x.2.1 x.2.2.1 x.2.2.2⟩), (9, ⟨c9, fun x => slices_symMergeCmpFunc_commit_piece.l9 k x.1 x.2.1 x.2.2⟩), (15, ⟨c15, fun x => slices_symMergeCmpFunc_commit_piece.l15 k x.1 x.2.1 x.2.2.1 x.2.2.2⟩), (21, ⟨c21, fun x => slices_symMergeCmpFunc_commit_piece.l21 k x.1 x.2.1 x.2.2⟩), (32, ⟨c32, fun x => slices_symMergeCmpFunc_commit_piece.l32 k x.1 x.2.1 x.2.2.1 x.2.2.2.1 x.2.2.2.2.1 x.2.2.2.2.2.1 x.2.2.2.2.2.2.1 x.2.2.2.2.2.2.2⟩), (33, ⟨c33, fun x => slices_symMergeCmpFunc_commit_piece.l33 k x.1 x.2.1 x.2.2.1 x.2.2.2.1 x.2.2.2.2.1 x.2.2.2.2.2.1 x.2.2.2.2.2.2.1 x.2.2.2.2.2.2.2.1 x.2.2.2.2.2.2.2.2⟩), (41, ⟨c41, fun x => slices_symMergeCmpFunc_commit_piece.l41 k x.1 x.2.1 x.2.2.1 x.2.2.2.1 x.2.2.2.2.1 x.2.2.2.2.2⟩)]
noncomputable abbrev T (k : Nat) : Nat → Option (Hint (prods F.cout.tys)) := look (Tl k)
noncomputable abbrev body : Code := Go.Proofs.Try.f101.body.getD .skip
theorem s3 (k : Nat) (x : prods c3.tys) : slices_symMergeCmpFunc_commit_piece.l3 (k + 1) x.1 x.2.1 x.2.2.1 x.2.2.2 = segK (Γ k) F (T k) body 3 (c3.st x) := by kernel_rfl
theorem s9 (k : Nat) (x : prods c9.tys) : slices_symMergeCmpFunc_commit_piece.l9 (k + 1) x.1 x.2.1 x.2.2 = segK (Γ k) F (T k) body 9 (c9.st x) := by kernel_rfl
theorem s15 (k : Nat) (x : prods c15.tys) : slices_symMergeCmpFunc_commit_piece.l15 (k + 1) x.1 x.2.1 x.2.2.1 x.2.2.2 = segK (Γ k) F (T k) body 15 (c15.st x) := by kernel_rfl
theorem s21 (k : Nat) (x : prods c21.tys) : slices_symMergeCmpFunc_commit_piece.l21 (k + 1) x.1 x.2.1 x.2.2 = segK (Γ k) F (T k) body 21 (c21.st x) := by kernel_rfl
theorem s32 (k : Nat) (x : prods c32.tys) : slices_symMergeCmpFunc_commit_piece.l32 (k + 1) x.1 x.2.1 x.2.2.1 x.2.2.2.1 x.2.2.2.2.1 x.2.2.2.2.2.1 x.2.2.2.2.2.2.1 x.2.2.2.2.2.2.2 = segK (Γ k) F (T k) body 32 (c32.st x) := by kernel_rfl
theorem s33 (k : Nat) (x : prods c33.tys) : slices_symMergeCmpFunc_commit_piece.l33 (k + 1) x.1 x.2.1 x.2.2.1 x.2.2.2.1 x.2.2.2.2.1 x.2.2.2.2.2.1 x.2.2.2.2.2.2.1 x.2.2.2.2.2.2.2.1 x.2.2.2.2.2.2.2.2 = segK (Γ k) F (T k) body 33 (c33.st x) := by kernel_rfl
theorem s41 (k : Nat) (x : prods c41.tys) : slices_symMergeCmpFunc_commit_piece.l41 (k + 1) x.1 x.2.1 x.2.2.1 x.2.2.2.1 x.2.2.2.2.1 x.2.2.2.2.2 = segK (Γ k) F (T k) body 41 (c41.st x) := by kernel_rfl
theorem main (k : Nat) (x : prods (con 0).cin.tys) : slices_symMergeCmpFunc_commit_piece.f (k + 1) x.1 x.2.1 x.2.2.1 x.2.2.2 = goK (Γ k) F (T k) 2000 [.code body] ((con 0).cin.st x) := by kernel_rfl
theorem okΓ (k : Nat) (h : ConSound Go.Proofs.Try.prog 101 (con k)) : ΓOk Go.Proofs.Try.prog (Γ k) := Γcons (commit_serve_1.ok k) ⟨Go.Proofs.Try.f78, by kernel_rfl, by kernel_rfl, by kernel_rfl⟩ (Γcons h ⟨Go.Proofs.Try.f101, by kernel_rfl, by kernel_rfl, by kernel_rfl⟩ (Γcons (slices_rotateCmpFunc_commit_piece.ok k) ⟨Go.Proofs.Try.f107, by kernel_rfl, by kernel_rfl, by kernel_rfl⟩ (Γnil)))
theorem ok (k : Nat) : ConSound Go.Proofs.Try.prog 101 (con k) := by
  induction k using Nat.strongRecOn with
  | ind k ih => cases k with
    | zero => exact fun x y h => absurd (show (none : Option _) = some y from h) (by simp)
    | succ n => exact con_sound (Γ := Γ) (fn := Go.Proofs.Try.f101) (body := body) (cin := (con 0).cin) (F := F) (T := T) follows (by kernel_rfl) (by kernel_rfl) (by kernel_rfl) (by kernel_rfl) (by kernel_rfl) (by decide +kernel) (by kernel_rfl) (by kernel_rfl) (tzero ⟨fun x => rfl, fun x => rfl, fun x => rfl, fun x => rfl, fun x => rfl, fun x => rfl, fun x => rfl, trivial⟩) n (fun m hm => okΓ m (ih m (Nat.lt_succ_of_le hm))) (fun m _ => tstep ⟨fun x => s3 m x, fun x => s9 m x, fun x => s15 m x, fun x => s21 m x, fun x => s32 m x, fun x => s33 m x, fun x => s41 m x, trivial⟩) (fun x y h => (main n x).symm.trans h)
end slices_symMergeCmpFunc_commit_piece
namespace slices_stableCmpFunc_commit_piece
noncomputable abbrev con (k : Nat) : Con := ⟨⟨[(0, .l (.row 9000000)), (1, .l (.val (.int .i64))), (2, .l (.fn0 78))], [(9000000, .row 153 Y1)]⟩, ⟨[], [(9000000, .row 153 Y1)]⟩, fun x => slices_stableCmpFunc_commit_piece.f k x.1 x.2⟩
noncomputable abbrev Γ (k : Nat) : FuncId → Option Con := look [(100, slices_insertionSortCmpFunc_commit_piece.con k), (101, slices_symMergeCmpFunc_commit_piece.con k)]
abbrev F : Fin Go.Proofs.Try.prog := ⟨⟨[], [(9000000, .row 153 Y1)]⟩, [9000000], []⟩
abbrev c2 : Cut := ⟨[(0, .l (.row 9000000)), (1, .l (.val (.int .i64))), (2, .l (.fn0 78)), (6, .l (.val (.int .i64))), (7, .l (.val (.int .i64))), (8, .l (.val (.int .i64)))], [(9000000, .row 153 Y1)]⟩
abbrev c7 : Cut := ⟨[(0, .l (.row 9000000)), (1, .l (.val (.int .i64))), (2, .l (.fn0 78)), (6, .l (.val (.int .i64)))], [(9000000, .row 153 Y1)]⟩
abbrev c9 : Cut := ⟨[(0, .l (.row 9000000)), (1, .l (.val (.int .i64))), (2, .l (.fn0 78)), (6, .l (.val (.int .i64))), (7, .l (.val (.int .i64))), (8, .l (.val (.int .i64)))], [(9000000, .row 153 Y1)]⟩
noncomputable abbrev Tl (k : Nat) : List (Nat × Hint (prods F.cout.tys)) := [(2, ⟨c2, fun x => slices_stableCmpFunc_commit_piece.l2 k x.1 x.2.1 x.2.2.1 x.2.2.2.1 x.2.2.2.2⟩), (7, ⟨c7, fun x => slices_stableCmpFunc_commit_piece.l7 k x.1 x.2.1 x.2.2⟩), (9, ⟨c9, fun x => slices_stableCmpFunc_commit_piece.l9 k x.1 x.2.1 x.2.2.1 x.2.2.2.1 x.2.2.2.2⟩)]
noncomputable abbrev T (k : Nat) : Nat → Option (Hint (prods F.cout.tys)) := look (Tl k)
noncomputable abbrev body : Code := Go.Proofs.Try.f92.body.getD .skip
theorem s2 (k : Nat) (x : prods c2.tys) : slices_stableCmpFunc_commit_piece.l2 (k + 1) x.1 x.2.1 x.2.2.1 x.2.2.2.1 x.2.2.2.2 = segK (Γ k) F (T k) body 2 (c2.st x) := by kernel_rfl
theorem s7 (k : Nat) (x : prods c7.tys) : slices_stableCmpFunc_commit_piece.l7 (k + 1) x.1 x.2.1 x.2.2 = segK (Γ k) F (T k) body 7 (c7.st x) := by kernel_rfl
theorem s9 (k : Nat) (x : prods c9.tys) : slices_stableCmpFunc_commit_piece.l9 (k + 1) x.1 x.2.1 x.2.2.1 x.2.2.2.1 x.2.2.2.2 = segK (Γ k) F (T k) body 9 (c9.st x) := by kernel_rfl
theorem main (k : Nat) (x : prods (con 0).cin.tys) : slices_stableCmpFunc_commit_piece.f k x.1 x.2 = goK (Γ k) F (T k) 2000 [.code body] ((con 0).cin.st x) := by kernel_rfl
theorem okΓ (k : Nat) : ΓOk Go.Proofs.Try.prog (Γ k) := Γcons (slices_insertionSortCmpFunc_commit_piece.ok k) ⟨Go.Proofs.Try.f100, by kernel_rfl, by kernel_rfl, by kernel_rfl⟩ (Γcons (slices_symMergeCmpFunc_commit_piece.ok k) ⟨Go.Proofs.Try.f101, by kernel_rfl, by kernel_rfl, by kernel_rfl⟩ (Γnil))
theorem ok (k : Nat) : ConSound Go.Proofs.Try.prog 92 (con k) := con_sound (Γ := Γ) (fn := Go.Proofs.Try.f92) (body := body) (cin := (con 0).cin) (F := F) (T := T) follows (by kernel_rfl) (by kernel_rfl) (by kernel_rfl) (by kernel_rfl) (by kernel_rfl) (by decide +kernel) (by kernel_rfl) (by kernel_rfl) (tzero ⟨fun x => rfl, fun x => rfl, fun x => rfl, trivial⟩) k (fun m _ => okΓ m) (fun m _ => tstep ⟨fun x => s2 m x, fun x => s7 m x, fun x => s9 m x, trivial⟩) (fun x y h => (main k x).symm.trans h)
end slices_stableCmpFunc_commit_piece
namespace slices_SortStableFunc_commit_piece
noncomputable abbrev con (k : Nat) : Con := ⟨⟨[(0, .l (.row 9000000)), (1, .l (.fn0 78))], [(9000000, .row 153 Y1)]⟩, ⟨[], [(9000000, .row 153 Y1)]⟩, fun x => slices_SortStableFunc_commit_piece.f k x⟩
noncomputable abbrev Γ (k : Nat) : FuncId → Option Con := look [(92, slices_stableCmpFunc_commit_piece.con k)]
abbrev F : Fin Go.Proofs.Try.prog := ⟨⟨[], [(9000000, .row 153 Y1)]⟩, [9000000], []⟩
noncomputable abbrev Tl (k : Nat) : List (Nat × Hint (prods F.cout.tys)) := []
noncomputable abbrev T (k : Nat) : Nat → Option (Hint (prods F.cout.tys)) := look (Tl k)
noncomputable abbrev body : Code := Go.Proofs.Try.f77.body.getD .skip
theorem main (k : Nat) (x : prods (con 0).cin.tys) : slices_SortStableFunc_commit_piece.f k x = goK (Γ k) F (T k) 2000 [.code body] ((con 0).cin.st x) := by kernel_rfl
theorem okΓ (k : Nat) : ΓOk Go.Proofs.Try.prog (Γ k) := Γcons (slices_stableCmpFunc_commit_piece.ok k) ⟨Go.Proofs.Try.f92, by kernel_rfl, by kernel_rfl, by kernel_rfl⟩ (Γnil)
theorem ok (k : Nat) : ConSound Go.Proofs.Try.prog 77 (con k) := con_sound (Γ := Γ) (fn := Go.Proofs.Try.f77) (body := body) (cin := (con 0).cin) (F := F) (T := T) follows (by kernel_rfl) (by kernel_rfl) (by kernel_rfl) (by kernel_rfl) (by kernel_rfl) (by decide +kernel) (by kernel_rfl) (by kernel_rfl) (tzero trivial) k (fun m _ => okΓ m) (fun m _ => tstep trivial) (fun x y h => (main k x).symm.trans h)
end slices_SortStableFunc_commit_piece
namespace commit_serve
noncomputable abbrev con (k : Nat) : Con := ⟨⟨[(0, .l (.val (.list 33 Y10))), (1, .l (.val (.list 4 .bool))), (2, .l (.val (.int .i64)))], []⟩, ⟨[(0, .l (.val (.list 3 (.int .i64)))), (1, .l (.val (.int .i64))), (2, .l (.val .bool))], []⟩, fun x => commit_serve.f k x.1 x.2.1 x.2.2⟩
noncomputable abbrev Γ (k : Nat) : FuncId → Option Con := look [(62, offer_Cost.con k), (77, slices_SortStableFunc_commit_piece.con k)]
abbrev F : Fin Go.Proofs.Try.prog := ⟨⟨[(0, .l (.val (.list 3 (.int .i64)))), (1, .l (.val (.int .i64))), (2, .l (.val .bool))], []⟩, [], [.tmp 6, .tmp 7, .tmp 8]⟩
abbrev c5 : Cut := ⟨[(0, .l (.val (.list 33 Y10))), (1, .l (.val (.list 4 .bool))), (9, .l (.row 7000000)), (10, .l (.row 7000501)), (11, .l (.val (.int .i64))), (30, .l (.val (.list 33 Y10))), (31, .l (.val (.int .i64))), (32, .l (.val (.int .i64)))], [(7000000, .row 3 (.int .i64)), (7000501, .row 153 Y1)]⟩
abbrev c13 : Cut := ⟨[(0, .l (.val (.list 33 Y10))), (1, .l (.val (.list 4 .bool))), (9, .l (.row 7000000)), (10, .l (.row 7000501)), (11, .l (.val (.int .i64))), (12, .l (.val (.int .i64))), (14, .l (.val (.int .i64))), (30, .l (.val (.list 33 Y10))), (31, .l (.val (.int .i64))), (32, .l (.val (.int .i64))), (61, .l (.val (.list 72 Y0))), (62, .l (.val (.int .i64))), (63, .l (.val (.int .i64)))], [(7000000, .row 3 (.int .i64)), (7000501, .row 153 Y1)]⟩
abbrev c25 : Cut := ⟨[(0, .l (.val (.list 33 Y10))), (9, .l (.row 7000000)), (11, .l (.val (.int .i64))), (95, .l (.row 7000501)), (96, .l (.val (.int .i64))), (97, .l (.val (.int .i64)))], [(7000000, .row 3 (.int .i64)), (7000501, .row 153 Y1)]⟩
abbrev c34 : Cut := ⟨[(9, .l (.row 7000000)), (21, .l (.val (.int .i64))), (122, .l (.val (.list 33 Y10))), (123, .l (.val (.int .i64))), (124, .l (.val (.int .i64)))], [(7000000, .row 3 (.int .i64))]⟩
noncomputable abbrev Tl (k : Nat) : List (Nat × Hint (prods F.cout.tys)) := [(5, ⟨c5, fun x => commit_serve.l5 k x.1 x.2.1 x.2.2.1 x.2.2.2.1 x.2.2.2.2.1 x.2.2.2.2.2.1 x.2.2.2.2.2.2.1 x.2.2.2.2.2.2.2⟩), (13, ⟨c13, fun x => commit_serve.l13 k x.1 x.2.1 x.2.2.1 x.2.2.2.1 x.2.2.2.2.1 x.2.2.2.2.2.1 x.2.2.2.2.2.2.1 x.2.2.2.2.2.2.2.1 x.2.2.2.2.2.2.2.2.1 x.2.2.2.2.2.2.2.2.2.1 x.2.2.2.2.2.2.2.2.2.2.1 x.2.2.2.2.2.2.2.2.2.2.2.1 x.2.2.2.2.2.2.2.2.2.2.2.2⟩), (25, ⟨c25, fun x => commit_serve.l25 k x.1 x.2.1 x.2.2.1 x.2.2.2.1 x.2.2.2.2.1 x.2.2.2.2.2⟩), (34, ⟨c34, fun x => commit_serve.l34 k x.1 x.2.1 x.2.2.1 x.2.2.2.1 x.2.2.2.2⟩)]
noncomputable abbrev T (k : Nat) : Nat → Option (Hint (prods F.cout.tys)) := look (Tl k)
noncomputable abbrev body : Code := Go.Proofs.Try.f44.body.getD .skip
theorem s5 (k : Nat) (x : prods c5.tys) : commit_serve.l5 (k + 1) x.1 x.2.1 x.2.2.1 x.2.2.2.1 x.2.2.2.2.1 x.2.2.2.2.2.1 x.2.2.2.2.2.2.1 x.2.2.2.2.2.2.2 = segK (Γ k) F (T k) body 5 (c5.st x) := by kernel_rfl
theorem s13 (k : Nat) (x : prods c13.tys) : commit_serve.l13 (k + 1) x.1 x.2.1 x.2.2.1 x.2.2.2.1 x.2.2.2.2.1 x.2.2.2.2.2.1 x.2.2.2.2.2.2.1 x.2.2.2.2.2.2.2.1 x.2.2.2.2.2.2.2.2.1 x.2.2.2.2.2.2.2.2.2.1 x.2.2.2.2.2.2.2.2.2.2.1 x.2.2.2.2.2.2.2.2.2.2.2.1 x.2.2.2.2.2.2.2.2.2.2.2.2 = segK (Γ k) F (T k) body 13 (c13.st x) := by kernel_rfl
theorem s25 (k : Nat) (x : prods c25.tys) : commit_serve.l25 (k + 1) x.1 x.2.1 x.2.2.1 x.2.2.2.1 x.2.2.2.2.1 x.2.2.2.2.2 = segK (Γ k) F (T k) body 25 (c25.st x) := by kernel_rfl
theorem s34 (k : Nat) (x : prods c34.tys) : commit_serve.l34 (k + 1) x.1 x.2.1 x.2.2.1 x.2.2.2.1 x.2.2.2.2 = segK (Γ k) F (T k) body 34 (c34.st x) := by kernel_rfl
theorem main (k : Nat) (x : prods (con 0).cin.tys) : commit_serve.f k x.1 x.2.1 x.2.2 = goK (Γ k) F (T k) 2000 [.code body] ((con 0).cin.st x) := by kernel_rfl
theorem okΓ (k : Nat) : ΓOk Go.Proofs.Try.prog (Γ k) := Γcons (offer_Cost.ok k) ⟨Go.Proofs.Try.f62, by kernel_rfl, by kernel_rfl, by kernel_rfl⟩ (Γcons (slices_SortStableFunc_commit_piece.ok k) ⟨Go.Proofs.Try.f77, by kernel_rfl, by kernel_rfl, by kernel_rfl⟩ (Γnil))
theorem ok (k : Nat) : ConSound Go.Proofs.Try.prog 44 (con k) := con_sound (Γ := Γ) (fn := Go.Proofs.Try.f44) (body := body) (cin := (con 0).cin) (F := F) (T := T) follows (by kernel_rfl) (by kernel_rfl) (by kernel_rfl) (by kernel_rfl) (by kernel_rfl) (by decide +kernel) (by kernel_rfl) (by kernel_rfl) (tzero ⟨fun x => rfl, fun x => rfl, fun x => rfl, fun x => rfl, trivial⟩) k (fun m _ => okΓ m) (fun m _ => tstep ⟨fun x => s5 m x, fun x => s13 m x, fun x => s25 m x, fun x => s34 m x, trivial⟩) (fun x y h => (main k x).symm.trans h)
end commit_serve
namespace commit_moved
noncomputable abbrev con (k : Nat) : Con := ⟨⟨[(0, .l (.val (.list 33 Y10))), (1, .av Y12), (2, .l (.val (.int .i64)))], []⟩, ⟨[(0, .av Y12), (1, .l (.val .bool))], []⟩, fun x => commit_moved.f k x.1 x.2.1 x.2.2⟩
noncomputable abbrev Γ (k : Nat) : FuncId → Option Con := look [(42, commit_cut.con k), (47, unit_Next.con k)]
abbrev F : Fin Go.Proofs.Try.prog := ⟨⟨[(0, .av Y12), (1, .l (.val .bool))], []⟩, [], [.cell 6 96, .tmp 7]⟩
abbrev c3 : Cut := ⟨[(2, .l (.val (.int .i64))), (4, .l (.ptr 7000000 0)), (6, .l (.ptr 7000001 0)), (8, .l (.ptr 7000002 0)), (19, .l (.val (.list 33 Y10))), (20, .l (.val (.int .i64))), (21, .l (.val (.int .i64)))], [(7000000, .box 96 [.val (.list 31 Y8), .val (.int .i64), .val (.int .i64), .val (.int .i64)]), (7000001, .box 96 [.nils, .val (.int .i64), .val (.int .i64), .val (.int .i64)]), (7000002, .box 96 [.row 7000503, .val (.int .i64), .val (.int .i64), .val (.int .i64)]), (7000503, .row 31 Y8)]⟩
abbrev c8 : Cut := ⟨[(2, .l (.val (.int .i64))), (4, .l (.ptr 7000000 0)), (6, .l (.ptr 7000001 0)), (8, .l (.ptr 7000002 0)), (9, .l (.val (.int .i64))), (10, .l (.ptr 7000003 0)), (11, .l (.val (.int .i64))), (19, .l (.val (.list 33 Y10))), (20, .l (.val (.int .i64))), (21, .l (.val (.int .i64)))], [(7000000, .box 96 [.val (.list 31 Y8), .val (.int .i64), .val (.int .i64), .val (.int .i64)]), (7000001, .box 96 [.nils, .val (.int .i64), .val (.int .i64), .val (.int .i64)]), (7000002, .box 96 [.row 7000504, .val (.int .i64), .val (.int .i64), .val (.int .i64)]), (7000003, .box 33 [.val .str, .val (.int .i64), .val (.int .i64), .val (.int .i64), .val (.int .i64), .val (.int .i64), .val (.int .i64), .val (.int .i64), .val .str, .val (.list 72 Y0), .val .bool, .val (.int .i64), .val (.int .i64)]), (7000504, .row 31 Y8)]⟩
noncomputable abbrev Tl (k : Nat) : List (Nat × Hint (prods F.cout.tys)) := [(3, ⟨c3, fun x => commit_moved.l3 k x.1 x.2.1 x.2.2.1 x.2.2.2.1 x.2.2.2.2.1 x.2.2.2.2.2.1 x.2.2.2.2.2.2.1 x.2.2.2.2.2.2.2.1 x.2.2.2.2.2.2.2.2.1 x.2.2.2.2.2.2.2.2.2.1 x.2.2.2.2.2.2.2.2.2.2.1 x.2.2.2.2.2.2.2.2.2.2.2.1 x.2.2.2.2.2.2.2.2.2.2.2.2.1 x.2.2.2.2.2.2.2.2.2.2.2.2.2.1 x.2.2.2.2.2.2.2.2.2.2.2.2.2.2⟩), (8, ⟨c8, fun x => commit_moved.l8 k x.1 x.2.1 x.2.2.1 x.2.2.2.1 x.2.2.2.2.1 x.2.2.2.2.2.1 x.2.2.2.2.2.2.1 x.2.2.2.2.2.2.2.1 x.2.2.2.2.2.2.2.2.1 x.2.2.2.2.2.2.2.2.2.1 x.2.2.2.2.2.2.2.2.2.2.1 x.2.2.2.2.2.2.2.2.2.2.2.1 x.2.2.2.2.2.2.2.2.2.2.2.2.1 x.2.2.2.2.2.2.2.2.2.2.2.2.2.1 x.2.2.2.2.2.2.2.2.2.2.2.2.2.2.1 x.2.2.2.2.2.2.2.2.2.2.2.2.2.2.2.1 x.2.2.2.2.2.2.2.2.2.2.2.2.2.2.2.2.1 x.2.2.2.2.2.2.2.2.2.2.2.2.2.2.2.2.2.1 x.2.2.2.2.2.2.2.2.2.2.2.2.2.2.2.2.2.2.1 x.2.2.2.2.2.2.2.2.2.2.2.2.2.2.2.2.2.2.2.1 x.2.2.2.2.2.2.2.2.2.2.2.2.2.2.2.2.2.2.2.2.1 x.2.2.2.2.2.2.2.2.2.2.2.2.2.2.2.2.2.2.2.2.2.1 x.2.2.2.2.2.2.2.2.2.2.2.2.2.2.2.2.2.2.2.2.2.2.1 x.2.2.2.2.2.2.2.2.2.2.2.2.2.2.2.2.2.2.2.2.2.2.2.1 x.2.2.2.2.2.2.2.2.2.2.2.2.2.2.2.2.2.2.2.2.2.2.2.2.1 x.2.2.2.2.2.2.2.2.2.2.2.2.2.2.2.2.2.2.2.2.2.2.2.2.2.1 x.2.2.2.2.2.2.2.2.2.2.2.2.2.2.2.2.2.2.2.2.2.2.2.2.2.2.1 x.2.2.2.2.2.2.2.2.2.2.2.2.2.2.2.2.2.2.2.2.2.2.2.2.2.2.2.1 x.2.2.2.2.2.2.2.2.2.2.2.2.2.2.2.2.2.2.2.2.2.2.2.2.2.2.2.2.1 x.2.2.2.2.2.2.2.2.2.2.2.2.2.2.2.2.2.2.2.2.2.2.2.2.2.2.2.2.2⟩)]
noncomputable abbrev T (k : Nat) : Nat → Option (Hint (prods F.cout.tys)) := look (Tl k)
noncomputable abbrev body : Code := Go.Proofs.Try.f75.body.getD .skip
theorem s3 (k : Nat) (x : prods c3.tys) : commit_moved.l3 (k + 1) x.1 x.2.1 x.2.2.1 x.2.2.2.1 x.2.2.2.2.1 x.2.2.2.2.2.1 x.2.2.2.2.2.2.1 x.2.2.2.2.2.2.2.1 x.2.2.2.2.2.2.2.2.1 x.2.2.2.2.2.2.2.2.2.1 x.2.2.2.2.2.2.2.2.2.2.1 x.2.2.2.2.2.2.2.2.2.2.2.1 x.2.2.2.2.2.2.2.2.2.2.2.2.1 x.2.2.2.2.2.2.2.2.2.2.2.2.2.1 x.2.2.2.2.2.2.2.2.2.2.2.2.2.2 = segK (Γ k) F (T k) body 3 (c3.st x) := by kernel_rfl
theorem s8 (k : Nat) (x : prods c8.tys) : commit_moved.l8 (k + 1) x.1 x.2.1 x.2.2.1 x.2.2.2.1 x.2.2.2.2.1 x.2.2.2.2.2.1 x.2.2.2.2.2.2.1 x.2.2.2.2.2.2.2.1 x.2.2.2.2.2.2.2.2.1 x.2.2.2.2.2.2.2.2.2.1 x.2.2.2.2.2.2.2.2.2.2.1 x.2.2.2.2.2.2.2.2.2.2.2.1 x.2.2.2.2.2.2.2.2.2.2.2.2.1 x.2.2.2.2.2.2.2.2.2.2.2.2.2.1 x.2.2.2.2.2.2.2.2.2.2.2.2.2.2.1 x.2.2.2.2.2.2.2.2.2.2.2.2.2.2.2.1 x.2.2.2.2.2.2.2.2.2.2.2.2.2.2.2.2.1 x.2.2.2.2.2.2.2.2.2.2.2.2.2.2.2.2.2.1 x.2.2.2.2.2.2.2.2.2.2.2.2.2.2.2.2.2.2.1 x.2.2.2.2.2.2.2.2.2.2.2.2.2.2.2.2.2.2.2.1 x.2.2.2.2.2.2.2.2.2.2.2.2.2.2.2.2.2.2.2.2.1 x.2.2.2.2.2.2.2.2.2.2.2.2.2.2.2.2.2.2.2.2.2.1 x.2.2.2.2.2.2.2.2.2.2.2.2.2.2.2.2.2.2.2.2.2.2.1 x.2.2.2.2.2.2.2.2.2.2.2.2.2.2.2.2.2.2.2.2.2.2.2.1 x.2.2.2.2.2.2.2.2.2.2.2.2.2.2.2.2.2.2.2.2.2.2.2.2.1 x.2.2.2.2.2.2.2.2.2.2.2.2.2.2.2.2.2.2.2.2.2.2.2.2.2.1 x.2.2.2.2.2.2.2.2.2.2.2.2.2.2.2.2.2.2.2.2.2.2.2.2.2.2.1 x.2.2.2.2.2.2.2.2.2.2.2.2.2.2.2.2.2.2.2.2.2.2.2.2.2.2.2.1 x.2.2.2.2.2.2.2.2.2.2.2.2.2.2.2.2.2.2.2.2.2.2.2.2.2.2.2.2.1 x.2.2.2.2.2.2.2.2.2.2.2.2.2.2.2.2.2.2.2.2.2.2.2.2.2.2.2.2.2 = segK (Γ k) F (T k) body 8 (c8.st x) := by kernel_rfl
theorem main (k : Nat) (x : prods (con 0).cin.tys) : commit_moved.f k x.1 x.2.1 x.2.2 = goK (Γ k) F (T k) 2000 [.code body] ((con 0).cin.st x) := by kernel_rfl
theorem okΓ (k : Nat) : ΓOk Go.Proofs.Try.prog (Γ k) := Γcons (commit_cut.ok k) ⟨Go.Proofs.Try.f42, by kernel_rfl, by kernel_rfl, by kernel_rfl⟩ (Γcons (unit_Next.ok k) ⟨Go.Proofs.Try.f47, by kernel_rfl, by kernel_rfl, by kernel_rfl⟩ (Γnil))
theorem ok (k : Nat) : ConSound Go.Proofs.Try.prog 75 (con k) := con_sound (Γ := Γ) (fn := Go.Proofs.Try.f75) (body := body) (cin := (con 0).cin) (F := F) (T := T) follows (by kernel_rfl) (by kernel_rfl) (by kernel_rfl) (by kernel_rfl) (by kernel_rfl) (by decide +kernel) (by kernel_rfl) (by kernel_rfl) (tzero ⟨fun x => rfl, fun x => rfl, trivial⟩) k (fun m _ => okΓ m) (fun m _ => tstep ⟨fun x => s3 m x, fun x => s8 m x, trivial⟩) (fun x y h => (main k x).symm.trans h)
end commit_moved
namespace commit_key
noncomputable abbrev con (k : Nat) : Con := ⟨⟨[(0, .l (.val (.list 31 Y8)))], []⟩, ⟨[(0, .l (.val (.int .i64)))], []⟩, fun x => commit_key.f k x⟩
noncomputable abbrev Γ (k : Nat) : FuncId → Option Con := look []
abbrev F : Fin Go.Proofs.Try.prog := ⟨⟨[(0, .l (.val (.int .i64)))], []⟩, [], [.tmp 2]⟩
abbrev c3 : Cut := ⟨[(3, .l (.val (.int .i64))), (6, .l (.val (.list 31 Y8))), (7, .l (.val (.int .i64))), (8, .l (.val (.int .i64)))], []⟩
noncomputable abbrev Tl (k : Nat) : List (Nat × Hint (prods F.cout.tys)) := [(3, ⟨c3, fun x => commit_key.l3 k x.1 x.2.1 x.2.2.1 x.2.2.2⟩)]
noncomputable abbrev T (k : Nat) : Nat → Option (Hint (prods F.cout.tys)) := look (Tl k)
noncomputable abbrev body : Code := Go.Proofs.Try.f76.body.getD .skip
theorem s3 (k : Nat) (x : prods c3.tys) : commit_key.l3 (k + 1) x.1 x.2.1 x.2.2.1 x.2.2.2 = segK (Γ k) F (T k) body 3 (c3.st x) := by kernel_rfl
theorem main (k : Nat) (x : prods (con 0).cin.tys) : commit_key.f k x = goK (Γ k) F (T k) 2000 [.code body] ((con 0).cin.st x) := by kernel_rfl
theorem okΓ (k : Nat) : ΓOk Go.Proofs.Try.prog (Γ k) := Γnil
theorem ok (k : Nat) : ConSound Go.Proofs.Try.prog 76 (con k) := con_sound (Γ := Γ) (fn := Go.Proofs.Try.f76) (body := body) (cin := (con 0).cin) (F := F) (T := T) follows (by kernel_rfl) (by kernel_rfl) (by kernel_rfl) (by kernel_rfl) (by kernel_rfl) (by decide +kernel) (by kernel_rfl) (by kernel_rfl) (tzero ⟨fun x => rfl, trivial⟩) k (fun m _ => okΓ m) (fun m _ => tstep ⟨fun x => s3 m x, trivial⟩) (fun x y h => (main k x).symm.trans h)
end commit_key
namespace commit_period
noncomputable abbrev con (k : Nat) : Con := ⟨⟨[(0, .l (.val (.list 33 Y10))), (1, .l (.val (.list 96 Y12))), (2, .l (.val (.int .i64)))], []⟩, ⟨[(0, .l (.val (.list 96 Y12)))], []⟩, fun x => commit_period.f k x.1 x.2.1 x.2.2⟩
noncomputable abbrev Γ (k : Nat) : FuncId → Option Con := look [(44, commit_serve.con k), (45, commit_bools.con k), (75, commit_moved.con k), (76, commit_key.con k)]
abbrev F : Fin Go.Proofs.Try.prog := ⟨⟨[(0, .l (.val (.list 96 Y12)))], []⟩, [], [.tmp 6]⟩
abbrev c4 : Cut := ⟨[(0, .l (.val (.list 33 Y10))), (1, .l (.val (.list 96 Y12))), (2, .l (.val (.int .i64))), (7, .l (.row 7000501)), (8, .l (.mp 7000000)), (22, .l (.val (.int .i64))), (23, .l (.val (.int .i64)))], [(7000501, .row 96 Y12), (7000000, .mp)]⟩
abbrev c9 : Cut := ⟨[(0, .l (.val (.list 33 Y10))), (1, .l (.val (.list 96 Y12))), (2, .l (.val (.int .i64))), (7, .l (.row 7000501)), (8, .l (.mp 7000000)), (9, .l (.val (.int .i64))), (11, .l (.val (.int .i64))), (22, .l (.val (.int .i64))), (23, .l (.val (.int .i64))), (39, .l (.val (.list 96 Y12))), (40, .l (.val (.int .i64))), (41, .l (.val (.int .i64)))], [(7000501, .row 96 Y12), (7000000, .mp)]⟩
noncomputable abbrev Tl (k : Nat) : List (Nat × Hint (prods F.cout.tys)) := [(4, ⟨c4, fun x => commit_period.l4 k x.1 x.2.1 x.2.2.1 x.2.2.2.1 x.2.2.2.2.1 x.2.2.2.2.2.1 x.2.2.2.2.2.2⟩), (9, ⟨c9, fun x => commit_period.l9 k x.1 x.2.1 x.2.2.1 x.2.2.2.1 x.2.2.2.2.1 x.2.2.2.2.2.1 x.2.2.2.2.2.2.1 x.2.2.2.2.2.2.2.1 x.2.2.2.2.2.2.2.2.1 x.2.2.2.2.2.2.2.2.2.1 x.2.2.2.2.2.2.2.2.2.2.1 x.2.2.2.2.2.2.2.2.2.2.2⟩)]
noncomputable abbrev T (k : Nat) : Nat → Option (Hint (prods F.cout.tys)) := look (Tl k)
noncomputable abbrev body : Code := Go.Proofs.Try.f43.body.getD .skip
theorem s4 (k : Nat) (x : prods c4.tys) : commit_period.l4 (k + 1) x.1 x.2.1 x.2.2.1 x.2.2.2.1 x.2.2.2.2.1 x.2.2.2.2.2.1 x.2.2.2.2.2.2 = segK (Γ k) F (T k) body 4 (c4.st x) := by kernel_rfl
theorem s9 (k : Nat) (x : prods c9.tys) : commit_period.l9 (k + 1) x.1 x.2.1 x.2.2.1 x.2.2.2.1 x.2.2.2.2.1 x.2.2.2.2.2.1 x.2.2.2.2.2.2.1 x.2.2.2.2.2.2.2.1 x.2.2.2.2.2.2.2.2.1 x.2.2.2.2.2.2.2.2.2.1 x.2.2.2.2.2.2.2.2.2.2.1 x.2.2.2.2.2.2.2.2.2.2.2 = segK (Γ k) F (T k) body 9 (c9.st x) := by kernel_rfl
theorem main (k : Nat) (x : prods (con 0).cin.tys) : commit_period.f k x.1 x.2.1 x.2.2 = goK (Γ k) F (T k) 2000 [.code body] ((con 0).cin.st x) := by kernel_rfl
theorem okΓ (k : Nat) : ΓOk Go.Proofs.Try.prog (Γ k) := Γcons (commit_serve.ok k) ⟨Go.Proofs.Try.f44, by kernel_rfl, by kernel_rfl, by kernel_rfl⟩ (Γcons (commit_bools.ok k) ⟨Go.Proofs.Try.f45, by kernel_rfl, by kernel_rfl, by kernel_rfl⟩ (Γcons (commit_moved.ok k) ⟨Go.Proofs.Try.f75, by kernel_rfl, by kernel_rfl, by kernel_rfl⟩ (Γcons (commit_key.ok k) ⟨Go.Proofs.Try.f76, by kernel_rfl, by kernel_rfl, by kernel_rfl⟩ (Γnil))))
theorem ok (k : Nat) : ConSound Go.Proofs.Try.prog 43 (con k) := con_sound (Γ := Γ) (fn := Go.Proofs.Try.f43) (body := body) (cin := (con 0).cin) (F := F) (T := T) follows (by kernel_rfl) (by kernel_rfl) (by kernel_rfl) (by kernel_rfl) (by kernel_rfl) (by decide +kernel) (by kernel_rfl) (by kernel_rfl) (tzero ⟨fun x => rfl, fun x => rfl, trivial⟩) k (fun m _ => okΓ m) (fun m _ => tstep ⟨fun x => s4 m x, fun x => s9 m x, trivial⟩) (fun x y h => (main k x).symm.trans h)
end commit_period
namespace commit_Best
noncomputable abbrev con (k : Nat) : Con := ⟨⟨[(0, .l (.val (.list 33 Y10))), (1, .l (.val (.list 3 (.int .i64))))], []⟩, ⟨[(0, .l (.val (.list 23 (.list 3 (.int .i64))))), (1, .l (.val (.int .i64))), (2, .l (.val (.int .i64)))], []⟩, fun x => commit_Best.f k x.1 x.2⟩
noncomputable abbrev Γ (k : Nat) : FuncId → Option Con := look [(41, dual_CheckAll.con k), (42, commit_cut.con k), (43, commit_period.con k), (44, commit_serve.con k), (45, commit_bools.con k)]
abbrev F : Fin Go.Proofs.Try.prog := ⟨⟨[(0, .l (.val (.list 23 (.list 3 (.int .i64))))), (1, .l (.val (.int .i64))), (2, .l (.val (.int .i64)))], []⟩, [], [.tmp 4, .tmp 5, .tmp 6]⟩
abbrev c6 : Cut := ⟨[(0, .l (.val (.list 33 Y10))), (1, .l (.val (.list 3 (.int .i64)))), (8, .l (.ptr 7000000 0)), (35, .l (.val (.list 33 Y10))), (36, .l (.val (.int .i64))), (37, .l (.val (.int .i64)))], [(7000000, .box 96 [.row 7000501, .val (.int .i64), .val (.int .i64), .val (.int .i64)]), (7000501, .row 31 Y8)]⟩
abbrev c12 : Cut := ⟨[(0, .l (.val (.list 33 Y10))), (1, .l (.val (.list 3 (.int .i64)))), (11, .l (.row 7000000)), (55, .l (.val (.list 3 (.int .i64)))), (56, .l (.val (.int .i64))), (57, .l (.val (.int .i64)))], [(7000000, .row 98 (.list 96 Y12))]⟩
abbrev c22 : Cut := ⟨[(0, .l (.val (.list 33 Y10))), (1, .l (.val (.list 3 (.int .i64)))), (11, .l (.row 7000000)), (15, .l (.val (.list 96 Y12))), (16, .l (.val (.int .i64))), (84, .l (.val (.list 96 Y12))), (85, .l (.val (.int .i64))), (86, .l (.val (.int .i64)))], [(7000000, .row 98 (.list 96 Y12))]⟩
abbrev c30 : Cut := ⟨[(0, .l (.val (.list 33 Y10))), (1, .l (.val (.list 3 (.int .i64)))), (11, .l (.row 7000000)), (16, .l (.val (.int .i64))), (19, .l (.val (.int .i64))), (20, .l (.row 7000001)), (110, .l (.val (.int .i64))), (111, .l (.val (.int .i64)))], [(7000000, .row 98 (.list 96 Y12)), (7000001, .deep 23 3 (.int .i64))]⟩
abbrev c35 : Cut := ⟨[(0, .l (.val (.list 33 Y10))), (1, .l (.val (.list 3 (.int .i64)))), (11, .l (.row 7000000)), (16, .l (.val (.int .i64))), (19, .l (.val (.int .i64))), (20, .l (.row 7000001)), (22, .l (.val (.int .i64)))], [(7000000, .row 98 (.list 96 Y12)), (7000001, .deep 23 3 (.int .i64))]⟩
abbrev c40 : Cut := ⟨[(0, .l (.val (.list 33 Y10))), (1, .l (.val (.list 3 (.int .i64)))), (11, .l (.row 7000000)), (19, .l (.val (.int .i64))), (20, .l (.row 7000001)), (22, .l (.val (.int .i64))), (23, .l (.ptr 7000002 0)), (24, .l (.val (.list 3 (.int .i64)))), (151, .l (.val (.int .i64))), (152, .l (.val (.int .i64)))], [(7000000, .row 98 (.list 96 Y12)), (7000001, .deep 23 3 (.int .i64)), (7000002, .box 96 [.val (.list 31 Y8), .val (.int .i64), .val (.int .i64), .val (.int .i64)])]⟩
noncomputable abbrev Tl (k : Nat) : List (Nat × Hint (prods F.cout.tys)) := [(6, ⟨c6, fun x => commit_Best.l6 k x.1 x.2.1 x.2.2.1 x.2.2.2.1 x.2.2.2.2.1 x.2.2.2.2.2.1 x.2.2.2.2.2.2.1 x.2.2.2.2.2.2.2.1 x.2.2.2.2.2.2.2.2⟩), (12, ⟨c12, fun x => commit_Best.l12 k x.1 x.2.1 x.2.2.1 x.2.2.2.1 x.2.2.2.2.1 x.2.2.2.2.2⟩), (22, ⟨c22, fun x => commit_Best.l22 k x.1 x.2.1 x.2.2.1 x.2.2.2.1 x.2.2.2.2.1 x.2.2.2.2.2.1 x.2.2.2.2.2.2.1 x.2.2.2.2.2.2.2⟩), (30, ⟨c30, fun x => commit_Best.l30 k x.1 x.2.1 x.2.2.1 x.2.2.2.1 x.2.2.2.2.1 x.2.2.2.2.2.1 x.2.2.2.2.2.2.1 x.2.2.2.2.2.2.2⟩), (35, ⟨c35, fun x => commit_Best.l35 k x.1 x.2.1 x.2.2.1 x.2.2.2.1 x.2.2.2.2.1 x.2.2.2.2.2.1 x.2.2.2.2.2.2⟩), (40, ⟨c40, fun x => commit_Best.l40 k x.1 x.2.1 x.2.2.1 x.2.2.2.1 x.2.2.2.2.1 x.2.2.2.2.2.1 x.2.2.2.2.2.2.1 x.2.2.2.2.2.2.2.1 x.2.2.2.2.2.2.2.2.1 x.2.2.2.2.2.2.2.2.2.1 x.2.2.2.2.2.2.2.2.2.2.1 x.2.2.2.2.2.2.2.2.2.2.2.1 x.2.2.2.2.2.2.2.2.2.2.2.2⟩)]
noncomputable abbrev T (k : Nat) : Nat → Option (Hint (prods F.cout.tys)) := look (Tl k)
noncomputable abbrev body : Code := Go.Proofs.Try.f15.body.getD .skip
theorem s6 (k : Nat) (x : prods c6.tys) : commit_Best.l6 (k + 1) x.1 x.2.1 x.2.2.1 x.2.2.2.1 x.2.2.2.2.1 x.2.2.2.2.2.1 x.2.2.2.2.2.2.1 x.2.2.2.2.2.2.2.1 x.2.2.2.2.2.2.2.2 = segK (Γ k) F (T k) body 6 (c6.st x) := by kernel_rfl
theorem s12 (k : Nat) (x : prods c12.tys) : commit_Best.l12 (k + 1) x.1 x.2.1 x.2.2.1 x.2.2.2.1 x.2.2.2.2.1 x.2.2.2.2.2 = segK (Γ k) F (T k) body 12 (c12.st x) := by kernel_rfl
theorem s22 (k : Nat) (x : prods c22.tys) : commit_Best.l22 (k + 1) x.1 x.2.1 x.2.2.1 x.2.2.2.1 x.2.2.2.2.1 x.2.2.2.2.2.1 x.2.2.2.2.2.2.1 x.2.2.2.2.2.2.2 = segK (Γ k) F (T k) body 22 (c22.st x) := by kernel_rfl
theorem s30 (k : Nat) (x : prods c30.tys) : commit_Best.l30 (k + 1) x.1 x.2.1 x.2.2.1 x.2.2.2.1 x.2.2.2.2.1 x.2.2.2.2.2.1 x.2.2.2.2.2.2.1 x.2.2.2.2.2.2.2 = segK (Γ k) F (T k) body 30 (c30.st x) := by kernel_rfl
theorem s35 (k : Nat) (x : prods c35.tys) : commit_Best.l35 (k + 1) x.1 x.2.1 x.2.2.1 x.2.2.2.1 x.2.2.2.2.1 x.2.2.2.2.2.1 x.2.2.2.2.2.2 = segK (Γ k) F (T k) body 35 (c35.st x) := by kernel_rfl
theorem s40 (k : Nat) (x : prods c40.tys) : commit_Best.l40 (k + 1) x.1 x.2.1 x.2.2.1 x.2.2.2.1 x.2.2.2.2.1 x.2.2.2.2.2.1 x.2.2.2.2.2.2.1 x.2.2.2.2.2.2.2.1 x.2.2.2.2.2.2.2.2.1 x.2.2.2.2.2.2.2.2.2.1 x.2.2.2.2.2.2.2.2.2.2.1 x.2.2.2.2.2.2.2.2.2.2.2.1 x.2.2.2.2.2.2.2.2.2.2.2.2 = segK (Γ k) F (T k) body 40 (c40.st x) := by kernel_rfl
theorem main (k : Nat) (x : prods (con 0).cin.tys) : commit_Best.f k x.1 x.2 = goK (Γ k) F (T k) 2000 [.code body] ((con 0).cin.st x) := by kernel_rfl
theorem okΓ (k : Nat) : ΓOk Go.Proofs.Try.prog (Γ k) := Γcons (dual_CheckAll.ok k) ⟨Go.Proofs.Try.f41, by kernel_rfl, by kernel_rfl, by kernel_rfl⟩ (Γcons (commit_cut.ok k) ⟨Go.Proofs.Try.f42, by kernel_rfl, by kernel_rfl, by kernel_rfl⟩ (Γcons (commit_period.ok k) ⟨Go.Proofs.Try.f43, by kernel_rfl, by kernel_rfl, by kernel_rfl⟩ (Γcons (commit_serve.ok k) ⟨Go.Proofs.Try.f44, by kernel_rfl, by kernel_rfl, by kernel_rfl⟩ (Γcons (commit_bools.ok k) ⟨Go.Proofs.Try.f45, by kernel_rfl, by kernel_rfl, by kernel_rfl⟩ (Γnil)))))
theorem ok (k : Nat) : ConSound Go.Proofs.Try.prog 15 (con k) := con_sound (Γ := Γ) (fn := Go.Proofs.Try.f15) (body := body) (cin := (con 0).cin) (F := F) (T := T) follows (by kernel_rfl) (by kernel_rfl) (by kernel_rfl) (by kernel_rfl) (by kernel_rfl) (by decide +kernel) (by kernel_rfl) (by kernel_rfl) (tzero ⟨fun x => rfl, fun x => rfl, fun x => rfl, fun x => rfl, fun x => rfl, fun x => rfl, trivial⟩) k (fun m _ => okΓ m) (fun m _ => tstep ⟨fun x => s6 m x, fun x => s12 m x, fun x => s22 m x, fun x => s30 m x, fun x => s35 m x, fun x => s40 m x, trivial⟩) (fun x y h => (main k x).symm.trans h)
end commit_Best
namespace gridhallkeep3_DualBelow
noncomputable abbrev con (k : Nat) : Con := ⟨⟨[(0, .l (.val (.list 33 Y10))), (1, .l (.val (.list 3 (.int .i64)))), (2, .l (.val (.list 3 (.int .i64)))), (3, .l (.val (.list 23 (.list 3 (.int .i64)))))], []⟩, ⟨[(0, .l (.val .bool))], []⟩, fun x => gridhallkeep3_DualBelow.f k x.1 x.2.1 x.2.2.1 x.2.2.2⟩
noncomputable abbrev Γ (k : Nat) : FuncId → Option Con := look [(15, commit_Best.con k), (16, dual_Bound.con k), (24, gridhallkeep3_alone.con k), (40, commit_Cost.con k)]
abbrev F : Fin Go.Proofs.Try.prog := ⟨⟨[(0, .l (.val .bool))], []⟩, [], [.tmp 8]⟩
noncomputable abbrev Tl (k : Nat) : List (Nat × Hint (prods F.cout.tys)) := []
noncomputable abbrev T (k : Nat) : Nat → Option (Hint (prods F.cout.tys)) := look (Tl k)
noncomputable abbrev body : Code := Go.Proofs.Try.f13.body.getD .skip
theorem main (k : Nat) (x : prods (con 0).cin.tys) : gridhallkeep3_DualBelow.f k x.1 x.2.1 x.2.2.1 x.2.2.2 = goK (Γ k) F (T k) 2000 [.code body] ((con 0).cin.st x) := by kernel_rfl
theorem okΓ (k : Nat) : ΓOk Go.Proofs.Try.prog (Γ k) := Γcons (commit_Best.ok k) ⟨Go.Proofs.Try.f15, by kernel_rfl, by kernel_rfl, by kernel_rfl⟩ (Γcons (dual_Bound.ok k) ⟨Go.Proofs.Try.f16, by kernel_rfl, by kernel_rfl, by kernel_rfl⟩ (Γcons (gridhallkeep3_alone.ok k) ⟨Go.Proofs.Try.f24, by kernel_rfl, by kernel_rfl, by kernel_rfl⟩ (Γcons (commit_Cost.ok k) ⟨Go.Proofs.Try.f40, by kernel_rfl, by kernel_rfl, by kernel_rfl⟩ (Γnil))))
theorem ok (k : Nat) : ConSound Go.Proofs.Try.prog 13 (con k) := con_sound (Γ := Γ) (fn := Go.Proofs.Try.f13) (body := body) (cin := (con 0).cin) (F := F) (T := T) follows (by kernel_rfl) (by kernel_rfl) (by kernel_rfl) (by kernel_rfl) (by kernel_rfl) (by decide +kernel) (by kernel_rfl) (by kernel_rfl) (tzero trivial) k (fun m _ => okΓ m) (fun m _ => tstep trivial) (fun x y h => (main k x).symm.trans h)
end gridhallkeep3_DualBelow
namespace gridhallkeep3_CommitKept
noncomputable abbrev con (k : Nat) : Con := ⟨⟨[(0, .l (.val (.list 33 Y10))), (1, .l (.val (.list 3 (.int .i64)))), (2, .l (.val (.list 23 (.list 3 (.int .i64)))))], []⟩, ⟨[(0, .l (.val .bool))], []⟩, fun x => gridhallkeep3_CommitKept.f k x.1 x.2.1 x.2.2⟩
noncomputable abbrev Γ (k : Nat) : FuncId → Option Con := look [(15, commit_Best.con k), (24, gridhallkeep3_alone.con k), (40, commit_Cost.con k)]
abbrev F : Fin Go.Proofs.Try.prog := ⟨⟨[(0, .l (.val .bool))], []⟩, [], [.tmp 6]⟩
noncomputable abbrev Tl (k : Nat) : List (Nat × Hint (prods F.cout.tys)) := []
noncomputable abbrev T (k : Nat) : Nat → Option (Hint (prods F.cout.tys)) := look (Tl k)
noncomputable abbrev body : Code := Go.Proofs.Try.f12.body.getD .skip
theorem main (k : Nat) (x : prods (con 0).cin.tys) : gridhallkeep3_CommitKept.f k x.1 x.2.1 x.2.2 = goK (Γ k) F (T k) 2000 [.code body] ((con 0).cin.st x) := by kernel_rfl
theorem okΓ (k : Nat) : ΓOk Go.Proofs.Try.prog (Γ k) := Γcons (commit_Best.ok k) ⟨Go.Proofs.Try.f15, by kernel_rfl, by kernel_rfl, by kernel_rfl⟩ (Γcons (gridhallkeep3_alone.ok k) ⟨Go.Proofs.Try.f24, by kernel_rfl, by kernel_rfl, by kernel_rfl⟩ (Γcons (commit_Cost.ok k) ⟨Go.Proofs.Try.f40, by kernel_rfl, by kernel_rfl, by kernel_rfl⟩ (Γnil)))
theorem ok (k : Nat) : ConSound Go.Proofs.Try.prog 12 (con k) := con_sound (Γ := Γ) (fn := Go.Proofs.Try.f12) (body := body) (cin := (con 0).cin) (F := F) (T := T) follows (by kernel_rfl) (by kernel_rfl) (by kernel_rfl) (by kernel_rfl) (by kernel_rfl) (by decide +kernel) (by kernel_rfl) (by kernel_rfl) (tzero trivial) k (fun m _ => okΓ m) (fun m _ => tstep trivial) (fun x y h => (main k x).symm.trans h)
end gridhallkeep3_CommitKept
namespace gridhallkeep3_CommitMore
noncomputable abbrev con (k : Nat) : Con := ⟨⟨[(0, .l (.val (.list 33 Y10))), (1, .l (.val (.list 3 (.int .i64))))], []⟩, ⟨[(0, .l (.val .bool))], []⟩, fun x => gridhallkeep3_CommitMore.f k x.1 x.2⟩
noncomputable abbrev Γ (k : Nat) : FuncId → Option Con := look [(15, commit_Best.con k), (24, gridhallkeep3_alone.con k)]
abbrev F : Fin Go.Proofs.Try.prog := ⟨⟨[(0, .l (.val .bool))], []⟩, [], [.tmp 4]⟩
abbrev c7 : Cut := ⟨[(0, .l (.val (.list 33 Y10))), (1, .l (.val (.list 3 (.int .i64)))), (33, .l (.val (.list 33 Y10))), (34, .l (.val (.int .i64))), (35, .l (.val (.int .i64)))], []⟩
noncomputable abbrev Tl (k : Nat) : List (Nat × Hint (prods F.cout.tys)) := [(7, ⟨c7, fun x => gridhallkeep3_CommitMore.l7 k x.1 x.2.1 x.2.2.1 x.2.2.2.1 x.2.2.2.2⟩)]
noncomputable abbrev T (k : Nat) : Nat → Option (Hint (prods F.cout.tys)) := look (Tl k)
noncomputable abbrev body : Code := Go.Proofs.Try.f11.body.getD .skip
theorem s7 (k : Nat) (x : prods c7.tys) : gridhallkeep3_CommitMore.l7 (k + 1) x.1 x.2.1 x.2.2.1 x.2.2.2.1 x.2.2.2.2 = segK (Γ k) F (T k) body 7 (c7.st x) := by kernel_rfl
theorem main (k : Nat) (x : prods (con 0).cin.tys) : gridhallkeep3_CommitMore.f k x.1 x.2 = goK (Γ k) F (T k) 2000 [.code body] ((con 0).cin.st x) := by kernel_rfl
theorem okΓ (k : Nat) : ΓOk Go.Proofs.Try.prog (Γ k) := Γcons (commit_Best.ok k) ⟨Go.Proofs.Try.f15, by kernel_rfl, by kernel_rfl, by kernel_rfl⟩ (Γcons (gridhallkeep3_alone.ok k) ⟨Go.Proofs.Try.f24, by kernel_rfl, by kernel_rfl, by kernel_rfl⟩ (Γnil))
theorem ok (k : Nat) : ConSound Go.Proofs.Try.prog 11 (con k) := con_sound (Γ := Γ) (fn := Go.Proofs.Try.f11) (body := body) (cin := (con 0).cin) (F := F) (T := T) follows (by kernel_rfl) (by kernel_rfl) (by kernel_rfl) (by kernel_rfl) (by kernel_rfl) (by decide +kernel) (by kernel_rfl) (by kernel_rfl) (tzero ⟨fun x => rfl, trivial⟩) k (fun m _ => okΓ m) (fun m _ => tstep ⟨fun x => s7 m x, trivial⟩) (fun x y h => (main k x).symm.trans h)
end gridhallkeep3_CommitMore
namespace gridhalltop_bTwo
noncomputable abbrev con (k : Nat) : Con := ⟨⟨[(0, .l (.val .str))], []⟩, ⟨[(0, .av Y7)], []⟩, fun x => gridhalltop_bTwo.f k x⟩
noncomputable abbrev Γ (k : Nat) : FuncId → Option Con := look []
abbrev F : Fin Go.Proofs.Try.prog := ⟨⟨[(0, .av Y7)], []⟩, [], [.cell 2 28]⟩
noncomputable abbrev Tl (k : Nat) : List (Nat × Hint (prods F.cout.tys)) := []
noncomputable abbrev T (k : Nat) : Nat → Option (Hint (prods F.cout.tys)) := look (Tl k)
noncomputable abbrev body : Code := Go.Proofs.Try.f14.body.getD .skip
theorem main (k : Nat) (x : prods (con 0).cin.tys) : gridhalltop_bTwo.f k x = goK (Γ k) F (T k) 2000 [.code body] ((con 0).cin.st x) := by kernel_rfl
theorem okΓ (k : Nat) : ΓOk Go.Proofs.Try.prog (Γ k) := Γnil
theorem ok (k : Nat) : ConSound Go.Proofs.Try.prog 14 (con k) := con_sound (Γ := Γ) (fn := Go.Proofs.Try.f14) (body := body) (cin := (con 0).cin) (F := F) (T := T) follows (by kernel_rfl) (by kernel_rfl) (by kernel_rfl) (by kernel_rfl) (by kernel_rfl) (by decide +kernel) (by kernel_rfl) (by kernel_rfl) (tzero trivial) k (fun m _ => okΓ m) (fun m _ => tstep trivial) (fun x y h => (main k x).symm.trans h)
end gridhalltop_bTwo
namespace commit_Serve
noncomputable abbrev con (k : Nat) : Con := ⟨⟨[(0, .l (.val (.list 33 Y10))), (1, .l (.val (.list 4 .bool))), (2, .l (.val (.int .i64)))], []⟩, ⟨[(0, .l (.val (.list 3 (.int .i64)))), (1, .l (.val (.int .i64))), (2, .l (.val (.int .i64)))], []⟩, fun x => commit_Serve.f k x.1 x.2.1 x.2.2⟩
noncomputable abbrev Γ (k : Nat) : FuncId → Option Con := look [(41, dual_CheckAll.con k), (44, commit_serve.con k)]
abbrev F : Fin Go.Proofs.Try.prog := ⟨⟨[(0, .l (.val (.list 3 (.int .i64)))), (1, .l (.val (.int .i64))), (2, .l (.val (.int .i64)))], []⟩, [], [.tmp 6, .tmp 7, .tmp 8]⟩
noncomputable abbrev Tl (k : Nat) : List (Nat × Hint (prods F.cout.tys)) := []
noncomputable abbrev T (k : Nat) : Nat → Option (Hint (prods F.cout.tys)) := look (Tl k)
noncomputable abbrev body : Code := Go.Proofs.Try.f18.body.getD .skip
theorem main (k : Nat) (x : prods (con 0).cin.tys) : commit_Serve.f k x.1 x.2.1 x.2.2 = goK (Γ k) F (T k) 2000 [.code body] ((con 0).cin.st x) := by kernel_rfl
theorem okΓ (k : Nat) : ΓOk Go.Proofs.Try.prog (Γ k) := Γcons (dual_CheckAll.ok k) ⟨Go.Proofs.Try.f41, by kernel_rfl, by kernel_rfl, by kernel_rfl⟩ (Γcons (commit_serve.ok k) ⟨Go.Proofs.Try.f44, by kernel_rfl, by kernel_rfl, by kernel_rfl⟩ (Γnil))
theorem ok (k : Nat) : ConSound Go.Proofs.Try.prog 18 (con k) := con_sound (Γ := Γ) (fn := Go.Proofs.Try.f18) (body := body) (cin := (con 0).cin) (F := F) (T := T) follows (by kernel_rfl) (by kernel_rfl) (by kernel_rfl) (by kernel_rfl) (by kernel_rfl) (by decide +kernel) (by kernel_rfl) (by kernel_rfl) (tzero trivial) k (fun m _ => okΓ m) (fun m _ => tstep trivial) (fun x y h => (main k x).symm.trans h)
end commit_Serve
namespace gridhalltop_TopCommit
noncomputable abbrev con (k : Nat) : Con := ⟨⟨[(0, .l (.val (.list 33 Y10))), (1, .l (.val (.list 3 (.int .i64)))), (2, .l (.val (.list 3 (.int .i64))))], []⟩, ⟨[(0, .l (.val .bool))], []⟩, fun x => gridhalltop_TopCommit.f k x.1 x.2.1 x.2.2⟩
noncomputable abbrev Γ (k : Nat) : FuncId → Option Con := look [(14, gridhalltop_bTwo.con k), (15, commit_Best.con k), (16, dual_Bound.con k), (17, unit_Run.con k), (18, commit_Serve.con k)]
abbrev F : Fin Go.Proofs.Try.prog := ⟨⟨[(0, .l (.val .bool))], []⟩, [], [.tmp 6]⟩
abbrev c22 : Cut := ⟨[(0, .l (.val (.list 33 Y10))), (1, .l (.val (.list 3 (.int .i64)))), (19, .l (.val (.list 23 (.list 3 (.int .i64))))), (20, .l (.val (.int .i64))), (24, .l (.val (.int .i64))), (136, .l (.val (.list 33 Y10))), (137, .l (.val (.int .i64))), (138, .l (.val (.int .i64)))], []⟩
abbrev c33 : Cut := ⟨[(0, .l (.val (.list 33 Y10))), (19, .l (.val (.list 23 (.list 3 (.int .i64))))), (20, .l (.val (.int .i64))), (30, .l (.val (.int .i64))), (177, .l (.val (.list 3 (.int .i64)))), (178, .l (.val (.int .i64))), (179, .l (.val (.int .i64)))], []⟩
abbrev c37 : Cut := ⟨[(0, .l (.val (.list 33 Y10))), (19, .l (.val (.list 23 (.list 3 (.int .i64))))), (20, .l (.val (.int .i64))), (30, .l (.val (.int .i64))), (31, .l (.val (.int .i64))), (32, .l (.val (.int .i64))), (33, .l (.row 7000500)), (177, .l (.val (.list 3 (.int .i64)))), (178, .l (.val (.int .i64))), (179, .l (.val (.int .i64))), (185, .l (.val (.int .i64))), (186, .l (.val (.int .i64)))], [(7000500, .row 4 .bool)]⟩
noncomputable abbrev Tl (k : Nat) : List (Nat × Hint (prods F.cout.tys)) := [(22, ⟨c22, fun x => gridhalltop_TopCommit.l22 k x.1 x.2.1 x.2.2.1 x.2.2.2.1 x.2.2.2.2.1 x.2.2.2.2.2.1 x.2.2.2.2.2.2.1 x.2.2.2.2.2.2.2⟩), (33, ⟨c33, fun x => gridhalltop_TopCommit.l33 k x.1 x.2.1 x.2.2.1 x.2.2.2.1 x.2.2.2.2.1 x.2.2.2.2.2.1 x.2.2.2.2.2.2⟩), (37, ⟨c37, fun x => gridhalltop_TopCommit.l37 k x.1 x.2.1 x.2.2.1 x.2.2.2.1 x.2.2.2.2.1 x.2.2.2.2.2.1 x.2.2.2.2.2.2.1 x.2.2.2.2.2.2.2.1 x.2.2.2.2.2.2.2.2.1 x.2.2.2.2.2.2.2.2.2.1 x.2.2.2.2.2.2.2.2.2.2.1 x.2.2.2.2.2.2.2.2.2.2.2⟩)]
noncomputable abbrev T (k : Nat) : Nat → Option (Hint (prods F.cout.tys)) := look (Tl k)
noncomputable abbrev body : Code := Go.Proofs.Try.f3.body.getD .skip
theorem s22 (k : Nat) (x : prods c22.tys) : gridhalltop_TopCommit.l22 (k + 1) x.1 x.2.1 x.2.2.1 x.2.2.2.1 x.2.2.2.2.1 x.2.2.2.2.2.1 x.2.2.2.2.2.2.1 x.2.2.2.2.2.2.2 = segK (Γ k) F (T k) body 22 (c22.st x) := by kernel_rfl
theorem s33 (k : Nat) (x : prods c33.tys) : gridhalltop_TopCommit.l33 (k + 1) x.1 x.2.1 x.2.2.1 x.2.2.2.1 x.2.2.2.2.1 x.2.2.2.2.2.1 x.2.2.2.2.2.2 = segK (Γ k) F (T k) body 33 (c33.st x) := by kernel_rfl
theorem s37 (k : Nat) (x : prods c37.tys) : gridhalltop_TopCommit.l37 (k + 1) x.1 x.2.1 x.2.2.1 x.2.2.2.1 x.2.2.2.2.1 x.2.2.2.2.2.1 x.2.2.2.2.2.2.1 x.2.2.2.2.2.2.2.1 x.2.2.2.2.2.2.2.2.1 x.2.2.2.2.2.2.2.2.2.1 x.2.2.2.2.2.2.2.2.2.2.1 x.2.2.2.2.2.2.2.2.2.2.2 = segK (Γ k) F (T k) body 37 (c37.st x) := by kernel_rfl
theorem main (k : Nat) (x : prods (con 0).cin.tys) : gridhalltop_TopCommit.f k x.1 x.2.1 x.2.2 = goK (Γ k) F (T k) 2000 [.code body] ((con 0).cin.st x) := by kernel_rfl
theorem okΓ (k : Nat) : ΓOk Go.Proofs.Try.prog (Γ k) := Γcons (gridhalltop_bTwo.ok k) ⟨Go.Proofs.Try.f14, by kernel_rfl, by kernel_rfl, by kernel_rfl⟩ (Γcons (commit_Best.ok k) ⟨Go.Proofs.Try.f15, by kernel_rfl, by kernel_rfl, by kernel_rfl⟩ (Γcons (dual_Bound.ok k) ⟨Go.Proofs.Try.f16, by kernel_rfl, by kernel_rfl, by kernel_rfl⟩ (Γcons (unit_Run.ok k) ⟨Go.Proofs.Try.f17, by kernel_rfl, by kernel_rfl, by kernel_rfl⟩ (Γcons (commit_Serve.ok k) ⟨Go.Proofs.Try.f18, by kernel_rfl, by kernel_rfl, by kernel_rfl⟩ (Γnil)))))
theorem ok (k : Nat) : ConSound Go.Proofs.Try.prog 3 (con k) := con_sound (Γ := Γ) (fn := Go.Proofs.Try.f3) (body := body) (cin := (con 0).cin) (F := F) (T := T) follows (by kernel_rfl) (by kernel_rfl) (by kernel_rfl) (by kernel_rfl) (by kernel_rfl) (by decide +kernel) (by kernel_rfl) (by kernel_rfl) (tzero ⟨fun x => rfl, fun x => rfl, fun x => rfl, trivial⟩) k (fun m _ => okΓ m) (fun m _ => tstep ⟨fun x => s22 m x, fun x => s33 m x, fun x => s37 m x, trivial⟩) (fun x y h => (main k x).symm.trans h)
end gridhalltop_TopCommit
end Go.Proofs.Ytodagcbcdkfniaa.VE
