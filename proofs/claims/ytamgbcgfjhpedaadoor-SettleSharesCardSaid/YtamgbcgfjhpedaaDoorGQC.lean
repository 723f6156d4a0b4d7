/- Contracts of functions (printed by a program; no statement is proved here). -/
import Derived.Test.YtamgbcgfjhpedaaDoorVeCon2
import Derived.Test.YtamgbcgfjhpedaaDoorGQD
namespace Go.Proofs.YtamgbcgfjhpedaaDoor.VE
set_option linter.unusedVariables false
set_option maxRecDepth 100000
open Go Go.RowKit
namespace stringslite_HasPrefix
noncomputable abbrev con (k : Nat) : Con := ⟨⟨[(0, .l (.val .str)), (1, .l (.val .str))], []⟩, ⟨[(0, .l (.val .bool))], []⟩, fun x => stringslite_HasPrefix.f k x.1 x.2⟩
noncomputable abbrev Γ (k : Nat) : FuncId → Option Con := look []
abbrev F : Fin Go.Proofs.Tryd.prog := ⟨⟨[(0, .l (.val .bool))], []⟩, [], [.tmp 4]⟩
noncomputable abbrev Tl (k : Nat) : List (Nat × Hint (prods F.cout.tys)) := []
noncomputable abbrev T (k : Nat) : Nat → Option (Hint (prods F.cout.tys)) := look (Tl k)
noncomputable abbrev body : Code := Go.Proofs.Tryd.f102.body.getD .skip
theorem main (k : Nat) (x : prods (con 0).cin.tys) : stringslite_HasPrefix.f k x.1 x.2 = goK (Γ k) F (T k) 2000 [.code body] ((con 0).cin.st x) := by kernel_rfl
theorem okΓ (k : Nat) : ΓOk Go.Proofs.Tryd.prog (Γ k) := Γnil
theorem ok (k : Nat) : ConSound Go.Proofs.Tryd.prog 102 (con k) := con_sound (Γ := Γ) (fn := Go.Proofs.Tryd.f102) (body := body) (cin := (con 0).cin) (F := F) (T := T) follows (by kernel_rfl) (by kernel_rfl) (by kernel_rfl) (by kernel_rfl) (by kernel_rfl) (by decide +kernel) (by kernel_rfl) (by kernel_rfl) (tzero trivial) k (fun m _ => okΓ m) (fun m _ => tstep trivial) (fun x y h => (main k x).symm.trans h)
end stringslite_HasPrefix
namespace stringslite_CutPrefix
noncomputable abbrev con (k : Nat) : Con := ⟨⟨[(0, .l (.val .str)), (1, .l (.val .str))], []⟩, ⟨[(0, .l (.val .str)), (1, .l (.val .bool))], []⟩, fun x => stringslite_CutPrefix.f k x.1 x.2⟩
noncomputable abbrev Γ (k : Nat) : FuncId → Option Con := look [(102, stringslite_HasPrefix.con k)]
abbrev F : Fin Go.Proofs.Tryd.prog := ⟨⟨[(0, .l (.val .str)), (1, .l (.val .bool))], []⟩, [], [.tmp 4, .tmp 5]⟩
noncomputable abbrev Tl (k : Nat) : List (Nat × Hint (prods F.cout.tys)) := []
noncomputable abbrev T (k : Nat) : Nat → Option (Hint (prods F.cout.tys)) := look (Tl k)
noncomputable abbrev body : Code := Go.Proofs.Tryd.f84.body.getD .skip
theorem main (k : Nat) (x : prods (con 0).cin.tys) : stringslite_CutPrefix.f k x.1 x.2 = goK (Γ k) F (T k) 2000 [.code body] ((con 0).cin.st x) := by kernel_rfl
theorem okΓ (k : Nat) : ΓOk Go.Proofs.Tryd.prog (Γ k) := Γcons (stringslite_HasPrefix.ok k) ⟨Go.Proofs.Tryd.f102, by kernel_rfl, by kernel_rfl, by kernel_rfl⟩ (Γnil)
theorem ok (k : Nat) : ConSound Go.Proofs.Tryd.prog 84 (con k) := con_sound (Γ := Γ) (fn := Go.Proofs.Tryd.f84) (body := body) (cin := (con 0).cin) (F := F) (T := T) follows (by kernel_rfl) (by kernel_rfl) (by kernel_rfl) (by kernel_rfl) (by kernel_rfl) (by decide +kernel) (by kernel_rfl) (by kernel_rfl) (tzero trivial) k (fun m _ => okΓ m) (fun m _ => tstep trivial) (fun x y h => (main k x).symm.trans h)
end stringslite_CutPrefix
namespace strings_CutPrefix
noncomputable abbrev con (k : Nat) : Con := ⟨⟨[(0, .l (.val .str)), (1, .l (.val .str))], []⟩, ⟨[(0, .l (.val .str)), (1, .l (.val .bool))], []⟩, fun x => strings_CutPrefix.f k x.1 x.2⟩
noncomputable abbrev Γ (k : Nat) : FuncId → Option Con := look [(84, stringslite_CutPrefix.con k)]
abbrev F : Fin Go.Proofs.Tryd.prog := ⟨⟨[(0, .l (.val .str)), (1, .l (.val .bool))], []⟩, [], [.tmp 4, .tmp 5]⟩
noncomputable abbrev Tl (k : Nat) : List (Nat × Hint (prods F.cout.tys)) := []
noncomputable abbrev T (k : Nat) : Nat → Option (Hint (prods F.cout.tys)) := look (Tl k)
noncomputable abbrev body : Code := Go.Proofs.Tryd.f58.body.getD .skip
theorem main (k : Nat) (x : prods (con 0).cin.tys) : strings_CutPrefix.f k x.1 x.2 = goK (Γ k) F (T k) 2000 [.code body] ((con 0).cin.st x) := by kernel_rfl
theorem okΓ (k : Nat) : ΓOk Go.Proofs.Tryd.prog (Γ k) := Γcons (stringslite_CutPrefix.ok k) ⟨Go.Proofs.Tryd.f84, by kernel_rfl, by kernel_rfl, by kernel_rfl⟩ (Γnil)
theorem ok (k : Nat) : ConSound Go.Proofs.Tryd.prog 58 (con k) := con_sound (Γ := Γ) (fn := Go.Proofs.Tryd.f58) (body := body) (cin := (con 0).cin) (F := F) (T := T) follows (by kernel_rfl) (by kernel_rfl) (by kernel_rfl) (by kernel_rfl) (by kernel_rfl) (by decide +kernel) (by kernel_rfl) (by kernel_rfl) (tzero trivial) k (fun m _ => okΓ m) (fun m _ => tstep trivial) (fun x y h => (main k x).symm.trans h)
end strings_CutPrefix
namespace stringslite_IndexByte
noncomputable abbrev con (k : Nat) : Con := ⟨⟨[(0, .l (.val .str)), (1, .l (.val (.int .u8)))], []⟩, ⟨[(0, .l (.val (.int .i64)))], []⟩, fun x => stringslite_IndexByte.f k x.1 x.2⟩
noncomputable abbrev Γ (k : Nat) : FuncId → Option Con := look []
abbrev F : Fin Go.Proofs.Tryd.prog := ⟨⟨[(0, .l (.val (.int .i64)))], []⟩, [], [.tmp 4]⟩
noncomputable abbrev Tl (k : Nat) : List (Nat × Hint (prods F.cout.tys)) := []
noncomputable abbrev T (k : Nat) : Nat → Option (Hint (prods F.cout.tys)) := look (Tl k)
noncomputable abbrev body : Code := Go.Proofs.Tryd.f112.body.getD .skip
theorem main (k : Nat) (x : prods (con 0).cin.tys) : stringslite_IndexByte.f k x.1 x.2 = goK (Γ k) F (T k) 2000 [.code body] ((con 0).cin.st x) := by kernel_rfl
theorem okΓ (k : Nat) : ΓOk Go.Proofs.Tryd.prog (Γ k) := Γnil
theorem ok (k : Nat) : ConSound Go.Proofs.Tryd.prog 112 (con k) := con_sound (Γ := Γ) (fn := Go.Proofs.Tryd.f112) (body := body) (cin := (con 0).cin) (F := F) (T := T) follows (by kernel_rfl) (by kernel_rfl) (by kernel_rfl) (by kernel_rfl) (by kernel_rfl) (by decide +kernel) (by kernel_rfl) (by kernel_rfl) (tzero trivial) k (fun m _ => okΓ m) (fun m _ => tstep trivial) (fun x y h => (main k x).symm.trans h)
end stringslite_IndexByte
namespace stringslite_Index
noncomputable abbrev con (k : Nat) : Con := ⟨⟨[(0, .l (.val .str)), (1, .l (.val .str))], []⟩, ⟨[(0, .l (.val (.int .i64)))], []⟩, fun x => stringslite_Index.f k x.1 x.2⟩
noncomputable abbrev Γ (k : Nat) : FuncId → Option Con := look [(112, stringslite_IndexByte.con k)]
abbrev F : Fin Go.Proofs.Tryd.prog := ⟨⟨[(0, .l (.val (.int .i64)))], []⟩, [], [.tmp 4]⟩
noncomputable abbrev Tl (k : Nat) : List (Nat × Hint (prods F.cout.tys)) := []
noncomputable abbrev T (k : Nat) : Nat → Option (Hint (prods F.cout.tys)) := look (Tl k)
noncomputable abbrev body : Code := Go.Proofs.Tryd.f103.body.getD .skip
theorem main (k : Nat) (x : prods (con 0).cin.tys) : stringslite_Index.f k x.1 x.2 = goK (Γ k) F (T k) 2000 [.code body] ((con 0).cin.st x) := by kernel_rfl
theorem okΓ (k : Nat) : ΓOk Go.Proofs.Tryd.prog (Γ k) := Γcons (stringslite_IndexByte.ok k) ⟨Go.Proofs.Tryd.f112, by kernel_rfl, by kernel_rfl, by kernel_rfl⟩ (Γnil)
theorem ok (k : Nat) : ConSound Go.Proofs.Tryd.prog 103 (con k) := con_sound (Γ := Γ) (fn := Go.Proofs.Tryd.f103) (body := body) (cin := (con 0).cin) (F := F) (T := T) follows (by kernel_rfl) (by kernel_rfl) (by kernel_rfl) (by kernel_rfl) (by kernel_rfl) (by decide +kernel) (by kernel_rfl) (by kernel_rfl) (tzero trivial) k (fun m _ => okΓ m) (fun m _ => tstep trivial) (fun x y h => (main k x).symm.trans h)
end stringslite_Index
namespace stringslite_Cut
noncomputable abbrev con (k : Nat) : Con := ⟨⟨[(0, .l (.val .str)), (1, .l (.val .str))], []⟩, ⟨[(0, .l (.val .str)), (1, .l (.val .str)), (2, .l (.val .bool))], []⟩, fun x => stringslite_Cut.f k x.1 x.2⟩
noncomputable abbrev Γ (k : Nat) : FuncId → Option Con := look [(103, stringslite_Index.con k)]
abbrev F : Fin Go.Proofs.Tryd.prog := ⟨⟨[(0, .l (.val .str)), (1, .l (.val .str)), (2, .l (.val .bool))], []⟩, [], [.tmp 4, .tmp 5, .tmp 6]⟩
noncomputable abbrev Tl (k : Nat) : List (Nat × Hint (prods F.cout.tys)) := []
noncomputable abbrev T (k : Nat) : Nat → Option (Hint (prods F.cout.tys)) := look (Tl k)
noncomputable abbrev body : Code := Go.Proofs.Tryd.f85.body.getD .skip
theorem main (k : Nat) (x : prods (con 0).cin.tys) : stringslite_Cut.f k x.1 x.2 = goK (Γ k) F (T k) 2000 [.code body] ((con 0).cin.st x) := by kernel_rfl
theorem okΓ (k : Nat) : ΓOk Go.Proofs.Tryd.prog (Γ k) := Γcons (stringslite_Index.ok k) ⟨Go.Proofs.Tryd.f103, by kernel_rfl, by kernel_rfl, by kernel_rfl⟩ (Γnil)
theorem ok (k : Nat) : ConSound Go.Proofs.Tryd.prog 85 (con k) := con_sound (Γ := Γ) (fn := Go.Proofs.Tryd.f85) (body := body) (cin := (con 0).cin) (F := F) (T := T) follows (by kernel_rfl) (by kernel_rfl) (by kernel_rfl) (by kernel_rfl) (by kernel_rfl) (by decide +kernel) (by kernel_rfl) (by kernel_rfl) (tzero trivial) k (fun m _ => okΓ m) (fun m _ => tstep trivial) (fun x y h => (main k x).symm.trans h)
end stringslite_Cut
namespace strings_Cut
noncomputable abbrev con (k : Nat) : Con := ⟨⟨[(0, .l (.val .str)), (1, .l (.val .str))], []⟩, ⟨[(0, .l (.val .str)), (1, .l (.val .str)), (2, .l (.val .bool))], []⟩, fun x => strings_Cut.f k x.1 x.2⟩
noncomputable abbrev Γ (k : Nat) : FuncId → Option Con := look [(85, stringslite_Cut.con k)]
abbrev F : Fin Go.Proofs.Tryd.prog := ⟨⟨[(0, .l (.val .str)), (1, .l (.val .str)), (2, .l (.val .bool))], []⟩, [], [.tmp 4, .tmp 5, .tmp 6]⟩
noncomputable abbrev Tl (k : Nat) : List (Nat × Hint (prods F.cout.tys)) := []
noncomputable abbrev T (k : Nat) : Nat → Option (Hint (prods F.cout.tys)) := look (Tl k)
noncomputable abbrev body : Code := Go.Proofs.Tryd.f59.body.getD .skip
theorem main (k : Nat) (x : prods (con 0).cin.tys) : strings_Cut.f k x.1 x.2 = goK (Γ k) F (T k) 2000 [.code body] ((con 0).cin.st x) := by kernel_rfl
theorem okΓ (k : Nat) : ΓOk Go.Proofs.Tryd.prog (Γ k) := Γcons (stringslite_Cut.ok k) ⟨Go.Proofs.Tryd.f85, by kernel_rfl, by kernel_rfl, by kernel_rfl⟩ (Γnil)
theorem ok (k : Nat) : ConSound Go.Proofs.Tryd.prog 59 (con k) := con_sound (Γ := Γ) (fn := Go.Proofs.Tryd.f59) (body := body) (cin := (con 0).cin) (F := F) (T := T) follows (by kernel_rfl) (by kernel_rfl) (by kernel_rfl) (by kernel_rfl) (by kernel_rfl) (by decide +kernel) (by kernel_rfl) (by kernel_rfl) (tzero trivial) k (fun m _ => okΓ m) (fun m _ => tstep trivial) (fun x y h => (main k x).symm.trans h)
end strings_Cut
namespace nat_Check
noncomputable abbrev con (k : Nat) : Con := ⟨⟨[(0, .l (.val .str))], []⟩, ⟨[(0, .l (.val (.int .i64)))], []⟩, fun x => nat_Check.f k x⟩
noncomputable abbrev Γ (k : Nat) : FuncId → Option Con := look []
abbrev F : Fin Go.Proofs.Tryd.prog := ⟨⟨[(0, .l (.val (.int .i64)))], []⟩, [], [.tmp 2]⟩
abbrev c4 : Cut := ⟨[(0, .l (.val .str)), (18, .l (.val (.list 5 (.int .u8)))), (19, .l (.val (.int .i64))), (20, .l (.val (.int .i64)))], []⟩
noncomputable abbrev Tl (k : Nat) : List (Nat × Hint (prods F.cout.tys)) := [(4, ⟨c4, fun x => nat_Check.l4 k x.1 x.2.1 x.2.2.1 x.2.2.2⟩)]
noncomputable abbrev T (k : Nat) : Nat → Option (Hint (prods F.cout.tys)) := look (Tl k)
noncomputable abbrev body : Code := Go.Proofs.Tryd.f83.body.getD .skip
theorem s4 (k : Nat) (x : prods c4.tys) : nat_Check.l4 (k + 1) x.1 x.2.1 x.2.2.1 x.2.2.2 = segK (Γ k) F (T k) body 4 (c4.st x) := by kernel_rfl
theorem main (k : Nat) (x : prods (con 0).cin.tys) : nat_Check.f k x = goK (Γ k) F (T k) 2000 [.code body] ((con 0).cin.st x) := by kernel_rfl
theorem okΓ (k : Nat) : ΓOk Go.Proofs.Tryd.prog (Γ k) := Γnil
theorem ok (k : Nat) : ConSound Go.Proofs.Tryd.prog 83 (con k) := con_sound (Γ := Γ) (fn := Go.Proofs.Tryd.f83) (body := body) (cin := (con 0).cin) (F := F) (T := T) follows (by kernel_rfl) (by kernel_rfl) (by kernel_rfl) (by kernel_rfl) (by kernel_rfl) (by decide +kernel) (by kernel_rfl) (by kernel_rfl) (tzero ⟨fun x => by kernel_rfl, trivial⟩) k (fun m _ => okΓ m) (fun m _ => tstep ⟨fun x => Eq.trans (by kernel_rfl) (s4 m x), trivial⟩) (fun x y h => (main k x).symm.trans h)
end nat_Check
namespace nat_N_trim
noncomputable abbrev con (k : Nat) : Con := ⟨⟨[(0, .l (.row 9000000))], [(9000000, .row 138 (.int .u32))]⟩, ⟨[(0, .l (.row 0))], [(9000000, .gone), (0, .row 138 (.int .u32))]⟩, fun x => nat_N_trim.f k x⟩
noncomputable abbrev Γ (k : Nat) : FuncId → Option Con := look []
abbrev F : Fin Go.Proofs.Tryd.prog := ⟨⟨[(0, .l (.row 0))], [(9000000, .gone), (0, .row 138 (.int .u32))]⟩, [9000000], [.tmp 2]⟩
abbrev c1 : Cut := ⟨[(0, .l (.row 7000000))], [(9000000, .gone), (7000000, .row 138 (.int .u32))]⟩
noncomputable abbrev Tl (k : Nat) : List (Nat × Hint (prods F.cout.tys)) := [(1, ⟨c1, fun x => nat_N_trim.l1 k x⟩)]
noncomputable abbrev T (k : Nat) : Nat → Option (Hint (prods F.cout.tys)) := look (Tl k)
noncomputable abbrev body : Code := Go.Proofs.Tryd.f86.body.getD .skip
theorem s1 (k : Nat) (x : prods c1.tys) : nat_N_trim.l1 (k + 1) x = segK (Γ k) F (T k) body 1 (c1.st x) := by kernel_rfl
theorem main (k : Nat) (x : prods (con 0).cin.tys) : nat_N_trim.f k x = goK (Γ k) F (T k) 2000 [.code body] ((con 0).cin.st x) := by kernel_rfl
theorem okΓ (k : Nat) : ΓOk Go.Proofs.Tryd.prog (Γ k) := Γnil
theorem ok (k : Nat) : ConSound Go.Proofs.Tryd.prog 86 (con k) := con_sound (Γ := Γ) (fn := Go.Proofs.Tryd.f86) (body := body) (cin := (con 0).cin) (F := F) (T := T) follows (by kernel_rfl) (by kernel_rfl) (by kernel_rfl) (by kernel_rfl) (by kernel_rfl) (by decide +kernel) (by kernel_rfl) (by kernel_rfl) (tzero ⟨fun x => by kernel_rfl, trivial⟩) k (fun m _ => okΓ m) (fun m _ => tstep ⟨fun x => Eq.trans (by kernel_rfl) (s1 m x), trivial⟩) (fun x y h => (main k x).symm.trans h)
end nat_N_trim
namespace nat_Read
noncomputable abbrev con (k : Nat) : Con := ⟨⟨[(0, .l (.val .str))], []⟩, ⟨[(0, .l (.val (.list 138 (.int .u32))))], []⟩, fun x => nat_Read.f k x⟩
noncomputable abbrev Γ (k : Nat) : FuncId → Option Con := look [(86, nat_N_trim.con k)]
abbrev F : Fin Go.Proofs.Tryd.prog := ⟨⟨[(0, .l (.val (.list 138 (.int .u32))))], []⟩, [], [.tmp 2]⟩
abbrev c3 : Cut := ⟨[(0, .l (.val .str)), (3, .l (.row 7000500)), (4, .l (.val (.int .i64)))], [(7000500, .row 138 (.int .u32))]⟩
abbrev c7 : Cut := ⟨[(0, .l (.val .str)), (3, .l (.row 7000500)), (4, .l (.val (.int .i64))), (5, .l (.val (.int .u32))), (20, .l (.val (.list 5 (.int .u8)))), (21, .l (.val (.int .i64))), (22, .l (.val (.int .i64)))], [(7000500, .row 138 (.int .u32))]⟩
noncomputable abbrev Tl (k : Nat) : List (Nat × Hint (prods F.cout.tys)) := [(3, ⟨c3, fun x => nat_Read.l3 k x.1 x.2.1 x.2.2⟩), (7, ⟨c7, fun x => nat_Read.l7 k x.1 x.2.1 x.2.2.1 x.2.2.2.1 x.2.2.2.2.1 x.2.2.2.2.2.1 x.2.2.2.2.2.2⟩)]
noncomputable abbrev T (k : Nat) : Nat → Option (Hint (prods F.cout.tys)) := look (Tl k)
noncomputable abbrev body : Code := Go.Proofs.Tryd.f60.body.getD .skip
theorem s3 (k : Nat) (x : prods c3.tys) : nat_Read.l3 (k + 1) x.1 x.2.1 x.2.2 = segK (Γ k) F (T k) body 3 (c3.st x) := by kernel_rfl
theorem s7 (k : Nat) (x : prods c7.tys) : nat_Read.l7 (k + 1) x.1 x.2.1 x.2.2.1 x.2.2.2.1 x.2.2.2.2.1 x.2.2.2.2.2.1 x.2.2.2.2.2.2 = segK (Γ k) F (T k) body 7 (c7.st x) := by kernel_rfl
theorem main (k : Nat) (x : prods (con 0).cin.tys) : nat_Read.f k x = goK (Γ k) F (T k) 2000 [.code body] ((con 0).cin.st x) := by kernel_rfl
theorem okΓ (k : Nat) : ΓOk Go.Proofs.Tryd.prog (Γ k) := Γcons (nat_N_trim.ok k) ⟨Go.Proofs.Tryd.f86, by kernel_rfl, by kernel_rfl, by kernel_rfl⟩ (Γnil)
theorem ok (k : Nat) : ConSound Go.Proofs.Tryd.prog 60 (con k) := con_sound (Γ := Γ) (fn := Go.Proofs.Tryd.f60) (body := body) (cin := (con 0).cin) (F := F) (T := T) follows (by kernel_rfl) (by kernel_rfl) (by kernel_rfl) (by kernel_rfl) (by kernel_rfl) (by decide +kernel) (by kernel_rfl) (by kernel_rfl) (tzero ⟨fun x => by kernel_rfl, fun x => by kernel_rfl, trivial⟩) k (fun m _ => okΓ m) (fun m _ => tstep ⟨fun x => Eq.trans (by kernel_rfl) (s3 m x), fun x => Eq.trans (by kernel_rfl) (s7 m x), trivial⟩) (fun x y h => (main k x).symm.trans h)
end nat_Read
namespace nat_N_Cmp
noncomputable abbrev con (k : Nat) : Con := ⟨⟨[(0, .l (.val (.list 138 (.int .u32)))), (1, .l (.val (.list 138 (.int .u32))))], []⟩, ⟨[(0, .l (.val (.int .i64)))], []⟩, fun x => nat_N_Cmp.f k x.1 x.2⟩
noncomputable abbrev Γ (k : Nat) : FuncId → Option Con := look []
abbrev F : Fin Go.Proofs.Tryd.prog := ⟨⟨[(0, .l (.val (.int .i64)))], []⟩, [], [.tmp 4]⟩
abbrev c6 : Cut := ⟨[(0, .l (.val (.list 138 (.int .u32)))), (1, .l (.val (.list 138 (.int .u32)))), (5, .l (.val (.int .i64)))], []⟩
noncomputable abbrev Tl (k : Nat) : List (Nat × Hint (prods F.cout.tys)) := [(6, ⟨c6, fun x => nat_N_Cmp.l6 k x.1 x.2.1 x.2.2⟩)]
noncomputable abbrev T (k : Nat) : Nat → Option (Hint (prods F.cout.tys)) := look (Tl k)
noncomputable abbrev body : Code := Go.Proofs.Tryd.f68.body.getD .skip
theorem s6 (k : Nat) (x : prods c6.tys) : nat_N_Cmp.l6 (k + 1) x.1 x.2.1 x.2.2 = segK (Γ k) F (T k) body 6 (c6.st x) := by kernel_rfl
theorem main (k : Nat) (x : prods (con 0).cin.tys) : nat_N_Cmp.f k x.1 x.2 = goK (Γ k) F (T k) 2000 [.code body] ((con 0).cin.st x) := by kernel_rfl
theorem okΓ (k : Nat) : ΓOk Go.Proofs.Tryd.prog (Γ k) := Γnil
theorem ok (k : Nat) : ConSound Go.Proofs.Tryd.prog 68 (con k) := con_sound (Γ := Γ) (fn := Go.Proofs.Tryd.f68) (body := body) (cin := (con 0).cin) (F := F) (T := T) follows (by kernel_rfl) (by kernel_rfl) (by kernel_rfl) (by kernel_rfl) (by kernel_rfl) (by decide +kernel) (by kernel_rfl) (by kernel_rfl) (tzero ⟨fun x => by kernel_rfl, trivial⟩) k (fun m _ => okΓ m) (fun m _ => tstep ⟨fun x => Eq.trans (by kernel_rfl) (s6 m x), trivial⟩) (fun x y h => (main k x).symm.trans h)
end nat_N_Cmp
namespace nat_N_short
noncomputable abbrev con (k : Nat) : Con := ⟨⟨[(0, .l (.val (.list 138 (.int .u32)))), (1, .l (.val (.int .u32)))], []⟩, ⟨[(0, .l (.val (.list 138 (.int .u32)))), (1, .l (.val (.list 138 (.int .u32))))], []⟩, fun x => nat_N_short.f k x.1 x.2⟩
noncomputable abbrev Γ (k : Nat) : FuncId → Option Con := look [(86, nat_N_trim.con k)]
abbrev F : Fin Go.Proofs.Tryd.prog := ⟨⟨[(0, .l (.val (.list 138 (.int .u32)))), (1, .l (.val (.list 138 (.int .u32))))], []⟩, [], [.tmp 4, .tmp 5]⟩
abbrev c0 : Cut := ⟨[(0, .l (.val (.list 138 (.int .u32)))), (1, .l (.val (.int .u32)))], []⟩
abbrev c4 : Cut := ⟨[(0, .l (.val (.list 138 (.int .u32)))), (1, .l (.val (.int .u32))), (6, .l (.row 7000000)), (7, .l (.val (.int .u64))), (8, .l (.val (.int .i64)))], [(7000000, .row 138 (.int .u32))]⟩
noncomputable abbrev Tl (k : Nat) : List (Nat × Hint (prods F.cout.tys)) := [(0, ⟨c0, fun x => nat_N_short.l0 k x.1 x.2⟩), (4, ⟨c4, fun x => nat_N_short.l4 k x.1 x.2.1 x.2.2.1 x.2.2.2.1 x.2.2.2.2⟩)]
noncomputable abbrev T (k : Nat) : Nat → Option (Hint (prods F.cout.tys)) := look (Tl k)
noncomputable abbrev body : Code := Go.Proofs.Tryd.f90.body.getD .skip
theorem s0 (k : Nat) (x : prods c0.tys) : nat_N_short.l0 (k + 1) x.1 x.2 = segK (Γ k) F (T k) body 0 (c0.st x) := by kernel_rfl
theorem s4 (k : Nat) (x : prods c4.tys) : nat_N_short.l4 (k + 1) x.1 x.2.1 x.2.2.1 x.2.2.2.1 x.2.2.2.2 = segK (Γ k) F (T k) body 4 (c4.st x) := by kernel_rfl
theorem main (k : Nat) (x : prods (con 0).cin.tys) : nat_N_short.f k x.1 x.2 = goK (Γ k) F (T k) 2000 [.code body] ((con 0).cin.st x) := by kernel_rfl
theorem okΓ (k : Nat) : ΓOk Go.Proofs.Tryd.prog (Γ k) := Γcons (nat_N_trim.ok k) ⟨Go.Proofs.Tryd.f86, by kernel_rfl, by kernel_rfl, by kernel_rfl⟩ (Γnil)
theorem ok (k : Nat) : ConSound Go.Proofs.Tryd.prog 90 (con k) := con_sound (Γ := Γ) (fn := Go.Proofs.Tryd.f90) (body := body) (cin := (con 0).cin) (F := F) (T := T) follows (by kernel_rfl) (by kernel_rfl) (by kernel_rfl) (by kernel_rfl) (by kernel_rfl) (by decide +kernel) (by kernel_rfl) (by kernel_rfl) (tzero ⟨fun x => by kernel_rfl, fun x => by kernel_rfl, trivial⟩) k (fun m _ => okΓ m) (fun m _ => tstep ⟨fun x => Eq.trans (by kernel_rfl) (s0 m x), fun x => Eq.trans (by kernel_rfl) (s4 m x), trivial⟩) (fun x y h => (main k x).symm.trans h)
end nat_N_short
namespace nat_N_Mul
noncomputable abbrev con (k : Nat) : Con := ⟨⟨[(0, .l (.val (.list 138 (.int .u32)))), (1, .l (.val (.list 138 (.int .u32))))], []⟩, ⟨[(0, .l (.row 0))], [(0, .row 138 (.int .u32))]⟩, fun x => nat_N_Mul.f k x.1 x.2⟩
noncomputable abbrev Γ (k : Nat) : FuncId → Option Con := look [(86, nat_N_trim.con k)]
abbrev F : Fin Go.Proofs.Tryd.prog := ⟨⟨[(0, .l (.row 0))], [(0, .row 138 (.int .u32))]⟩, [], [.tmp 4]⟩
abbrev c0 : Cut := ⟨[(0, .l (.val (.list 138 (.int .u32)))), (1, .l (.val (.list 138 (.int .u32))))], []⟩
abbrev c3 : Cut := ⟨[(1, .l (.val (.list 138 (.int .u32)))), (5, .l (.row 7000000)), (18, .l (.val (.list 138 (.int .u32)))), (19, .l (.val (.int .i64))), (20, .l (.val (.int .i64)))], [(7000000, .row 138 (.int .u32))]⟩
abbrev c7 : Cut := ⟨[(1, .l (.val (.list 138 (.int .u32)))), (5, .l (.row 7000000)), (6, .l (.val (.int .i64))), (7, .l (.val (.int .u32))), (8, .l (.val (.int .u64))), (18, .l (.val (.list 138 (.int .u32)))), (19, .l (.val (.int .i64))), (20, .l (.val (.int .i64))), (25, .l (.val (.list 138 (.int .u32)))), (26, .l (.val (.int .i64))), (27, .l (.val (.int .i64)))], [(7000000, .row 138 (.int .u32))]⟩
noncomputable abbrev Tl (k : Nat) : List (Nat × Hint (prods F.cout.tys)) := [(0, ⟨c0, fun x => nat_N_Mul.l0 k x.1 x.2⟩), (3, ⟨c3, fun x => nat_N_Mul.l3 k x.1 x.2.1 x.2.2.1 x.2.2.2.1 x.2.2.2.2⟩), (7, ⟨c7, fun x => nat_N_Mul.l7 k x.1 x.2.1 x.2.2.1 x.2.2.2.1 x.2.2.2.2.1 x.2.2.2.2.2.1 x.2.2.2.2.2.2.1 x.2.2.2.2.2.2.2.1 x.2.2.2.2.2.2.2.2.1 x.2.2.2.2.2.2.2.2.2.1 x.2.2.2.2.2.2.2.2.2.2⟩)]
noncomputable abbrev T (k : Nat) : Nat → Option (Hint (prods F.cout.tys)) := look (Tl k)
noncomputable abbrev body : Code := Go.Proofs.Tryd.f66.body.getD .skip
theorem s0 (k : Nat) (x : prods c0.tys) : nat_N_Mul.l0 (k + 1) x.1 x.2 = segK (Γ k) F (T k) body 0 (c0.st x) := by kernel_rfl
theorem s3 (k : Nat) (x : prods c3.tys) : nat_N_Mul.l3 (k + 1) x.1 x.2.1 x.2.2.1 x.2.2.2.1 x.2.2.2.2 = segK (Γ k) F (T k) body 3 (c3.st x) := by kernel_rfl
theorem s7 (k : Nat) (x : prods c7.tys) : nat_N_Mul.l7 (k + 1) x.1 x.2.1 x.2.2.1 x.2.2.2.1 x.2.2.2.2.1 x.2.2.2.2.2.1 x.2.2.2.2.2.2.1 x.2.2.2.2.2.2.2.1 x.2.2.2.2.2.2.2.2.1 x.2.2.2.2.2.2.2.2.2.1 x.2.2.2.2.2.2.2.2.2.2 = segK (Γ k) F (T k) body 7 (c7.st x) := by kernel_rfl
theorem main (k : Nat) (x : prods (con 0).cin.tys) : nat_N_Mul.f k x.1 x.2 = goK (Γ k) F (T k) 2000 [.code body] ((con 0).cin.st x) := by kernel_rfl
theorem okΓ (k : Nat) : ΓOk Go.Proofs.Tryd.prog (Γ k) := Γcons (nat_N_trim.ok k) ⟨Go.Proofs.Tryd.f86, by kernel_rfl, by kernel_rfl, by kernel_rfl⟩ (Γnil)
theorem ok (k : Nat) : ConSound Go.Proofs.Tryd.prog 66 (con k) := con_sound (Γ := Γ) (fn := Go.Proofs.Tryd.f66) (body := body) (cin := (con 0).cin) (F := F) (T := T) follows (by kernel_rfl) (by kernel_rfl) (by kernel_rfl) (by kernel_rfl) (by kernel_rfl) (by decide +kernel) (by kernel_rfl) (by kernel_rfl) (tzero ⟨fun x => by kernel_rfl, fun x => by kernel_rfl, fun x => by kernel_rfl, trivial⟩) k (fun m _ => okΓ m) (fun m _ => tstep ⟨fun x => Eq.trans (by kernel_rfl) (s0 m x), fun x => Eq.trans (by kernel_rfl) (s3 m x), fun x => Eq.trans (by kernel_rfl) (s7 m x), trivial⟩) (fun x y h => (main k x).symm.trans h)
end nat_N_Mul
namespace nat_N_minus
noncomputable abbrev con (k : Nat) : Con := ⟨⟨[(0, .l (.row 9000000)), (1, .l (.val (.list 138 (.int .u32)))), (2, .l (.val (.int .i64))), (3, .l (.val (.int .u64)))], [(9000000, .row 138 (.int .u32))]⟩, ⟨[(0, .l (.val .bool))], [(9000000, .row 138 (.int .u32))]⟩, fun x => nat_N_minus.f k x.1 x.2.1 x.2.2.1 x.2.2.2⟩
noncomputable abbrev Γ (k : Nat) : FuncId → Option Con := look []
abbrev F : Fin Go.Proofs.Tryd.prog := ⟨⟨[(0, .l (.val .bool))], [(9000000, .row 138 (.int .u32))]⟩, [9000000], [.tmp 8]⟩
abbrev c4 : Cut := ⟨[(0, .l (.row 9000000)), (1, .l (.val (.list 138 (.int .u32)))), (2, .l (.val (.int .i64))), (3, .l (.val (.int .u64))), (9, .l (.val (.int .i64))), (10, .l (.val (.int .u64))), (11, .l (.val (.int .i64)))], [(9000000, .row 138 (.int .u32))]⟩
abbrev c9 : Cut := ⟨[(0, .l (.row 9000000)), (1, .l (.val (.list 138 (.int .u32)))), (2, .l (.val (.int .i64))), (3, .l (.val (.int .u64))), (9, .l (.val (.int .i64))), (11, .l (.val (.int .i64))), (12, .l (.val (.int .u64)))], [(9000000, .row 138 (.int .u32))]⟩
noncomputable abbrev Tl (k : Nat) : List (Nat × Hint (prods F.cout.tys)) := [(4, ⟨c4, fun x => nat_N_minus.l4 k x.1 x.2.1 x.2.2.1 x.2.2.2.1 x.2.2.2.2.1 x.2.2.2.2.2.1 x.2.2.2.2.2.2⟩), (9, ⟨c9, fun x => nat_N_minus.l9 k x.1 x.2.1 x.2.2.1 x.2.2.2.1 x.2.2.2.2.1 x.2.2.2.2.2.1 x.2.2.2.2.2.2⟩)]
noncomputable abbrev T (k : Nat) : Nat → Option (Hint (prods F.cout.tys)) := look (Tl k)
noncomputable abbrev body : Code := Go.Proofs.Tryd.f91.body.getD .skip
theorem s4 (k : Nat) (x : prods c4.tys) : nat_N_minus.l4 (k + 1) x.1 x.2.1 x.2.2.1 x.2.2.2.1 x.2.2.2.2.1 x.2.2.2.2.2.1 x.2.2.2.2.2.2 = segK (Γ k) F (T k) body 4 (c4.st x) := by kernel_rfl
theorem s9 (k : Nat) (x : prods c9.tys) : nat_N_minus.l9 (k + 1) x.1 x.2.1 x.2.2.1 x.2.2.2.1 x.2.2.2.2.1 x.2.2.2.2.2.1 x.2.2.2.2.2.2 = segK (Γ k) F (T k) body 9 (c9.st x) := by kernel_rfl
theorem main (k : Nat) (x : prods (con 0).cin.tys) : nat_N_minus.f k x.1 x.2.1 x.2.2.1 x.2.2.2 = goK (Γ k) F (T k) 2000 [.code body] ((con 0).cin.st x) := by kernel_rfl
theorem okΓ (k : Nat) : ΓOk Go.Proofs.Tryd.prog (Γ k) := Γnil
theorem ok (k : Nat) : ConSound Go.Proofs.Tryd.prog 91 (con k) := con_sound (Γ := Γ) (fn := Go.Proofs.Tryd.f91) (body := body) (cin := (con 0).cin) (F := F) (T := T) follows (by kernel_rfl) (by kernel_rfl) (by kernel_rfl) (by kernel_rfl) (by kernel_rfl) (by decide +kernel) (by kernel_rfl) (by kernel_rfl) (tzero ⟨fun x => by kernel_rfl, fun x => by kernel_rfl, trivial⟩) k (fun m _ => okΓ m) (fun m _ => tstep ⟨fun x => Eq.trans (by kernel_rfl) (s4 m x), fun x => Eq.trans (by kernel_rfl) (s9 m x), trivial⟩) (fun x y h => (main k x).symm.trans h)
end nat_N_minus
namespace nat_N_plus
noncomputable abbrev con (k : Nat) : Con := ⟨⟨[(0, .l (.row 9000000)), (1, .l (.val (.list 138 (.int .u32)))), (2, .l (.val (.int .i64)))], [(9000000, .row 138 (.int .u32))]⟩, ⟨[], [(9000000, .row 138 (.int .u32))]⟩, fun x => nat_N_plus.f k x.1 x.2.1 x.2.2⟩
noncomputable abbrev Γ (k : Nat) : FuncId → Option Con := look []
abbrev F : Fin Go.Proofs.Tryd.prog := ⟨⟨[], [(9000000, .row 138 (.int .u32))]⟩, [9000000], []⟩
abbrev c2 : Cut := ⟨[(0, .l (.row 9000000)), (1, .l (.val (.list 138 (.int .u32)))), (2, .l (.val (.int .i64))), (6, .l (.val (.int .u32))), (7, .l (.val (.int .i64)))], [(9000000, .row 138 (.int .u32))]⟩
noncomputable abbrev Tl (k : Nat) : List (Nat × Hint (prods F.cout.tys)) := [(2, ⟨c2, fun x => nat_N_plus.l2 k x.1 x.2.1 x.2.2.1 x.2.2.2.1 x.2.2.2.2⟩)]
noncomputable abbrev T (k : Nat) : Nat → Option (Hint (prods F.cout.tys)) := look (Tl k)
noncomputable abbrev body : Code := Go.Proofs.Tryd.f92.body.getD .skip
theorem s2 (k : Nat) (x : prods c2.tys) : nat_N_plus.l2 (k + 1) x.1 x.2.1 x.2.2.1 x.2.2.2.1 x.2.2.2.2 = segK (Γ k) F (T k) body 2 (c2.st x) := by kernel_rfl
theorem main (k : Nat) (x : prods (con 0).cin.tys) : nat_N_plus.f k x.1 x.2.1 x.2.2 = goK (Γ k) F (T k) 2000 [.code body] ((con 0).cin.st x) := by kernel_rfl
theorem okΓ (k : Nat) : ΓOk Go.Proofs.Tryd.prog (Γ k) := Γnil
theorem ok (k : Nat) : ConSound Go.Proofs.Tryd.prog 92 (con k) := con_sound (Γ := Γ) (fn := Go.Proofs.Tryd.f92) (body := body) (cin := (con 0).cin) (F := F) (T := T) follows (by kernel_rfl) (by kernel_rfl) (by kernel_rfl) (by kernel_rfl) (by kernel_rfl) (by decide +kernel) (by kernel_rfl) (by kernel_rfl) (tzero ⟨fun x => by kernel_rfl, trivial⟩) k (fun m _ => okΓ m) (fun m _ => tstep ⟨fun x => Eq.trans (by kernel_rfl) (s2 m x), trivial⟩) (fun x y h => (main k x).symm.trans h)
end nat_N_plus
namespace nat_N_Div
noncomputable abbrev con (k : Nat) : Con := ⟨⟨[(0, .l (.val (.list 138 (.int .u32)))), (1, .l (.val (.list 138 (.int .u32))))], []⟩, ⟨[(0, .l (.val (.list 138 (.int .u32)))), (1, .l (.val (.list 138 (.int .u32))))], []⟩, fun x => nat_N_Div.f k x.1 x.2⟩
noncomputable abbrev Γ (k : Nat) : FuncId → Option Con := look [(66, nat_N_Mul.con k), (68, nat_N_Cmp.con k), (86, nat_N_trim.con k), (90, nat_N_short.con k), (91, nat_N_minus.con k), (92, nat_N_plus.con k)]
abbrev F : Fin Go.Proofs.Tryd.prog := ⟨⟨[(0, .l (.val (.list 138 (.int .u32)))), (1, .l (.val (.list 138 (.int .u32))))], []⟩, [], [.tmp 4, .tmp 5]⟩
abbrev c0 : Cut := ⟨[(0, .l (.val (.list 138 (.int .u32)))), (1, .l (.val (.list 138 (.int .u32))))], []⟩
abbrev c7 : Cut := ⟨[(0, .l (.val (.list 138 (.int .u32)))), (6, .l (.val (.int .u32))), (7, .l (.row 7000000)), (8, .l (.row 7000001))], [(7000000, .row 138 (.int .u32)), (7000001, .row 138 (.int .u32))]⟩
abbrev c12 : Cut := ⟨[(6, .l (.val (.int .u32))), (7, .l (.row 7000000)), (8, .l (.row 7000001)), (9, .l (.val (.int .i64))), (10, .l (.row 7000002)), (11, .l (.val (.int .i64)))], [(7000000, .row 138 (.int .u32)), (7000001, .row 138 (.int .u32)), (7000002, .row 138 (.int .u32))]⟩
abbrev c16 : Cut := ⟨[(6, .l (.val (.int .u32))), (7, .l (.row 7000000)), (8, .l (.row 7000001)), (9, .l (.val (.int .i64))), (10, .l (.row 7000002)), (11, .l (.val (.int .i64))), (13, .l (.val (.int .u64))), (14, .l (.val (.int .u64)))], [(7000000, .row 138 (.int .u32)), (7000001, .row 138 (.int .u32)), (7000002, .row 138 (.int .u32))]⟩
noncomputable abbrev Tl (k : Nat) : List (Nat × Hint (prods F.cout.tys)) := [(0, ⟨c0, fun x => nat_N_Div.l0 k x.1 x.2⟩), (7, ⟨c7, fun x => nat_N_Div.l7 k x.1 x.2.1 x.2.2.1 x.2.2.2⟩), (12, ⟨c12, fun x => nat_N_Div.l12 k x.1 x.2.1 x.2.2.1 x.2.2.2.1 x.2.2.2.2.1 x.2.2.2.2.2⟩), (16, ⟨c16, fun x => nat_N_Div.l16 k x.1 x.2.1 x.2.2.1 x.2.2.2.1 x.2.2.2.2.1 x.2.2.2.2.2.1 x.2.2.2.2.2.2.1 x.2.2.2.2.2.2.2⟩)]
noncomputable abbrev T (k : Nat) : Nat → Option (Hint (prods F.cout.tys)) := look (Tl k)
noncomputable abbrev body : Code := Go.Proofs.Tryd.f73.body.getD .skip
theorem s0 (k : Nat) (x : prods c0.tys) : nat_N_Div.l0 (k + 1) x.1 x.2 = segK (Γ k) F (T k) body 0 (c0.st x) := by kernel_rfl
theorem s7 (k : Nat) (x : prods c7.tys) : nat_N_Div.l7 (k + 1) x.1 x.2.1 x.2.2.1 x.2.2.2 = segK (Γ k) F (T k) body 7 (c7.st x) := by kernel_rfl
theorem s12 (k : Nat) (x : prods c12.tys) : nat_N_Div.l12 (k + 1) x.1 x.2.1 x.2.2.1 x.2.2.2.1 x.2.2.2.2.1 x.2.2.2.2.2 = segK (Γ k) F (T k) body 12 (c12.st x) := by kernel_rfl
theorem s16 (k : Nat) (x : prods c16.tys) : nat_N_Div.l16 (k + 1) x.1 x.2.1 x.2.2.1 x.2.2.2.1 x.2.2.2.2.1 x.2.2.2.2.2.1 x.2.2.2.2.2.2.1 x.2.2.2.2.2.2.2 = segK (Γ k) F (T k) body 16 (c16.st x) := by kernel_rfl
theorem main (k : Nat) (x : prods (con 0).cin.tys) : nat_N_Div.f k x.1 x.2 = goK (Γ k) F (T k) 2000 [.code body] ((con 0).cin.st x) := by kernel_rfl
theorem okΓ (k : Nat) : ΓOk Go.Proofs.Tryd.prog (Γ k) := Γcons (nat_N_Mul.ok k) ⟨Go.Proofs.Tryd.f66, by kernel_rfl, by kernel_rfl, by kernel_rfl⟩ (Γcons (nat_N_Cmp.ok k) ⟨Go.Proofs.Tryd.f68, by kernel_rfl, by kernel_rfl, by kernel_rfl⟩ (Γcons (nat_N_trim.ok k) ⟨Go.Proofs.Tryd.f86, by kernel_rfl, by kernel_rfl, by kernel_rfl⟩ (Γcons (nat_N_short.ok k) ⟨Go.Proofs.Tryd.f90, by kernel_rfl, by kernel_rfl, by kernel_rfl⟩ (Γcons (nat_N_minus.ok k) ⟨Go.Proofs.Tryd.f91, by kernel_rfl, by kernel_rfl, by kernel_rfl⟩ (Γcons (nat_N_plus.ok k) ⟨Go.Proofs.Tryd.f92, by kernel_rfl, by kernel_rfl, by kernel_rfl⟩ (Γnil))))))
theorem ok (k : Nat) : ConSound Go.Proofs.Tryd.prog 73 (con k) := con_sound (Γ := Γ) (fn := Go.Proofs.Tryd.f73) (body := body) (cin := (con 0).cin) (F := F) (T := T) follows (by kernel_rfl) (by kernel_rfl) (by kernel_rfl) (by kernel_rfl) (by kernel_rfl) (by decide +kernel) (by kernel_rfl) (by kernel_rfl) (tzero ⟨fun x => by kernel_rfl, fun x => by kernel_rfl, fun x => by kernel_rfl, fun x => by kernel_rfl, trivial⟩) k (fun m _ => okΓ m) (fun m _ => tstep ⟨fun x => Eq.trans (by kernel_rfl) (s0 m x), fun x => Eq.trans (by kernel_rfl) (s7 m x), fun x => Eq.trans (by kernel_rfl) (s12 m x), fun x => Eq.trans (by kernel_rfl) (s16 m x), trivial⟩) (fun x y h => (main k x).symm.trans h)
end nat_N_Div
namespace nat_N_Gcd
noncomputable abbrev con (k : Nat) : Con := ⟨⟨[(0, .l (.val (.list 138 (.int .u32)))), (1, .l (.val (.list 138 (.int .u32))))], []⟩, ⟨[(0, .l (.val (.list 138 (.int .u32))))], []⟩, fun x => nat_N_Gcd.f k x.1 x.2⟩
noncomputable abbrev Γ (k : Nat) : FuncId → Option Con := look [(73, nat_N_Div.con k)]
abbrev F : Fin Go.Proofs.Tryd.prog := ⟨⟨[(0, .l (.val (.list 138 (.int .u32))))], []⟩, [], [.tmp 4]⟩
abbrev c1 : Cut := ⟨[(0, .l (.val (.list 138 (.int .u32)))), (1, .l (.val (.list 138 (.int .u32))))], []⟩
noncomputable abbrev Tl (k : Nat) : List (Nat × Hint (prods F.cout.tys)) := [(1, ⟨c1, fun x => nat_N_Gcd.l1 k x.1 x.2⟩)]
noncomputable abbrev T (k : Nat) : Nat → Option (Hint (prods F.cout.tys)) := look (Tl k)
noncomputable abbrev body : Code := Go.Proofs.Tryd.f72.body.getD .skip
theorem s1 (k : Nat) (x : prods c1.tys) : nat_N_Gcd.l1 (k + 1) x.1 x.2 = segK (Γ k) F (T k) body 1 (c1.st x) := by kernel_rfl
theorem main (k : Nat) (x : prods (con 0).cin.tys) : nat_N_Gcd.f k x.1 x.2 = goK (Γ k) F (T k) 2000 [.code body] ((con 0).cin.st x) := by kernel_rfl
theorem okΓ (k : Nat) : ΓOk Go.Proofs.Tryd.prog (Γ k) := Γcons (nat_N_Div.ok k) ⟨Go.Proofs.Tryd.f73, by kernel_rfl, by kernel_rfl, by kernel_rfl⟩ (Γnil)
theorem ok (k : Nat) : ConSound Go.Proofs.Tryd.prog 72 (con k) := con_sound (Γ := Γ) (fn := Go.Proofs.Tryd.f72) (body := body) (cin := (con 0).cin) (F := F) (T := T) follows (by kernel_rfl) (by kernel_rfl) (by kernel_rfl) (by kernel_rfl) (by kernel_rfl) (by decide +kernel) (by kernel_rfl) (by kernel_rfl) (tzero ⟨fun x => by kernel_rfl, trivial⟩) k (fun m _ => okΓ m) (fun m _ => tstep ⟨fun x => Eq.trans (by kernel_rfl) (s1 m x), trivial⟩) (fun x y h => (main k x).symm.trans h)
end nat_N_Gcd
namespace nat_Of
noncomputable abbrev con (k : Nat) : Con := ⟨⟨[(0, .l (.val (.int .i64)))], []⟩, ⟨[(0, .l (.val (.list 138 (.int .u32))))], []⟩, fun x => nat_Of.f k x⟩
noncomputable abbrev Γ (k : Nat) : FuncId → Option Con := look []
abbrev F : Fin Go.Proofs.Tryd.prog := ⟨⟨[(0, .l (.val (.list 138 (.int .u32))))], []⟩, [], [.tmp 2]⟩
abbrev c2 : Cut := ⟨[(0, .l (.val (.int .i64))), (3, .l (.row 7000500))], [(7000500, .row 138 (.int .u32))]⟩
noncomputable abbrev Tl (k : Nat) : List (Nat × Hint (prods F.cout.tys)) := [(2, ⟨c2, fun x => nat_Of.l2 k x.1 x.2⟩)]
noncomputable abbrev T (k : Nat) : Nat → Option (Hint (prods F.cout.tys)) := look (Tl k)
noncomputable abbrev body : Code := Go.Proofs.Tryd.f61.body.getD .skip
theorem s2 (k : Nat) (x : prods c2.tys) : nat_Of.l2 (k + 1) x.1 x.2 = segK (Γ k) F (T k) body 2 (c2.st x) := by kernel_rfl
theorem main (k : Nat) (x : prods (con 0).cin.tys) : nat_Of.f k x = goK (Γ k) F (T k) 2000 [.code body] ((con 0).cin.st x) := by kernel_rfl
theorem okΓ (k : Nat) : ΓOk Go.Proofs.Tryd.prog (Γ k) := Γnil
theorem ok (k : Nat) : ConSound Go.Proofs.Tryd.prog 61 (con k) := con_sound (Γ := Γ) (fn := Go.Proofs.Tryd.f61) (body := body) (cin := (con 0).cin) (F := F) (T := T) follows (by kernel_rfl) (by kernel_rfl) (by kernel_rfl) (by kernel_rfl) (by kernel_rfl) (by decide +kernel) (by kernel_rfl) (by kernel_rfl) (tzero ⟨fun x => by kernel_rfl, trivial⟩) k (fun m _ => okΓ m) (fun m _ => tstep ⟨fun x => Eq.trans (by kernel_rfl) (s2 m x), trivial⟩) (fun x y h => (main k x).symm.trans h)
end nat_Of
namespace rat_Check
noncomputable abbrev con (k : Nat) : Con := ⟨⟨[(0, .l (.val .str))], []⟩, ⟨[(0, .l (.val (.int .i64)))], []⟩, fun x => rat_Check.f k x⟩
noncomputable abbrev Γ (k : Nat) : FuncId → Option Con := look [(58, strings_CutPrefix.con k), (59, strings_Cut.con k), (60, nat_Read.con k), (61, nat_Of.con k), (68, nat_N_Cmp.con k), (72, nat_N_Gcd.con k), (83, nat_Check.con k)]
abbrev F : Fin Go.Proofs.Tryd.prog := ⟨⟨[(0, .l (.val (.int .i64)))], []⟩, [], [.tmp 2]⟩
abbrev c6 : Cut := ⟨[(4, .l (.val .bool)), (5, .l (.val .str)), (6, .l (.val .str)), (7, .l (.val .bool)), (8, .l (.val (.int .i64))), (9, .l (.val (.int .i64)))], []⟩
noncomputable abbrev Tl (k : Nat) : List (Nat × Hint (prods F.cout.tys)) := [(6, ⟨c6, fun x => rat_Check.l6 k x.1 x.2.1 x.2.2.1 x.2.2.2.1 x.2.2.2.2.1 x.2.2.2.2.2⟩)]
noncomputable abbrev T (k : Nat) : Nat → Option (Hint (prods F.cout.tys)) := look (Tl k)
noncomputable abbrev body : Code := Go.Proofs.Tryd.f57.body.getD .skip
theorem s6 (k : Nat) (x : prods c6.tys) : rat_Check.l6 (k + 1) x.1 x.2.1 x.2.2.1 x.2.2.2.1 x.2.2.2.2.1 x.2.2.2.2.2 = segK (Γ k) F (T k) body 6 (c6.st x) := by kernel_rfl
theorem main (k : Nat) (x : prods (con 0).cin.tys) : rat_Check.f k x = goK (Γ k) F (T k) 2000 [.code body] ((con 0).cin.st x) := by kernel_rfl
theorem okΓ (k : Nat) : ΓOk Go.Proofs.Tryd.prog (Γ k) := Γcons (strings_CutPrefix.ok k) ⟨Go.Proofs.Tryd.f58, by kernel_rfl, by kernel_rfl, by kernel_rfl⟩ (Γcons (strings_Cut.ok k) ⟨Go.Proofs.Tryd.f59, by kernel_rfl, by kernel_rfl, by kernel_rfl⟩ (Γcons (nat_Read.ok k) ⟨Go.Proofs.Tryd.f60, by kernel_rfl, by kernel_rfl, by kernel_rfl⟩ (Γcons (nat_Of.ok k) ⟨Go.Proofs.Tryd.f61, by kernel_rfl, by kernel_rfl, by kernel_rfl⟩ (Γcons (nat_N_Cmp.ok k) ⟨Go.Proofs.Tryd.f68, by kernel_rfl, by kernel_rfl, by kernel_rfl⟩ (Γcons (nat_N_Gcd.ok k) ⟨Go.Proofs.Tryd.f72, by kernel_rfl, by kernel_rfl, by kernel_rfl⟩ (Γcons (nat_Check.ok k) ⟨Go.Proofs.Tryd.f83, by kernel_rfl, by kernel_rfl, by kernel_rfl⟩ (Γnil)))))))
theorem ok (k : Nat) : ConSound Go.Proofs.Tryd.prog 57 (con k) := con_sound (Γ := Γ) (fn := Go.Proofs.Tryd.f57) (body := body) (cin := (con 0).cin) (F := F) (T := T) follows (by kernel_rfl) (by kernel_rfl) (by kernel_rfl) (by kernel_rfl) (by kernel_rfl) (by decide +kernel) (by kernel_rfl) (by kernel_rfl) (tzero ⟨fun x => by kernel_rfl, trivial⟩) k (fun m _ => okΓ m) (fun m _ => tstep ⟨fun x => Eq.trans (by kernel_rfl) (s6 m x), trivial⟩) (fun x y h => (main k x).symm.trans h)
end rat_Check
namespace rat_CheckAll
noncomputable abbrev con (k : Nat) : Con := ⟨⟨[(0, .l (.val (.list 28 .str)))], []⟩, ⟨[(0, .l (.val (.int .i64)))], []⟩, fun x => rat_CheckAll.f k x⟩
noncomputable abbrev Γ (k : Nat) : FuncId → Option Con := look [(57, rat_Check.con k)]
abbrev F : Fin Go.Proofs.Tryd.prog := ⟨⟨[(0, .l (.val (.int .i64)))], []⟩, [], [.tmp 2]⟩
abbrev c2 : Cut := ⟨[(6, .l (.val (.list 28 .str))), (7, .l (.val (.int .i64))), (8, .l (.val (.int .i64)))], []⟩
noncomputable abbrev Tl (k : Nat) : List (Nat × Hint (prods F.cout.tys)) := [(2, ⟨c2, fun x => rat_CheckAll.l2 k x.1 x.2.1 x.2.2⟩)]
noncomputable abbrev T (k : Nat) : Nat → Option (Hint (prods F.cout.tys)) := look (Tl k)
noncomputable abbrev body : Code := Go.Proofs.Tryd.f28.body.getD .skip
theorem s2 (k : Nat) (x : prods c2.tys) : rat_CheckAll.l2 (k + 1) x.1 x.2.1 x.2.2 = segK (Γ k) F (T k) body 2 (c2.st x) := by kernel_rfl
theorem main (k : Nat) (x : prods (con 0).cin.tys) : rat_CheckAll.f k x = goK (Γ k) F (T k) 2000 [.code body] ((con 0).cin.st x) := by kernel_rfl
theorem okΓ (k : Nat) : ΓOk Go.Proofs.Tryd.prog (Γ k) := Γcons (rat_Check.ok k) ⟨Go.Proofs.Tryd.f57, by kernel_rfl, by kernel_rfl, by kernel_rfl⟩ (Γnil)
theorem ok (k : Nat) : ConSound Go.Proofs.Tryd.prog 28 (con k) := con_sound (Γ := Γ) (fn := Go.Proofs.Tryd.f28) (body := body) (cin := (con 0).cin) (F := F) (T := T) follows (by kernel_rfl) (by kernel_rfl) (by kernel_rfl) (by kernel_rfl) (by kernel_rfl) (by decide +kernel) (by kernel_rfl) (by kernel_rfl) (tzero ⟨fun x => by kernel_rfl, trivial⟩) k (fun m _ => okΓ m) (fun m _ => tstep ⟨fun x => Eq.trans (by kernel_rfl) (s2 m x), trivial⟩) (fun x y h => (main k x).symm.trans h)
end rat_CheckAll
namespace rat_In
noncomputable abbrev con (k : Nat) : Con := ⟨⟨[(0, .l (.val .str))], []⟩, ⟨[(0, .av Y2)], []⟩, fun x => rat_In.f k x⟩
noncomputable abbrev Γ (k : Nat) : FuncId → Option Con := look [(58, strings_CutPrefix.con k), (59, strings_Cut.con k), (60, nat_Read.con k), (61, nat_Of.con k)]
abbrev F : Fin Go.Proofs.Tryd.prog := ⟨⟨[(0, .av Y2)], []⟩, [], [.cell 2 85]⟩
noncomputable abbrev Tl (k : Nat) : List (Nat × Hint (prods F.cout.tys)) := []
noncomputable abbrev T (k : Nat) : Nat → Option (Hint (prods F.cout.tys)) := look (Tl k)
noncomputable abbrev body : Code := Go.Proofs.Tryd.f29.body.getD .skip
theorem main (k : Nat) (x : prods (con 0).cin.tys) : rat_In.f k x = goK (Γ k) F (T k) 2000 [.code body] ((con 0).cin.st x) := by kernel_rfl
theorem okΓ (k : Nat) : ΓOk Go.Proofs.Tryd.prog (Γ k) := Γcons (strings_CutPrefix.ok k) ⟨Go.Proofs.Tryd.f58, by kernel_rfl, by kernel_rfl, by kernel_rfl⟩ (Γcons (strings_Cut.ok k) ⟨Go.Proofs.Tryd.f59, by kernel_rfl, by kernel_rfl, by kernel_rfl⟩ (Γcons (nat_Read.ok k) ⟨Go.Proofs.Tryd.f60, by kernel_rfl, by kernel_rfl, by kernel_rfl⟩ (Γcons (nat_Of.ok k) ⟨Go.Proofs.Tryd.f61, by kernel_rfl, by kernel_rfl, by kernel_rfl⟩ (Γnil))))
theorem ok (k : Nat) : ConSound Go.Proofs.Tryd.prog 29 (con k) := con_sound (Γ := Γ) (fn := Go.Proofs.Tryd.f29) (body := body) (cin := (con 0).cin) (F := F) (T := T) follows (by kernel_rfl) (by kernel_rfl) (by kernel_rfl) (by kernel_rfl) (by kernel_rfl) (by decide +kernel) (by kernel_rfl) (by kernel_rfl) (tzero trivial) k (fun m _ => okΓ m) (fun m _ => tstep trivial) (fun x y h => (main k x).symm.trans h)
end rat_In
namespace rat_Q_Neg
noncomputable abbrev con (k : Nat) : Con := ⟨⟨[(0, .av Y2)], []⟩, ⟨[(0, .av Y2)], []⟩, fun x => rat_Q_Neg.f k x⟩
noncomputable abbrev Γ (k : Nat) : FuncId → Option Con := look []
abbrev F : Fin Go.Proofs.Tryd.prog := ⟨⟨[(0, .av Y2)], []⟩, [], [.cell 2 85]⟩
noncomputable abbrev Tl (k : Nat) : List (Nat × Hint (prods F.cout.tys)) := []
noncomputable abbrev T (k : Nat) : Nat → Option (Hint (prods F.cout.tys)) := look (Tl k)
noncomputable abbrev body : Code := Go.Proofs.Tryd.f62.body.getD .skip
theorem main (k : Nat) (x : prods (con 0).cin.tys) : rat_Q_Neg.f k x = goK (Γ k) F (T k) 2000 [.code body] ((con 0).cin.st x) := by kernel_rfl
theorem okΓ (k : Nat) : ΓOk Go.Proofs.Tryd.prog (Γ k) := Γnil
theorem ok (k : Nat) : ConSound Go.Proofs.Tryd.prog 62 (con k) := con_sound (Γ := Γ) (fn := Go.Proofs.Tryd.f62) (body := body) (cin := (con 0).cin) (F := F) (T := T) follows (by kernel_rfl) (by kernel_rfl) (by kernel_rfl) (by kernel_rfl) (by kernel_rfl) (by decide +kernel) (by kernel_rfl) (by kernel_rfl) (tzero trivial) k (fun m _ => okΓ m) (fun m _ => tstep trivial) (fun x y h => (main k x).symm.trans h)
end rat_Q_Neg
namespace rat_Q_whole
noncomputable abbrev con (k : Nat) : Con := ⟨⟨[(0, .av Y2)], []⟩, ⟨[(0, .l (.val (.list 138 (.int .u32))))], []⟩, fun x => rat_Q_whole.f k x⟩
noncomputable abbrev Γ (k : Nat) : FuncId → Option Con := look [(61, nat_Of.con k)]
abbrev F : Fin Go.Proofs.Tryd.prog := ⟨⟨[(0, .l (.val (.list 138 (.int .u32))))], []⟩, [], [.tmp 2]⟩
noncomputable abbrev Tl (k : Nat) : List (Nat × Hint (prods F.cout.tys)) := []
noncomputable abbrev T (k : Nat) : Nat → Option (Hint (prods F.cout.tys)) := look (Tl k)
noncomputable abbrev body : Code := Go.Proofs.Tryd.f65.body.getD .skip
theorem main (k : Nat) (x : prods (con 0).cin.tys) : rat_Q_whole.f k x = goK (Γ k) F (T k) 2000 [.code body] ((con 0).cin.st x) := by kernel_rfl
theorem okΓ (k : Nat) : ΓOk Go.Proofs.Tryd.prog (Γ k) := Γcons (nat_Of.ok k) ⟨Go.Proofs.Tryd.f61, by kernel_rfl, by kernel_rfl, by kernel_rfl⟩ (Γnil)
theorem ok (k : Nat) : ConSound Go.Proofs.Tryd.prog 65 (con k) := con_sound (Γ := Γ) (fn := Go.Proofs.Tryd.f65) (body := body) (cin := (con 0).cin) (F := F) (T := T) follows (by kernel_rfl) (by kernel_rfl) (by kernel_rfl) (by kernel_rfl) (by kernel_rfl) (by decide +kernel) (by kernel_rfl) (by kernel_rfl) (tzero trivial) k (fun m _ => okΓ m) (fun m _ => tstep trivial) (fun x y h => (main k x).symm.trans h)
end rat_Q_whole
namespace nat_N_Add
noncomputable abbrev con (k : Nat) : Con := ⟨⟨[(0, .l (.val (.list 138 (.int .u32)))), (1, .l (.val (.list 138 (.int .u32))))], []⟩, ⟨[(0, .l (.val (.list 138 (.int .u32))))], []⟩, fun x => nat_N_Add.f k x.1 x.2⟩
noncomputable abbrev Γ (k : Nat) : FuncId → Option Con := look []
abbrev F : Fin Go.Proofs.Tryd.prog := ⟨⟨[(0, .l (.val (.list 138 (.int .u32))))], []⟩, [], [.tmp 4]⟩
abbrev c0 : Cut := ⟨[(0, .l (.val (.list 138 (.int .u32)))), (1, .l (.val (.list 138 (.int .u32))))], []⟩
abbrev c3 : Cut := ⟨[(0, .l (.val (.list 138 (.int .u32)))), (1, .l (.val (.list 138 (.int .u32))))], []⟩
abbrev c6 : Cut := ⟨[(1, .l (.val (.list 138 (.int .u32)))), (5, .l (.row 7000000)), (6, .l (.val (.int .u32))), (20, .l (.val (.list 138 (.int .u32)))), (21, .l (.val (.int .i64))), (22, .l (.val (.int .i64)))], [(7000000, .row 138 (.int .u32))]⟩
noncomputable abbrev Tl (k : Nat) : List (Nat × Hint (prods F.cout.tys)) := [(0, ⟨c0, fun x => nat_N_Add.l0 k x.1 x.2⟩), (3, ⟨c3, fun x => nat_N_Add.l3 k x.1 x.2⟩), (6, ⟨c6, fun x => nat_N_Add.l6 k x.1 x.2.1 x.2.2.1 x.2.2.2.1 x.2.2.2.2.1 x.2.2.2.2.2⟩)]
noncomputable abbrev T (k : Nat) : Nat → Option (Hint (prods F.cout.tys)) := look (Tl k)
noncomputable abbrev body : Code := Go.Proofs.Tryd.f67.body.getD .skip
theorem s0 (k : Nat) (x : prods c0.tys) : nat_N_Add.l0 (k + 1) x.1 x.2 = segK (Γ k) F (T k) body 0 (c0.st x) := by kernel_rfl
theorem s3 (k : Nat) (x : prods c3.tys) : nat_N_Add.l3 (k + 1) x.1 x.2 = segK (Γ k) F (T k) body 3 (c3.st x) := by kernel_rfl
theorem s6 (k : Nat) (x : prods c6.tys) : nat_N_Add.l6 (k + 1) x.1 x.2.1 x.2.2.1 x.2.2.2.1 x.2.2.2.2.1 x.2.2.2.2.2 = segK (Γ k) F (T k) body 6 (c6.st x) := by kernel_rfl
theorem main (k : Nat) (x : prods (con 0).cin.tys) : nat_N_Add.f k x.1 x.2 = goK (Γ k) F (T k) 2000 [.code body] ((con 0).cin.st x) := by kernel_rfl
theorem okΓ (k : Nat) : ΓOk Go.Proofs.Tryd.prog (Γ k) := Γnil
theorem ok (k : Nat) : ConSound Go.Proofs.Tryd.prog 67 (con k) := con_sound (Γ := Γ) (fn := Go.Proofs.Tryd.f67) (body := body) (cin := (con 0).cin) (F := F) (T := T) follows (by kernel_rfl) (by kernel_rfl) (by kernel_rfl) (by kernel_rfl) (by kernel_rfl) (by decide +kernel) (by kernel_rfl) (by kernel_rfl) (tzero ⟨fun x => by kernel_rfl, fun x => by kernel_rfl, fun x => by kernel_rfl, trivial⟩) k (fun m _ => okΓ m) (fun m _ => tstep ⟨fun x => Eq.trans (by kernel_rfl) (s0 m x), fun x => Eq.trans (by kernel_rfl) (s3 m x), fun x => Eq.trans (by kernel_rfl) (s6 m x), trivial⟩) (fun x y h => (main k x).symm.trans h)
end nat_N_Add
namespace rat_low
noncomputable abbrev con (k : Nat) : Con := ⟨⟨[(0, .l (.val .bool)), (1, .l (.val (.list 138 (.int .u32)))), (2, .l (.val (.list 138 (.int .u32))))], []⟩, ⟨[(0, .av Y2)], []⟩, fun x => rat_low.f k x.1 x.2.1 x.2.2⟩
noncomputable abbrev Γ (k : Nat) : FuncId → Option Con := look [(61, nat_Of.con k), (68, nat_N_Cmp.con k), (72, nat_N_Gcd.con k), (73, nat_N_Div.con k)]
abbrev F : Fin Go.Proofs.Tryd.prog := ⟨⟨[(0, .av Y2)], []⟩, [], [.cell 6 85]⟩
noncomputable abbrev Tl (k : Nat) : List (Nat × Hint (prods F.cout.tys)) := []
noncomputable abbrev T (k : Nat) : Nat → Option (Hint (prods F.cout.tys)) := look (Tl k)
noncomputable abbrev body : Code := Go.Proofs.Tryd.f42.body.getD .skip
theorem main (k : Nat) (x : prods (con 0).cin.tys) : rat_low.f k x.1 x.2.1 x.2.2 = goK (Γ k) F (T k) 2000 [.code body] ((con 0).cin.st x) := by kernel_rfl
theorem okΓ (k : Nat) : ΓOk Go.Proofs.Tryd.prog (Γ k) := Γcons (nat_Of.ok k) ⟨Go.Proofs.Tryd.f61, by kernel_rfl, by kernel_rfl, by kernel_rfl⟩ (Γcons (nat_N_Cmp.ok k) ⟨Go.Proofs.Tryd.f68, by kernel_rfl, by kernel_rfl, by kernel_rfl⟩ (Γcons (nat_N_Gcd.ok k) ⟨Go.Proofs.Tryd.f72, by kernel_rfl, by kernel_rfl, by kernel_rfl⟩ (Γcons (nat_N_Div.ok k) ⟨Go.Proofs.Tryd.f73, by kernel_rfl, by kernel_rfl, by kernel_rfl⟩ (Γnil))))
theorem ok (k : Nat) : ConSound Go.Proofs.Tryd.prog 42 (con k) := con_sound (Γ := Γ) (fn := Go.Proofs.Tryd.f42) (body := body) (cin := (con 0).cin) (F := F) (T := T) follows (by kernel_rfl) (by kernel_rfl) (by kernel_rfl) (by kernel_rfl) (by kernel_rfl) (by decide +kernel) (by kernel_rfl) (by kernel_rfl) (tzero trivial) k (fun m _ => okΓ m) (fun m _ => tstep trivial) (fun x y h => (main k x).symm.trans h)
end rat_low
namespace nat_N_Sub
noncomputable abbrev con (k : Nat) : Con := ⟨⟨[(0, .l (.val (.list 138 (.int .u32)))), (1, .l (.val (.list 138 (.int .u32))))], []⟩, ⟨[(0, .l (.val (.list 138 (.int .u32))))], []⟩, fun x => nat_N_Sub.f k x.1 x.2⟩
noncomputable abbrev Γ (k : Nat) : FuncId → Option Con := look [(86, nat_N_trim.con k)]
abbrev F : Fin Go.Proofs.Tryd.prog := ⟨⟨[(0, .l (.val (.list 138 (.int .u32))))], []⟩, [], [.tmp 4]⟩
abbrev c0 : Cut := ⟨[(0, .l (.val (.list 138 (.int .u32)))), (1, .l (.val (.list 138 (.int .u32))))], []⟩
abbrev c4 : Cut := ⟨[(0, .l (.val (.list 138 (.int .u32)))), (1, .l (.val (.list 138 (.int .u32)))), (5, .l (.row 7000000)), (6, .l (.val (.int .i64))), (13, .l (.val (.int .i64))), (14, .l (.val (.int .i64)))], [(7000000, .row 138 (.int .u32))]⟩
noncomputable abbrev Tl (k : Nat) : List (Nat × Hint (prods F.cout.tys)) := [(0, ⟨c0, fun x => nat_N_Sub.l0 k x.1 x.2⟩), (4, ⟨c4, fun x => nat_N_Sub.l4 k x.1 x.2.1 x.2.2.1 x.2.2.2.1 x.2.2.2.2.1 x.2.2.2.2.2⟩)]
noncomputable abbrev T (k : Nat) : Nat → Option (Hint (prods F.cout.tys)) := look (Tl k)
noncomputable abbrev body : Code := Go.Proofs.Tryd.f69.body.getD .skip
theorem s0 (k : Nat) (x : prods c0.tys) : nat_N_Sub.l0 (k + 1) x.1 x.2 = segK (Γ k) F (T k) body 0 (c0.st x) := by kernel_rfl
theorem s4 (k : Nat) (x : prods c4.tys) : nat_N_Sub.l4 (k + 1) x.1 x.2.1 x.2.2.1 x.2.2.2.1 x.2.2.2.2.1 x.2.2.2.2.2 = segK (Γ k) F (T k) body 4 (c4.st x) := by kernel_rfl
theorem main (k : Nat) (x : prods (con 0).cin.tys) : nat_N_Sub.f k x.1 x.2 = goK (Γ k) F (T k) 2000 [.code body] ((con 0).cin.st x) := by kernel_rfl
theorem okΓ (k : Nat) : ΓOk Go.Proofs.Tryd.prog (Γ k) := Γcons (nat_N_trim.ok k) ⟨Go.Proofs.Tryd.f86, by kernel_rfl, by kernel_rfl, by kernel_rfl⟩ (Γnil)
theorem ok (k : Nat) : ConSound Go.Proofs.Tryd.prog 69 (con k) := con_sound (Γ := Γ) (fn := Go.Proofs.Tryd.f69) (body := body) (cin := (con 0).cin) (F := F) (T := T) follows (by kernel_rfl) (by kernel_rfl) (by kernel_rfl) (by kernel_rfl) (by kernel_rfl) (by decide +kernel) (by kernel_rfl) (by kernel_rfl) (tzero ⟨fun x => by kernel_rfl, fun x => by kernel_rfl, trivial⟩) k (fun m _ => okΓ m) (fun m _ => tstep ⟨fun x => Eq.trans (by kernel_rfl) (s0 m x), fun x => Eq.trans (by kernel_rfl) (s4 m x), trivial⟩) (fun x y h => (main k x).symm.trans h)
end nat_N_Sub
namespace rat_Q_Add
noncomputable abbrev con (k : Nat) : Con := ⟨⟨[(0, .av Y2), (1, .av Y2)], []⟩, ⟨[(0, .av Y2)], []⟩, fun x => rat_Q_Add.f k x.1 x.2⟩
noncomputable abbrev Γ (k : Nat) : FuncId → Option Con := look [(42, rat_low.con k), (65, rat_Q_whole.con k), (66, nat_N_Mul.con k), (67, nat_N_Add.con k), (68, nat_N_Cmp.con k), (69, nat_N_Sub.con k)]
abbrev F : Fin Go.Proofs.Tryd.prog := ⟨⟨[(0, .av Y2)], []⟩, [], [.cell 4 85]⟩
noncomputable abbrev Tl (k : Nat) : List (Nat × Hint (prods F.cout.tys)) := []
noncomputable abbrev T (k : Nat) : Nat → Option (Hint (prods F.cout.tys)) := look (Tl k)
noncomputable abbrev body : Code := Go.Proofs.Tryd.f34.body.getD .skip
theorem main (k : Nat) (x : prods (con 0).cin.tys) : rat_Q_Add.f k x.1 x.2 = goK (Γ k) F (T k) 2000 [.code body] ((con 0).cin.st x) := by kernel_rfl
theorem okΓ (k : Nat) : ΓOk Go.Proofs.Tryd.prog (Γ k) := Γcons (rat_low.ok k) ⟨Go.Proofs.Tryd.f42, by kernel_rfl, by kernel_rfl, by kernel_rfl⟩ (Γcons (rat_Q_whole.ok k) ⟨Go.Proofs.Tryd.f65, by kernel_rfl, by kernel_rfl, by kernel_rfl⟩ (Γcons (nat_N_Mul.ok k) ⟨Go.Proofs.Tryd.f66, by kernel_rfl, by kernel_rfl, by kernel_rfl⟩ (Γcons (nat_N_Add.ok k) ⟨Go.Proofs.Tryd.f67, by kernel_rfl, by kernel_rfl, by kernel_rfl⟩ (Γcons (nat_N_Cmp.ok k) ⟨Go.Proofs.Tryd.f68, by kernel_rfl, by kernel_rfl, by kernel_rfl⟩ (Γcons (nat_N_Sub.ok k) ⟨Go.Proofs.Tryd.f69, by kernel_rfl, by kernel_rfl, by kernel_rfl⟩ (Γnil))))))
theorem ok (k : Nat) : ConSound Go.Proofs.Tryd.prog 34 (con k) := con_sound (Γ := Γ) (fn := Go.Proofs.Tryd.f34) (body := body) (cin := (con 0).cin) (F := F) (T := T) follows (by kernel_rfl) (by kernel_rfl) (by kernel_rfl) (by kernel_rfl) (by kernel_rfl) (by decide +kernel) (by kernel_rfl) (by kernel_rfl) (tzero trivial) k (fun m _ => okΓ m) (fun m _ => tstep trivial) (fun x y h => (main k x).symm.trans h)
end rat_Q_Add
namespace rat_Q_Sub
noncomputable abbrev con (k : Nat) : Con := ⟨⟨[(0, .av Y2), (1, .av Y2)], []⟩, ⟨[(0, .av Y2)], []⟩, fun x => rat_Q_Sub.f k x.1 x.2⟩
noncomputable abbrev Γ (k : Nat) : FuncId → Option Con := look [(34, rat_Q_Add.con k), (62, rat_Q_Neg.con k)]
abbrev F : Fin Go.Proofs.Tryd.prog := ⟨⟨[(0, .av Y2)], []⟩, [], [.cell 4 85]⟩
noncomputable abbrev Tl (k : Nat) : List (Nat × Hint (prods F.cout.tys)) := []
noncomputable abbrev T (k : Nat) : Nat → Option (Hint (prods F.cout.tys)) := look (Tl k)
noncomputable abbrev body : Code := Go.Proofs.Tryd.f30.body.getD .skip
theorem main (k : Nat) (x : prods (con 0).cin.tys) : rat_Q_Sub.f k x.1 x.2 = goK (Γ k) F (T k) 2000 [.code body] ((con 0).cin.st x) := by kernel_rfl
theorem okΓ (k : Nat) : ΓOk Go.Proofs.Tryd.prog (Γ k) := Γcons (rat_Q_Add.ok k) ⟨Go.Proofs.Tryd.f34, by kernel_rfl, by kernel_rfl, by kernel_rfl⟩ (Γcons (rat_Q_Neg.ok k) ⟨Go.Proofs.Tryd.f62, by kernel_rfl, by kernel_rfl, by kernel_rfl⟩ (Γnil))
theorem ok (k : Nat) : ConSound Go.Proofs.Tryd.prog 30 (con k) := con_sound (Γ := Γ) (fn := Go.Proofs.Tryd.f30) (body := body) (cin := (con 0).cin) (F := F) (T := T) follows (by kernel_rfl) (by kernel_rfl) (by kernel_rfl) (by kernel_rfl) (by kernel_rfl) (by decide +kernel) (by kernel_rfl) (by kernel_rfl) (tzero trivial) k (fun m _ => okΓ m) (fun m _ => tstep trivial) (fun x y h => (main k x).symm.trans h)
end rat_Q_Sub
namespace strings_trimLeftByte
noncomputable abbrev con (k : Nat) : Con := ⟨⟨[(0, .l (.val .str)), (1, .l (.val (.int .u8)))], []⟩, ⟨[(0, .l (.val .str))], []⟩, fun x => strings_trimLeftByte.f k x.1 x.2⟩
noncomputable abbrev Γ (k : Nat) : FuncId → Option Con := look []
abbrev F : Fin Go.Proofs.Tryd.prog := ⟨⟨[(0, .l (.val .str))], []⟩, [], [.tmp 4]⟩
abbrev c1 : Cut := ⟨[(0, .l (.val .str)), (1, .l (.val (.int .u8)))], []⟩
noncomputable abbrev Tl (k : Nat) : List (Nat × Hint (prods F.cout.tys)) := [(1, ⟨c1, fun x => strings_trimLeftByte.l1 k x.1 x.2⟩)]
noncomputable abbrev T (k : Nat) : Nat → Option (Hint (prods F.cout.tys)) := look (Tl k)
noncomputable abbrev body : Code := Go.Proofs.Tryd.f104.body.getD .skip
theorem s1 (k : Nat) (x : prods c1.tys) : strings_trimLeftByte.l1 (k + 1) x.1 x.2 = segK (Γ k) F (T k) body 1 (c1.st x) := by kernel_rfl
theorem main (k : Nat) (x : prods (con 0).cin.tys) : strings_trimLeftByte.f k x.1 x.2 = goK (Γ k) F (T k) 2000 [.code body] ((con 0).cin.st x) := by kernel_rfl
theorem okΓ (k : Nat) : ΓOk Go.Proofs.Tryd.prog (Γ k) := Γnil
theorem ok (k : Nat) : ConSound Go.Proofs.Tryd.prog 104 (con k) := con_sound (Γ := Γ) (fn := Go.Proofs.Tryd.f104) (body := body) (cin := (con 0).cin) (F := F) (T := T) follows (by kernel_rfl) (by kernel_rfl) (by kernel_rfl) (by kernel_rfl) (by kernel_rfl) (by decide +kernel) (by kernel_rfl) (by kernel_rfl) (tzero ⟨fun x => by kernel_rfl, trivial⟩) k (fun m _ => okΓ m) (fun m _ => tstep ⟨fun x => Eq.trans (by kernel_rfl) (s1 m x), trivial⟩) (fun x y h => (main k x).symm.trans h)
end strings_trimLeftByte
namespace strings_TrimLeft
noncomputable abbrev con (k : Nat) : Con := ⟨⟨[(0, .l (.val .str)), (1, .l (.val .str))], []⟩, ⟨[(0, .l (.val .str))], []⟩, fun x => strings_TrimLeft.f k x.1 x.2⟩
noncomputable abbrev Γ (k : Nat) : FuncId → Option Con := look [(104, strings_trimLeftByte.con k)]
abbrev F : Fin Go.Proofs.Tryd.prog := ⟨⟨[(0, .l (.val .str))], []⟩, [], [.tmp 4]⟩
noncomputable abbrev Tl (k : Nat) : List (Nat × Hint (prods F.cout.tys)) := []
noncomputable abbrev T (k : Nat) : Nat → Option (Hint (prods F.cout.tys)) := look (Tl k)
noncomputable abbrev body : Code := Go.Proofs.Tryd.f87.body.getD .skip
theorem main (k : Nat) (x : prods (con 0).cin.tys) : strings_TrimLeft.f k x.1 x.2 = goK (Γ k) F (T k) 2000 [.code body] ((con 0).cin.st x) := by kernel_rfl
theorem okΓ (k : Nat) : ΓOk Go.Proofs.Tryd.prog (Γ k) := Γcons (strings_trimLeftByte.ok k) ⟨Go.Proofs.Tryd.f104, by kernel_rfl, by kernel_rfl, by kernel_rfl⟩ (Γnil)
theorem ok (k : Nat) : ConSound Go.Proofs.Tryd.prog 87 (con k) := con_sound (Γ := Γ) (fn := Go.Proofs.Tryd.f87) (body := body) (cin := (con 0).cin) (F := F) (T := T) follows (by kernel_rfl) (by kernel_rfl) (by kernel_rfl) (by kernel_rfl) (by kernel_rfl) (by decide +kernel) (by kernel_rfl) (by kernel_rfl) (tzero trivial) k (fun m _ => okΓ m) (fun m _ => tstep trivial) (fun x y h => (main k x).symm.trans h)
end strings_TrimLeft
namespace nat_N_Text
noncomputable abbrev con (k : Nat) : Con := ⟨⟨[(0, .l (.val (.list 138 (.int .u32))))], []⟩, ⟨[(0, .l (.val .str))], []⟩, fun x => nat_N_Text.f k x⟩
noncomputable abbrev Γ (k : Nat) : FuncId → Option Con := look [(87, strings_TrimLeft.con k)]
abbrev F : Fin Go.Proofs.Tryd.prog := ⟨⟨[(0, .l (.val .str))], []⟩, [], [.tmp 2]⟩
abbrev c0 : Cut := ⟨[(0, .l (.val (.list 138 (.int .u32))))], []⟩
abbrev c5 : Cut := ⟨[(0, .l (.val (.list 138 (.int .u32)))), (3, .l (.row 7000000)), (4, .l (.val (.int .i64)))], [(7000000, .row 5 (.int .u8))]⟩
abbrev c10 : Cut := ⟨[(0, .l (.val (.list 138 (.int .u32)))), (3, .l (.row 7000000)), (4, .l (.val (.int .i64))), (5, .l (.val (.int .u32))), (6, .l (.ap 7000001)), (7, .l (.val (.int .i64)))], [(7000000, .row 5 (.int .u8)), (7000001, .row 5 (.int .u8))]⟩
noncomputable abbrev Tl (k : Nat) : List (Nat × Hint (prods F.cout.tys)) := [(0, ⟨c0, fun x => nat_N_Text.l0 k x⟩), (5, ⟨c5, fun x => nat_N_Text.l5 k x.1 x.2.1 x.2.2⟩), (10, ⟨c10, fun x => nat_N_Text.l10 k x.1 x.2.1 x.2.2.1 x.2.2.2.1 x.2.2.2.2.1 x.2.2.2.2.2⟩)]
noncomputable abbrev T (k : Nat) : Nat → Option (Hint (prods F.cout.tys)) := look (Tl k)
noncomputable abbrev body : Code := Go.Proofs.Tryd.f64.body.getD .skip
theorem s0 (k : Nat) (x : prods c0.tys) : nat_N_Text.l0 (k + 1) x = segK (Γ k) F (T k) body 0 (c0.st x) := by kernel_rfl
theorem s5 (k : Nat) (x : prods c5.tys) : nat_N_Text.l5 (k + 1) x.1 x.2.1 x.2.2 = segK (Γ k) F (T k) body 5 (c5.st x) := by kernel_rfl
theorem s10 (k : Nat) (x : prods c10.tys) : nat_N_Text.l10 (k + 1) x.1 x.2.1 x.2.2.1 x.2.2.2.1 x.2.2.2.2.1 x.2.2.2.2.2 = segK (Γ k) F (T k) body 10 (c10.st x) := by kernel_rfl
theorem main (k : Nat) (x : prods (con 0).cin.tys) : nat_N_Text.f k x = goK (Γ k) F (T k) 2000 [.code body] ((con 0).cin.st x) := by kernel_rfl
theorem okΓ (k : Nat) : ΓOk Go.Proofs.Tryd.prog (Γ k) := Γcons (strings_TrimLeft.ok k) ⟨Go.Proofs.Tryd.f87, by kernel_rfl, by kernel_rfl, by kernel_rfl⟩ (Γnil)
theorem ok (k : Nat) : ConSound Go.Proofs.Tryd.prog 64 (con k) := con_sound (Γ := Γ) (fn := Go.Proofs.Tryd.f64) (body := body) (cin := (con 0).cin) (F := F) (T := T) follows (by kernel_rfl) (by kernel_rfl) (by kernel_rfl) (by kernel_rfl) (by kernel_rfl) (by decide +kernel) (by kernel_rfl) (by kernel_rfl) (tzero ⟨fun x => by kernel_rfl, fun x => by kernel_rfl, fun x => by kernel_rfl, trivial⟩) k (fun m _ => okΓ m) (fun m _ => tstep ⟨fun x => Eq.trans (by kernel_rfl) (s0 m x), fun x => Eq.trans (by kernel_rfl) (s5 m x), fun x => Eq.trans (by kernel_rfl) (s10 m x), trivial⟩) (fun x y h => (main k x).symm.trans h)
end nat_N_Text
namespace nat_N_Digits
noncomputable abbrev con (k : Nat) : Con := ⟨⟨[(0, .l (.val (.list 138 (.int .u32))))], []⟩, ⟨[(0, .l (.val (.int .i64)))], []⟩, fun x => nat_N_Digits.f k x⟩
noncomputable abbrev Γ (k : Nat) : FuncId → Option Con := look [(64, nat_N_Text.con k)]
abbrev F : Fin Go.Proofs.Tryd.prog := ⟨⟨[(0, .l (.val (.int .i64)))], []⟩, [], [.tmp 2]⟩
noncomputable abbrev Tl (k : Nat) : List (Nat × Hint (prods F.cout.tys)) := []
noncomputable abbrev T (k : Nat) : Nat → Option (Hint (prods F.cout.tys)) := look (Tl k)
noncomputable abbrev body : Code := Go.Proofs.Tryd.f63.body.getD .skip
theorem main (k : Nat) (x : prods (con 0).cin.tys) : nat_N_Digits.f k x = goK (Γ k) F (T k) 2000 [.code body] ((con 0).cin.st x) := by kernel_rfl
theorem okΓ (k : Nat) : ΓOk Go.Proofs.Tryd.prog (Γ k) := Γcons (nat_N_Text.ok k) ⟨Go.Proofs.Tryd.f64, by kernel_rfl, by kernel_rfl, by kernel_rfl⟩ (Γnil)
theorem ok (k : Nat) : ConSound Go.Proofs.Tryd.prog 63 (con k) := con_sound (Γ := Γ) (fn := Go.Proofs.Tryd.f63) (body := body) (cin := (con 0).cin) (F := F) (T := T) follows (by kernel_rfl) (by kernel_rfl) (by kernel_rfl) (by kernel_rfl) (by kernel_rfl) (by decide +kernel) (by kernel_rfl) (by kernel_rfl) (tzero trivial) k (fun m _ => okΓ m) (fun m _ => tstep trivial) (fun x y h => (main k x).symm.trans h)
end nat_N_Digits
namespace rat_Fits
noncomputable abbrev con (k : Nat) : Con := ⟨⟨[(0, .av Y2)], []⟩, ⟨[(0, .l (.val (.int .i64)))], []⟩, fun x => rat_Fits.f k x⟩
noncomputable abbrev Γ (k : Nat) : FuncId → Option Con := look [(63, nat_N_Digits.con k)]
abbrev F : Fin Go.Proofs.Tryd.prog := ⟨⟨[(0, .l (.val (.int .i64)))], []⟩, [], [.tmp 2]⟩
noncomputable abbrev Tl (k : Nat) : List (Nat × Hint (prods F.cout.tys)) := []
noncomputable abbrev T (k : Nat) : Nat → Option (Hint (prods F.cout.tys)) := look (Tl k)
noncomputable abbrev body : Code := Go.Proofs.Tryd.f31.body.getD .skip
theorem main (k : Nat) (x : prods (con 0).cin.tys) : rat_Fits.f k x = goK (Γ k) F (T k) 2000 [.code body] ((con 0).cin.st x) := by kernel_rfl
theorem okΓ (k : Nat) : ΓOk Go.Proofs.Tryd.prog (Γ k) := Γcons (nat_N_Digits.ok k) ⟨Go.Proofs.Tryd.f63, by kernel_rfl, by kernel_rfl, by kernel_rfl⟩ (Γnil)
theorem ok (k : Nat) : ConSound Go.Proofs.Tryd.prog 31 (con k) := con_sound (Γ := Γ) (fn := Go.Proofs.Tryd.f31) (body := body) (cin := (con 0).cin) (F := F) (T := T) follows (by kernel_rfl) (by kernel_rfl) (by kernel_rfl) (by kernel_rfl) (by kernel_rfl) (by decide +kernel) (by kernel_rfl) (by kernel_rfl) (tzero trivial) k (fun m _ => okΓ m) (fun m _ => tstep trivial) (fun x y h => (main k x).symm.trans h)
end rat_Fits
namespace rat_Q_Out
noncomputable abbrev con (k : Nat) : Con := ⟨⟨[(0, .av Y2)], []⟩, ⟨[(0, .l (.val .str))], []⟩, fun x => rat_Q_Out.f k x⟩
noncomputable abbrev Γ (k : Nat) : FuncId → Option Con := look [(64, nat_N_Text.con k), (65, rat_Q_whole.con k)]
abbrev F : Fin Go.Proofs.Tryd.prog := ⟨⟨[(0, .l (.val .str))], []⟩, [], [.tmp 2]⟩
noncomputable abbrev Tl (k : Nat) : List (Nat × Hint (prods F.cout.tys)) := []
noncomputable abbrev T (k : Nat) : Nat → Option (Hint (prods F.cout.tys)) := look (Tl k)
noncomputable abbrev body : Code := Go.Proofs.Tryd.f32.body.getD .skip
theorem main (k : Nat) (x : prods (con 0).cin.tys) : rat_Q_Out.f k x = goK (Γ k) F (T k) 2000 [.code body] ((con 0).cin.st x) := by kernel_rfl
theorem okΓ (k : Nat) : ΓOk Go.Proofs.Tryd.prog (Γ k) := Γcons (nat_N_Text.ok k) ⟨Go.Proofs.Tryd.f64, by kernel_rfl, by kernel_rfl, by kernel_rfl⟩ (Γcons (rat_Q_whole.ok k) ⟨Go.Proofs.Tryd.f65, by kernel_rfl, by kernel_rfl, by kernel_rfl⟩ (Γnil))
theorem ok (k : Nat) : ConSound Go.Proofs.Tryd.prog 32 (con k) := con_sound (Γ := Γ) (fn := Go.Proofs.Tryd.f32) (body := body) (cin := (con 0).cin) (F := F) (T := T) follows (by kernel_rfl) (by kernel_rfl) (by kernel_rfl) (by kernel_rfl) (by kernel_rfl) (by decide +kernel) (by kernel_rfl) (by kernel_rfl) (tzero trivial) k (fun m _ => okΓ m) (fun m _ => tstep trivial) (fun x y h => (main k x).symm.trans h)
end rat_Q_Out
namespace price_Parts
noncomputable abbrev con (k : Nat) : Con := ⟨⟨[(0, .l (.val (.list 28 .str)))], []⟩, ⟨[(0, .l (.val (.list 30 Y0))), (1, .l (.val (.int .i64)))], []⟩, fun x => price_Parts.f k x⟩
noncomputable abbrev Γ (k : Nat) : FuncId → Option Con := look [(28, rat_CheckAll.con k), (29, rat_In.con k), (30, rat_Q_Sub.con k), (31, rat_Fits.con k), (32, rat_Q_Out.con k)]
abbrev F : Fin Go.Proofs.Tryd.prog := ⟨⟨[(0, .l (.val (.list 30 Y0))), (1, .l (.val (.int .i64)))], []⟩, [], [.tmp 2, .tmp 3]⟩
abbrev c8 : Cut := ⟨[(0, .l (.val (.list 28 .str))), (5, .l (.row 7000500)), (17, .l (.val (.list 28 .str))), (18, .l (.val (.int .i64))), (19, .l (.val (.int .i64)))], [(7000500, .row 30 Y0)]⟩
noncomputable abbrev Tl (k : Nat) : List (Nat × Hint (prods F.cout.tys)) := [(8, ⟨c8, fun x => price_Parts.l8 k x.1 x.2.1 x.2.2.1 x.2.2.2.1 x.2.2.2.2⟩)]
noncomputable abbrev T (k : Nat) : Nat → Option (Hint (prods F.cout.tys)) := look (Tl k)
noncomputable abbrev body : Code := Go.Proofs.Tryd.f8.body.getD .skip
theorem s8 (k : Nat) (x : prods c8.tys) : price_Parts.l8 (k + 1) x.1 x.2.1 x.2.2.1 x.2.2.2.1 x.2.2.2.2 = segK (Γ k) F (T k) body 8 (c8.st x) := by kernel_rfl
theorem main (k : Nat) (x : prods (con 0).cin.tys) : price_Parts.f k x = goK (Γ k) F (T k) 2000 [.code body] ((con 0).cin.st x) := by kernel_rfl
theorem okΓ (k : Nat) : ΓOk Go.Proofs.Tryd.prog (Γ k) := Γcons (rat_CheckAll.ok k) ⟨Go.Proofs.Tryd.f28, by kernel_rfl, by kernel_rfl, by kernel_rfl⟩ (Γcons (rat_In.ok k) ⟨Go.Proofs.Tryd.f29, by kernel_rfl, by kernel_rfl, by kernel_rfl⟩ (Γcons (rat_Q_Sub.ok k) ⟨Go.Proofs.Tryd.f30, by kernel_rfl, by kernel_rfl, by kernel_rfl⟩ (Γcons (rat_Fits.ok k) ⟨Go.Proofs.Tryd.f31, by kernel_rfl, by kernel_rfl, by kernel_rfl⟩ (Γcons (rat_Q_Out.ok k) ⟨Go.Proofs.Tryd.f32, by kernel_rfl, by kernel_rfl, by kernel_rfl⟩ (Γnil)))))
theorem ok (k : Nat) : ConSound Go.Proofs.Tryd.prog 8 (con k) := con_sound (Γ := Γ) (fn := Go.Proofs.Tryd.f8) (body := body) (cin := (con 0).cin) (F := F) (T := T) follows (by kernel_rfl) (by kernel_rfl) (by kernel_rfl) (by kernel_rfl) (by kernel_rfl) (by decide +kernel) (by kernel_rfl) (by kernel_rfl) (tzero ⟨fun x => by kernel_rfl, trivial⟩) k (fun m _ => okΓ m) (fun m _ => tstep ⟨fun x => Eq.trans (by kernel_rfl) (s8 m x), trivial⟩) (fun x y h => (main k x).symm.trans h)
end price_Parts
namespace rat_told
noncomputable abbrev con (k : Nat) : Con := ⟨⟨[(0, .av Y2)], []⟩, ⟨[(0, .l (.val .str)), (1, .l (.val (.int .i64)))], []⟩, fun x => rat_told.f k x⟩
noncomputable abbrev Γ (k : Nat) : FuncId → Option Con := look [(31, rat_Fits.con k), (32, rat_Q_Out.con k)]
abbrev F : Fin Go.Proofs.Tryd.prog := ⟨⟨[(0, .l (.val .str)), (1, .l (.val (.int .i64)))], []⟩, [], [.tmp 2, .tmp 3]⟩
noncomputable abbrev Tl (k : Nat) : List (Nat × Hint (prods F.cout.tys)) := []
noncomputable abbrev T (k : Nat) : Nat → Option (Hint (prods F.cout.tys)) := look (Tl k)
noncomputable abbrev body : Code := Go.Proofs.Tryd.f41.body.getD .skip
theorem main (k : Nat) (x : prods (con 0).cin.tys) : rat_told.f k x = goK (Γ k) F (T k) 2000 [.code body] ((con 0).cin.st x) := by kernel_rfl
theorem okΓ (k : Nat) : ΓOk Go.Proofs.Tryd.prog (Γ k) := Γcons (rat_Fits.ok k) ⟨Go.Proofs.Tryd.f31, by kernel_rfl, by kernel_rfl, by kernel_rfl⟩ (Γcons (rat_Q_Out.ok k) ⟨Go.Proofs.Tryd.f32, by kernel_rfl, by kernel_rfl, by kernel_rfl⟩ (Γnil))
theorem ok (k : Nat) : ConSound Go.Proofs.Tryd.prog 41 (con k) := con_sound (Γ := Γ) (fn := Go.Proofs.Tryd.f41) (body := body) (cin := (con 0).cin) (F := F) (T := T) follows (by kernel_rfl) (by kernel_rfl) (by kernel_rfl) (by kernel_rfl) (by kernel_rfl) (by decide +kernel) (by kernel_rfl) (by kernel_rfl) (tzero trivial) k (fun m _ => okΓ m) (fun m _ => tstep trivial) (fun x y h => (main k x).symm.trans h)
end rat_told
namespace rat_two
noncomputable abbrev con (k : Nat) : Con := ⟨⟨[(0, .l (.val .str)), (1, .l (.val .str)), (2, .l (.fn0 34))], []⟩, ⟨[(0, .l (.val .str)), (1, .l (.val (.int .i64)))], []⟩, fun x => rat_two.f k x.1 x.2⟩
noncomputable abbrev Γ (k : Nat) : FuncId → Option Con := look [(28, rat_CheckAll.con k), (29, rat_In.con k), (34, rat_Q_Add.con k), (41, rat_told.con k)]
abbrev F : Fin Go.Proofs.Tryd.prog := ⟨⟨[(0, .l (.val .str)), (1, .l (.val (.int .i64)))], []⟩, [], [.tmp 6, .tmp 7]⟩
noncomputable abbrev Tl (k : Nat) : List (Nat × Hint (prods F.cout.tys)) := []
noncomputable abbrev T (k : Nat) : Nat → Option (Hint (prods F.cout.tys)) := look (Tl k)
noncomputable abbrev body : Code := Go.Proofs.Tryd.f33.body.getD .skip
theorem main (k : Nat) (x : prods (con 0).cin.tys) : rat_two.f k x.1 x.2 = goK (Γ k) F (T k) 2000 [.code body] ((con 0).cin.st x) := by kernel_rfl
theorem okΓ (k : Nat) : ΓOk Go.Proofs.Tryd.prog (Γ k) := Γcons (rat_CheckAll.ok k) ⟨Go.Proofs.Tryd.f28, by kernel_rfl, by kernel_rfl, by kernel_rfl⟩ (Γcons (rat_In.ok k) ⟨Go.Proofs.Tryd.f29, by kernel_rfl, by kernel_rfl, by kernel_rfl⟩ (Γcons (rat_Q_Add.ok k) ⟨Go.Proofs.Tryd.f34, by kernel_rfl, by kernel_rfl, by kernel_rfl⟩ (Γcons (rat_told.ok k) ⟨Go.Proofs.Tryd.f41, by kernel_rfl, by kernel_rfl, by kernel_rfl⟩ (Γnil))))
theorem ok (k : Nat) : ConSound Go.Proofs.Tryd.prog 33 (con k) := con_sound (Γ := Γ) (fn := Go.Proofs.Tryd.f33) (body := body) (cin := (con 0).cin) (F := F) (T := T) follows (by kernel_rfl) (by kernel_rfl) (by kernel_rfl) (by kernel_rfl) (by kernel_rfl) (by decide +kernel) (by kernel_rfl) (by kernel_rfl) (tzero trivial) k (fun m _ => okΓ m) (fun m _ => tstep trivial) (fun x y h => (main k x).symm.trans h)
end rat_two
namespace rat_Add
noncomputable abbrev con (k : Nat) : Con := ⟨⟨[(0, .l (.val .str)), (1, .l (.val .str))], []⟩, ⟨[(0, .l (.val .str)), (1, .l (.val (.int .i64)))], []⟩, fun x => rat_Add.f k x.1 x.2⟩
noncomputable abbrev Γ (k : Nat) : FuncId → Option Con := look [(33, rat_two.con k)]
abbrev F : Fin Go.Proofs.Tryd.prog := ⟨⟨[(0, .l (.val .str)), (1, .l (.val (.int .i64)))], []⟩, [], [.tmp 4, .tmp 5]⟩
noncomputable abbrev Tl (k : Nat) : List (Nat × Hint (prods F.cout.tys)) := []
noncomputable abbrev T (k : Nat) : Nat → Option (Hint (prods F.cout.tys)) := look (Tl k)
noncomputable abbrev body : Code := Go.Proofs.Tryd.f9.body.getD .skip
theorem main (k : Nat) (x : prods (con 0).cin.tys) : rat_Add.f k x.1 x.2 = goK (Γ k) F (T k) 2000 [.code body] ((con 0).cin.st x) := by kernel_rfl
theorem okΓ (k : Nat) : ΓOk Go.Proofs.Tryd.prog (Γ k) := Γcons (rat_two.ok k) ⟨Go.Proofs.Tryd.f33, by kernel_rfl, by kernel_rfl, by kernel_rfl⟩ (Γnil)
theorem ok (k : Nat) : ConSound Go.Proofs.Tryd.prog 9 (con k) := con_sound (Γ := Γ) (fn := Go.Proofs.Tryd.f9) (body := body) (cin := (con 0).cin) (F := F) (T := T) follows (by kernel_rfl) (by kernel_rfl) (by kernel_rfl) (by kernel_rfl) (by kernel_rfl) (by decide +kernel) (by kernel_rfl) (by kernel_rfl) (tzero trivial) k (fun m _ => okΓ m) (fun m _ => tstep trivial) (fun x y h => (main k x).symm.trans h)
end rat_Add
namespace gridhallkeep3_PriceParts
noncomputable abbrev con (k : Nat) : Con := ⟨⟨[(0, .l (.val (.list 28 .str)))], []⟩, ⟨[(0, .l (.val .bool))], []⟩, fun x => gridhallkeep3_PriceParts.f k x⟩
noncomputable abbrev Γ (k : Nat) : FuncId → Option Con := look [(8, price_Parts.con k), (9, rat_Add.con k)]
abbrev F : Fin Go.Proofs.Tryd.prog := ⟨⟨[(0, .l (.val .bool))], []⟩, [], [.tmp 2]⟩
abbrev c8 : Cut := ⟨[(0, .l (.val (.list 28 .str))), (5, .l (.val (.list 30 Y0))), (40, .l (.val (.list 30 Y0))), (41, .l (.val (.int .i64))), (42, .l (.val (.int .i64)))], []⟩
noncomputable abbrev Tl (k : Nat) : List (Nat × Hint (prods F.cout.tys)) := [(8, ⟨c8, fun x => gridhallkeep3_PriceParts.l8 k x.1 x.2.1 x.2.2.1 x.2.2.2.1 x.2.2.2.2⟩)]
noncomputable abbrev T (k : Nat) : Nat → Option (Hint (prods F.cout.tys)) := look (Tl k)
noncomputable abbrev body : Code := Go.Proofs.Tryd.f3.body.getD .skip
theorem s8 (k : Nat) (x : prods c8.tys) : gridhallkeep3_PriceParts.l8 (k + 1) x.1 x.2.1 x.2.2.1 x.2.2.2.1 x.2.2.2.2 = segK (Γ k) F (T k) body 8 (c8.st x) := by kernel_rfl
theorem main (k : Nat) (x : prods (con 0).cin.tys) : gridhallkeep3_PriceParts.f k x = goK (Γ k) F (T k) 2000 [.code body] ((con 0).cin.st x) := by kernel_rfl
theorem okΓ (k : Nat) : ΓOk Go.Proofs.Tryd.prog (Γ k) := Γcons (price_Parts.ok k) ⟨Go.Proofs.Tryd.f8, by kernel_rfl, by kernel_rfl, by kernel_rfl⟩ (Γcons (rat_Add.ok k) ⟨Go.Proofs.Tryd.f9, by kernel_rfl, by kernel_rfl, by kernel_rfl⟩ (Γnil))
theorem ok (k : Nat) : ConSound Go.Proofs.Tryd.prog 3 (con k) := con_sound (Γ := Γ) (fn := Go.Proofs.Tryd.f3) (body := body) (cin := (con 0).cin) (F := F) (T := T) follows (by kernel_rfl) (by kernel_rfl) (by kernel_rfl) (by kernel_rfl) (by kernel_rfl) (by decide +kernel) (by kernel_rfl) (by kernel_rfl) (tzero ⟨fun x => by kernel_rfl, trivial⟩) k (fun m _ => okΓ m) (fun m _ => tstep ⟨fun x => Eq.trans (by kernel_rfl) (s8 m x), trivial⟩) (fun x y h => (main k x).symm.trans h)
end gridhallkeep3_PriceParts
namespace rat_Int
noncomputable abbrev con (k : Nat) : Con := ⟨⟨[(0, .l (.val (.int .i64)))], []⟩, ⟨[(0, .av Y2)], []⟩, fun x => rat_Int.f k x⟩
noncomputable abbrev Γ (k : Nat) : FuncId → Option Con := look [(61, nat_Of.con k)]
abbrev F : Fin Go.Proofs.Tryd.prog := ⟨⟨[(0, .av Y2)], []⟩, [], [.cell 2 85]⟩
noncomputable abbrev Tl (k : Nat) : List (Nat × Hint (prods F.cout.tys)) := []
noncomputable abbrev T (k : Nat) : Nat → Option (Hint (prods F.cout.tys)) := look (Tl k)
noncomputable abbrev body : Code := Go.Proofs.Tryd.f35.body.getD .skip
theorem main (k : Nat) (x : prods (con 0).cin.tys) : rat_Int.f k x = goK (Γ k) F (T k) 2000 [.code body] ((con 0).cin.st x) := by kernel_rfl
theorem okΓ (k : Nat) : ΓOk Go.Proofs.Tryd.prog (Γ k) := Γcons (nat_Of.ok k) ⟨Go.Proofs.Tryd.f61, by kernel_rfl, by kernel_rfl, by kernel_rfl⟩ (Γnil)
theorem ok (k : Nat) : ConSound Go.Proofs.Tryd.prog 35 (con k) := con_sound (Γ := Γ) (fn := Go.Proofs.Tryd.f35) (body := body) (cin := (con 0).cin) (F := F) (T := T) follows (by kernel_rfl) (by kernel_rfl) (by kernel_rfl) (by kernel_rfl) (by kernel_rfl) (by decide +kernel) (by kernel_rfl) (by kernel_rfl) (tzero trivial) k (fun m _ => okΓ m) (fun m _ => tstep trivial) (fun x y h => (main k x).symm.trans h)
end rat_Int
namespace rat_Q_down
noncomputable abbrev con (k : Nat) : Con := ⟨⟨[(0, .av Y2)], []⟩, ⟨[(0, .av Y2)], []⟩, fun x => rat_Q_down.f k x⟩
noncomputable abbrev Γ (k : Nat) : FuncId → Option Con := look [(42, rat_low.con k), (61, nat_Of.con k), (65, rat_Q_whole.con k), (67, nat_N_Add.con k), (73, nat_N_Div.con k)]
abbrev F : Fin Go.Proofs.Tryd.prog := ⟨⟨[(0, .av Y2)], []⟩, [], [.cell 2 85]⟩
noncomputable abbrev Tl (k : Nat) : List (Nat × Hint (prods F.cout.tys)) := []
noncomputable abbrev T (k : Nat) : Nat → Option (Hint (prods F.cout.tys)) := look (Tl k)
noncomputable abbrev body : Code := Go.Proofs.Tryd.f70.body.getD .skip
theorem main (k : Nat) (x : prods (con 0).cin.tys) : rat_Q_down.f k x = goK (Γ k) F (T k) 2000 [.code body] ((con 0).cin.st x) := by kernel_rfl
theorem okΓ (k : Nat) : ΓOk Go.Proofs.Tryd.prog (Γ k) := Γcons (rat_low.ok k) ⟨Go.Proofs.Tryd.f42, by kernel_rfl, by kernel_rfl, by kernel_rfl⟩ (Γcons (nat_Of.ok k) ⟨Go.Proofs.Tryd.f61, by kernel_rfl, by kernel_rfl, by kernel_rfl⟩ (Γcons (rat_Q_whole.ok k) ⟨Go.Proofs.Tryd.f65, by kernel_rfl, by kernel_rfl, by kernel_rfl⟩ (Γcons (nat_N_Add.ok k) ⟨Go.Proofs.Tryd.f67, by kernel_rfl, by kernel_rfl, by kernel_rfl⟩ (Γcons (nat_N_Div.ok k) ⟨Go.Proofs.Tryd.f73, by kernel_rfl, by kernel_rfl, by kernel_rfl⟩ (Γnil)))))
theorem ok (k : Nat) : ConSound Go.Proofs.Tryd.prog 70 (con k) := con_sound (Γ := Γ) (fn := Go.Proofs.Tryd.f70) (body := body) (cin := (con 0).cin) (F := F) (T := T) follows (by kernel_rfl) (by kernel_rfl) (by kernel_rfl) (by kernel_rfl) (by kernel_rfl) (by decide +kernel) (by kernel_rfl) (by kernel_rfl) (tzero trivial) k (fun m _ => okΓ m) (fun m _ => tstep trivial) (fun x y h => (main k x).symm.trans h)
end rat_Q_down
namespace rat_Floor
noncomputable abbrev con (k : Nat) : Con := ⟨⟨[(0, .l (.val .str))], []⟩, ⟨[(0, .l (.val .str)), (1, .l (.val (.int .i64)))], []⟩, fun x => rat_Floor.f k x⟩
noncomputable abbrev Γ (k : Nat) : FuncId → Option Con := look [(29, rat_In.con k), (41, rat_told.con k), (57, rat_Check.con k), (70, rat_Q_down.con k)]
abbrev F : Fin Go.Proofs.Tryd.prog := ⟨⟨[(0, .l (.val .str)), (1, .l (.val (.int .i64)))], []⟩, [], [.tmp 2, .tmp 3]⟩
noncomputable abbrev Tl (k : Nat) : List (Nat × Hint (prods F.cout.tys)) := []
noncomputable abbrev T (k : Nat) : Nat → Option (Hint (prods F.cout.tys)) := look (Tl k)
noncomputable abbrev body : Code := Go.Proofs.Tryd.f36.body.getD .skip
theorem main (k : Nat) (x : prods (con 0).cin.tys) : rat_Floor.f k x = goK (Γ k) F (T k) 2000 [.code body] ((con 0).cin.st x) := by kernel_rfl
theorem okΓ (k : Nat) : ΓOk Go.Proofs.Tryd.prog (Γ k) := Γcons (rat_In.ok k) ⟨Go.Proofs.Tryd.f29, by kernel_rfl, by kernel_rfl, by kernel_rfl⟩ (Γcons (rat_told.ok k) ⟨Go.Proofs.Tryd.f41, by kernel_rfl, by kernel_rfl, by kernel_rfl⟩ (Γcons (rat_Check.ok k) ⟨Go.Proofs.Tryd.f57, by kernel_rfl, by kernel_rfl, by kernel_rfl⟩ (Γcons (rat_Q_down.ok k) ⟨Go.Proofs.Tryd.f70, by kernel_rfl, by kernel_rfl, by kernel_rfl⟩ (Γnil))))
theorem ok (k : Nat) : ConSound Go.Proofs.Tryd.prog 36 (con k) := con_sound (Γ := Γ) (fn := Go.Proofs.Tryd.f36) (body := body) (cin := (con 0).cin) (F := F) (T := T) follows (by kernel_rfl) (by kernel_rfl) (by kernel_rfl) (by kernel_rfl) (by kernel_rfl) (by decide +kernel) (by kernel_rfl) (by kernel_rfl) (tzero trivial) k (fun m _ => okΓ m) (fun m _ => tstep trivial) (fun x y h => (main k x).symm.trans h)
end rat_Floor
namespace rat_Integer
noncomputable abbrev con (k : Nat) : Con := ⟨⟨[(0, .l (.val .str))], []⟩, ⟨[(0, .l (.val (.int .i64))), (1, .l (.val (.int .i64)))], []⟩, fun x => rat_Integer.f k x⟩
noncomputable abbrev Γ (k : Nat) : FuncId → Option Con := look [(29, rat_In.con k), (57, rat_Check.con k), (61, nat_Of.con k), (65, rat_Q_whole.con k), (67, nat_N_Add.con k), (68, nat_N_Cmp.con k)]
abbrev F : Fin Go.Proofs.Tryd.prog := ⟨⟨[(0, .l (.val (.int .i64))), (1, .l (.val (.int .i64)))], []⟩, [], [.tmp 2, .tmp 3]⟩
abbrev c14 : Cut := ⟨[(5, .l (.ptr 7000000 0)), (7, .l (.val (.int .i64))), (8, .l (.val (.int .i64)))], [(7000000, .box 85 [.val .bool, .val (.list 138 (.int .u32)), .val (.list 138 (.int .u32))])]⟩
noncomputable abbrev Tl (k : Nat) : List (Nat × Hint (prods F.cout.tys)) := [(14, ⟨c14, fun x => rat_Integer.l14 k x.1 x.2.1 x.2.2.1 x.2.2.2.1 x.2.2.2.2⟩)]
noncomputable abbrev T (k : Nat) : Nat → Option (Hint (prods F.cout.tys)) := look (Tl k)
noncomputable abbrev body : Code := Go.Proofs.Tryd.f37.body.getD .skip
theorem s14 (k : Nat) (x : prods c14.tys) : rat_Integer.l14 (k + 1) x.1 x.2.1 x.2.2.1 x.2.2.2.1 x.2.2.2.2 = segK (Γ k) F (T k) body 14 (c14.st x) := by kernel_rfl
theorem main (k : Nat) (x : prods (con 0).cin.tys) : rat_Integer.f k x = goK (Γ k) F (T k) 2000 [.code body] ((con 0).cin.st x) := by kernel_rfl
theorem okΓ (k : Nat) : ΓOk Go.Proofs.Tryd.prog (Γ k) := Γcons (rat_In.ok k) ⟨Go.Proofs.Tryd.f29, by kernel_rfl, by kernel_rfl, by kernel_rfl⟩ (Γcons (rat_Check.ok k) ⟨Go.Proofs.Tryd.f57, by kernel_rfl, by kernel_rfl, by kernel_rfl⟩ (Γcons (nat_Of.ok k) ⟨Go.Proofs.Tryd.f61, by kernel_rfl, by kernel_rfl, by kernel_rfl⟩ (Γcons (rat_Q_whole.ok k) ⟨Go.Proofs.Tryd.f65, by kernel_rfl, by kernel_rfl, by kernel_rfl⟩ (Γcons (nat_N_Add.ok k) ⟨Go.Proofs.Tryd.f67, by kernel_rfl, by kernel_rfl, by kernel_rfl⟩ (Γcons (nat_N_Cmp.ok k) ⟨Go.Proofs.Tryd.f68, by kernel_rfl, by kernel_rfl, by kernel_rfl⟩ (Γnil))))))
theorem ok (k : Nat) : ConSound Go.Proofs.Tryd.prog 37 (con k) := con_sound (Γ := Γ) (fn := Go.Proofs.Tryd.f37) (body := body) (cin := (con 0).cin) (F := F) (T := T) follows (by kernel_rfl) (by kernel_rfl) (by kernel_rfl) (by kernel_rfl) (by kernel_rfl) (by decide +kernel) (by kernel_rfl) (by kernel_rfl) (tzero ⟨fun x => by kernel_rfl, trivial⟩) k (fun m _ => okΓ m) (fun m _ => tstep ⟨fun x => Eq.trans (by kernel_rfl) (s14 m x), trivial⟩) (fun x y h => (main k x).symm.trans h)
end rat_Integer
namespace rat_Q_Sign
noncomputable abbrev con (k : Nat) : Con := ⟨⟨[(0, .av Y2)], []⟩, ⟨[(0, .l (.val (.int .i64)))], []⟩, fun x => rat_Q_Sign.f k x⟩
noncomputable abbrev Γ (k : Nat) : FuncId → Option Con := look []
abbrev F : Fin Go.Proofs.Tryd.prog := ⟨⟨[(0, .l (.val (.int .i64)))], []⟩, [], [.tmp 2]⟩
noncomputable abbrev Tl (k : Nat) : List (Nat × Hint (prods F.cout.tys)) := []
noncomputable abbrev T (k : Nat) : Nat → Option (Hint (prods F.cout.tys)) := look (Tl k)
noncomputable abbrev body : Code := Go.Proofs.Tryd.f46.body.getD .skip
theorem main (k : Nat) (x : prods (con 0).cin.tys) : rat_Q_Sign.f k x = goK (Γ k) F (T k) 2000 [.code body] ((con 0).cin.st x) := by kernel_rfl
theorem okΓ (k : Nat) : ΓOk Go.Proofs.Tryd.prog (Γ k) := Γnil
theorem ok (k : Nat) : ConSound Go.Proofs.Tryd.prog 46 (con k) := con_sound (Γ := Γ) (fn := Go.Proofs.Tryd.f46) (body := body) (cin := (con 0).cin) (F := F) (T := T) follows (by kernel_rfl) (by kernel_rfl) (by kernel_rfl) (by kernel_rfl) (by kernel_rfl) (by decide +kernel) (by kernel_rfl) (by kernel_rfl) (tzero trivial) k (fun m _ => okΓ m) (fun m _ => tstep trivial) (fun x y h => (main k x).symm.trans h)
end rat_Q_Sign
namespace rat_Q_Cmp
noncomputable abbrev con (k : Nat) : Con := ⟨⟨[(0, .av Y2), (1, .av Y2)], []⟩, ⟨[(0, .l (.val (.int .i64)))], []⟩, fun x => rat_Q_Cmp.f k x.1 x.2⟩
noncomputable abbrev Γ (k : Nat) : FuncId → Option Con := look [(30, rat_Q_Sub.con k), (46, rat_Q_Sign.con k)]
abbrev F : Fin Go.Proofs.Tryd.prog := ⟨⟨[(0, .l (.val (.int .i64)))], []⟩, [], [.tmp 4]⟩
noncomputable abbrev Tl (k : Nat) : List (Nat × Hint (prods F.cout.tys)) := []
noncomputable abbrev T (k : Nat) : Nat → Option (Hint (prods F.cout.tys)) := look (Tl k)
noncomputable abbrev body : Code := Go.Proofs.Tryd.f40.body.getD .skip
theorem main (k : Nat) (x : prods (con 0).cin.tys) : rat_Q_Cmp.f k x.1 x.2 = goK (Γ k) F (T k) 2000 [.code body] ((con 0).cin.st x) := by kernel_rfl
theorem okΓ (k : Nat) : ΓOk Go.Proofs.Tryd.prog (Γ k) := Γcons (rat_Q_Sub.ok k) ⟨Go.Proofs.Tryd.f30, by kernel_rfl, by kernel_rfl, by kernel_rfl⟩ (Γcons (rat_Q_Sign.ok k) ⟨Go.Proofs.Tryd.f46, by kernel_rfl, by kernel_rfl, by kernel_rfl⟩ (Γnil))
theorem ok (k : Nat) : ConSound Go.Proofs.Tryd.prog 40 (con k) := con_sound (Γ := Γ) (fn := Go.Proofs.Tryd.f40) (body := body) (cin := (con 0).cin) (F := F) (T := T) follows (by kernel_rfl) (by kernel_rfl) (by kernel_rfl) (by kernel_rfl) (by kernel_rfl) (by decide +kernel) (by kernel_rfl) (by kernel_rfl) (tzero trivial) k (fun m _ => okΓ m) (fun m _ => tstep trivial) (fun x y h => (main k x).symm.trans h)
end rat_Q_Cmp
namespace settle_Round_1
noncomputable abbrev con (k : Nat) : Con := ⟨⟨[(0, .l (.val (.int .i64))), (1, .l (.val (.int .i64))), (2, .l (.ptr 9000000 0))], [(9000000, .box 93 [.row 9000001]), (9000001, .row 85 Y2)]⟩, ⟨[(0, .l (.val (.int .i64)))], [(9000000, .box 93 [.row 9000001]), (9000001, .row 85 Y2)]⟩, fun x => settle_Round_1.f k x.1 x.2.1 x.2.2⟩
noncomputable abbrev Γ (k : Nat) : FuncId → Option Con := look [(40, rat_Q_Cmp.con k)]
abbrev F : Fin Go.Proofs.Tryd.prog := ⟨⟨[(0, .l (.val (.int .i64)))], [(9000000, .box 93 [.row 9000001]), (9000001, .row 85 Y2)]⟩, [9000000, 9000001], [.tmp 5]⟩
noncomputable abbrev Tl (k : Nat) : List (Nat × Hint (prods F.cout.tys)) := []
noncomputable abbrev T (k : Nat) : Nat → Option (Hint (prods F.cout.tys)) := look (Tl k)
noncomputable abbrev body : Code := Go.Proofs.Tryd.f39.body.getD .skip
theorem main (k : Nat) (x : prods (con 0).cin.tys) : settle_Round_1.f k x.1 x.2.1 x.2.2 = goK (Γ k) F (T k) 2000 [.code body] ((con 0).cin.st x) := by kernel_rfl
theorem okΓ (k : Nat) : ΓOk Go.Proofs.Tryd.prog (Γ k) := Γcons (rat_Q_Cmp.ok k) ⟨Go.Proofs.Tryd.f40, by kernel_rfl, by kernel_rfl, by kernel_rfl⟩ (Γnil)
theorem ok (k : Nat) : ConSound Go.Proofs.Tryd.prog 39 (con k) := con_sound (Γ := Γ) (fn := Go.Proofs.Tryd.f39) (body := body) (cin := (con 0).cin) (F := F) (T := T) follows (by kernel_rfl) (by kernel_rfl) (by kernel_rfl) (by kernel_rfl) (by kernel_rfl) (by decide +kernel) (by kernel_rfl) (by kernel_rfl) (tzero trivial) k (fun m _ => okΓ m) (fun m _ => tstep trivial) (fun x y h => (main k x).symm.trans h)
end settle_Round_1
namespace slices_insertionSortCmpFunc_int
noncomputable abbrev con (k : Nat) : Con := ⟨⟨[(0, .l (.row 9000000)), (1, .l (.val (.int .i64))), (2, .l (.val (.int .i64))), (3, .l (.fnc 39 9000001))], [(9000000, .row 3 (.int .i64)), (9000001, .caps [.l (.ptr 9000002 0)]), (9000002, .box 93 [.row 9000003]), (9000003, .row 85 Y2)]⟩, ⟨[], [(9000000, .row 3 (.int .i64)), (9000002, .box 93 [.row 9000003]), (9000003, .row 85 Y2)]⟩, fun x => slices_insertionSortCmpFunc_int.f k x.1 x.2.1 x.2.2.1 x.2.2.2⟩
noncomputable abbrev Γ (k : Nat) : FuncId → Option Con := look [(39, settle_Round_1.con k)]
abbrev F : Fin Go.Proofs.Tryd.prog := ⟨⟨[], [(9000000, .row 3 (.int .i64)), (9000002, .box 93 [.row 9000003]), (9000003, .row 85 Y2)]⟩, [9000000, 9000002, 9000003], []⟩
abbrev c1 : Cut := ⟨[(0, .l (.row 9000000)), (1, .l (.val (.int .i64))), (2, .l (.val (.int .i64))), (3, .l (.fnc 39 7000000)), (8, .l (.val (.int .i64)))], [(9000000, .row 3 (.int .i64)), (9000002, .box 93 [.row 9000003]), (9000003, .row 85 Y2), (7000000, .caps [.l (.ptr 9000002 0)])]⟩
abbrev c4 : Cut := ⟨[(0, .l (.row 9000000)), (1, .l (.val (.int .i64))), (2, .l (.val (.int .i64))), (3, .l (.fnc 39 7000000)), (8, .l (.val (.int .i64))), (9, .l (.val (.int .i64)))], [(9000000, .row 3 (.int .i64)), (9000002, .box 93 [.row 9000003]), (9000003, .row 85 Y2), (7000000, .caps [.l (.ptr 9000002 0)])]⟩
noncomputable abbrev Tl (k : Nat) : List (Nat × Hint (prods F.cout.tys)) := [(1, ⟨c1, fun x => slices_insertionSortCmpFunc_int.l1 k x.1 x.2.1 x.2.2.1 x.2.2.2.1 x.2.2.2.2⟩), (4, ⟨c4, fun x => slices_insertionSortCmpFunc_int.l4 k x.1 x.2.1 x.2.2.1 x.2.2.2.1 x.2.2.2.2.1 x.2.2.2.2.2⟩)]
noncomputable abbrev T (k : Nat) : Nat → Option (Hint (prods F.cout.tys)) := look (Tl k)
noncomputable abbrev body : Code := Go.Proofs.Tryd.f88.body.getD .skip
theorem s1 (k : Nat) (x : prods c1.tys) : slices_insertionSortCmpFunc_int.l1 (k + 1) x.1 x.2.1 x.2.2.1 x.2.2.2.1 x.2.2.2.2 = segK (Γ k) F (T k) body 1 (c1.st x) := by kernel_rfl
theorem s4 (k : Nat) (x : prods c4.tys) : slices_insertionSortCmpFunc_int.l4 (k + 1) x.1 x.2.1 x.2.2.1 x.2.2.2.1 x.2.2.2.2.1 x.2.2.2.2.2 = segK (Γ k) F (T k) body 4 (c4.st x) := by kernel_rfl
theorem main (k : Nat) (x : prods (con 0).cin.tys) : slices_insertionSortCmpFunc_int.f k x.1 x.2.1 x.2.2.1 x.2.2.2 = goK (Γ k) F (T k) 2000 [.code body] ((con 0).cin.st x) := by kernel_rfl
theorem okΓ (k : Nat) : ΓOk Go.Proofs.Tryd.prog (Γ k) := Γcons (settle_Round_1.ok k) ⟨Go.Proofs.Tryd.f39, by kernel_rfl, by kernel_rfl, by kernel_rfl⟩ (Γnil)
theorem ok (k : Nat) : ConSound Go.Proofs.Tryd.prog 88 (con k) := con_sound (Γ := Γ) (fn := Go.Proofs.Tryd.f88) (body := body) (cin := (con 0).cin) (F := F) (T := T) follows (by kernel_rfl) (by kernel_rfl) (by kernel_rfl) (by kernel_rfl) (by kernel_rfl) (by decide +kernel) (by kernel_rfl) (by kernel_rfl) (tzero ⟨fun x => by kernel_rfl, fun x => by kernel_rfl, trivial⟩) k (fun m _ => okΓ m) (fun m _ => tstep ⟨fun x => Eq.trans (by kernel_rfl) (s1 m x), fun x => Eq.trans (by kernel_rfl) (s4 m x), trivial⟩) (fun x y h => (main k x).symm.trans h)
end slices_insertionSortCmpFunc_int
namespace slices_swapRangeCmpFunc_int
noncomputable abbrev con (k : Nat) : Con := ⟨⟨[(0, .l (.row 9000000)), (1, .l (.val (.int .i64))), (2, .l (.val (.int .i64))), (3, .l (.val (.int .i64))), (4, .l (.fnc 39 9000001))], [(9000000, .row 3 (.int .i64)), (9000001, .caps [.l (.ptr 9000002 0)]), (9000002, .box 93 [.row 9000003]), (9000003, .row 85 Y2)]⟩, ⟨[], [(9000000, .row 3 (.int .i64)), (9000002, .box 93 [.row 9000003]), (9000003, .row 85 Y2)]⟩, fun x => slices_swapRangeCmpFunc_int.f k x.1 x.2.1 x.2.2.1 x.2.2.2.1 x.2.2.2.2⟩
noncomputable abbrev Γ (k : Nat) : FuncId → Option Con := look []
abbrev F : Fin Go.Proofs.Tryd.prog := ⟨⟨[], [(9000000, .row 3 (.int .i64)), (9000002, .box 93 [.row 9000003]), (9000003, .row 85 Y2)]⟩, [9000000, 9000002, 9000003], []⟩
abbrev c1 : Cut := ⟨[(0, .l (.row 9000000)), (1, .l (.val (.int .i64))), (2, .l (.val (.int .i64))), (3, .l (.val (.int .i64))), (10, .l (.val (.int .i64)))], [(9000000, .row 3 (.int .i64)), (9000002, .box 93 [.row 9000003]), (9000003, .row 85 Y2)]⟩
noncomputable abbrev Tl (k : Nat) : List (Nat × Hint (prods F.cout.tys)) := [(1, ⟨c1, fun x => slices_swapRangeCmpFunc_int.l1 k x.1 x.2.1 x.2.2.1 x.2.2.2.1 x.2.2.2.2.1 x.2.2.2.2.2⟩)]
noncomputable abbrev T (k : Nat) : Nat → Option (Hint (prods F.cout.tys)) := look (Tl k)
noncomputable abbrev body : Code := Go.Proofs.Tryd.f119.body.getD .skip
theorem s1 (k : Nat) (x : prods c1.tys) : slices_swapRangeCmpFunc_int.l1 (k + 1) x.1 x.2.1 x.2.2.1 x.2.2.2.1 x.2.2.2.2.1 x.2.2.2.2.2 = segK (Γ k) F (T k) body 1 (c1.st x) := by kernel_rfl
theorem main (k : Nat) (x : prods (con 0).cin.tys) : slices_swapRangeCmpFunc_int.f k x.1 x.2.1 x.2.2.1 x.2.2.2.1 x.2.2.2.2 = goK (Γ k) F (T k) 2000 [.code body] ((con 0).cin.st x) := by kernel_rfl
theorem okΓ (k : Nat) : ΓOk Go.Proofs.Tryd.prog (Γ k) := Γnil
theorem ok (k : Nat) : ConSound Go.Proofs.Tryd.prog 119 (con k) := con_sound (Γ := Γ) (fn := Go.Proofs.Tryd.f119) (body := body) (cin := (con 0).cin) (F := F) (T := T) follows (by kernel_rfl) (by kernel_rfl) (by kernel_rfl) (by kernel_rfl) (by kernel_rfl) (by decide +kernel) (by kernel_rfl) (by kernel_rfl) (tzero ⟨fun x => by kernel_rfl, trivial⟩) k (fun m _ => okΓ m) (fun m _ => tstep ⟨fun x => Eq.trans (by kernel_rfl) (s1 m x), trivial⟩) (fun x y h => (main k x).symm.trans h)
end slices_swapRangeCmpFunc_int
namespace slices_rotateCmpFunc_int
noncomputable abbrev con (k : Nat) : Con := ⟨⟨[(0, .l (.row 9000000)), (1, .l (.val (.int .i64))), (2, .l (.val (.int .i64))), (3, .l (.val (.int .i64))), (4, .l (.fnc 39 9000001))], [(9000000, .row 3 (.int .i64)), (9000001, .caps [.l (.ptr 9000002 0)]), (9000002, .box 93 [.row 9000003]), (9000003, .row 85 Y2)]⟩, ⟨[], [(9000000, .row 3 (.int .i64)), (9000002, .box 93 [.row 9000003]), (9000003, .row 85 Y2)]⟩, fun x => slices_rotateCmpFunc_int.f k x.1 x.2.1 x.2.2.1 x.2.2.2.1 x.2.2.2.2⟩
noncomputable abbrev Γ (k : Nat) : FuncId → Option Con := look [(119, slices_swapRangeCmpFunc_int.con k)]
abbrev F : Fin Go.Proofs.Tryd.prog := ⟨⟨[], [(9000000, .row 3 (.int .i64)), (9000002, .box 93 [.row 9000003]), (9000003, .row 85 Y2)]⟩, [9000000, 9000002, 9000003], []⟩
abbrev c2 : Cut := ⟨[(0, .l (.row 9000000)), (2, .l (.val (.int .i64))), (4, .l (.fnc 39 7000000)), (10, .l (.val (.int .i64))), (11, .l (.val (.int .i64)))], [(9000000, .row 3 (.int .i64)), (9000002, .box 93 [.row 9000003]), (9000003, .row 85 Y2), (7000000, .caps [.l (.ptr 9000002 0)])]⟩
noncomputable abbrev Tl (k : Nat) : List (Nat × Hint (prods F.cout.tys)) := [(2, ⟨c2, fun x => slices_rotateCmpFunc_int.l2 k x.1 x.2.1 x.2.2.1 x.2.2.2.1 x.2.2.2.2⟩)]
noncomputable abbrev T (k : Nat) : Nat → Option (Hint (prods F.cout.tys)) := look (Tl k)
noncomputable abbrev body : Code := Go.Proofs.Tryd.f108.body.getD .skip
theorem s2 (k : Nat) (x : prods c2.tys) : slices_rotateCmpFunc_int.l2 (k + 1) x.1 x.2.1 x.2.2.1 x.2.2.2.1 x.2.2.2.2 = segK (Γ k) F (T k) body 2 (c2.st x) := by kernel_rfl
theorem main (k : Nat) (x : prods (con 0).cin.tys) : slices_rotateCmpFunc_int.f k x.1 x.2.1 x.2.2.1 x.2.2.2.1 x.2.2.2.2 = goK (Γ k) F (T k) 2000 [.code body] ((con 0).cin.st x) := by kernel_rfl
theorem okΓ (k : Nat) : ΓOk Go.Proofs.Tryd.prog (Γ k) := Γcons (slices_swapRangeCmpFunc_int.ok k) ⟨Go.Proofs.Tryd.f119, by kernel_rfl, by kernel_rfl, by kernel_rfl⟩ (Γnil)
theorem ok (k : Nat) : ConSound Go.Proofs.Tryd.prog 108 (con k) := con_sound (Γ := Γ) (fn := Go.Proofs.Tryd.f108) (body := body) (cin := (con 0).cin) (F := F) (T := T) follows (by kernel_rfl) (by kernel_rfl) (by kernel_rfl) (by kernel_rfl) (by kernel_rfl) (by decide +kernel) (by kernel_rfl) (by kernel_rfl) (tzero ⟨fun x => by kernel_rfl, trivial⟩) k (fun m _ => okΓ m) (fun m _ => tstep ⟨fun x => Eq.trans (by kernel_rfl) (s2 m x), trivial⟩) (fun x y h => (main k x).symm.trans h)
end slices_rotateCmpFunc_int
namespace slices_symMergeCmpFunc_int
noncomputable abbrev con (k : Nat) : Con := ⟨⟨[(0, .l (.row 9000000)), (1, .l (.val (.int .i64))), (2, .l (.val (.int .i64))), (3, .l (.val (.int .i64))), (4, .l (.fnc 39 9000001))], [(9000000, .row 3 (.int .i64)), (9000001, .caps [.l (.ptr 9000002 0)]), (9000002, .box 93 [.row 9000003]), (9000003, .row 85 Y2)]⟩, ⟨[], [(9000000, .row 3 (.int .i64)), (9000002, .box 93 [.row 9000003]), (9000003, .row 85 Y2)]⟩, fun x => slices_symMergeCmpFunc_int.f k x.1 x.2.1 x.2.2.1 x.2.2.2.1 x.2.2.2.2⟩
noncomputable abbrev Γ (k : Nat) : FuncId → Option Con := look [(39, settle_Round_1.con k), (89, slices_symMergeCmpFunc_int.con k), (108, slices_rotateCmpFunc_int.con k)]
abbrev F : Fin Go.Proofs.Tryd.prog := ⟨⟨[], [(9000000, .row 3 (.int .i64)), (9000002, .box 93 [.row 9000003]), (9000003, .row 85 Y2)]⟩, [9000000, 9000002, 9000003], []⟩
abbrev c3 : Cut := ⟨[(0, .l (.row 9000000)), (1, .l (.val (.int .i64))), (4, .l (.fnc 39 7000000)), (10, .l (.val (.int .i64))), (11, .l (.val (.int .i64)))], [(9000000, .row 3 (.int .i64)), (9000002, .box 93 [.row 9000003]), (9000003, .row 85 Y2), (7000000, .caps [.l (.ptr 9000002 0)])]⟩
abbrev c9 : Cut := ⟨[(0, .l (.row 9000000)), (10, .l (.val (.int .i64))), (13, .l (.val (.int .i64)))], [(9000000, .row 3 (.int .i64)), (9000002, .box 93 [.row 9000003]), (9000003, .row 85 Y2)]⟩
abbrev c15 : Cut := ⟨[(0, .l (.row 9000000)), (2, .l (.val (.int .i64))), (4, .l (.fnc 39 7000000)), (14, .l (.val (.int .i64))), (15, .l (.val (.int .i64)))], [(9000000, .row 3 (.int .i64)), (9000002, .box 93 [.row 9000003]), (9000003, .row 85 Y2), (7000000, .caps [.l (.ptr 9000002 0)])]⟩
abbrev c21 : Cut := ⟨[(0, .l (.row 9000000)), (14, .l (.val (.int .i64))), (17, .l (.val (.int .i64)))], [(9000000, .row 3 (.int .i64)), (9000002, .box 93 [.row 9000003]), (9000003, .row 85 Y2)]⟩
abbrev c32 : Cut := ⟨[(0, .l (.row 9000000)), (1, .l (.val (.int .i64))), (2, .l (.val (.int .i64))), (3, .l (.val (.int .i64))), (4, .l (.fnc 39 7000000)), (18, .l (.val (.int .i64))), (19, .l (.val (.int .i64))), (20, .l (.val (.int .i64))), (21, .l (.val (.int .i64)))], [(9000000, .row 3 (.int .i64)), (9000002, .box 93 [.row 9000003]), (9000003, .row 85 Y2), (7000000, .caps [.l (.ptr 9000002 0)])]⟩
abbrev c33 : Cut := ⟨[(0, .l (.row 9000000)), (1, .l (.val (.int .i64))), (2, .l (.val (.int .i64))), (3, .l (.val (.int .i64))), (4, .l (.fnc 39 7000000)), (18, .l (.val (.int .i64))), (19, .l (.val (.int .i64))), (20, .l (.val (.int .i64))), (21, .l (.val (.int .i64))), (22, .l (.val (.int .i64)))], [(9000000, .row 3 (.int .i64)), (9000002, .box 93 [.row 9000003]), (9000003, .row 85 Y2), (7000000, .caps [.l (.ptr 9000002 0)])]⟩
abbrev c41 : Cut := ⟨[(0, .l (.row 9000000)), (1, .l (.val (.int .i64))), (3, .l (.val (.int .i64))), (4, .l (.fnc 39 7000000)), (18, .l (.val (.int .i64))), (20, .l (.val (.int .i64))), (24, .l (.val (.int .i64)))], [(9000000, .row 3 (.int .i64)), (9000002, .box 93 [.row 9000003]), (9000003, .row 85 Y2), (7000000, .caps [.l (.ptr 9000002 0)])]⟩
noncomputable abbrev Tl (k : Nat) : List (Nat × Hint (prods F.cout.tys)) := [(3, ⟨c3, fun x => slices_symMergeCmpFunc_int.l3 k x.1 x.2.1 x.2.2.1 x.2.2.2.1 x.2.2.2.2⟩), (9, ⟨c9, fun x => slices_symMergeCmpFunc_int.l9 k x.1 x.2.1 x.2.2.1 x.2.2.2⟩), (15, ⟨c15, fun x => slices_symMergeCmpFunc_int.l15 k x.1 x.2.1 x.2.2.1 x.2.2.2.1 x.2.2.2.2⟩), (21, ⟨c21, fun x => slices_symMergeCmpFunc_int.l21 k x.1 x.2.1 x.2.2.1 x.2.2.2⟩), (32, ⟨c32, fun x => slices_symMergeCmpFunc_int.l32 k x.1 x.2.1 x.2.2.1 x.2.2.2.1 x.2.2.2.2.1 x.2.2.2.2.2.1 x.2.2.2.2.2.2.1 x.2.2.2.2.2.2.2.1 x.2.2.2.2.2.2.2.2⟩), (33, ⟨c33, fun x => slices_symMergeCmpFunc_int.l33 k x.1 x.2.1 x.2.2.1 x.2.2.2.1 x.2.2.2.2.1 x.2.2.2.2.2.1 x.2.2.2.2.2.2.1 x.2.2.2.2.2.2.2.1 x.2.2.2.2.2.2.2.2.1 x.2.2.2.2.2.2.2.2.2⟩), (41, ⟨c41, fun x => slices_symMergeCmpFunc_int.l41 k x.1 x.2.1 x.2.2.1 x.2.2.2.1 x.2.2.2.2.1 x.2.2.2.2.2.1 x.2.2.2.2.2.2⟩)]
noncomputable abbrev T (k : Nat) : Nat → Option (Hint (prods F.cout.tys)) := look (Tl k)
noncomputable abbrev body : Code := Go.Proofs.Tryd.f89.body.getD .skip
theorem s3 (k : Nat) (x : prods c3.tys) : slices_symMergeCmpFunc_int.l3 (k + 1) x.1 x.2.1 x.2.2.1 x.2.2.2.1 x.2.2.2.2 = segK (Γ k) F (T k) body 3 (c3.st x) := by kernel_rfl
theorem s9 (k : Nat) (x : prods c9.tys) : slices_symMergeCmpFunc_int.l9 (k + 1) x.1 x.2.1 x.2.2.1 x.2.2.2 = segK (Γ k) F (T k) body 9 (c9.st x) := by kernel_rfl
theorem s15 (k : Nat) (x : prods c15.tys) : slices_symMergeCmpFunc_int.l15 (k + 1) x.1 x.2.1 x.2.2.1 x.2.2.2.1 x.2.2.2.2 = segK (Γ k) F (T k) body 15 (c15.st x) := by kernel_rfl
theorem s21 (k : Nat) (x : prods c21.tys) : slices_symMergeCmpFunc_int.l21 (k + 1) x.1 x.2.1 x.2.2.1 x.2.2.2 = segK (Γ k) F (T k) body 21 (c21.st x) := by kernel_rfl
theorem s32 (k : Nat) (x : prods c32.tys) : slices_symMergeCmpFunc_int.l32 (k + 1) x.1 x.2.1 x.2.2.1 x.2.2.2.1 x.2.2.2.2.1 x.2.2.2.2.2.1 x.2.2.2.2.2.2.1 x.2.2.2.2.2.2.2.1 x.2.2.2.2.2.2.2.2 = segK (Γ k) F (T k) body 32 (c32.st x) := by kernel_rfl
theorem s33 (k : Nat) (x : prods c33.tys) : slices_symMergeCmpFunc_int.l33 (k + 1) x.1 x.2.1 x.2.2.1 x.2.2.2.1 x.2.2.2.2.1 x.2.2.2.2.2.1 x.2.2.2.2.2.2.1 x.2.2.2.2.2.2.2.1 x.2.2.2.2.2.2.2.2.1 x.2.2.2.2.2.2.2.2.2 = segK (Γ k) F (T k) body 33 (c33.st x) := by kernel_rfl
theorem s41 (k : Nat) (x : prods c41.tys) : slices_symMergeCmpFunc_int.l41 (k + 1) x.1 x.2.1 x.2.2.1 x.2.2.2.1 x.2.2.2.2.1 x.2.2.2.2.2.1 x.2.2.2.2.2.2 = segK (Γ k) F (T k) body 41 (c41.st x) := by kernel_rfl
theorem main (k : Nat) (x : prods (con 0).cin.tys) : slices_symMergeCmpFunc_int.f (k + 1) x.1 x.2.1 x.2.2.1 x.2.2.2.1 x.2.2.2.2 = goK (Γ k) F (T k) 2000 [.code body] ((con 0).cin.st x) := by kernel_rfl
theorem okΓ (k : Nat) (h : ConSound Go.Proofs.Tryd.prog 89 (con k)) : ΓOk Go.Proofs.Tryd.prog (Γ k) := Γcons (settle_Round_1.ok k) ⟨Go.Proofs.Tryd.f39, by kernel_rfl, by kernel_rfl, by kernel_rfl⟩ (Γcons h ⟨Go.Proofs.Tryd.f89, by kernel_rfl, by kernel_rfl, by kernel_rfl⟩ (Γcons (slices_rotateCmpFunc_int.ok k) ⟨Go.Proofs.Tryd.f108, by kernel_rfl, by kernel_rfl, by kernel_rfl⟩ (Γnil)))
theorem ok (k : Nat) : ConSound Go.Proofs.Tryd.prog 89 (con k) := by
  induction k using Nat.strongRecOn with
  | ind k ih => cases k with
    | zero => exact fun x y h => absurd (show (none : Option _) = some y from h) (by simp)
    | succ n => exact con_sound (Γ := Γ) (fn := Go.Proofs.Tryd.f89) (body := body) (cin := (con 0).cin) (F := F) (T := T) follows (by kernel_rfl) (by kernel_rfl) (by kernel_rfl) (by kernel_rfl) (by kernel_rfl) (by decide +kernel) (by kernel_rfl) (by kernel_rfl) (tzero ⟨fun x => by kernel_rfl, fun x => by kernel_rfl, fun x => by kernel_rfl, fun x => by kernel_rfl, fun x => by kernel_rfl, fun x => by kernel_rfl, fun x => by kernel_rfl, trivial⟩) n (fun m hm => okΓ m (ih m (Nat.lt_succ_of_le hm))) (fun m _ => tstep ⟨fun x => Eq.trans (by kernel_rfl) (s3 m x), fun x => Eq.trans (by kernel_rfl) (s9 m x), fun x => Eq.trans (by kernel_rfl) (s15 m x), fun x => Eq.trans (by kernel_rfl) (s21 m x), fun x => Eq.trans (by kernel_rfl) (s32 m x), fun x => Eq.trans (by kernel_rfl) (s33 m x), fun x => Eq.trans (by kernel_rfl) (s41 m x), trivial⟩) (fun x y h => (main n x).symm.trans h)
end slices_symMergeCmpFunc_int
namespace slices_stableCmpFunc_int
noncomputable abbrev con (k : Nat) : Con := ⟨⟨[(0, .l (.row 9000000)), (1, .l (.val (.int .i64))), (2, .l (.fnc 39 9000001))], [(9000000, .row 3 (.int .i64)), (9000001, .caps [.l (.ptr 9000002 0)]), (9000002, .box 93 [.row 9000003]), (9000003, .row 85 Y2)]⟩, ⟨[], [(9000000, .row 3 (.int .i64)), (9000002, .box 93 [.row 9000003]), (9000003, .row 85 Y2)]⟩, fun x => slices_stableCmpFunc_int.f k x.1 x.2.1 x.2.2⟩
noncomputable abbrev Γ (k : Nat) : FuncId → Option Con := look [(88, slices_insertionSortCmpFunc_int.con k), (89, slices_symMergeCmpFunc_int.con k)]
abbrev F : Fin Go.Proofs.Tryd.prog := ⟨⟨[], [(9000000, .row 3 (.int .i64)), (9000002, .box 93 [.row 9000003]), (9000003, .row 85 Y2)]⟩, [9000000, 9000002, 9000003], []⟩
abbrev c2 : Cut := ⟨[(0, .l (.row 9000000)), (1, .l (.val (.int .i64))), (2, .l (.fnc 39 7000000)), (6, .l (.val (.int .i64))), (7, .l (.val (.int .i64))), (8, .l (.val (.int .i64)))], [(9000000, .row 3 (.int .i64)), (9000002, .box 93 [.row 9000003]), (9000003, .row 85 Y2), (7000000, .caps [.l (.ptr 9000002 0)])]⟩
abbrev c7 : Cut := ⟨[(0, .l (.row 9000000)), (1, .l (.val (.int .i64))), (2, .l (.fnc 39 7000000)), (6, .l (.val (.int .i64)))], [(9000000, .row 3 (.int .i64)), (9000002, .box 93 [.row 9000003]), (9000003, .row 85 Y2), (7000000, .caps [.l (.ptr 9000002 0)])]⟩
abbrev c9 : Cut := ⟨[(0, .l (.row 9000000)), (1, .l (.val (.int .i64))), (2, .l (.fnc 39 7000000)), (6, .l (.val (.int .i64))), (7, .l (.val (.int .i64))), (8, .l (.val (.int .i64)))], [(9000000, .row 3 (.int .i64)), (9000002, .box 93 [.row 9000003]), (9000003, .row 85 Y2), (7000000, .caps [.l (.ptr 9000002 0)])]⟩
noncomputable abbrev Tl (k : Nat) : List (Nat × Hint (prods F.cout.tys)) := [(2, ⟨c2, fun x => slices_stableCmpFunc_int.l2 k x.1 x.2.1 x.2.2.1 x.2.2.2.1 x.2.2.2.2.1 x.2.2.2.2.2⟩), (7, ⟨c7, fun x => slices_stableCmpFunc_int.l7 k x.1 x.2.1 x.2.2.1 x.2.2.2⟩), (9, ⟨c9, fun x => slices_stableCmpFunc_int.l9 k x.1 x.2.1 x.2.2.1 x.2.2.2.1 x.2.2.2.2.1 x.2.2.2.2.2⟩)]
noncomputable abbrev T (k : Nat) : Nat → Option (Hint (prods F.cout.tys)) := look (Tl k)
noncomputable abbrev body : Code := Go.Proofs.Tryd.f71.body.getD .skip
theorem s2 (k : Nat) (x : prods c2.tys) : slices_stableCmpFunc_int.l2 (k + 1) x.1 x.2.1 x.2.2.1 x.2.2.2.1 x.2.2.2.2.1 x.2.2.2.2.2 = segK (Γ k) F (T k) body 2 (c2.st x) := by kernel_rfl
theorem s7 (k : Nat) (x : prods c7.tys) : slices_stableCmpFunc_int.l7 (k + 1) x.1 x.2.1 x.2.2.1 x.2.2.2 = segK (Γ k) F (T k) body 7 (c7.st x) := by kernel_rfl
theorem s9 (k : Nat) (x : prods c9.tys) : slices_stableCmpFunc_int.l9 (k + 1) x.1 x.2.1 x.2.2.1 x.2.2.2.1 x.2.2.2.2.1 x.2.2.2.2.2 = segK (Γ k) F (T k) body 9 (c9.st x) := by kernel_rfl
theorem main (k : Nat) (x : prods (con 0).cin.tys) : slices_stableCmpFunc_int.f k x.1 x.2.1 x.2.2 = goK (Γ k) F (T k) 2000 [.code body] ((con 0).cin.st x) := by kernel_rfl
theorem okΓ (k : Nat) : ΓOk Go.Proofs.Tryd.prog (Γ k) := Γcons (slices_insertionSortCmpFunc_int.ok k) ⟨Go.Proofs.Tryd.f88, by kernel_rfl, by kernel_rfl, by kernel_rfl⟩ (Γcons (slices_symMergeCmpFunc_int.ok k) ⟨Go.Proofs.Tryd.f89, by kernel_rfl, by kernel_rfl, by kernel_rfl⟩ (Γnil))
theorem ok (k : Nat) : ConSound Go.Proofs.Tryd.prog 71 (con k) := con_sound (Γ := Γ) (fn := Go.Proofs.Tryd.f71) (body := body) (cin := (con 0).cin) (F := F) (T := T) follows (by kernel_rfl) (by kernel_rfl) (by kernel_rfl) (by kernel_rfl) (by kernel_rfl) (by decide +kernel) (by kernel_rfl) (by kernel_rfl) (tzero ⟨fun x => by kernel_rfl, fun x => by kernel_rfl, fun x => by kernel_rfl, trivial⟩) k (fun m _ => okΓ m) (fun m _ => tstep ⟨fun x => Eq.trans (by kernel_rfl) (s2 m x), fun x => Eq.trans (by kernel_rfl) (s7 m x), fun x => Eq.trans (by kernel_rfl) (s9 m x), trivial⟩) (fun x y h => (main k x).symm.trans h)
end slices_stableCmpFunc_int
namespace slices_SortStableFunc_int
noncomputable abbrev con (k : Nat) : Con := ⟨⟨[(0, .l (.row 9000000)), (1, .l (.fnc 39 9000001))], [(9000000, .row 3 (.int .i64)), (9000001, .caps [.l (.ptr 9000002 0)]), (9000002, .box 93 [.row 9000003]), (9000003, .row 85 Y2)]⟩, ⟨[], [(9000000, .row 3 (.int .i64)), (9000002, .box 93 [.row 9000003]), (9000003, .row 85 Y2)]⟩, fun x => slices_SortStableFunc_int.f k x.1 x.2⟩
noncomputable abbrev Γ (k : Nat) : FuncId → Option Con := look [(71, slices_stableCmpFunc_int.con k)]
abbrev F : Fin Go.Proofs.Tryd.prog := ⟨⟨[], [(9000000, .row 3 (.int .i64)), (9000002, .box 93 [.row 9000003]), (9000003, .row 85 Y2)]⟩, [9000000, 9000002, 9000003], []⟩
noncomputable abbrev Tl (k : Nat) : List (Nat × Hint (prods F.cout.tys)) := []
noncomputable abbrev T (k : Nat) : Nat → Option (Hint (prods F.cout.tys)) := look (Tl k)
noncomputable abbrev body : Code := Go.Proofs.Tryd.f38.body.getD .skip
theorem main (k : Nat) (x : prods (con 0).cin.tys) : slices_SortStableFunc_int.f k x.1 x.2 = goK (Γ k) F (T k) 2000 [.code body] ((con 0).cin.st x) := by kernel_rfl
theorem okΓ (k : Nat) : ΓOk Go.Proofs.Tryd.prog (Γ k) := Γcons (slices_stableCmpFunc_int.ok k) ⟨Go.Proofs.Tryd.f71, by kernel_rfl, by kernel_rfl, by kernel_rfl⟩ (Γnil)
theorem ok (k : Nat) : ConSound Go.Proofs.Tryd.prog 38 (con k) := con_sound (Γ := Γ) (fn := Go.Proofs.Tryd.f38) (body := body) (cin := (con 0).cin) (F := F) (T := T) follows (by kernel_rfl) (by kernel_rfl) (by kernel_rfl) (by kernel_rfl) (by kernel_rfl) (by decide +kernel) (by kernel_rfl) (by kernel_rfl) (tzero trivial) k (fun m _ => okΓ m) (fun m _ => tstep trivial) (fun x y h => (main k x).symm.trans h)
end slices_SortStableFunc_int
namespace settle_Round
noncomputable abbrev con (k : Nat) : Con := ⟨⟨[(0, .l (.val (.list 28 .str)))], []⟩, ⟨[(0, .l (.val (.list 3 (.int .i64)))), (1, .l (.val (.int .i64)))], []⟩, fun x => settle_Round.f k x⟩
noncomputable abbrev Γ (k : Nat) : FuncId → Option Con := look [(28, rat_CheckAll.con k), (29, rat_In.con k), (30, rat_Q_Sub.con k), (32, rat_Q_Out.con k), (34, rat_Q_Add.con k), (35, rat_Int.con k), (36, rat_Floor.con k), (37, rat_Integer.con k), (38, slices_SortStableFunc_int.con k)]
abbrev F : Fin Go.Proofs.Tryd.prog := ⟨⟨[(0, .l (.val (.list 3 (.int .i64)))), (1, .l (.val (.int .i64)))], []⟩, [], [.tmp 2, .tmp 3]⟩
abbrev c11 : Cut := ⟨[(5, .l (.ptr 7000000 0)), (6, .l (.row 7000503)), (7, .l (.row 7000504)), (8, .l (.ptr 7000001 0)), (9, .l (.ptr 7000002 0)), (32, .l (.val (.list 28 .str))), (33, .l (.val (.int .i64))), (34, .l (.val (.int .i64)))], [(7000000, .box 85 [.val .bool, .val (.list 138 (.int .u32)), .val (.list 138 (.int .u32))]), (7000503, .row 3 (.int .i64)), (7000504, .row 3 (.int .i64)), (7000001, .box 93 [.row 7000505]), (7000002, .box 85 [.val .bool, .val (.list 138 (.int .u32)), .val (.list 138 (.int .u32))]), (7000505, .row 85 Y2)]⟩
abbrev c27 : Cut := ⟨[(6, .l (.row 7000000)), (97, .l (.val (.list 3 (.int .i64)))), (98, .l (.val (.int .i64))), (99, .l (.val (.int .i64)))], [(7000000, .row 3 (.int .i64))]⟩
noncomputable abbrev Tl (k : Nat) : List (Nat × Hint (prods F.cout.tys)) := [(11, ⟨c11, fun x => settle_Round.l11 k x.1 x.2.1 x.2.2.1 x.2.2.2.1 x.2.2.2.2.1 x.2.2.2.2.2.1 x.2.2.2.2.2.2.1 x.2.2.2.2.2.2.2.1 x.2.2.2.2.2.2.2.2.1 x.2.2.2.2.2.2.2.2.2.1 x.2.2.2.2.2.2.2.2.2.2.1 x.2.2.2.2.2.2.2.2.2.2.2⟩), (27, ⟨c27, fun x => settle_Round.l27 k x.1 x.2.1 x.2.2.1 x.2.2.2⟩)]
noncomputable abbrev T (k : Nat) : Nat → Option (Hint (prods F.cout.tys)) := look (Tl k)
noncomputable abbrev body : Code := Go.Proofs.Tryd.f10.body.getD .skip
theorem s11 (k : Nat) (x : prods c11.tys) : settle_Round.l11 (k + 1) x.1 x.2.1 x.2.2.1 x.2.2.2.1 x.2.2.2.2.1 x.2.2.2.2.2.1 x.2.2.2.2.2.2.1 x.2.2.2.2.2.2.2.1 x.2.2.2.2.2.2.2.2.1 x.2.2.2.2.2.2.2.2.2.1 x.2.2.2.2.2.2.2.2.2.2.1 x.2.2.2.2.2.2.2.2.2.2.2 = segK (Γ k) F (T k) body 11 (c11.st x) := by kernel_rfl
theorem s27 (k : Nat) (x : prods c27.tys) : settle_Round.l27 (k + 1) x.1 x.2.1 x.2.2.1 x.2.2.2 = segK (Γ k) F (T k) body 27 (c27.st x) := by kernel_rfl
theorem main (k : Nat) (x : prods (con 0).cin.tys) : settle_Round.f k x = goK (Γ k) F (T k) 2000 [.code body] ((con 0).cin.st x) := by kernel_rfl
theorem okΓ (k : Nat) : ΓOk Go.Proofs.Tryd.prog (Γ k) := Γcons (rat_CheckAll.ok k) ⟨Go.Proofs.Tryd.f28, by kernel_rfl, by kernel_rfl, by kernel_rfl⟩ (Γcons (rat_In.ok k) ⟨Go.Proofs.Tryd.f29, by kernel_rfl, by kernel_rfl, by kernel_rfl⟩ (Γcons (rat_Q_Sub.ok k) ⟨Go.Proofs.Tryd.f30, by kernel_rfl, by kernel_rfl, by kernel_rfl⟩ (Γcons (rat_Q_Out.ok k) ⟨Go.Proofs.Tryd.f32, by kernel_rfl, by kernel_rfl, by kernel_rfl⟩ (Γcons (rat_Q_Add.ok k) ⟨Go.Proofs.Tryd.f34, by kernel_rfl, by kernel_rfl, by kernel_rfl⟩ (Γcons (rat_Int.ok k) ⟨Go.Proofs.Tryd.f35, by kernel_rfl, by kernel_rfl, by kernel_rfl⟩ (Γcons (rat_Floor.ok k) ⟨Go.Proofs.Tryd.f36, by kernel_rfl, by kernel_rfl, by kernel_rfl⟩ (Γcons (rat_Integer.ok k) ⟨Go.Proofs.Tryd.f37, by kernel_rfl, by kernel_rfl, by kernel_rfl⟩ (Γcons (slices_SortStableFunc_int.ok k) ⟨Go.Proofs.Tryd.f38, by kernel_rfl, by kernel_rfl, by kernel_rfl⟩ (Γnil)))))))))
theorem ok (k : Nat) : ConSound Go.Proofs.Tryd.prog 10 (con k) := con_sound (Γ := Γ) (fn := Go.Proofs.Tryd.f10) (body := body) (cin := (con 0).cin) (F := F) (T := T) follows (by kernel_rfl) (by kernel_rfl) (by kernel_rfl) (by kernel_rfl) (by kernel_rfl) (by decide +kernel) (by kernel_rfl) (by kernel_rfl) (tzero ⟨fun x => by kernel_rfl, fun x => by kernel_rfl, trivial⟩) k (fun m _ => okΓ m) (fun m _ => tstep ⟨fun x => Eq.trans (by kernel_rfl) (s11 m x), fun x => Eq.trans (by kernel_rfl) (s27 m x), trivial⟩) (fun x y h => (main k x).symm.trans h)
end settle_Round
namespace slices_Equal_int
noncomputable abbrev con (k : Nat) : Con := ⟨⟨[(0, .l (.val (.list 3 (.int .i64)))), (1, .l (.val (.list 3 (.int .i64))))], []⟩, ⟨[(0, .l (.val .bool))], []⟩, fun x => slices_Equal_int.f k x.1 x.2⟩
noncomputable abbrev Γ (k : Nat) : FuncId → Option Con := look []
abbrev F : Fin Go.Proofs.Tryd.prog := ⟨⟨[(0, .l (.val .bool))], []⟩, [], [.tmp 4]⟩
abbrev c4 : Cut := ⟨[(0, .l (.val (.list 3 (.int .i64)))), (1, .l (.val (.list 3 (.int .i64)))), (12, .l (.val (.int .i64))), (13, .l (.val (.int .i64)))], []⟩
noncomputable abbrev Tl (k : Nat) : List (Nat × Hint (prods F.cout.tys)) := [(4, ⟨c4, fun x => slices_Equal_int.l4 k x.1 x.2.1 x.2.2.1 x.2.2.2⟩)]
noncomputable abbrev T (k : Nat) : Nat → Option (Hint (prods F.cout.tys)) := look (Tl k)
noncomputable abbrev body : Code := Go.Proofs.Tryd.f11.body.getD .skip
theorem s4 (k : Nat) (x : prods c4.tys) : slices_Equal_int.l4 (k + 1) x.1 x.2.1 x.2.2.1 x.2.2.2 = segK (Γ k) F (T k) body 4 (c4.st x) := by kernel_rfl
theorem main (k : Nat) (x : prods (con 0).cin.tys) : slices_Equal_int.f k x.1 x.2 = goK (Γ k) F (T k) 2000 [.code body] ((con 0).cin.st x) := by kernel_rfl
theorem okΓ (k : Nat) : ΓOk Go.Proofs.Tryd.prog (Γ k) := Γnil
theorem ok (k : Nat) : ConSound Go.Proofs.Tryd.prog 11 (con k) := con_sound (Γ := Γ) (fn := Go.Proofs.Tryd.f11) (body := body) (cin := (con 0).cin) (F := F) (T := T) follows (by kernel_rfl) (by kernel_rfl) (by kernel_rfl) (by kernel_rfl) (by kernel_rfl) (by decide +kernel) (by kernel_rfl) (by kernel_rfl) (tzero ⟨fun x => by kernel_rfl, trivial⟩) k (fun m _ => okΓ m) (fun m _ => tstep ⟨fun x => Eq.trans (by kernel_rfl) (s4 m x), trivial⟩) (fun x y h => (main k x).symm.trans h)
end slices_Equal_int
namespace rat_size
noncomputable abbrev con (k : Nat) : Con := ⟨⟨[(0, .l (.val (.int .i64)))], []⟩, ⟨[(0, .l (.val (.list 138 (.int .u32))))], []⟩, fun x => rat_size.f k x⟩
noncomputable abbrev Γ (k : Nat) : FuncId → Option Con := look [(61, nat_Of.con k), (67, nat_N_Add.con k)]
abbrev F : Fin Go.Proofs.Tryd.prog := ⟨⟨[(0, .l (.val (.list 138 (.int .u32))))], []⟩, [], [.tmp 2]⟩
noncomputable abbrev Tl (k : Nat) : List (Nat × Hint (prods F.cout.tys)) := []
noncomputable abbrev T (k : Nat) : Nat → Option (Hint (prods F.cout.tys)) := look (Tl k)
noncomputable abbrev body : Code := Go.Proofs.Tryd.f43.body.getD .skip
theorem main (k : Nat) (x : prods (con 0).cin.tys) : rat_size.f k x = goK (Γ k) F (T k) 2000 [.code body] ((con 0).cin.st x) := by kernel_rfl
theorem okΓ (k : Nat) : ΓOk Go.Proofs.Tryd.prog (Γ k) := Γcons (nat_Of.ok k) ⟨Go.Proofs.Tryd.f61, by kernel_rfl, by kernel_rfl, by kernel_rfl⟩ (Γcons (nat_N_Add.ok k) ⟨Go.Proofs.Tryd.f67, by kernel_rfl, by kernel_rfl, by kernel_rfl⟩ (Γnil))
theorem ok (k : Nat) : ConSound Go.Proofs.Tryd.prog 43 (con k) := con_sound (Γ := Γ) (fn := Go.Proofs.Tryd.f43) (body := body) (cin := (con 0).cin) (F := F) (T := T) follows (by kernel_rfl) (by kernel_rfl) (by kernel_rfl) (by kernel_rfl) (by kernel_rfl) (by decide +kernel) (by kernel_rfl) (by kernel_rfl) (tzero trivial) k (fun m _ => okΓ m) (fun m _ => tstep trivial) (fun x y h => (main k x).symm.trans h)
end rat_size
namespace rat_Of
noncomputable abbrev con (k : Nat) : Con := ⟨⟨[(0, .l (.val (.int .i64))), (1, .l (.val (.int .i64)))], []⟩, ⟨[(0, .l (.val .str)), (1, .l (.val (.int .i64)))], []⟩, fun x => rat_Of.f k x.1 x.2⟩
noncomputable abbrev Γ (k : Nat) : FuncId → Option Con := look [(41, rat_told.con k), (42, rat_low.con k), (43, rat_size.con k)]
abbrev F : Fin Go.Proofs.Tryd.prog := ⟨⟨[(0, .l (.val .str)), (1, .l (.val (.int .i64)))], []⟩, [], [.tmp 4, .tmp 5]⟩
noncomputable abbrev Tl (k : Nat) : List (Nat × Hint (prods F.cout.tys)) := []
noncomputable abbrev T (k : Nat) : Nat → Option (Hint (prods F.cout.tys)) := look (Tl k)
noncomputable abbrev body : Code := Go.Proofs.Tryd.f12.body.getD .skip
theorem main (k : Nat) (x : prods (con 0).cin.tys) : rat_Of.f k x.1 x.2 = goK (Γ k) F (T k) 2000 [.code body] ((con 0).cin.st x) := by kernel_rfl
theorem okΓ (k : Nat) : ΓOk Go.Proofs.Tryd.prog (Γ k) := Γcons (rat_told.ok k) ⟨Go.Proofs.Tryd.f41, by kernel_rfl, by kernel_rfl, by kernel_rfl⟩ (Γcons (rat_low.ok k) ⟨Go.Proofs.Tryd.f42, by kernel_rfl, by kernel_rfl, by kernel_rfl⟩ (Γcons (rat_size.ok k) ⟨Go.Proofs.Tryd.f43, by kernel_rfl, by kernel_rfl, by kernel_rfl⟩ (Γnil)))
theorem ok (k : Nat) : ConSound Go.Proofs.Tryd.prog 12 (con k) := con_sound (Γ := Γ) (fn := Go.Proofs.Tryd.f12) (body := body) (cin := (con 0).cin) (F := F) (T := T) follows (by kernel_rfl) (by kernel_rfl) (by kernel_rfl) (by kernel_rfl) (by kernel_rfl) (by decide +kernel) (by kernel_rfl) (by kernel_rfl) (tzero trivial) k (fun m _ => okΓ m) (fun m _ => tstep trivial) (fun x y h => (main k x).symm.trans h)
end rat_Of
namespace rat_two'
noncomputable abbrev con (k : Nat) : Con := ⟨⟨[(0, .l (.val .str)), (1, .l (.val .str)), (2, .l (.fn0 30))], []⟩, ⟨[(0, .l (.val .str)), (1, .l (.val (.int .i64)))], []⟩, fun x => rat_two'.f k x.1 x.2⟩
noncomputable abbrev Γ (k : Nat) : FuncId → Option Con := look [(28, rat_CheckAll.con k), (29, rat_In.con k), (30, rat_Q_Sub.con k), (41, rat_told.con k)]
abbrev F : Fin Go.Proofs.Tryd.prog := ⟨⟨[(0, .l (.val .str)), (1, .l (.val (.int .i64)))], []⟩, [], [.tmp 6, .tmp 7]⟩
noncomputable abbrev Tl (k : Nat) : List (Nat × Hint (prods F.cout.tys)) := []
noncomputable abbrev T (k : Nat) : Nat → Option (Hint (prods F.cout.tys)) := look (Tl k)
noncomputable abbrev body : Code := Go.Proofs.Tryd.f33.body.getD .skip
theorem main (k : Nat) (x : prods (con 0).cin.tys) : rat_two'.f k x.1 x.2 = goK (Γ k) F (T k) 2000 [.code body] ((con 0).cin.st x) := by kernel_rfl
theorem okΓ (k : Nat) : ΓOk Go.Proofs.Tryd.prog (Γ k) := Γcons (rat_CheckAll.ok k) ⟨Go.Proofs.Tryd.f28, by kernel_rfl, by kernel_rfl, by kernel_rfl⟩ (Γcons (rat_In.ok k) ⟨Go.Proofs.Tryd.f29, by kernel_rfl, by kernel_rfl, by kernel_rfl⟩ (Γcons (rat_Q_Sub.ok k) ⟨Go.Proofs.Tryd.f30, by kernel_rfl, by kernel_rfl, by kernel_rfl⟩ (Γcons (rat_told.ok k) ⟨Go.Proofs.Tryd.f41, by kernel_rfl, by kernel_rfl, by kernel_rfl⟩ (Γnil))))
theorem ok (k : Nat) : ConSound Go.Proofs.Tryd.prog 33 (con k) := con_sound (Γ := Γ) (fn := Go.Proofs.Tryd.f33) (body := body) (cin := (con 0).cin) (F := F) (T := T) follows (by kernel_rfl) (by kernel_rfl) (by kernel_rfl) (by kernel_rfl) (by kernel_rfl) (by decide +kernel) (by kernel_rfl) (by kernel_rfl) (tzero trivial) k (fun m _ => okΓ m) (fun m _ => tstep trivial) (fun x y h => (main k x).symm.trans h)
end rat_two'
namespace rat_Sub
noncomputable abbrev con (k : Nat) : Con := ⟨⟨[(0, .l (.val .str)), (1, .l (.val .str))], []⟩, ⟨[(0, .l (.val .str)), (1, .l (.val (.int .i64)))], []⟩, fun x => rat_Sub.f k x.1 x.2⟩
noncomputable abbrev Γ (k : Nat) : FuncId → Option Con := look [(33, rat_two'.con k)]
abbrev F : Fin Go.Proofs.Tryd.prog := ⟨⟨[(0, .l (.val .str)), (1, .l (.val (.int .i64)))], []⟩, [], [.tmp 4, .tmp 5]⟩
noncomputable abbrev Tl (k : Nat) : List (Nat × Hint (prods F.cout.tys)) := []
noncomputable abbrev T (k : Nat) : Nat → Option (Hint (prods F.cout.tys)) := look (Tl k)
noncomputable abbrev body : Code := Go.Proofs.Tryd.f13.body.getD .skip
theorem main (k : Nat) (x : prods (con 0).cin.tys) : rat_Sub.f k x.1 x.2 = goK (Γ k) F (T k) 2000 [.code body] ((con 0).cin.st x) := by kernel_rfl
theorem okΓ (k : Nat) : ΓOk Go.Proofs.Tryd.prog (Γ k) := Γcons (rat_two'.ok k) ⟨Go.Proofs.Tryd.f33, by kernel_rfl, by kernel_rfl, by kernel_rfl⟩ (Γnil)
theorem ok (k : Nat) : ConSound Go.Proofs.Tryd.prog 13 (con k) := con_sound (Γ := Γ) (fn := Go.Proofs.Tryd.f13) (body := body) (cin := (con 0).cin) (F := F) (T := T) follows (by kernel_rfl) (by kernel_rfl) (by kernel_rfl) (by kernel_rfl) (by kernel_rfl) (by decide +kernel) (by kernel_rfl) (by kernel_rfl) (tzero trivial) k (fun m _ => okΓ m) (fun m _ => tstep trivial) (fun x y h => (main k x).symm.trans h)
end rat_Sub
namespace rat_Compare
noncomputable abbrev con (k : Nat) : Con := ⟨⟨[(0, .l (.val .str)), (1, .l (.val .str))], []⟩, ⟨[(0, .l (.val (.int .i64))), (1, .l (.val (.int .i64)))], []⟩, fun x => rat_Compare.f k x.1 x.2⟩
noncomputable abbrev Γ (k : Nat) : FuncId → Option Con := look [(28, rat_CheckAll.con k), (29, rat_In.con k), (40, rat_Q_Cmp.con k)]
abbrev F : Fin Go.Proofs.Tryd.prog := ⟨⟨[(0, .l (.val (.int .i64))), (1, .l (.val (.int .i64)))], []⟩, [], [.tmp 4, .tmp 5]⟩
noncomputable abbrev Tl (k : Nat) : List (Nat × Hint (prods F.cout.tys)) := []
noncomputable abbrev T (k : Nat) : Nat → Option (Hint (prods F.cout.tys)) := look (Tl k)
noncomputable abbrev body : Code := Go.Proofs.Tryd.f14.body.getD .skip
theorem main (k : Nat) (x : prods (con 0).cin.tys) : rat_Compare.f k x.1 x.2 = goK (Γ k) F (T k) 2000 [.code body] ((con 0).cin.st x) := by kernel_rfl
theorem okΓ (k : Nat) : ΓOk Go.Proofs.Tryd.prog (Γ k) := Γcons (rat_CheckAll.ok k) ⟨Go.Proofs.Tryd.f28, by kernel_rfl, by kernel_rfl, by kernel_rfl⟩ (Γcons (rat_In.ok k) ⟨Go.Proofs.Tryd.f29, by kernel_rfl, by kernel_rfl, by kernel_rfl⟩ (Γcons (rat_Q_Cmp.ok k) ⟨Go.Proofs.Tryd.f40, by kernel_rfl, by kernel_rfl, by kernel_rfl⟩ (Γnil)))
theorem ok (k : Nat) : ConSound Go.Proofs.Tryd.prog 14 (con k) := con_sound (Γ := Γ) (fn := Go.Proofs.Tryd.f14) (body := body) (cin := (con 0).cin) (F := F) (T := T) follows (by kernel_rfl) (by kernel_rfl) (by kernel_rfl) (by kernel_rfl) (by kernel_rfl) (by decide +kernel) (by kernel_rfl) (by kernel_rfl) (tzero trivial) k (fun m _ => okΓ m) (fun m _ => tstep trivial) (fun x y h => (main k x).symm.trans h)
end rat_Compare
namespace gridhallkeep3_fine_1
noncomputable abbrev con (k : Nat) : Con := ⟨⟨[(0, .l (.val (.int .i64)))], []⟩, ⟨[(0, .l (.val .bool))], []⟩, fun x => gridhallkeep3_fine_1.f k x⟩
noncomputable abbrev Γ (k : Nat) : FuncId → Option Con := look []
abbrev F : Fin Go.Proofs.Tryd.prog := ⟨⟨[(0, .l (.val .bool))], []⟩, [], [.tmp 2]⟩
noncomputable abbrev Tl (k : Nat) : List (Nat × Hint (prods F.cout.tys)) := []
noncomputable abbrev T (k : Nat) : Nat → Option (Hint (prods F.cout.tys)) := look (Tl k)
noncomputable abbrev body : Code := Go.Proofs.Tryd.f45.body.getD .skip
theorem main (k : Nat) (x : prods (con 0).cin.tys) : gridhallkeep3_fine_1.f k x = goK (Γ k) F (T k) 2000 [.code body] ((con 0).cin.st x) := by kernel_rfl
theorem okΓ (k : Nat) : ΓOk Go.Proofs.Tryd.prog (Γ k) := Γnil
theorem ok (k : Nat) : ConSound Go.Proofs.Tryd.prog 45 (con k) := con_sound (Γ := Γ) (fn := Go.Proofs.Tryd.f45) (body := body) (cin := (con 0).cin) (F := F) (T := T) follows (by kernel_rfl) (by kernel_rfl) (by kernel_rfl) (by kernel_rfl) (by kernel_rfl) (by decide +kernel) (by kernel_rfl) (by kernel_rfl) (tzero trivial) k (fun m _ => okΓ m) (fun m _ => tstep trivial) (fun x y h => (main k x).symm.trans h)
end gridhallkeep3_fine_1
namespace slices_IndexFunc_api_Errno
noncomputable abbrev con (k : Nat) : Con := ⟨⟨[(0, .l (.val (.list 25 (.int .i64)))), (1, .l (.fn0 45))], []⟩, ⟨[(0, .l (.val (.int .i64)))], []⟩, fun x => slices_IndexFunc_api_Errno.f k x⟩
noncomputable abbrev Γ (k : Nat) : FuncId → Option Con := look [(45, gridhallkeep3_fine_1.con k)]
abbrev F : Fin Go.Proofs.Tryd.prog := ⟨⟨[(0, .l (.val (.int .i64)))], []⟩, [], [.tmp 4]⟩
abbrev c2 : Cut := ⟨[(0, .l (.val (.list 25 (.int .i64)))), (1, .l (.fn0 45)), (7, .l (.val (.int .i64))), (8, .l (.val (.int .i64)))], []⟩
noncomputable abbrev Tl (k : Nat) : List (Nat × Hint (prods F.cout.tys)) := [(2, ⟨c2, fun x => slices_IndexFunc_api_Errno.l2 k x.1 x.2.1 x.2.2⟩)]
noncomputable abbrev T (k : Nat) : Nat → Option (Hint (prods F.cout.tys)) := look (Tl k)
noncomputable abbrev body : Code := Go.Proofs.Tryd.f74.body.getD .skip
theorem s2 (k : Nat) (x : prods c2.tys) : slices_IndexFunc_api_Errno.l2 (k + 1) x.1 x.2.1 x.2.2 = segK (Γ k) F (T k) body 2 (c2.st x) := by kernel_rfl
theorem main (k : Nat) (x : prods (con 0).cin.tys) : slices_IndexFunc_api_Errno.f k x = goK (Γ k) F (T k) 2000 [.code body] ((con 0).cin.st x) := by kernel_rfl
theorem okΓ (k : Nat) : ΓOk Go.Proofs.Tryd.prog (Γ k) := Γcons (gridhallkeep3_fine_1.ok k) ⟨Go.Proofs.Tryd.f45, by kernel_rfl, by kernel_rfl, by kernel_rfl⟩ (Γnil)
theorem ok (k : Nat) : ConSound Go.Proofs.Tryd.prog 74 (con k) := con_sound (Γ := Γ) (fn := Go.Proofs.Tryd.f74) (body := body) (cin := (con 0).cin) (F := F) (T := T) follows (by kernel_rfl) (by kernel_rfl) (by kernel_rfl) (by kernel_rfl) (by kernel_rfl) (by decide +kernel) (by kernel_rfl) (by kernel_rfl) (tzero ⟨fun x => by kernel_rfl, trivial⟩) k (fun m _ => okΓ m) (fun m _ => tstep ⟨fun x => Eq.trans (by kernel_rfl) (s2 m x), trivial⟩) (fun x y h => (main k x).symm.trans h)
end slices_IndexFunc_api_Errno
namespace slices_ContainsFunc_api_Errno
noncomputable abbrev con (k : Nat) : Con := ⟨⟨[(0, .l (.val (.list 25 (.int .i64)))), (1, .l (.fn0 45))], []⟩, ⟨[(0, .l (.val .bool))], []⟩, fun x => slices_ContainsFunc_api_Errno.f k x⟩
noncomputable abbrev Γ (k : Nat) : FuncId → Option Con := look [(74, slices_IndexFunc_api_Errno.con k)]
abbrev F : Fin Go.Proofs.Tryd.prog := ⟨⟨[(0, .l (.val .bool))], []⟩, [], [.tmp 4]⟩
noncomputable abbrev Tl (k : Nat) : List (Nat × Hint (prods F.cout.tys)) := []
noncomputable abbrev T (k : Nat) : Nat → Option (Hint (prods F.cout.tys)) := look (Tl k)
noncomputable abbrev body : Code := Go.Proofs.Tryd.f44.body.getD .skip
theorem main (k : Nat) (x : prods (con 0).cin.tys) : slices_ContainsFunc_api_Errno.f k x = goK (Γ k) F (T k) 2000 [.code body] ((con 0).cin.st x) := by kernel_rfl
theorem okΓ (k : Nat) : ΓOk Go.Proofs.Tryd.prog (Γ k) := Γcons (slices_IndexFunc_api_Errno.ok k) ⟨Go.Proofs.Tryd.f74, by kernel_rfl, by kernel_rfl, by kernel_rfl⟩ (Γnil)
theorem ok (k : Nat) : ConSound Go.Proofs.Tryd.prog 44 (con k) := con_sound (Γ := Γ) (fn := Go.Proofs.Tryd.f44) (body := body) (cin := (con 0).cin) (F := F) (T := T) follows (by kernel_rfl) (by kernel_rfl) (by kernel_rfl) (by kernel_rfl) (by kernel_rfl) (by decide +kernel) (by kernel_rfl) (by kernel_rfl) (tzero trivial) k (fun m _ => okΓ m) (fun m _ => tstep trivial) (fun x y h => (main k x).symm.trans h)
end slices_ContainsFunc_api_Errno
namespace gridhallkeep3_fine
noncomputable abbrev con (k : Nat) : Con := ⟨⟨[(0, .l (.val (.list 25 (.int .i64))))], []⟩, ⟨[(0, .l (.val .bool))], []⟩, fun x => gridhallkeep3_fine.f k x⟩
noncomputable abbrev Γ (k : Nat) : FuncId → Option Con := look [(44, slices_ContainsFunc_api_Errno.con k)]
abbrev F : Fin Go.Proofs.Tryd.prog := ⟨⟨[(0, .l (.val .bool))], []⟩, [], [.tmp 2]⟩
noncomputable abbrev Tl (k : Nat) : List (Nat × Hint (prods F.cout.tys)) := []
noncomputable abbrev T (k : Nat) : Nat → Option (Hint (prods F.cout.tys)) := look (Tl k)
noncomputable abbrev body : Code := Go.Proofs.Tryd.f15.body.getD .skip
theorem main (k : Nat) (x : prods (con 0).cin.tys) : gridhallkeep3_fine.f k x = goK (Γ k) F (T k) 2000 [.code body] ((con 0).cin.st x) := by kernel_rfl
theorem okΓ (k : Nat) : ΓOk Go.Proofs.Tryd.prog (Γ k) := Γcons (slices_ContainsFunc_api_Errno.ok k) ⟨Go.Proofs.Tryd.f44, by kernel_rfl, by kernel_rfl, by kernel_rfl⟩ (Γnil)
theorem ok (k : Nat) : ConSound Go.Proofs.Tryd.prog 15 (con k) := con_sound (Γ := Γ) (fn := Go.Proofs.Tryd.f15) (body := body) (cin := (con 0).cin) (F := F) (T := T) follows (by kernel_rfl) (by kernel_rfl) (by kernel_rfl) (by kernel_rfl) (by kernel_rfl) (by decide +kernel) (by kernel_rfl) (by kernel_rfl) (tzero trivial) k (fun m _ => okΓ m) (fun m _ => tstep trivial) (fun x y h => (main k x).symm.trans h)
end gridhallkeep3_fine
namespace gridhallkeep3_SettleKept
noncomputable abbrev con (k : Nat) : Con := ⟨⟨[(0, .l (.val (.list 28 .str)))], []⟩, ⟨[(0, .l (.val .bool))], []⟩, fun x => gridhallkeep3_SettleKept.f k x⟩
noncomputable abbrev Γ (k : Nat) : FuncId → Option Con := look [(9, rat_Add.con k), (10, settle_Round.con k), (11, slices_Equal_int.con k), (12, rat_Of.con k), (13, rat_Sub.con k), (14, rat_Compare.con k), (15, gridhallkeep3_fine.con k)]
abbrev F : Fin Go.Proofs.Tryd.prog := ⟨⟨[(0, .l (.val .bool))], []⟩, [], [.tmp 2]⟩
abbrev c9 : Cut := ⟨[(0, .l (.val (.list 28 .str))), (5, .l (.val (.list 3 (.int .i64)))), (7, .l (.val .str)), (41, .l (.val (.list 3 (.int .i64)))), (42, .l (.val (.int .i64))), (43, .l (.val (.int .i64)))], []⟩
noncomputable abbrev Tl (k : Nat) : List (Nat × Hint (prods F.cout.tys)) := [(9, ⟨c9, fun x => gridhallkeep3_SettleKept.l9 k x.1 x.2.1 x.2.2.1 x.2.2.2.1 x.2.2.2.2.1 x.2.2.2.2.2⟩)]
noncomputable abbrev T (k : Nat) : Nat → Option (Hint (prods F.cout.tys)) := look (Tl k)
noncomputable abbrev body : Code := Go.Proofs.Tryd.f4.body.getD .skip
theorem s9 (k : Nat) (x : prods c9.tys) : gridhallkeep3_SettleKept.l9 (k + 1) x.1 x.2.1 x.2.2.1 x.2.2.2.1 x.2.2.2.2.1 x.2.2.2.2.2 = segK (Γ k) F (T k) body 9 (c9.st x) := by kernel_rfl
theorem main (k : Nat) (x : prods (con 0).cin.tys) : gridhallkeep3_SettleKept.f k x = goK (Γ k) F (T k) 2000 [.code body] ((con 0).cin.st x) := by kernel_rfl
theorem okΓ (k : Nat) : ΓOk Go.Proofs.Tryd.prog (Γ k) := Γcons (rat_Add.ok k) ⟨Go.Proofs.Tryd.f9, by kernel_rfl, by kernel_rfl, by kernel_rfl⟩ (Γcons (settle_Round.ok k) ⟨Go.Proofs.Tryd.f10, by kernel_rfl, by kernel_rfl, by kernel_rfl⟩ (Γcons (slices_Equal_int.ok k) ⟨Go.Proofs.Tryd.f11, by kernel_rfl, by kernel_rfl, by kernel_rfl⟩ (Γcons (rat_Of.ok k) ⟨Go.Proofs.Tryd.f12, by kernel_rfl, by kernel_rfl, by kernel_rfl⟩ (Γcons (rat_Sub.ok k) ⟨Go.Proofs.Tryd.f13, by kernel_rfl, by kernel_rfl, by kernel_rfl⟩ (Γcons (rat_Compare.ok k) ⟨Go.Proofs.Tryd.f14, by kernel_rfl, by kernel_rfl, by kernel_rfl⟩ (Γcons (gridhallkeep3_fine.ok k) ⟨Go.Proofs.Tryd.f15, by kernel_rfl, by kernel_rfl, by kernel_rfl⟩ (Γnil)))))))
theorem ok (k : Nat) : ConSound Go.Proofs.Tryd.prog 4 (con k) := con_sound (Γ := Γ) (fn := Go.Proofs.Tryd.f4) (body := body) (cin := (con 0).cin) (F := F) (T := T) follows (by kernel_rfl) (by kernel_rfl) (by kernel_rfl) (by kernel_rfl) (by kernel_rfl) (by decide +kernel) (by kernel_rfl) (by kernel_rfl) (tzero ⟨fun x => by kernel_rfl, trivial⟩) k (fun m _ => okΓ m) (fun m _ => tstep ⟨fun x => Eq.trans (by kernel_rfl) (s9 m x), trivial⟩) (fun x y h => (main k x).symm.trans h)
end gridhallkeep3_SettleKept
namespace rat_Q_Mul
noncomputable abbrev con (k : Nat) : Con := ⟨⟨[(0, .av Y2), (1, .av Y2)], []⟩, ⟨[(0, .av Y2)], []⟩, fun x => rat_Q_Mul.f k x.1 x.2⟩
noncomputable abbrev Γ (k : Nat) : FuncId → Option Con := look [(42, rat_low.con k), (65, rat_Q_whole.con k), (66, nat_N_Mul.con k)]
abbrev F : Fin Go.Proofs.Tryd.prog := ⟨⟨[(0, .av Y2)], []⟩, [], [.cell 4 85]⟩
noncomputable abbrev Tl (k : Nat) : List (Nat × Hint (prods F.cout.tys)) := []
noncomputable abbrev T (k : Nat) : Nat → Option (Hint (prods F.cout.tys)) := look (Tl k)
noncomputable abbrev body : Code := Go.Proofs.Tryd.f47.body.getD .skip
theorem main (k : Nat) (x : prods (con 0).cin.tys) : rat_Q_Mul.f k x.1 x.2 = goK (Γ k) F (T k) 2000 [.code body] ((con 0).cin.st x) := by kernel_rfl
theorem okΓ (k : Nat) : ΓOk Go.Proofs.Tryd.prog (Γ k) := Γcons (rat_low.ok k) ⟨Go.Proofs.Tryd.f42, by kernel_rfl, by kernel_rfl, by kernel_rfl⟩ (Γcons (rat_Q_whole.ok k) ⟨Go.Proofs.Tryd.f65, by kernel_rfl, by kernel_rfl, by kernel_rfl⟩ (Γcons (nat_N_Mul.ok k) ⟨Go.Proofs.Tryd.f66, by kernel_rfl, by kernel_rfl, by kernel_rfl⟩ (Γnil)))
theorem ok (k : Nat) : ConSound Go.Proofs.Tryd.prog 47 (con k) := con_sound (Γ := Γ) (fn := Go.Proofs.Tryd.f47) (body := body) (cin := (con 0).cin) (F := F) (T := T) follows (by kernel_rfl) (by kernel_rfl) (by kernel_rfl) (by kernel_rfl) (by kernel_rfl) (by decide +kernel) (by kernel_rfl) (by kernel_rfl) (tzero trivial) k (fun m _ => okΓ m) (fun m _ => tstep trivial) (fun x y h => (main k x).symm.trans h)
end rat_Q_Mul
namespace rat_Q_Quo
noncomputable abbrev con (k : Nat) : Con := ⟨⟨[(0, .av Y2), (1, .av Y2)], []⟩, ⟨[(0, .av Y2)], []⟩, fun x => rat_Q_Quo.f k x.1 x.2⟩
noncomputable abbrev Γ (k : Nat) : FuncId → Option Con := look [(42, rat_low.con k), (65, rat_Q_whole.con k), (66, nat_N_Mul.con k)]
abbrev F : Fin Go.Proofs.Tryd.prog := ⟨⟨[(0, .av Y2)], []⟩, [], [.cell 4 85]⟩
noncomputable abbrev Tl (k : Nat) : List (Nat × Hint (prods F.cout.tys)) := []
noncomputable abbrev T (k : Nat) : Nat → Option (Hint (prods F.cout.tys)) := look (Tl k)
noncomputable abbrev body : Code := Go.Proofs.Tryd.f48.body.getD .skip
theorem main (k : Nat) (x : prods (con 0).cin.tys) : rat_Q_Quo.f k x.1 x.2 = goK (Γ k) F (T k) 2000 [.code body] ((con 0).cin.st x) := by kernel_rfl
theorem okΓ (k : Nat) : ΓOk Go.Proofs.Tryd.prog (Γ k) := Γcons (rat_low.ok k) ⟨Go.Proofs.Tryd.f42, by kernel_rfl, by kernel_rfl, by kernel_rfl⟩ (Γcons (rat_Q_whole.ok k) ⟨Go.Proofs.Tryd.f65, by kernel_rfl, by kernel_rfl, by kernel_rfl⟩ (Γcons (nat_N_Mul.ok k) ⟨Go.Proofs.Tryd.f66, by kernel_rfl, by kernel_rfl, by kernel_rfl⟩ (Γnil)))
theorem ok (k : Nat) : ConSound Go.Proofs.Tryd.prog 48 (con k) := con_sound (Γ := Γ) (fn := Go.Proofs.Tryd.f48) (body := body) (cin := (con 0).cin) (F := F) (T := T) follows (by kernel_rfl) (by kernel_rfl) (by kernel_rfl) (by kernel_rfl) (by kernel_rfl) (by decide +kernel) (by kernel_rfl) (by kernel_rfl) (tzero trivial) k (fun m _ => okΓ m) (fun m _ => tstep trivial) (fun x y h => (main k x).symm.trans h)
end rat_Q_Quo
namespace settle_Shares
noncomputable abbrev con (k : Nat) : Con := ⟨⟨[(0, .l (.val (.int .i64))), (1, .l (.val (.list 28 .str)))], []⟩, ⟨[(0, .l (.val (.list 3 (.int .i64)))), (1, .l (.val (.int .i64)))], []⟩, fun x => settle_Shares.f k x.1 x.2⟩
noncomputable abbrev Γ (k : Nat) : FuncId → Option Con := look [(10, settle_Round.con k), (28, rat_CheckAll.con k), (29, rat_In.con k), (31, rat_Fits.con k), (32, rat_Q_Out.con k), (34, rat_Q_Add.con k), (35, rat_Int.con k), (46, rat_Q_Sign.con k), (47, rat_Q_Mul.con k), (48, rat_Q_Quo.con k)]
abbrev F : Fin Go.Proofs.Tryd.prog := ⟨⟨[(0, .l (.val (.list 3 (.int .i64)))), (1, .l (.val (.int .i64)))], []⟩, [], [.tmp 4, .tmp 5]⟩
abbrev c10 : Cut := ⟨[(0, .l (.val (.int .i64))), (1, .l (.val (.list 28 .str))), (7, .l (.ptr 7000000 0)), (30, .l (.val (.list 28 .str))), (31, .l (.val (.int .i64))), (32, .l (.val (.int .i64)))], [(7000000, .box 85 [.val .bool, .val (.list 138 (.int .u32)), .val (.list 138 (.int .u32))])]⟩
abbrev c21 : Cut := ⟨[(0, .l (.val (.int .i64))), (7, .l (.ptr 7000000 0)), (11, .l (.row 7000501)), (48, .l (.val (.list 28 .str))), (49, .l (.val (.int .i64))), (50, .l (.val (.int .i64)))], [(7000000, .box 85 [.val .bool, .val (.list 138 (.int .u32)), .val (.list 138 (.int .u32))]), (7000501, .row 28 .str)]⟩
noncomputable abbrev Tl (k : Nat) : List (Nat × Hint (prods F.cout.tys)) := [(10, ⟨c10, fun x => settle_Shares.l10 k x.1 x.2.1 x.2.2.1 x.2.2.2.1 x.2.2.2.2.1 x.2.2.2.2.2.1 x.2.2.2.2.2.2.1 x.2.2.2.2.2.2.2⟩), (21, ⟨c21, fun x => settle_Shares.l21 k x.1 x.2.1 x.2.2.1 x.2.2.2.1 x.2.2.2.2.1 x.2.2.2.2.2.1 x.2.2.2.2.2.2.1 x.2.2.2.2.2.2.2⟩)]
noncomputable abbrev T (k : Nat) : Nat → Option (Hint (prods F.cout.tys)) := look (Tl k)
noncomputable abbrev body : Code := Go.Proofs.Tryd.f16.body.getD .skip
theorem s10 (k : Nat) (x : prods c10.tys) : settle_Shares.l10 (k + 1) x.1 x.2.1 x.2.2.1 x.2.2.2.1 x.2.2.2.2.1 x.2.2.2.2.2.1 x.2.2.2.2.2.2.1 x.2.2.2.2.2.2.2 = segK (Γ k) F (T k) body 10 (c10.st x) := by kernel_rfl
theorem s21 (k : Nat) (x : prods c21.tys) : settle_Shares.l21 (k + 1) x.1 x.2.1 x.2.2.1 x.2.2.2.1 x.2.2.2.2.1 x.2.2.2.2.2.1 x.2.2.2.2.2.2.1 x.2.2.2.2.2.2.2 = segK (Γ k) F (T k) body 21 (c21.st x) := by kernel_rfl
theorem main (k : Nat) (x : prods (con 0).cin.tys) : settle_Shares.f k x.1 x.2 = goK (Γ k) F (T k) 2000 [.code body] ((con 0).cin.st x) := by kernel_rfl
theorem okΓ (k : Nat) : ΓOk Go.Proofs.Tryd.prog (Γ k) := Γcons (settle_Round.ok k) ⟨Go.Proofs.Tryd.f10, by kernel_rfl, by kernel_rfl, by kernel_rfl⟩ (Γcons (rat_CheckAll.ok k) ⟨Go.Proofs.Tryd.f28, by kernel_rfl, by kernel_rfl, by kernel_rfl⟩ (Γcons (rat_In.ok k) ⟨Go.Proofs.Tryd.f29, by kernel_rfl, by kernel_rfl, by kernel_rfl⟩ (Γcons (rat_Fits.ok k) ⟨Go.Proofs.Tryd.f31, by kernel_rfl, by kernel_rfl, by kernel_rfl⟩ (Γcons (rat_Q_Out.ok k) ⟨Go.Proofs.Tryd.f32, by kernel_rfl, by kernel_rfl, by kernel_rfl⟩ (Γcons (rat_Q_Add.ok k) ⟨Go.Proofs.Tryd.f34, by kernel_rfl, by kernel_rfl, by kernel_rfl⟩ (Γcons (rat_Int.ok k) ⟨Go.Proofs.Tryd.f35, by kernel_rfl, by kernel_rfl, by kernel_rfl⟩ (Γcons (rat_Q_Sign.ok k) ⟨Go.Proofs.Tryd.f46, by kernel_rfl, by kernel_rfl, by kernel_rfl⟩ (Γcons (rat_Q_Mul.ok k) ⟨Go.Proofs.Tryd.f47, by kernel_rfl, by kernel_rfl, by kernel_rfl⟩ (Γcons (rat_Q_Quo.ok k) ⟨Go.Proofs.Tryd.f48, by kernel_rfl, by kernel_rfl, by kernel_rfl⟩ (Γnil))))))))))
theorem ok (k : Nat) : ConSound Go.Proofs.Tryd.prog 16 (con k) := con_sound (Γ := Γ) (fn := Go.Proofs.Tryd.f16) (body := body) (cin := (con 0).cin) (F := F) (T := T) follows (by kernel_rfl) (by kernel_rfl) (by kernel_rfl) (by kernel_rfl) (by kernel_rfl) (by decide +kernel) (by kernel_rfl) (by kernel_rfl) (tzero ⟨fun x => by kernel_rfl, fun x => by kernel_rfl, trivial⟩) k (fun m _ => okΓ m) (fun m _ => tstep ⟨fun x => Eq.trans (by kernel_rfl) (s10 m x), fun x => Eq.trans (by kernel_rfl) (s21 m x), trivial⟩) (fun x y h => (main k x).symm.trans h)
end settle_Shares
namespace gridhallkeep3_SettleShares
noncomputable abbrev con (k : Nat) : Con := ⟨⟨[(0, .l (.val (.int .i64))), (1, .l (.val (.list 28 .str)))], []⟩, ⟨[(0, .l (.val .bool))], []⟩, fun x => gridhallkeep3_SettleShares.f k x.1 x.2⟩
noncomputable abbrev Γ (k : Nat) : FuncId → Option Con := look [(11, slices_Equal_int.con k), (14, rat_Compare.con k), (16, settle_Shares.con k)]
abbrev F : Fin Go.Proofs.Tryd.prog := ⟨⟨[(0, .l (.val .bool))], []⟩, [], [.tmp 4]⟩
abbrev c9 : Cut := ⟨[(0, .l (.val (.int .i64))), (1, .l (.val (.list 28 .str))), (7, .l (.val (.list 3 (.int .i64)))), (9, .l (.val (.int .i64))), (39, .l (.val (.list 3 (.int .i64)))), (40, .l (.val (.int .i64))), (41, .l (.val (.int .i64)))], []⟩
abbrev c13 : Cut := ⟨[(0, .l (.val (.int .i64))), (1, .l (.val (.list 28 .str))), (7, .l (.val (.list 3 (.int .i64)))), (9, .l (.val (.int .i64))), (10, .l (.val (.int .i64))), (11, .l (.val (.int .i64))), (39, .l (.val (.list 3 (.int .i64)))), (40, .l (.val (.int .i64))), (41, .l (.val (.int .i64))), (49, .l (.val (.int .i64))), (50, .l (.val (.int .i64)))], []⟩
noncomputable abbrev Tl (k : Nat) : List (Nat × Hint (prods F.cout.tys)) := [(9, ⟨c9, fun x => gridhallkeep3_SettleShares.l9 k x.1 x.2.1 x.2.2.1 x.2.2.2.1 x.2.2.2.2.1 x.2.2.2.2.2.1 x.2.2.2.2.2.2⟩), (13, ⟨c13, fun x => gridhallkeep3_SettleShares.l13 k x.1 x.2.1 x.2.2.1 x.2.2.2.1 x.2.2.2.2.1 x.2.2.2.2.2.1 x.2.2.2.2.2.2.1 x.2.2.2.2.2.2.2.1 x.2.2.2.2.2.2.2.2.1 x.2.2.2.2.2.2.2.2.2.1 x.2.2.2.2.2.2.2.2.2.2⟩)]
noncomputable abbrev T (k : Nat) : Nat → Option (Hint (prods F.cout.tys)) := look (Tl k)
noncomputable abbrev body : Code := Go.Proofs.Tryd.f5.body.getD .skip
theorem s9 (k : Nat) (x : prods c9.tys) : gridhallkeep3_SettleShares.l9 (k + 1) x.1 x.2.1 x.2.2.1 x.2.2.2.1 x.2.2.2.2.1 x.2.2.2.2.2.1 x.2.2.2.2.2.2 = segK (Γ k) F (T k) body 9 (c9.st x) := by kernel_rfl
theorem s13 (k : Nat) (x : prods c13.tys) : gridhallkeep3_SettleShares.l13 (k + 1) x.1 x.2.1 x.2.2.1 x.2.2.2.1 x.2.2.2.2.1 x.2.2.2.2.2.1 x.2.2.2.2.2.2.1 x.2.2.2.2.2.2.2.1 x.2.2.2.2.2.2.2.2.1 x.2.2.2.2.2.2.2.2.2.1 x.2.2.2.2.2.2.2.2.2.2 = segK (Γ k) F (T k) body 13 (c13.st x) := by kernel_rfl
theorem main (k : Nat) (x : prods (con 0).cin.tys) : gridhallkeep3_SettleShares.f k x.1 x.2 = goK (Γ k) F (T k) 2000 [.code body] ((con 0).cin.st x) := by kernel_rfl
theorem okΓ (k : Nat) : ΓOk Go.Proofs.Tryd.prog (Γ k) := Γcons (slices_Equal_int.ok k) ⟨Go.Proofs.Tryd.f11, by kernel_rfl, by kernel_rfl, by kernel_rfl⟩ (Γcons (rat_Compare.ok k) ⟨Go.Proofs.Tryd.f14, by kernel_rfl, by kernel_rfl, by kernel_rfl⟩ (Γcons (settle_Shares.ok k) ⟨Go.Proofs.Tryd.f16, by kernel_rfl, by kernel_rfl, by kernel_rfl⟩ (Γnil)))
theorem ok (k : Nat) : ConSound Go.Proofs.Tryd.prog 5 (con k) := con_sound (Γ := Γ) (fn := Go.Proofs.Tryd.f5) (body := body) (cin := (con 0).cin) (F := F) (T := T) follows (by kernel_rfl) (by kernel_rfl) (by kernel_rfl) (by kernel_rfl) (by kernel_rfl) (by decide +kernel) (by kernel_rfl) (by kernel_rfl) (tzero ⟨fun x => by kernel_rfl, fun x => by kernel_rfl, trivial⟩) k (fun m _ => okΓ m) (fun m _ => tstep ⟨fun x => Eq.trans (by kernel_rfl) (s9 m x), fun x => Eq.trans (by kernel_rfl) (s13 m x), trivial⟩) (fun x y h => (main k x).symm.trans h)
end gridhallkeep3_SettleShares
end Go.Proofs.YtamgbcgfjhpedaaDoor.VE
