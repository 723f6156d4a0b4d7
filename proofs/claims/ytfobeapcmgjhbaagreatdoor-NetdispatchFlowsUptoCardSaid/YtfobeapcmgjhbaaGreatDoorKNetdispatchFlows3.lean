/- Texts behind the law NetdispatchFlows, part 3 (no statement is proved here). -/
import Derived.Test.YtfobeapcmgjhbaaGreatDoorKNetdispatchFlows2
namespace Go.Proofs.YtfobeapcmgjhbaaGreatDoor.VE
set_option linter.unusedVariables false
set_option maxRecDepth 100000
open Go Go.RowKit
namespace qbe
noncomputable abbrev con (k:Nat):Con:=⟨⟨[(0,.l (.val (.int .i64)))],[]⟩,⟨[(0,.av Y23),(1,.l (.val (.list 85 Y18)))],[]⟩,fun x=>qbe.f k x,[]⟩
noncomputable abbrev Γ (k:Nat):Env:=lookE []
abbrev F:Fin Go.Proofs.Tryz.prog:=⟨⟨[(0,.av Y23),(1,.l (.val (.list 85 Y18)))],[]⟩,[],[.cell 2 29,.tmp 3],[]⟩
noncomputable abbrev Tl (k:Nat):List (Nat×Hint (prods F.cout.tys)):=[]
noncomputable abbrev T (k:Nat):Nat→Option (Hint (prods F.cout.tys)):=look (Tl k)
noncomputable abbrev body:Code:=Go.Proofs.Tryz.f14.body.getD .skip
theorem main (k:Nat) (x:prods (con 0).cin.tys):qbe.f k x=goK (Γ k) F (T k) 2000 [.code body] ((con 0).cin.st x):=by kernel_rfl
theorem okΓ (k:Nat):ΓOk Go.Proofs.Tryz.prog (Γ k):=Γnil
theorem ok (k:Nat):qaj Go.Proofs.Tryz.prog 14 (con k):=qai (Γ:=Γ) (fn:=Go.Proofs.Tryz.f14) (body:=body) (cin:=(con 0).cin) (F:=F) (T:=T) follows (by kernel_rfl) (by kernel_rfl) (by kernel_rfl) (by kernel_rfl) (by kernel_rfl) (by decide+kernel) (by kernel_rfl) (by kernel_rfl) (tzero trivial) k (fun m _=>okΓ m) (fun m _=>tstep trivial) (fun x y h=>(main k x).symm.trans h)
end qbe
namespace qbF
noncomputable abbrev con (k:Nat):Con:=⟨⟨[(0,.av Y23)],[]⟩,⟨[(0,.l (.val (.int .i64)))],[]⟩,fun x=>qbF.f k x,[]⟩
noncomputable abbrev Γ (k:Nat):Env:=lookE []
abbrev F:Fin Go.Proofs.Tryz.prog:=⟨⟨[(0,.l (.val (.int .i64)))],[]⟩,[],[.tmp 2],[]⟩
noncomputable abbrev Tl (k:Nat):List (Nat×Hint (prods F.cout.tys)):=[]
noncomputable abbrev T (k:Nat):Nat→Option (Hint (prods F.cout.tys)):=look (Tl k)
noncomputable abbrev body:Code:=Go.Proofs.Tryz.f110.body.getD .skip
theorem main (k:Nat) (x:prods (con 0).cin.tys):qbF.f k x=goK (Γ k) F (T k) 2000 [.code body] ((con 0).cin.st x):=by kernel_rfl
theorem okΓ (k:Nat):ΓOk Go.Proofs.Tryz.prog (Γ k):=Γnil
theorem ok (k:Nat):qaj Go.Proofs.Tryz.prog 110 (con k):=qai (Γ:=Γ) (fn:=Go.Proofs.Tryz.f110) (body:=body) (cin:=(con 0).cin) (F:=F) (T:=T) follows (by kernel_rfl) (by kernel_rfl) (by kernel_rfl) (by kernel_rfl) (by kernel_rfl) (by decide+kernel) (by kernel_rfl) (by kernel_rfl) (tzero trivial) k (fun m _=>okΓ m) (fun m _=>tstep trivial) (fun x y h=>(main k x).symm.trans h)
end qbF
namespace qaI
noncomputable abbrev con (k:Nat):Con:=⟨⟨[(0,.l (.val .str))],[]⟩,⟨[(0,.l (.val .bool))],[]⟩,fun x=>qaI.f k x,[]⟩
noncomputable abbrev Γ (k:Nat):Env:=lookE []
abbrev F:Fin Go.Proofs.Tryz.prog:=⟨⟨[(0,.l (.val .bool))],[]⟩,[],[.tmp 2],[]⟩
abbrev c2:Cut:=⟨[(0,.l (.val .str)),(7,.l (.val (.list 5 (.int .u8)))),(8,.l (.val (.int .i64))),(9,.l (.val (.int .i64)))],[]⟩
noncomputable abbrev Tl (k:Nat):List (Nat×Hint (prods F.cout.tys)):=[(2,⟨c2,fun x=>qaI.l2 k x.1 x.2.1 x.2.2.1 x.2.2.2⟩)]
noncomputable abbrev T (k:Nat):Nat→Option (Hint (prods F.cout.tys)):=look (Tl k)
noncomputable abbrev body:Code:=Go.Proofs.Tryz.f163.body.getD .skip
theorem s2 (k:Nat) (x:prods c2.tys):qaI.l2 (k+1) x.1 x.2.1 x.2.2.1 x.2.2.2=segK (Γ k) F (T k) body 2 (c2.st x):=by kernel_rfl
theorem main (k:Nat) (x:prods (con 0).cin.tys):qaI.f k x=goK (Γ k) F (T k) 2000 [.code body] ((con 0).cin.st x):=by kernel_rfl
theorem okΓ (k:Nat):ΓOk Go.Proofs.Tryz.prog (Γ k):=Γnil
theorem ok (k:Nat):qaj Go.Proofs.Tryz.prog 163 (con k):=qai (Γ:=Γ) (fn:=Go.Proofs.Tryz.f163) (body:=body) (cin:=(con 0).cin) (F:=F) (T:=T) follows (by kernel_rfl) (by kernel_rfl) (by kernel_rfl) (by kernel_rfl) (by kernel_rfl) (by decide+kernel) (by kernel_rfl) (by kernel_rfl) (tzero ⟨fun x=>by kernel_rfl,trivial⟩) k (fun m _=>okΓ m) (fun m _=>tstep ⟨fun x=>Eq.trans (by kernel_rfl) (s2 m x),trivial⟩) (fun x y h=>(main k x).symm.trans h)
end qaI
namespace slices_Index_string
noncomputable abbrev con (k:Nat):Con:=⟨⟨[(0,.l (.val (.list 9 .str))),(1,.l (.val .str))],[]⟩,⟨[(0,.l (.val (.int .i64)))],[]⟩,fun x=>slices_Index_string.f k x.1 x.2,[]⟩
noncomputable abbrev Γ (k:Nat):Env:=lookE []
abbrev F:Fin Go.Proofs.Tryz.prog:=⟨⟨[(0,.l (.val (.int .i64)))],[]⟩,[],[.tmp 4],[]⟩
abbrev c2:Cut:=⟨[(0,.l (.val (.list 9 .str))),(1,.l (.val .str)),(7,.l (.val (.int .i64))),(8,.l (.val (.int .i64)))],[]⟩
noncomputable abbrev Tl (k:Nat):List (Nat×Hint (prods F.cout.tys)):=[(2,⟨c2,fun x=>slices_Index_string.l2 k x.1 x.2.1 x.2.2.1 x.2.2.2⟩)]
noncomputable abbrev T (k:Nat):Nat→Option (Hint (prods F.cout.tys)):=look (Tl k)
noncomputable abbrev body:Code:=Go.Proofs.Tryz.f19.body.getD .skip
theorem s2 (k:Nat) (x:prods c2.tys):slices_Index_string.l2 (k+1) x.1 x.2.1 x.2.2.1 x.2.2.2=segK (Γ k) F (T k) body 2 (c2.st x):=by kernel_rfl
theorem main (k:Nat) (x:prods (con 0).cin.tys):slices_Index_string.f k x.1 x.2=goK (Γ k) F (T k) 2000 [.code body] ((con 0).cin.st x):=by kernel_rfl
theorem okΓ (k:Nat):ΓOk Go.Proofs.Tryz.prog (Γ k):=Γnil
theorem ok (k:Nat):qaj Go.Proofs.Tryz.prog 19 (con k):=qai (Γ:=Γ) (fn:=Go.Proofs.Tryz.f19) (body:=body) (cin:=(con 0).cin) (F:=F) (T:=T) follows (by kernel_rfl) (by kernel_rfl) (by kernel_rfl) (by kernel_rfl) (by kernel_rfl) (by decide+kernel) (by kernel_rfl) (by kernel_rfl) (tzero ⟨fun x=>by kernel_rfl,trivial⟩) k (fun m _=>okΓ m) (fun m _=>tstep ⟨fun x=>Eq.trans (by kernel_rfl) (s2 m x),trivial⟩) (fun x y h=>(main k x).symm.trans h)
end slices_Index_string
namespace slices_Contains_string
noncomputable abbrev con (k:Nat):Con:=⟨⟨[(0,.l (.val (.list 9 .str))),(1,.l (.val .str))],[]⟩,⟨[(0,.l (.val .bool))],[]⟩,fun x=>slices_Contains_string.f k x.1 x.2,[]⟩
noncomputable abbrev Γ (k:Nat):Env:=lookE [((19,0),slices_Index_string.con k)]
abbrev F:Fin Go.Proofs.Tryz.prog:=⟨⟨[(0,.l (.val .bool))],[]⟩,[],[.tmp 4],[]⟩
noncomputable abbrev Tl (k:Nat):List (Nat×Hint (prods F.cout.tys)):=[]
noncomputable abbrev T (k:Nat):Nat→Option (Hint (prods F.cout.tys)):=look (Tl k)
noncomputable abbrev body:Code:=Go.Proofs.Tryz.f107.body.getD .skip
theorem main (k:Nat) (x:prods (con 0).cin.tys):slices_Contains_string.f k x.1 x.2=goK (Γ k) F (T k) 2000 [.code body] ((con 0).cin.st x):=by kernel_rfl
theorem okΓ (k:Nat):ΓOk Go.Proofs.Tryz.prog (Γ k):=Γcons (slices_Index_string.ok k) ⟨Go.Proofs.Tryz.f19,by kernel_rfl,by kernel_rfl,by kernel_rfl⟩ (Γnil)
theorem ok (k:Nat):qaj Go.Proofs.Tryz.prog 107 (con k):=qai (Γ:=Γ) (fn:=Go.Proofs.Tryz.f107) (body:=body) (cin:=(con 0).cin) (F:=F) (T:=T) follows (by kernel_rfl) (by kernel_rfl) (by kernel_rfl) (by kernel_rfl) (by kernel_rfl) (by decide+kernel) (by kernel_rfl) (by kernel_rfl) (tzero trivial) k (fun m _=>okΓ m) (fun m _=>tstep trivial) (fun x y h=>(main k x).symm.trans h)
end slices_Contains_string
namespace qaS
noncomputable abbrev con (k:Nat):Con:=⟨⟨[(0,.l (.ptr 9000000 0)),(1,.l (.val .str))],[(9000000,.box 187 [.row 9000001]),(9000001,.row 9 .str)]⟩,⟨[(0,.l (.val (.int .i64)))],[(9000000,.box 187 [.row 0]),(9000001,.gone),(0,.row 9 .str)]⟩,fun x=>qaS.f k x.1 x.2,[]⟩
noncomputable abbrev Γ (k:Nat):Env:=lookE [((107,0),slices_Contains_string.con k),((163,0),qaI.con k)]
abbrev F:Fin Go.Proofs.Tryz.prog:=⟨⟨[(0,.l (.val (.int .i64)))],[(9000000,.box 187 [.row 0]),(9000001,.gone),(0,.row 9 .str)]⟩,[9000000,9000001],[.tmp 4],[]⟩
noncomputable abbrev Tl (k:Nat):List (Nat×Hint (prods F.cout.tys)):=[]
noncomputable abbrev T (k:Nat):Nat→Option (Hint (prods F.cout.tys)):=look (Tl k)
noncomputable abbrev body:Code:=Go.Proofs.Tryz.f111.body.getD .skip
theorem main (k:Nat) (x:prods (con 0).cin.tys):qaS.f k x.1 x.2=goK (Γ k) F (T k) 2000 [.code body] ((con 0).cin.st x):=by kernel_rfl
theorem okΓ (k:Nat):ΓOk Go.Proofs.Tryz.prog (Γ k):=Γcons (slices_Contains_string.ok k) ⟨Go.Proofs.Tryz.f107,by kernel_rfl,by kernel_rfl,by kernel_rfl⟩ (Γcons (qaI.ok k) ⟨Go.Proofs.Tryz.f163,by kernel_rfl,by kernel_rfl,by kernel_rfl⟩ (Γnil))
theorem ok (k:Nat):qaj Go.Proofs.Tryz.prog 111 (con k):=qai (Γ:=Γ) (fn:=Go.Proofs.Tryz.f111) (body:=body) (cin:=(con 0).cin) (F:=F) (T:=T) follows (by kernel_rfl) (by kernel_rfl) (by kernel_rfl) (by kernel_rfl) (by kernel_rfl) (by decide+kernel) (by kernel_rfl) (by kernel_rfl) (tzero trivial) k (fun m _=>okΓ m) (fun m _=>tstep trivial) (fun x y h=>(main k x).symm.trans h)
end qaS
namespace qaY
noncomputable abbrev con (k:Nat):Con:=⟨⟨[(0,.av Y23),(1,.l (.val (.list 9 .str)))],[]⟩,⟨[(0,.l (.val (.int .i64)))],[]⟩,fun x=>qaY.f k x.1 x.2,[]⟩
noncomputable abbrev Γ (k:Nat):Env:=lookE [((107,0),slices_Contains_string.con k)]
abbrev F:Fin Go.Proofs.Tryz.prog:=⟨⟨[(0,.l (.val (.int .i64)))],[]⟩,[],[.tmp 4],[]⟩
abbrev c2:Cut:=⟨[(2,.l (.ptr 7000000 0)),(7,.l (.val (.list 9 .str))),(8,.l (.val (.int .i64))),(9,.l (.val (.int .i64)))],[(7000000,.box 29 [.val (.list 9 .str),.val (.list 190 Y3),.val (.list 60 Y11),.val (.list 48 Y13),.val (.list 51 Y15),.val (.list 240 Y13)])]⟩
noncomputable abbrev Tl (k:Nat):List (Nat×Hint (prods F.cout.tys)):=[(2,⟨c2,fun x=>qaY.l2 k x.1 x.2.1 x.2.2.1 x.2.2.2.1 x.2.2.2.2.1 x.2.2.2.2.2.1 x.2.2.2.2.2.2.1 x.2.2.2.2.2.2.2.1 x.2.2.2.2.2.2.2.2⟩)]
noncomputable abbrev T (k:Nat):Nat→Option (Hint (prods F.cout.tys)):=look (Tl k)
noncomputable abbrev body:Code:=Go.Proofs.Tryz.f164.body.getD .skip
theorem s2 (k:Nat) (x:prods c2.tys):qaY.l2 (k+1) x.1 x.2.1 x.2.2.1 x.2.2.2.1 x.2.2.2.2.1 x.2.2.2.2.2.1 x.2.2.2.2.2.2.1 x.2.2.2.2.2.2.2.1 x.2.2.2.2.2.2.2.2=segK (Γ k) F (T k) body 2 (c2.st x):=by kernel_rfl
theorem main (k:Nat) (x:prods (con 0).cin.tys):qaY.f k x.1 x.2=goK (Γ k) F (T k) 2000 [.code body] ((con 0).cin.st x):=by kernel_rfl
theorem okΓ (k:Nat):ΓOk Go.Proofs.Tryz.prog (Γ k):=Γcons (slices_Contains_string.ok k) ⟨Go.Proofs.Tryz.f107,by kernel_rfl,by kernel_rfl,by kernel_rfl⟩ (Γnil)
theorem ok (k:Nat):qaj Go.Proofs.Tryz.prog 164 (con k):=qai (Γ:=Γ) (fn:=Go.Proofs.Tryz.f164) (body:=body) (cin:=(con 0).cin) (F:=F) (T:=T) follows (by kernel_rfl) (by kernel_rfl) (by kernel_rfl) (by kernel_rfl) (by kernel_rfl) (by decide+kernel) (by kernel_rfl) (by kernel_rfl) (tzero ⟨fun x=>by kernel_rfl,trivial⟩) k (fun m _=>okΓ m) (fun m _=>tstep ⟨fun x=>Eq.trans (by kernel_rfl) (s2 m x),trivial⟩) (fun x y h=>(main k x).symm.trans h)
end qaY
namespace qaN
noncomputable abbrev con (k:Nat):Con:=⟨⟨[(0,.av Y23),(1,.l (.ptr 9000000 0)),(2,.l (.val .str)),(3,.l (.val (.list 9 .str)))],[(9000000,.box 187 [.row 9000001]),(9000001,.row 9 .str)]⟩,⟨[(0,.l (.val (.int .i64)))],[(9000000,.box 187 [.row 0]),(9000001,.gone),(0,.row 9 .str)]⟩,fun x=>qaN.f k x.1 x.2.1 x.2.2.1 x.2.2.2,[]⟩
noncomputable abbrev Γ (k:Nat):Env:=lookE [((111,0),qaS.con k),((164,0),qaY.con k)]
abbrev F:Fin Go.Proofs.Tryz.prog:=⟨⟨[(0,.l (.val (.int .i64)))],[(9000000,.box 187 [.row 0]),(9000001,.gone),(0,.row 9 .str)]⟩,[9000000,9000001],[.tmp 8],[]⟩
noncomputable abbrev Tl (k:Nat):List (Nat×Hint (prods F.cout.tys)):=[]
noncomputable abbrev T (k:Nat):Nat→Option (Hint (prods F.cout.tys)):=look (Tl k)
noncomputable abbrev body:Code:=Go.Proofs.Tryz.f112.body.getD .skip
theorem main (k:Nat) (x:prods (con 0).cin.tys):qaN.f k x.1 x.2.1 x.2.2.1 x.2.2.2=goK (Γ k) F (T k) 2000 [.code body] ((con 0).cin.st x):=by kernel_rfl
theorem okΓ (k:Nat):ΓOk Go.Proofs.Tryz.prog (Γ k):=Γcons (qaS.ok k) ⟨Go.Proofs.Tryz.f111,by kernel_rfl,by kernel_rfl,by kernel_rfl⟩ (Γcons (qaY.ok k) ⟨Go.Proofs.Tryz.f164,by kernel_rfl,by kernel_rfl,by kernel_rfl⟩ (Γnil))
theorem ok (k:Nat):qaj Go.Proofs.Tryz.prog 112 (con k):=qai (Γ:=Γ) (fn:=Go.Proofs.Tryz.f112) (body:=body) (cin:=(con 0).cin) (F:=F) (T:=T) follows (by kernel_rfl) (by kernel_rfl) (by kernel_rfl) (by kernel_rfl) (by kernel_rfl) (by decide+kernel) (by kernel_rfl) (by kernel_rfl) (tzero trivial) k (fun m _=>okΓ m) (fun m _=>tstep trivial) (fun x y h=>(main k x).symm.trans h)
end qaN
namespace qau
noncomputable abbrev con (k:Nat):Con:=⟨⟨[(0,.l (.val (.int .i64))),(1,.l (.val (.int .i64))),(2,.l (.val (.int .i64)))],[]⟩,⟨[(0,.l (.val .bool))],[]⟩,fun x=>qau.f k x.1 x.2.1 x.2.2,[]⟩
noncomputable abbrev Γ (k:Nat):Env:=lookE []
abbrev F:Fin Go.Proofs.Tryz.prog:=⟨⟨[(0,.l (.val .bool))],[]⟩,[],[.tmp 6],[]⟩
noncomputable abbrev Tl (k:Nat):List (Nat×Hint (prods F.cout.tys)):=[]
noncomputable abbrev T (k:Nat):Nat→Option (Hint (prods F.cout.tys)):=look (Tl k)
noncomputable abbrev body:Code:=Go.Proofs.Tryz.f165.body.getD .skip
theorem main (k:Nat) (x:prods (con 0).cin.tys):qau.f k x.1 x.2.1 x.2.2=goK (Γ k) F (T k) 2000 [.code body] ((con 0).cin.st x):=by kernel_rfl
theorem okΓ (k:Nat):ΓOk Go.Proofs.Tryz.prog (Γ k):=Γnil
theorem ok (k:Nat):qaj Go.Proofs.Tryz.prog 165 (con k):=qai (Γ:=Γ) (fn:=Go.Proofs.Tryz.f165) (body:=body) (cin:=(con 0).cin) (F:=F) (T:=T) follows (by kernel_rfl) (by kernel_rfl) (by kernel_rfl) (by kernel_rfl) (by kernel_rfl) (by decide+kernel) (by kernel_rfl) (by kernel_rfl) (tzero trivial) k (fun m _=>okΓ m) (fun m _=>tstep trivial) (fun x y h=>(main k x).symm.trans h)
end qau
namespace qbn
noncomputable abbrev con (k:Nat):Con:=⟨⟨[(0,.av Y11)],[]⟩,⟨[(0,.l (.val (.int .i64)))],[]⟩,fun x=>qbn.f k x,[]⟩
noncomputable abbrev Γ (k:Nat):Env:=lookE [((165,0),qau.con k)]
abbrev F:Fin Go.Proofs.Tryz.prog:=⟨⟨[(0,.l (.val (.int .i64)))],[]⟩,[],[.tmp 2],[]⟩
noncomputable abbrev Tl (k:Nat):List (Nat×Hint (prods F.cout.tys)):=[]
noncomputable abbrev T (k:Nat):Nat→Option (Hint (prods F.cout.tys)):=look (Tl k)
noncomputable abbrev body:Code:=Go.Proofs.Tryz.f113.body.getD .skip
theorem main (k:Nat) (x:prods (con 0).cin.tys):qbn.f k x=goK (Γ k) F (T k) 2000 [.code body] ((con 0).cin.st x):=by kernel_rfl
theorem okΓ (k:Nat):ΓOk Go.Proofs.Tryz.prog (Γ k):=Γcons (qau.ok k) ⟨Go.Proofs.Tryz.f165,by kernel_rfl,by kernel_rfl,by kernel_rfl⟩ (Γnil)
theorem ok (k:Nat):qaj Go.Proofs.Tryz.prog 113 (con k):=qai (Γ:=Γ) (fn:=Go.Proofs.Tryz.f113) (body:=body) (cin:=(con 0).cin) (F:=F) (T:=T) follows (by kernel_rfl) (by kernel_rfl) (by kernel_rfl) (by kernel_rfl) (by kernel_rfl) (by decide+kernel) (by kernel_rfl) (by kernel_rfl) (tzero trivial) k (fun m _=>okΓ m) (fun m _=>tstep trivial) (fun x y h=>(main k x).symm.trans h)
end qbn
namespace qah
noncomputable abbrev con (k:Nat):Con:=⟨⟨[(0,.av Y23),(1,.l (.ptr 9000000 0))],[(9000000,.box 187 [.row 9000001]),(9000001,.row 9 .str)]⟩,⟨[(0,.l (.val (.int .i64)))],[(9000000,.box 187 [.row 0]),(9000001,.gone),(0,.row 9 .str)]⟩,fun x=>qah.f k x.1 x.2,[]⟩
noncomputable abbrev Γ (k:Nat):Env:=lookE [((112,0),qaN.con k),((165,0),qau.con k)]
abbrev F:Fin Go.Proofs.Tryz.prog:=⟨⟨[(0,.l (.val (.int .i64)))],[(9000000,.box 187 [.row 0]),(9000001,.gone),(0,.row 9 .str)]⟩,[9000000,9000001],[.tmp 4],[]⟩
abbrev c2:Cut:=⟨[(1,.l (.ptr 9000000 0)),(2,.l (.ptr 7000000 0)),(15,.l (.val (.list 48 Y13))),(16,.l (.val (.int .i64))),(17,.l (.val (.int .i64)))],[(9000000,.box 187 [.row 7000001]),(9000001,.gone),(7000000,.box 29 [.val (.list 9 .str),.val (.list 190 Y3),.val (.list 60 Y11),.val (.list 48 Y13),.val (.list 51 Y15),.val (.list 240 Y13)]),(7000001,.row 9 .str)]⟩
abbrev c11:Cut:=⟨[(1,.l (.ptr 9000000 0)),(2,.l (.ptr 7000000 0)),(52,.l (.val (.list 51 Y15))),(53,.l (.val (.int .i64))),(54,.l (.val (.int .i64)))],[(9000000,.box 187 [.row 7000001]),(9000001,.gone),(7000000,.box 29 [.val (.list 9 .str),.val (.list 190 Y3),.val (.list 60 Y11),.val (.list 48 Y13),.val (.list 51 Y15),.val (.list 240 Y13)]),(7000001,.row 9 .str)]⟩
abbrev c20:Cut:=⟨[(1,.l (.ptr 9000000 0)),(2,.l (.ptr 7000000 0)),(75,.l (.val (.list 240 Y13))),(76,.l (.val (.int .i64))),(77,.l (.val (.int .i64)))],[(9000000,.box 187 [.row 7000001]),(9000001,.gone),(7000000,.box 29 [.val (.list 9 .str),.val (.list 190 Y3),.val (.list 60 Y11),.val (.list 48 Y13),.val (.list 51 Y15),.val (.list 240 Y13)]),(7000001,.row 9 .str)]⟩
noncomputable abbrev Tl (k:Nat):List (Nat×Hint (prods F.cout.tys)):=[(2,⟨c2,fun x=>qah.l2 k x.1 x.2.1 x.2.2.1 x.2.2.2.1 x.2.2.2.2.1 x.2.2.2.2.2.1 x.2.2.2.2.2.2.1 x.2.2.2.2.2.2.2.1 x.2.2.2.2.2.2.2.2.1 x.2.2.2.2.2.2.2.2.2⟩),(11,⟨c11,fun x=>qah.l11 k x.1 x.2.1 x.2.2.1 x.2.2.2.1 x.2.2.2.2.1 x.2.2.2.2.2.1 x.2.2.2.2.2.2.1 x.2.2.2.2.2.2.2.1 x.2.2.2.2.2.2.2.2.1 x.2.2.2.2.2.2.2.2.2⟩),(20,⟨c20,fun x=>qah.l20 k x.1 x.2.1 x.2.2.1 x.2.2.2.1 x.2.2.2.2.1 x.2.2.2.2.2.1 x.2.2.2.2.2.2.1 x.2.2.2.2.2.2.2.1 x.2.2.2.2.2.2.2.2.1 x.2.2.2.2.2.2.2.2.2⟩)]
noncomputable abbrev T (k:Nat):Nat→Option (Hint (prods F.cout.tys)):=look (Tl k)
noncomputable abbrev body:Code:=Go.Proofs.Tryz.f114.body.getD .skip
theorem s2 (k:Nat) (x:prods c2.tys):qah.l2 (k+1) x.1 x.2.1 x.2.2.1 x.2.2.2.1 x.2.2.2.2.1 x.2.2.2.2.2.1 x.2.2.2.2.2.2.1 x.2.2.2.2.2.2.2.1 x.2.2.2.2.2.2.2.2.1 x.2.2.2.2.2.2.2.2.2=segK (Γ k) F (T k) body 2 (c2.st x):=by kernel_rfl
theorem s11 (k:Nat) (x:prods c11.tys):qah.l11 (k+1) x.1 x.2.1 x.2.2.1 x.2.2.2.1 x.2.2.2.2.1 x.2.2.2.2.2.1 x.2.2.2.2.2.2.1 x.2.2.2.2.2.2.2.1 x.2.2.2.2.2.2.2.2.1 x.2.2.2.2.2.2.2.2.2=segK (Γ k) F (T k) body 11 (c11.st x):=by kernel_rfl
theorem s20 (k:Nat) (x:prods c20.tys):qah.l20 (k+1) x.1 x.2.1 x.2.2.1 x.2.2.2.1 x.2.2.2.2.1 x.2.2.2.2.2.1 x.2.2.2.2.2.2.1 x.2.2.2.2.2.2.2.1 x.2.2.2.2.2.2.2.2.1 x.2.2.2.2.2.2.2.2.2=segK (Γ k) F (T k) body 20 (c20.st x):=by kernel_rfl
theorem main (k:Nat) (x:prods (con 0).cin.tys):qah.f k x.1 x.2=goK (Γ k) F (T k) 2000 [.code body] ((con 0).cin.st x):=by kernel_rfl
theorem okΓ (k:Nat):ΓOk Go.Proofs.Tryz.prog (Γ k):=Γcons (qaN.ok k) ⟨Go.Proofs.Tryz.f112,by kernel_rfl,by kernel_rfl,by kernel_rfl⟩ (Γcons (qau.ok k) ⟨Go.Proofs.Tryz.f165,by kernel_rfl,by kernel_rfl,by kernel_rfl⟩ (Γnil))
theorem ok (k:Nat):qaj Go.Proofs.Tryz.prog 114 (con k):=qai (Γ:=Γ) (fn:=Go.Proofs.Tryz.f114) (body:=body) (cin:=(con 0).cin) (F:=F) (T:=T) follows (by kernel_rfl) (by kernel_rfl) (by kernel_rfl) (by kernel_rfl) (by kernel_rfl) (by decide+kernel) (by kernel_rfl) (by kernel_rfl) (tzero ⟨fun x=>by kernel_rfl,fun x=>by kernel_rfl,fun x=>by kernel_rfl,trivial⟩) k (fun m _=>okΓ m) (fun m _=>tstep ⟨fun x=>Eq.trans (by kernel_rfl) (s2 m x),fun x=>Eq.trans (by kernel_rfl) (s11 m x),fun x=>Eq.trans (by kernel_rfl) (s20 m x),trivial⟩) (fun x y h=>(main k x).symm.trans h)
end qah
namespace qaf
noncomputable abbrev con (k:Nat):Con:=⟨⟨[(0,.av Y23)],[]⟩,⟨[(0,.l (.val (.int .i64)))],[]⟩,fun x=>qaf.f k x,[]⟩
noncomputable abbrev Γ (k:Nat):Env:=lookE [((110,0),qbF.con k),((111,0),qaS.con k),((112,0),qaN.con k),((113,0),qbn.con k),((114,0),qah.con k)]
abbrev F:Fin Go.Proofs.Tryz.prog:=⟨⟨[(0,.l (.val (.int .i64)))],[]⟩,[],[.tmp 2],[]⟩
abbrev c6:Cut:=⟨[(1,.l (.ptr 7000000 0)),(4,.l (.ptr 7000001 0)),(21,.l (.val (.list 9 .str))),(22,.l (.val (.int .i64))),(23,.l (.val (.int .i64)))],[(7000000,.box 29 [.val (.list 9 .str),.val (.list 190 Y3),.val (.list 60 Y11),.val (.list 48 Y13),.val (.list 51 Y15),.val (.list 240 Y13)]),(7000001,.box 187 [.row 7000502]),(7000502,.row 9 .str)]⟩
abbrev c13:Cut:=⟨[(1,.l (.ptr 7000000 0)),(4,.l (.ptr 7000001 0)),(34,.l (.val (.list 190 Y3))),(35,.l (.val (.int .i64))),(36,.l (.val (.int .i64)))],[(7000000,.box 29 [.val (.list 9 .str),.val (.list 190 Y3),.val (.list 60 Y11),.val (.list 48 Y13),.val (.list 51 Y15),.val (.list 240 Y13)]),(7000001,.box 187 [.row 7000002]),(7000002,.row 9 .str)]⟩
abbrev c22:Cut:=⟨[(1,.l (.ptr 7000000 0)),(4,.l (.ptr 7000001 0)),(59,.l (.val (.list 60 Y11))),(60,.l (.val (.int .i64))),(61,.l (.val (.int .i64)))],[(7000000,.box 29 [.val (.list 9 .str),.val (.list 190 Y3),.val (.list 60 Y11),.val (.list 48 Y13),.val (.list 51 Y15),.val (.list 240 Y13)]),(7000001,.box 187 [.row 7000002]),(7000002,.row 9 .str)]⟩
noncomputable abbrev Tl (k:Nat):List (Nat×Hint (prods F.cout.tys)):=[(6,⟨c6,fun x=>qaf.l6 k x.1 x.2.1 x.2.2.1 x.2.2.2.1 x.2.2.2.2.1 x.2.2.2.2.2.1 x.2.2.2.2.2.2.1 x.2.2.2.2.2.2.2.1 x.2.2.2.2.2.2.2.2.1 x.2.2.2.2.2.2.2.2.2⟩),(13,⟨c13,fun x=>qaf.l13 k x.1 x.2.1 x.2.2.1 x.2.2.2.1 x.2.2.2.2.1 x.2.2.2.2.2.1 x.2.2.2.2.2.2.1 x.2.2.2.2.2.2.2.1 x.2.2.2.2.2.2.2.2.1 x.2.2.2.2.2.2.2.2.2⟩),(22,⟨c22,fun x=>qaf.l22 k x.1 x.2.1 x.2.2.1 x.2.2.2.1 x.2.2.2.2.1 x.2.2.2.2.2.1 x.2.2.2.2.2.2.1 x.2.2.2.2.2.2.2.1 x.2.2.2.2.2.2.2.2.1 x.2.2.2.2.2.2.2.2.2⟩)]
noncomputable abbrev T (k:Nat):Nat→Option (Hint (prods F.cout.tys)):=look (Tl k)
noncomputable abbrev body:Code:=Go.Proofs.Tryz.f53.body.getD .skip
theorem s6 (k:Nat) (x:prods c6.tys):qaf.l6 (k+1) x.1 x.2.1 x.2.2.1 x.2.2.2.1 x.2.2.2.2.1 x.2.2.2.2.2.1 x.2.2.2.2.2.2.1 x.2.2.2.2.2.2.2.1 x.2.2.2.2.2.2.2.2.1 x.2.2.2.2.2.2.2.2.2=segK (Γ k) F (T k) body 6 (c6.st x):=by kernel_rfl
theorem s13 (k:Nat) (x:prods c13.tys):qaf.l13 (k+1) x.1 x.2.1 x.2.2.1 x.2.2.2.1 x.2.2.2.2.1 x.2.2.2.2.2.1 x.2.2.2.2.2.2.1 x.2.2.2.2.2.2.2.1 x.2.2.2.2.2.2.2.2.1 x.2.2.2.2.2.2.2.2.2=segK (Γ k) F (T k) body 13 (c13.st x):=by kernel_rfl
theorem s22 (k:Nat) (x:prods c22.tys):qaf.l22 (k+1) x.1 x.2.1 x.2.2.1 x.2.2.2.1 x.2.2.2.2.1 x.2.2.2.2.2.1 x.2.2.2.2.2.2.1 x.2.2.2.2.2.2.2.1 x.2.2.2.2.2.2.2.2.1 x.2.2.2.2.2.2.2.2.2=segK (Γ k) F (T k) body 22 (c22.st x):=by kernel_rfl
theorem main (k:Nat) (x:prods (con 0).cin.tys):qaf.f k x=goK (Γ k) F (T k) 2000 [.code body] ((con 0).cin.st x):=by kernel_rfl
theorem okΓ (k:Nat):ΓOk Go.Proofs.Tryz.prog (Γ k):=Γcons (qbF.ok k) ⟨Go.Proofs.Tryz.f110,by kernel_rfl,by kernel_rfl,by kernel_rfl⟩ (Γcons (qaS.ok k) ⟨Go.Proofs.Tryz.f111,by kernel_rfl,by kernel_rfl,by kernel_rfl⟩ (Γcons (qaN.ok k) ⟨Go.Proofs.Tryz.f112,by kernel_rfl,by kernel_rfl,by kernel_rfl⟩ (Γcons (qbn.ok k) ⟨Go.Proofs.Tryz.f113,by kernel_rfl,by kernel_rfl,by kernel_rfl⟩ (Γcons (qah.ok k) ⟨Go.Proofs.Tryz.f114,by kernel_rfl,by kernel_rfl,by kernel_rfl⟩ (Γnil)))))
theorem ok (k:Nat):qaj Go.Proofs.Tryz.prog 53 (con k):=qai (Γ:=Γ) (fn:=Go.Proofs.Tryz.f53) (body:=body) (cin:=(con 0).cin) (F:=F) (T:=T) follows (by kernel_rfl) (by kernel_rfl) (by kernel_rfl) (by kernel_rfl) (by kernel_rfl) (by decide+kernel) (by kernel_rfl) (by kernel_rfl) (tzero ⟨fun x=>by kernel_rfl,fun x=>by kernel_rfl,fun x=>by kernel_rfl,trivial⟩) k (fun m _=>okΓ m) (fun m _=>tstep ⟨fun x=>Eq.trans (by kernel_rfl) (s6 m x),fun x=>Eq.trans (by kernel_rfl) (s13 m x),fun x=>Eq.trans (by kernel_rfl) (s22 m x),trivial⟩) (fun x y h=>(main k x).symm.trans h)
end qaf
namespace qbE
noncomputable abbrev con (k:Nat):Con:=⟨⟨[(0,.av Y23),(1,.l (.val .str))],[]⟩,⟨[(0,.l (.val (.int .i64))),(1,.l (.val (.int .i64)))],[]⟩,fun x=>qbE.f k x.1 x.2,[]⟩
noncomputable abbrev Γ (k:Nat):Env:=lookE [((19,0),slices_Index_string.con k),((53,0),qaf.con k)]
abbrev F:Fin Go.Proofs.Tryz.prog:=⟨⟨[(0,.l (.val (.int .i64))),(1,.l (.val (.int .i64)))],[]⟩,[],[.tmp 4,.tmp 5],[]⟩
noncomputable abbrev Tl (k:Nat):List (Nat×Hint (prods F.cout.tys)):=[]
noncomputable abbrev T (k:Nat):Nat→Option (Hint (prods F.cout.tys)):=look (Tl k)
noncomputable abbrev body:Code:=Go.Proofs.Tryz.f117.body.getD .skip
theorem main (k:Nat) (x:prods (con 0).cin.tys):qbE.f k x.1 x.2=goK (Γ k) F (T k) 2000 [.code body] ((con 0).cin.st x):=by kernel_rfl
theorem okΓ (k:Nat):ΓOk Go.Proofs.Tryz.prog (Γ k):=Γcons (slices_Index_string.ok k) ⟨Go.Proofs.Tryz.f19,by kernel_rfl,by kernel_rfl,by kernel_rfl⟩ (Γcons (qaf.ok k) ⟨Go.Proofs.Tryz.f53,by kernel_rfl,by kernel_rfl,by kernel_rfl⟩ (Γnil))
theorem ok (k:Nat):qaj Go.Proofs.Tryz.prog 117 (con k):=qai (Γ:=Γ) (fn:=Go.Proofs.Tryz.f117) (body:=body) (cin:=(con 0).cin) (F:=F) (T:=T) follows (by kernel_rfl) (by kernel_rfl) (by kernel_rfl) (by kernel_rfl) (by kernel_rfl) (by decide+kernel) (by kernel_rfl) (by kernel_rfl) (tzero trivial) k (fun m _=>okΓ m) (fun m _=>tstep trivial) (fun x y h=>(main k x).symm.trans h)
end qbE
namespace qaX
noncomputable abbrev con (k:Nat):Con:=⟨⟨[(0,.av Y23)],[]⟩,⟨[(0,.l (.val (.list 211 Y4)))],[]⟩,fun x=>qaX.f k x,[]⟩
noncomputable abbrev Γ (k:Nat):Env:=lookE [((19,0),slices_Index_string.con k)]
abbrev F:Fin Go.Proofs.Tryz.prog:=⟨⟨[(0,.l (.val (.list 211 Y4)))],[]⟩,[],[.tmp 2],[]⟩
abbrev c3:Cut:=⟨[(1,.l (.ptr 7000000 0)),(3,.l (.row 7000501)),(7,.l (.val (.list 190 Y3))),(8,.l (.val (.int .i64))),(9,.l (.val (.int .i64)))],[(7000000,.box 29 [.val (.list 9 .str),.val (.list 190 Y3),.val (.list 60 Y11),.val (.list 48 Y13),.val (.list 51 Y15),.val (.list 240 Y13)]),(7000501,.row 211 Y4)]⟩
noncomputable abbrev Tl (k:Nat):List (Nat×Hint (prods F.cout.tys)):=[(3,⟨c3,fun x=>qaX.l3 k x.1 x.2.1 x.2.2.1 x.2.2.2.1 x.2.2.2.2.1 x.2.2.2.2.2.1 x.2.2.2.2.2.2.1 x.2.2.2.2.2.2.2.1 x.2.2.2.2.2.2.2.2.1 x.2.2.2.2.2.2.2.2.2⟩)]
noncomputable abbrev T (k:Nat):Nat→Option (Hint (prods F.cout.tys)):=look (Tl k)
noncomputable abbrev body:Code:=Go.Proofs.Tryz.f189.body.getD .skip
theorem s3 (k:Nat) (x:prods c3.tys):qaX.l3 (k+1) x.1 x.2.1 x.2.2.1 x.2.2.2.1 x.2.2.2.2.1 x.2.2.2.2.2.1 x.2.2.2.2.2.2.1 x.2.2.2.2.2.2.2.1 x.2.2.2.2.2.2.2.2.1 x.2.2.2.2.2.2.2.2.2=segK (Γ k) F (T k) body 3 (c3.st x):=by kernel_rfl
theorem main (k:Nat) (x:prods (con 0).cin.tys):qaX.f k x=goK (Γ k) F (T k) 2000 [.code body] ((con 0).cin.st x):=by kernel_rfl
theorem okΓ (k:Nat):ΓOk Go.Proofs.Tryz.prog (Γ k):=Γcons (slices_Index_string.ok k) ⟨Go.Proofs.Tryz.f19,by kernel_rfl,by kernel_rfl,by kernel_rfl⟩ (Γnil)
theorem ok (k:Nat):qaj Go.Proofs.Tryz.prog 189 (con k):=qai (Γ:=Γ) (fn:=Go.Proofs.Tryz.f189) (body:=body) (cin:=(con 0).cin) (F:=F) (T:=T) follows (by kernel_rfl) (by kernel_rfl) (by kernel_rfl) (by kernel_rfl) (by kernel_rfl) (by decide+kernel) (by kernel_rfl) (by kernel_rfl) (tzero ⟨fun x=>by kernel_rfl,trivial⟩) k (fun m _=>okΓ m) (fun m _=>tstep ⟨fun x=>Eq.trans (by kernel_rfl) (s3 m x),trivial⟩) (fun x y h=>(main k x).symm.trans h)
end qaX
namespace bits_Mul64
noncomputable abbrev con (k:Nat):Con:=⟨⟨[(0,.l (.val (.int .u64))),(1,.l (.val (.int .u64)))],[]⟩,⟨[(0,.l (.val (.int .u64))),(1,.l (.val (.int .u64)))],[]⟩,fun x=>bits_Mul64.f k x.1 x.2,[]⟩
noncomputable abbrev Γ (k:Nat):Env:=lookE []
abbrev F:Fin Go.Proofs.Tryz.prog:=⟨⟨[(0,.l (.val (.int .u64))),(1,.l (.val (.int .u64)))],[]⟩,[],[.tmp 4,.tmp 5],[]⟩
noncomputable abbrev Tl (k:Nat):List (Nat×Hint (prods F.cout.tys)):=[]
noncomputable abbrev T (k:Nat):Nat→Option (Hint (prods F.cout.tys)):=look (Tl k)
noncomputable abbrev body:Code:=Go.Proofs.Tryz.f230.body.getD .skip
theorem main (k:Nat) (x:prods (con 0).cin.tys):bits_Mul64.f k x.1 x.2=goK (Γ k) F (T k) 2000 [.code body] ((con 0).cin.st x):=by kernel_rfl
theorem okΓ (k:Nat):ΓOk Go.Proofs.Tryz.prog (Γ k):=Γnil
theorem ok (k:Nat):qaj Go.Proofs.Tryz.prog 230 (con k):=qai (Γ:=Γ) (fn:=Go.Proofs.Tryz.f230) (body:=body) (cin:=(con 0).cin) (F:=F) (T:=T) follows (by kernel_rfl) (by kernel_rfl) (by kernel_rfl) (by kernel_rfl) (by kernel_rfl) (by decide+kernel) (by kernel_rfl) (by kernel_rfl) (tzero trivial) k (fun m _=>okΓ m) (fun m _=>tstep trivial) (fun x y h=>(main k x).symm.trans h)
end bits_Mul64
namespace bits_Mul
noncomputable abbrev con (k:Nat):Con:=⟨⟨[(0,.l (.val (.int .u64))),(1,.l (.val (.int .u64)))],[]⟩,⟨[(0,.l (.val (.int .u64))),(1,.l (.val (.int .u64)))],[]⟩,fun x=>bits_Mul.f k x.1 x.2,[]⟩
noncomputable abbrev Γ (k:Nat):Env:=lookE [((230,0),bits_Mul64.con k)]
abbrev F:Fin Go.Proofs.Tryz.prog:=⟨⟨[(0,.l (.val (.int .u64))),(1,.l (.val (.int .u64)))],[]⟩,[],[.tmp 4,.tmp 5],[]⟩
noncomputable abbrev Tl (k:Nat):List (Nat×Hint (prods F.cout.tys)):=[]
noncomputable abbrev T (k:Nat):Nat→Option (Hint (prods F.cout.tys)):=look (Tl k)
noncomputable abbrev body:Code:=Go.Proofs.Tryz.f214.body.getD .skip
theorem main (k:Nat) (x:prods (con 0).cin.tys):bits_Mul.f k x.1 x.2=goK (Γ k) F (T k) 2000 [.code body] ((con 0).cin.st x):=by kernel_rfl
theorem okΓ (k:Nat):ΓOk Go.Proofs.Tryz.prog (Γ k):=Γcons (bits_Mul64.ok k) ⟨Go.Proofs.Tryz.f230,by kernel_rfl,by kernel_rfl,by kernel_rfl⟩ (Γnil)
theorem ok (k:Nat):qaj Go.Proofs.Tryz.prog 214 (con k):=qai (Γ:=Γ) (fn:=Go.Proofs.Tryz.f214) (body:=body) (cin:=(con 0).cin) (F:=F) (T:=T) follows (by kernel_rfl) (by kernel_rfl) (by kernel_rfl) (by kernel_rfl) (by kernel_rfl) (by decide+kernel) (by kernel_rfl) (by kernel_rfl) (tzero trivial) k (fun m _=>okΓ m) (fun m _=>tstep trivial) (fun x y h=>(main k x).symm.trans h)
end bits_Mul
namespace qav
noncomputable abbrev con (k:Nat):Con:=⟨⟨[(0,.l (.val (.list 3 (.int .i64)))),(1,.l (.val (.int .i64)))],[]⟩,⟨[(0,.l (.row 0))],[(0,.row 3 (.int .i64))]⟩,fun x=>qav.f k x.1 x.2,[]⟩
noncomputable abbrev Γ (k:Nat):Env:=lookE [((214,0),bits_Mul.con k)]
abbrev F:Fin Go.Proofs.Tryz.prog:=⟨⟨[(0,.l (.row 0))],[(0,.row 3 (.int .i64))]⟩,[],[.tmp 4],[]⟩
abbrev c3:Cut:=⟨[(0,.l (.val (.list 3 (.int .i64)))),(1,.l (.val (.int .i64)))],[]⟩
abbrev c6:Cut:=⟨[(0,.l (.val (.list 3 (.int .i64)))),(6,.l (.val (.int .u64)))],[]⟩
abbrev c8:Cut:=⟨[(7,.l (.row 7000000)),(8,.l (.val (.int .i64)))],[(7000000,.row 3 (.int .i64))]⟩
noncomputable abbrev Tl (k:Nat):List (Nat×Hint (prods F.cout.tys)):=[(3,⟨c3,fun x=>qav.l3 k x.1 x.2⟩),(6,⟨c6,fun x=>qav.l6 k x.1 x.2⟩),(8,⟨c8,fun x=>qav.l8 k x.1 x.2⟩)]
noncomputable abbrev T (k:Nat):Nat→Option (Hint (prods F.cout.tys)):=look (Tl k)
noncomputable abbrev body:Code:=Go.Proofs.Tryz.f191.body.getD .skip
theorem s3 (k:Nat) (x:prods c3.tys):qav.l3 (k+1) x.1 x.2=segK (Γ k) F (T k) body 3 (c3.st x):=by kernel_rfl
theorem s6 (k:Nat) (x:prods c6.tys):qav.l6 (k+1) x.1 x.2=segK (Γ k) F (T k) body 6 (c6.st x):=by kernel_rfl
theorem s8 (k:Nat) (x:prods c8.tys):qav.l8 (k+1) x.1 x.2=segK (Γ k) F (T k) body 8 (c8.st x):=by kernel_rfl
theorem main (k:Nat) (x:prods (con 0).cin.tys):qav.f k x.1 x.2=goK (Γ k) F (T k) 2000 [.code body] ((con 0).cin.st x):=by kernel_rfl
theorem okΓ (k:Nat):ΓOk Go.Proofs.Tryz.prog (Γ k):=Γcons (bits_Mul.ok k) ⟨Go.Proofs.Tryz.f214,by kernel_rfl,by kernel_rfl,by kernel_rfl⟩ (Γnil)
theorem ok (k:Nat):qaj Go.Proofs.Tryz.prog 191 (con k):=qai (Γ:=Γ) (fn:=Go.Proofs.Tryz.f191) (body:=body) (cin:=(con 0).cin) (F:=F) (T:=T) follows (by kernel_rfl) (by kernel_rfl) (by kernel_rfl) (by kernel_rfl) (by kernel_rfl) (by decide+kernel) (by kernel_rfl) (by kernel_rfl) (tzero ⟨fun x=>by kernel_rfl,fun x=>by kernel_rfl,fun x=>by kernel_rfl,trivial⟩) k (fun m _=>okΓ m) (fun m _=>tstep ⟨fun x=>Eq.trans (by kernel_rfl) (s3 m x),fun x=>Eq.trans (by kernel_rfl) (s6 m x),fun x=>Eq.trans (by kernel_rfl) (s8 m x),trivial⟩) (fun x y h=>(main k x).symm.trans h)
end qav
namespace qbt
noncomputable abbrev con (k:Nat):Con:=⟨⟨[(0,.l (.val (.int .i64))),(1,.l (.ptr 9000000 0))],[(9000000,.box 29 [.val (.list 9 .str),.val (.list 190 Y3),.val (.list 60 Y11),.val (.list 48 Y13),.val (.list 51 Y15),.val (.list 240 Y13)])]⟩,⟨[(0,.l (.val .bool))],[(9000000,.box 29 [.val (.list 9 .str),.val (.list 190 Y3),.val (.list 60 Y11),.val (.list 48 Y13),.val (.list 51 Y15),.val (.list 240 Y13)])]⟩,fun x=>qbt.f k x.1 x.2.1 x.2.2.1 x.2.2.2.1 x.2.2.2.2.1 x.2.2.2.2.2.1 x.2.2.2.2.2.2,[]⟩
noncomputable abbrev Γ (k:Nat):Env:=lookE []
abbrev F:Fin Go.Proofs.Tryz.prog:=⟨⟨[(0,.l (.val .bool))],[(9000000,.box 29 [.val (.list 9 .str),.val (.list 190 Y3),.val (.list 60 Y11),.val (.list 48 Y13),.val (.list 51 Y15),.val (.list 240 Y13)])]⟩,[9000000],[.tmp 3],[]⟩
noncomputable abbrev Tl (k:Nat):List (Nat×Hint (prods F.cout.tys)):=[]
noncomputable abbrev T (k:Nat):Nat→Option (Hint (prods F.cout.tys)):=look (Tl k)
noncomputable abbrev body:Code:=Go.Proofs.Tryz.f190.body.getD .skip
theorem main (k:Nat) (x:prods (con 0).cin.tys):qbt.f k x.1 x.2.1 x.2.2.1 x.2.2.2.1 x.2.2.2.2.1 x.2.2.2.2.2.1 x.2.2.2.2.2.2=goK (Γ k) F (T k) 2000 [.code body] ((con 0).cin.st x):=by kernel_rfl
theorem okΓ (k:Nat):ΓOk Go.Proofs.Tryz.prog (Γ k):=Γnil
theorem ok (k:Nat):qaj Go.Proofs.Tryz.prog 190 (con k):=qai (Γ:=Γ) (fn:=Go.Proofs.Tryz.f190) (body:=body) (cin:=(con 0).cin) (F:=F) (T:=T) follows (by kernel_rfl) (by kernel_rfl) (by kernel_rfl) (by kernel_rfl) (by kernel_rfl) (by decide+kernel) (by kernel_rfl) (by kernel_rfl) (tzero trivial) k (fun m _=>okΓ m) (fun m _=>tstep trivial) (fun x y h=>(main k x).symm.trans h)
end qbt
namespace qas
noncomputable abbrev con (k:Nat):Con:=⟨⟨[(0,.l (.val (.int .i64))),(1,.l (.val (.list 211 Y4))),(2,.l (.fnc 190 9000000))],[(9000000,.caps [.l (.ptr 9000001 0)]),(9000001,.box 29 [.val (.list 9 .str),.val (.list 190 Y3),.val (.list 60 Y11),.val (.list 48 Y13),.val (.list 51 Y15),.val (.list 240 Y13)])]⟩,⟨[(0,.l (.val (.list 3 (.int .i64))))],[(9000001,.box 29 [.val (.list 9 .str),.val (.list 190 Y3),.val (.list 60 Y11),.val (.list 48 Y13),.val (.list 51 Y15),.val (.list 240 Y13)])]⟩,fun x=>qas.f k x.1 x.2.1 x.2.2.1 x.2.2.2.1 x.2.2.2.2.1 x.2.2.2.2.2.1 x.2.2.2.2.2.2.1 x.2.2.2.2.2.2.2,[]⟩
noncomputable abbrev Γ (k:Nat):Env:=lookE [((190,0),qbt.con k),((191,0),qav.con k)]
abbrev F:Fin Go.Proofs.Tryz.prog:=⟨⟨[(0,.l (.val (.list 3 (.int .i64))))],[(9000001,.box 29 [.val (.list 9 .str),.val (.list 190 Y3),.val (.list 60 Y11),.val (.list 48 Y13),.val (.list 51 Y15),.val (.list 240 Y13)])]⟩,[9000001],[.tmp 6],[]⟩
abbrev c4:Cut:=⟨[(1,.l (.val (.list 211 Y4))),(2,.l (.fnc 190 7000000)),(7,.l (.row 7000001)),(8,.l (.val (.int .i64))),(18,.l (.val (.int .i64))),(19,.l (.val (.int .i64)))],[(9000001,.box 29 [.val (.list 9 .str),.val (.list 190 Y3),.val (.list 60 Y11),.val (.list 48 Y13),.val (.list 51 Y15),.val (.list 240 Y13)]),(7000000,.caps [.l (.ptr 9000001 0)]),(7000001,.row 3 (.int .i64))]⟩
abbrev c9:Cut:=⟨[(1,.l (.val (.list 211 Y4))),(2,.l (.fnc 190 7000000)),(7,.l (.row 7000001)),(8,.l (.val (.int .i64))),(10,.l (.val .bool)),(18,.l (.val (.int .i64))),(19,.l (.val (.int .i64)))],[(9000001,.box 29 [.val (.list 9 .str),.val (.list 190 Y3),.val (.list 60 Y11),.val (.list 48 Y13),.val (.list 51 Y15),.val (.list 240 Y13)]),(7000000,.caps [.l (.ptr 9000001 0)]),(7000001,.row 3 (.int .i64))]⟩
abbrev c12:Cut:=⟨[(1,.l (.val (.list 211 Y4))),(2,.l (.fnc 190 7000000)),(7,.l (.row 7000001)),(8,.l (.val (.int .i64))),(10,.l (.val .bool)),(18,.l (.val (.int .i64))),(19,.l (.val (.int .i64))),(32,.l (.val (.list 211 Y4))),(33,.l (.val (.int .i64))),(34,.l (.val (.int .i64)))],[(9000001,.box 29 [.val (.list 9 .str),.val (.list 190 Y3),.val (.list 60 Y11),.val (.list 48 Y13),.val (.list 51 Y15),.val (.list 240 Y13)]),(7000000,.caps [.l (.ptr 9000001 0)]),(7000001,.row 3 (.int .i64))]⟩
noncomputable abbrev Tl (k:Nat):List (Nat×Hint (prods F.cout.tys)):=[(4,⟨c4,fun x=>qas.l4 k x.1 x.2.1 x.2.2.1 x.2.2.2.1 x.2.2.2.2.1 x.2.2.2.2.2.1 x.2.2.2.2.2.2.1 x.2.2.2.2.2.2.2.1 x.2.2.2.2.2.2.2.2.1 x.2.2.2.2.2.2.2.2.2.1 x.2.2.2.2.2.2.2.2.2.2⟩),(9,⟨c9,fun x=>qas.l9 k x.1 x.2.1 x.2.2.1 x.2.2.2.1 x.2.2.2.2.1 x.2.2.2.2.2.1 x.2.2.2.2.2.2.1 x.2.2.2.2.2.2.2.1 x.2.2.2.2.2.2.2.2.1 x.2.2.2.2.2.2.2.2.2.1 x.2.2.2.2.2.2.2.2.2.2.1 x.2.2.2.2.2.2.2.2.2.2.2⟩),(12,⟨c12,fun x=>qas.l12 k x.1 x.2.1 x.2.2.1 x.2.2.2.1 x.2.2.2.2.1 x.2.2.2.2.2.1 x.2.2.2.2.2.2.1 x.2.2.2.2.2.2.2.1 x.2.2.2.2.2.2.2.2.1 x.2.2.2.2.2.2.2.2.2.1 x.2.2.2.2.2.2.2.2.2.2.1 x.2.2.2.2.2.2.2.2.2.2.2.1 x.2.2.2.2.2.2.2.2.2.2.2.2.1 x.2.2.2.2.2.2.2.2.2.2.2.2.2.1 x.2.2.2.2.2.2.2.2.2.2.2.2.2.2⟩)]
noncomputable abbrev T (k:Nat):Nat→Option (Hint (prods F.cout.tys)):=look (Tl k)
noncomputable abbrev body:Code:=Go.Proofs.Tryz.f167.body.getD .skip
theorem s4 (k:Nat) (x:prods c4.tys):qas.l4 (k+1) x.1 x.2.1 x.2.2.1 x.2.2.2.1 x.2.2.2.2.1 x.2.2.2.2.2.1 x.2.2.2.2.2.2.1 x.2.2.2.2.2.2.2.1 x.2.2.2.2.2.2.2.2.1 x.2.2.2.2.2.2.2.2.2.1 x.2.2.2.2.2.2.2.2.2.2=segK (Γ k) F (T k) body 4 (c4.st x):=by kernel_rfl
theorem s9 (k:Nat) (x:prods c9.tys):qas.l9 (k+1) x.1 x.2.1 x.2.2.1 x.2.2.2.1 x.2.2.2.2.1 x.2.2.2.2.2.1 x.2.2.2.2.2.2.1 x.2.2.2.2.2.2.2.1 x.2.2.2.2.2.2.2.2.1 x.2.2.2.2.2.2.2.2.2.1 x.2.2.2.2.2.2.2.2.2.2.1 x.2.2.2.2.2.2.2.2.2.2.2=segK (Γ k) F (T k) body 9 (c9.st x):=by kernel_rfl
theorem s12 (k:Nat) (x:prods c12.tys):qas.l12 (k+1) x.1 x.2.1 x.2.2.1 x.2.2.2.1 x.2.2.2.2.1 x.2.2.2.2.2.1 x.2.2.2.2.2.2.1 x.2.2.2.2.2.2.2.1 x.2.2.2.2.2.2.2.2.1 x.2.2.2.2.2.2.2.2.2.1 x.2.2.2.2.2.2.2.2.2.2.1 x.2.2.2.2.2.2.2.2.2.2.2.1 x.2.2.2.2.2.2.2.2.2.2.2.2.1 x.2.2.2.2.2.2.2.2.2.2.2.2.2.1 x.2.2.2.2.2.2.2.2.2.2.2.2.2.2=segK (Γ k) F (T k) body 12 (c12.st x):=by kernel_rfl
theorem main (k:Nat) (x:prods (con 0).cin.tys):qas.f k x.1 x.2.1 x.2.2.1 x.2.2.2.1 x.2.2.2.2.1 x.2.2.2.2.2.1 x.2.2.2.2.2.2.1 x.2.2.2.2.2.2.2=goK (Γ k) F (T k) 2000 [.code body] ((con 0).cin.st x):=by kernel_rfl
theorem okΓ (k:Nat):ΓOk Go.Proofs.Tryz.prog (Γ k):=Γcons (qbt.ok k) ⟨Go.Proofs.Tryz.f190,by kernel_rfl,by kernel_rfl,by kernel_rfl⟩ (Γcons (qav.ok k) ⟨Go.Proofs.Tryz.f191,by kernel_rfl,by kernel_rfl,by kernel_rfl⟩ (Γnil))
theorem ok (k:Nat):qaj Go.Proofs.Tryz.prog 167 (con k):=qai (Γ:=Γ) (fn:=Go.Proofs.Tryz.f167) (body:=body) (cin:=(con 0).cin) (F:=F) (T:=T) follows (by kernel_rfl) (by kernel_rfl) (by kernel_rfl) (by kernel_rfl) (by kernel_rfl) (by decide+kernel) (by kernel_rfl) (by kernel_rfl) (tzero ⟨fun x=>by kernel_rfl,fun x=>by kernel_rfl,fun x=>by kernel_rfl,trivial⟩) k (fun m _=>okΓ m) (fun m _=>tstep ⟨fun x=>Eq.trans (by kernel_rfl) (s4 m x),fun x=>Eq.trans (by kernel_rfl) (s9 m x),fun x=>Eq.trans (by kernel_rfl) (s12 m x),trivial⟩) (fun x y h=>(main k x).symm.trans h)
end qas
namespace qbD
noncomputable abbrev con (k:Nat):Con:=⟨⟨[(0,.av Y23)],[]⟩,⟨[(0,.l (.val (.list 3 (.int .i64))))],[]⟩,fun x=>qbD.f k x,[]⟩
noncomputable abbrev Γ (k:Nat):Env:=lookE [((167,191),qas.con k),((189,0),qaX.con k)]
abbrev F:Fin Go.Proofs.Tryz.prog:=⟨⟨[(0,.l (.val (.list 3 (.int .i64))))],[]⟩,[],[.tmp 2],[]⟩
noncomputable abbrev Tl (k:Nat):List (Nat×Hint (prods F.cout.tys)):=[]
noncomputable abbrev T (k:Nat):Nat→Option (Hint (prods F.cout.tys)):=look (Tl k)
noncomputable abbrev body:Code:=Go.Proofs.Tryz.f166.body.getD .skip
theorem main (k:Nat) (x:prods (con 0).cin.tys):qbD.f k x=goK (Γ k) F (T k) 2000 [.code body] ((con 0).cin.st x):=by kernel_rfl
theorem okΓ (k:Nat):ΓOk Go.Proofs.Tryz.prog (Γ k):=Γcons (qas.ok k) ⟨Go.Proofs.Tryz.f167,by kernel_rfl,by kernel_rfl,by kernel_rfl⟩ (Γcons (qaX.ok k) ⟨Go.Proofs.Tryz.f189,by kernel_rfl,by kernel_rfl,by kernel_rfl⟩ (Γnil))
theorem ok (k:Nat):qaj Go.Proofs.Tryz.prog 166 (con k):=qai (Γ:=Γ) (fn:=Go.Proofs.Tryz.f166) (body:=body) (cin:=(con 0).cin) (F:=F) (T:=T) follows (by kernel_rfl) (by kernel_rfl) (by kernel_rfl) (by kernel_rfl) (by kernel_rfl) (by decide+kernel) (by kernel_rfl) (by kernel_rfl) (tzero trivial) k (fun m _=>okΓ m) (fun m _=>tstep trivial) (fun x y h=>(main k x).symm.trans h)
end qbD
namespace qa1
noncomputable abbrev con (k:Nat):Con:=⟨⟨[(0,.l (.val (.list 3 (.int .i64))))],[]⟩,⟨[(0,.l (.val (.int .i64)))],[]⟩,fun x=>qa1.f k x,[]⟩
noncomputable abbrev Γ (k:Nat):Env:=lookE []
abbrev F:Fin Go.Proofs.Tryz.prog:=⟨⟨[(0,.l (.val (.int .i64)))],[]⟩,[],[.tmp 2],[]⟩
abbrev c3:Cut:=⟨[(3,.l (.val (.int .i64))),(6,.l (.val (.list 3 (.int .i64)))),(7,.l (.val (.int .i64))),(8,.l (.val (.int .i64)))],[]⟩
noncomputable abbrev Tl (k:Nat):List (Nat×Hint (prods F.cout.tys)):=[(3,⟨c3,fun x=>qa1.l3 k x.1 x.2.1 x.2.2.1 x.2.2.2⟩)]
noncomputable abbrev T (k:Nat):Nat→Option (Hint (prods F.cout.tys)):=look (Tl k)
noncomputable abbrev body:Code:=Go.Proofs.Tryz.f129.body.getD .skip
theorem s3 (k:Nat) (x:prods c3.tys):qa1.l3 (k+1) x.1 x.2.1 x.2.2.1 x.2.2.2=segK (Γ k) F (T k) body 3 (c3.st x):=by kernel_rfl
theorem main (k:Nat) (x:prods (con 0).cin.tys):qa1.f k x=goK (Γ k) F (T k) 2000 [.code body] ((con 0).cin.st x):=by kernel_rfl
theorem okΓ (k:Nat):ΓOk Go.Proofs.Tryz.prog (Γ k):=Γnil
theorem ok (k:Nat):qaj Go.Proofs.Tryz.prog 129 (con k):=qai (Γ:=Γ) (fn:=Go.Proofs.Tryz.f129) (body:=body) (cin:=(con 0).cin) (F:=F) (T:=T) follows (by kernel_rfl) (by kernel_rfl) (by kernel_rfl) (by kernel_rfl) (by kernel_rfl) (by decide+kernel) (by kernel_rfl) (by kernel_rfl) (tzero ⟨fun x=>by kernel_rfl,trivial⟩) k (fun m _=>okΓ m) (fun m _=>tstep ⟨fun x=>Eq.trans (by kernel_rfl) (s3 m x),trivial⟩) (fun x y h=>(main k x).symm.trans h)
end qa1
namespace qaL
noncomputable abbrev con (k:Nat):Con:=⟨⟨[(0,.av Y23),(1,.l (.val (.list 3 (.int .i64))))],[]⟩,⟨[(0,.l (.val (.list 211 Y4)))],[]⟩,fun x=>qaL.f k x.1 x.2,[]⟩
noncomputable abbrev Γ (k:Nat):Env:=lookE [((19,0),slices_Index_string.con k)]
abbrev F:Fin Go.Proofs.Tryz.prog:=⟨⟨[(0,.l (.val (.list 211 Y4)))],[]⟩,[],[.tmp 4],[]⟩
abbrev c3:Cut:=⟨[(1,.l (.val (.list 3 (.int .i64)))),(2,.l (.ptr 7000000 0)),(5,.l (.row 7000501)),(9,.l (.val (.list 60 Y11))),(10,.l (.val (.int .i64))),(11,.l (.val (.int .i64)))],[(7000000,.box 29 [.val (.list 9 .str),.val (.list 190 Y3),.val (.list 60 Y11),.val (.list 48 Y13),.val (.list 51 Y15),.val (.list 240 Y13)]),(7000501,.row 211 Y4)]⟩
noncomputable abbrev Tl (k:Nat):List (Nat×Hint (prods F.cout.tys)):=[(3,⟨c3,fun x=>qaL.l3 k x.1 x.2.1 x.2.2.1 x.2.2.2.1 x.2.2.2.2.1 x.2.2.2.2.2.1 x.2.2.2.2.2.2.1 x.2.2.2.2.2.2.2.1 x.2.2.2.2.2.2.2.2.1 x.2.2.2.2.2.2.2.2.2.1 x.2.2.2.2.2.2.2.2.2.2⟩)]
noncomputable abbrev T (k:Nat):Nat→Option (Hint (prods F.cout.tys)):=look (Tl k)
noncomputable abbrev body:Code:=Go.Proofs.Tryz.f130.body.getD .skip
theorem s3 (k:Nat) (x:prods c3.tys):qaL.l3 (k+1) x.1 x.2.1 x.2.2.1 x.2.2.2.1 x.2.2.2.2.1 x.2.2.2.2.2.1 x.2.2.2.2.2.2.1 x.2.2.2.2.2.2.2.1 x.2.2.2.2.2.2.2.2.1 x.2.2.2.2.2.2.2.2.2.1 x.2.2.2.2.2.2.2.2.2.2=segK (Γ k) F (T k) body 3 (c3.st x):=by kernel_rfl
theorem main (k:Nat) (x:prods (con 0).cin.tys):qaL.f k x.1 x.2=goK (Γ k) F (T k) 2000 [.code body] ((con 0).cin.st x):=by kernel_rfl
theorem okΓ (k:Nat):ΓOk Go.Proofs.Tryz.prog (Γ k):=Γcons (slices_Index_string.ok k) ⟨Go.Proofs.Tryz.f19,by kernel_rfl,by kernel_rfl,by kernel_rfl⟩ (Γnil)
theorem ok (k:Nat):qaj Go.Proofs.Tryz.prog 130 (con k):=qai (Γ:=Γ) (fn:=Go.Proofs.Tryz.f130) (body:=body) (cin:=(con 0).cin) (F:=F) (T:=T) follows (by kernel_rfl) (by kernel_rfl) (by kernel_rfl) (by kernel_rfl) (by kernel_rfl) (by decide+kernel) (by kernel_rfl) (by kernel_rfl) (tzero ⟨fun x=>by kernel_rfl,trivial⟩) k (fun m _=>okΓ m) (fun m _=>tstep ⟨fun x=>Eq.trans (by kernel_rfl) (s3 m x),trivial⟩) (fun x y h=>(main k x).symm.trans h)
end qaL
namespace qbq
noncomputable abbrev con (k:Nat):Con:=⟨⟨[(0,.l (.val (.int .i64)))],[]⟩,⟨[(0,.l (.val .bool))],[]⟩,fun x=>qbq.f k x,[]⟩
noncomputable abbrev Γ (k:Nat):Env:=lookE []
abbrev F:Fin Go.Proofs.Tryz.prog:=⟨⟨[(0,.l (.val .bool))],[]⟩,[],[.tmp 2],[]⟩
noncomputable abbrev Tl (k:Nat):List (Nat×Hint (prods F.cout.tys)):=[]
noncomputable abbrev T (k:Nat):Nat→Option (Hint (prods F.cout.tys)):=look (Tl k)
noncomputable abbrev body:Code:=Go.Proofs.Tryz.f168.body.getD .skip
theorem main (k:Nat) (x:prods (con 0).cin.tys):qbq.f k x=goK (Γ k) F (T k) 2000 [.code body] ((con 0).cin.st x):=by kernel_rfl
theorem okΓ (k:Nat):ΓOk Go.Proofs.Tryz.prog (Γ k):=Γnil
theorem ok (k:Nat):qaj Go.Proofs.Tryz.prog 168 (con k):=qai (Γ:=Γ) (fn:=Go.Proofs.Tryz.f168) (body:=body) (cin:=(con 0).cin) (F:=F) (T:=T) follows (by kernel_rfl) (by kernel_rfl) (by kernel_rfl) (by kernel_rfl) (by kernel_rfl) (by decide+kernel) (by kernel_rfl) (by kernel_rfl) (tzero trivial) k (fun m _=>okΓ m) (fun m _=>tstep trivial) (fun x y h=>(main k x).symm.trans h)
end qbq
namespace qak
noncomputable abbrev con (k:Nat):Con:=⟨⟨[(0,.l (.val (.int .i64))),(1,.l (.val (.list 211 Y4))),(2,.l (.fn0 168))],[]⟩,⟨[(0,.l (.val (.list 3 (.int .i64))))],[]⟩,fun x=>qak.f k x.1 x.2,[]⟩
noncomputable abbrev Γ (k:Nat):Env:=lookE [((168,0),qbq.con k),((191,0),qav.con k)]
abbrev F:Fin Go.Proofs.Tryz.prog:=⟨⟨[(0,.l (.val (.list 3 (.int .i64))))],[]⟩,[],[.tmp 6],[]⟩
abbrev c4:Cut:=⟨[(1,.l (.val (.list 211 Y4))),(2,.l (.fn0 168)),(7,.l (.row 7000000)),(8,.l (.val (.int .i64))),(18,.l (.val (.int .i64))),(19,.l (.val (.int .i64)))],[(7000000,.row 3 (.int .i64))]⟩
abbrev c9:Cut:=⟨[(1,.l (.val (.list 211 Y4))),(2,.l (.fn0 168)),(7,.l (.row 7000000)),(8,.l (.val (.int .i64))),(10,.l (.val .bool)),(18,.l (.val (.int .i64))),(19,.l (.val (.int .i64)))],[(7000000,.row 3 (.int .i64))]⟩
abbrev c12:Cut:=⟨[(1,.l (.val (.list 211 Y4))),(2,.l (.fn0 168)),(7,.l (.row 7000000)),(8,.l (.val (.int .i64))),(10,.l (.val .bool)),(18,.l (.val (.int .i64))),(19,.l (.val (.int .i64))),(32,.l (.val (.list 211 Y4))),(33,.l (.val (.int .i64))),(34,.l (.val (.int .i64)))],[(7000000,.row 3 (.int .i64))]⟩
noncomputable abbrev Tl (k:Nat):List (Nat×Hint (prods F.cout.tys)):=[(4,⟨c4,fun x=>qak.l4 k x.1 x.2.1 x.2.2.1 x.2.2.2.1 x.2.2.2.2⟩),(9,⟨c9,fun x=>qak.l9 k x.1 x.2.1 x.2.2.1 x.2.2.2.1 x.2.2.2.2.1 x.2.2.2.2.2⟩),(12,⟨c12,fun x=>qak.l12 k x.1 x.2.1 x.2.2.1 x.2.2.2.1 x.2.2.2.2.1 x.2.2.2.2.2.1 x.2.2.2.2.2.2.1 x.2.2.2.2.2.2.2.1 x.2.2.2.2.2.2.2.2⟩)]
noncomputable abbrev T (k:Nat):Nat→Option (Hint (prods F.cout.tys)):=look (Tl k)
noncomputable abbrev body:Code:=Go.Proofs.Tryz.f167.body.getD .skip
theorem s4 (k:Nat) (x:prods c4.tys):qak.l4 (k+1) x.1 x.2.1 x.2.2.1 x.2.2.2.1 x.2.2.2.2=segK (Γ k) F (T k) body 4 (c4.st x):=by kernel_rfl
theorem s9 (k:Nat) (x:prods c9.tys):qak.l9 (k+1) x.1 x.2.1 x.2.2.1 x.2.2.2.1 x.2.2.2.2.1 x.2.2.2.2.2=segK (Γ k) F (T k) body 9 (c9.st x):=by kernel_rfl
theorem s12 (k:Nat) (x:prods c12.tys):qak.l12 (k+1) x.1 x.2.1 x.2.2.1 x.2.2.2.1 x.2.2.2.2.1 x.2.2.2.2.2.1 x.2.2.2.2.2.2.1 x.2.2.2.2.2.2.2.1 x.2.2.2.2.2.2.2.2=segK (Γ k) F (T k) body 12 (c12.st x):=by kernel_rfl
theorem main (k:Nat) (x:prods (con 0).cin.tys):qak.f k x.1 x.2=goK (Γ k) F (T k) 2000 [.code body] ((con 0).cin.st x):=by kernel_rfl
theorem okΓ (k:Nat):ΓOk Go.Proofs.Tryz.prog (Γ k):=Γcons (qbq.ok k) ⟨Go.Proofs.Tryz.f168,by kernel_rfl,by kernel_rfl,by kernel_rfl⟩ (Γcons (qav.ok k) ⟨Go.Proofs.Tryz.f191,by kernel_rfl,by kernel_rfl,by kernel_rfl⟩ (Γnil))
theorem ok (k:Nat):qaj Go.Proofs.Tryz.prog 167 (con k):=qai (Γ:=Γ) (fn:=Go.Proofs.Tryz.f167) (body:=body) (cin:=(con 0).cin) (F:=F) (T:=T) follows (by kernel_rfl) (by kernel_rfl) (by kernel_rfl) (by kernel_rfl) (by kernel_rfl) (by decide+kernel) (by kernel_rfl) (by kernel_rfl) (tzero ⟨fun x=>by kernel_rfl,fun x=>by kernel_rfl,fun x=>by kernel_rfl,trivial⟩) k (fun m _=>okΓ m) (fun m _=>tstep ⟨fun x=>Eq.trans (by kernel_rfl) (s4 m x),fun x=>Eq.trans (by kernel_rfl) (s9 m x),fun x=>Eq.trans (by kernel_rfl) (s12 m x),trivial⟩) (fun x y h=>(main k x).symm.trans h)
end qak
namespace qaM
noncomputable abbrev con (k:Nat):Con:=⟨⟨[(0,.av Y23)],[]⟩,⟨[(0,.av Y25)],[]⟩,fun x=>qaM.f k x,[]⟩
noncomputable abbrev Γ (k:Nat):Env:=lookE [((129,0),qa1.con k),((130,0),qaL.con k),((166,0),qbD.con k),((167,169),qak.con k)]
abbrev F:Fin Go.Proofs.Tryz.prog:=⟨⟨[(0,.av Y25)],[]⟩,[],[.cell 2 110],[]⟩
noncomputable abbrev Tl (k:Nat):List (Nat×Hint (prods F.cout.tys)):=[]
noncomputable abbrev T (k:Nat):Nat→Option (Hint (prods F.cout.tys)):=look (Tl k)
noncomputable abbrev body:Code:=Go.Proofs.Tryz.f115.body.getD .skip
theorem main (k:Nat) (x:prods (con 0).cin.tys):qaM.f k x=goK (Γ k) F (T k) 2000 [.code body] ((con 0).cin.st x):=by kernel_rfl
theorem okΓ (k:Nat):ΓOk Go.Proofs.Tryz.prog (Γ k):=Γcons (qa1.ok k) ⟨Go.Proofs.Tryz.f129,by kernel_rfl,by kernel_rfl,by kernel_rfl⟩ (Γcons (qaL.ok k) ⟨Go.Proofs.Tryz.f130,by kernel_rfl,by kernel_rfl,by kernel_rfl⟩ (Γcons (qbD.ok k) ⟨Go.Proofs.Tryz.f166,by kernel_rfl,by kernel_rfl,by kernel_rfl⟩ (Γcons (qak.ok k) ⟨Go.Proofs.Tryz.f167,by kernel_rfl,by kernel_rfl,by kernel_rfl⟩ (Γnil))))
theorem ok (k:Nat):qaj Go.Proofs.Tryz.prog 115 (con k):=qai (Γ:=Γ) (fn:=Go.Proofs.Tryz.f115) (body:=body) (cin:=(con 0).cin) (F:=F) (T:=T) follows (by kernel_rfl) (by kernel_rfl) (by kernel_rfl) (by kernel_rfl) (by kernel_rfl) (by decide+kernel) (by kernel_rfl) (by kernel_rfl) (tzero trivial) k (fun m _=>okΓ m) (fun m _=>tstep trivial) (fun x y h=>(main k x).symm.trans h)
end qaM
namespace qbv
noncomputable abbrev con (k:Nat):Con:=⟨⟨[(0,.av Y23)],[]⟩,⟨[(0,.av Y25),(1,.l (.val (.int .i64)))],[]⟩,fun x=>qbv.f k x,[]⟩
noncomputable abbrev Γ (k:Nat):Env:=lookE [((53,0),qaf.con k),((115,0),qaM.con k)]
abbrev F:Fin Go.Proofs.Tryz.prog:=⟨⟨[(0,.av Y25),(1,.l (.val (.int .i64)))],[]⟩,[],[.cell 2 110,.tmp 3],[]⟩
noncomputable abbrev Tl (k:Nat):List (Nat×Hint (prods F.cout.tys)):=[]
noncomputable abbrev T (k:Nat):Nat→Option (Hint (prods F.cout.tys)):=look (Tl k)
noncomputable abbrev body:Code:=Go.Proofs.Tryz.f55.body.getD .skip
theorem main (k:Nat) (x:prods (con 0).cin.tys):qbv.f k x=goK (Γ k) F (T k) 2000 [.code body] ((con 0).cin.st x):=by kernel_rfl
theorem okΓ (k:Nat):ΓOk Go.Proofs.Tryz.prog (Γ k):=Γcons (qaf.ok k) ⟨Go.Proofs.Tryz.f53,by kernel_rfl,by kernel_rfl,by kernel_rfl⟩ (Γcons (qaM.ok k) ⟨Go.Proofs.Tryz.f115,by kernel_rfl,by kernel_rfl,by kernel_rfl⟩ (Γnil))
theorem ok (k:Nat):qaj Go.Proofs.Tryz.prog 55 (con k):=qai (Γ:=Γ) (fn:=Go.Proofs.Tryz.f55) (body:=body) (cin:=(con 0).cin) (F:=F) (T:=T) follows (by kernel_rfl) (by kernel_rfl) (by kernel_rfl) (by kernel_rfl) (by kernel_rfl) (by decide+kernel) (by kernel_rfl) (by kernel_rfl) (tzero trivial) k (fun m _=>okΓ m) (fun m _=>tstep trivial) (fun x y h=>(main k x).symm.trans h)
end qbv
namespace qbb
noncomputable abbrev con (k:Nat):Con:=⟨⟨[(0,.l (.val .str)),(1,.l (.ptr 9000000 0)),(2,.l (.ptr 9000001 0))],[(9000000,.box 29 [.val (.list 9 .str),.val (.list 190 Y3),.val (.list 60 Y11),.val (.list 48 Y13),.val (.list 51 Y15),.val (.list 240 Y13)]),(9000001,.box 110 [.val (.list 3 (.int .i64)),.val (.list 3 (.int .i64))])]⟩,⟨[(0,.l (.val (.int .i64)))],[(9000000,.box 29 [.val (.list 9 .str),.val (.list 190 Y3),.val (.list 60 Y11),.val (.list 48 Y13),.val (.list 51 Y15),.val (.list 240 Y13)]),(9000001,.box 110 [.val (.list 3 (.int .i64)),.val (.list 3 (.int .i64))])]⟩,fun x=>qbb.f k x.1 x.2.1 x.2.2.1 x.2.2.2.1 x.2.2.2.2.1 x.2.2.2.2.2.1 x.2.2.2.2.2.2.1 x.2.2.2.2.2.2.2.1 x.2.2.2.2.2.2.2.2,[]⟩
noncomputable abbrev Γ (k:Nat):Env:=lookE [((117,0),qbE.con k)]
abbrev F:Fin Go.Proofs.Tryz.prog:=⟨⟨[(0,.l (.val (.int .i64)))],[(9000000,.box 29 [.val (.list 9 .str),.val (.list 190 Y3),.val (.list 60 Y11),.val (.list 48 Y13),.val (.list 51 Y15),.val (.list 240 Y13)]),(9000001,.box 110 [.val (.list 3 (.int .i64)),.val (.list 3 (.int .i64))])]⟩,[9000000,9000001],[.tmp 4],[]⟩
noncomputable abbrev Tl (k:Nat):List (Nat×Hint (prods F.cout.tys)):=[]
noncomputable abbrev T (k:Nat):Nat→Option (Hint (prods F.cout.tys)):=look (Tl k)
noncomputable abbrev body:Code:=Go.Proofs.Tryz.f116.body.getD .skip
theorem main (k:Nat) (x:prods (con 0).cin.tys):qbb.f k x.1 x.2.1 x.2.2.1 x.2.2.2.1 x.2.2.2.2.1 x.2.2.2.2.2.1 x.2.2.2.2.2.2.1 x.2.2.2.2.2.2.2.1 x.2.2.2.2.2.2.2.2=goK (Γ k) F (T k) 2000 [.code body] ((con 0).cin.st x):=by kernel_rfl
theorem okΓ (k:Nat):ΓOk Go.Proofs.Tryz.prog (Γ k):=Γcons (qbE.ok k) ⟨Go.Proofs.Tryz.f117,by kernel_rfl,by kernel_rfl,by kernel_rfl⟩ (Γnil)
theorem ok (k:Nat):qaj Go.Proofs.Tryz.prog 116 (con k):=qai (Γ:=Γ) (fn:=Go.Proofs.Tryz.f116) (body:=body) (cin:=(con 0).cin) (F:=F) (T:=T) follows (by kernel_rfl) (by kernel_rfl) (by kernel_rfl) (by kernel_rfl) (by kernel_rfl) (by decide+kernel) (by kernel_rfl) (by kernel_rfl) (tzero trivial) k (fun m _=>okΓ m) (fun m _=>tstep trivial) (fun x y h=>(main k x).symm.trans h)
end qbb
namespace qbf
noncomputable abbrev con (k:Nat):Con:=⟨⟨[(0,.l (.val (.int .i64)))],[]⟩,⟨[(0,.l (.val (.list 246 (.int .u32))))],[]⟩,fun x=>qbf.f k x,[]⟩
noncomputable abbrev Γ (k:Nat):Env:=lookE []
abbrev F:Fin Go.Proofs.Tryz.prog:=⟨⟨[(0,.l (.val (.list 246 (.int .u32))))],[]⟩,[],[.tmp 2],[]⟩
abbrev c2:Cut:=⟨[(0,.l (.val (.int .i64))),(3,.l (.row 7000500))],[(7000500,.row 246 (.int .u32))]⟩
noncomputable abbrev Tl (k:Nat):List (Nat×Hint (prods F.cout.tys)):=[(2,⟨c2,fun x=>qbf.l2 k x.1 x.2⟩)]
noncomputable abbrev T (k:Nat):Nat→Option (Hint (prods F.cout.tys)):=look (Tl k)
noncomputable abbrev body:Code:=Go.Proofs.Tryz.f119.body.getD .skip
theorem s2 (k:Nat) (x:prods c2.tys):qbf.l2 (k+1) x.1 x.2=segK (Γ k) F (T k) body 2 (c2.st x):=by kernel_rfl
theorem main (k:Nat) (x:prods (con 0).cin.tys):qbf.f k x=goK (Γ k) F (T k) 2000 [.code body] ((con 0).cin.st x):=by kernel_rfl
theorem okΓ (k:Nat):ΓOk Go.Proofs.Tryz.prog (Γ k):=Γnil
theorem ok (k:Nat):qaj Go.Proofs.Tryz.prog 119 (con k):=qai (Γ:=Γ) (fn:=Go.Proofs.Tryz.f119) (body:=body) (cin:=(con 0).cin) (F:=F) (T:=T) follows (by kernel_rfl) (by kernel_rfl) (by kernel_rfl) (by kernel_rfl) (by kernel_rfl) (by decide+kernel) (by kernel_rfl) (by kernel_rfl) (tzero ⟨fun x=>by kernel_rfl,trivial⟩) k (fun m _=>okΓ m) (fun m _=>tstep ⟨fun x=>Eq.trans (by kernel_rfl) (s2 m x),trivial⟩) (fun x y h=>(main k x).symm.trans h)
end qbf
namespace qbh
noncomputable abbrev con (k:Nat):Con:=⟨⟨[(0,.l (.val (.int .i64)))],[]⟩,⟨[(0,.av Y17)],[]⟩,fun x=>qbh.f k x,[]⟩
noncomputable abbrev Γ (k:Nat):Env:=lookE [((119,0),qbf.con k)]
abbrev F:Fin Go.Proofs.Tryz.prog:=⟨⟨[(0,.av Y17)],[]⟩,[],[.cell 2 122],[]⟩
noncomputable abbrev Tl (k:Nat):List (Nat×Hint (prods F.cout.tys)):=[]
noncomputable abbrev T (k:Nat):Nat→Option (Hint (prods F.cout.tys)):=look (Tl k)
noncomputable abbrev body:Code:=Go.Proofs.Tryz.f57.body.getD .skip
theorem main (k:Nat) (x:prods (con 0).cin.tys):qbh.f k x=goK (Γ k) F (T k) 2000 [.code body] ((con 0).cin.st x):=by kernel_rfl
theorem okΓ (k:Nat):ΓOk Go.Proofs.Tryz.prog (Γ k):=Γcons (qbf.ok k) ⟨Go.Proofs.Tryz.f119,by kernel_rfl,by kernel_rfl,by kernel_rfl⟩ (Γnil)
theorem ok (k:Nat):qaj Go.Proofs.Tryz.prog 57 (con k):=qai (Γ:=Γ) (fn:=Go.Proofs.Tryz.f57) (body:=body) (cin:=(con 0).cin) (F:=F) (T:=T) follows (by kernel_rfl) (by kernel_rfl) (by kernel_rfl) (by kernel_rfl) (by kernel_rfl) (by decide+kernel) (by kernel_rfl) (by kernel_rfl) (tzero trivial) k (fun m _=>okΓ m) (fun m _=>tstep trivial) (fun x y h=>(main k x).symm.trans h)
end qbh
namespace qaW
noncomputable abbrev con (k:Nat):Con:=⟨⟨[(0,.av Y17)],[]⟩,⟨[(0,.l (.val (.list 246 (.int .u32))))],[]⟩,fun x=>qaW.f k x,[]⟩
noncomputable abbrev Γ (k:Nat):Env:=lookE [((119,0),qbf.con k)]
abbrev F:Fin Go.Proofs.Tryz.prog:=⟨⟨[(0,.l (.val (.list 246 (.int .u32))))],[]⟩,[],[.tmp 2],[]⟩
noncomputable abbrev Tl (k:Nat):List (Nat×Hint (prods F.cout.tys)):=[]
noncomputable abbrev T (k:Nat):Nat→Option (Hint (prods F.cout.tys)):=look (Tl k)
noncomputable abbrev body:Code:=Go.Proofs.Tryz.f121.body.getD .skip
theorem main (k:Nat) (x:prods (con 0).cin.tys):qaW.f k x=goK (Γ k) F (T k) 2000 [.code body] ((con 0).cin.st x):=by kernel_rfl
theorem okΓ (k:Nat):ΓOk Go.Proofs.Tryz.prog (Γ k):=Γcons (qbf.ok k) ⟨Go.Proofs.Tryz.f119,by kernel_rfl,by kernel_rfl,by kernel_rfl⟩ (Γnil)
theorem ok (k:Nat):qaj Go.Proofs.Tryz.prog 121 (con k):=qai (Γ:=Γ) (fn:=Go.Proofs.Tryz.f121) (body:=body) (cin:=(con 0).cin) (F:=F) (T:=T) follows (by kernel_rfl) (by kernel_rfl) (by kernel_rfl) (by kernel_rfl) (by kernel_rfl) (by decide+kernel) (by kernel_rfl) (by kernel_rfl) (tzero trivial) k (fun m _=>okΓ m) (fun m _=>tstep trivial) (fun x y h=>(main k x).symm.trans h)
end qaW
namespace qaE
noncomputable abbrev con (k:Nat):Con:=⟨⟨[(0,.l (.row 9000000))],[(9000000,.row 246 (.int .u32))]⟩,⟨[(0,.l (.row 0))],[(9000000,.gone),(0,.row 246 (.int .u32))]⟩,fun x=>qaE.f k x,[]⟩
noncomputable abbrev Γ (k:Nat):Env:=lookE []
abbrev F:Fin Go.Proofs.Tryz.prog:=⟨⟨[(0,.l (.row 0))],[(9000000,.gone),(0,.row 246 (.int .u32))]⟩,[9000000],[.tmp 2],[]⟩
abbrev c1:Cut:=⟨[(0,.l (.row 7000000))],[(9000000,.gone),(7000000,.row 246 (.int .u32))]⟩
noncomputable abbrev Tl (k:Nat):List (Nat×Hint (prods F.cout.tys)):=[(1,⟨c1,fun x=>qaE.l1 k x⟩)]
noncomputable abbrev T (k:Nat):Nat→Option (Hint (prods F.cout.tys)):=look (Tl k)
noncomputable abbrev body:Code:=Go.Proofs.Tryz.f171.body.getD .skip
theorem s1 (k:Nat) (x:prods c1.tys):qaE.l1 (k+1) x=segK (Γ k) F (T k) body 1 (c1.st x):=by kernel_rfl
theorem main (k:Nat) (x:prods (con 0).cin.tys):qaE.f k x=goK (Γ k) F (T k) 2000 [.code body] ((con 0).cin.st x):=by kernel_rfl
theorem okΓ (k:Nat):ΓOk Go.Proofs.Tryz.prog (Γ k):=Γnil
theorem ok (k:Nat):qaj Go.Proofs.Tryz.prog 171 (con k):=qai (Γ:=Γ) (fn:=Go.Proofs.Tryz.f171) (body:=body) (cin:=(con 0).cin) (F:=F) (T:=T) follows (by kernel_rfl) (by kernel_rfl) (by kernel_rfl) (by kernel_rfl) (by kernel_rfl) (by decide+kernel) (by kernel_rfl) (by kernel_rfl) (tzero ⟨fun x=>by kernel_rfl,trivial⟩) k (fun m _=>okΓ m) (fun m _=>tstep ⟨fun x=>Eq.trans (by kernel_rfl) (s1 m x),trivial⟩) (fun x y h=>(main k x).symm.trans h)
end qaE
namespace qaw
noncomputable abbrev con (k:Nat):Con:=⟨⟨[(0,.l (.val (.list 246 (.int .u32)))),(1,.l (.val (.list 246 (.int .u32))))],[]⟩,⟨[(0,.l (.row 0))],[(0,.row 246 (.int .u32))]⟩,fun x=>qaw.f k x.1 x.2,[]⟩
noncomputable abbrev Γ (k:Nat):Env:=lookE [((171,0),qaE.con k)]
abbrev F:Fin Go.Proofs.Tryz.prog:=⟨⟨[(0,.l (.row 0))],[(0,.row 246 (.int .u32))]⟩,[],[.tmp 4],[]⟩
abbrev c0:Cut:=⟨[(0,.l (.val (.list 246 (.int .u32)))),(1,.l (.val (.list 246 (.int .u32))))],[]⟩
abbrev c3:Cut:=⟨[(1,.l (.val (.list 246 (.int .u32)))),(5,.l (.row 7000000)),(18,.l (.val (.list 246 (.int .u32)))),(19,.l (.val (.int .i64))),(20,.l (.val (.int .i64)))],[(7000000,.row 246 (.int .u32))]⟩
abbrev c7:Cut:=⟨[(1,.l (.val (.list 246 (.int .u32)))),(5,.l (.row 7000000)),(6,.l (.val (.int .i64))),(7,.l (.val (.int .u32))),(8,.l (.val (.int .u64))),(18,.l (.val (.list 246 (.int .u32)))),(19,.l (.val (.int .i64))),(20,.l (.val (.int .i64))),(25,.l (.val (.list 246 (.int .u32)))),(26,.l (.val (.int .i64))),(27,.l (.val (.int .i64)))],[(7000000,.row 246 (.int .u32))]⟩
noncomputable abbrev Tl (k:Nat):List (Nat×Hint (prods F.cout.tys)):=[(0,⟨c0,fun x=>qaw.l0 k x.1 x.2⟩),(3,⟨c3,fun x=>qaw.l3 k x.1 x.2.1 x.2.2.1 x.2.2.2.1 x.2.2.2.2⟩),(7,⟨c7,fun x=>qaw.l7 k x.1 x.2.1 x.2.2.1 x.2.2.2.1 x.2.2.2.2.1 x.2.2.2.2.2.1 x.2.2.2.2.2.2.1 x.2.2.2.2.2.2.2.1 x.2.2.2.2.2.2.2.2.1 x.2.2.2.2.2.2.2.2.2.1 x.2.2.2.2.2.2.2.2.2.2⟩)]
noncomputable abbrev T (k:Nat):Nat→Option (Hint (prods F.cout.tys)):=look (Tl k)
noncomputable abbrev body:Code:=Go.Proofs.Tryz.f120.body.getD .skip
theorem s0 (k:Nat) (x:prods c0.tys):qaw.l0 (k+1) x.1 x.2=segK (Γ k) F (T k) body 0 (c0.st x):=by kernel_rfl
theorem s3 (k:Nat) (x:prods c3.tys):qaw.l3 (k+1) x.1 x.2.1 x.2.2.1 x.2.2.2.1 x.2.2.2.2=segK (Γ k) F (T k) body 3 (c3.st x):=by kernel_rfl
theorem s7 (k:Nat) (x:prods c7.tys):qaw.l7 (k+1) x.1 x.2.1 x.2.2.1 x.2.2.2.1 x.2.2.2.2.1 x.2.2.2.2.2.1 x.2.2.2.2.2.2.1 x.2.2.2.2.2.2.2.1 x.2.2.2.2.2.2.2.2.1 x.2.2.2.2.2.2.2.2.2.1 x.2.2.2.2.2.2.2.2.2.2=segK (Γ k) F (T k) body 7 (c7.st x):=by kernel_rfl
theorem main (k:Nat) (x:prods (con 0).cin.tys):qaw.f k x.1 x.2=goK (Γ k) F (T k) 2000 [.code body] ((con 0).cin.st x):=by kernel_rfl
theorem okΓ (k:Nat):ΓOk Go.Proofs.Tryz.prog (Γ k):=Γcons (qaE.ok k) ⟨Go.Proofs.Tryz.f171,by kernel_rfl,by kernel_rfl,by kernel_rfl⟩ (Γnil)
theorem ok (k:Nat):qaj Go.Proofs.Tryz.prog 120 (con k):=qai (Γ:=Γ) (fn:=Go.Proofs.Tryz.f120) (body:=body) (cin:=(con 0).cin) (F:=F) (T:=T) follows (by kernel_rfl) (by kernel_rfl) (by kernel_rfl) (by kernel_rfl) (by kernel_rfl) (by decide+kernel) (by kernel_rfl) (by kernel_rfl) (tzero ⟨fun x=>by kernel_rfl,fun x=>by kernel_rfl,fun x=>by kernel_rfl,trivial⟩) k (fun m _=>okΓ m) (fun m _=>tstep ⟨fun x=>Eq.trans (by kernel_rfl) (s0 m x),fun x=>Eq.trans (by kernel_rfl) (s3 m x),fun x=>Eq.trans (by kernel_rfl) (s7 m x),trivial⟩) (fun x y h=>(main k x).symm.trans h)
end qaw
namespace qaQ
noncomputable abbrev con (k:Nat):Con:=⟨⟨[(0,.l (.val (.list 246 (.int .u32)))),(1,.l (.val (.list 246 (.int .u32))))],[]⟩,⟨[(0,.l (.val (.int .i64)))],[]⟩,fun x=>qaQ.f k x.1 x.2,[]⟩
noncomputable abbrev Γ (k:Nat):Env:=lookE []
abbrev F:Fin Go.Proofs.Tryz.prog:=⟨⟨[(0,.l (.val (.int .i64)))],[]⟩,[],[.tmp 4],[]⟩
abbrev c6:Cut:=⟨[(0,.l (.val (.list 246 (.int .u32)))),(1,.l (.val (.list 246 (.int .u32)))),(5,.l (.val (.int .i64)))],[]⟩
noncomputable abbrev Tl (k:Nat):List (Nat×Hint (prods F.cout.tys)):=[(6,⟨c6,fun x=>qaQ.l6 k x.1 x.2.1 x.2.2⟩)]
noncomputable abbrev T (k:Nat):Nat→Option (Hint (prods F.cout.tys)):=look (Tl k)
noncomputable abbrev body:Code:=Go.Proofs.Tryz.f123.body.getD .skip
theorem s6 (k:Nat) (x:prods c6.tys):qaQ.l6 (k+1) x.1 x.2.1 x.2.2=segK (Γ k) F (T k) body 6 (c6.st x):=by kernel_rfl
theorem main (k:Nat) (x:prods (con 0).cin.tys):qaQ.f k x.1 x.2=goK (Γ k) F (T k) 2000 [.code body] ((con 0).cin.st x):=by kernel_rfl
theorem okΓ (k:Nat):ΓOk Go.Proofs.Tryz.prog (Γ k):=Γnil
theorem ok (k:Nat):qaj Go.Proofs.Tryz.prog 123 (con k):=qai (Γ:=Γ) (fn:=Go.Proofs.Tryz.f123) (body:=body) (cin:=(con 0).cin) (F:=F) (T:=T) follows (by kernel_rfl) (by kernel_rfl) (by kernel_rfl) (by kernel_rfl) (by kernel_rfl) (by decide+kernel) (by kernel_rfl) (by kernel_rfl) (tzero ⟨fun x=>by kernel_rfl,trivial⟩) k (fun m _=>okΓ m) (fun m _=>tstep ⟨fun x=>Eq.trans (by kernel_rfl) (s6 m x),trivial⟩) (fun x y h=>(main k x).symm.trans h)
end qaQ
namespace qaK
noncomputable abbrev con (k:Nat):Con:=⟨⟨[(0,.l (.val (.list 246 (.int .u32)))),(1,.l (.val (.int .u32)))],[]⟩,⟨[(0,.l (.val (.list 246 (.int .u32)))),(1,.l (.val (.list 246 (.int .u32))))],[]⟩,fun x=>qaK.f k x.1 x.2,[]⟩
noncomputable abbrev Γ (k:Nat):Env:=lookE [((171,0),qaE.con k)]
abbrev F:Fin Go.Proofs.Tryz.prog:=⟨⟨[(0,.l (.val (.list 246 (.int .u32)))),(1,.l (.val (.list 246 (.int .u32))))],[]⟩,[],[.tmp 4,.tmp 5],[]⟩
abbrev c0:Cut:=⟨[(0,.l (.val (.list 246 (.int .u32)))),(1,.l (.val (.int .u32)))],[]⟩
abbrev c4:Cut:=⟨[(0,.l (.val (.list 246 (.int .u32)))),(1,.l (.val (.int .u32))),(6,.l (.row 7000000)),(7,.l (.val (.int .u64))),(8,.l (.val (.int .i64)))],[(7000000,.row 246 (.int .u32))]⟩
noncomputable abbrev Tl (k:Nat):List (Nat×Hint (prods F.cout.tys)):=[(0,⟨c0,fun x=>qaK.l0 k x.1 x.2⟩),(4,⟨c4,fun x=>qaK.l4 k x.1 x.2.1 x.2.2.1 x.2.2.2.1 x.2.2.2.2⟩)]
noncomputable abbrev T (k:Nat):Nat→Option (Hint (prods F.cout.tys)):=look (Tl k)
noncomputable abbrev body:Code:=Go.Proofs.Tryz.f176.body.getD .skip
theorem s0 (k:Nat) (x:prods c0.tys):qaK.l0 (k+1) x.1 x.2=segK (Γ k) F (T k) body 0 (c0.st x):=by kernel_rfl
theorem s4 (k:Nat) (x:prods c4.tys):qaK.l4 (k+1) x.1 x.2.1 x.2.2.1 x.2.2.2.1 x.2.2.2.2=segK (Γ k) F (T k) body 4 (c4.st x):=by kernel_rfl
theorem main (k:Nat) (x:prods (con 0).cin.tys):qaK.f k x.1 x.2=goK (Γ k) F (T k) 2000 [.code body] ((con 0).cin.st x):=by kernel_rfl
theorem okΓ (k:Nat):ΓOk Go.Proofs.Tryz.prog (Γ k):=Γcons (qaE.ok k) ⟨Go.Proofs.Tryz.f171,by kernel_rfl,by kernel_rfl,by kernel_rfl⟩ (Γnil)
theorem ok (k:Nat):qaj Go.Proofs.Tryz.prog 176 (con k):=qai (Γ:=Γ) (fn:=Go.Proofs.Tryz.f176) (body:=body) (cin:=(con 0).cin) (F:=F) (T:=T) follows (by kernel_rfl) (by kernel_rfl) (by kernel_rfl) (by kernel_rfl) (by kernel_rfl) (by decide+kernel) (by kernel_rfl) (by kernel_rfl) (tzero ⟨fun x=>by kernel_rfl,fun x=>by kernel_rfl,trivial⟩) k (fun m _=>okΓ m) (fun m _=>tstep ⟨fun x=>Eq.trans (by kernel_rfl) (s0 m x),fun x=>Eq.trans (by kernel_rfl) (s4 m x),trivial⟩) (fun x y h=>(main k x).symm.trans h)
end qaK
namespace qaz
noncomputable abbrev con (k:Nat):Con:=⟨⟨[(0,.l (.row 9000000)),(1,.l (.val (.list 246 (.int .u32)))),(2,.l (.val (.int .i64))),(3,.l (.val (.int .u64)))],[(9000000,.row 246 (.int .u32))]⟩,⟨[(0,.l (.val .bool))],[(9000000,.row 246 (.int .u32))]⟩,fun x=>qaz.f k x.1 x.2.1 x.2.2.1 x.2.2.2,[]⟩
noncomputable abbrev Γ (k:Nat):Env:=lookE []
abbrev F:Fin Go.Proofs.Tryz.prog:=⟨⟨[(0,.l (.val .bool))],[(9000000,.row 246 (.int .u32))]⟩,[9000000],[.tmp 8],[]⟩
abbrev c4:Cut:=⟨[(0,.l (.row 9000000)),(1,.l (.val (.list 246 (.int .u32)))),(2,.l (.val (.int .i64))),(3,.l (.val (.int .u64))),(9,.l (.val (.int .i64))),(10,.l (.val (.int .u64))),(11,.l (.val (.int .i64)))],[(9000000,.row 246 (.int .u32))]⟩
abbrev c9:Cut:=⟨[(0,.l (.row 9000000)),(1,.l (.val (.list 246 (.int .u32)))),(2,.l (.val (.int .i64))),(3,.l (.val (.int .u64))),(9,.l (.val (.int .i64))),(11,.l (.val (.int .i64))),(12,.l (.val (.int .u64)))],[(9000000,.row 246 (.int .u32))]⟩
noncomputable abbrev Tl (k:Nat):List (Nat×Hint (prods F.cout.tys)):=[(4,⟨c4,fun x=>qaz.l4 k x.1 x.2.1 x.2.2.1 x.2.2.2.1 x.2.2.2.2.1 x.2.2.2.2.2.1 x.2.2.2.2.2.2⟩),(9,⟨c9,fun x=>qaz.l9 k x.1 x.2.1 x.2.2.1 x.2.2.2.1 x.2.2.2.2.1 x.2.2.2.2.2.1 x.2.2.2.2.2.2⟩)]
noncomputable abbrev T (k:Nat):Nat→Option (Hint (prods F.cout.tys)):=look (Tl k)
noncomputable abbrev body:Code:=Go.Proofs.Tryz.f177.body.getD .skip
theorem s4 (k:Nat) (x:prods c4.tys):qaz.l4 (k+1) x.1 x.2.1 x.2.2.1 x.2.2.2.1 x.2.2.2.2.1 x.2.2.2.2.2.1 x.2.2.2.2.2.2=segK (Γ k) F (T k) body 4 (c4.st x):=by kernel_rfl
theorem s9 (k:Nat) (x:prods c9.tys):qaz.l9 (k+1) x.1 x.2.1 x.2.2.1 x.2.2.2.1 x.2.2.2.2.1 x.2.2.2.2.2.1 x.2.2.2.2.2.2=segK (Γ k) F (T k) body 9 (c9.st x):=by kernel_rfl
theorem main (k:Nat) (x:prods (con 0).cin.tys):qaz.f k x.1 x.2.1 x.2.2.1 x.2.2.2=goK (Γ k) F (T k) 2000 [.code body] ((con 0).cin.st x):=by kernel_rfl
theorem okΓ (k:Nat):ΓOk Go.Proofs.Tryz.prog (Γ k):=Γnil
theorem ok (k:Nat):qaj Go.Proofs.Tryz.prog 177 (con k):=qai (Γ:=Γ) (fn:=Go.Proofs.Tryz.f177) (body:=body) (cin:=(con 0).cin) (F:=F) (T:=T) follows (by kernel_rfl) (by kernel_rfl) (by kernel_rfl) (by kernel_rfl) (by kernel_rfl) (by decide+kernel) (by kernel_rfl) (by kernel_rfl) (tzero ⟨fun x=>by kernel_rfl,fun x=>by kernel_rfl,trivial⟩) k (fun m _=>okΓ m) (fun m _=>tstep ⟨fun x=>Eq.trans (by kernel_rfl) (s4 m x),fun x=>Eq.trans (by kernel_rfl) (s9 m x),trivial⟩) (fun x y h=>(main k x).symm.trans h)
end qaz
namespace qaV
noncomputable abbrev con (k:Nat):Con:=⟨⟨[(0,.l (.row 9000000)),(1,.l (.val (.list 246 (.int .u32)))),(2,.l (.val (.int .i64)))],[(9000000,.row 246 (.int .u32))]⟩,⟨[],[(9000000,.row 246 (.int .u32))]⟩,fun x=>qaV.f k x.1 x.2.1 x.2.2,[]⟩
noncomputable abbrev Γ (k:Nat):Env:=lookE []
abbrev F:Fin Go.Proofs.Tryz.prog:=⟨⟨[],[(9000000,.row 246 (.int .u32))]⟩,[9000000],[],[]⟩
abbrev c2:Cut:=⟨[(0,.l (.row 9000000)),(1,.l (.val (.list 246 (.int .u32)))),(2,.l (.val (.int .i64))),(6,.l (.val (.int .u32))),(7,.l (.val (.int .i64)))],[(9000000,.row 246 (.int .u32))]⟩
noncomputable abbrev Tl (k:Nat):List (Nat×Hint (prods F.cout.tys)):=[(2,⟨c2,fun x=>qaV.l2 k x.1 x.2.1 x.2.2.1 x.2.2.2.1 x.2.2.2.2⟩)]
noncomputable abbrev T (k:Nat):Nat→Option (Hint (prods F.cout.tys)):=look (Tl k)
noncomputable abbrev body:Code:=Go.Proofs.Tryz.f178.body.getD .skip
theorem s2 (k:Nat) (x:prods c2.tys):qaV.l2 (k+1) x.1 x.2.1 x.2.2.1 x.2.2.2.1 x.2.2.2.2=segK (Γ k) F (T k) body 2 (c2.st x):=by kernel_rfl
theorem main (k:Nat) (x:prods (con 0).cin.tys):qaV.f k x.1 x.2.1 x.2.2=goK (Γ k) F (T k) 2000 [.code body] ((con 0).cin.st x):=by kernel_rfl
theorem okΓ (k:Nat):ΓOk Go.Proofs.Tryz.prog (Γ k):=Γnil
theorem ok (k:Nat):qaj Go.Proofs.Tryz.prog 178 (con k):=qai (Γ:=Γ) (fn:=Go.Proofs.Tryz.f178) (body:=body) (cin:=(con 0).cin) (F:=F) (T:=T) follows (by kernel_rfl) (by kernel_rfl) (by kernel_rfl) (by kernel_rfl) (by kernel_rfl) (by decide+kernel) (by kernel_rfl) (by kernel_rfl) (tzero ⟨fun x=>by kernel_rfl,trivial⟩) k (fun m _=>okΓ m) (fun m _=>tstep ⟨fun x=>Eq.trans (by kernel_rfl) (s2 m x),trivial⟩) (fun x y h=>(main k x).symm.trans h)
end qaV
namespace qan
noncomputable abbrev con (k:Nat):Con:=⟨⟨[(0,.l (.val (.list 246 (.int .u32)))),(1,.l (.val (.list 246 (.int .u32))))],[]⟩,⟨[(0,.l (.val (.list 246 (.int .u32)))),(1,.l (.val (.list 246 (.int .u32))))],[]⟩,fun x=>qan.f k x.1 x.2,[]⟩
noncomputable abbrev Γ (k:Nat):Env:=lookE [((120,0),qaw.con k),((123,0),qaQ.con k),((171,0),qaE.con k),((176,0),qaK.con k),((177,0),qaz.con k),((178,0),qaV.con k)]
abbrev F:Fin Go.Proofs.Tryz.prog:=⟨⟨[(0,.l (.val (.list 246 (.int .u32)))),(1,.l (.val (.list 246 (.int .u32))))],[]⟩,[],[.tmp 4,.tmp 5],[]⟩
abbrev c0:Cut:=⟨[(0,.l (.val (.list 246 (.int .u32)))),(1,.l (.val (.list 246 (.int .u32))))],[]⟩
abbrev c7:Cut:=⟨[(0,.l (.val (.list 246 (.int .u32)))),(6,.l (.val (.int .u32))),(7,.l (.row 7000000)),(8,.l (.row 7000001))],[(7000000,.row 246 (.int .u32)),(7000001,.row 246 (.int .u32))]⟩
abbrev c12:Cut:=⟨[(6,.l (.val (.int .u32))),(7,.l (.row 7000000)),(8,.l (.row 7000001)),(9,.l (.val (.int .i64))),(10,.l (.row 7000002)),(11,.l (.val (.int .i64)))],[(7000000,.row 246 (.int .u32)),(7000001,.row 246 (.int .u32)),(7000002,.row 246 (.int .u32))]⟩
abbrev c16:Cut:=⟨[(6,.l (.val (.int .u32))),(7,.l (.row 7000000)),(8,.l (.row 7000001)),(9,.l (.val (.int .i64))),(10,.l (.row 7000002)),(11,.l (.val (.int .i64))),(13,.l (.val (.int .u64))),(14,.l (.val (.int .u64)))],[(7000000,.row 246 (.int .u32)),(7000001,.row 246 (.int .u32)),(7000002,.row 246 (.int .u32))]⟩
noncomputable abbrev Tl (k:Nat):List (Nat×Hint (prods F.cout.tys)):=[(0,⟨c0,fun x=>qan.l0 k x.1 x.2⟩),(7,⟨c7,fun x=>qan.l7 k x.1 x.2.1 x.2.2.1 x.2.2.2⟩),(12,⟨c12,fun x=>qan.l12 k x.1 x.2.1 x.2.2.1 x.2.2.2.1 x.2.2.2.2.1 x.2.2.2.2.2⟩),(16,⟨c16,fun x=>qan.l16 k x.1 x.2.1 x.2.2.1 x.2.2.2.1 x.2.2.2.2.1 x.2.2.2.2.2.1 x.2.2.2.2.2.2.1 x.2.2.2.2.2.2.2⟩)]
noncomputable abbrev T (k:Nat):Nat→Option (Hint (prods F.cout.tys)):=look (Tl k)
noncomputable abbrev body:Code:=Go.Proofs.Tryz.f136.body.getD .skip
theorem s0 (k:Nat) (x:prods c0.tys):qan.l0 (k+1) x.1 x.2=segK (Γ k) F (T k) body 0 (c0.st x):=by kernel_rfl
theorem s7 (k:Nat) (x:prods c7.tys):qan.l7 (k+1) x.1 x.2.1 x.2.2.1 x.2.2.2=segK (Γ k) F (T k) body 7 (c7.st x):=by kernel_rfl
theorem s12 (k:Nat) (x:prods c12.tys):qan.l12 (k+1) x.1 x.2.1 x.2.2.1 x.2.2.2.1 x.2.2.2.2.1 x.2.2.2.2.2=segK (Γ k) F (T k) body 12 (c12.st x):=by kernel_rfl
theorem s16 (k:Nat) (x:prods c16.tys):qan.l16 (k+1) x.1 x.2.1 x.2.2.1 x.2.2.2.1 x.2.2.2.2.1 x.2.2.2.2.2.1 x.2.2.2.2.2.2.1 x.2.2.2.2.2.2.2=segK (Γ k) F (T k) body 16 (c16.st x):=by kernel_rfl
theorem main (k:Nat) (x:prods (con 0).cin.tys):qan.f k x.1 x.2=goK (Γ k) F (T k) 2000 [.code body] ((con 0).cin.st x):=by kernel_rfl
theorem okΓ (k:Nat):ΓOk Go.Proofs.Tryz.prog (Γ k):=Γcons (qaw.ok k) ⟨Go.Proofs.Tryz.f120,by kernel_rfl,by kernel_rfl,by kernel_rfl⟩ (Γcons (qaQ.ok k) ⟨Go.Proofs.Tryz.f123,by kernel_rfl,by kernel_rfl,by kernel_rfl⟩ (Γcons (qaE.ok k) ⟨Go.Proofs.Tryz.f171,by kernel_rfl,by kernel_rfl,by kernel_rfl⟩ (Γcons (qaK.ok k) ⟨Go.Proofs.Tryz.f176,by kernel_rfl,by kernel_rfl,by kernel_rfl⟩ (Γcons (qaz.ok k) ⟨Go.Proofs.Tryz.f177,by kernel_rfl,by kernel_rfl,by kernel_rfl⟩ (Γcons (qaV.ok k) ⟨Go.Proofs.Tryz.f178,by kernel_rfl,by kernel_rfl,by kernel_rfl⟩ (Γnil))))))
theorem ok (k:Nat):qaj Go.Proofs.Tryz.prog 136 (con k):=qai (Γ:=Γ) (fn:=Go.Proofs.Tryz.f136) (body:=body) (cin:=(con 0).cin) (F:=F) (T:=T) follows (by kernel_rfl) (by kernel_rfl) (by kernel_rfl) (by kernel_rfl) (by kernel_rfl) (by decide+kernel) (by kernel_rfl) (by kernel_rfl) (tzero ⟨fun x=>by kernel_rfl,fun x=>by kernel_rfl,fun x=>by kernel_rfl,fun x=>by kernel_rfl,trivial⟩) k (fun m _=>okΓ m) (fun m _=>tstep ⟨fun x=>Eq.trans (by kernel_rfl) (s0 m x),fun x=>Eq.trans (by kernel_rfl) (s7 m x),fun x=>Eq.trans (by kernel_rfl) (s12 m x),fun x=>Eq.trans (by kernel_rfl) (s16 m x),trivial⟩) (fun x y h=>(main k x).symm.trans h)
end qan
namespace qa8
noncomputable abbrev con (k:Nat):Con:=⟨⟨[(0,.l (.val (.list 246 (.int .u32)))),(1,.l (.val (.list 246 (.int .u32))))],[]⟩,⟨[(0,.l (.val (.list 246 (.int .u32))))],[]⟩,fun x=>qa8.f k x.1 x.2,[]⟩
noncomputable abbrev Γ (k:Nat):Env:=lookE [((136,0),qan.con k)]
abbrev F:Fin Go.Proofs.Tryz.prog:=⟨⟨[(0,.l (.val (.list 246 (.int .u32))))],[]⟩,[],[.tmp 4],[]⟩
abbrev c1:Cut:=⟨[(0,.l (.val (.list 246 (.int .u32)))),(1,.l (.val (.list 246 (.int .u32))))],[]⟩
noncomputable abbrev Tl (k:Nat):List (Nat×Hint (prods F.cout.tys)):=[(1,⟨c1,fun x=>qa8.l1 k x.1 x.2⟩)]
noncomputable abbrev T (k:Nat):Nat→Option (Hint (prods F.cout.tys)):=look (Tl k)
noncomputable abbrev body:Code:=Go.Proofs.Tryz.f135.body.getD .skip
theorem s1 (k:Nat) (x:prods c1.tys):qa8.l1 (k+1) x.1 x.2=segK (Γ k) F (T k) body 1 (c1.st x):=by kernel_rfl
theorem main (k:Nat) (x:prods (con 0).cin.tys):qa8.f k x.1 x.2=goK (Γ k) F (T k) 2000 [.code body] ((con 0).cin.st x):=by kernel_rfl
theorem okΓ (k:Nat):ΓOk Go.Proofs.Tryz.prog (Γ k):=Γcons (qan.ok k) ⟨Go.Proofs.Tryz.f136,by kernel_rfl,by kernel_rfl,by kernel_rfl⟩ (Γnil)
theorem ok (k:Nat):qaj Go.Proofs.Tryz.prog 135 (con k):=qai (Γ:=Γ) (fn:=Go.Proofs.Tryz.f135) (body:=body) (cin:=(con 0).cin) (F:=F) (T:=T) follows (by kernel_rfl) (by kernel_rfl) (by kernel_rfl) (by kernel_rfl) (by kernel_rfl) (by decide+kernel) (by kernel_rfl) (by kernel_rfl) (tzero ⟨fun x=>by kernel_rfl,trivial⟩) k (fun m _=>okΓ m) (fun m _=>tstep ⟨fun x=>Eq.trans (by kernel_rfl) (s1 m x),trivial⟩) (fun x y h=>(main k x).symm.trans h)
end qa8
namespace qbG
noncomputable abbrev con (k:Nat):Con:=⟨⟨[(0,.l (.val .bool)),(1,.l (.val (.list 246 (.int .u32)))),(2,.l (.val (.list 246 (.int .u32))))],[]⟩,⟨[(0,.av Y17)],[]⟩,fun x=>qbG.f k x.1 x.2.1 x.2.2,[]⟩
noncomputable abbrev Γ (k:Nat):Env:=lookE [((119,0),qbf.con k),((123,0),qaQ.con k),((135,0),qa8.con k),((136,0),qan.con k)]
abbrev F:Fin Go.Proofs.Tryz.prog:=⟨⟨[(0,.av Y17)],[]⟩,[],[.cell 6 122],[]⟩
noncomputable abbrev Tl (k:Nat):List (Nat×Hint (prods F.cout.tys)):=[]
noncomputable abbrev T (k:Nat):Nat→Option (Hint (prods F.cout.tys)):=look (Tl k)
noncomputable abbrev body:Code:=Go.Proofs.Tryz.f70.body.getD .skip
theorem main (k:Nat) (x:prods (con 0).cin.tys):qbG.f k x.1 x.2.1 x.2.2=goK (Γ k) F (T k) 2000 [.code body] ((con 0).cin.st x):=by kernel_rfl
theorem okΓ (k:Nat):ΓOk Go.Proofs.Tryz.prog (Γ k):=Γcons (qbf.ok k) ⟨Go.Proofs.Tryz.f119,by kernel_rfl,by kernel_rfl,by kernel_rfl⟩ (Γcons (qaQ.ok k) ⟨Go.Proofs.Tryz.f123,by kernel_rfl,by kernel_rfl,by kernel_rfl⟩ (Γcons (qa8.ok k) ⟨Go.Proofs.Tryz.f135,by kernel_rfl,by kernel_rfl,by kernel_rfl⟩ (Γcons (qan.ok k) ⟨Go.Proofs.Tryz.f136,by kernel_rfl,by kernel_rfl,by kernel_rfl⟩ (Γnil))))
theorem ok (k:Nat):qaj Go.Proofs.Tryz.prog 70 (con k):=qai (Γ:=Γ) (fn:=Go.Proofs.Tryz.f70) (body:=body) (cin:=(con 0).cin) (F:=F) (T:=T) follows (by kernel_rfl) (by kernel_rfl) (by kernel_rfl) (by kernel_rfl) (by kernel_rfl) (by decide+kernel) (by kernel_rfl) (by kernel_rfl) (tzero trivial) k (fun m _=>okΓ m) (fun m _=>tstep trivial) (fun x y h=>(main k x).symm.trans h)
end qbG
namespace qbw
noncomputable abbrev con (k:Nat):Con:=⟨⟨[(0,.av Y17),(1,.av Y17)],[]⟩,⟨[(0,.av Y17)],[]⟩,fun x=>qbw.f k x.1 x.2,[]⟩
noncomputable abbrev Γ (k:Nat):Env:=lookE [((70,0),qbG.con k),((120,0),qaw.con k),((121,0),qaW.con k)]
abbrev F:Fin Go.Proofs.Tryz.prog:=⟨⟨[(0,.av Y17)],[]⟩,[],[.cell 4 122],[]⟩
noncomputable abbrev Tl (k:Nat):List (Nat×Hint (prods F.cout.tys)):=[]
noncomputable abbrev T (k:Nat):Nat→Option (Hint (prods F.cout.tys)):=look (Tl k)
noncomputable abbrev body:Code:=Go.Proofs.Tryz.f131.body.getD .skip
theorem main (k:Nat) (x:prods (con 0).cin.tys):qbw.f k x.1 x.2=goK (Γ k) F (T k) 2000 [.code body] ((con 0).cin.st x):=by kernel_rfl
theorem okΓ (k:Nat):ΓOk Go.Proofs.Tryz.prog (Γ k):=Γcons (qbG.ok k) ⟨Go.Proofs.Tryz.f70,by kernel_rfl,by kernel_rfl,by kernel_rfl⟩ (Γcons (qaw.ok k) ⟨Go.Proofs.Tryz.f120,by kernel_rfl,by kernel_rfl,by kernel_rfl⟩ (Γcons (qaW.ok k) ⟨Go.Proofs.Tryz.f121,by kernel_rfl,by kernel_rfl,by kernel_rfl⟩ (Γnil)))
theorem ok (k:Nat):qaj Go.Proofs.Tryz.prog 131 (con k):=qai (Γ:=Γ) (fn:=Go.Proofs.Tryz.f131) (body:=body) (cin:=(con 0).cin) (F:=F) (T:=T) follows (by kernel_rfl) (by kernel_rfl) (by kernel_rfl) (by kernel_rfl) (by kernel_rfl) (by decide+kernel) (by kernel_rfl) (by kernel_rfl) (tzero trivial) k (fun m _=>okΓ m) (fun m _=>tstep trivial) (fun x y h=>(main k x).symm.trans h)
end qbw
namespace qaH
noncomputable abbrev con (k:Nat):Con:=⟨⟨[(0,.av Y23)],[]⟩,⟨[(0,.av Y30)],[]⟩,fun x=>qaH.f k x,[]⟩
noncomputable abbrev Γ (k:Nat):Env:=lookE [((57,0),qbh.con k),((115,0),qaM.con k),((130,0),qaL.con k),((131,0),qbw.con k)]
abbrev F:Fin Go.Proofs.Tryz.prog:=⟨⟨[(0,.av Y30)],[]⟩,[],[.cell 2 132],[]⟩
abbrev c4:Cut:=⟨[(2,.l (.ptr 7000000 0)),(3,.l (.ptr 7000001 0)),(4,.l (.ptr 7000002 0)),(19,.l (.val (.list 60 Y11))),(20,.l (.val (.int .i64))),(21,.l (.val (.int .i64)))],[(7000000,.box 132 [.nils,.nils,.nils,.nils,.nils,.nils,.val (.int .i64)]),(7000001,.box 110 [.val (.list 3 (.int .i64)),.val (.list 3 (.int .i64))]),(7000002,.box 132 [.val (.list 3 (.int .i64)),.val (.list 3 (.int .i64)),.val (.list 211 Y4),.row 7000503,.row 7000504,.nils,.val (.int .i64)]),(7000503,.row 122 Y17),(7000504,.row 122 Y17)]⟩
abbrev c11:Cut:=⟨[(2,.l (.ptr 7000000 0)),(4,.l (.ptr 7000001 0)),(7,.l (.val (.int .i64))),(50,.l (.val (.list 3 (.int .i64)))),(51,.l (.val (.int .i64))),(52,.l (.val (.int .i64)))],[(7000000,.box 132 [.nils,.nils,.nils,.nils,.nils,.nils,.val (.int .i64)]),(7000001,.box 132 [.val (.list 3 (.int .i64)),.val (.list 3 (.int .i64)),.val (.list 211 Y4),.row 7000002,.row 7000003,.row 7000504,.val (.int .i64)]),(7000002,.row 122 Y17),(7000003,.row 122 Y17),(7000504,.row 3 (.int .i64))]⟩
noncomputable abbrev Tl (k:Nat):List (Nat×Hint (prods F.cout.tys)):=[(4,⟨c4,fun x=>qaH.l4 k x.1 x.2.1 x.2.2.1 x.2.2.2.1 x.2.2.2.2.1 x.2.2.2.2.2.1 x.2.2.2.2.2.2.1 x.2.2.2.2.2.2.2.1 x.2.2.2.2.2.2.2.2.1 x.2.2.2.2.2.2.2.2.2.1 x.2.2.2.2.2.2.2.2.2.2.1 x.2.2.2.2.2.2.2.2.2.2.2⟩),(11,⟨c11,fun x=>qaH.l11 k x.1 x.2.1 x.2.2.1 x.2.2.2.1 x.2.2.2.2.1 x.2.2.2.2.2.1 x.2.2.2.2.2.2.1 x.2.2.2.2.2.2.2.1 x.2.2.2.2.2.2.2.2.1 x.2.2.2.2.2.2.2.2.2.1 x.2.2.2.2.2.2.2.2.2.2.1 x.2.2.2.2.2.2.2.2.2.2.2⟩)]
noncomputable abbrev T (k:Nat):Nat→Option (Hint (prods F.cout.tys)):=look (Tl k)
noncomputable abbrev body:Code:=Go.Proofs.Tryz.f64.body.getD .skip
theorem s4 (k:Nat) (x:prods c4.tys):qaH.l4 (k+1) x.1 x.2.1 x.2.2.1 x.2.2.2.1 x.2.2.2.2.1 x.2.2.2.2.2.1 x.2.2.2.2.2.2.1 x.2.2.2.2.2.2.2.1 x.2.2.2.2.2.2.2.2.1 x.2.2.2.2.2.2.2.2.2.1 x.2.2.2.2.2.2.2.2.2.2.1 x.2.2.2.2.2.2.2.2.2.2.2=segK (Γ k) F (T k) body 4 (c4.st x):=by kernel_rfl
theorem s11 (k:Nat) (x:prods c11.tys):qaH.l11 (k+1) x.1 x.2.1 x.2.2.1 x.2.2.2.1 x.2.2.2.2.1 x.2.2.2.2.2.1 x.2.2.2.2.2.2.1 x.2.2.2.2.2.2.2.1 x.2.2.2.2.2.2.2.2.1 x.2.2.2.2.2.2.2.2.2.1 x.2.2.2.2.2.2.2.2.2.2.1 x.2.2.2.2.2.2.2.2.2.2.2=segK (Γ k) F (T k) body 11 (c11.st x):=by kernel_rfl
theorem main (k:Nat) (x:prods (con 0).cin.tys):qaH.f k x=goK (Γ k) F (T k) 2000 [.code body] ((con 0).cin.st x):=by kernel_rfl
theorem okΓ (k:Nat):ΓOk Go.Proofs.Tryz.prog (Γ k):=Γcons (qbh.ok k) ⟨Go.Proofs.Tryz.f57,by kernel_rfl,by kernel_rfl,by kernel_rfl⟩ (Γcons (qaM.ok k) ⟨Go.Proofs.Tryz.f115,by kernel_rfl,by kernel_rfl,by kernel_rfl⟩ (Γcons (qaL.ok k) ⟨Go.Proofs.Tryz.f130,by kernel_rfl,by kernel_rfl,by kernel_rfl⟩ (Γcons (qbw.ok k) ⟨Go.Proofs.Tryz.f131,by kernel_rfl,by kernel_rfl,by kernel_rfl⟩ (Γnil))))
theorem ok (k:Nat):qaj Go.Proofs.Tryz.prog 64 (con k):=qai (Γ:=Γ) (fn:=Go.Proofs.Tryz.f64) (body:=body) (cin:=(con 0).cin) (F:=F) (T:=T) follows (by kernel_rfl) (by kernel_rfl) (by kernel_rfl) (by kernel_rfl) (by kernel_rfl) (by decide+kernel) (by kernel_rfl) (by kernel_rfl) (tzero ⟨fun x=>by kernel_rfl,fun x=>by kernel_rfl,trivial⟩) k (fun m _=>okΓ m) (fun m _=>tstep ⟨fun x=>Eq.trans (by kernel_rfl) (s4 m x),fun x=>Eq.trans (by kernel_rfl) (s11 m x),trivial⟩) (fun x y h=>(main k x).symm.trans h)
end qaH
namespace qaF
noncomputable abbrev con (k:Nat):Con:=⟨⟨[(0,.l (.val (.list 246 (.int .u32)))),(1,.l (.val (.list 246 (.int .u32))))],[]⟩,⟨[(0,.l (.val (.list 246 (.int .u32))))],[]⟩,fun x=>qaF.f k x.1 x.2,[]⟩
noncomputable abbrev Γ (k:Nat):Env:=lookE []
abbrev F:Fin Go.Proofs.Tryz.prog:=⟨⟨[(0,.l (.val (.list 246 (.int .u32))))],[]⟩,[],[.tmp 4],[]⟩
abbrev c0:Cut:=⟨[(0,.l (.val (.list 246 (.int .u32)))),(1,.l (.val (.list 246 (.int .u32))))],[]⟩
abbrev c3:Cut:=⟨[(0,.l (.val (.list 246 (.int .u32)))),(1,.l (.val (.list 246 (.int .u32))))],[]⟩
abbrev c6:Cut:=⟨[(1,.l (.val (.list 246 (.int .u32)))),(5,.l (.row 7000000)),(6,.l (.val (.int .u32))),(20,.l (.val (.list 246 (.int .u32)))),(21,.l (.val (.int .i64))),(22,.l (.val (.int .i64)))],[(7000000,.row 246 (.int .u32))]⟩
noncomputable abbrev Tl (k:Nat):List (Nat×Hint (prods F.cout.tys)):=[(0,⟨c0,fun x=>qaF.l0 k x.1 x.2⟩),(3,⟨c3,fun x=>qaF.l3 k x.1 x.2⟩),(6,⟨c6,fun x=>qaF.l6 k x.1 x.2.1 x.2.2.1 x.2.2.2.1 x.2.2.2.2.1 x.2.2.2.2.2⟩)]
noncomputable abbrev T (k:Nat):Nat→Option (Hint (prods F.cout.tys)):=look (Tl k)
noncomputable abbrev body:Code:=Go.Proofs.Tryz.f122.body.getD .skip
theorem s0 (k:Nat) (x:prods c0.tys):qaF.l0 (k+1) x.1 x.2=segK (Γ k) F (T k) body 0 (c0.st x):=by kernel_rfl
theorem s3 (k:Nat) (x:prods c3.tys):qaF.l3 (k+1) x.1 x.2=segK (Γ k) F (T k) body 3 (c3.st x):=by kernel_rfl
theorem s6 (k:Nat) (x:prods c6.tys):qaF.l6 (k+1) x.1 x.2.1 x.2.2.1 x.2.2.2.1 x.2.2.2.2.1 x.2.2.2.2.2=segK (Γ k) F (T k) body 6 (c6.st x):=by kernel_rfl
theorem main (k:Nat) (x:prods (con 0).cin.tys):qaF.f k x.1 x.2=goK (Γ k) F (T k) 2000 [.code body] ((con 0).cin.st x):=by kernel_rfl
theorem okΓ (k:Nat):ΓOk Go.Proofs.Tryz.prog (Γ k):=Γnil
theorem ok (k:Nat):qaj Go.Proofs.Tryz.prog 122 (con k):=qai (Γ:=Γ) (fn:=Go.Proofs.Tryz.f122) (body:=body) (cin:=(con 0).cin) (F:=F) (T:=T) follows (by kernel_rfl) (by kernel_rfl) (by kernel_rfl) (by kernel_rfl) (by kernel_rfl) (by decide+kernel) (by kernel_rfl) (by kernel_rfl) (tzero ⟨fun x=>by kernel_rfl,fun x=>by kernel_rfl,fun x=>by kernel_rfl,trivial⟩) k (fun m _=>okΓ m) (fun m _=>tstep ⟨fun x=>Eq.trans (by kernel_rfl) (s0 m x),fun x=>Eq.trans (by kernel_rfl) (s3 m x),fun x=>Eq.trans (by kernel_rfl) (s6 m x),trivial⟩) (fun x y h=>(main k x).symm.trans h)
end qaF
namespace qaP
noncomputable abbrev con (k:Nat):Con:=⟨⟨[(0,.l (.val (.list 246 (.int .u32)))),(1,.l (.val (.list 246 (.int .u32))))],[]⟩,⟨[(0,.l (.val (.list 246 (.int .u32))))],[]⟩,fun x=>qaP.f k x.1 x.2,[]⟩
noncomputable abbrev Γ (k:Nat):Env:=lookE [((171,0),qaE.con k)]
abbrev F:Fin Go.Proofs.Tryz.prog:=⟨⟨[(0,.l (.val (.list 246 (.int .u32))))],[]⟩,[],[.tmp 4],[]⟩
abbrev c0:Cut:=⟨[(0,.l (.val (.list 246 (.int .u32)))),(1,.l (.val (.list 246 (.int .u32))))],[]⟩
abbrev c4:Cut:=⟨[(0,.l (.val (.list 246 (.int .u32)))),(1,.l (.val (.list 246 (.int .u32)))),(5,.l (.row 7000000)),(6,.l (.val (.int .i64))),(13,.l (.val (.int .i64))),(14,.l (.val (.int .i64)))],[(7000000,.row 246 (.int .u32))]⟩
noncomputable abbrev Tl (k:Nat):List (Nat×Hint (prods F.cout.tys)):=[(0,⟨c0,fun x=>qaP.l0 k x.1 x.2⟩),(4,⟨c4,fun x=>qaP.l4 k x.1 x.2.1 x.2.2.1 x.2.2.2.1 x.2.2.2.2.1 x.2.2.2.2.2⟩)]
noncomputable abbrev T (k:Nat):Nat→Option (Hint (prods F.cout.tys)):=look (Tl k)
noncomputable abbrev body:Code:=Go.Proofs.Tryz.f124.body.getD .skip
theorem s0 (k:Nat) (x:prods c0.tys):qaP.l0 (k+1) x.1 x.2=segK (Γ k) F (T k) body 0 (c0.st x):=by kernel_rfl
theorem s4 (k:Nat) (x:prods c4.tys):qaP.l4 (k+1) x.1 x.2.1 x.2.2.1 x.2.2.2.1 x.2.2.2.2.1 x.2.2.2.2.2=segK (Γ k) F (T k) body 4 (c4.st x):=by kernel_rfl
theorem main (k:Nat) (x:prods (con 0).cin.tys):qaP.f k x.1 x.2=goK (Γ k) F (T k) 2000 [.code body] ((con 0).cin.st x):=by kernel_rfl
theorem okΓ (k:Nat):ΓOk Go.Proofs.Tryz.prog (Γ k):=Γcons (qaE.ok k) ⟨Go.Proofs.Tryz.f171,by kernel_rfl,by kernel_rfl,by kernel_rfl⟩ (Γnil)
theorem ok (k:Nat):qaj Go.Proofs.Tryz.prog 124 (con k):=qai (Γ:=Γ) (fn:=Go.Proofs.Tryz.f124) (body:=body) (cin:=(con 0).cin) (F:=F) (T:=T) follows (by kernel_rfl) (by kernel_rfl) (by kernel_rfl) (by kernel_rfl) (by kernel_rfl) (by decide+kernel) (by kernel_rfl) (by kernel_rfl) (tzero ⟨fun x=>by kernel_rfl,fun x=>by kernel_rfl,trivial⟩) k (fun m _=>okΓ m) (fun m _=>tstep ⟨fun x=>Eq.trans (by kernel_rfl) (s0 m x),fun x=>Eq.trans (by kernel_rfl) (s4 m x),trivial⟩) (fun x y h=>(main k x).symm.trans h)
end qaP
namespace qa6
noncomputable abbrev con (k:Nat):Con:=⟨⟨[(0,.av Y17),(1,.av Y17)],[]⟩,⟨[(0,.av Y17)],[]⟩,fun x=>qa6.f k x.1 x.2,[]⟩
noncomputable abbrev Γ (k:Nat):Env:=lookE [((70,0),qbG.con k),((120,0),qaw.con k),((121,0),qaW.con k),((122,0),qaF.con k),((123,0),qaQ.con k),((124,0),qaP.con k)]
abbrev F:Fin Go.Proofs.Tryz.prog:=⟨⟨[(0,.av Y17)],[]⟩,[],[.cell 4 122],[]⟩
noncomputable abbrev Tl (k:Nat):List (Nat×Hint (prods F.cout.tys)):=[]
noncomputable abbrev T (k:Nat):Nat→Option (Hint (prods F.cout.tys)):=look (Tl k)
noncomputable abbrev body:Code:=Go.Proofs.Tryz.f58.body.getD .skip
theorem main (k:Nat) (x:prods (con 0).cin.tys):qa6.f k x.1 x.2=goK (Γ k) F (T k) 2000 [.code body] ((con 0).cin.st x):=by kernel_rfl
theorem okΓ (k:Nat):ΓOk Go.Proofs.Tryz.prog (Γ k):=Γcons (qbG.ok k) ⟨Go.Proofs.Tryz.f70,by kernel_rfl,by kernel_rfl,by kernel_rfl⟩ (Γcons (qaw.ok k) ⟨Go.Proofs.Tryz.f120,by kernel_rfl,by kernel_rfl,by kernel_rfl⟩ (Γcons (qaW.ok k) ⟨Go.Proofs.Tryz.f121,by kernel_rfl,by kernel_rfl,by kernel_rfl⟩ (Γcons (qaF.ok k) ⟨Go.Proofs.Tryz.f122,by kernel_rfl,by kernel_rfl,by kernel_rfl⟩ (Γcons (qaQ.ok k) ⟨Go.Proofs.Tryz.f123,by kernel_rfl,by kernel_rfl,by kernel_rfl⟩ (Γcons (qaP.ok k) ⟨Go.Proofs.Tryz.f124,by kernel_rfl,by kernel_rfl,by kernel_rfl⟩ (Γnil))))))
theorem ok (k:Nat):qaj Go.Proofs.Tryz.prog 58 (con k):=qai (Γ:=Γ) (fn:=Go.Proofs.Tryz.f58) (body:=body) (cin:=(con 0).cin) (F:=F) (T:=T) follows (by kernel_rfl) (by kernel_rfl) (by kernel_rfl) (by kernel_rfl) (by kernel_rfl) (by decide+kernel) (by kernel_rfl) (by kernel_rfl) (tzero trivial) k (fun m _=>okΓ m) (fun m _=>tstep trivial) (fun x y h=>(main k x).symm.trans h)
end qa6
namespace qco
noncomputable abbrev con (k:Nat):Con:=⟨⟨[(0,.av Y17)],[]⟩,⟨[(0,.av Y17)],[]⟩,fun x=>qco.f k x,[]⟩
noncomputable abbrev Γ (k:Nat):Env:=lookE []
abbrev F:Fin Go.Proofs.Tryz.prog:=⟨⟨[(0,.av Y17)],[]⟩,[],[.cell 2 122],[]⟩
noncomputable abbrev Tl (k:Nat):List (Nat×Hint (prods F.cout.tys)):=[]
noncomputable abbrev T (k:Nat):Nat→Option (Hint (prods F.cout.tys)):=look (Tl k)
noncomputable abbrev body:Code:=Go.Proofs.Tryz.f85.body.getD .skip
theorem main (k:Nat) (x:prods (con 0).cin.tys):qco.f k x=goK (Γ k) F (T k) 2000 [.code body] ((con 0).cin.st x):=by kernel_rfl
theorem okΓ (k:Nat):ΓOk Go.Proofs.Tryz.prog (Γ k):=Γnil
theorem ok (k:Nat):qaj Go.Proofs.Tryz.prog 85 (con k):=qai (Γ:=Γ) (fn:=Go.Proofs.Tryz.f85) (body:=body) (cin:=(con 0).cin) (F:=F) (T:=T) follows (by kernel_rfl) (by kernel_rfl) (by kernel_rfl) (by kernel_rfl) (by kernel_rfl) (by decide+kernel) (by kernel_rfl) (by kernel_rfl) (tzero trivial) k (fun m _=>okΓ m) (fun m _=>tstep trivial) (fun x y h=>(main k x).symm.trans h)
end qco
namespace qaU
noncomputable abbrev con (k:Nat):Con:=⟨⟨[(0,.av Y17),(1,.av Y17)],[]⟩,⟨[(0,.av Y17)],[]⟩,fun x=>qaU.f k x.1 x.2,[]⟩
noncomputable abbrev Γ (k:Nat):Env:=lookE [((58,0),qa6.con k),((85,0),qco.con k)]
abbrev F:Fin Go.Proofs.Tryz.prog:=⟨⟨[(0,.av Y17)],[]⟩,[],[.cell 4 122],[]⟩
noncomputable abbrev Tl (k:Nat):List (Nat×Hint (prods F.cout.tys)):=[]
noncomputable abbrev T (k:Nat):Nat→Option (Hint (prods F.cout.tys)):=look (Tl k)
noncomputable abbrev body:Code:=Go.Proofs.Tryz.f74.body.getD .skip
theorem main (k:Nat) (x:prods (con 0).cin.tys):qaU.f k x.1 x.2=goK (Γ k) F (T k) 2000 [.code body] ((con 0).cin.st x):=by kernel_rfl
theorem okΓ (k:Nat):ΓOk Go.Proofs.Tryz.prog (Γ k):=Γcons (qa6.ok k) ⟨Go.Proofs.Tryz.f58,by kernel_rfl,by kernel_rfl,by kernel_rfl⟩ (Γcons (qco.ok k) ⟨Go.Proofs.Tryz.f85,by kernel_rfl,by kernel_rfl,by kernel_rfl⟩ (Γnil))
theorem ok (k:Nat):qaj Go.Proofs.Tryz.prog 74 (con k):=qai (Γ:=Γ) (fn:=Go.Proofs.Tryz.f74) (body:=body) (cin:=(con 0).cin) (F:=F) (T:=T) follows (by kernel_rfl) (by kernel_rfl) (by kernel_rfl) (by kernel_rfl) (by kernel_rfl) (by decide+kernel) (by kernel_rfl) (by kernel_rfl) (tzero trivial) k (fun m _=>okΓ m) (fun m _=>tstep trivial) (fun x y h=>(main k x).symm.trans h)
end qaU
namespace qab
noncomputable abbrev con (k:Nat):Con:=⟨⟨[(0,.av Y30)],[]⟩,⟨[(0,.l (.row 0))],[(0,.deep 114 122 Y17)]⟩,fun x=>qab.f k x,[]⟩
noncomputable abbrev Γ (k:Nat):Env:=lookE [((58,0),qa6.con k),((74,0),qaU.con k)]
abbrev F:Fin Go.Proofs.Tryz.prog:=⟨⟨[(0,.l (.row 0))],[(0,.deep 114 122 Y17)]⟩,[],[.tmp 2],[]⟩
abbrev c3:Cut:=⟨[(1,.l (.ptr 7000000 0)),(3,.l (.row 7000001)),(13,.l (.val (.int .i64))),(14,.l (.val (.int .i64)))],[(7000000,.box 132 [.val (.list 3 (.int .i64)),.val (.list 3 (.int .i64)),.val (.list 211 Y4),.val (.list 122 Y17),.val (.list 122 Y17),.val (.list 3 (.int .i64)),.val (.int .i64)]),(7000001,.deep 114 122 Y17)]⟩
abbrev c8:Cut:=⟨[(1,.l (.ptr 7000000 0)),(3,.l (.row 7000001)),(25,.l (.val (.list 211 Y4))),(26,.l (.val (.int .i64))),(27,.l (.val (.int .i64)))],[(7000000,.box 132 [.val (.list 3 (.int .i64)),.val (.list 3 (.int .i64)),.val (.list 211 Y4),.val (.list 122 Y17),.val (.list 122 Y17),.val (.list 3 (.int .i64)),.val (.int .i64)]),(7000001,.deep 114 122 Y17)]⟩
abbrev c14:Cut:=⟨[(1,.l (.ptr 7000000 0)),(3,.l (.row 7000001)),(5,.l (.val (.int .i64))),(7,.l (.val (.int .i64))),(8,.l (.val (.int .i64))),(25,.l (.val (.list 211 Y4))),(26,.l (.val (.int .i64))),(27,.l (.val (.int .i64)))],[(7000000,.box 132 [.val (.list 3 (.int .i64)),.val (.list 3 (.int .i64)),.val (.list 211 Y4),.val (.list 122 Y17),.val (.list 122 Y17),.val (.list 3 (.int .i64)),.val (.int .i64)]),(7000001,.deep 114 122 Y17)]⟩
abbrev c16:Cut:=⟨[(1,.l (.ptr 7000000 0)),(3,.l (.row 7000001)),(5,.l (.val (.int .i64))),(7,.l (.val (.int .i64))),(8,.l (.val (.int .i64))),(25,.l (.val (.list 211 Y4))),(26,.l (.val (.int .i64))),(27,.l (.val (.int .i64)))],[(7000000,.box 132 [.val (.list 3 (.int .i64)),.val (.list 3 (.int .i64)),.val (.list 211 Y4),.val (.list 122 Y17),.val (.list 122 Y17),.val (.list 3 (.int .i64)),.val (.int .i64)]),(7000001,.deep 114 122 Y17)]⟩
noncomputable abbrev Tl (k:Nat):List (Nat×Hint (prods F.cout.tys)):=[(3,⟨c3,fun x=>qab.l3 k x.1 x.2.1 x.2.2.1 x.2.2.2.1 x.2.2.2.2.1 x.2.2.2.2.2.1 x.2.2.2.2.2.2.1 x.2.2.2.2.2.2.2.1 x.2.2.2.2.2.2.2.2.1 x.2.2.2.2.2.2.2.2.2⟩),(8,⟨c8,fun x=>qab.l8 k x.1 x.2.1 x.2.2.1 x.2.2.2.1 x.2.2.2.2.1 x.2.2.2.2.2.1 x.2.2.2.2.2.2.1 x.2.2.2.2.2.2.2.1 x.2.2.2.2.2.2.2.2.1 x.2.2.2.2.2.2.2.2.2.1 x.2.2.2.2.2.2.2.2.2.2⟩),(14,⟨c14,fun x=>qab.l14 k x.1 x.2.1 x.2.2.1 x.2.2.2.1 x.2.2.2.2.1 x.2.2.2.2.2.1 x.2.2.2.2.2.2.1 x.2.2.2.2.2.2.2.1 x.2.2.2.2.2.2.2.2.1 x.2.2.2.2.2.2.2.2.2.1 x.2.2.2.2.2.2.2.2.2.2.1 x.2.2.2.2.2.2.2.2.2.2.2.1 x.2.2.2.2.2.2.2.2.2.2.2.2.1 x.2.2.2.2.2.2.2.2.2.2.2.2.2⟩),(16,⟨c16,fun x=>qab.l16 k x.1 x.2.1 x.2.2.1 x.2.2.2.1 x.2.2.2.2.1 x.2.2.2.2.2.1 x.2.2.2.2.2.2.1 x.2.2.2.2.2.2.2.1 x.2.2.2.2.2.2.2.2.1 x.2.2.2.2.2.2.2.2.2.1 x.2.2.2.2.2.2.2.2.2.2.1 x.2.2.2.2.2.2.2.2.2.2.2.1 x.2.2.2.2.2.2.2.2.2.2.2.2.1 x.2.2.2.2.2.2.2.2.2.2.2.2.2⟩)]
noncomputable abbrev T (k:Nat):Nat→Option (Hint (prods F.cout.tys)):=look (Tl k)
noncomputable abbrev body:Code:=Go.Proofs.Tryz.f133.body.getD .skip
theorem s3 (k:Nat) (x:prods c3.tys):qab.l3 (k+1) x.1 x.2.1 x.2.2.1 x.2.2.2.1 x.2.2.2.2.1 x.2.2.2.2.2.1 x.2.2.2.2.2.2.1 x.2.2.2.2.2.2.2.1 x.2.2.2.2.2.2.2.2.1 x.2.2.2.2.2.2.2.2.2=segK (Γ k) F (T k) body 3 (c3.st x):=by kernel_rfl
theorem s8 (k:Nat) (x:prods c8.tys):qab.l8 (k+1) x.1 x.2.1 x.2.2.1 x.2.2.2.1 x.2.2.2.2.1 x.2.2.2.2.2.1 x.2.2.2.2.2.2.1 x.2.2.2.2.2.2.2.1 x.2.2.2.2.2.2.2.2.1 x.2.2.2.2.2.2.2.2.2.1 x.2.2.2.2.2.2.2.2.2.2=segK (Γ k) F (T k) body 8 (c8.st x):=by kernel_rfl
theorem s14 (k:Nat) (x:prods c14.tys):qab.l14 (k+1) x.1 x.2.1 x.2.2.1 x.2.2.2.1 x.2.2.2.2.1 x.2.2.2.2.2.1 x.2.2.2.2.2.2.1 x.2.2.2.2.2.2.2.1 x.2.2.2.2.2.2.2.2.1 x.2.2.2.2.2.2.2.2.2.1 x.2.2.2.2.2.2.2.2.2.2.1 x.2.2.2.2.2.2.2.2.2.2.2.1 x.2.2.2.2.2.2.2.2.2.2.2.2.1 x.2.2.2.2.2.2.2.2.2.2.2.2.2=segK (Γ k) F (T k) body 14 (c14.st x):=by kernel_rfl
theorem s16 (k:Nat) (x:prods c16.tys):qab.l16 (k+1) x.1 x.2.1 x.2.2.1 x.2.2.2.1 x.2.2.2.2.1 x.2.2.2.2.2.1 x.2.2.2.2.2.2.1 x.2.2.2.2.2.2.2.1 x.2.2.2.2.2.2.2.2.1 x.2.2.2.2.2.2.2.2.2.1 x.2.2.2.2.2.2.2.2.2.2.1 x.2.2.2.2.2.2.2.2.2.2.2.1 x.2.2.2.2.2.2.2.2.2.2.2.2.1 x.2.2.2.2.2.2.2.2.2.2.2.2.2=segK (Γ k) F (T k) body 16 (c16.st x):=by kernel_rfl
theorem main (k:Nat) (x:prods (con 0).cin.tys):qab.f k x=goK (Γ k) F (T k) 2000 [.code body] ((con 0).cin.st x):=by kernel_rfl
theorem okΓ (k:Nat):ΓOk Go.Proofs.Tryz.prog (Γ k):=Γcons (qa6.ok k) ⟨Go.Proofs.Tryz.f58,by kernel_rfl,by kernel_rfl,by kernel_rfl⟩ (Γcons (qaU.ok k) ⟨Go.Proofs.Tryz.f74,by kernel_rfl,by kernel_rfl,by kernel_rfl⟩ (Γnil))
theorem ok (k:Nat):qaj Go.Proofs.Tryz.prog 133 (con k):=qai (Γ:=Γ) (fn:=Go.Proofs.Tryz.f133) (body:=body) (cin:=(con 0).cin) (F:=F) (T:=T) follows (by kernel_rfl) (by kernel_rfl) (by kernel_rfl) (by kernel_rfl) (by kernel_rfl) (by decide+kernel) (by kernel_rfl) (by kernel_rfl) (tzero ⟨fun x=>by kernel_rfl,fun x=>by kernel_rfl,fun x=>by kernel_rfl,fun x=>by kernel_rfl,trivial⟩) k (fun m _=>okΓ m) (fun m _=>tstep ⟨fun x=>Eq.trans (by kernel_rfl) (s3 m x),fun x=>Eq.trans (by kernel_rfl) (s8 m x),fun x=>Eq.trans (by kernel_rfl) (s14 m x),fun x=>Eq.trans (by kernel_rfl) (s16 m x),trivial⟩) (fun x y h=>(main k x).symm.trans h)
end qab
namespace qa9
noncomputable abbrev con (k:Nat):Con:=⟨⟨[(0,.av Y17)],[]⟩,⟨[(0,.l (.val (.int .i64)))],[]⟩,fun x=>qa9.f k x,[]⟩
noncomputable abbrev Γ (k:Nat):Env:=lookE []
abbrev F:Fin Go.Proofs.Tryz.prog:=⟨⟨[(0,.l (.val (.int .i64)))],[]⟩,[],[.tmp 2],[]⟩
noncomputable abbrev Tl (k:Nat):List (Nat×Hint (prods F.cout.tys)):=[]
noncomputable abbrev T (k:Nat):Nat→Option (Hint (prods F.cout.tys)):=look (Tl k)
noncomputable abbrev body:Code:=Go.Proofs.Tryz.f60.body.getD .skip
theorem main (k:Nat) (x:prods (con 0).cin.tys):qa9.f k x=goK (Γ k) F (T k) 2000 [.code body] ((con 0).cin.st x):=by kernel_rfl
theorem okΓ (k:Nat):ΓOk Go.Proofs.Tryz.prog (Γ k):=Γnil
theorem ok (k:Nat):qaj Go.Proofs.Tryz.prog 60 (con k):=qai (Γ:=Γ) (fn:=Go.Proofs.Tryz.f60) (body:=body) (cin:=(con 0).cin) (F:=F) (T:=T) follows (by kernel_rfl) (by kernel_rfl) (by kernel_rfl) (by kernel_rfl) (by kernel_rfl) (by decide+kernel) (by kernel_rfl) (by kernel_rfl) (tzero trivial) k (fun m _=>okΓ m) (fun m _=>tstep trivial) (fun x y h=>(main k x).symm.trans h)
end qa9
namespace qa5
noncomputable abbrev con (k:Nat):Con:=⟨⟨[(0,.av Y17),(1,.av Y17)],[]⟩,⟨[(0,.av Y17)],[]⟩,fun x=>qa5.f k x.1 x.2,[]⟩
noncomputable abbrev Γ (k:Nat):Env:=lookE [((70,0),qbG.con k),((120,0),qaw.con k),((121,0),qaW.con k)]
abbrev F:Fin Go.Proofs.Tryz.prog:=⟨⟨[(0,.av Y17)],[]⟩,[],[.cell 4 122],[]⟩
noncomputable abbrev Tl (k:Nat):List (Nat×Hint (prods F.cout.tys)):=[]
noncomputable abbrev T (k:Nat):Nat→Option (Hint (prods F.cout.tys)):=look (Tl k)
noncomputable abbrev body:Code:=Go.Proofs.Tryz.f75.body.getD .skip
theorem main (k:Nat) (x:prods (con 0).cin.tys):qa5.f k x.1 x.2=goK (Γ k) F (T k) 2000 [.code body] ((con 0).cin.st x):=by kernel_rfl
theorem okΓ (k:Nat):ΓOk Go.Proofs.Tryz.prog (Γ k):=Γcons (qbG.ok k) ⟨Go.Proofs.Tryz.f70,by kernel_rfl,by kernel_rfl,by kernel_rfl⟩ (Γcons (qaw.ok k) ⟨Go.Proofs.Tryz.f120,by kernel_rfl,by kernel_rfl,by kernel_rfl⟩ (Γcons (qaW.ok k) ⟨Go.Proofs.Tryz.f121,by kernel_rfl,by kernel_rfl,by kernel_rfl⟩ (Γnil)))
theorem ok (k:Nat):qaj Go.Proofs.Tryz.prog 75 (con k):=qai (Γ:=Γ) (fn:=Go.Proofs.Tryz.f75) (body:=body) (cin:=(con 0).cin) (F:=F) (T:=T) follows (by kernel_rfl) (by kernel_rfl) (by kernel_rfl) (by kernel_rfl) (by kernel_rfl) (by decide+kernel) (by kernel_rfl) (by kernel_rfl) (tzero trivial) k (fun m _=>okΓ m) (fun m _=>tstep trivial) (fun x y h=>(main k x).symm.trans h)
end qa5
namespace qao
noncomputable abbrev con (k:Nat):Con:=⟨⟨[(0,.l (.row 9000000)),(1,.l (.val (.int .i64))),(2,.l (.val (.int .i64)))],[(9000000,.deep 114 122 Y17)]⟩,⟨[],[(9000000,.deep 114 122 Y17)]⟩,fun x=>qao.f k x.1 x.2.1 x.2.2,[9000000]⟩
noncomputable abbrev Γ (k:Nat):Env:=lookE [((60,0),qa9.con k),((74,0),qaU.con k),((75,0),qa5.con k),((131,0),qbw.con k)]
abbrev F:Fin Go.Proofs.Tryz.prog:=⟨⟨[],[(9000000,.deep 114 122 Y17)]⟩,[9000000],[],[9000000]⟩
abbrev c2:Cut:=⟨[(0,.l (.row 9000000)),(1,.l (.val (.int .i64))),(2,.l (.val (.int .i64))),(6,.l (.ptr 7000000 0)),(22,.l (.val (.int .i64))),(23,.l (.val (.int .i64)))],[(9000000,.deep 114 122 Y17),(7000000,.box 122 [.val .bool,.val (.list 246 (.int .u32)),.val (.list 246 (.int .u32))])]⟩
abbrev c7:Cut:=⟨[(0,.l (.row 9000000)),(1,.l (.val (.int .i64))),(2,.l (.val (.int .i64))),(43,.l (.val (.int .i64))),(44,.l (.val (.int .i64)))],[(9000000,.deep 114 122 Y17)]⟩
abbrev c12:Cut:=⟨[(0,.l (.row 9000000)),(1,.l (.val (.int .i64))),(2,.l (.val (.int .i64))),(8,.l (.val (.int .i64))),(9,.l (.ptr 7000000 0)),(43,.l (.val (.int .i64))),(44,.l (.val (.int .i64))),(66,.l (.val (.int .i64))),(67,.l (.val (.int .i64)))],[(9000000,.deep 114 122 Y17),(7000000,.box 122 [.val .bool,.val (.list 246 (.int .u32)),.val (.list 246 (.int .u32))])]⟩
noncomputable abbrev Tl (k:Nat):List (Nat×Hint (prods F.cout.tys)):=[(2,⟨c2,fun x=>qao.l2 k x.1 x.2.1 x.2.2.1 x.2.2.2.1 x.2.2.2.2.1 x.2.2.2.2.2.1 x.2.2.2.2.2.2.1 x.2.2.2.2.2.2.2⟩),(7,⟨c7,fun x=>qao.l7 k x.1 x.2.1 x.2.2.1 x.2.2.2.1 x.2.2.2.2⟩),(12,⟨c12,fun x=>qao.l12 k x.1 x.2.1 x.2.2.1 x.2.2.2.1 x.2.2.2.2.1 x.2.2.2.2.2.1 x.2.2.2.2.2.2.1 x.2.2.2.2.2.2.2.1 x.2.2.2.2.2.2.2.2.1 x.2.2.2.2.2.2.2.2.2.1 x.2.2.2.2.2.2.2.2.2.2⟩)]
noncomputable abbrev T (k:Nat):Nat→Option (Hint (prods F.cout.tys)):=look (Tl k)
noncomputable abbrev body:Code:=Go.Proofs.Tryz.f200.body.getD .skip
theorem s2 (k:Nat) (x:prods c2.tys):qao.l2 (k+1) x.1 x.2.1 x.2.2.1 x.2.2.2.1 x.2.2.2.2.1 x.2.2.2.2.2.1 x.2.2.2.2.2.2.1 x.2.2.2.2.2.2.2=segK (Γ k) F (T k) body 2 (c2.st x):=by kernel_rfl
theorem s7 (k:Nat) (x:prods c7.tys):qao.l7 (k+1) x.1 x.2.1 x.2.2.1 x.2.2.2.1 x.2.2.2.2=segK (Γ k) F (T k) body 7 (c7.st x):=by kernel_rfl
theorem s12 (k:Nat) (x:prods c12.tys):qao.l12 (k+1) x.1 x.2.1 x.2.2.1 x.2.2.2.1 x.2.2.2.2.1 x.2.2.2.2.2.1 x.2.2.2.2.2.2.1 x.2.2.2.2.2.2.2.1 x.2.2.2.2.2.2.2.2.1 x.2.2.2.2.2.2.2.2.2.1 x.2.2.2.2.2.2.2.2.2.2=segK (Γ k) F (T k) body 12 (c12.st x):=by kernel_rfl
theorem main (k:Nat) (x:prods (con 0).cin.tys):qao.f k x.1 x.2.1 x.2.2=goK (Γ k) F (T k) 2000 [.code body] ((con 0).cin.st x):=by kernel_rfl
theorem okΓ (k:Nat):ΓOk Go.Proofs.Tryz.prog (Γ k):=Γcons (qa9.ok k) ⟨Go.Proofs.Tryz.f60,by kernel_rfl,by kernel_rfl,by kernel_rfl⟩ (Γcons (qaU.ok k) ⟨Go.Proofs.Tryz.f74,by kernel_rfl,by kernel_rfl,by kernel_rfl⟩ (Γcons (qa5.ok k) ⟨Go.Proofs.Tryz.f75,by kernel_rfl,by kernel_rfl,by kernel_rfl⟩ (Γcons (qbw.ok k) ⟨Go.Proofs.Tryz.f131,by kernel_rfl,by kernel_rfl,by kernel_rfl⟩ (Γnil))))
theorem ok (k:Nat):qaj Go.Proofs.Tryz.prog 200 (con k):=qai (Γ:=Γ) (fn:=Go.Proofs.Tryz.f200) (body:=body) (cin:=(con 0).cin) (F:=F) (T:=T) follows (by kernel_rfl) (by kernel_rfl) (by kernel_rfl) (by kernel_rfl) (by kernel_rfl) (by decide+kernel) (by kernel_rfl) (by kernel_rfl) (tzero ⟨fun x=>by kernel_rfl,fun x=>by kernel_rfl,fun x=>by kernel_rfl,trivial⟩) k (fun m _=>okΓ m) (fun m _=>tstep ⟨fun x=>Eq.trans (by kernel_rfl) (s2 m x),fun x=>Eq.trans (by kernel_rfl) (s7 m x),fun x=>Eq.trans (by kernel_rfl) (s12 m x),trivial⟩) (fun x y h=>(main k x).symm.trans h)
end qao
namespace qap
noncomputable abbrev con (k:Nat):Con:=⟨⟨[(0,.l (.row 9000000)),(1,.l (.val (.int .i64)))],[(9000000,.deep 114 122 Y17)]⟩,⟨[(0,.l (.val (.list 3 (.int .i64))))],[(9000000,.deep 114 122 Y17)]⟩,fun x=>qap.f k x.1 x.2,[]⟩
noncomputable abbrev Γ (k:Nat):Env:=lookE [((60,0),qa9.con k),((200,0),qao.con k)]
abbrev F:Fin Go.Proofs.Tryz.prog:=⟨⟨[(0,.l (.val (.list 3 (.int .i64))))],[(9000000,.deep 114 122 Y17)]⟩,[9000000],[.tmp 4],[]⟩
abbrev c3:Cut:=⟨[(0,.l (.row 9000000)),(1,.l (.val (.int .i64))),(5,.l (.row 7000501)),(6,.l (.val (.int .i64)))],[(9000000,.deep 114 122 Y17),(7000501,.row 3 (.int .i64))]⟩
abbrev c7:Cut:=⟨[(0,.l (.row 9000000)),(1,.l (.val (.int .i64))),(5,.l (.row 7000501)),(6,.l (.val (.int .i64))),(7,.l (.val (.int .i64))),(8,.l (.val (.int .i64)))],[(9000000,.deep 114 122 Y17),(7000501,.row 3 (.int .i64))]⟩
noncomputable abbrev Tl (k:Nat):List (Nat×Hint (prods F.cout.tys)):=[(3,⟨c3,fun x=>qap.l3 k x.1 x.2.1 x.2.2.1 x.2.2.2⟩),(7,⟨c7,fun x=>qap.l7 k x.1 x.2.1 x.2.2.1 x.2.2.2.1 x.2.2.2.2.1 x.2.2.2.2.2⟩)]
noncomputable abbrev T (k:Nat):Nat→Option (Hint (prods F.cout.tys)):=look (Tl k)
noncomputable abbrev body:Code:=Go.Proofs.Tryz.f175.body.getD .skip
theorem s3 (k:Nat) (x:prods c3.tys):qap.l3 (k+1) x.1 x.2.1 x.2.2.1 x.2.2.2=segK (Γ k) F (T k) body 3 (c3.st x):=by kernel_rfl
theorem s7 (k:Nat) (x:prods c7.tys):qap.l7 (k+1) x.1 x.2.1 x.2.2.1 x.2.2.2.1 x.2.2.2.2.1 x.2.2.2.2.2=segK (Γ k) F (T k) body 7 (c7.st x):=by kernel_rfl
theorem main (k:Nat) (x:prods (con 0).cin.tys):qap.f k x.1 x.2=goK (Γ k) F (T k) 2000 [.code body] ((con 0).cin.st x):=by kernel_rfl
theorem okΓ (k:Nat):ΓOk Go.Proofs.Tryz.prog (Γ k):=Γcons (qa9.ok k) ⟨Go.Proofs.Tryz.f60,by kernel_rfl,by kernel_rfl,by kernel_rfl⟩ (Γcons (qao.ok k) ⟨Go.Proofs.Tryz.f200,by kernel_rfl,by kernel_rfl,by kernel_rfl⟩ (Γnil))
theorem ok (k:Nat):qaj Go.Proofs.Tryz.prog 175 (con k):=qai (Γ:=Γ) (fn:=Go.Proofs.Tryz.f175) (body:=body) (cin:=(con 0).cin) (F:=F) (T:=T) follows (by kernel_rfl) (by kernel_rfl) (by kernel_rfl) (by kernel_rfl) (by kernel_rfl) (by decide+kernel) (by kernel_rfl) (by kernel_rfl) (tzero ⟨fun x=>by kernel_rfl,fun x=>by kernel_rfl,trivial⟩) k (fun m _=>okΓ m) (fun m _=>tstep ⟨fun x=>Eq.trans (by kernel_rfl) (s3 m x),fun x=>Eq.trans (by kernel_rfl) (s7 m x),trivial⟩) (fun x y h=>(main k x).symm.trans h)
end qap
namespace qay
noncomputable abbrev con (k:Nat):Con:=⟨⟨[(0,.av Y30)],[]⟩,⟨[(0,.l (.val (.list 114 (.list 122 Y17))))],[]⟩,fun x=>qay.f k x,[]⟩
noncomputable abbrev Γ (k:Nat):Env:=lookE [((57,0),qbh.con k),((133,0),qab.con k),((175,0),qap.con k)]
abbrev F:Fin Go.Proofs.Tryz.prog:=⟨⟨[(0,.l (.val (.list 114 (.list 122 Y17))))],[]⟩,[],[.tmp 2],[]⟩
abbrev c4:Cut:=⟨[(3,.l (.row 7000000)),(4,.l (.val (.int .i64))),(13,.l (.val (.int .i64))),(14,.l (.val (.int .i64)))],[(7000000,.deep 114 122 Y17)]⟩
abbrev c12:Cut:=⟨[(3,.l (.row 7000000)),(4,.l (.val (.int .i64))),(37,.l (.val (.int .i64))),(38,.l (.val (.int .i64)))],[(7000000,.deep 114 122 Y17)]⟩
noncomputable abbrev Tl (k:Nat):List (Nat×Hint (prods F.cout.tys)):=[(4,⟨c4,fun x=>qay.l4 k x.1 x.2.1 x.2.2.1 x.2.2.2⟩),(12,⟨c12,fun x=>qay.l12 k x.1 x.2.1 x.2.2.1 x.2.2.2⟩)]
noncomputable abbrev T (k:Nat):Nat→Option (Hint (prods F.cout.tys)):=look (Tl k)
noncomputable abbrev body:Code:=Go.Proofs.Tryz.f192.body.getD .skip
theorem s4 (k:Nat) (x:prods c4.tys):qay.l4 (k+1) x.1 x.2.1 x.2.2.1 x.2.2.2=segK (Γ k) F (T k) body 4 (c4.st x):=by kernel_rfl
theorem s12 (k:Nat) (x:prods c12.tys):qay.l12 (k+1) x.1 x.2.1 x.2.2.1 x.2.2.2=segK (Γ k) F (T k) body 12 (c12.st x):=by kernel_rfl
theorem main (k:Nat) (x:prods (con 0).cin.tys):qay.f k x=goK (Γ k) F (T k) 2000 [.code body] ((con 0).cin.st x):=by kernel_rfl
theorem okΓ (k:Nat):ΓOk Go.Proofs.Tryz.prog (Γ k):=Γcons (qbh.ok k) ⟨Go.Proofs.Tryz.f57,by kernel_rfl,by kernel_rfl,by kernel_rfl⟩ (Γcons (qab.ok k) ⟨Go.Proofs.Tryz.f133,by kernel_rfl,by kernel_rfl,by kernel_rfl⟩ (Γcons (qap.ok k) ⟨Go.Proofs.Tryz.f175,by kernel_rfl,by kernel_rfl,by kernel_rfl⟩ (Γnil)))
theorem ok (k:Nat):qaj Go.Proofs.Tryz.prog 192 (con k):=qai (Γ:=Γ) (fn:=Go.Proofs.Tryz.f192) (body:=body) (cin:=(con 0).cin) (F:=F) (T:=T) follows (by kernel_rfl) (by kernel_rfl) (by kernel_rfl) (by kernel_rfl) (by kernel_rfl) (by decide+kernel) (by kernel_rfl) (by kernel_rfl) (tzero ⟨fun x=>by kernel_rfl,fun x=>by kernel_rfl,trivial⟩) k (fun m _=>okΓ m) (fun m _=>tstep ⟨fun x=>Eq.trans (by kernel_rfl) (s4 m x),fun x=>Eq.trans (by kernel_rfl) (s12 m x),trivial⟩) (fun x y h=>(main k x).symm.trans h)
end qay
namespace qa4
noncomputable abbrev con (k:Nat):Con:=⟨⟨[(0,.av Y30),(1,.l (.val (.int .i64)))],[]⟩,⟨[(0,.l (.val (.int .i64)))],[]⟩,fun x=>qa4.f k x.1 x.2,[]⟩
noncomputable abbrev Γ (k:Nat):Env:=lookE []
abbrev F:Fin Go.Proofs.Tryz.prog:=⟨⟨[(0,.l (.val (.int .i64)))],[]⟩,[],[.tmp 4],[]⟩
noncomputable abbrev Tl (k:Nat):List (Nat×Hint (prods F.cout.tys)):=[]
noncomputable abbrev T (k:Nat):Nat→Option (Hint (prods F.cout.tys)):=look (Tl k)
noncomputable abbrev body:Code:=Go.Proofs.Tryz.f193.body.getD .skip
theorem main (k:Nat) (x:prods (con 0).cin.tys):qa4.f k x.1 x.2=goK (Γ k) F (T k) 2000 [.code body] ((con 0).cin.st x):=by kernel_rfl
theorem okΓ (k:Nat):ΓOk Go.Proofs.Tryz.prog (Γ k):=Γnil
theorem ok (k:Nat):qaj Go.Proofs.Tryz.prog 193 (con k):=qai (Γ:=Γ) (fn:=Go.Proofs.Tryz.f193) (body:=body) (cin:=(con 0).cin) (F:=F) (T:=T) follows (by kernel_rfl) (by kernel_rfl) (by kernel_rfl) (by kernel_rfl) (by kernel_rfl) (by decide+kernel) (by kernel_rfl) (by kernel_rfl) (tzero trivial) k (fun m _=>okΓ m) (fun m _=>tstep trivial) (fun x y h=>(main k x).symm.trans h)
end qa4
namespace qal
noncomputable abbrev con (k:Nat):Con:=⟨⟨[(0,.av Y30)],[]⟩,⟨[(0,.l (.val (.list 114 (.list 122 Y17))))],[]⟩,fun x=>qal.f k x,[]⟩
noncomputable abbrev Γ (k:Nat):Env:=lookE [((74,0),qaU.con k),((75,0),qa5.con k),((192,0),qay.con k),((193,0),qa4.con k)]
abbrev F:Fin Go.Proofs.Tryz.prog:=⟨⟨[(0,.l (.val (.list 114 (.list 122 Y17))))],[]⟩,[],[.tmp 2],[]⟩
abbrev c5:Cut:=⟨[(1,.l (.ptr 7000000 0)),(3,.l (.val (.list 114 (.list 122 Y17)))),(4,.l (.row 7000001)),(5,.l (.val (.int .i64))),(21,.l (.val (.list 211 Y4))),(22,.l (.val (.int .i64))),(23,.l (.val (.int .i64)))],[(7000001,.deep 114 122 Y17),(7000000,.box 132 [.val (.list 3 (.int .i64)),.val (.list 3 (.int .i64)),.val (.list 211 Y4),.val (.list 122 Y17),.val (.list 122 Y17),.val (.list 3 (.int .i64)),.val (.int .i64)])]⟩
abbrev c9:Cut:=⟨[(1,.l (.ptr 7000000 0)),(3,.l (.val (.list 114 (.list 122 Y17)))),(4,.l (.row 7000001)),(5,.l (.val (.int .i64))),(6,.l (.val (.int .i64))),(7,.l (.ap 7000002)),(8,.l (.row 7000003)),(21,.l (.val (.list 211 Y4))),(22,.l (.val (.int .i64))),(23,.l (.val (.int .i64))),(31,.l (.val (.int .i64))),(32,.l (.val (.int .i64)))],[(7000000,.box 132 [.val (.list 3 (.int .i64)),.val (.list 3 (.int .i64)),.val (.list 211 Y4),.val (.list 122 Y17),.val (.list 122 Y17),.val (.list 3 (.int .i64)),.val (.int .i64)]),(7000001,.deep 114 122 Y17),(7000002,.row 3 (.int .i64)),(7000003,.row 122 Y17)]⟩
abbrev c17:Cut:=⟨[(1,.l (.ptr 7000000 0)),(3,.l (.val (.list 114 (.list 122 Y17)))),(4,.l (.row 7000001)),(5,.l (.val (.int .i64))),(6,.l (.val (.int .i64))),(7,.l (.ap 7000002)),(8,.l (.row 7000003)),(9,.l (.val (.int .i64))),(10,.l (.val (.int .i64))),(11,.l (.ptr 7000004 0)),(21,.l (.val (.list 211 Y4))),(22,.l (.val (.int .i64))),(23,.l (.val (.int .i64))),(31,.l (.val (.int .i64))),(32,.l (.val (.int .i64)))],[(7000000,.box 132 [.val (.list 3 (.int .i64)),.val (.list 3 (.int .i64)),.val (.list 211 Y4),.val (.list 122 Y17),.val (.list 122 Y17),.val (.list 3 (.int .i64)),.val (.int .i64)]),(7000001,.deep 114 122 Y17),(7000002,.row 3 (.int .i64)),(7000003,.row 122 Y17),(7000004,.box 122 [.val .bool,.val (.list 246 (.int .u32)),.val (.list 246 (.int .u32))])]⟩
abbrev c20:Cut:=⟨[(1,.l (.ptr 7000000 0)),(3,.l (.val (.list 114 (.list 122 Y17)))),(4,.l (.row 7000001)),(5,.l (.val (.int .i64))),(6,.l (.val (.int .i64))),(7,.l (.ap 7000002)),(8,.l (.row 7000003)),(9,.l (.val (.int .i64))),(11,.l (.ptr 7000004 0)),(21,.l (.val (.list 211 Y4))),(22,.l (.val (.int .i64))),(23,.l (.val (.int .i64))),(31,.l (.val (.int .i64))),(32,.l (.val (.int .i64)))],[(7000000,.box 132 [.val (.list 3 (.int .i64)),.val (.list 3 (.int .i64)),.val (.list 211 Y4),.val (.list 122 Y17),.val (.list 122 Y17),.val (.list 3 (.int .i64)),.val (.int .i64)]),(7000001,.deep 114 122 Y17),(7000002,.row 3 (.int .i64)),(7000003,.row 122 Y17),(7000004,.box 122 [.val .bool,.val (.list 246 (.int .u32)),.val (.list 246 (.int .u32))])]⟩
noncomputable abbrev Tl (k:Nat):List (Nat×Hint (prods F.cout.tys)):=[(5,⟨c5,fun x=>qal.l5 k x.1 x.2.1 x.2.2.1 x.2.2.2.1 x.2.2.2.2.1 x.2.2.2.2.2.1 x.2.2.2.2.2.2.1 x.2.2.2.2.2.2.2.1 x.2.2.2.2.2.2.2.2.1 x.2.2.2.2.2.2.2.2.2.1 x.2.2.2.2.2.2.2.2.2.2.1 x.2.2.2.2.2.2.2.2.2.2.2.1 x.2.2.2.2.2.2.2.2.2.2.2.2⟩),(9,⟨c9,fun x=>qal.l9 k x.1 x.2.1 x.2.2.1 x.2.2.2.1 x.2.2.2.2.1 x.2.2.2.2.2.1 x.2.2.2.2.2.2.1 x.2.2.2.2.2.2.2.1 x.2.2.2.2.2.2.2.2.1 x.2.2.2.2.2.2.2.2.2.1 x.2.2.2.2.2.2.2.2.2.2.1 x.2.2.2.2.2.2.2.2.2.2.2.1 x.2.2.2.2.2.2.2.2.2.2.2.2.1 x.2.2.2.2.2.2.2.2.2.2.2.2.2.1 x.2.2.2.2.2.2.2.2.2.2.2.2.2.2.1 x.2.2.2.2.2.2.2.2.2.2.2.2.2.2.2.1 x.2.2.2.2.2.2.2.2.2.2.2.2.2.2.2.2.1 x.2.2.2.2.2.2.2.2.2.2.2.2.2.2.2.2.2⟩),(17,⟨c17,fun x=>qal.l17 k x.1 x.2.1 x.2.2.1 x.2.2.2.1 x.2.2.2.2.1 x.2.2.2.2.2.1 x.2.2.2.2.2.2.1 x.2.2.2.2.2.2.2.1 x.2.2.2.2.2.2.2.2.1 x.2.2.2.2.2.2.2.2.2.1 x.2.2.2.2.2.2.2.2.2.2.1 x.2.2.2.2.2.2.2.2.2.2.2.1 x.2.2.2.2.2.2.2.2.2.2.2.2.1 x.2.2.2.2.2.2.2.2.2.2.2.2.2.1 x.2.2.2.2.2.2.2.2.2.2.2.2.2.2.1 x.2.2.2.2.2.2.2.2.2.2.2.2.2.2.2.1 x.2.2.2.2.2.2.2.2.2.2.2.2.2.2.2.2.1 x.2.2.2.2.2.2.2.2.2.2.2.2.2.2.2.2.2.1 x.2.2.2.2.2.2.2.2.2.2.2.2.2.2.2.2.2.2.1 x.2.2.2.2.2.2.2.2.2.2.2.2.2.2.2.2.2.2.2.1 x.2.2.2.2.2.2.2.2.2.2.2.2.2.2.2.2.2.2.2.2.1 x.2.2.2.2.2.2.2.2.2.2.2.2.2.2.2.2.2.2.2.2.2.1 x.2.2.2.2.2.2.2.2.2.2.2.2.2.2.2.2.2.2.2.2.2.2⟩),(20,⟨c20,fun x=>qal.l20 k x.1 x.2.1 x.2.2.1 x.2.2.2.1 x.2.2.2.2.1 x.2.2.2.2.2.1 x.2.2.2.2.2.2.1 x.2.2.2.2.2.2.2.1 x.2.2.2.2.2.2.2.2.1 x.2.2.2.2.2.2.2.2.2.1 x.2.2.2.2.2.2.2.2.2.2.1 x.2.2.2.2.2.2.2.2.2.2.2.1 x.2.2.2.2.2.2.2.2.2.2.2.2.1 x.2.2.2.2.2.2.2.2.2.2.2.2.2.1 x.2.2.2.2.2.2.2.2.2.2.2.2.2.2.1 x.2.2.2.2.2.2.2.2.2.2.2.2.2.2.2.1 x.2.2.2.2.2.2.2.2.2.2.2.2.2.2.2.2.1 x.2.2.2.2.2.2.2.2.2.2.2.2.2.2.2.2.2.1 x.2.2.2.2.2.2.2.2.2.2.2.2.2.2.2.2.2.2.1 x.2.2.2.2.2.2.2.2.2.2.2.2.2.2.2.2.2.2.2.1 x.2.2.2.2.2.2.2.2.2.2.2.2.2.2.2.2.2.2.2.2.1 x.2.2.2.2.2.2.2.2.2.2.2.2.2.2.2.2.2.2.2.2.2⟩)]
noncomputable abbrev T (k:Nat):Nat→Option (Hint (prods F.cout.tys)):=look (Tl k)
noncomputable abbrev body:Code:=Go.Proofs.Tryz.f170.body.getD .skip
theorem s5 (k:Nat) (x:prods c5.tys):qal.l5 (k+1) x.1 x.2.1 x.2.2.1 x.2.2.2.1 x.2.2.2.2.1 x.2.2.2.2.2.1 x.2.2.2.2.2.2.1 x.2.2.2.2.2.2.2.1 x.2.2.2.2.2.2.2.2.1 x.2.2.2.2.2.2.2.2.2.1 x.2.2.2.2.2.2.2.2.2.2.1 x.2.2.2.2.2.2.2.2.2.2.2.1 x.2.2.2.2.2.2.2.2.2.2.2.2=segK (Γ k) F (T k) body 5 (c5.st x):=by kernel_rfl
theorem s9 (k:Nat) (x:prods c9.tys):qal.l9 (k+1) x.1 x.2.1 x.2.2.1 x.2.2.2.1 x.2.2.2.2.1 x.2.2.2.2.2.1 x.2.2.2.2.2.2.1 x.2.2.2.2.2.2.2.1 x.2.2.2.2.2.2.2.2.1 x.2.2.2.2.2.2.2.2.2.1 x.2.2.2.2.2.2.2.2.2.2.1 x.2.2.2.2.2.2.2.2.2.2.2.1 x.2.2.2.2.2.2.2.2.2.2.2.2.1 x.2.2.2.2.2.2.2.2.2.2.2.2.2.1 x.2.2.2.2.2.2.2.2.2.2.2.2.2.2.1 x.2.2.2.2.2.2.2.2.2.2.2.2.2.2.2.1 x.2.2.2.2.2.2.2.2.2.2.2.2.2.2.2.2.1 x.2.2.2.2.2.2.2.2.2.2.2.2.2.2.2.2.2=segK (Γ k) F (T k) body 9 (c9.st x):=by kernel_rfl
theorem s17 (k:Nat) (x:prods c17.tys):qal.l17 (k+1) x.1 x.2.1 x.2.2.1 x.2.2.2.1 x.2.2.2.2.1 x.2.2.2.2.2.1 x.2.2.2.2.2.2.1 x.2.2.2.2.2.2.2.1 x.2.2.2.2.2.2.2.2.1 x.2.2.2.2.2.2.2.2.2.1 x.2.2.2.2.2.2.2.2.2.2.1 x.2.2.2.2.2.2.2.2.2.2.2.1 x.2.2.2.2.2.2.2.2.2.2.2.2.1 x.2.2.2.2.2.2.2.2.2.2.2.2.2.1 x.2.2.2.2.2.2.2.2.2.2.2.2.2.2.1 x.2.2.2.2.2.2.2.2.2.2.2.2.2.2.2.1 x.2.2.2.2.2.2.2.2.2.2.2.2.2.2.2.2.1 x.2.2.2.2.2.2.2.2.2.2.2.2.2.2.2.2.2.1 x.2.2.2.2.2.2.2.2.2.2.2.2.2.2.2.2.2.2.1 x.2.2.2.2.2.2.2.2.2.2.2.2.2.2.2.2.2.2.2.1 x.2.2.2.2.2.2.2.2.2.2.2.2.2.2.2.2.2.2.2.2.1 x.2.2.2.2.2.2.2.2.2.2.2.2.2.2.2.2.2.2.2.2.2.1 x.2.2.2.2.2.2.2.2.2.2.2.2.2.2.2.2.2.2.2.2.2.2=segK (Γ k) F (T k) body 17 (c17.st x):=by kernel_rfl
theorem s20 (k:Nat) (x:prods c20.tys):qal.l20 (k+1) x.1 x.2.1 x.2.2.1 x.2.2.2.1 x.2.2.2.2.1 x.2.2.2.2.2.1 x.2.2.2.2.2.2.1 x.2.2.2.2.2.2.2.1 x.2.2.2.2.2.2.2.2.1 x.2.2.2.2.2.2.2.2.2.1 x.2.2.2.2.2.2.2.2.2.2.1 x.2.2.2.2.2.2.2.2.2.2.2.1 x.2.2.2.2.2.2.2.2.2.2.2.2.1 x.2.2.2.2.2.2.2.2.2.2.2.2.2.1 x.2.2.2.2.2.2.2.2.2.2.2.2.2.2.1 x.2.2.2.2.2.2.2.2.2.2.2.2.2.2.2.1 x.2.2.2.2.2.2.2.2.2.2.2.2.2.2.2.2.1 x.2.2.2.2.2.2.2.2.2.2.2.2.2.2.2.2.2.1 x.2.2.2.2.2.2.2.2.2.2.2.2.2.2.2.2.2.2.1 x.2.2.2.2.2.2.2.2.2.2.2.2.2.2.2.2.2.2.2.1 x.2.2.2.2.2.2.2.2.2.2.2.2.2.2.2.2.2.2.2.2.1 x.2.2.2.2.2.2.2.2.2.2.2.2.2.2.2.2.2.2.2.2.2=segK (Γ k) F (T k) body 20 (c20.st x):=by kernel_rfl
theorem main (k:Nat) (x:prods (con 0).cin.tys):qal.f k x=goK (Γ k) F (T k) 2000 [.code body] ((con 0).cin.st x):=by kernel_rfl
theorem okΓ (k:Nat):ΓOk Go.Proofs.Tryz.prog (Γ k):=Γcons (qaU.ok k) ⟨Go.Proofs.Tryz.f74,by kernel_rfl,by kernel_rfl,by kernel_rfl⟩ (Γcons (qa5.ok k) ⟨Go.Proofs.Tryz.f75,by kernel_rfl,by kernel_rfl,by kernel_rfl⟩ (Γcons (qay.ok k) ⟨Go.Proofs.Tryz.f192,by kernel_rfl,by kernel_rfl,by kernel_rfl⟩ (Γcons (qa4.ok k) ⟨Go.Proofs.Tryz.f193,by kernel_rfl,by kernel_rfl,by kernel_rfl⟩ (Γnil))))
theorem ok (k:Nat):qaj Go.Proofs.Tryz.prog 170 (con k):=qai (Γ:=Γ) (fn:=Go.Proofs.Tryz.f170) (body:=body) (cin:=(con 0).cin) (F:=F) (T:=T) follows (by kernel_rfl) (by kernel_rfl) (by kernel_rfl) (by kernel_rfl) (by kernel_rfl) (by decide+kernel) (by kernel_rfl) (by kernel_rfl) (tzero ⟨fun x=>by kernel_rfl,fun x=>by kernel_rfl,fun x=>by kernel_rfl,fun x=>by kernel_rfl,trivial⟩) k (fun m _=>okΓ m) (fun m _=>tstep ⟨fun x=>Eq.trans (by kernel_rfl) (s5 m x),fun x=>Eq.trans (by kernel_rfl) (s9 m x),fun x=>Eq.trans (by kernel_rfl) (s17 m x),fun x=>Eq.trans (by kernel_rfl) (s20 m x),trivial⟩) (fun x y h=>(main k x).symm.trans h)
end qal
namespace strings_trimLeftByte
noncomputable abbrev con (k:Nat):Con:=⟨⟨[(0,.l (.val .str)),(1,.l (.val (.int .u8)))],[]⟩,⟨[(0,.l (.val .str))],[]⟩,fun x=>strings_trimLeftByte.f k x.1 x.2,[]⟩
noncomputable abbrev Γ (k:Nat):Env:=lookE []
abbrev F:Fin Go.Proofs.Tryz.prog:=⟨⟨[(0,.l (.val .str))],[]⟩,[],[.tmp 4],[]⟩
abbrev c1:Cut:=⟨[(0,.l (.val .str)),(1,.l (.val (.int .u8)))],[]⟩
noncomputable abbrev Tl (k:Nat):List (Nat×Hint (prods F.cout.tys)):=[(1,⟨c1,fun x=>strings_trimLeftByte.l1 k x.1 x.2⟩)]
noncomputable abbrev T (k:Nat):Nat→Option (Hint (prods F.cout.tys)):=look (Tl k)
noncomputable abbrev body:Code:=Go.Proofs.Tryz.f196.body.getD .skip
theorem s1 (k:Nat) (x:prods c1.tys):strings_trimLeftByte.l1 (k+1) x.1 x.2=segK (Γ k) F (T k) body 1 (c1.st x):=by kernel_rfl
theorem main (k:Nat) (x:prods (con 0).cin.tys):strings_trimLeftByte.f k x.1 x.2=goK (Γ k) F (T k) 2000 [.code body] ((con 0).cin.st x):=by kernel_rfl
theorem okΓ (k:Nat):ΓOk Go.Proofs.Tryz.prog (Γ k):=Γnil
theorem ok (k:Nat):qaj Go.Proofs.Tryz.prog 196 (con k):=qai (Γ:=Γ) (fn:=Go.Proofs.Tryz.f196) (body:=body) (cin:=(con 0).cin) (F:=F) (T:=T) follows (by kernel_rfl) (by kernel_rfl) (by kernel_rfl) (by kernel_rfl) (by kernel_rfl) (by decide+kernel) (by kernel_rfl) (by kernel_rfl) (tzero ⟨fun x=>by kernel_rfl,trivial⟩) k (fun m _=>okΓ m) (fun m _=>tstep ⟨fun x=>Eq.trans (by kernel_rfl) (s1 m x),trivial⟩) (fun x y h=>(main k x).symm.trans h)
end strings_trimLeftByte
namespace qbk
noncomputable abbrev con (k:Nat):Con:=⟨⟨[(0,.l (.val .str)),(1,.l (.val .str))],[]⟩,⟨[(0,.l (.val .str))],[]⟩,fun x=>qbk.f k x.1 x.2,[]⟩
noncomputable abbrev Γ (k:Nat):Env:=lookE [((196,0),strings_trimLeftByte.con k)]
abbrev F:Fin Go.Proofs.Tryz.prog:=⟨⟨[(0,.l (.val .str))],[]⟩,[],[.tmp 4],[]⟩
noncomputable abbrev Tl (k:Nat):List (Nat×Hint (prods F.cout.tys)):=[]
noncomputable abbrev T (k:Nat):Nat→Option (Hint (prods F.cout.tys)):=look (Tl k)
noncomputable abbrev body:Code:=Go.Proofs.Tryz.f174.body.getD .skip
theorem main (k:Nat) (x:prods (con 0).cin.tys):qbk.f k x.1 x.2=goK (Γ k) F (T k) 2000 [.code body] ((con 0).cin.st x):=by kernel_rfl
theorem okΓ (k:Nat):ΓOk Go.Proofs.Tryz.prog (Γ k):=Γcons (strings_trimLeftByte.ok k) ⟨Go.Proofs.Tryz.f196,by kernel_rfl,by kernel_rfl,by kernel_rfl⟩ (Γnil)
theorem ok (k:Nat):qaj Go.Proofs.Tryz.prog 174 (con k):=qai (Γ:=Γ) (fn:=Go.Proofs.Tryz.f174) (body:=body) (cin:=(con 0).cin) (F:=F) (T:=T) follows (by kernel_rfl) (by kernel_rfl) (by kernel_rfl) (by kernel_rfl) (by kernel_rfl) (by decide+kernel) (by kernel_rfl) (by kernel_rfl) (tzero trivial) k (fun m _=>okΓ m) (fun m _=>tstep trivial) (fun x y h=>(main k x).symm.trans h)
end qbk
namespace qax
noncomputable abbrev con (k:Nat):Con:=⟨⟨[(0,.l (.val (.list 246 (.int .u32))))],[]⟩,⟨[(0,.l (.val .str))],[]⟩,fun x=>qax.f k x,[]⟩
noncomputable abbrev Γ (k:Nat):Env:=lookE [((174,0),qbk.con k)]
abbrev F:Fin Go.Proofs.Tryz.prog:=⟨⟨[(0,.l (.val .str))],[]⟩,[],[.tmp 2],[]⟩
abbrev c0:Cut:=⟨[(0,.l (.val (.list 246 (.int .u32))))],[]⟩
abbrev c5:Cut:=⟨[(0,.l (.val (.list 246 (.int .u32)))),(3,.l (.row 7000000)),(4,.l (.val (.int .i64)))],[(7000000,.row 5 (.int .u8))]⟩
abbrev c10:Cut:=⟨[(0,.l (.val (.list 246 (.int .u32)))),(3,.l (.row 7000000)),(4,.l (.val (.int .i64))),(5,.l (.val (.int .u32))),(6,.l (.ap 7000001)),(7,.l (.val (.int .i64)))],[(7000000,.row 5 (.int .u8)),(7000001,.row 5 (.int .u8))]⟩
noncomputable abbrev Tl (k:Nat):List (Nat×Hint (prods F.cout.tys)):=[(0,⟨c0,fun x=>qax.l0 k x⟩),(5,⟨c5,fun x=>qax.l5 k x.1 x.2.1 x.2.2⟩),(10,⟨c10,fun x=>qax.l10 k x.1 x.2.1 x.2.2.1 x.2.2.2.1 x.2.2.2.2.1 x.2.2.2.2.2⟩)]
noncomputable abbrev T (k:Nat):Nat→Option (Hint (prods F.cout.tys)):=look (Tl k)
noncomputable abbrev body:Code:=Go.Proofs.Tryz.f128.body.getD .skip
theorem s0 (k:Nat) (x:prods c0.tys):qax.l0 (k+1) x=segK (Γ k) F (T k) body 0 (c0.st x):=by kernel_rfl
theorem s5 (k:Nat) (x:prods c5.tys):qax.l5 (k+1) x.1 x.2.1 x.2.2=segK (Γ k) F (T k) body 5 (c5.st x):=by kernel_rfl
theorem s10 (k:Nat) (x:prods c10.tys):qax.l10 (k+1) x.1 x.2.1 x.2.2.1 x.2.2.2.1 x.2.2.2.2.1 x.2.2.2.2.2=segK (Γ k) F (T k) body 10 (c10.st x):=by kernel_rfl
theorem main (k:Nat) (x:prods (con 0).cin.tys):qax.f k x=goK (Γ k) F (T k) 2000 [.code body] ((con 0).cin.st x):=by kernel_rfl
theorem okΓ (k:Nat):ΓOk Go.Proofs.Tryz.prog (Γ k):=Γcons (qbk.ok k) ⟨Go.Proofs.Tryz.f174,by kernel_rfl,by kernel_rfl,by kernel_rfl⟩ (Γnil)
theorem ok (k:Nat):qaj Go.Proofs.Tryz.prog 128 (con k):=qai (Γ:=Γ) (fn:=Go.Proofs.Tryz.f128) (body:=body) (cin:=(con 0).cin) (F:=F) (T:=T) follows (by kernel_rfl) (by kernel_rfl) (by kernel_rfl) (by kernel_rfl) (by kernel_rfl) (by decide+kernel) (by kernel_rfl) (by kernel_rfl) (tzero ⟨fun x=>by kernel_rfl,fun x=>by kernel_rfl,fun x=>by kernel_rfl,trivial⟩) k (fun m _=>okΓ m) (fun m _=>tstep ⟨fun x=>Eq.trans (by kernel_rfl) (s0 m x),fun x=>Eq.trans (by kernel_rfl) (s5 m x),fun x=>Eq.trans (by kernel_rfl) (s10 m x),trivial⟩) (fun x y h=>(main k x).symm.trans h)
end qax
namespace qbz
noncomputable abbrev con (k:Nat):Con:=⟨⟨[(0,.l (.val (.list 246 (.int .u32))))],[]⟩,⟨[(0,.l (.val (.int .i64)))],[]⟩,fun x=>qbz.f k x,[]⟩
noncomputable abbrev Γ (k:Nat):Env:=lookE [((128,0),qax.con k)]
abbrev F:Fin Go.Proofs.Tryz.prog:=⟨⟨[(0,.l (.val (.int .i64)))],[]⟩,[],[.tmp 2],[]⟩
noncomputable abbrev Tl (k:Nat):List (Nat×Hint (prods F.cout.tys)):=[]
noncomputable abbrev T (k:Nat):Nat→Option (Hint (prods F.cout.tys)):=look (Tl k)
noncomputable abbrev body:Code:=Go.Proofs.Tryz.f137.body.getD .skip
theorem main (k:Nat) (x:prods (con 0).cin.tys):qbz.f k x=goK (Γ k) F (T k) 2000 [.code body] ((con 0).cin.st x):=by kernel_rfl
theorem okΓ (k:Nat):ΓOk Go.Proofs.Tryz.prog (Γ k):=Γcons (qax.ok k) ⟨Go.Proofs.Tryz.f128,by kernel_rfl,by kernel_rfl,by kernel_rfl⟩ (Γnil)
theorem ok (k:Nat):qaj Go.Proofs.Tryz.prog 137 (con k):=qai (Γ:=Γ) (fn:=Go.Proofs.Tryz.f137) (body:=body) (cin:=(con 0).cin) (F:=F) (T:=T) follows (by kernel_rfl) (by kernel_rfl) (by kernel_rfl) (by kernel_rfl) (by kernel_rfl) (by decide+kernel) (by kernel_rfl) (by kernel_rfl) (tzero trivial) k (fun m _=>okΓ m) (fun m _=>tstep trivial) (fun x y h=>(main k x).symm.trans h)
end qbz
namespace qbX
noncomputable abbrev con (k:Nat):Con:=⟨⟨[(0,.av Y17)],[]⟩,⟨[(0,.l (.val (.int .i64)))],[]⟩,fun x=>qbX.f k x,[]⟩
noncomputable abbrev Γ (k:Nat):Env:=lookE [((137,0),qbz.con k)]
abbrev F:Fin Go.Proofs.Tryz.prog:=⟨⟨[(0,.l (.val (.int .i64)))],[]⟩,[],[.tmp 2],[]⟩
noncomputable abbrev Tl (k:Nat):List (Nat×Hint (prods F.cout.tys)):=[]
noncomputable abbrev T (k:Nat):Nat→Option (Hint (prods F.cout.tys)):=look (Tl k)
noncomputable abbrev body:Code:=Go.Proofs.Tryz.f76.body.getD .skip
theorem main (k:Nat) (x:prods (con 0).cin.tys):qbX.f k x=goK (Γ k) F (T k) 2000 [.code body] ((con 0).cin.st x):=by kernel_rfl
theorem okΓ (k:Nat):ΓOk Go.Proofs.Tryz.prog (Γ k):=Γcons (qbz.ok k) ⟨Go.Proofs.Tryz.f137,by kernel_rfl,by kernel_rfl,by kernel_rfl⟩ (Γnil)
theorem ok (k:Nat):qaj Go.Proofs.Tryz.prog 76 (con k):=qai (Γ:=Γ) (fn:=Go.Proofs.Tryz.f76) (body:=body) (cin:=(con 0).cin) (F:=F) (T:=T) follows (by kernel_rfl) (by kernel_rfl) (by kernel_rfl) (by kernel_rfl) (by kernel_rfl) (by decide+kernel) (by kernel_rfl) (by kernel_rfl) (tzero trivial) k (fun m _=>okΓ m) (fun m _=>tstep trivial) (fun x y h=>(main k x).symm.trans h)
end qbX
namespace qbx
noncomputable abbrev con (k:Nat):Con:=⟨⟨[(0,.av Y17)],[]⟩,⟨[(0,.l (.val .str))],[]⟩,fun x=>qbx.f k x,[]⟩
noncomputable abbrev Γ (k:Nat):Env:=lookE [((121,0),qaW.con k),((128,0),qax.con k)]
abbrev F:Fin Go.Proofs.Tryz.prog:=⟨⟨[(0,.l (.val .str))],[]⟩,[],[.tmp 2],[]⟩
noncomputable abbrev Tl (k:Nat):List (Nat×Hint (prods F.cout.tys)):=[]
noncomputable abbrev T (k:Nat):Nat→Option (Hint (prods F.cout.tys)):=look (Tl k)
noncomputable abbrev body:Code:=Go.Proofs.Tryz.f62.body.getD .skip
theorem main (k:Nat) (x:prods (con 0).cin.tys):qbx.f k x=goK (Γ k) F (T k) 2000 [.code body] ((con 0).cin.st x):=by kernel_rfl
theorem okΓ (k:Nat):ΓOk Go.Proofs.Tryz.prog (Γ k):=Γcons (qaW.ok k) ⟨Go.Proofs.Tryz.f121,by kernel_rfl,by kernel_rfl,by kernel_rfl⟩ (Γcons (qax.ok k) ⟨Go.Proofs.Tryz.f128,by kernel_rfl,by kernel_rfl,by kernel_rfl⟩ (Γnil))
theorem ok (k:Nat):qaj Go.Proofs.Tryz.prog 62 (con k):=qai (Γ:=Γ) (fn:=Go.Proofs.Tryz.f62) (body:=body) (cin:=(con 0).cin) (F:=F) (T:=T) follows (by kernel_rfl) (by kernel_rfl) (by kernel_rfl) (by kernel_rfl) (by kernel_rfl) (by decide+kernel) (by kernel_rfl) (by kernel_rfl) (tzero trivial) k (fun m _=>okΓ m) (fun m _=>tstep trivial) (fun x y h=>(main k x).symm.trans h)
end qbx
namespace qa3
noncomputable abbrev con (k:Nat):Con:=⟨⟨[(0,.l (.val (.list 122 Y17)))],[]⟩,⟨[(0,.l (.val (.list 39 .str))),(1,.l (.val (.int .i64)))],[]⟩,fun x=>qa3.f k x,[]⟩
noncomputable abbrev Γ (k:Nat):Env:=lookE [((62,0),qbx.con k),((76,0),qbX.con k)]
abbrev F:Fin Go.Proofs.Tryz.prog:=⟨⟨[(0,.l (.val (.list 39 .str))),(1,.l (.val (.int .i64)))],[]⟩,[],[.tmp 2,.tmp 3],[]⟩
abbrev c3:Cut:=⟨[(4,.l (.row 7000500)),(8,.l (.val (.list 122 Y17))),(9,.l (.val (.int .i64))),(10,.l (.val (.int .i64)))],[(7000500,.row 39 .str)]⟩
noncomputable abbrev Tl (k:Nat):List (Nat×Hint (prods F.cout.tys)):=[(3,⟨c3,fun x=>qa3.l3 k x.1 x.2.1 x.2.2.1 x.2.2.2⟩)]
noncomputable abbrev T (k:Nat):Nat→Option (Hint (prods F.cout.tys)):=look (Tl k)
noncomputable abbrev body:Code:=Go.Proofs.Tryz.f67.body.getD .skip
theorem s3 (k:Nat) (x:prods c3.tys):qa3.l3 (k+1) x.1 x.2.1 x.2.2.1 x.2.2.2=segK (Γ k) F (T k) body 3 (c3.st x):=by kernel_rfl
theorem main (k:Nat) (x:prods (con 0).cin.tys):qa3.f k x=goK (Γ k) F (T k) 2000 [.code body] ((con 0).cin.st x):=by kernel_rfl
theorem okΓ (k:Nat):ΓOk Go.Proofs.Tryz.prog (Γ k):=Γcons (qbx.ok k) ⟨Go.Proofs.Tryz.f62,by kernel_rfl,by kernel_rfl,by kernel_rfl⟩ (Γcons (qbX.ok k) ⟨Go.Proofs.Tryz.f76,by kernel_rfl,by kernel_rfl,by kernel_rfl⟩ (Γnil))
theorem ok (k:Nat):qaj Go.Proofs.Tryz.prog 67 (con k):=qai (Γ:=Γ) (fn:=Go.Proofs.Tryz.f67) (body:=body) (cin:=(con 0).cin) (F:=F) (T:=T) follows (by kernel_rfl) (by kernel_rfl) (by kernel_rfl) (by kernel_rfl) (by kernel_rfl) (by decide+kernel) (by kernel_rfl) (by kernel_rfl) (tzero ⟨fun x=>by kernel_rfl,trivial⟩) k (fun m _=>okΓ m) (fun m _=>tstep ⟨fun x=>Eq.trans (by kernel_rfl) (s3 m x),trivial⟩) (fun x y h=>(main k x).symm.trans h)
end qa3
namespace qaR
noncomputable abbrev con (k:Nat):Con:=⟨⟨[(0,.l (.val (.list 114 (.list 122 Y17))))],[]⟩,⟨[(0,.l (.val (.list 35 (.list 39 .str)))),(1,.l (.val (.int .i64)))],[]⟩,fun x=>qaR.f k x,[]⟩
noncomputable abbrev Γ (k:Nat):Env:=lookE [((67,0),qa3.con k)]
abbrev F:Fin Go.Proofs.Tryz.prog:=⟨⟨[(0,.l (.val (.list 35 (.list 39 .str)))),(1,.l (.val (.int .i64)))],[]⟩,[],[.tmp 2,.tmp 3],[]⟩
abbrev c3:Cut:=⟨[(4,.l (.row 7000500)),(9,.l (.val (.list 114 (.list 122 Y17)))),(10,.l (.val (.int .i64))),(11,.l (.val (.int .i64)))],[(7000500,.row 35 (.list 39 .str))]⟩
noncomputable abbrev Tl (k:Nat):List (Nat×Hint (prods F.cout.tys)):=[(3,⟨c3,fun x=>qaR.l3 k x.1 x.2.1 x.2.2.1 x.2.2.2⟩)]
noncomputable abbrev T (k:Nat):Nat→Option (Hint (prods F.cout.tys)):=look (Tl k)
noncomputable abbrev body:Code:=Go.Proofs.Tryz.f169.body.getD .skip
theorem s3 (k:Nat) (x:prods c3.tys):qaR.l3 (k+1) x.1 x.2.1 x.2.2.1 x.2.2.2=segK (Γ k) F (T k) body 3 (c3.st x):=by kernel_rfl
theorem main (k:Nat) (x:prods (con 0).cin.tys):qaR.f k x=goK (Γ k) F (T k) 2000 [.code body] ((con 0).cin.st x):=by kernel_rfl
theorem okΓ (k:Nat):ΓOk Go.Proofs.Tryz.prog (Γ k):=Γcons (qa3.ok k) ⟨Go.Proofs.Tryz.f67,by kernel_rfl,by kernel_rfl,by kernel_rfl⟩ (Γnil)
theorem ok (k:Nat):qaj Go.Proofs.Tryz.prog 169 (con k):=qai (Γ:=Γ) (fn:=Go.Proofs.Tryz.f169) (body:=body) (cin:=(con 0).cin) (F:=F) (T:=T) follows (by kernel_rfl) (by kernel_rfl) (by kernel_rfl) (by kernel_rfl) (by kernel_rfl) (by decide+kernel) (by kernel_rfl) (by kernel_rfl) (tzero ⟨fun x=>by kernel_rfl,trivial⟩) k (fun m _=>okΓ m) (fun m _=>tstep ⟨fun x=>Eq.trans (by kernel_rfl) (s3 m x),trivial⟩) (fun x y h=>(main k x).symm.trans h)
end qaR
namespace qby
noncomputable abbrev con (k:Nat):Con:=⟨⟨[(0,.av Y23)],[]⟩,⟨[(0,.l (.val (.list 35 (.list 39 .str)))),(1,.l (.val (.int .i64)))],[]⟩,fun x=>qby.f k x,[]⟩
noncomputable abbrev Γ (k:Nat):Env:=lookE [((53,0),qaf.con k),((64,0),qaH.con k),((169,0),qaR.con k),((170,0),qal.con k)]
abbrev F:Fin Go.Proofs.Tryz.prog:=⟨⟨[(0,.l (.val (.list 35 (.list 39 .str)))),(1,.l (.val (.int .i64)))],[]⟩,[],[.tmp 2,.tmp 3],[]⟩
noncomputable abbrev Tl (k:Nat):List (Nat×Hint (prods F.cout.tys)):=[]
noncomputable abbrev T (k:Nat):Nat→Option (Hint (prods F.cout.tys)):=look (Tl k)
noncomputable abbrev body:Code:=Go.Proofs.Tryz.f118.body.getD .skip
theorem main (k:Nat) (x:prods (con 0).cin.tys):qby.f k x=goK (Γ k) F (T k) 2000 [.code body] ((con 0).cin.st x):=by kernel_rfl
theorem okΓ (k:Nat):ΓOk Go.Proofs.Tryz.prog (Γ k):=Γcons (qaf.ok k) ⟨Go.Proofs.Tryz.f53,by kernel_rfl,by kernel_rfl,by kernel_rfl⟩ (Γcons (qaH.ok k) ⟨Go.Proofs.Tryz.f64,by kernel_rfl,by kernel_rfl,by kernel_rfl⟩ (Γcons (qaR.ok k) ⟨Go.Proofs.Tryz.f169,by kernel_rfl,by kernel_rfl,by kernel_rfl⟩ (Γcons (qal.ok k) ⟨Go.Proofs.Tryz.f170,by kernel_rfl,by kernel_rfl,by kernel_rfl⟩ (Γnil))))
theorem ok (k:Nat):qaj Go.Proofs.Tryz.prog 118 (con k):=qai (Γ:=Γ) (fn:=Go.Proofs.Tryz.f118) (body:=body) (cin:=(con 0).cin) (F:=F) (T:=T) follows (by kernel_rfl) (by kernel_rfl) (by kernel_rfl) (by kernel_rfl) (by kernel_rfl) (by decide+kernel) (by kernel_rfl) (by kernel_rfl) (tzero trivial) k (fun m _=>okΓ m) (fun m _=>tstep trivial) (fun x y h=>(main k x).symm.trans h)
end qby
namespace qaC
noncomputable abbrev con (k:Nat):Con:=⟨⟨[(0,.av Y23),(1,.l (.val (.list 3 (.int .i64))))],[]⟩,⟨[(0,.l (.val (.int .i64)))],[]⟩,fun x=>qaC.f k x.1 x.2,[]⟩
noncomputable abbrev Γ (k:Nat):Env:=lookE [((53,0),qaf.con k),((115,0),qaM.con k),((129,0),qa1.con k)]
abbrev F:Fin Go.Proofs.Tryz.prog:=⟨⟨[(0,.l (.val (.int .i64)))],[]⟩,[],[.tmp 4],[]⟩
abbrev c7:Cut:=⟨[(1,.l (.val (.list 3 (.int .i64)))),(2,.l (.ptr 7000000 0)),(25,.l (.val (.list 3 (.int .i64)))),(26,.l (.val (.int .i64))),(27,.l (.val (.int .i64)))],[(7000000,.box 29 [.val (.list 9 .str),.val (.list 190 Y3),.val (.list 60 Y11),.val (.list 48 Y13),.val (.list 51 Y15),.val (.list 240 Y13)])]⟩
abbrev c15:Cut:=⟨[(8,.l (.ptr 7000000 0)),(9,.l (.row 7000001)),(44,.l (.val (.list 3 (.int .i64)))),(45,.l (.val (.int .i64))),(46,.l (.val (.int .i64)))],[(7000000,.box 110 [.val (.list 3 (.int .i64)),.val (.list 3 (.int .i64))]),(7000001,.row 3 (.int .i64))]⟩
abbrev c20:Cut:=⟨[(67,.l (.row 7000000)),(68,.l (.val (.int .i64))),(69,.l (.val (.int .i64)))],[(7000000,.row 3 (.int .i64))]⟩
noncomputable abbrev Tl (k:Nat):List (Nat×Hint (prods F.cout.tys)):=[(7,⟨c7,fun x=>qaC.l7 k x.1 x.2.1 x.2.2.1 x.2.2.2.1 x.2.2.2.2.1 x.2.2.2.2.2.1 x.2.2.2.2.2.2.1 x.2.2.2.2.2.2.2.1 x.2.2.2.2.2.2.2.2.1 x.2.2.2.2.2.2.2.2.2⟩),(15,⟨c15,fun x=>qaC.l15 k x.1 x.2.1 x.2.2.1 x.2.2.2.1 x.2.2.2.2.1 x.2.2.2.2.2⟩),(20,⟨c20,fun x=>qaC.l20 k x.1 x.2.1 x.2.2⟩)]
noncomputable abbrev T (k:Nat):Nat→Option (Hint (prods F.cout.tys)):=look (Tl k)
noncomputable abbrev body:Code:=Go.Proofs.Tryz.f63.body.getD .skip
theorem s7 (k:Nat) (x:prods c7.tys):qaC.l7 (k+1) x.1 x.2.1 x.2.2.1 x.2.2.2.1 x.2.2.2.2.1 x.2.2.2.2.2.1 x.2.2.2.2.2.2.1 x.2.2.2.2.2.2.2.1 x.2.2.2.2.2.2.2.2.1 x.2.2.2.2.2.2.2.2.2=segK (Γ k) F (T k) body 7 (c7.st x):=by kernel_rfl
theorem s15 (k:Nat) (x:prods c15.tys):qaC.l15 (k+1) x.1 x.2.1 x.2.2.1 x.2.2.2.1 x.2.2.2.2.1 x.2.2.2.2.2=segK (Γ k) F (T k) body 15 (c15.st x):=by kernel_rfl
theorem s20 (k:Nat) (x:prods c20.tys):qaC.l20 (k+1) x.1 x.2.1 x.2.2=segK (Γ k) F (T k) body 20 (c20.st x):=by kernel_rfl
theorem main (k:Nat) (x:prods (con 0).cin.tys):qaC.f k x.1 x.2=goK (Γ k) F (T k) 2000 [.code body] ((con 0).cin.st x):=by kernel_rfl
theorem okΓ (k:Nat):ΓOk Go.Proofs.Tryz.prog (Γ k):=Γcons (qaf.ok k) ⟨Go.Proofs.Tryz.f53,by kernel_rfl,by kernel_rfl,by kernel_rfl⟩ (Γcons (qaM.ok k) ⟨Go.Proofs.Tryz.f115,by kernel_rfl,by kernel_rfl,by kernel_rfl⟩ (Γcons (qa1.ok k) ⟨Go.Proofs.Tryz.f129,by kernel_rfl,by kernel_rfl,by kernel_rfl⟩ (Γnil)))
theorem ok (k:Nat):qaj Go.Proofs.Tryz.prog 63 (con k):=qai (Γ:=Γ) (fn:=Go.Proofs.Tryz.f63) (body:=body) (cin:=(con 0).cin) (F:=F) (T:=T) follows (by kernel_rfl) (by kernel_rfl) (by kernel_rfl) (by kernel_rfl) (by kernel_rfl) (by decide+kernel) (by kernel_rfl) (by kernel_rfl) (tzero ⟨fun x=>by kernel_rfl,fun x=>by kernel_rfl,fun x=>by kernel_rfl,trivial⟩) k (fun m _=>okΓ m) (fun m _=>tstep ⟨fun x=>Eq.trans (by kernel_rfl) (s7 m x),fun x=>Eq.trans (by kernel_rfl) (s15 m x),fun x=>Eq.trans (by kernel_rfl) (s20 m x),trivial⟩) (fun x y h=>(main k x).symm.trans h)
end qaC
namespace qam
noncomputable abbrev con (k:Nat):Con:=⟨⟨[(0,.av Y30),(1,.l (.val (.list 3 (.int .i64))))],[]⟩,⟨[(0,.l (.val (.list 122 Y17)))],[]⟩,fun x=>qam.f k x.1 x.2,[]⟩
noncomputable abbrev Γ (k:Nat):Env:=lookE [((57,0),qbh.con k)]
abbrev F:Fin Go.Proofs.Tryz.prog:=⟨⟨[(0,.l (.val (.list 122 Y17)))],[]⟩,[],[.tmp 4],[]⟩
abbrev c3:Cut:=⟨[(2,.l (.ptr 7000000 0)),(5,.l (.row 7000001)),(15,.l (.val (.list 3 (.int .i64)))),(16,.l (.val (.int .i64))),(17,.l (.val (.int .i64)))],[(7000000,.box 132 [.val (.list 3 (.int .i64)),.val (.list 3 (.int .i64)),.val (.list 211 Y4),.val (.list 122 Y17),.val (.list 122 Y17),.val (.list 3 (.int .i64)),.val (.int .i64)]),(7000001,.row 3 (.int .i64))]⟩
abbrev c9:Cut:=⟨[(8,.l (.row 7000501)),(35,.l (.row 7000000)),(36,.l (.val (.int .i64))),(37,.l (.val (.int .i64)))],[(7000501,.row 122 Y17),(7000000,.row 3 (.int .i64))]⟩
noncomputable abbrev Tl (k:Nat):List (Nat×Hint (prods F.cout.tys)):=[(3,⟨c3,fun x=>qam.l3 k x.1 x.2.1 x.2.2.1 x.2.2.2.1 x.2.2.2.2.1 x.2.2.2.2.2.1 x.2.2.2.2.2.2.1 x.2.2.2.2.2.2.2.1 x.2.2.2.2.2.2.2.2.1 x.2.2.2.2.2.2.2.2.2.1 x.2.2.2.2.2.2.2.2.2.2⟩),(9,⟨c9,fun x=>qam.l9 k x.1 x.2.1 x.2.2.1 x.2.2.2⟩)]
noncomputable abbrev T (k:Nat):Nat→Option (Hint (prods F.cout.tys)):=look (Tl k)
noncomputable abbrev body:Code:=Go.Proofs.Tryz.f66.body.getD .skip
theorem s3 (k:Nat) (x:prods c3.tys):qam.l3 (k+1) x.1 x.2.1 x.2.2.1 x.2.2.2.1 x.2.2.2.2.1 x.2.2.2.2.2.1 x.2.2.2.2.2.2.1 x.2.2.2.2.2.2.2.1 x.2.2.2.2.2.2.2.2.1 x.2.2.2.2.2.2.2.2.2.1 x.2.2.2.2.2.2.2.2.2.2=segK (Γ k) F (T k) body 3 (c3.st x):=by kernel_rfl
theorem s9 (k:Nat) (x:prods c9.tys):qam.l9 (k+1) x.1 x.2.1 x.2.2.1 x.2.2.2=segK (Γ k) F (T k) body 9 (c9.st x):=by kernel_rfl
theorem main (k:Nat) (x:prods (con 0).cin.tys):qam.f k x.1 x.2=goK (Γ k) F (T k) 2000 [.code body] ((con 0).cin.st x):=by kernel_rfl
theorem okΓ (k:Nat):ΓOk Go.Proofs.Tryz.prog (Γ k):=Γcons (qbh.ok k) ⟨Go.Proofs.Tryz.f57,by kernel_rfl,by kernel_rfl,by kernel_rfl⟩ (Γnil)
theorem ok (k:Nat):qaj Go.Proofs.Tryz.prog 66 (con k):=qai (Γ:=Γ) (fn:=Go.Proofs.Tryz.f66) (body:=body) (cin:=(con 0).cin) (F:=F) (T:=T) follows (by kernel_rfl) (by kernel_rfl) (by kernel_rfl) (by kernel_rfl) (by kernel_rfl) (by decide+kernel) (by kernel_rfl) (by kernel_rfl) (tzero ⟨fun x=>by kernel_rfl,fun x=>by kernel_rfl,trivial⟩) k (fun m _=>okΓ m) (fun m _=>tstep ⟨fun x=>Eq.trans (by kernel_rfl) (s3 m x),fun x=>Eq.trans (by kernel_rfl) (s9 m x),trivial⟩) (fun x y h=>(main k x).symm.trans h)
end qam
namespace qat
noncomputable abbrev con (k:Nat):Con:=⟨⟨[(0,.l (.val (.list 114 (.list 122 Y17)))),(1,.l (.val (.list 122 Y17))),(2,.l (.val (.int .i64)))],[]⟩,⟨[(0,.l (.val (.list 122 Y17))),(1,.l (.val (.int .i64)))],[]⟩,fun x=>qat.f k x.1 x.2.1 x.2.2,[]⟩
noncomputable abbrev Γ (k:Nat):Env:=lookE [((60,0),qa9.con k),((175,0),qap.con k)]
abbrev F:Fin Go.Proofs.Tryz.prog:=⟨⟨[(0,.l (.val (.list 122 Y17))),(1,.l (.val (.int .i64)))],[]⟩,[],[.tmp 6,.tmp 7],[]⟩
abbrev c3:Cut:=⟨[(1,.l (.val (.list 122 Y17))),(2,.l (.val (.int .i64))),(8,.l (.row 7000000)),(16,.l (.val (.list 114 (.list 122 Y17)))),(17,.l (.val (.int .i64))),(18,.l (.val (.int .i64)))],[(7000000,.deep 114 122 Y17)]⟩
abbrev c9:Cut:=⟨[(2,.l (.val (.int .i64))),(8,.l (.val (.list 114 (.list 122 Y17)))),(11,.l (.val (.list 3 (.int .i64)))),(41,.l (.val (.list 114 (.list 122 Y17)))),(42,.l (.val (.int .i64))),(43,.l (.val (.int .i64)))],[]⟩
abbrev c18:Cut:=⟨[(2,.l (.val (.int .i64))),(8,.l (.val (.list 114 (.list 122 Y17)))),(14,.l (.row 7000000)),(61,.l (.val (.int .i64))),(62,.l (.val (.int .i64)))],[(7000000,.row 122 Y17)]⟩
noncomputable abbrev Tl (k:Nat):List (Nat×Hint (prods F.cout.tys)):=[(3,⟨c3,fun x=>qat.l3 k x.1 x.2.1 x.2.2.1 x.2.2.2.1 x.2.2.2.2.1 x.2.2.2.2.2⟩),(9,⟨c9,fun x=>qat.l9 k x.1 x.2.1 x.2.2.1 x.2.2.2.1 x.2.2.2.2.1 x.2.2.2.2.2⟩),(18,⟨c18,fun x=>qat.l18 k x.1 x.2.1 x.2.2.1 x.2.2.2.1 x.2.2.2.2⟩)]
noncomputable abbrev T (k:Nat):Nat→Option (Hint (prods F.cout.tys)):=look (Tl k)
noncomputable abbrev body:Code:=Go.Proofs.Tryz.f132.body.getD .skip
theorem s3 (k:Nat) (x:prods c3.tys):qat.l3 (k+1) x.1 x.2.1 x.2.2.1 x.2.2.2.1 x.2.2.2.2.1 x.2.2.2.2.2=segK (Γ k) F (T k) body 3 (c3.st x):=by kernel_rfl
theorem s9 (k:Nat) (x:prods c9.tys):qat.l9 (k+1) x.1 x.2.1 x.2.2.1 x.2.2.2.1 x.2.2.2.2.1 x.2.2.2.2.2=segK (Γ k) F (T k) body 9 (c9.st x):=by kernel_rfl
theorem s18 (k:Nat) (x:prods c18.tys):qat.l18 (k+1) x.1 x.2.1 x.2.2.1 x.2.2.2.1 x.2.2.2.2=segK (Γ k) F (T k) body 18 (c18.st x):=by kernel_rfl
theorem main (k:Nat) (x:prods (con 0).cin.tys):qat.f k x.1 x.2.1 x.2.2=goK (Γ k) F (T k) 2000 [.code body] ((con 0).cin.st x):=by kernel_rfl
theorem okΓ (k:Nat):ΓOk Go.Proofs.Tryz.prog (Γ k):=Γcons (qa9.ok k) ⟨Go.Proofs.Tryz.f60,by kernel_rfl,by kernel_rfl,by kernel_rfl⟩ (Γcons (qap.ok k) ⟨Go.Proofs.Tryz.f175,by kernel_rfl,by kernel_rfl,by kernel_rfl⟩ (Γnil))
theorem ok (k:Nat):qaj Go.Proofs.Tryz.prog 132 (con k):=qai (Γ:=Γ) (fn:=Go.Proofs.Tryz.f132) (body:=body) (cin:=(con 0).cin) (F:=F) (T:=T) follows (by kernel_rfl) (by kernel_rfl) (by kernel_rfl) (by kernel_rfl) (by kernel_rfl) (by decide+kernel) (by kernel_rfl) (by kernel_rfl) (tzero ⟨fun x=>by kernel_rfl,fun x=>by kernel_rfl,fun x=>by kernel_rfl,trivial⟩) k (fun m _=>okΓ m) (fun m _=>tstep ⟨fun x=>Eq.trans (by kernel_rfl) (s3 m x),fun x=>Eq.trans (by kernel_rfl) (s9 m x),fun x=>Eq.trans (by kernel_rfl) (s18 m x),trivial⟩) (fun x y h=>(main k x).symm.trans h)
end qat
namespace qac
noncomputable abbrev con (k:Nat):Con:=⟨⟨[(0,.av Y30),(1,.l (.val (.list 122 Y17)))],[]⟩,⟨[(0,.l (.val (.list 122 Y17)))],[]⟩,fun x=>qac.f k x.1 x.2,[]⟩
noncomputable abbrev Γ (k:Nat):Env:=lookE [((58,0),qa6.con k),((74,0),qaU.con k),((75,0),qa5.con k),((132,0),qat.con k),((133,0),qab.con k)]
abbrev F:Fin Go.Proofs.Tryz.prog:=⟨⟨[(0,.l (.val (.list 122 Y17)))],[]⟩,[],[.tmp 4],[]⟩
abbrev c3:Cut:=⟨[(2,.l (.ptr 7000000 0)),(5,.l (.row 7000001)),(22,.l (.val (.list 122 Y17))),(23,.l (.val (.int .i64))),(24,.l (.val (.int .i64)))],[(7000000,.box 132 [.val (.list 3 (.int .i64)),.val (.list 3 (.int .i64)),.val (.list 211 Y4),.val (.list 122 Y17),.val (.list 122 Y17),.val (.list 3 (.int .i64)),.val (.int .i64)]),(7000001,.row 122 Y17)]⟩
abbrev c10:Cut:=⟨[(2,.l (.ptr 7000000 0)),(5,.l (.row 7000001)),(47,.l (.val (.list 211 Y4))),(48,.l (.val (.int .i64))),(49,.l (.val (.int .i64)))],[(7000000,.box 132 [.val (.list 3 (.int .i64)),.val (.list 3 (.int .i64)),.val (.list 211 Y4),.val (.list 122 Y17),.val (.list 122 Y17),.val (.list 3 (.int .i64)),.val (.int .i64)]),(7000001,.row 122 Y17)]⟩
abbrev c16:Cut:=⟨[(2,.l (.ptr 7000000 0)),(5,.l (.row 7000001)),(10,.l (.ap 7000002)),(11,.l (.ptr 7000003 0)),(47,.l (.val (.list 211 Y4))),(48,.l (.val (.int .i64))),(49,.l (.val (.int .i64)))],[(7000000,.box 132 [.val (.list 3 (.int .i64)),.val (.list 3 (.int .i64)),.val (.list 211 Y4),.val (.list 122 Y17),.val (.list 122 Y17),.val (.list 3 (.int .i64)),.val (.int .i64)]),(7000001,.row 122 Y17),(7000002,.row 3 (.int .i64)),(7000003,.box 122 [.val .bool,.val (.list 246 (.int .u32)),.val (.list 246 (.int .u32))])]⟩
abbrev c23:Cut:=⟨[(14,.l (.val (.list 122 Y17))),(16,.l (.row 7000000)),(114,.l (.val (.list 3 (.int .i64)))),(115,.l (.val (.int .i64))),(116,.l (.val (.int .i64)))],[(7000000,.row 122 Y17)]⟩
noncomputable abbrev Tl (k:Nat):List (Nat×Hint (prods F.cout.tys)):=[(3,⟨c3,fun x=>qac.l3 k x.1 x.2.1 x.2.2.1 x.2.2.2.1 x.2.2.2.2.1 x.2.2.2.2.2.1 x.2.2.2.2.2.2.1 x.2.2.2.2.2.2.2.1 x.2.2.2.2.2.2.2.2.1 x.2.2.2.2.2.2.2.2.2.1 x.2.2.2.2.2.2.2.2.2.2⟩),(10,⟨c10,fun x=>qac.l10 k x.1 x.2.1 x.2.2.1 x.2.2.2.1 x.2.2.2.2.1 x.2.2.2.2.2.1 x.2.2.2.2.2.2.1 x.2.2.2.2.2.2.2.1 x.2.2.2.2.2.2.2.2.1 x.2.2.2.2.2.2.2.2.2.1 x.2.2.2.2.2.2.2.2.2.2⟩),(16,⟨c16,fun x=>qac.l16 k x.1 x.2.1 x.2.2.1 x.2.2.2.1 x.2.2.2.2.1 x.2.2.2.2.2.1 x.2.2.2.2.2.2.1 x.2.2.2.2.2.2.2.1 x.2.2.2.2.2.2.2.2.1 x.2.2.2.2.2.2.2.2.2.1 x.2.2.2.2.2.2.2.2.2.2.1 x.2.2.2.2.2.2.2.2.2.2.2.1 x.2.2.2.2.2.2.2.2.2.2.2.2.1 x.2.2.2.2.2.2.2.2.2.2.2.2.2.1 x.2.2.2.2.2.2.2.2.2.2.2.2.2.2⟩),(23,⟨c23,fun x=>qac.l23 k x.1 x.2.1 x.2.2.1 x.2.2.2.1 x.2.2.2.2⟩)]
noncomputable abbrev T (k:Nat):Nat→Option (Hint (prods F.cout.tys)):=look (Tl k)
noncomputable abbrev body:Code:=Go.Proofs.Tryz.f65.body.getD .skip
theorem s3 (k:Nat) (x:prods c3.tys):qac.l3 (k+1) x.1 x.2.1 x.2.2.1 x.2.2.2.1 x.2.2.2.2.1 x.2.2.2.2.2.1 x.2.2.2.2.2.2.1 x.2.2.2.2.2.2.2.1 x.2.2.2.2.2.2.2.2.1 x.2.2.2.2.2.2.2.2.2.1 x.2.2.2.2.2.2.2.2.2.2=segK (Γ k) F (T k) body 3 (c3.st x):=by kernel_rfl
theorem s10 (k:Nat) (x:prods c10.tys):qac.l10 (k+1) x.1 x.2.1 x.2.2.1 x.2.2.2.1 x.2.2.2.2.1 x.2.2.2.2.2.1 x.2.2.2.2.2.2.1 x.2.2.2.2.2.2.2.1 x.2.2.2.2.2.2.2.2.1 x.2.2.2.2.2.2.2.2.2.1 x.2.2.2.2.2.2.2.2.2.2=segK (Γ k) F (T k) body 10 (c10.st x):=by kernel_rfl
theorem s16 (k:Nat) (x:prods c16.tys):qac.l16 (k+1) x.1 x.2.1 x.2.2.1 x.2.2.2.1 x.2.2.2.2.1 x.2.2.2.2.2.1 x.2.2.2.2.2.2.1 x.2.2.2.2.2.2.2.1 x.2.2.2.2.2.2.2.2.1 x.2.2.2.2.2.2.2.2.2.1 x.2.2.2.2.2.2.2.2.2.2.1 x.2.2.2.2.2.2.2.2.2.2.2.1 x.2.2.2.2.2.2.2.2.2.2.2.2.1 x.2.2.2.2.2.2.2.2.2.2.2.2.2.1 x.2.2.2.2.2.2.2.2.2.2.2.2.2.2=segK (Γ k) F (T k) body 16 (c16.st x):=by kernel_rfl
theorem s23 (k:Nat) (x:prods c23.tys):qac.l23 (k+1) x.1 x.2.1 x.2.2.1 x.2.2.2.1 x.2.2.2.2=segK (Γ k) F (T k) body 23 (c23.st x):=by kernel_rfl
theorem main (k:Nat) (x:prods (con 0).cin.tys):qac.f k x.1 x.2=goK (Γ k) F (T k) 2000 [.code body] ((con 0).cin.st x):=by kernel_rfl
theorem okΓ (k:Nat):ΓOk Go.Proofs.Tryz.prog (Γ k):=Γcons (qa6.ok k) ⟨Go.Proofs.Tryz.f58,by kernel_rfl,by kernel_rfl,by kernel_rfl⟩ (Γcons (qaU.ok k) ⟨Go.Proofs.Tryz.f74,by kernel_rfl,by kernel_rfl,by kernel_rfl⟩ (Γcons (qa5.ok k) ⟨Go.Proofs.Tryz.f75,by kernel_rfl,by kernel_rfl,by kernel_rfl⟩ (Γcons (qat.ok k) ⟨Go.Proofs.Tryz.f132,by kernel_rfl,by kernel_rfl,by kernel_rfl⟩ (Γcons (qab.ok k) ⟨Go.Proofs.Tryz.f133,by kernel_rfl,by kernel_rfl,by kernel_rfl⟩ (Γnil)))))
theorem ok (k:Nat):qaj Go.Proofs.Tryz.prog 65 (con k):=qai (Γ:=Γ) (fn:=Go.Proofs.Tryz.f65) (body:=body) (cin:=(con 0).cin) (F:=F) (T:=T) follows (by kernel_rfl) (by kernel_rfl) (by kernel_rfl) (by kernel_rfl) (by kernel_rfl) (by decide+kernel) (by kernel_rfl) (by kernel_rfl) (tzero ⟨fun x=>by kernel_rfl,fun x=>by kernel_rfl,fun x=>by kernel_rfl,fun x=>by kernel_rfl,trivial⟩) k (fun m _=>okΓ m) (fun m _=>tstep ⟨fun x=>Eq.trans (by kernel_rfl) (s3 m x),fun x=>Eq.trans (by kernel_rfl) (s10 m x),fun x=>Eq.trans (by kernel_rfl) (s16 m x),fun x=>Eq.trans (by kernel_rfl) (s23 m x),trivial⟩) (fun x y h=>(main k x).symm.trans h)
end qac
namespace qbo
noncomputable abbrev con (k:Nat):Con:=⟨⟨[(0,.av Y30),(1,.l (.val (.int .i64))),(2,.l (.val (.list 122 Y17)))],[]⟩,⟨[(0,.av Y17)],[]⟩,fun x=>qbo.f k x.1 x.2.1 x.2.2,[]⟩
noncomputable abbrev Γ (k:Nat):Env:=lookE [((74,0),qaU.con k),((75,0),qa5.con k)]
abbrev F:Fin Go.Proofs.Tryz.prog:=⟨⟨[(0,.av Y17)],[]⟩,[],[.cell 6 122],[]⟩
noncomputable abbrev Tl (k:Nat):List (Nat×Hint (prods F.cout.tys)):=[]
noncomputable abbrev T (k:Nat):Nat→Option (Hint (prods F.cout.tys)):=look (Tl k)
noncomputable abbrev body:Code:=Go.Proofs.Tryz.f134.body.getD .skip
theorem main (k:Nat) (x:prods (con 0).cin.tys):qbo.f k x.1 x.2.1 x.2.2=goK (Γ k) F (T k) 2000 [.code body] ((con 0).cin.st x):=by kernel_rfl
theorem okΓ (k:Nat):ΓOk Go.Proofs.Tryz.prog (Γ k):=Γcons (qaU.ok k) ⟨Go.Proofs.Tryz.f74,by kernel_rfl,by kernel_rfl,by kernel_rfl⟩ (Γcons (qa5.ok k) ⟨Go.Proofs.Tryz.f75,by kernel_rfl,by kernel_rfl,by kernel_rfl⟩ (Γnil))
theorem ok (k:Nat):qaj Go.Proofs.Tryz.prog 134 (con k):=qai (Γ:=Γ) (fn:=Go.Proofs.Tryz.f134) (body:=body) (cin:=(con 0).cin) (F:=F) (T:=T) follows (by kernel_rfl) (by kernel_rfl) (by kernel_rfl) (by kernel_rfl) (by kernel_rfl) (by decide+kernel) (by kernel_rfl) (by kernel_rfl) (tzero trivial) k (fun m _=>okΓ m) (fun m _=>tstep trivial) (fun x y h=>(main k x).symm.trans h)
end qbo
namespace qaG
noncomputable abbrev con (k:Nat):Con:=⟨⟨[(0,.av Y30),(1,.l (.val (.list 122 Y17)))],[]⟩,⟨[(0,.l (.val (.list 122 Y17)))],[]⟩,fun x=>qaG.f k x.1 x.2,[]⟩
noncomputable abbrev Γ (k:Nat):Env:=lookE [((134,0),qbo.con k)]
abbrev F:Fin Go.Proofs.Tryz.prog:=⟨⟨[(0,.l (.val (.list 122 Y17)))],[]⟩,[],[.tmp 4],[]⟩
abbrev c3:Cut:=⟨[(1,.l (.val (.list 122 Y17))),(2,.l (.ptr 7000000 0)),(5,.l (.row 7000501)),(9,.l (.val (.int .i64))),(10,.l (.val (.int .i64)))],[(7000000,.box 132 [.val (.list 3 (.int .i64)),.val (.list 3 (.int .i64)),.val (.list 211 Y4),.val (.list 122 Y17),.val (.list 122 Y17),.val (.list 3 (.int .i64)),.val (.int .i64)]),(7000501,.row 122 Y17)]⟩
noncomputable abbrev Tl (k:Nat):List (Nat×Hint (prods F.cout.tys)):=[(3,⟨c3,fun x=>qaG.l3 k x.1 x.2.1 x.2.2.1 x.2.2.2.1 x.2.2.2.2.1 x.2.2.2.2.2.1 x.2.2.2.2.2.2.1 x.2.2.2.2.2.2.2.1 x.2.2.2.2.2.2.2.2.1 x.2.2.2.2.2.2.2.2.2.1 x.2.2.2.2.2.2.2.2.2.2⟩)]
noncomputable abbrev T (k:Nat):Nat→Option (Hint (prods F.cout.tys)):=look (Tl k)
noncomputable abbrev body:Code:=Go.Proofs.Tryz.f68.body.getD .skip
theorem s3 (k:Nat) (x:prods c3.tys):qaG.l3 (k+1) x.1 x.2.1 x.2.2.1 x.2.2.2.1 x.2.2.2.2.1 x.2.2.2.2.2.1 x.2.2.2.2.2.2.1 x.2.2.2.2.2.2.2.1 x.2.2.2.2.2.2.2.2.1 x.2.2.2.2.2.2.2.2.2.1 x.2.2.2.2.2.2.2.2.2.2=segK (Γ k) F (T k) body 3 (c3.st x):=by kernel_rfl
theorem main (k:Nat) (x:prods (con 0).cin.tys):qaG.f k x.1 x.2=goK (Γ k) F (T k) 2000 [.code body] ((con 0).cin.st x):=by kernel_rfl
theorem okΓ (k:Nat):ΓOk Go.Proofs.Tryz.prog (Γ k):=Γcons (qbo.ok k) ⟨Go.Proofs.Tryz.f134,by kernel_rfl,by kernel_rfl,by kernel_rfl⟩ (Γnil)
theorem ok (k:Nat):qaj Go.Proofs.Tryz.prog 68 (con k):=qai (Γ:=Γ) (fn:=Go.Proofs.Tryz.f68) (body:=body) (cin:=(con 0).cin) (F:=F) (T:=T) follows (by kernel_rfl) (by kernel_rfl) (by kernel_rfl) (by kernel_rfl) (by kernel_rfl) (by decide+kernel) (by kernel_rfl) (by kernel_rfl) (tzero ⟨fun x=>by kernel_rfl,trivial⟩) k (fun m _=>okΓ m) (fun m _=>tstep ⟨fun x=>Eq.trans (by kernel_rfl) (s3 m x),trivial⟩) (fun x y h=>(main k x).symm.trans h)
end qaG
namespace qbp
noncomputable abbrev con (k:Nat):Con:=⟨⟨[(0,.av Y23),(1,.l (.val (.list 3 (.int .i64))))],[]⟩,⟨[(0,.av Y31),(1,.l (.val (.int .i64)))],[]⟩,fun x=>qbp.f k x.1 x.2,[]⟩
noncomputable abbrev Γ (k:Nat):Env:=lookE [((63,0),qaC.con k),((64,0),qaH.con k),((65,0),qac.con k),((66,0),qam.con k),((67,0),qa3.con k),((68,0),qaG.con k)]
abbrev F:Fin Go.Proofs.Tryz.prog:=⟨⟨[(0,.av Y31),(1,.l (.val (.int .i64)))],[]⟩,[],[.cell 4 42,.tmp 5],[]⟩
noncomputable abbrev Tl (k:Nat):List (Nat×Hint (prods F.cout.tys)):=[]
noncomputable abbrev T (k:Nat):Nat→Option (Hint (prods F.cout.tys)):=look (Tl k)
noncomputable abbrev body:Code:=Go.Proofs.Tryz.f17.body.getD .skip
theorem main (k:Nat) (x:prods (con 0).cin.tys):qbp.f k x.1 x.2=goK (Γ k) F (T k) 2000 [.code body] ((con 0).cin.st x):=by kernel_rfl
theorem okΓ (k:Nat):ΓOk Go.Proofs.Tryz.prog (Γ k):=Γcons (qaC.ok k) ⟨Go.Proofs.Tryz.f63,by kernel_rfl,by kernel_rfl,by kernel_rfl⟩ (Γcons (qaH.ok k) ⟨Go.Proofs.Tryz.f64,by kernel_rfl,by kernel_rfl,by kernel_rfl⟩ (Γcons (qac.ok k) ⟨Go.Proofs.Tryz.f65,by kernel_rfl,by kernel_rfl,by kernel_rfl⟩ (Γcons (qam.ok k) ⟨Go.Proofs.Tryz.f66,by kernel_rfl,by kernel_rfl,by kernel_rfl⟩ (Γcons (qa3.ok k) ⟨Go.Proofs.Tryz.f67,by kernel_rfl,by kernel_rfl,by kernel_rfl⟩ (Γcons (qaG.ok k) ⟨Go.Proofs.Tryz.f68,by kernel_rfl,by kernel_rfl,by kernel_rfl⟩ (Γnil))))))
theorem ok (k:Nat):qaj Go.Proofs.Tryz.prog 17 (con k):=qai (Γ:=Γ) (fn:=Go.Proofs.Tryz.f17) (body:=body) (cin:=(con 0).cin) (F:=F) (T:=T) follows (by kernel_rfl) (by kernel_rfl) (by kernel_rfl) (by kernel_rfl) (by kernel_rfl) (by decide+kernel) (by kernel_rfl) (by kernel_rfl) (tzero trivial) k (fun m _=>okΓ m) (fun m _=>tstep trivial) (fun x y h=>(main k x).symm.trans h)
end qbp
namespace stringslite_HasPrefix
noncomputable abbrev con (k:Nat):Con:=⟨⟨[(0,.l (.val .str)),(1,.l (.val .str))],[]⟩,⟨[(0,.l (.val .bool))],[]⟩,fun x=>stringslite_HasPrefix.f k x.1 x.2,[]⟩
noncomputable abbrev Γ (k:Nat):Env:=lookE []
abbrev F:Fin Go.Proofs.Tryz.prog:=⟨⟨[(0,.l (.val .bool))],[]⟩,[],[.tmp 4],[]⟩
noncomputable abbrev Tl (k:Nat):List (Nat×Hint (prods F.cout.tys)):=[]
noncomputable abbrev T (k:Nat):Nat→Option (Hint (prods F.cout.tys)):=look (Tl k)
noncomputable abbrev body:Code:=Go.Proofs.Tryz.f194.body.getD .skip
theorem main (k:Nat) (x:prods (con 0).cin.tys):stringslite_HasPrefix.f k x.1 x.2=goK (Γ k) F (T k) 2000 [.code body] ((con 0).cin.st x):=by kernel_rfl
theorem okΓ (k:Nat):ΓOk Go.Proofs.Tryz.prog (Γ k):=Γnil
theorem ok (k:Nat):qaj Go.Proofs.Tryz.prog 194 (con k):=qai (Γ:=Γ) (fn:=Go.Proofs.Tryz.f194) (body:=body) (cin:=(con 0).cin) (F:=F) (T:=T) follows (by kernel_rfl) (by kernel_rfl) (by kernel_rfl) (by kernel_rfl) (by kernel_rfl) (by decide+kernel) (by kernel_rfl) (by kernel_rfl) (tzero trivial) k (fun m _=>okΓ m) (fun m _=>tstep trivial) (fun x y h=>(main k x).symm.trans h)
end stringslite_HasPrefix
namespace stringslite_CutPrefix
noncomputable abbrev con (k:Nat):Con:=⟨⟨[(0,.l (.val .str)),(1,.l (.val .str))],[]⟩,⟨[(0,.l (.val .str)),(1,.l (.val .bool))],[]⟩,fun x=>stringslite_CutPrefix.f k x.1 x.2,[]⟩
noncomputable abbrev Γ (k:Nat):Env:=lookE [((194,0),stringslite_HasPrefix.con k)]
abbrev F:Fin Go.Proofs.Tryz.prog:=⟨⟨[(0,.l (.val .str)),(1,.l (.val .bool))],[]⟩,[],[.tmp 4,.tmp 5],[]⟩
noncomputable abbrev Tl (k:Nat):List (Nat×Hint (prods F.cout.tys)):=[]
noncomputable abbrev T (k:Nat):Nat→Option (Hint (prods F.cout.tys)):=look (Tl k)
noncomputable abbrev body:Code:=Go.Proofs.Tryz.f172.body.getD .skip
theorem main (k:Nat) (x:prods (con 0).cin.tys):stringslite_CutPrefix.f k x.1 x.2=goK (Γ k) F (T k) 2000 [.code body] ((con 0).cin.st x):=by kernel_rfl
theorem okΓ (k:Nat):ΓOk Go.Proofs.Tryz.prog (Γ k):=Γcons (stringslite_HasPrefix.ok k) ⟨Go.Proofs.Tryz.f194,by kernel_rfl,by kernel_rfl,by kernel_rfl⟩ (Γnil)
theorem ok (k:Nat):qaj Go.Proofs.Tryz.prog 172 (con k):=qai (Γ:=Γ) (fn:=Go.Proofs.Tryz.f172) (body:=body) (cin:=(con 0).cin) (F:=F) (T:=T) follows (by kernel_rfl) (by kernel_rfl) (by kernel_rfl) (by kernel_rfl) (by kernel_rfl) (by decide+kernel) (by kernel_rfl) (by kernel_rfl) (tzero trivial) k (fun m _=>okΓ m) (fun m _=>tstep trivial) (fun x y h=>(main k x).symm.trans h)
end stringslite_CutPrefix
namespace strings_CutPrefix
noncomputable abbrev con (k:Nat):Con:=⟨⟨[(0,.l (.val .str)),(1,.l (.val .str))],[]⟩,⟨[(0,.l (.val .str)),(1,.l (.val .bool))],[]⟩,fun x=>strings_CutPrefix.f k x.1 x.2,[]⟩
noncomputable abbrev Γ (k:Nat):Env:=lookE [((172,0),stringslite_CutPrefix.con k)]
abbrev F:Fin Go.Proofs.Tryz.prog:=⟨⟨[(0,.l (.val .str)),(1,.l (.val .bool))],[]⟩,[],[.tmp 4,.tmp 5],[]⟩
noncomputable abbrev Tl (k:Nat):List (Nat×Hint (prods F.cout.tys)):=[]
noncomputable abbrev T (k:Nat):Nat→Option (Hint (prods F.cout.tys)):=look (Tl k)
noncomputable abbrev body:Code:=Go.Proofs.Tryz.f125.body.getD .skip
theorem main (k:Nat) (x:prods (con 0).cin.tys):strings_CutPrefix.f k x.1 x.2=goK (Γ k) F (T k) 2000 [.code body] ((con 0).cin.st x):=by kernel_rfl
theorem okΓ (k:Nat):ΓOk Go.Proofs.Tryz.prog (Γ k):=Γcons (stringslite_CutPrefix.ok k) ⟨Go.Proofs.Tryz.f172,by kernel_rfl,by kernel_rfl,by kernel_rfl⟩ (Γnil)
theorem ok (k:Nat):qaj Go.Proofs.Tryz.prog 125 (con k):=qai (Γ:=Γ) (fn:=Go.Proofs.Tryz.f125) (body:=body) (cin:=(con 0).cin) (F:=F) (T:=T) follows (by kernel_rfl) (by kernel_rfl) (by kernel_rfl) (by kernel_rfl) (by kernel_rfl) (by decide+kernel) (by kernel_rfl) (by kernel_rfl) (tzero trivial) k (fun m _=>okΓ m) (fun m _=>tstep trivial) (fun x y h=>(main k x).symm.trans h)
end strings_CutPrefix
namespace stringslite_IndexByte
noncomputable abbrev con (k:Nat):Con:=⟨⟨[(0,.l (.val .str)),(1,.l (.val (.int .u8)))],[]⟩,⟨[(0,.l (.val (.int .i64)))],[]⟩,fun x=>stringslite_IndexByte.f k x.1 x.2,[]⟩
noncomputable abbrev Γ (k:Nat):Env:=lookE []
abbrev F:Fin Go.Proofs.Tryz.prog:=⟨⟨[(0,.l (.val (.int .i64)))],[]⟩,[],[.tmp 4],[]⟩
noncomputable abbrev Tl (k:Nat):List (Nat×Hint (prods F.cout.tys)):=[]
noncomputable abbrev T (k:Nat):Nat→Option (Hint (prods F.cout.tys)):=look (Tl k)
noncomputable abbrev body:Code:=Go.Proofs.Tryz.f215.body.getD .skip
theorem main (k:Nat) (x:prods (con 0).cin.tys):stringslite_IndexByte.f k x.1 x.2=goK (Γ k) F (T k) 2000 [.code body] ((con 0).cin.st x):=by kernel_rfl
theorem okΓ (k:Nat):ΓOk Go.Proofs.Tryz.prog (Γ k):=Γnil
theorem ok (k:Nat):qaj Go.Proofs.Tryz.prog 215 (con k):=qai (Γ:=Γ) (fn:=Go.Proofs.Tryz.f215) (body:=body) (cin:=(con 0).cin) (F:=F) (T:=T) follows (by kernel_rfl) (by kernel_rfl) (by kernel_rfl) (by kernel_rfl) (by kernel_rfl) (by decide+kernel) (by kernel_rfl) (by kernel_rfl) (tzero trivial) k (fun m _=>okΓ m) (fun m _=>tstep trivial) (fun x y h=>(main k x).symm.trans h)
end stringslite_IndexByte
namespace stringslite_Index
noncomputable abbrev con (k:Nat):Con:=⟨⟨[(0,.l (.val .str)),(1,.l (.val .str))],[]⟩,⟨[(0,.l (.val (.int .i64)))],[]⟩,fun x=>stringslite_Index.f k x.1 x.2,[]⟩
noncomputable abbrev Γ (k:Nat):Env:=lookE [((215,0),stringslite_IndexByte.con k)]
abbrev F:Fin Go.Proofs.Tryz.prog:=⟨⟨[(0,.l (.val (.int .i64)))],[]⟩,[],[.tmp 4],[]⟩
noncomputable abbrev Tl (k:Nat):List (Nat×Hint (prods F.cout.tys)):=[]
noncomputable abbrev T (k:Nat):Nat→Option (Hint (prods F.cout.tys)):=look (Tl k)
noncomputable abbrev body:Code:=Go.Proofs.Tryz.f195.body.getD .skip
theorem main (k:Nat) (x:prods (con 0).cin.tys):stringslite_Index.f k x.1 x.2=goK (Γ k) F (T k) 2000 [.code body] ((con 0).cin.st x):=by kernel_rfl
theorem okΓ (k:Nat):ΓOk Go.Proofs.Tryz.prog (Γ k):=Γcons (stringslite_IndexByte.ok k) ⟨Go.Proofs.Tryz.f215,by kernel_rfl,by kernel_rfl,by kernel_rfl⟩ (Γnil)
theorem ok (k:Nat):qaj Go.Proofs.Tryz.prog 195 (con k):=qai (Γ:=Γ) (fn:=Go.Proofs.Tryz.f195) (body:=body) (cin:=(con 0).cin) (F:=F) (T:=T) follows (by kernel_rfl) (by kernel_rfl) (by kernel_rfl) (by kernel_rfl) (by kernel_rfl) (by decide+kernel) (by kernel_rfl) (by kernel_rfl) (tzero trivial) k (fun m _=>okΓ m) (fun m _=>tstep trivial) (fun x y h=>(main k x).symm.trans h)
end stringslite_Index
namespace stringslite_Cut
noncomputable abbrev con (k:Nat):Con:=⟨⟨[(0,.l (.val .str)),(1,.l (.val .str))],[]⟩,⟨[(0,.l (.val .str)),(1,.l (.val .str)),(2,.l (.val .bool))],[]⟩,fun x=>stringslite_Cut.f k x.1 x.2,[]⟩
noncomputable abbrev Γ (k:Nat):Env:=lookE [((195,0),stringslite_Index.con k)]
abbrev F:Fin Go.Proofs.Tryz.prog:=⟨⟨[(0,.l (.val .str)),(1,.l (.val .str)),(2,.l (.val .bool))],[]⟩,[],[.tmp 4,.tmp 5,.tmp 6],[]⟩
noncomputable abbrev Tl (k:Nat):List (Nat×Hint (prods F.cout.tys)):=[]
noncomputable abbrev T (k:Nat):Nat→Option (Hint (prods F.cout.tys)):=look (Tl k)
noncomputable abbrev body:Code:=Go.Proofs.Tryz.f173.body.getD .skip
theorem main (k:Nat) (x:prods (con 0).cin.tys):stringslite_Cut.f k x.1 x.2=goK (Γ k) F (T k) 2000 [.code body] ((con 0).cin.st x):=by kernel_rfl
theorem okΓ (k:Nat):ΓOk Go.Proofs.Tryz.prog (Γ k):=Γcons (stringslite_Index.ok k) ⟨Go.Proofs.Tryz.f195,by kernel_rfl,by kernel_rfl,by kernel_rfl⟩ (Γnil)
theorem ok (k:Nat):qaj Go.Proofs.Tryz.prog 173 (con k):=qai (Γ:=Γ) (fn:=Go.Proofs.Tryz.f173) (body:=body) (cin:=(con 0).cin) (F:=F) (T:=T) follows (by kernel_rfl) (by kernel_rfl) (by kernel_rfl) (by kernel_rfl) (by kernel_rfl) (by decide+kernel) (by kernel_rfl) (by kernel_rfl) (tzero trivial) k (fun m _=>okΓ m) (fun m _=>tstep trivial) (fun x y h=>(main k x).symm.trans h)
end stringslite_Cut
namespace strings_Cut
noncomputable abbrev con (k:Nat):Con:=⟨⟨[(0,.l (.val .str)),(1,.l (.val .str))],[]⟩,⟨[(0,.l (.val .str)),(1,.l (.val .str)),(2,.l (.val .bool))],[]⟩,fun x=>strings_Cut.f k x.1 x.2,[]⟩
noncomputable abbrev Γ (k:Nat):Env:=lookE [((173,0),stringslite_Cut.con k)]
abbrev F:Fin Go.Proofs.Tryz.prog:=⟨⟨[(0,.l (.val .str)),(1,.l (.val .str)),(2,.l (.val .bool))],[]⟩,[],[.tmp 4,.tmp 5,.tmp 6],[]⟩
noncomputable abbrev Tl (k:Nat):List (Nat×Hint (prods F.cout.tys)):=[]
noncomputable abbrev T (k:Nat):Nat→Option (Hint (prods F.cout.tys)):=look (Tl k)
noncomputable abbrev body:Code:=Go.Proofs.Tryz.f126.body.getD .skip
theorem main (k:Nat) (x:prods (con 0).cin.tys):strings_Cut.f k x.1 x.2=goK (Γ k) F (T k) 2000 [.code body] ((con 0).cin.st x):=by kernel_rfl
theorem okΓ (k:Nat):ΓOk Go.Proofs.Tryz.prog (Γ k):=Γcons (stringslite_Cut.ok k) ⟨Go.Proofs.Tryz.f173,by kernel_rfl,by kernel_rfl,by kernel_rfl⟩ (Γnil)
theorem ok (k:Nat):qaj Go.Proofs.Tryz.prog 126 (con k):=qai (Γ:=Γ) (fn:=Go.Proofs.Tryz.f126) (body:=body) (cin:=(con 0).cin) (F:=F) (T:=T) follows (by kernel_rfl) (by kernel_rfl) (by kernel_rfl) (by kernel_rfl) (by kernel_rfl) (by decide+kernel) (by kernel_rfl) (by kernel_rfl) (tzero trivial) k (fun m _=>okΓ m) (fun m _=>tstep trivial) (fun x y h=>(main k x).symm.trans h)
end strings_Cut
namespace qaJ
noncomputable abbrev con (k:Nat):Con:=⟨⟨[(0,.l (.val .str))],[]⟩,⟨[(0,.l (.val (.list 246 (.int .u32))))],[]⟩,fun x=>qaJ.f k x,[]⟩
noncomputable abbrev Γ (k:Nat):Env:=lookE [((171,0),qaE.con k)]
abbrev F:Fin Go.Proofs.Tryz.prog:=⟨⟨[(0,.l (.val (.list 246 (.int .u32))))],[]⟩,[],[.tmp 2],[]⟩
abbrev c3:Cut:=⟨[(0,.l (.val .str)),(3,.l (.row 7000500)),(4,.l (.val (.int .i64)))],[(7000500,.row 246 (.int .u32))]⟩
abbrev c7:Cut:=⟨[(0,.l (.val .str)),(3,.l (.row 7000500)),(4,.l (.val (.int .i64))),(5,.l (.val (.int .u32))),(20,.l (.val (.list 5 (.int .u8)))),(21,.l (.val (.int .i64))),(22,.l (.val (.int .i64)))],[(7000500,.row 246 (.int .u32))]⟩
noncomputable abbrev Tl (k:Nat):List (Nat×Hint (prods F.cout.tys)):=[(3,⟨c3,fun x=>qaJ.l3 k x.1 x.2.1 x.2.2⟩),(7,⟨c7,fun x=>qaJ.l7 k x.1 x.2.1 x.2.2.1 x.2.2.2.1 x.2.2.2.2.1 x.2.2.2.2.2.1 x.2.2.2.2.2.2⟩)]
noncomputable abbrev T (k:Nat):Nat→Option (Hint (prods F.cout.tys)):=look (Tl k)
noncomputable abbrev body:Code:=Go.Proofs.Tryz.f127.body.getD .skip
theorem s3 (k:Nat) (x:prods c3.tys):qaJ.l3 (k+1) x.1 x.2.1 x.2.2=segK (Γ k) F (T k) body 3 (c3.st x):=by kernel_rfl
theorem s7 (k:Nat) (x:prods c7.tys):qaJ.l7 (k+1) x.1 x.2.1 x.2.2.1 x.2.2.2.1 x.2.2.2.2.1 x.2.2.2.2.2.1 x.2.2.2.2.2.2=segK (Γ k) F (T k) body 7 (c7.st x):=by kernel_rfl
theorem main (k:Nat) (x:prods (con 0).cin.tys):qaJ.f k x=goK (Γ k) F (T k) 2000 [.code body] ((con 0).cin.st x):=by kernel_rfl
theorem okΓ (k:Nat):ΓOk Go.Proofs.Tryz.prog (Γ k):=Γcons (qaE.ok k) ⟨Go.Proofs.Tryz.f171,by kernel_rfl,by kernel_rfl,by kernel_rfl⟩ (Γnil)
theorem ok (k:Nat):qaj Go.Proofs.Tryz.prog 127 (con k):=qai (Γ:=Γ) (fn:=Go.Proofs.Tryz.f127) (body:=body) (cin:=(con 0).cin) (F:=F) (T:=T) follows (by kernel_rfl) (by kernel_rfl) (by kernel_rfl) (by kernel_rfl) (by kernel_rfl) (by decide+kernel) (by kernel_rfl) (by kernel_rfl) (tzero ⟨fun x=>by kernel_rfl,fun x=>by kernel_rfl,trivial⟩) k (fun m _=>okΓ m) (fun m _=>tstep ⟨fun x=>Eq.trans (by kernel_rfl) (s3 m x),fun x=>Eq.trans (by kernel_rfl) (s7 m x),trivial⟩) (fun x y h=>(main k x).symm.trans h)
end qaJ
namespace qb5
noncomputable abbrev con (k:Nat):Con:=⟨⟨[(0,.l (.val .str))],[]⟩,⟨[(0,.av Y17)],[]⟩,fun x=>qb5.f k x,[]⟩
noncomputable abbrev Γ (k:Nat):Env:=lookE [((119,0),qbf.con k),((125,0),strings_CutPrefix.con k),((126,0),strings_Cut.con k),((127,0),qaJ.con k)]
abbrev F:Fin Go.Proofs.Tryz.prog:=⟨⟨[(0,.av Y17)],[]⟩,[],[.cell 2 122],[]⟩
noncomputable abbrev Tl (k:Nat):List (Nat×Hint (prods F.cout.tys)):=[]
noncomputable abbrev T (k:Nat):Nat→Option (Hint (prods F.cout.tys)):=look (Tl k)
noncomputable abbrev body:Code:=Go.Proofs.Tryz.f59.body.getD .skip
theorem main (k:Nat) (x:prods (con 0).cin.tys):qb5.f k x=goK (Γ k) F (T k) 2000 [.code body] ((con 0).cin.st x):=by kernel_rfl
theorem okΓ (k:Nat):ΓOk Go.Proofs.Tryz.prog (Γ k):=Γcons (qbf.ok k) ⟨Go.Proofs.Tryz.f119,by kernel_rfl,by kernel_rfl,by kernel_rfl⟩ (Γcons (strings_CutPrefix.ok k) ⟨Go.Proofs.Tryz.f125,by kernel_rfl,by kernel_rfl,by kernel_rfl⟩ (Γcons (strings_Cut.ok k) ⟨Go.Proofs.Tryz.f126,by kernel_rfl,by kernel_rfl,by kernel_rfl⟩ (Γcons (qaJ.ok k) ⟨Go.Proofs.Tryz.f127,by kernel_rfl,by kernel_rfl,by kernel_rfl⟩ (Γnil))))
theorem ok (k:Nat):qaj Go.Proofs.Tryz.prog 59 (con k):=qai (Γ:=Γ) (fn:=Go.Proofs.Tryz.f59) (body:=body) (cin:=(con 0).cin) (F:=F) (T:=T) follows (by kernel_rfl) (by kernel_rfl) (by kernel_rfl) (by kernel_rfl) (by kernel_rfl) (by decide+kernel) (by kernel_rfl) (by kernel_rfl) (tzero trivial) k (fun m _=>okΓ m) (fun m _=>tstep trivial) (fun x y h=>(main k x).symm.trans h)
end qb5
namespace qag
noncomputable abbrev con (k:Nat):Con:=⟨⟨[(0,.av Y23)],[]⟩,⟨[(0,.av Y35),(1,.l (.val (.int .i64)))],[]⟩,fun x=>qag.f k x,[]⟩
noncomputable abbrev Γ (k:Nat):Env:=lookE [((17,0),qbp.con k),((55,0),qbv.con k),((59,0),qb5.con k),((116,0),qbb.con k),((118,0),qby.con k)]
abbrev F:Fin Go.Proofs.Tryz.prog:=⟨⟨[(0,.av Y35),(1,.l (.val (.int .i64)))],[]⟩,[],[.cell 2 116,.tmp 3],[]⟩
abbrev c7:Cut:=⟨[(1,.l (.ptr 7000000 0)),(2,.l (.ptr 7000001 0)),(6,.l (.ptr 7000002 0)),(7,.l (.fnc 116 7000003)),(34,.l (.val (.list 48 Y13))),(35,.l (.val (.int .i64))),(36,.l (.val (.int .i64)))],[(7000000,.box 29 [.val (.list 9 .str),.val (.list 190 Y3),.val (.list 60 Y11),.val (.list 48 Y13),.val (.list 51 Y15),.val (.list 240 Y13)]),(7000001,.box 116 [.val (.int .i64),.nils,.nils,.row 7000004,.nils,.nils,.val (.int .i64)]),(7000002,.box 116 [.val (.int .i64),.row 7000507,.nils,.row 7000005,.nils,.nils,.val (.int .i64)]),(7000003,.caps [.l (.ptr 7000000 0),.l (.ptr 7000006 0)]),(7000004,.deep 114 122 Y17),(7000507,.row 3 (.int .i64)),(7000005,.deep 114 122 Y17),(7000006,.box 110 [.val (.list 3 (.int .i64)),.val (.list 3 (.int .i64))])]⟩
abbrev c12:Cut:=⟨[(1,.l (.ptr 7000000 0)),(2,.l (.ptr 7000001 0)),(6,.l (.ptr 7000002 0)),(7,.l (.fnc 116 7000003)),(51,.l (.val (.list 51 Y15))),(52,.l (.val (.int .i64))),(53,.l (.val (.int .i64)))],[(7000000,.box 29 [.val (.list 9 .str),.val (.list 190 Y3),.val (.list 60 Y11),.val (.list 48 Y13),.val (.list 51 Y15),.val (.list 240 Y13)]),(7000001,.box 116 [.val (.int .i64),.nils,.nils,.row 7000004,.nils,.nils,.val (.int .i64)]),(7000002,.box 116 [.val (.int .i64),.row 7000005,.row 7000508,.row 7000006,.nils,.nils,.val (.int .i64)]),(7000003,.caps [.l (.ptr 7000000 0),.l (.ptr 7000007 0)]),(7000004,.deep 114 122 Y17),(7000005,.row 3 (.int .i64)),(7000508,.row 3 (.int .i64)),(7000006,.deep 114 122 Y17),(7000007,.box 110 [.val (.list 3 (.int .i64)),.val (.list 3 (.int .i64))])]⟩
abbrev c24:Cut:=⟨[(2,.l (.ptr 7000000 0)),(6,.l (.ptr 7000001 0)),(12,.l (.val (.list 35 (.list 39 .str)))),(13,.l (.ptr 7000002 0)),(96,.l (.val (.list 60 Y11))),(97,.l (.val (.int .i64))),(98,.l (.val (.int .i64)))],[(7000000,.box 116 [.val (.int .i64),.nils,.nils,.row 7000003,.nils,.nils,.val (.int .i64)]),(7000001,.box 116 [.val (.int .i64),.row 7000004,.row 7000005,.row 7000006,.row 7000507,.row 7000508,.val (.int .i64)]),(7000002,.box 42 [.val (.list 39 .str),.val (.list 39 .str)]),(7000003,.deep 114 122 Y17),(7000004,.row 3 (.int .i64)),(7000005,.row 3 (.int .i64)),(7000006,.deep 114 122 Y17),(7000507,.row 122 Y17),(7000508,.row 3 (.int .i64))]⟩
abbrev c28:Cut:=⟨[(2,.l (.ptr 7000000 0)),(6,.l (.ptr 7000001 0)),(12,.l (.val (.list 35 (.list 39 .str)))),(13,.l (.ptr 7000002 0)),(14,.l (.val (.int .i64))),(15,.l (.ptr 7000003 0)),(16,.l (.row 7000508)),(96,.l (.val (.list 60 Y11))),(97,.l (.val (.int .i64))),(98,.l (.val (.int .i64))),(106,.l (.val (.list 39 .str))),(107,.l (.val (.int .i64))),(108,.l (.val (.int .i64)))],[(7000000,.box 116 [.val (.int .i64),.nils,.nils,.row 7000004,.nils,.nils,.val (.int .i64)]),(7000001,.box 116 [.val (.int .i64),.row 7000005,.row 7000006,.row 7000007,.row 7000509,.row 7000510,.val (.int .i64)]),(7000002,.box 42 [.val (.list 39 .str),.val (.list 39 .str)]),(7000003,.box 60 [.val .str,.val .str,.val .str,.val (.int .i64),.val (.int .i64),.val (.int .i64),.val (.int .i64),.val (.int .i64),.val (.int .i64)]),(7000508,.row 122 Y17),(7000004,.deep 114 122 Y17),(7000005,.row 3 (.int .i64)),(7000006,.row 3 (.int .i64)),(7000007,.deep 114 122 Y17),(7000509,.row 122 Y17),(7000510,.row 3 (.int .i64))]⟩
noncomputable abbrev Tl (k:Nat):List (Nat×Hint (prods F.cout.tys)):=[(7,⟨c7,fun x=>qag.l7 k x.1 x.2.1 x.2.2.1 x.2.2.2.1 x.2.2.2.2.1 x.2.2.2.2.2.1 x.2.2.2.2.2.2.1 x.2.2.2.2.2.2.2.1 x.2.2.2.2.2.2.2.2.1 x.2.2.2.2.2.2.2.2.2.1 x.2.2.2.2.2.2.2.2.2.2.1 x.2.2.2.2.2.2.2.2.2.2.2.1 x.2.2.2.2.2.2.2.2.2.2.2.2.1 x.2.2.2.2.2.2.2.2.2.2.2.2.2.1 x.2.2.2.2.2.2.2.2.2.2.2.2.2.2.1 x.2.2.2.2.2.2.2.2.2.2.2.2.2.2.2.1 x.2.2.2.2.2.2.2.2.2.2.2.2.2.2.2.2.1 x.2.2.2.2.2.2.2.2.2.2.2.2.2.2.2.2.2⟩),(12,⟨c12,fun x=>qag.l12 k x.1 x.2.1 x.2.2.1 x.2.2.2.1 x.2.2.2.2.1 x.2.2.2.2.2.1 x.2.2.2.2.2.2.1 x.2.2.2.2.2.2.2.1 x.2.2.2.2.2.2.2.2.1 x.2.2.2.2.2.2.2.2.2.1 x.2.2.2.2.2.2.2.2.2.2.1 x.2.2.2.2.2.2.2.2.2.2.2.1 x.2.2.2.2.2.2.2.2.2.2.2.2.1 x.2.2.2.2.2.2.2.2.2.2.2.2.2.1 x.2.2.2.2.2.2.2.2.2.2.2.2.2.2.1 x.2.2.2.2.2.2.2.2.2.2.2.2.2.2.2.1 x.2.2.2.2.2.2.2.2.2.2.2.2.2.2.2.2.1 x.2.2.2.2.2.2.2.2.2.2.2.2.2.2.2.2.2.1 x.2.2.2.2.2.2.2.2.2.2.2.2.2.2.2.2.2.2⟩),(24,⟨c24,fun x=>qag.l24 k x.1 x.2.1 x.2.2.1 x.2.2.2.1 x.2.2.2.2.1 x.2.2.2.2.2.1 x.2.2.2.2.2.2.1 x.2.2.2.2.2.2.2.1 x.2.2.2.2.2.2.2.2.1 x.2.2.2.2.2.2.2.2.2.1 x.2.2.2.2.2.2.2.2.2.2.1 x.2.2.2.2.2.2.2.2.2.2.2.1 x.2.2.2.2.2.2.2.2.2.2.2.2.1 x.2.2.2.2.2.2.2.2.2.2.2.2.2.1 x.2.2.2.2.2.2.2.2.2.2.2.2.2.2.1 x.2.2.2.2.2.2.2.2.2.2.2.2.2.2.2⟩),(28,⟨c28,fun x=>qag.l28 k x.1 x.2.1 x.2.2.1 x.2.2.2.1 x.2.2.2.2.1 x.2.2.2.2.2.1 x.2.2.2.2.2.2.1 x.2.2.2.2.2.2.2.1 x.2.2.2.2.2.2.2.2.1 x.2.2.2.2.2.2.2.2.2.1 x.2.2.2.2.2.2.2.2.2.2.1 x.2.2.2.2.2.2.2.2.2.2.2.1 x.2.2.2.2.2.2.2.2.2.2.2.2.1 x.2.2.2.2.2.2.2.2.2.2.2.2.2.1 x.2.2.2.2.2.2.2.2.2.2.2.2.2.2.1 x.2.2.2.2.2.2.2.2.2.2.2.2.2.2.2.1 x.2.2.2.2.2.2.2.2.2.2.2.2.2.2.2.2.1 x.2.2.2.2.2.2.2.2.2.2.2.2.2.2.2.2.2.1 x.2.2.2.2.2.2.2.2.2.2.2.2.2.2.2.2.2.2.1 x.2.2.2.2.2.2.2.2.2.2.2.2.2.2.2.2.2.2.2.1 x.2.2.2.2.2.2.2.2.2.2.2.2.2.2.2.2.2.2.2.2.1 x.2.2.2.2.2.2.2.2.2.2.2.2.2.2.2.2.2.2.2.2.2.1 x.2.2.2.2.2.2.2.2.2.2.2.2.2.2.2.2.2.2.2.2.2.2.1 x.2.2.2.2.2.2.2.2.2.2.2.2.2.2.2.2.2.2.2.2.2.2.2.1 x.2.2.2.2.2.2.2.2.2.2.2.2.2.2.2.2.2.2.2.2.2.2.2.2.1 x.2.2.2.2.2.2.2.2.2.2.2.2.2.2.2.2.2.2.2.2.2.2.2.2.2.1 x.2.2.2.2.2.2.2.2.2.2.2.2.2.2.2.2.2.2.2.2.2.2.2.2.2.2.1 x.2.2.2.2.2.2.2.2.2.2.2.2.2.2.2.2.2.2.2.2.2.2.2.2.2.2.2.1 x.2.2.2.2.2.2.2.2.2.2.2.2.2.2.2.2.2.2.2.2.2.2.2.2.2.2.2.2.1 x.2.2.2.2.2.2.2.2.2.2.2.2.2.2.2.2.2.2.2.2.2.2.2.2.2.2.2.2.2⟩)]
noncomputable abbrev T (k:Nat):Nat→Option (Hint (prods F.cout.tys)):=look (Tl k)
noncomputable abbrev body:Code:=Go.Proofs.Tryz.f56.body.getD .skip
theorem s7 (k:Nat) (x:prods c7.tys):qag.l7 (k+1) x.1 x.2.1 x.2.2.1 x.2.2.2.1 x.2.2.2.2.1 x.2.2.2.2.2.1 x.2.2.2.2.2.2.1 x.2.2.2.2.2.2.2.1 x.2.2.2.2.2.2.2.2.1 x.2.2.2.2.2.2.2.2.2.1 x.2.2.2.2.2.2.2.2.2.2.1 x.2.2.2.2.2.2.2.2.2.2.2.1 x.2.2.2.2.2.2.2.2.2.2.2.2.1 x.2.2.2.2.2.2.2.2.2.2.2.2.2.1 x.2.2.2.2.2.2.2.2.2.2.2.2.2.2.1 x.2.2.2.2.2.2.2.2.2.2.2.2.2.2.2.1 x.2.2.2.2.2.2.2.2.2.2.2.2.2.2.2.2.1 x.2.2.2.2.2.2.2.2.2.2.2.2.2.2.2.2.2=segK (Γ k) F (T k) body 7 (c7.st x):=by kernel_rfl
theorem s12 (k:Nat) (x:prods c12.tys):qag.l12 (k+1) x.1 x.2.1 x.2.2.1 x.2.2.2.1 x.2.2.2.2.1 x.2.2.2.2.2.1 x.2.2.2.2.2.2.1 x.2.2.2.2.2.2.2.1 x.2.2.2.2.2.2.2.2.1 x.2.2.2.2.2.2.2.2.2.1 x.2.2.2.2.2.2.2.2.2.2.1 x.2.2.2.2.2.2.2.2.2.2.2.1 x.2.2.2.2.2.2.2.2.2.2.2.2.1 x.2.2.2.2.2.2.2.2.2.2.2.2.2.1 x.2.2.2.2.2.2.2.2.2.2.2.2.2.2.1 x.2.2.2.2.2.2.2.2.2.2.2.2.2.2.2.1 x.2.2.2.2.2.2.2.2.2.2.2.2.2.2.2.2.1 x.2.2.2.2.2.2.2.2.2.2.2.2.2.2.2.2.2.1 x.2.2.2.2.2.2.2.2.2.2.2.2.2.2.2.2.2.2=segK (Γ k) F (T k) body 12 (c12.st x):=by kernel_rfl
theorem s24 (k:Nat) (x:prods c24.tys):qag.l24 (k+1) x.1 x.2.1 x.2.2.1 x.2.2.2.1 x.2.2.2.2.1 x.2.2.2.2.2.1 x.2.2.2.2.2.2.1 x.2.2.2.2.2.2.2.1 x.2.2.2.2.2.2.2.2.1 x.2.2.2.2.2.2.2.2.2.1 x.2.2.2.2.2.2.2.2.2.2.1 x.2.2.2.2.2.2.2.2.2.2.2.1 x.2.2.2.2.2.2.2.2.2.2.2.2.1 x.2.2.2.2.2.2.2.2.2.2.2.2.2.1 x.2.2.2.2.2.2.2.2.2.2.2.2.2.2.1 x.2.2.2.2.2.2.2.2.2.2.2.2.2.2.2=segK (Γ k) F (T k) body 24 (c24.st x):=by kernel_rfl
theorem s28 (k:Nat) (x:prods c28.tys):qag.l28 (k+1) x.1 x.2.1 x.2.2.1 x.2.2.2.1 x.2.2.2.2.1 x.2.2.2.2.2.1 x.2.2.2.2.2.2.1 x.2.2.2.2.2.2.2.1 x.2.2.2.2.2.2.2.2.1 x.2.2.2.2.2.2.2.2.2.1 x.2.2.2.2.2.2.2.2.2.2.1 x.2.2.2.2.2.2.2.2.2.2.2.1 x.2.2.2.2.2.2.2.2.2.2.2.2.1 x.2.2.2.2.2.2.2.2.2.2.2.2.2.1 x.2.2.2.2.2.2.2.2.2.2.2.2.2.2.1 x.2.2.2.2.2.2.2.2.2.2.2.2.2.2.2.1 x.2.2.2.2.2.2.2.2.2.2.2.2.2.2.2.2.1 x.2.2.2.2.2.2.2.2.2.2.2.2.2.2.2.2.2.1 x.2.2.2.2.2.2.2.2.2.2.2.2.2.2.2.2.2.2.1 x.2.2.2.2.2.2.2.2.2.2.2.2.2.2.2.2.2.2.2.1 x.2.2.2.2.2.2.2.2.2.2.2.2.2.2.2.2.2.2.2.2.1 x.2.2.2.2.2.2.2.2.2.2.2.2.2.2.2.2.2.2.2.2.2.1 x.2.2.2.2.2.2.2.2.2.2.2.2.2.2.2.2.2.2.2.2.2.2.1 x.2.2.2.2.2.2.2.2.2.2.2.2.2.2.2.2.2.2.2.2.2.2.2.1 x.2.2.2.2.2.2.2.2.2.2.2.2.2.2.2.2.2.2.2.2.2.2.2.2.1 x.2.2.2.2.2.2.2.2.2.2.2.2.2.2.2.2.2.2.2.2.2.2.2.2.2.1 x.2.2.2.2.2.2.2.2.2.2.2.2.2.2.2.2.2.2.2.2.2.2.2.2.2.2.1 x.2.2.2.2.2.2.2.2.2.2.2.2.2.2.2.2.2.2.2.2.2.2.2.2.2.2.2.1 x.2.2.2.2.2.2.2.2.2.2.2.2.2.2.2.2.2.2.2.2.2.2.2.2.2.2.2.2.1 x.2.2.2.2.2.2.2.2.2.2.2.2.2.2.2.2.2.2.2.2.2.2.2.2.2.2.2.2.2=segK (Γ k) F (T k) body 28 (c28.st x):=by kernel_rfl
theorem main (k:Nat) (x:prods (con 0).cin.tys):qag.f k x=goK (Γ k) F (T k) 2000 [.code body] ((con 0).cin.st x):=by kernel_rfl
theorem okΓ (k:Nat):ΓOk Go.Proofs.Tryz.prog (Γ k):=Γcons (qbp.ok k) ⟨Go.Proofs.Tryz.f17,by kernel_rfl,by kernel_rfl,by kernel_rfl⟩ (Γcons (qbv.ok k) ⟨Go.Proofs.Tryz.f55,by kernel_rfl,by kernel_rfl,by kernel_rfl⟩ (Γcons (qb5.ok k) ⟨Go.Proofs.Tryz.f59,by kernel_rfl,by kernel_rfl,by kernel_rfl⟩ (Γcons (qbb.ok k) ⟨Go.Proofs.Tryz.f116,by kernel_rfl,by kernel_rfl,by kernel_rfl⟩ (Γcons (qby.ok k) ⟨Go.Proofs.Tryz.f118,by kernel_rfl,by kernel_rfl,by kernel_rfl⟩ (Γnil)))))
theorem ok (k:Nat):qaj Go.Proofs.Tryz.prog 56 (con k):=qai (Γ:=Γ) (fn:=Go.Proofs.Tryz.f56) (body:=body) (cin:=(con 0).cin) (F:=F) (T:=T) follows (by kernel_rfl) (by kernel_rfl) (by kernel_rfl) (by kernel_rfl) (by kernel_rfl) (by decide+kernel) (by kernel_rfl) (by kernel_rfl) (tzero ⟨fun x=>by kernel_rfl,fun x=>by kernel_rfl,fun x=>by kernel_rfl,fun x=>by kernel_rfl,trivial⟩) k (fun m _=>okΓ m) (fun m _=>tstep ⟨fun x=>Eq.trans (by kernel_rfl) (s7 m x),fun x=>Eq.trans (by kernel_rfl) (s12 m x),fun x=>Eq.trans (by kernel_rfl) (s24 m x),fun x=>Eq.trans (by kernel_rfl) (s28 m x),trivial⟩) (fun x y h=>(main k x).symm.trans h)
end qag
namespace qar
noncomputable abbrev con (k:Nat):Con:=⟨⟨[(0,.l (.val (.list 39 .str))),(1,.l (.val (.list 39 .str)))],[]⟩,⟨[(0,.l (.val .bool))],[]⟩,fun x=>qar.f k x.1 x.2,[]⟩
noncomputable abbrev Γ (k:Nat):Env:=lookE []
abbrev F:Fin Go.Proofs.Tryz.prog:=⟨⟨[(0,.l (.val .bool))],[]⟩,[],[.tmp 4],[]⟩
abbrev c4:Cut:=⟨[(0,.l (.val (.list 39 .str))),(1,.l (.val (.list 39 .str))),(12,.l (.val (.int .i64))),(13,.l (.val (.int .i64)))],[]⟩
noncomputable abbrev Tl (k:Nat):List (Nat×Hint (prods F.cout.tys)):=[(4,⟨c4,fun x=>qar.l4 k x.1 x.2.1 x.2.2.1 x.2.2.2⟩)]
noncomputable abbrev T (k:Nat):Nat→Option (Hint (prods F.cout.tys)):=look (Tl k)
noncomputable abbrev body:Code:=Go.Proofs.Tryz.f16.body.getD .skip
theorem s4 (k:Nat) (x:prods c4.tys):qar.l4 (k+1) x.1 x.2.1 x.2.2.1 x.2.2.2=segK (Γ k) F (T k) body 4 (c4.st x):=by kernel_rfl
theorem main (k:Nat) (x:prods (con 0).cin.tys):qar.f k x.1 x.2=goK (Γ k) F (T k) 2000 [.code body] ((con 0).cin.st x):=by kernel_rfl
theorem okΓ (k:Nat):ΓOk Go.Proofs.Tryz.prog (Γ k):=Γnil
theorem ok (k:Nat):qaj Go.Proofs.Tryz.prog 16 (con k):=qai (Γ:=Γ) (fn:=Go.Proofs.Tryz.f16) (body:=body) (cin:=(con 0).cin) (F:=F) (T:=T) follows (by kernel_rfl) (by kernel_rfl) (by kernel_rfl) (by kernel_rfl) (by kernel_rfl) (by decide+kernel) (by kernel_rfl) (by kernel_rfl) (tzero ⟨fun x=>by kernel_rfl,trivial⟩) k (fun m _=>okΓ m) (fun m _=>tstep ⟨fun x=>Eq.trans (by kernel_rfl) (s4 m x),trivial⟩) (fun x y h=>(main k x).symm.trans h)
end qar
namespace qcm
noncomputable abbrev con (k:Nat):Con:=⟨⟨[(0,.l (.val (.int .i64)))],[]⟩,⟨[(0,.l (.val (.list 246 (.int .u32))))],[]⟩,fun x=>qcm.f k x,[]⟩
noncomputable abbrev Γ (k:Nat):Env:=lookE [((119,0),qbf.con k),((122,0),qaF.con k)]
abbrev F:Fin Go.Proofs.Tryz.prog:=⟨⟨[(0,.l (.val (.list 246 (.int .u32))))],[]⟩,[],[.tmp 2],[]⟩
noncomputable abbrev Tl (k:Nat):List (Nat×Hint (prods F.cout.tys)):=[]
noncomputable abbrev T (k:Nat):Nat→Option (Hint (prods F.cout.tys)):=look (Tl k)
noncomputable abbrev body:Code:=Go.Proofs.Tryz.f71.body.getD .skip
theorem main (k:Nat) (x:prods (con 0).cin.tys):qcm.f k x=goK (Γ k) F (T k) 2000 [.code body] ((con 0).cin.st x):=by kernel_rfl
theorem okΓ (k:Nat):ΓOk Go.Proofs.Tryz.prog (Γ k):=Γcons (qbf.ok k) ⟨Go.Proofs.Tryz.f119,by kernel_rfl,by kernel_rfl,by kernel_rfl⟩ (Γcons (qaF.ok k) ⟨Go.Proofs.Tryz.f122,by kernel_rfl,by kernel_rfl,by kernel_rfl⟩ (Γnil))
theorem ok (k:Nat):qaj Go.Proofs.Tryz.prog 71 (con k):=qai (Γ:=Γ) (fn:=Go.Proofs.Tryz.f71) (body:=body) (cin:=(con 0).cin) (F:=F) (T:=T) follows (by kernel_rfl) (by kernel_rfl) (by kernel_rfl) (by kernel_rfl) (by kernel_rfl) (by decide+kernel) (by kernel_rfl) (by kernel_rfl) (tzero trivial) k (fun m _=>okΓ m) (fun m _=>tstep trivial) (fun x y h=>(main k x).symm.trans h)
end qcm
namespace qcF
noncomputable abbrev con (k:Nat):Con:=⟨⟨[(0,.av Y17)],[]⟩,⟨[(0,.l (.val .str)),(1,.l (.val (.int .i64)))],[]⟩,fun x=>qcF.f k x,[]⟩
noncomputable abbrev Γ (k:Nat):Env:=lookE [((62,0),qbx.con k),((76,0),qbX.con k)]
abbrev F:Fin Go.Proofs.Tryz.prog:=⟨⟨[(0,.l (.val .str)),(1,.l (.val (.int .i64)))],[]⟩,[],[.tmp 2,.tmp 3],[]⟩
noncomputable abbrev Tl (k:Nat):List (Nat×Hint (prods F.cout.tys)):=[]
noncomputable abbrev T (k:Nat):Nat→Option (Hint (prods F.cout.tys)):=look (Tl k)
noncomputable abbrev body:Code:=Go.Proofs.Tryz.f69.body.getD .skip
theorem main (k:Nat) (x:prods (con 0).cin.tys):qcF.f k x=goK (Γ k) F (T k) 2000 [.code body] ((con 0).cin.st x):=by kernel_rfl
theorem okΓ (k:Nat):ΓOk Go.Proofs.Tryz.prog (Γ k):=Γcons (qbx.ok k) ⟨Go.Proofs.Tryz.f62,by kernel_rfl,by kernel_rfl,by kernel_rfl⟩ (Γcons (qbX.ok k) ⟨Go.Proofs.Tryz.f76,by kernel_rfl,by kernel_rfl,by kernel_rfl⟩ (Γnil))
theorem ok (k:Nat):qaj Go.Proofs.Tryz.prog 69 (con k):=qai (Γ:=Γ) (fn:=Go.Proofs.Tryz.f69) (body:=body) (cin:=(con 0).cin) (F:=F) (T:=T) follows (by kernel_rfl) (by kernel_rfl) (by kernel_rfl) (by kernel_rfl) (by kernel_rfl) (by decide+kernel) (by kernel_rfl) (by kernel_rfl) (tzero trivial) k (fun m _=>okΓ m) (fun m _=>tstep trivial) (fun x y h=>(main k x).symm.trans h)
end qcF
namespace qd1
noncomputable abbrev con (k:Nat):Con:=⟨⟨[(0,.l (.val (.int .i64))),(1,.l (.val (.int .i64)))],[]⟩,⟨[(0,.l (.val .str)),(1,.l (.val (.int .i64)))],[]⟩,fun x=>qd1.f k x.1 x.2,[]⟩
noncomputable abbrev Γ (k:Nat):Env:=lookE [((69,0),qcF.con k),((70,0),qbG.con k),((71,0),qcm.con k)]
abbrev F:Fin Go.Proofs.Tryz.prog:=⟨⟨[(0,.l (.val .str)),(1,.l (.val (.int .i64)))],[]⟩,[],[.tmp 4,.tmp 5],[]⟩
noncomputable abbrev Tl (k:Nat):List (Nat×Hint (prods F.cout.tys)):=[]
noncomputable abbrev T (k:Nat):Nat→Option (Hint (prods F.cout.tys)):=look (Tl k)
noncomputable abbrev body:Code:=Go.Proofs.Tryz.f18.body.getD .skip
theorem main (k:Nat) (x:prods (con 0).cin.tys):qd1.f k x.1 x.2=goK (Γ k) F (T k) 2000 [.code body] ((con 0).cin.st x):=by kernel_rfl
theorem okΓ (k:Nat):ΓOk Go.Proofs.Tryz.prog (Γ k):=Γcons (qcF.ok k) ⟨Go.Proofs.Tryz.f69,by kernel_rfl,by kernel_rfl,by kernel_rfl⟩ (Γcons (qbG.ok k) ⟨Go.Proofs.Tryz.f70,by kernel_rfl,by kernel_rfl,by kernel_rfl⟩ (Γcons (qcm.ok k) ⟨Go.Proofs.Tryz.f71,by kernel_rfl,by kernel_rfl,by kernel_rfl⟩ (Γnil)))
theorem ok (k:Nat):qaj Go.Proofs.Tryz.prog 18 (con k):=qai (Γ:=Γ) (fn:=Go.Proofs.Tryz.f18) (body:=body) (cin:=(con 0).cin) (F:=F) (T:=T) follows (by kernel_rfl) (by kernel_rfl) (by kernel_rfl) (by kernel_rfl) (by kernel_rfl) (by decide+kernel) (by kernel_rfl) (by kernel_rfl) (tzero trivial) k (fun m _=>okΓ m) (fun m _=>tstep trivial) (fun x y h=>(main k x).symm.trans h)
end qd1
namespace qbg
noncomputable abbrev con (k:Nat):Con:=⟨⟨[(0,.l (.val .str))],[]⟩,⟨[(0,.l (.val (.int .i64)))],[]⟩,fun x=>qbg.f k x,[]⟩
noncomputable abbrev Γ (k:Nat):Env:=lookE []
abbrev F:Fin Go.Proofs.Tryz.prog:=⟨⟨[(0,.l (.val (.int .i64)))],[]⟩,[],[.tmp 2],[]⟩
abbrev c4:Cut:=⟨[(0,.l (.val .str)),(18,.l (.val (.list 5 (.int .u8)))),(19,.l (.val (.int .i64))),(20,.l (.val (.int .i64)))],[]⟩
noncomputable abbrev Tl (k:Nat):List (Nat×Hint (prods F.cout.tys)):=[(4,⟨c4,fun x=>qbg.l4 k x.1 x.2.1 x.2.2.1 x.2.2.2⟩)]
noncomputable abbrev T (k:Nat):Nat→Option (Hint (prods F.cout.tys)):=look (Tl k)
noncomputable abbrev body:Code:=Go.Proofs.Tryz.f154.body.getD .skip
theorem s4 (k:Nat) (x:prods c4.tys):qbg.l4 (k+1) x.1 x.2.1 x.2.2.1 x.2.2.2=segK (Γ k) F (T k) body 4 (c4.st x):=by kernel_rfl
theorem main (k:Nat) (x:prods (con 0).cin.tys):qbg.f k x=goK (Γ k) F (T k) 2000 [.code body] ((con 0).cin.st x):=by kernel_rfl
theorem okΓ (k:Nat):ΓOk Go.Proofs.Tryz.prog (Γ k):=Γnil
theorem ok (k:Nat):qaj Go.Proofs.Tryz.prog 154 (con k):=qai (Γ:=Γ) (fn:=Go.Proofs.Tryz.f154) (body:=body) (cin:=(con 0).cin) (F:=F) (T:=T) follows (by kernel_rfl) (by kernel_rfl) (by kernel_rfl) (by kernel_rfl) (by kernel_rfl) (by decide+kernel) (by kernel_rfl) (by kernel_rfl) (tzero ⟨fun x=>by kernel_rfl,trivial⟩) k (fun m _=>okΓ m) (fun m _=>tstep ⟨fun x=>Eq.trans (by kernel_rfl) (s4 m x),trivial⟩) (fun x y h=>(main k x).symm.trans h)
end qbg
namespace qbj
noncomputable abbrev con (k:Nat):Con:=⟨⟨[(0,.l (.val .str))],[]⟩,⟨[(0,.l (.val (.int .i64)))],[]⟩,fun x=>qbj.f k x,[]⟩
noncomputable abbrev Γ (k:Nat):Env:=lookE [((119,0),qbf.con k),((123,0),qaQ.con k),((125,0),strings_CutPrefix.con k),((126,0),strings_Cut.con k),((127,0),qaJ.con k),((135,0),qa8.con k),((154,0),qbg.con k)]
abbrev F:Fin Go.Proofs.Tryz.prog:=⟨⟨[(0,.l (.val (.int .i64)))],[]⟩,[],[.tmp 2],[]⟩
abbrev c6:Cut:=⟨[(4,.l (.val .bool)),(5,.l (.val .str)),(6,.l (.val .str)),(7,.l (.val .bool)),(8,.l (.val (.int .i64))),(9,.l (.val (.int .i64)))],[]⟩
noncomputable abbrev Tl (k:Nat):List (Nat×Hint (prods F.cout.tys)):=[(6,⟨c6,fun x=>qbj.l6 k x.1 x.2.1 x.2.2.1 x.2.2.2.1 x.2.2.2.2.1 x.2.2.2.2.2⟩)]
noncomputable abbrev T (k:Nat):Nat→Option (Hint (prods F.cout.tys)):=look (Tl k)
noncomputable abbrev body:Code:=Go.Proofs.Tryz.f92.body.getD .skip
theorem s6 (k:Nat) (x:prods c6.tys):qbj.l6 (k+1) x.1 x.2.1 x.2.2.1 x.2.2.2.1 x.2.2.2.2.1 x.2.2.2.2.2=segK (Γ k) F (T k) body 6 (c6.st x):=by kernel_rfl
theorem main (k:Nat) (x:prods (con 0).cin.tys):qbj.f k x=goK (Γ k) F (T k) 2000 [.code body] ((con 0).cin.st x):=by kernel_rfl
theorem okΓ (k:Nat):ΓOk Go.Proofs.Tryz.prog (Γ k):=Γcons (qbf.ok k) ⟨Go.Proofs.Tryz.f119,by kernel_rfl,by kernel_rfl,by kernel_rfl⟩ (Γcons (qaQ.ok k) ⟨Go.Proofs.Tryz.f123,by kernel_rfl,by kernel_rfl,by kernel_rfl⟩ (Γcons (strings_CutPrefix.ok k) ⟨Go.Proofs.Tryz.f125,by kernel_rfl,by kernel_rfl,by kernel_rfl⟩ (Γcons (strings_Cut.ok k) ⟨Go.Proofs.Tryz.f126,by kernel_rfl,by kernel_rfl,by kernel_rfl⟩ (Γcons (qaJ.ok k) ⟨Go.Proofs.Tryz.f127,by kernel_rfl,by kernel_rfl,by kernel_rfl⟩ (Γcons (qa8.ok k) ⟨Go.Proofs.Tryz.f135,by kernel_rfl,by kernel_rfl,by kernel_rfl⟩ (Γcons (qbg.ok k) ⟨Go.Proofs.Tryz.f154,by kernel_rfl,by kernel_rfl,by kernel_rfl⟩ (Γnil)))))))
theorem ok (k:Nat):qaj Go.Proofs.Tryz.prog 92 (con k):=qai (Γ:=Γ) (fn:=Go.Proofs.Tryz.f92) (body:=body) (cin:=(con 0).cin) (F:=F) (T:=T) follows (by kernel_rfl) (by kernel_rfl) (by kernel_rfl) (by kernel_rfl) (by kernel_rfl) (by decide+kernel) (by kernel_rfl) (by kernel_rfl) (tzero ⟨fun x=>by kernel_rfl,trivial⟩) k (fun m _=>okΓ m) (fun m _=>tstep ⟨fun x=>Eq.trans (by kernel_rfl) (s6 m x),trivial⟩) (fun x y h=>(main k x).symm.trans h)
end qbj
namespace qaO
noncomputable abbrev con (k:Nat):Con:=⟨⟨[(0,.l (.val (.list 39 .str)))],[]⟩,⟨[(0,.l (.val (.int .i64)))],[]⟩,fun x=>qaO.f k x,[]⟩
noncomputable abbrev Γ (k:Nat):Env:=lookE [((92,0),qbj.con k)]
abbrev F:Fin Go.Proofs.Tryz.prog:=⟨⟨[(0,.l (.val (.int .i64)))],[]⟩,[],[.tmp 2],[]⟩
abbrev c2:Cut:=⟨[(6,.l (.val (.list 39 .str))),(7,.l (.val (.int .i64))),(8,.l (.val (.int .i64)))],[]⟩
noncomputable abbrev Tl (k:Nat):List (Nat×Hint (prods F.cout.tys)):=[(2,⟨c2,fun x=>qaO.l2 k x.1 x.2.1 x.2.2⟩)]
noncomputable abbrev T (k:Nat):Nat→Option (Hint (prods F.cout.tys)):=look (Tl k)
noncomputable abbrev body:Code:=Go.Proofs.Tryz.f54.body.getD .skip
theorem s2 (k:Nat) (x:prods c2.tys):qaO.l2 (k+1) x.1 x.2.1 x.2.2=segK (Γ k) F (T k) body 2 (c2.st x):=by kernel_rfl
theorem main (k:Nat) (x:prods (con 0).cin.tys):qaO.f k x=goK (Γ k) F (T k) 2000 [.code body] ((con 0).cin.st x):=by kernel_rfl
theorem okΓ (k:Nat):ΓOk Go.Proofs.Tryz.prog (Γ k):=Γcons (qbj.ok k) ⟨Go.Proofs.Tryz.f92,by kernel_rfl,by kernel_rfl,by kernel_rfl⟩ (Γnil)
theorem ok (k:Nat):qaj Go.Proofs.Tryz.prog 54 (con k):=qai (Γ:=Γ) (fn:=Go.Proofs.Tryz.f54) (body:=body) (cin:=(con 0).cin) (F:=F) (T:=T) follows (by kernel_rfl) (by kernel_rfl) (by kernel_rfl) (by kernel_rfl) (by kernel_rfl) (by decide+kernel) (by kernel_rfl) (by kernel_rfl) (tzero ⟨fun x=>by kernel_rfl,trivial⟩) k (fun m _=>okΓ m) (fun m _=>tstep ⟨fun x=>Eq.trans (by kernel_rfl) (s2 m x),trivial⟩) (fun x y h=>(main k x).symm.trans h)
end qaO
namespace qaq
noncomputable abbrev con (k:Nat):Con:=⟨⟨[(0,.av Y35),(1,.av Y23),(2,.l (.val (.list 39 .str))),(3,.l (.val (.int .i64)))],[]⟩,⟨[(0,.av Y17)],[]⟩,fun x=>qaq.f k x.1 x.2.1 x.2.2.1 x.2.2.2,[]⟩
noncomputable abbrev Γ (k:Nat):Env:=lookE [((57,0),qbh.con k),((58,0),qa6.con k),((59,0),qb5.con k),((74,0),qaU.con k),((75,0),qa5.con k)]
abbrev F:Fin Go.Proofs.Tryz.prog:=⟨⟨[(0,.av Y17)],[]⟩,[],[.cell 8 122],[]⟩
abbrev c3:Cut:=⟨[(3,.l (.val (.int .i64))),(4,.l (.ptr 7000000 0)),(5,.l (.ptr 7000001 0)),(8,.l (.ptr 7000002 0)),(9,.l (.ptr 7000003 0)),(19,.l (.val (.list 39 .str))),(20,.l (.val (.int .i64))),(21,.l (.val (.int .i64)))],[(7000000,.box 116 [.val (.int .i64),.val (.list 3 (.int .i64)),.val (.list 3 (.int .i64)),.val (.list 114 (.list 122 Y17)),.val (.list 122 Y17),.val (.list 3 (.int .i64)),.val (.int .i64)]),(7000001,.box 29 [.val (.list 9 .str),.val (.list 190 Y3),.val (.list 60 Y11),.val (.list 48 Y13),.val (.list 51 Y15),.val (.list 240 Y13)]),(7000002,.box 122 [.val .bool,.nils,.nils]),(7000003,.box 122 [.val .bool,.val (.list 246 (.int .u32)),.val (.list 246 (.int .u32))])]⟩
abbrev c8:Cut:=⟨[(3,.l (.val (.int .i64))),(4,.l (.ptr 7000000 0)),(8,.l (.ptr 7000001 0)),(9,.l (.ptr 7000002 0)),(45,.l (.val (.list 51 Y15))),(46,.l (.val (.int .i64))),(47,.l (.val (.int .i64)))],[(7000000,.box 116 [.val (.int .i64),.val (.list 3 (.int .i64)),.val (.list 3 (.int .i64)),.val (.list 114 (.list 122 Y17)),.val (.list 122 Y17),.val (.list 3 (.int .i64)),.val (.int .i64)]),(7000001,.box 122 [.val .bool,.nils,.nils]),(7000002,.box 122 [.val .bool,.val (.list 246 (.int .u32)),.val (.list 246 (.int .u32))])]⟩
noncomputable abbrev Tl (k:Nat):List (Nat×Hint (prods F.cout.tys)):=[(3,⟨c3,fun x=>qaq.l3 k x.1 x.2.1 x.2.2.1 x.2.2.2.1 x.2.2.2.2.1 x.2.2.2.2.2.1 x.2.2.2.2.2.2.1 x.2.2.2.2.2.2.2.1 x.2.2.2.2.2.2.2.2.1 x.2.2.2.2.2.2.2.2.2.1 x.2.2.2.2.2.2.2.2.2.2.1 x.2.2.2.2.2.2.2.2.2.2.2.1 x.2.2.2.2.2.2.2.2.2.2.2.2.1 x.2.2.2.2.2.2.2.2.2.2.2.2.2.1 x.2.2.2.2.2.2.2.2.2.2.2.2.2.2.1 x.2.2.2.2.2.2.2.2.2.2.2.2.2.2.2.1 x.2.2.2.2.2.2.2.2.2.2.2.2.2.2.2.2.1 x.2.2.2.2.2.2.2.2.2.2.2.2.2.2.2.2.2.1 x.2.2.2.2.2.2.2.2.2.2.2.2.2.2.2.2.2.2.1 x.2.2.2.2.2.2.2.2.2.2.2.2.2.2.2.2.2.2.2.1 x.2.2.2.2.2.2.2.2.2.2.2.2.2.2.2.2.2.2.2.2⟩),(8,⟨c8,fun x=>qaq.l8 k x.1 x.2.1 x.2.2.1 x.2.2.2.1 x.2.2.2.2.1 x.2.2.2.2.2.1 x.2.2.2.2.2.2.1 x.2.2.2.2.2.2.2.1 x.2.2.2.2.2.2.2.2.1 x.2.2.2.2.2.2.2.2.2.1 x.2.2.2.2.2.2.2.2.2.2.1 x.2.2.2.2.2.2.2.2.2.2.2.1 x.2.2.2.2.2.2.2.2.2.2.2.2.1 x.2.2.2.2.2.2.2.2.2.2.2.2.2.1 x.2.2.2.2.2.2.2.2.2.2.2.2.2.2⟩)]
noncomputable abbrev T (k:Nat):Nat→Option (Hint (prods F.cout.tys)):=look (Tl k)
noncomputable abbrev body:Code:=Go.Proofs.Tryz.f61.body.getD .skip
theorem s3 (k:Nat) (x:prods c3.tys):qaq.l3 (k+1) x.1 x.2.1 x.2.2.1 x.2.2.2.1 x.2.2.2.2.1 x.2.2.2.2.2.1 x.2.2.2.2.2.2.1 x.2.2.2.2.2.2.2.1 x.2.2.2.2.2.2.2.2.1 x.2.2.2.2.2.2.2.2.2.1 x.2.2.2.2.2.2.2.2.2.2.1 x.2.2.2.2.2.2.2.2.2.2.2.1 x.2.2.2.2.2.2.2.2.2.2.2.2.1 x.2.2.2.2.2.2.2.2.2.2.2.2.2.1 x.2.2.2.2.2.2.2.2.2.2.2.2.2.2.1 x.2.2.2.2.2.2.2.2.2.2.2.2.2.2.2.1 x.2.2.2.2.2.2.2.2.2.2.2.2.2.2.2.2.1 x.2.2.2.2.2.2.2.2.2.2.2.2.2.2.2.2.2.1 x.2.2.2.2.2.2.2.2.2.2.2.2.2.2.2.2.2.2.1 x.2.2.2.2.2.2.2.2.2.2.2.2.2.2.2.2.2.2.2.1 x.2.2.2.2.2.2.2.2.2.2.2.2.2.2.2.2.2.2.2.2=segK (Γ k) F (T k) body 3 (c3.st x):=by kernel_rfl
theorem s8 (k:Nat) (x:prods c8.tys):qaq.l8 (k+1) x.1 x.2.1 x.2.2.1 x.2.2.2.1 x.2.2.2.2.1 x.2.2.2.2.2.1 x.2.2.2.2.2.2.1 x.2.2.2.2.2.2.2.1 x.2.2.2.2.2.2.2.2.1 x.2.2.2.2.2.2.2.2.2.1 x.2.2.2.2.2.2.2.2.2.2.1 x.2.2.2.2.2.2.2.2.2.2.2.1 x.2.2.2.2.2.2.2.2.2.2.2.2.1 x.2.2.2.2.2.2.2.2.2.2.2.2.2.1 x.2.2.2.2.2.2.2.2.2.2.2.2.2.2=segK (Γ k) F (T k) body 8 (c8.st x):=by kernel_rfl
theorem main (k:Nat) (x:prods (con 0).cin.tys):qaq.f k x.1 x.2.1 x.2.2.1 x.2.2.2=goK (Γ k) F (T k) 2000 [.code body] ((con 0).cin.st x):=by kernel_rfl
theorem okΓ (k:Nat):ΓOk Go.Proofs.Tryz.prog (Γ k):=Γcons (qbh.ok k) ⟨Go.Proofs.Tryz.f57,by kernel_rfl,by kernel_rfl,by kernel_rfl⟩ (Γcons (qa6.ok k) ⟨Go.Proofs.Tryz.f58,by kernel_rfl,by kernel_rfl,by kernel_rfl⟩ (Γcons (qb5.ok k) ⟨Go.Proofs.Tryz.f59,by kernel_rfl,by kernel_rfl,by kernel_rfl⟩ (Γcons (qaU.ok k) ⟨Go.Proofs.Tryz.f74,by kernel_rfl,by kernel_rfl,by kernel_rfl⟩ (Γcons (qa5.ok k) ⟨Go.Proofs.Tryz.f75,by kernel_rfl,by kernel_rfl,by kernel_rfl⟩ (Γnil)))))
theorem ok (k:Nat):qaj Go.Proofs.Tryz.prog 61 (con k):=qai (Γ:=Γ) (fn:=Go.Proofs.Tryz.f61) (body:=body) (cin:=(con 0).cin) (F:=F) (T:=T) follows (by kernel_rfl) (by kernel_rfl) (by kernel_rfl) (by kernel_rfl) (by kernel_rfl) (by decide+kernel) (by kernel_rfl) (by kernel_rfl) (tzero ⟨fun x=>by kernel_rfl,fun x=>by kernel_rfl,trivial⟩) k (fun m _=>okΓ m) (fun m _=>tstep ⟨fun x=>Eq.trans (by kernel_rfl) (s3 m x),fun x=>Eq.trans (by kernel_rfl) (s8 m x),trivial⟩) (fun x y h=>(main k x).symm.trans h)
end qaq
namespace qae
noncomputable abbrev con (k:Nat):Con:=⟨⟨[(0,.av Y23),(1,.l (.val (.list 39 .str)))],[]⟩,⟨[(0,.l (.val (.list 39 .str))),(1,.l (.val (.int .i64)))],[]⟩,fun x=>qae.f k x.1 x.2,[]⟩
noncomputable abbrev Γ (k:Nat):Env:=lookE [((53,0),qaf.con k),((54,0),qaO.con k),((55,0),qbv.con k),((56,0),qag.con k),((57,0),qbh.con k),((58,0),qa6.con k),((59,0),qb5.con k),((60,0),qa9.con k),((61,0),qaq.con k),((62,0),qbx.con k)]
abbrev F:Fin Go.Proofs.Tryz.prog:=⟨⟨[(0,.l (.val (.list 39 .str))),(1,.l (.val (.int .i64)))],[]⟩,[],[.tmp 4,.tmp 5],[]⟩
abbrev c13:Cut:=⟨[(1,.l (.val (.list 39 .str))),(2,.l (.ptr 7000000 0)),(43,.l (.val (.list 3 (.int .i64)))),(44,.l (.val (.int .i64))),(45,.l (.val (.int .i64)))],[(7000000,.box 29 [.val (.list 9 .str),.val (.list 190 Y3),.val (.list 60 Y11),.val (.list 48 Y13),.val (.list 51 Y15),.val (.list 240 Y13)])]⟩
abbrev c23:Cut:=⟨[(1,.l (.val (.list 39 .str))),(2,.l (.ptr 7000000 0)),(12,.l (.ptr 7000001 0)),(13,.l (.ptr 7000002 0)),(64,.l (.val (.list 39 .str))),(65,.l (.val (.int .i64))),(66,.l (.val (.int .i64)))],[(7000000,.box 29 [.val (.list 9 .str),.val (.list 190 Y3),.val (.list 60 Y11),.val (.list 48 Y13),.val (.list 51 Y15),.val (.list 240 Y13)]),(7000001,.box 116 [.val (.int .i64),.val (.list 3 (.int .i64)),.val (.list 3 (.int .i64)),.val (.list 114 (.list 122 Y17)),.val (.list 122 Y17),.val (.list 3 (.int .i64)),.val (.int .i64)]),(7000002,.box 122 [.val .bool,.val (.list 246 (.int .u32)),.val (.list 246 (.int .u32))])]⟩
abbrev c31:Cut:=⟨[(1,.l (.val (.list 39 .str))),(2,.l (.ptr 7000000 0)),(12,.l (.ptr 7000001 0)),(16,.l (.row 7000502)),(80,.l (.val (.int .i64))),(81,.l (.val (.int .i64)))],[(7000000,.box 29 [.val (.list 9 .str),.val (.list 190 Y3),.val (.list 60 Y11),.val (.list 48 Y13),.val (.list 51 Y15),.val (.list 240 Y13)]),(7000001,.box 116 [.val (.int .i64),.val (.list 3 (.int .i64)),.val (.list 3 (.int .i64)),.val (.list 114 (.list 122 Y17)),.val (.list 122 Y17),.val (.list 3 (.int .i64)),.val (.int .i64)]),(7000502,.row 39 .str)]⟩
noncomputable abbrev Tl (k:Nat):List (Nat×Hint (prods F.cout.tys)):=[(13,⟨c13,fun x=>qae.l13 k x.1 x.2.1 x.2.2.1 x.2.2.2.1 x.2.2.2.2.1 x.2.2.2.2.2.1 x.2.2.2.2.2.2.1 x.2.2.2.2.2.2.2.1 x.2.2.2.2.2.2.2.2.1 x.2.2.2.2.2.2.2.2.2⟩),(23,⟨c23,fun x=>qae.l23 k x.1 x.2.1 x.2.2.1 x.2.2.2.1 x.2.2.2.2.1 x.2.2.2.2.2.1 x.2.2.2.2.2.2.1 x.2.2.2.2.2.2.2.1 x.2.2.2.2.2.2.2.2.1 x.2.2.2.2.2.2.2.2.2.1 x.2.2.2.2.2.2.2.2.2.2.1 x.2.2.2.2.2.2.2.2.2.2.2.1 x.2.2.2.2.2.2.2.2.2.2.2.2.1 x.2.2.2.2.2.2.2.2.2.2.2.2.2.1 x.2.2.2.2.2.2.2.2.2.2.2.2.2.2.1 x.2.2.2.2.2.2.2.2.2.2.2.2.2.2.2.1 x.2.2.2.2.2.2.2.2.2.2.2.2.2.2.2.2.1 x.2.2.2.2.2.2.2.2.2.2.2.2.2.2.2.2.2.1 x.2.2.2.2.2.2.2.2.2.2.2.2.2.2.2.2.2.2.1 x.2.2.2.2.2.2.2.2.2.2.2.2.2.2.2.2.2.2.2⟩),(31,⟨c31,fun x=>qae.l31 k x.1 x.2.1 x.2.2.1 x.2.2.2.1 x.2.2.2.2.1 x.2.2.2.2.2.1 x.2.2.2.2.2.2.1 x.2.2.2.2.2.2.2.1 x.2.2.2.2.2.2.2.2.1 x.2.2.2.2.2.2.2.2.2.1 x.2.2.2.2.2.2.2.2.2.2.1 x.2.2.2.2.2.2.2.2.2.2.2.1 x.2.2.2.2.2.2.2.2.2.2.2.2.1 x.2.2.2.2.2.2.2.2.2.2.2.2.2.1 x.2.2.2.2.2.2.2.2.2.2.2.2.2.2.1 x.2.2.2.2.2.2.2.2.2.2.2.2.2.2.2.1 x.2.2.2.2.2.2.2.2.2.2.2.2.2.2.2.2⟩)]
noncomputable abbrev T (k:Nat):Nat→Option (Hint (prods F.cout.tys)):=look (Tl k)
noncomputable abbrev body:Code:=Go.Proofs.Tryz.f15.body.getD .skip
theorem s13 (k:Nat) (x:prods c13.tys):qae.l13 (k+1) x.1 x.2.1 x.2.2.1 x.2.2.2.1 x.2.2.2.2.1 x.2.2.2.2.2.1 x.2.2.2.2.2.2.1 x.2.2.2.2.2.2.2.1 x.2.2.2.2.2.2.2.2.1 x.2.2.2.2.2.2.2.2.2=segK (Γ k) F (T k) body 13 (c13.st x):=by kernel_rfl
theorem s23 (k:Nat) (x:prods c23.tys):qae.l23 (k+1) x.1 x.2.1 x.2.2.1 x.2.2.2.1 x.2.2.2.2.1 x.2.2.2.2.2.1 x.2.2.2.2.2.2.1 x.2.2.2.2.2.2.2.1 x.2.2.2.2.2.2.2.2.1 x.2.2.2.2.2.2.2.2.2.1 x.2.2.2.2.2.2.2.2.2.2.1 x.2.2.2.2.2.2.2.2.2.2.2.1 x.2.2.2.2.2.2.2.2.2.2.2.2.1 x.2.2.2.2.2.2.2.2.2.2.2.2.2.1 x.2.2.2.2.2.2.2.2.2.2.2.2.2.2.1 x.2.2.2.2.2.2.2.2.2.2.2.2.2.2.2.1 x.2.2.2.2.2.2.2.2.2.2.2.2.2.2.2.2.1 x.2.2.2.2.2.2.2.2.2.2.2.2.2.2.2.2.2.1 x.2.2.2.2.2.2.2.2.2.2.2.2.2.2.2.2.2.2.1 x.2.2.2.2.2.2.2.2.2.2.2.2.2.2.2.2.2.2.2=segK (Γ k) F (T k) body 23 (c23.st x):=by kernel_rfl
theorem s31 (k:Nat) (x:prods c31.tys):qae.l31 (k+1) x.1 x.2.1 x.2.2.1 x.2.2.2.1 x.2.2.2.2.1 x.2.2.2.2.2.1 x.2.2.2.2.2.2.1 x.2.2.2.2.2.2.2.1 x.2.2.2.2.2.2.2.2.1 x.2.2.2.2.2.2.2.2.2.1 x.2.2.2.2.2.2.2.2.2.2.1 x.2.2.2.2.2.2.2.2.2.2.2.1 x.2.2.2.2.2.2.2.2.2.2.2.2.1 x.2.2.2.2.2.2.2.2.2.2.2.2.2.1 x.2.2.2.2.2.2.2.2.2.2.2.2.2.2.1 x.2.2.2.2.2.2.2.2.2.2.2.2.2.2.2.1 x.2.2.2.2.2.2.2.2.2.2.2.2.2.2.2.2=segK (Γ k) F (T k) body 31 (c31.st x):=by kernel_rfl
theorem main (k:Nat) (x:prods (con 0).cin.tys):qae.f k x.1 x.2=goK (Γ k) F (T k) 2000 [.code body] ((con 0).cin.st x):=by kernel_rfl
theorem okΓ (k:Nat):ΓOk Go.Proofs.Tryz.prog (Γ k):=Γcons (qaf.ok k) ⟨Go.Proofs.Tryz.f53,by kernel_rfl,by kernel_rfl,by kernel_rfl⟩ (Γcons (qaO.ok k) ⟨Go.Proofs.Tryz.f54,by kernel_rfl,by kernel_rfl,by kernel_rfl⟩ (Γcons (qbv.ok k) ⟨Go.Proofs.Tryz.f55,by kernel_rfl,by kernel_rfl,by kernel_rfl⟩ (Γcons (qag.ok k) ⟨Go.Proofs.Tryz.f56,by kernel_rfl,by kernel_rfl,by kernel_rfl⟩ (Γcons (qbh.ok k) ⟨Go.Proofs.Tryz.f57,by kernel_rfl,by kernel_rfl,by kernel_rfl⟩ (Γcons (qa6.ok k) ⟨Go.Proofs.Tryz.f58,by kernel_rfl,by kernel_rfl,by kernel_rfl⟩ (Γcons (qb5.ok k) ⟨Go.Proofs.Tryz.f59,by kernel_rfl,by kernel_rfl,by kernel_rfl⟩ (Γcons (qa9.ok k) ⟨Go.Proofs.Tryz.f60,by kernel_rfl,by kernel_rfl,by kernel_rfl⟩ (Γcons (qaq.ok k) ⟨Go.Proofs.Tryz.f61,by kernel_rfl,by kernel_rfl,by kernel_rfl⟩ (Γcons (qbx.ok k) ⟨Go.Proofs.Tryz.f62,by kernel_rfl,by kernel_rfl,by kernel_rfl⟩ (Γnil))))))))))
theorem ok (k:Nat):qaj Go.Proofs.Tryz.prog 15 (con k):=qai (Γ:=Γ) (fn:=Go.Proofs.Tryz.f15) (body:=body) (cin:=(con 0).cin) (F:=F) (T:=T) follows (by kernel_rfl) (by kernel_rfl) (by kernel_rfl) (by kernel_rfl) (by kernel_rfl) (by decide+kernel) (by kernel_rfl) (by kernel_rfl) (tzero ⟨fun x=>by kernel_rfl,fun x=>by kernel_rfl,fun x=>by kernel_rfl,trivial⟩) k (fun m _=>okΓ m) (fun m _=>tstep ⟨fun x=>Eq.trans (by kernel_rfl) (s13 m x),fun x=>Eq.trans (by kernel_rfl) (s23 m x),fun x=>Eq.trans (by kernel_rfl) (s31 m x),trivial⟩) (fun x y h=>(main k x).symm.trans h)
end qae
namespace qaa
noncomputable abbrev con (k:Nat):Con:=⟨⟨[(0,.av Y23),(1,.l (.val (.list 3 (.int .i64))))],[]⟩,⟨[(0,.l (.val .bool))],[]⟩,fun x=>qaa.f k x.1 x.2,[]⟩
noncomputable abbrev Γ (k:Nat):Env:=lookE [((14,0),qbe.con k),((15,0),qae.con k),((16,0),qar.con k),((17,0),qbp.con k),((18,0),qd1.con k),((19,0),slices_Index_string.con k)]
abbrev F:Fin Go.Proofs.Tryz.prog:=⟨⟨[(0,.l (.val .bool))],[]⟩,[],[.tmp 4],[]⟩
abbrev c10:Cut:=⟨[(1,.l (.val (.list 3 (.int .i64)))),(2,.l (.ptr 7000000 0)),(11,.l (.row 7000501)),(60,.l (.val (.list 3 (.int .i64)))),(61,.l (.val (.int .i64))),(62,.l (.val (.int .i64)))],[(7000000,.box 29 [.val (.list 9 .str),.val (.list 190 Y3),.val (.list 60 Y11),.val (.list 48 Y13),.val (.list 51 Y15),.val (.list 240 Y13)]),(7000501,.row 39 .str)]⟩
abbrev c22:Cut:=⟨[(1,.l (.val (.list 3 (.int .i64)))),(2,.l (.ptr 7000000 0)),(16,.l (.val (.list 39 .str))),(18,.l (.row 7000001)),(102,.l (.val (.list 48 Y13))),(103,.l (.val (.int .i64))),(104,.l (.val (.int .i64)))],[(7000000,.box 29 [.val (.list 9 .str),.val (.list 190 Y3),.val (.list 60 Y11),.val (.list 48 Y13),.val (.list 51 Y15),.val (.list 240 Y13)]),(7000001,.row 3 (.int .i64))]⟩
abbrev c30:Cut:=⟨[(2,.l (.ptr 7000000 0)),(16,.l (.val (.list 39 .str))),(18,.l (.row 7000001)),(128,.l (.val (.list 51 Y15))),(129,.l (.val (.int .i64))),(130,.l (.val (.int .i64)))],[(7000000,.box 29 [.val (.list 9 .str),.val (.list 190 Y3),.val (.list 60 Y11),.val (.list 48 Y13),.val (.list 51 Y15),.val (.list 240 Y13)]),(7000001,.row 3 (.int .i64))]⟩
noncomputable abbrev Tl (k:Nat):List (Nat×Hint (prods F.cout.tys)):=[(10,⟨c10,fun x=>qaa.l10 k x.1 x.2.1 x.2.2.1 x.2.2.2.1 x.2.2.2.2.1 x.2.2.2.2.2.1 x.2.2.2.2.2.2.1 x.2.2.2.2.2.2.2.1 x.2.2.2.2.2.2.2.2.1 x.2.2.2.2.2.2.2.2.2.1 x.2.2.2.2.2.2.2.2.2.2⟩),(22,⟨c22,fun x=>qaa.l22 k x.1 x.2.1 x.2.2.1 x.2.2.2.1 x.2.2.2.2.1 x.2.2.2.2.2.1 x.2.2.2.2.2.2.1 x.2.2.2.2.2.2.2.1 x.2.2.2.2.2.2.2.2.1 x.2.2.2.2.2.2.2.2.2.1 x.2.2.2.2.2.2.2.2.2.2.1 x.2.2.2.2.2.2.2.2.2.2.2⟩),(30,⟨c30,fun x=>qaa.l30 k x.1 x.2.1 x.2.2.1 x.2.2.2.1 x.2.2.2.2.1 x.2.2.2.2.2.1 x.2.2.2.2.2.2.1 x.2.2.2.2.2.2.2.1 x.2.2.2.2.2.2.2.2.1 x.2.2.2.2.2.2.2.2.2.1 x.2.2.2.2.2.2.2.2.2.2⟩)]
noncomputable abbrev T (k:Nat):Nat→Option (Hint (prods F.cout.tys)):=look (Tl k)
noncomputable abbrev body:Code:=Go.Proofs.Tryz.f3.body.getD .skip
theorem s10 (k:Nat) (x:prods c10.tys):qaa.l10 (k+1) x.1 x.2.1 x.2.2.1 x.2.2.2.1 x.2.2.2.2.1 x.2.2.2.2.2.1 x.2.2.2.2.2.2.1 x.2.2.2.2.2.2.2.1 x.2.2.2.2.2.2.2.2.1 x.2.2.2.2.2.2.2.2.2.1 x.2.2.2.2.2.2.2.2.2.2=segK (Γ k) F (T k) body 10 (c10.st x):=by kernel_rfl
theorem s22 (k:Nat) (x:prods c22.tys):qaa.l22 (k+1) x.1 x.2.1 x.2.2.1 x.2.2.2.1 x.2.2.2.2.1 x.2.2.2.2.2.1 x.2.2.2.2.2.2.1 x.2.2.2.2.2.2.2.1 x.2.2.2.2.2.2.2.2.1 x.2.2.2.2.2.2.2.2.2.1 x.2.2.2.2.2.2.2.2.2.2.1 x.2.2.2.2.2.2.2.2.2.2.2=segK (Γ k) F (T k) body 22 (c22.st x):=by kernel_rfl
theorem s30 (k:Nat) (x:prods c30.tys):qaa.l30 (k+1) x.1 x.2.1 x.2.2.1 x.2.2.2.1 x.2.2.2.2.1 x.2.2.2.2.2.1 x.2.2.2.2.2.2.1 x.2.2.2.2.2.2.2.1 x.2.2.2.2.2.2.2.2.1 x.2.2.2.2.2.2.2.2.2.1 x.2.2.2.2.2.2.2.2.2.2=segK (Γ k) F (T k) body 30 (c30.st x):=by kernel_rfl
theorem main (k:Nat) (x:prods (con 0).cin.tys):qaa.f k x.1 x.2=goK (Γ k) F (T k) 2000 [.code body] ((con 0).cin.st x):=by kernel_rfl
theorem okΓ (k:Nat):ΓOk Go.Proofs.Tryz.prog (Γ k):=Γcons (qbe.ok k) ⟨Go.Proofs.Tryz.f14,by kernel_rfl,by kernel_rfl,by kernel_rfl⟩ (Γcons (qae.ok k) ⟨Go.Proofs.Tryz.f15,by kernel_rfl,by kernel_rfl,by kernel_rfl⟩ (Γcons (qar.ok k) ⟨Go.Proofs.Tryz.f16,by kernel_rfl,by kernel_rfl,by kernel_rfl⟩ (Γcons (qbp.ok k) ⟨Go.Proofs.Tryz.f17,by kernel_rfl,by kernel_rfl,by kernel_rfl⟩ (Γcons (qd1.ok k) ⟨Go.Proofs.Tryz.f18,by kernel_rfl,by kernel_rfl,by kernel_rfl⟩ (Γcons (slices_Index_string.ok k) ⟨Go.Proofs.Tryz.f19,by kernel_rfl,by kernel_rfl,by kernel_rfl⟩ (Γnil))))))
theorem ok (k:Nat):qaj Go.Proofs.Tryz.prog 3 (con k):=qai (Γ:=Γ) (fn:=Go.Proofs.Tryz.f3) (body:=body) (cin:=(con 0).cin) (F:=F) (T:=T) follows (by kernel_rfl) (by kernel_rfl) (by kernel_rfl) (by kernel_rfl) (by kernel_rfl) (by decide+kernel) (by kernel_rfl) (by kernel_rfl) (tzero ⟨fun x=>by kernel_rfl,fun x=>by kernel_rfl,fun x=>by kernel_rfl,trivial⟩) k (fun m _=>okΓ m) (fun m _=>tstep ⟨fun x=>Eq.trans (by kernel_rfl) (s10 m x),fun x=>Eq.trans (by kernel_rfl) (s22 m x),fun x=>Eq.trans (by kernel_rfl) (s30 m x),trivial⟩) (fun x y h=>(main k x).symm.trans h)
end qaa
end Go.Proofs.YtfobeapcmgjhbaaGreatDoor.VE
namespace Go.Proofs.YtfobeapcmgjhbaaGreatDoor.VE
set_option linter.unusedVariables false
set_option maxRecDepth 100000
open Go Go.RowKit
end Go.Proofs.YtfobeapcmgjhbaaGreatDoor.VE
