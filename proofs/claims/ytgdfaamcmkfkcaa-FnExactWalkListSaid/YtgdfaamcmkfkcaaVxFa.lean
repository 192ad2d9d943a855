/-
  The functions, as they read.
-/
import Derived.Test.YtgdfaamcmkfkcaaProg
import Derived.Test.YtgdfaamcmkfkcaaVxUse
set_option linter.unusedSimpArgs false
set_option linter.unusedVariables false
set_option linter.unnecessarySimpa false
namespace Go.VxU
open Go Go.Vx Go.Proofs
set_option maxRecDepth 100000
@[reducible] def T109 : Ty := .pair .str (.pair (.int .i64) .unit)
abbrev D109 : Type := ByteArray × Int × Unit
@[reducible] def T106 : Ty := .pair (.int .i64) (.pair (.int .i64) (.pair .str (.pair (.sl T109) .unit)))
abbrev D106 : Type := Int × Int × ByteArray × (List D109) × Unit
@[reducible] def T23 : Ty := .pair (.sl T106) .unit
abbrev D23 : Type := (List D106) × Unit
@[reducible] def T62 : Ty := .pair (.int .i64) (.pair (.int .i64) (.pair .str (.pair (.sl T109) .unit)))
abbrev D62 : Type := Int × Int × ByteArray × (List D109) × Unit
@[reducible] def T28 : Ty := .pair (.sl T62) .unit
abbrev D28 : Type := (List D62) × Unit
@[reducible] def T76 : Ty := .pair (.int .i64) (.pair (.int .i64) (.pair .str (.pair (.int .i64) (.pair .str (.pair (.int .i64) (.pair .str .unit))))))
abbrev D76 : Type := Int × Int × ByteArray × Int × ByteArray × Int × ByteArray × Unit
@[reducible] def T126 : Ty := .pair (.int .i64) (.pair (.int .i64) .unit)
abbrev D126 : Type := Int × Int × Unit
@[reducible] def T90 : Ty := .pair (.int .i64) (.pair (.int .i64) (.pair (.sl T126) (.pair (.sl T76) .unit)))
abbrev D90 : Type := Int × Int × (List D126) × (List D76) × Unit
@[reducible] def T95 : Ty := .pair (.int .i64) (.pair (.int .i64) (.pair (.sl T126) (.pair (.sl T76) .unit)))
abbrev D95 : Type := Int × Int × (List D126) × (List D76) × Unit
@[reducible] def E110 : DTy := .pair .str (.pair (.int .i64) .unit)
@[reducible] def E63 : DTy := .pair (.int .i64) (.pair (.int .i64) (.pair .str (.pair (.sl 110 E110) .unit)))
def tab : List (Nat × TI) := [
  (3, ⟨(.int .i64), [], 0, false⟩),
  (4, ⟨.bool, [], 0, false⟩),
  (5, ⟨(.int .u8), [], 0, false⟩),
  (9, ⟨.str, [], 0, false⟩),
  (22, ⟨(.sl T106), [], 107, false⟩),
  (24, ⟨T23, [(0, 22)], 0, false⟩),
  (27, ⟨(.sl T62), [], 63, false⟩),
  (29, ⟨T28, [(0, 27)], 0, false⟩),
  (35, ⟨(.sl (.int .i64)), [], 3, false⟩),
  (40, ⟨(.sl T76), [], 77, false⟩),
  (42, ⟨(.sl T76), [], 79, false⟩),
  (49, ⟨(.sl T90), [], 91, false⟩),
  (53, ⟨(.sl T95), [], 96, false⟩),
  (61, ⟨(.sl T109), [], 110, false⟩),
  (63, ⟨T62, [(0, 3), (1, 3), (2, 9), (3, 61)], 0, false⟩),
  (77, ⟨T76, [(0, 3), (1, 3), (2, 9), (3, 3), (4, 9), (5, 3), (6, 9)], 0, false⟩),
  (79, ⟨T76, [(0, 3), (1, 3), (2, 9), (3, 3), (4, 9), (5, 3), (6, 9)], 0, false⟩),
  (89, ⟨(.sl T126), [], 146, false⟩),
  (91, ⟨T90, [(0, 3), (1, 3), (2, 89), (3, 40)], 0, false⟩),
  (94, ⟨(.sl T126), [], 127, false⟩),
  (96, ⟨T95, [(0, 3), (1, 3), (2, 94), (3, 42)], 0, false⟩),
  (105, ⟨(.sl T109), [], 149, false⟩),
  (107, ⟨T106, [(0, 3), (1, 3), (2, 9), (3, 105)], 0, false⟩),
  (110, ⟨T109, [(0, 9), (1, 3)], 0, false⟩),
  (112, ⟨(.arr 32 (.int .i64)), [], 3, false⟩),
  (116, ⟨(.sl (.int .u8)), [], 5, false⟩),
  (127, ⟨T126, [(0, 3), (1, 3)], 0, false⟩),
  (139, ⟨(.arr 32 .bool), [], 4, false⟩),
  (146, ⟨T126, [(0, 3), (1, 3)], 0, false⟩),
  (149, ⟨T109, [(0, 9), (1, 3)], 0, false⟩)]
theorem ctx : Ctx Try.prog tab := ⟨by kernel_rfl, chkTab_ok (by kernel_rfl)⟩

/- laws.szEnt -/
noncomputable def laws_szEnt (x0 : D109) (x1 : Int) : Option (Int) :=
  cond (decide ((IntKind.i64.wrap (x1 - (ByteArray.size x0.1 : Int))) < 0)) (some (-1)) (some (IntKind.i64.wrap (x1 - (ByteArray.size x0.1 : Int))))
noncomputable def S_laws_szEnt : CSpec := ⟨[(0, .v true [.val T109]), (1, .v false [.val (.int .i64)])], [(0, .v false [.val (.int .i64)])], laws_szEnt⟩
def ann_laws_szEnt : List (Nat × List (Nat × SSh)) := []
theorem g_laws_szEnt : Go.Vx.Good Try.prog 130 S_laws_szEnt := good_of ctx (l := []) (ann := ann_laws_szEnt) (md := []) (f := Try.f130) trivial Try.func130 (by kernel_rfl) (fun x => by kernel_rfl)

/- laws.szEntS -/
noncomputable def laws_szEntS_L0 : (((List D109) × Int × Int) → Option ((((List D109) × Int × Int) ⊕ (Int)))) → ((List D109) × Int × Int) → Option ((((List D109) × Int × Int) ⊕ (Int))) := fun rec z => cond (decide (z.2.2 < (List.length z.1 : Int))) ((idx z.1 z.2.2).bind fun y1 => (laws_szEnt y1 z.2.1).bind fun r2 => cond (decide (r2 < 0)) (some (Sum.inr (-1))) (rec (z.1, r2, (IntKind.i64.wrap (z.2.2 + 1))))) (some (Sum.inl (z.1, z.2.1, z.2.2)))
noncomputable def laws_szEntS (x0 : (List D109)) (x1 : Int) : Option (Int) :=
  cond (decide ((IntKind.i64.wrap (x1 - (List.length x0 : Int))) < 0)) (some (-1)) ((@iter ((List D109) × Int × Int) (((List D109) × Int × Int) ⊕ (Int)) laws_szEntS_L0 FUEL (x0, (IntKind.i64.wrap (x1 - (List.length x0 : Int))), 0)).bind fun o => match o with | Sum.inl z1 => (some z1.2.1) | Sum.inr r => some r)
noncomputable def S_laws_szEntS : CSpec := ⟨[(0, .v false [.val (.sl T109)]), (1, .v false [.val (.int .i64)])], [(0, .v false [.val (.int .i64)])], laws_szEntS⟩
def ann_laws_szEntS : List (Nat × List (Nat × SSh)) := [(0, [(0, .v false [.val (.sl T109)]), (1, .v false [.val (.int .i64)]), (5, .v false [.val (.int .i64)])])]
theorem g_laws_szEntS : Go.Vx.Good Try.prog 105 S_laws_szEntS := good_of ctx (l := [(130, S_laws_szEnt)]) (ann := ann_laws_szEntS) (md := []) (f := Try.f105) ⟨g_laws_szEnt, trivial⟩ Try.func105 (by kernel_rfl) (fun x => by kernel_rfl)

/- laws.szObj -/
noncomputable def laws_szObj (x0 : D106) (x1 : Int) : Option (Int) :=
  cond (decide ((IntKind.i64.wrap (x1 - (ByteArray.size x0.2.2.1 : Int))) < 0)) (some (-1)) ((laws_szEntS x0.2.2.2.1 (IntKind.i64.wrap (x1 - (ByteArray.size x0.2.2.1 : Int)))).bind fun r1 => cond (decide (r1 < 0)) (some (-1)) (some r1))
noncomputable def S_laws_szObj : CSpec := ⟨[(0, .v true [.val T106]), (1, .v false [.val (.int .i64)])], [(0, .v false [.val (.int .i64)])], laws_szObj⟩
def ann_laws_szObj : List (Nat × List (Nat × SSh)) := []
theorem g_laws_szObj : Go.Vx.Good Try.prog 78 S_laws_szObj := good_of ctx (l := [(105, S_laws_szEntS)]) (ann := ann_laws_szObj) (md := []) (f := Try.f78) ⟨g_laws_szEntS, trivial⟩ Try.func78 (by kernel_rfl) (fun x => by kernel_rfl)

/- laws.szObjS -/
noncomputable def laws_szObjS_L0 : (((List D106) × Int × Int) → Option ((((List D106) × Int × Int) ⊕ (Int)))) → ((List D106) × Int × Int) → Option ((((List D106) × Int × Int) ⊕ (Int))) := fun rec z => cond (decide (z.2.2 < (List.length z.1 : Int))) ((idx z.1 z.2.2).bind fun y1 => (laws_szObj y1 z.2.1).bind fun r2 => cond (decide (r2 < 0)) (some (Sum.inr (-1))) (rec (z.1, r2, (IntKind.i64.wrap (z.2.2 + 1))))) (some (Sum.inl (z.1, z.2.1, z.2.2)))
noncomputable def laws_szObjS (x0 : (List D106)) (x1 : Int) : Option (Int) :=
  cond (decide ((IntKind.i64.wrap (x1 - (List.length x0 : Int))) < 0)) (some (-1)) ((@iter ((List D106) × Int × Int) (((List D106) × Int × Int) ⊕ (Int)) laws_szObjS_L0 FUEL (x0, (IntKind.i64.wrap (x1 - (List.length x0 : Int))), 0)).bind fun o => match o with | Sum.inl z1 => (some z1.2.1) | Sum.inr r => some r)
noncomputable def S_laws_szObjS : CSpec := ⟨[(0, .v false [.val (.sl T106)]), (1, .v false [.val (.int .i64)])], [(0, .v false [.val (.int .i64)])], laws_szObjS⟩
def ann_laws_szObjS : List (Nat × List (Nat × SSh)) := [(0, [(0, .v false [.val (.sl T106)]), (1, .v false [.val (.int .i64)]), (5, .v false [.val (.int .i64)])])]
theorem g_laws_szObjS : Go.Vx.Good Try.prog 38 S_laws_szObjS := good_of ctx (l := [(78, S_laws_szObj)]) (ann := ann_laws_szObjS) (md := []) (f := Try.f38) ⟨g_laws_szObj, trivial⟩ Try.func38 (by kernel_rfl) (fun x => by kernel_rfl)

/- laws.szTree -/
noncomputable def laws_szTree (x0 : D23) (x1 : Int) : Option (Int) :=
  (laws_szObjS x0.1 x1).bind fun r1 => cond (decide (r1 < 0)) (some (-1)) (some r1)
noncomputable def S_laws_szTree : CSpec := ⟨[(0, .v true [.val T23]), (1, .v false [.val (.int .i64)])], [(0, .v false [.val (.int .i64)])], laws_szTree⟩
def ann_laws_szTree : List (Nat × List (Nat × SSh)) := []
theorem g_laws_szTree : Go.Vx.Good Try.prog 9 S_laws_szTree := good_of ctx (l := [(38, S_laws_szObjS)]) (ann := ann_laws_szTree) (md := []) (f := Try.f9) ⟨g_laws_szObjS, trivial⟩ Try.func9 (by kernel_rfl) (fun x => by kernel_rfl)

/- spec.TreeBody -/
noncomputable def spec_TreeBody_L0 : ((ByteArray × Int) → Option (((ByteArray × Int) ⊕ (Bool)))) → (ByteArray × Int) → Option (((ByteArray × Int) ⊕ (Bool))) := fun rec z => cond (decide (z.2 < (ByteArray.size z.1 : Int))) ((idxB z.1 z.2).bind fun y1 => cond (decide (y1 < 97)) ((idxB z.1 z.2).bind fun y2 => cond (decide (y2 < 48)) (Option.map Sum.inr (some false)) ((idxB z.1 z.2).bind fun y3 => cond (decide (y3 > 57)) (Option.map Sum.inr (some false)) (rec (z.1, (IntKind.i64.wrap (z.2 + 1)))))) ((idxB z.1 z.2).bind fun y4 => cond (decide (y4 > 122)) ((idxB z.1 z.2).bind fun y5 => cond (decide (y5 < 48)) (Option.map Sum.inr (some false)) ((idxB z.1 z.2).bind fun y6 => cond (decide (y6 > 57)) (Option.map Sum.inr (some false)) (rec (z.1, (IntKind.i64.wrap (z.2 + 1)))))) (rec (z.1, (IntKind.i64.wrap (z.2 + 1)))))) (some (Sum.inl (z.1, z.2)))
noncomputable def spec_TreeBody (x0 : ByteArray) : Option (Bool) :=
  (@iter (ByteArray × Int) ((ByteArray × Int) ⊕ (Bool)) spec_TreeBody_L0 FUEL (x0, 0)).bind fun o => match o with | Sum.inl z1 => (some (decide ((ByteArray.size z1.1 : Int) ≤ 12))) | Sum.inr r => some r
noncomputable def S_spec_TreeBody : CSpec := ⟨[(0, .v false [.val .str])], [(0, .v false [.val .bool])], spec_TreeBody⟩
def ann_spec_TreeBody : List (Nat × List (Nat × SSh)) := [(0, [(0, .v false [.val .str]), (3, .v false [.val (.int .i64)])])]
theorem g_spec_TreeBody : Go.Vx.Good Try.prog 106 S_spec_TreeBody := good_of ctx (l := []) (ann := ann_spec_TreeBody) (md := []) (f := Try.f106) trivial Try.func106 (by kernel_rfl) (fun x => by kernel_rfl)

/- spec.l1Id -/
noncomputable def spec_l1Id (x0 : Int) : Option (Bool) :=
  cond (decide (x0 ≥ 0)) (some (decide (x0 < 32))) (some false)
noncomputable def S_spec_l1Id : CSpec := ⟨[(0, .v false [.val (.int .i64)])], [(0, .v false [.val .bool])], spec_l1Id⟩
def ann_spec_l1Id : List (Nat × List (Nat × SSh)) := []
theorem g_spec_l1Id : Go.Vx.Good Try.prog 40 S_spec_l1Id := good_of ctx (l := []) (ann := ann_spec_l1Id) (md := []) (f := Try.f40) trivial Try.func40 (by kernel_rfl) (fun x => by kernel_rfl)

/- spec.TreeWord -/
noncomputable def spec_TreeWord_L0 : ((ByteArray × Int) → Option (((ByteArray × Int) ⊕ (Bool)))) → (ByteArray × Int) → Option (((ByteArray × Int) ⊕ (Bool))) := fun rec z => cond (decide (z.2 < (ByteArray.size z.1 : Int))) ((idxB z.1 z.2).bind fun y1 => cond (decide (y1 < 97)) (Option.map Sum.inr (some false)) ((idxB z.1 z.2).bind fun y2 => cond (decide (y2 > 122)) (Option.map Sum.inr (some false)) (rec (z.1, (IntKind.i64.wrap (z.2 + 1)))))) (some (Sum.inl (z.1, z.2)))
noncomputable def spec_TreeWord (x0 : ByteArray) : Option (Bool) :=
  (@iter (ByteArray × Int) ((ByteArray × Int) ⊕ (Bool)) spec_TreeWord_L0 FUEL (x0, 0)).bind fun o => match o with | Sum.inl z1 => (cond (decide ((ByteArray.size z1.1 : Int) > 0)) (some (decide ((ByteArray.size z1.1 : Int) ≤ 4))) (some false)) | Sum.inr r => some r
noncomputable def S_spec_TreeWord : CSpec := ⟨[(0, .v false [.val .str])], [(0, .v false [.val .bool])], spec_TreeWord⟩
def ann_spec_TreeWord : List (Nat × List (Nat × SSh)) := [(0, [(0, .v false [.val .str]), (3, .v false [.val (.int .i64)])])]
theorem g_spec_TreeWord : Go.Vx.Good Try.prog 49 S_spec_TreeWord := good_of ctx (l := []) (ann := ann_spec_TreeWord) (md := []) (f := Try.f49) trivial Try.func49 (by kernel_rfl) (fun x => by kernel_rfl)

/- spec.l1Kids -/
noncomputable def spec_l1Kids_L0 : (((List D109) × Int) → Option ((((List D109) × Int) ⊕ (Bool)))) → ((List D109) × Int) → Option ((((List D109) × Int) ⊕ (Bool))) := fun rec z => cond (decide (z.2 < (List.length z.1 : Int))) ((idx z.1 z.2).bind fun y1 => (spec_TreeWord y1.1).bind fun r2 => cond (!r2) (Option.map Sum.inr (some false)) ((idx z.1 z.2).bind fun y3 => cond (decide (y3.2.1 < 1)) (Option.map Sum.inr (some false)) ((idx z.1 z.2).bind fun y4 => (spec_l1Id y4.2.1).bind fun r5 => cond (!r5) (Option.map Sum.inr (some false)) (cond (decide (z.2 > 0)) ((idx z.1 z.2).bind fun y6 => (idx z.1 (IntKind.i64.wrap (z.2 - 1))).bind fun y7 => cond ((Op.bytesLess (ByteArray.toList y6.1) (ByteArray.toList y7.1)) || (ByteArray.toList y6.1 == ByteArray.toList y7.1)) (Option.map Sum.inr (some false)) (rec (z.1, (IntKind.i64.wrap (z.2 + 1))))) (rec (z.1, (IntKind.i64.wrap (z.2 + 1)))))))) (some (Sum.inl (z.1, z.2)))
noncomputable def spec_l1Kids (x0 : (List D109)) : Option (Bool) :=
  (@iter ((List D109) × Int) (((List D109) × Int) ⊕ (Bool)) spec_l1Kids_L0 FUEL (x0, 0)).bind fun o => match o with | Sum.inl z1 => (some true) | Sum.inr r => some r
noncomputable def S_spec_l1Kids : CSpec := ⟨[(0, .v false [.val (.sl T109)])], [(0, .v false [.val .bool])], spec_l1Kids⟩
def ann_spec_l1Kids : List (Nat × List (Nat × SSh)) := [(0, [(0, .v false [.val (.sl T109)]), (3, .v false [.val (.int .i64)])])]
theorem g_spec_l1Kids : Go.Vx.Good Try.prog 107 S_spec_l1Kids := good_of ctx (l := [(40, S_spec_l1Id), (49, S_spec_TreeWord)]) (ann := ann_spec_l1Kids) (md := []) (f := Try.f107) ⟨g_spec_l1Id, g_spec_TreeWord, trivial⟩ Try.func107 (by kernel_rfl) (fun x => by kernel_rfl)

/- spec.l1Obj -/
noncomputable def spec_l1Obj (x0 : D62) : Option (Bool) :=
  cond (decide (x0.2.1 < 0)) (some false) (cond (decide (x0.2.1 > 1000000)) (some false) (cond (x0.1 == 0) (cond (ByteArray.toList x0.2.2.1 == ByteArray.toList (⟨#[]⟩ : ByteArray)) (some ((List.length x0.2.2.2.1 : Int) == 0)) (some false)) (cond (x0.1 == 1) ((spec_TreeBody x0.2.2.1).bind fun r1 => cond r1 (cond ((List.length x0.2.2.2.1 : Int) == 0) (some (decide (x0.2.1 > 0))) (some false)) (some false)) (cond (x0.1 == 2) (cond (ByteArray.toList x0.2.2.1 == ByteArray.toList (⟨#[]⟩ : ByteArray)) ((spec_l1Kids x0.2.2.2.1).bind fun r2 => cond r2 (some (decide (x0.2.1 > 0))) (some false)) (some false)) (some false)))))
noncomputable def S_spec_l1Obj : CSpec := ⟨[(0, .v true [.val T62])], [(0, .v false [.val .bool])], spec_l1Obj⟩
def ann_spec_l1Obj : List (Nat × List (Nat × SSh)) := []
theorem g_spec_l1Obj : Go.Vx.Good Try.prog 79 S_spec_l1Obj := good_of ctx (l := [(106, S_spec_TreeBody), (107, S_spec_l1Kids)]) (ann := ann_spec_l1Obj) (md := []) (f := Try.f79) ⟨g_spec_TreeBody, g_spec_l1Kids, trivial⟩ Try.func79 (by kernel_rfl) (fun x => by kernel_rfl)

/- spec.l1Homes -/
noncomputable def spec_l1Homes_L2 : (((List D62) × (List Int) × Int × Int) → Option ((((List D62) × (List Int) × Int × Int) ⊕ (((List D62) × (List Int) × Int) ⊕ ((List Int)))))) → ((List D62) × (List Int) × Int × Int) → Option ((((List D62) × (List Int) × Int × Int) ⊕ (((List D62) × (List Int) × Int) ⊕ ((List Int))))) := fun rec z => (idx z.1 z.2.2.1).bind fun y1 => cond (decide (z.2.2.2 < (List.length y1.2.2.2.1 : Int))) ((idx z.1 z.2.2.1).bind fun y2 => (idx y2.2.2.2.1 z.2.2.2).bind fun y3 => (idx z.1 z.2.2.1).bind fun y4 => (idx y4.2.2.2.1 z.2.2.2).bind fun y5 => cond (inb y5.2.1 (List.length z.2.1)) ((idx z.2.1 y5.2.1).bind fun y6 => cond (inb y3.2.1 (List.length z.2.1)) ((idx z.2.1 y3.2.1).bind fun y7 => rec (z.1, (List.set z.2.1 (Int.toNat y3.2.1) (IntKind.i64.wrap (y6 + 1))), z.2.2.1, (IntKind.i64.wrap (z.2.2.2 + 1)))) none) none) (some (Sum.inl (z.1, z.2.1, z.2.2.1, z.2.2.2)))
noncomputable def spec_l1Homes_L0 : (((List D62) × (List Int) × Int) → Option ((((List D62) × (List Int) × Int) ⊕ ((List Int))))) → ((List D62) × (List Int) × Int) → Option ((((List D62) × (List Int) × Int) ⊕ ((List Int)))) := fun rec z => cond (decide (z.2.2 < (List.length z.1 : Int))) ((@iter ((List D62) × (List Int) × Int × Int) (((List D62) × (List Int) × Int × Int) ⊕ (((List D62) × (List Int) × Int) ⊕ ((List Int)))) spec_l1Homes_L2 FUEL (z.1, z.2.1, z.2.2, 0)).bind fun o => match o with | Sum.inl z1 => (rec (z1.1, z1.2.1, (IntKind.i64.wrap (z1.2.2.1 + 1)))) | Sum.inr r => some r) (some (Sum.inl (z.1, z.2.1, z.2.2)))
noncomputable def spec_l1Homes (x0 : D28) : Option ((List Int)) :=
  cond (decide (0 ≤ 32) && decide (32 ≤ (LIM : Int))) ((@iter ((List D62) × (List Int) × Int) (((List D62) × (List Int) × Int) ⊕ ((List Int))) spec_l1Homes_L0 FUEL (x0.1, (List.replicate (Int.toNat 32) (0 : Int)), 0)).bind fun o => match o with | Sum.inl z1 => (some z1.2.1) | Sum.inr r => some r) none
noncomputable def S_spec_l1Homes : CSpec := ⟨[(0, .v true [.val T28])], [(0, .v false [.own 3 (.int .i64)])], spec_l1Homes⟩
def ann_spec_l1Homes : List (Nat × List (Nat × SSh)) := [(0, [(1, .ptr [.val (.sl T62)]), (3, .v false [.own 3 (.int .i64)]), (4, .v false [.val (.int .i64)])]), (2, [(1, .ptr [.val (.sl T62)]), (3, .v false [.own 3 (.int .i64)]), (4, .v false [.val (.int .i64)]), (5, .v false [.val (.int .i64)])])]
theorem g_spec_l1Homes : Go.Vx.Good Try.prog 80 S_spec_l1Homes := good_of ctx (l := []) (ann := ann_spec_l1Homes) (md := []) (f := Try.f80) trivial Try.func80 (by kernel_rfl) (fun x => by kernel_rfl)

/- spec.l1Home -/
noncomputable def spec_l1Home_L2 : ((Int × (List D62) × Int × Int) → Option (((Int × (List D62) × Int × Int) ⊕ ((Int × (List D62) × Int) ⊕ (Int))))) → (Int × (List D62) × Int × Int) → Option (((Int × (List D62) × Int × Int) ⊕ ((Int × (List D62) × Int) ⊕ (Int)))) := fun rec z => (idx z.2.1 z.2.2.1).bind fun y1 => cond (decide (z.2.2.2 < (List.length y1.2.2.2.1 : Int))) ((idx z.2.1 z.2.2.1).bind fun y2 => (idx y2.2.2.2.1 z.2.2.2).bind fun y3 => cond (y3.2.1 == z.1) (Option.map Sum.inr (Option.map Sum.inr (some z.2.2.1))) (rec (z.1, z.2.1, z.2.2.1, (IntKind.i64.wrap (z.2.2.2 + 1))))) (some (Sum.inl (z.1, z.2.1, z.2.2.1, z.2.2.2)))
noncomputable def spec_l1Home_L0 : ((Int × (List D62) × Int) → Option (((Int × (List D62) × Int) ⊕ (Int)))) → (Int × (List D62) × Int) → Option (((Int × (List D62) × Int) ⊕ (Int))) := fun rec z => cond (decide (z.2.2 < (List.length z.2.1 : Int))) ((@iter (Int × (List D62) × Int × Int) ((Int × (List D62) × Int × Int) ⊕ ((Int × (List D62) × Int) ⊕ (Int))) spec_l1Home_L2 FUEL (z.1, z.2.1, z.2.2, 0)).bind fun o => match o with | Sum.inl z1 => (rec (z1.1, z1.2.1, (IntKind.i64.wrap (z1.2.2.1 + 1)))) | Sum.inr r => some r) (some (Sum.inl (z.1, z.2.1, z.2.2)))
noncomputable def spec_l1Home (x0 : D28) (x1 : Int) : Option (Int) :=
  (@iter (Int × (List D62) × Int) ((Int × (List D62) × Int) ⊕ (Int)) spec_l1Home_L0 FUEL (x1, x0.1, 0)).bind fun o => match o with | Sum.inl z1 => (some (-1)) | Sum.inr r => some r
noncomputable def S_spec_l1Home : CSpec := ⟨[(0, .v true [.val T28]), (1, .v false [.val (.int .i64)])], [(0, .v false [.val (.int .i64)])], spec_l1Home⟩
def ann_spec_l1Home : List (Nat × List (Nat × SSh)) := [(0, [(1, .v false [.val (.int .i64)]), (2, .ptr [.val (.sl T62)]), (5, .v false [.val (.int .i64)])]), (2, [(1, .v false [.val (.int .i64)]), (2, .ptr [.val (.sl T62)]), (5, .v false [.val (.int .i64)]), (6, .v false [.val (.int .i64)])])]
theorem g_spec_l1Home : Go.Vx.Good Try.prog 47 S_spec_l1Home := good_of ctx (l := []) (ann := ann_spec_l1Home) (md := []) (f := Try.f47) trivial Try.func47 (by kernel_rfl) (fun x => by kernel_rfl)

/- spec.l1Top -/
noncomputable def spec_l1Top_L0 : ((Int × (List D62) × Int) → Option (((Int × (List D62) × Int) ⊕ (Bool)))) → (Int × (List D62) × Int) → Option (((Int × (List D62) × Int) ⊕ (Bool))) := fun rec z => cond (decide (z.2.2 < 32)) (cond (decide (z.1 > 0)) ((spec_l1Home (z.2.1, ()) z.1).bind fun r1 => rec (r1, z.2.1, (IntKind.i64.wrap (z.2.2 + 1)))) (some (Sum.inl (z.1, z.2.1, z.2.2)))) (some (Sum.inl (z.1, z.2.1, z.2.2)))
noncomputable def spec_l1Top (x0 : D28) (x1 : Int) : Option (Bool) :=
  (@iter (Int × (List D62) × Int) ((Int × (List D62) × Int) ⊕ (Bool)) spec_l1Top_L0 FUEL (x1, x0.1, 0)).bind fun o => match o with | Sum.inl z1 => (some (z1.1 == 0)) | Sum.inr r => some r
noncomputable def S_spec_l1Top : CSpec := ⟨[(0, .v true [.val T28]), (1, .v false [.val (.int .i64)])], [(0, .v false [.val .bool])], spec_l1Top⟩
def ann_spec_l1Top : List (Nat × List (Nat × SSh)) := [(0, [(1, .v false [.val (.int .i64)]), (2, .ptr [.val (.sl T62)]), (5, .v false [.val (.int .i64)])])]
theorem g_spec_l1Top : Go.Vx.Good Try.prog 81 S_spec_l1Top := good_of ctx (l := [(47, S_spec_l1Home)]) (ann := ann_spec_l1Top) (md := []) (f := Try.f81) ⟨g_spec_l1Home, trivial⟩ Try.func81 (by kernel_rfl) (fun x => by kernel_rfl)

/- spec.TreeOk -/
noncomputable def spec_TreeOk_L0 : (((List D62) × Int) → Option ((((List D62) × Int) ⊕ (Bool)))) → ((List D62) × Int) → Option ((((List D62) × Int) ⊕ (Bool))) := fun rec z => cond (decide (z.2 < (List.length z.1 : Int))) ((idx z.1 z.2).bind fun y1 => (spec_l1Obj y1).bind fun r2 => cond (!r2) (Option.map Sum.inr (some false)) (rec (z.1, (IntKind.i64.wrap (z.2 + 1))))) (some (Sum.inl (z.1, z.2)))
noncomputable def spec_TreeOk_L2 : (((List D62) × (List Int) × Int) → Option ((((List D62) × (List Int) × Int) ⊕ (Bool)))) → ((List D62) × (List Int) × Int) → Option ((((List D62) × (List Int) × Int) ⊕ (Bool))) := fun rec z => cond (decide (z.2.2 < (List.length z.1 : Int))) ((idx z.1 z.2.2).bind fun y1 => cond (!(y1.1 == 0)) (cond (inb z.2.2 (List.length z.2.1)) ((idx z.2.1 z.2.2).bind fun y2 => cond (!(y2 == 1)) (Option.map Sum.inr (some false)) (cond (!(!(y1.1 == 0))) (cond (inb z.2.2 (List.length z.2.1)) ((idx z.2.1 z.2.2).bind fun y3 => cond (!(y3 == 0)) (Option.map Sum.inr (some false)) (cond (!(y1.1 == 0)) ((spec_l1Top (z.1, ()) z.2.2).bind fun r4 => cond (!r4) (Option.map Sum.inr (some false)) (rec (z.1, z.2.1, (IntKind.i64.wrap (z.2.2 + 1))))) (rec (z.1, z.2.1, (IntKind.i64.wrap (z.2.2 + 1)))))) none) (cond (!(y1.1 == 0)) ((spec_l1Top (z.1, ()) z.2.2).bind fun r5 => cond (!r5) (Option.map Sum.inr (some false)) (rec (z.1, z.2.1, (IntKind.i64.wrap (z.2.2 + 1))))) (rec (z.1, z.2.1, (IntKind.i64.wrap (z.2.2 + 1))))))) none) (cond (!(!(y1.1 == 0))) (cond (inb z.2.2 (List.length z.2.1)) ((idx z.2.1 z.2.2).bind fun y6 => cond (!(y6 == 0)) (Option.map Sum.inr (some false)) (cond (!(y1.1 == 0)) ((spec_l1Top (z.1, ()) z.2.2).bind fun r7 => cond (!r7) (Option.map Sum.inr (some false)) (rec (z.1, z.2.1, (IntKind.i64.wrap (z.2.2 + 1))))) (rec (z.1, z.2.1, (IntKind.i64.wrap (z.2.2 + 1)))))) none) (cond (!(y1.1 == 0)) ((spec_l1Top (z.1, ()) z.2.2).bind fun r8 => cond (!r8) (Option.map Sum.inr (some false)) (rec (z.1, z.2.1, (IntKind.i64.wrap (z.2.2 + 1))))) (rec (z.1, z.2.1, (IntKind.i64.wrap (z.2.2 + 1))))))) (some (Sum.inl (z.1, z.2.1, z.2.2)))
noncomputable def spec_TreeOk (x0 : D28) : Option (Bool) :=
  cond (!((List.length x0.1 : Int) == 32)) (some false) ((idx x0.1 0).bind fun y1 => cond (!(y1.1 == 2)) (some false) ((@iter ((List D62) × Int) (((List D62) × Int) ⊕ (Bool)) spec_TreeOk_L0 FUEL (x0.1, 0)).bind fun o => match o with | Sum.inl z2 => ((spec_l1Homes (z2.1, ())).bind fun r3 => (@iter ((List D62) × (List Int) × Int) (((List D62) × (List Int) × Int) ⊕ (Bool)) spec_TreeOk_L2 FUEL (z2.1, r3, 1)).bind fun o => match o with | Sum.inl z4 => (some true) | Sum.inr r => some r) | Sum.inr r => some r))
noncomputable def S_spec_TreeOk : CSpec := ⟨[(0, .v true [.val T28])], [(0, .v false [.val .bool])], spec_TreeOk⟩
def ann_spec_TreeOk : List (Nat × List (Nat × SSh)) := [(0, [(1, .ptr [.val (.sl T62)]), (3, .v false [.val (.int .i64)])]), (2, [(1, .ptr [.val (.sl T62)]), (4, .v false [.own 3 (.int .i64)]), (5, .v false [.val (.int .i64)])])]
theorem g_spec_TreeOk : Go.Vx.Good Try.prog 39 S_spec_TreeOk := good_of ctx (l := [(79, S_spec_l1Obj), (80, S_spec_l1Homes), (81, S_spec_l1Top)]) (ann := ann_spec_TreeOk) (md := []) (f := Try.f39) ⟨g_spec_l1Obj, g_spec_l1Homes, g_spec_l1Top, trivial⟩ Try.func39 (by kernel_rfl) (fun x => by kernel_rfl)

/- spec.l13From -/
noncomputable def spec_l13From_L0 (self : (D28) → (Int) → Option ((List Int))) : (((List D62) × (List Int) × (List D109) × Int) → Option ((((List D62) × (List Int) × (List D109) × Int) ⊕ ((List Int))))) → ((List D62) × (List Int) × (List D109) × Int) → Option ((((List D62) × (List Int) × (List D109) × Int) ⊕ ((List Int)))) := fun rec z => cond (decide (z.2.2.2 < (List.length z.2.2.1 : Int))) ((idx z.2.2.1 z.2.2.2).bind fun y1 => (self (z.1, ()) y1.2.1).bind fun r2 => cond (decide (List.length z.2.1 + List.length r2 ≤ LIM)) (rec (z.1, (z.2.1 ++ r2), z.2.2.1, (IntKind.i64.wrap (z.2.2.2 + 1)))) none) (some (Sum.inl (z.1, z.2.1, z.2.2.1, z.2.2.2)))
noncomputable def spec_l13From : Nat → (D28) → (Int) → Option ((List Int))
  | 0, _, _ => none
  | n + 1, x0, x1 => (idx x0.1 x1).bind fun y1 => (@iter ((List D62) × (List Int) × (List D109) × Int) (((List D62) × (List Int) × (List D109) × Int) ⊕ ((List Int))) (spec_l13From_L0 (spec_l13From n)) FUEL (x0.1, ([x1] : List Int), y1.2.2.2.1, 0)).bind fun o => match o with | Sum.inl z2 => (some z2.2.1) | Sum.inr r => some r
noncomputable def S_spec_l13From (n : Nat) : CSpec := ⟨[(0, .v true [.val T28]), (1, .v false [.val (.int .i64)])], [(0, .v false [.own 3 (.int .i64)])], spec_l13From n⟩
def ann_spec_l13From : List (Nat × List (Nat × SSh)) := [(0, [(2, .ptr [.val (.sl T62)]), (5, .v false [.own 3 (.int .i64)]), (6, .v false [.val (.sl T109)]), (7, .v false [.val (.int .i64)])])]
theorem g_spec_l13From : ∀ n, Go.Vx.Good Try.prog 41 (S_spec_l13From n)
  | 0 => good_none (f := Try.f41) Try.func41 (by kernel_rfl) (fun x => by kernel_rfl)
  | n + 1 => good_of ctx (l := [(41, S_spec_l13From n)]) (ann := ann_spec_l13From) (md := []) (f := Try.f41) ⟨g_spec_l13From n, trivial⟩ Try.func41 (by kernel_rfl) (fun x => by kernel_rfl)

/- spec.WalkMany -/
noncomputable def spec_WalkMany (x0 : D28) (x1 : Int) : Option (Int) :=
  (spec_TreeOk x0).bind fun r1 => cond (!r1) (some 0) ((spec_l1Id x1).bind fun r2 => cond (!r2) (some 0) ((idx x0.1 x1).bind fun y3 => cond (y3.1 == 0) (some 0) ((spec_l13From RF x0 x1).bind fun r4 => some (List.length r4 : Int))))
noncomputable def S_spec_WalkMany : CSpec := ⟨[(0, .v true [.val T28]), (1, .v false [.val (.int .i64)])], [(0, .v false [.val (.int .i64)])], spec_WalkMany⟩
def ann_spec_WalkMany : List (Nat × List (Nat × SSh)) := []
theorem g_spec_WalkMany : Go.Vx.Good Try.prog 10 S_spec_WalkMany := good_of ctx (l := [(39, S_spec_TreeOk), (40, S_spec_l1Id), (41, S_spec_l13From RF)]) (ann := ann_spec_WalkMany) (md := []) (f := Try.f10) ⟨g_spec_TreeOk, g_spec_l1Id, g_spec_l13From RF, trivial⟩ Try.func10 (by kernel_rfl) (fun x => by kernel_rfl)

/- laws.toEnt -/
noncomputable def laws_toEnt (x0 : D109) : Option (D109) :=
  some x0
noncomputable def S_laws_toEnt : CSpec := ⟨[(0, .v true [.val T109])], [(0, .v true [.val T109])], laws_toEnt⟩
def ann_laws_toEnt : List (Nat × List (Nat × SSh)) := []
theorem g_laws_toEnt : Go.Vx.Good Try.prog 131 S_laws_toEnt := good_of ctx (l := []) (ann := ann_laws_toEnt) (md := []) (f := Try.f131) trivial Try.func131 (by kernel_rfl) (fun x => by kernel_rfl)

/- laws.toEntS -/
noncomputable def laws_toEntS_L0 : (((List D109) × (List D109) × Int) → Option ((((List D109) × (List D109) × Int) ⊕ ((List D109))))) → ((List D109) × (List D109) × Int) → Option ((((List D109) × (List D109) × Int) ⊕ ((List D109)))) := fun rec z => cond (decide (z.2.2 < (List.length z.1 : Int))) ((idx z.1 z.2.2).bind fun y1 => (laws_toEnt y1).bind fun r2 => cond (inb z.2.2 (List.length z.2.1)) ((idx z.2.1 z.2.2).bind fun y3 => rec (z.1, (List.set z.2.1 (Int.toNat z.2.2) r2), (IntKind.i64.wrap (z.2.2 + 1)))) none) (some (Sum.inl (z.1, z.2.1, z.2.2)))
noncomputable def laws_toEntS (x0 : (List D109)) : Option ((List D109)) :=
  cond (decide (0 ≤ (List.length x0 : Int)) && decide ((List.length x0 : Int) ≤ (LIM : Int))) ((@iter ((List D109) × (List D109) × Int) (((List D109) × (List D109) × Int) ⊕ ((List D109))) laws_toEntS_L0 FUEL (x0, (List.replicate (Int.toNat (List.length x0 : Int)) (((⟨#[]⟩ : ByteArray), 0, ()) : D109)), 0)).bind fun o => match o with | Sum.inl z1 => (some z1.2.1) | Sum.inr r => some r) none
noncomputable def S_laws_toEntS : CSpec := ⟨[(0, .v false [.val (.sl T109)])], [(0, .v false [.own 110 T109])], laws_toEntS⟩
def ann_laws_toEntS : List (Nat × List (Nat × SSh)) := [(0, [(0, .v false [.val (.sl T109)]), (3, .v false [.own 110 T109]), (4, .v false [.val (.int .i64)])])]
theorem g_laws_toEntS : Go.Vx.Good Try.prog 108 S_laws_toEntS := good_of ctx (l := [(131, S_laws_toEnt)]) (ann := ann_laws_toEntS) (md := []) (f := Try.f108) ⟨g_laws_toEnt, trivial⟩ Try.func108 (by kernel_rfl) (fun x => by kernel_rfl)

/- laws.toObj -/
noncomputable def laws_toObj (x0 : D106) : Option (Int × Int × ByteArray × (List D109)) :=
  (laws_toEntS x0.2.2.2.1).bind fun r1 => some (x0.1, x0.2.1, x0.2.2.1, r1)
noncomputable def S_laws_toObj : CSpec := ⟨[(0, .v true [.val T106])], [(0, .v true [.val (.int .i64), .val (.int .i64), .val .str, .own 110 T109])], laws_toObj⟩
def ann_laws_toObj : List (Nat × List (Nat × SSh)) := []
theorem g_laws_toObj : Go.Vx.Good Try.prog 82 S_laws_toObj := good_of ctx (l := [(108, S_laws_toEntS)]) (ann := ann_laws_toObj) (md := []) (f := Try.f82) ⟨g_laws_toEntS, trivial⟩ Try.func82 (by kernel_rfl) (fun x => by kernel_rfl)

/- laws.toObjS -/
noncomputable def laws_toObjS_L0 : (((List D106) × (List D62) × Int) → Option ((((List D106) × (List D62) × Int) ⊕ ((List D62))))) → ((List D106) × (List D62) × Int) → Option ((((List D106) × (List D62) × Int) ⊕ ((List D62)))) := fun rec z => cond (decide (z.2.2 < (List.length z.1 : Int))) ((idx z.1 z.2.2).bind fun y1 => (laws_toObj y1).bind fun r2 => cond (inb z.2.2 (List.length z.2.1)) ((idx z.2.1 z.2.2).bind fun y3 => rec (z.1, (List.set z.2.1 (Int.toNat z.2.2) (r2.1, r2.2.1, r2.2.2.1, r2.2.2.2, ())), (IntKind.i64.wrap (z.2.2 + 1)))) none) (some (Sum.inl (z.1, z.2.1, z.2.2)))
noncomputable def laws_toObjS (x0 : (List D106)) : Option ((List D62)) :=
  cond (decide (0 ≤ (List.length x0 : Int)) && decide ((List.length x0 : Int) ≤ (LIM : Int))) ((@iter ((List D106) × (List D62) × Int) (((List D106) × (List D62) × Int) ⊕ ((List D62))) laws_toObjS_L0 FUEL (x0, (List.replicate (Int.toNat (List.length x0 : Int)) ((0, 0, (⟨#[]⟩ : ByteArray), [], ()) : D62)), 0)).bind fun o => match o with | Sum.inl z1 => (some z1.2.1) | Sum.inr r => some r) none
noncomputable def S_laws_toObjS : CSpec := ⟨[(0, .v false [.val (.sl T106)])], [(0, .v false [.dp false 63 E63])], laws_toObjS⟩
def md_laws_toObjS : List (Nat × Md) := [(7, ⟨[], .deep E63, []⟩)]
def ann_laws_toObjS : List (Nat × List (Nat × SSh)) := [(0, [(0, .v false [.val (.sl T106)]), (3, .v false [.dp false 63 E63]), (4, .v false [.val (.int .i64)])])]
theorem g_laws_toObjS : Go.Vx.Good Try.prog 42 S_laws_toObjS := good_of ctx (l := [(82, S_laws_toObj)]) (ann := ann_laws_toObjS) (md := md_laws_toObjS) (f := Try.f42) ⟨g_laws_toObj, trivial⟩ Try.func42 (by kernel_rfl) (fun x => by kernel_rfl)

/- laws.toTree -/
noncomputable def laws_toTree (x0 : D23) : Option ((List D62)) :=
  (laws_toObjS x0.1).bind fun r1 => some r1
noncomputable def S_laws_toTree : CSpec := ⟨[(0, .v true [.val T23])], [(0, .v true [.dp false 63 E63])], laws_toTree⟩
def ann_laws_toTree : List (Nat × List (Nat × SSh)) := []
theorem g_laws_toTree : Go.Vx.Good Try.prog 11 S_laws_toTree := good_of ctx (l := [(42, S_laws_toObjS)]) (ann := ann_laws_toTree) (md := []) (f := Try.f11) ⟨g_laws_toObjS, trivial⟩ Try.func11 (by kernel_rfl) (fun x => by kernel_rfl)

/- impl.walk -/
noncomputable def impl_walk_L0 (self : (D28) → (Int) → ((List Int)) → (Int) → Option ((List Int))) : (((List Int) × Int × (List D62) × (List D109) × Int × Int) → Option ((((List Int) × Int × (List D62) × (List D109) × Int × Int) ⊕ ((List Int))))) → ((List Int) × Int × (List D62) × (List D109) × Int × Int) → Option ((((List Int) × Int × (List D62) × (List D109) × Int × Int) ⊕ ((List Int)))) := fun rec z => cond (decide (z.2.2.2.2.2 < z.2.2.2.2.1)) ((idx z.2.2.2.1 z.2.2.2.2.2).bind fun y1 => (self (z.2.2.1, ()) y1.2.1 z.1 (IntKind.i64.wrap (z.2.1 + 1))).bind fun r2 => rec (r2, z.2.1, z.2.2.1, z.2.2.2.1, z.2.2.2.2.1, (IntKind.i64.wrap (z.2.2.2.2.2 + 1)))) (some (Sum.inl (z.1, z.2.1, z.2.2.1, z.2.2.2.1, z.2.2.2.2.1, z.2.2.2.2.2)))
noncomputable def impl_walk : Nat → (D28) → (Int) → ((List Int)) → (Int) → Option ((List Int))
  | 0, _, _, _, _ => none
  | n + 1, x0, x1, x2, x3 => cond (decide (List.length x2 + List.length ([x1] : List Int) ≤ LIM)) (cond (decide (x3 > 32)) (some (x2 ++ ([x1] : List Int))) ((idx x0.1 x1).bind fun y1 => (@iter ((List Int) × Int × (List D62) × (List D109) × Int × Int) (((List Int) × Int × (List D62) × (List D109) × Int × Int) ⊕ ((List Int))) (impl_walk_L0 (impl_walk n)) FUEL ((x2 ++ ([x1] : List Int)), x3, x0.1, y1.2.2.2.1, (List.length y1.2.2.2.1 : Int), 0)).bind fun o => match o with | Sum.inl z2 => (some z2.1) | Sum.inr r => some r)) none
noncomputable def S_impl_walk (n : Nat) : CSpec := ⟨[(0, .v true [.val T28]), (1, .v false [.val (.int .i64)]), (2, .v false [.own 3 (.int .i64)]), (3, .v false [.val (.int .i64)])], [(0, .v false [.own 3 (.int .i64)])], impl_walk n⟩
def ann_impl_walk : List (Nat × List (Nat × SSh)) := [(0, [(2, .v false [.own 3 (.int .i64)]), (3, .v false [.val (.int .i64)]), (4, .ptr [.val (.sl T62)]), (23, .v false [.val (.sl T109)]), (24, .v false [.val (.int .i64)]), (25, .v false [.val (.int .i64)])])]
theorem g_impl_walk : ∀ n, Go.Vx.Good Try.prog 45 (S_impl_walk n)
  | 0 => good_none (f := Try.f45) Try.func45 (by kernel_rfl) (fun x => by kernel_rfl)
  | n + 1 => good_of ctx (l := [(45, S_impl_walk n)]) (ann := ann_impl_walk) (md := []) (f := Try.f45) ⟨g_impl_walk n, trivial⟩ Try.func45 (by kernel_rfl) (fun x => by kernel_rfl)

/- impl.in -/
noncomputable def impl_in (x0 : Int) (x1 : Int) (x2 : Int) : Option (Bool) :=
  cond (decide (x0 ≥ x1)) (some (decide (x0 ≤ x2))) (some false)
noncomputable def S_impl_in : CSpec := ⟨[(0, .v false [.val (.int .i64)]), (1, .v false [.val (.int .i64)]), (2, .v false [.val (.int .i64)])], [(0, .v false [.val .bool])], impl_in⟩
def ann_impl_in : List (Nat × List (Nat × SSh)) := []
theorem g_impl_in : Go.Vx.Good Try.prog 51 S_impl_in := good_of ctx (l := []) (ann := ann_impl_in) (md := []) (f := Try.f51) trivial Try.func51 (by kernel_rfl) (fun x => by kernel_rfl)

/- impl.TreeWord -/
noncomputable def impl_TreeWord_L0 : ((ByteArray × Int) → Option (((ByteArray × Int) ⊕ (Bool)))) → (ByteArray × Int) → Option (((ByteArray × Int) ⊕ (Bool))) := fun rec z => cond (decide (z.2 < (ByteArray.size z.1 : Int))) ((idxB z.1 z.2).bind fun y1 => (impl_in (IntKind.i64.wrap y1) 97 122).bind fun r2 => cond (!r2) (Option.map Sum.inr (some false)) (rec (z.1, (IntKind.i64.wrap (z.2 + 1))))) (some (Sum.inl (z.1, z.2)))
noncomputable def impl_TreeWord (x0 : ByteArray) : Option (Bool) :=
  (@iter (ByteArray × Int) ((ByteArray × Int) ⊕ (Bool)) impl_TreeWord_L0 FUEL (x0, 0)).bind fun o => match o with | Sum.inl z1 => ((impl_in (ByteArray.size z1.1 : Int) 1 4).bind fun r2 => some r2) | Sum.inr r => some r
noncomputable def S_impl_TreeWord : CSpec := ⟨[(0, .v false [.val .str])], [(0, .v false [.val .bool])], impl_TreeWord⟩
def ann_impl_TreeWord : List (Nat × List (Nat × SSh)) := [(0, [(0, .v false [.val .str]), (3, .v false [.val (.int .i64)])])]
theorem g_impl_TreeWord : Go.Vx.Good Try.prog 52 S_impl_TreeWord := good_of ctx (l := [(51, S_impl_in)]) (ann := ann_impl_TreeWord) (md := []) (f := Try.f52) ⟨g_impl_in, trivial⟩ Try.func52 (by kernel_rfl) (fun x => by kernel_rfl)

/- impl.TreeBody -/
noncomputable def impl_TreeBody_L0 : ((ByteArray × Int) → Option (((ByteArray × Int) ⊕ (Bool)))) → (ByteArray × Int) → Option (((ByteArray × Int) ⊕ (Bool))) := fun rec z => cond (decide (z.2 < (ByteArray.size z.1 : Int))) ((idxB z.1 z.2).bind fun y1 => (impl_in (IntKind.i64.wrap y1) 97 122).bind fun r2 => cond (!r2) ((idxB z.1 z.2).bind fun y3 => (impl_in (IntKind.i64.wrap y3) 48 57).bind fun r4 => cond (!r4) (Option.map Sum.inr (some false)) (rec (z.1, (IntKind.i64.wrap (z.2 + 1))))) (rec (z.1, (IntKind.i64.wrap (z.2 + 1))))) (some (Sum.inl (z.1, z.2)))
noncomputable def impl_TreeBody (x0 : ByteArray) : Option (Bool) :=
  (@iter (ByteArray × Int) ((ByteArray × Int) ⊕ (Bool)) impl_TreeBody_L0 FUEL (x0, 0)).bind fun o => match o with | Sum.inl z1 => (some (decide ((ByteArray.size z1.1 : Int) ≤ 12))) | Sum.inr r => some r
noncomputable def S_impl_TreeBody : CSpec := ⟨[(0, .v false [.val .str])], [(0, .v false [.val .bool])], impl_TreeBody⟩
def ann_impl_TreeBody : List (Nat × List (Nat × SSh)) := [(0, [(0, .v false [.val .str]), (3, .v false [.val (.int .i64)])])]
theorem g_impl_TreeBody : Go.Vx.Good Try.prog 109 S_impl_TreeBody := good_of ctx (l := [(51, S_impl_in)]) (ann := ann_impl_TreeBody) (md := []) (f := Try.f109) ⟨g_impl_in, trivial⟩ Try.func109 (by kernel_rfl) (fun x => by kernel_rfl)

/- impl.objOk -/
noncomputable def impl_objOk_L1 : ((Int × Int × ByteArray × (List D109) × (List D109) × Int × Int) → Option (((Int × Int × ByteArray × (List D109) × (List D109) × Int × Int) ⊕ (Bool)))) → (Int × Int × ByteArray × (List D109) × (List D109) × Int × Int) → Option (((Int × Int × ByteArray × (List D109) × (List D109) × Int × Int) ⊕ (Bool))) := fun rec z => cond (decide (z.2.2.2.2.2.2 < z.2.2.2.2.2.1)) ((idx z.2.2.2.2.1 z.2.2.2.2.2.2).bind fun y1 => (impl_TreeWord y1.1).bind fun r2 => cond (!r2) (Option.map Sum.inr (some false)) (cond (decide (z.2.2.2.2.2.2 > 0)) ((idx z.2.2.2.1 (IntKind.i64.wrap (z.2.2.2.2.2.2 - 1))).bind fun y3 => cond (!(Op.bytesLess (ByteArray.toList y3.1) (ByteArray.toList y1.1))) (Option.map Sum.inr (some false)) ((impl_in y1.2.1 1 31).bind fun r4 => cond (!r4) (Option.map Sum.inr (some false)) (rec (z.1, z.2.1, z.2.2.1, z.2.2.2.1, z.2.2.2.2.1, z.2.2.2.2.2.1, (IntKind.i64.wrap (z.2.2.2.2.2.2 + 1)))))) ((impl_in y1.2.1 1 31).bind fun r5 => cond (!r5) (Option.map Sum.inr (some false)) (rec (z.1, z.2.1, z.2.2.1, z.2.2.2.1, z.2.2.2.2.1, z.2.2.2.2.2.1, (IntKind.i64.wrap (z.2.2.2.2.2.2 + 1))))))) (some (Sum.inl (z.1, z.2.1, z.2.2.1, z.2.2.2.1, z.2.2.2.2.1, z.2.2.2.2.2.1, z.2.2.2.2.2.2)))
noncomputable def impl_objOk (x0 : D62) : Option (Bool) :=
  (impl_in x0.2.1 0 1000000).bind fun r1 => cond (!r1) (some false) (cond (x0.1 == 0) (cond (ByteArray.toList x0.2.2.1 == ByteArray.toList (⟨#[]⟩ : ByteArray)) (some ((List.length x0.2.2.2.1 : Int) == 0)) (some false)) (cond (x0.1 == 1) (cond (decide (x0.2.1 > 0)) ((impl_TreeBody x0.2.2.1).bind fun r2 => cond r2 (some ((List.length x0.2.2.2.1 : Int) == 0)) (some false)) (some false)) (cond (x0.1 == 2) ((@iter (Int × Int × ByteArray × (List D109) × (List D109) × Int × Int) ((Int × Int × ByteArray × (List D109) × (List D109) × Int × Int) ⊕ (Bool)) impl_objOk_L1 FUEL (x0.1, x0.2.1, x0.2.2.1, x0.2.2.2.1, x0.2.2.2.1, (List.length x0.2.2.2.1 : Int), 0)).bind fun o => match o with | Sum.inl z3 => (cond (decide (z3.2.1 > 0)) (some (ByteArray.toList z3.2.2.1 == ByteArray.toList (⟨#[]⟩ : ByteArray))) (some false)) | Sum.inr r => some r) (some false))))
noncomputable def S_impl_objOk : CSpec := ⟨[(0, .v true [.val T62])], [(0, .v false [.val .bool])], impl_objOk⟩
def ann_impl_objOk : List (Nat × List (Nat × SSh)) := [(1, [(1, .ptr [.val (.int .i64), .val (.int .i64), .val .str, .val (.sl T109)]), (41, .v false [.val (.sl T109)]), (42, .v false [.val (.int .i64)]), (43, .v false [.val (.int .i64)])])]
theorem g_impl_objOk : Go.Vx.Good Try.prog 83 S_impl_objOk := good_of ctx (l := [(51, S_impl_in), (52, S_impl_TreeWord), (109, S_impl_TreeBody)]) (ann := ann_impl_objOk) (md := []) (f := Try.f83) ⟨g_impl_in, g_impl_TreeWord, g_impl_TreeBody, trivial⟩ Try.func83 (by kernel_rfl) (fun x => by kernel_rfl)

/- impl.TreeOk -/
noncomputable def impl_TreeOk_L2 : (((List D62) × (List Int) × (List D62) × Int × Int × (List D109) × Int × Int) → Option ((((List D62) × (List Int) × (List D62) × Int × Int × (List D109) × Int × Int) ⊕ (((List D62) × (List Int) × (List D62) × Int × Int) ⊕ (Bool))))) → ((List D62) × (List Int) × (List D62) × Int × Int × (List D109) × Int × Int) → Option ((((List D62) × (List Int) × (List D62) × Int × Int × (List D109) × Int × Int) ⊕ (((List D62) × (List Int) × (List D62) × Int × Int) ⊕ (Bool)))) := fun rec z => cond (decide (z.2.2.2.2.2.2.2 < z.2.2.2.2.2.2.1)) ((idx z.2.2.2.2.2.1 z.2.2.2.2.2.2.2).bind fun y1 => cond (inb y1.2.1 32) ((idx z.2.1 y1.2.1).bind fun y2 => cond (inb y1.2.1 32) (cond (inb y1.2.1 (List.length z.2.1)) (rec (z.1, (List.set z.2.1 (Int.toNat y1.2.1) (IntKind.i64.wrap (y2 + 1))), z.2.2.1, z.2.2.2.1, z.2.2.2.2.1, z.2.2.2.2.2.1, z.2.2.2.2.2.2.1, (IntKind.i64.wrap (z.2.2.2.2.2.2.2 + 1)))) none) none) none) (some (Sum.inl (z.1, z.2.1, z.2.2.1, z.2.2.2.1, z.2.2.2.2.1, z.2.2.2.2.2.1, z.2.2.2.2.2.2.1, z.2.2.2.2.2.2.2)))
noncomputable def impl_TreeOk_L0 : (((List D62) × (List Int) × (List D62) × Int × Int) → Option ((((List D62) × (List Int) × (List D62) × Int × Int) ⊕ (Bool)))) → ((List D62) × (List Int) × (List D62) × Int × Int) → Option ((((List D62) × (List Int) × (List D62) × Int × Int) ⊕ (Bool))) := fun rec z => cond (decide (z.2.2.2.2 < z.2.2.2.1)) ((idx z.2.2.1 z.2.2.2.2).bind fun y1 => (impl_objOk y1).bind fun r2 => cond (!r2) (Option.map Sum.inr (some false)) ((@iter ((List D62) × (List Int) × (List D62) × Int × Int × (List D109) × Int × Int) (((List D62) × (List Int) × (List D62) × Int × Int × (List D109) × Int × Int) ⊕ (((List D62) × (List Int) × (List D62) × Int × Int) ⊕ (Bool))) impl_TreeOk_L2 FUEL (z.1, z.2.1, z.2.2.1, z.2.2.2.1, z.2.2.2.2, y1.2.2.2.1, (List.length y1.2.2.2.1 : Int), 0)).bind fun o => match o with | Sum.inl z3 => (rec (z3.1, z3.2.1, z3.2.2.1, z3.2.2.2.1, (IntKind.i64.wrap (z3.2.2.2.2.1 + 1)))) | Sum.inr r => some r)) (some (Sum.inl (z.1, z.2.1, z.2.2.1, z.2.2.2.1, z.2.2.2.2)))
noncomputable def impl_TreeOk_L4 : (((List D62) × (List Int) × (List D62) × Int × Int) → Option ((((List D62) × (List Int) × (List D62) × Int × Int) ⊕ (Bool)))) → ((List D62) × (List Int) × (List D62) × Int × Int) → Option ((((List D62) × (List Int) × (List D62) × Int × Int) ⊕ (Bool))) := fun rec z => cond (decide (z.2.2.2.2 < z.2.2.2.1)) ((idx z.2.2.1 z.2.2.2.2).bind fun y1 => cond (z.2.2.2.2 == 0) (cond (inb z.2.2.2.2 32) ((idx z.2.1 z.2.2.2.2).bind fun y2 => cond (!(y2 == 0)) (Option.map Sum.inr (some false)) (rec (z.1, z.2.1, z.2.2.1, z.2.2.2.1, (IntKind.i64.wrap (z.2.2.2.2 + 1))))) none) (cond (y1.1 == 0) (cond (inb z.2.2.2.2 32) ((idx z.2.1 z.2.2.2.2).bind fun y3 => cond (!(y3 == 0)) (Option.map Sum.inr (some false)) (rec (z.1, z.2.1, z.2.2.1, z.2.2.2.1, (IntKind.i64.wrap (z.2.2.2.2 + 1))))) none) (cond (inb z.2.2.2.2 32) ((idx z.2.1 z.2.2.2.2).bind fun y4 => cond (!(y4 == 1)) (Option.map Sum.inr (some false)) (rec (z.1, z.2.1, z.2.2.1, z.2.2.2.1, (IntKind.i64.wrap (z.2.2.2.2 + 1))))) none))) (some (Sum.inl (z.1, z.2.1, z.2.2.1, z.2.2.2.1, z.2.2.2.2)))
noncomputable def impl_TreeOk_L6 : (((List D62) × Int × (List D62) × Int × Int) → Option ((((List D62) × Int × (List D62) × Int × Int) ⊕ (Bool)))) → ((List D62) × Int × (List D62) × Int × Int) → Option ((((List D62) × Int × (List D62) × Int × Int) ⊕ (Bool))) := fun rec z => cond (decide (z.2.2.2.2 < z.2.2.2.1)) ((idx z.2.2.1 z.2.2.2.2).bind fun y1 => cond (!(y1.1 == 0)) (rec (z.1, (IntKind.i64.wrap (z.2.1 + 1)), z.2.2.1, z.2.2.2.1, (IntKind.i64.wrap (z.2.2.2.2 + 1)))) (rec (z.1, z.2.1, z.2.2.1, z.2.2.2.1, (IntKind.i64.wrap (z.2.2.2.2 + 1))))) (some (Sum.inl (z.1, z.2.1, z.2.2.1, z.2.2.2.1, z.2.2.2.2)))
noncomputable def impl_TreeOk (x0 : D28) : Option (Bool) :=
  cond (!((List.length x0.1 : Int) == 32)) (some false) ((idx x0.1 0).bind fun y1 => cond (!(y1.1 == 2)) (some false) ((@iter ((List D62) × (List Int) × (List D62) × Int × Int) (((List D62) × (List Int) × (List D62) × Int × Int) ⊕ (Bool)) impl_TreeOk_L0 FUEL (x0.1, (List.replicate 32 0), x0.1, (List.length x0.1 : Int), 0)).bind fun o => match o with | Sum.inl z2 => ((@iter ((List D62) × (List Int) × (List D62) × Int × Int) (((List D62) × (List Int) × (List D62) × Int × Int) ⊕ (Bool)) impl_TreeOk_L4 FUEL (z2.1, z2.2.1, z2.1, (List.length z2.1 : Int), 0)).bind fun o => match o with | Sum.inl z3 => ((@iter ((List D62) × Int × (List D62) × Int × Int) (((List D62) × Int × (List D62) × Int × Int) ⊕ (Bool)) impl_TreeOk_L6 FUEL (z3.1, 0, z3.1, (List.length z3.1 : Int), 0)).bind fun o => match o with | Sum.inl z4 => ((impl_walk RF (z4.1, ()) 0 ([] : List Int) 0).bind fun r5 => some ((List.length r5 : Int) == z4.2.1)) | Sum.inr r => some r) | Sum.inr r => some r) | Sum.inr r => some r))
noncomputable def S_impl_TreeOk : CSpec := ⟨[(0, .v true [.val T28])], [(0, .v false [.val .bool])], impl_TreeOk⟩
def ann_impl_TreeOk : List (Nat × List (Nat × SSh)) := [(0, [(1, .ptr [.val (.sl T62)]), (3, .ptr [.val (.arr 32 (.int .i64))]), (27, .v false [.val (.sl T62)]), (28, .v false [.val (.int .i64)]), (29, .v false [.val (.int .i64)])]), (2, [(1, .ptr [.val (.sl T62)]), (3, .ptr [.val (.arr 32 (.int .i64))]), (27, .v false [.val (.sl T62)]), (28, .v false [.val (.int .i64)]), (29, .v false [.val (.int .i64)]), (37, .v false [.val (.sl T109)]), (38, .v false [.val (.int .i64)]), (39, .v false [.val (.int .i64)])]), (4, [(1, .ptr [.val (.sl T62)]), (3, .ptr [.val (.arr 32 (.int .i64))]), (52, .v false [.val (.sl T62)]), (53, .v false [.val (.int .i64)]), (54, .v false [.val (.int .i64)])]), (6, [(1, .ptr [.val (.sl T62)]), (11, .v false [.val (.int .i64)]), (73, .v false [.val (.sl T62)]), (74, .v false [.val (.int .i64)]), (75, .v false [.val (.int .i64)])])]
theorem g_impl_TreeOk : Go.Vx.Good Try.prog 43 S_impl_TreeOk := good_of ctx (l := [(45, S_impl_walk RF), (83, S_impl_objOk)]) (ann := ann_impl_TreeOk) (md := []) (f := Try.f43) ⟨g_impl_walk RF, g_impl_objOk, trivial⟩ Try.func43 (by kernel_rfl) (fun x => by kernel_rfl)

/- impl.there -/
noncomputable def impl_there (x0 : D28) (x1 : Int) : Option (Bool) :=
  (impl_in x1 0 31).bind fun r1 => cond r1 ((idx x0.1 x1).bind fun y2 => some (!(y2.1 == 0))) (some false)
noncomputable def S_impl_there : CSpec := ⟨[(0, .v true [.val T28]), (1, .v false [.val (.int .i64)])], [(0, .v false [.val .bool])], impl_there⟩
def ann_impl_there : List (Nat × List (Nat × SSh)) := []
theorem g_impl_there : Go.Vx.Good Try.prog 44 S_impl_there := good_of ctx (l := [(51, S_impl_in)]) (ann := ann_impl_there) (md := []) (f := Try.f44) ⟨g_impl_in, trivial⟩ Try.func44 (by kernel_rfl) (fun x => by kernel_rfl)

/- impl.WalkMany -/
noncomputable def impl_WalkMany (x0 : D28) (x1 : Int) : Option (Int) :=
  (impl_TreeOk x0).bind fun r1 => cond (!r1) (some 0) ((impl_there x0 x1).bind fun r2 => cond (!r2) (some 0) ((impl_walk RF x0 x1 ([] : List Int) 0).bind fun r3 => some (List.length r3 : Int)))
noncomputable def S_impl_WalkMany : CSpec := ⟨[(0, .v true [.val T28]), (1, .v false [.val (.int .i64)])], [(0, .v false [.val (.int .i64)])], impl_WalkMany⟩
def ann_impl_WalkMany : List (Nat × List (Nat × SSh)) := []
theorem g_impl_WalkMany : Go.Vx.Good Try.prog 12 S_impl_WalkMany := good_of ctx (l := [(43, S_impl_TreeOk), (44, S_impl_there), (45, S_impl_walk RF)]) (ann := ann_impl_WalkMany) (md := []) (f := Try.f12) ⟨g_impl_TreeOk, g_impl_there, g_impl_walk RF, trivial⟩ Try.func12 (by kernel_rfl) (fun x => by kernel_rfl)

/- laws.eqEnt -/
noncomputable def laws_eqEnt (x0 : D109) (x1 : D109) : Option (Bool) :=
  cond (!(ByteArray.toList x0.1 == ByteArray.toList x1.1)) (some false) (cond (!(x0.2.1 == x1.2.1)) (some false) (some true))
noncomputable def S_laws_eqEnt : CSpec := ⟨[(0, .v true [.val T109]), (1, .v true [.val T109])], [(0, .v false [.val .bool])], laws_eqEnt⟩
def ann_laws_eqEnt : List (Nat × List (Nat × SSh)) := []
theorem g_laws_eqEnt : Go.Vx.Good Try.prog 132 S_laws_eqEnt := good_of ctx (l := []) (ann := ann_laws_eqEnt) (md := []) (f := Try.f132) trivial Try.func132 (by kernel_rfl) (fun x => by kernel_rfl)

/- laws.eqEntS -/
noncomputable def laws_eqEntS_L0 : (((List D109) × (List D109) × Int) → Option ((((List D109) × (List D109) × Int) ⊕ (Bool)))) → ((List D109) × (List D109) × Int) → Option ((((List D109) × (List D109) × Int) ⊕ (Bool))) := fun rec z => cond (decide (z.2.2 < (List.length z.1 : Int))) ((idx z.1 z.2.2).bind fun y1 => (idx z.2.1 z.2.2).bind fun y2 => (laws_eqEnt y1 y2).bind fun r3 => cond (!r3) (Option.map Sum.inr (some false)) (rec (z.1, z.2.1, (IntKind.i64.wrap (z.2.2 + 1))))) (some (Sum.inl (z.1, z.2.1, z.2.2)))
noncomputable def laws_eqEntS (x0 : (List D109)) (x1 : (List D109)) : Option (Bool) :=
  cond (!((List.length x0 : Int) == (List.length x1 : Int))) (some false) ((@iter ((List D109) × (List D109) × Int) (((List D109) × (List D109) × Int) ⊕ (Bool)) laws_eqEntS_L0 FUEL (x0, x1, 0)).bind fun o => match o with | Sum.inl z1 => (some true) | Sum.inr r => some r)
noncomputable def S_laws_eqEntS : CSpec := ⟨[(0, .v false [.val (.sl T109)]), (1, .v false [.val (.sl T109)])], [(0, .v false [.val .bool])], laws_eqEntS⟩
def ann_laws_eqEntS : List (Nat × List (Nat × SSh)) := [(0, [(0, .v false [.val (.sl T109)]), (1, .v false [.val (.sl T109)]), (5, .v false [.val (.int .i64)])])]
theorem g_laws_eqEntS : Go.Vx.Good Try.prog 110 S_laws_eqEntS := good_of ctx (l := [(132, S_laws_eqEnt)]) (ann := ann_laws_eqEntS) (md := []) (f := Try.f110) ⟨g_laws_eqEnt, trivial⟩ Try.func110 (by kernel_rfl) (fun x => by kernel_rfl)

/- laws.eqObj -/
noncomputable def laws_eqObj (x0 : D62) (x1 : D62) : Option (Bool) :=
  cond (!(x0.1 == x1.1)) (some false) (cond (!(x0.2.1 == x1.2.1)) (some false) (cond (!(ByteArray.toList x0.2.2.1 == ByteArray.toList x1.2.2.1)) (some false) ((laws_eqEntS x0.2.2.2.1 x1.2.2.2.1).bind fun r1 => cond (!r1) (some false) (some true))))
noncomputable def S_laws_eqObj : CSpec := ⟨[(0, .v true [.val T62]), (1, .v true [.val T62])], [(0, .v false [.val .bool])], laws_eqObj⟩
def ann_laws_eqObj : List (Nat × List (Nat × SSh)) := []
theorem g_laws_eqObj : Go.Vx.Good Try.prog 84 S_laws_eqObj := good_of ctx (l := [(110, S_laws_eqEntS)]) (ann := ann_laws_eqObj) (md := []) (f := Try.f84) ⟨g_laws_eqEntS, trivial⟩ Try.func84 (by kernel_rfl) (fun x => by kernel_rfl)

/- laws.eqObjS -/
noncomputable def laws_eqObjS_L0 : (((List D62) × (List D62) × Int) → Option ((((List D62) × (List D62) × Int) ⊕ (Bool)))) → ((List D62) × (List D62) × Int) → Option ((((List D62) × (List D62) × Int) ⊕ (Bool))) := fun rec z => cond (decide (z.2.2 < (List.length z.1 : Int))) ((idx z.1 z.2.2).bind fun y1 => (idx z.2.1 z.2.2).bind fun y2 => (laws_eqObj y1 y2).bind fun r3 => cond (!r3) (Option.map Sum.inr (some false)) (rec (z.1, z.2.1, (IntKind.i64.wrap (z.2.2 + 1))))) (some (Sum.inl (z.1, z.2.1, z.2.2)))
noncomputable def laws_eqObjS (x0 : (List D62)) (x1 : (List D62)) : Option (Bool) :=
  cond (!((List.length x0 : Int) == (List.length x1 : Int))) (some false) ((@iter ((List D62) × (List D62) × Int) (((List D62) × (List D62) × Int) ⊕ (Bool)) laws_eqObjS_L0 FUEL (x0, x1, 0)).bind fun o => match o with | Sum.inl z1 => (some true) | Sum.inr r => some r)
noncomputable def S_laws_eqObjS : CSpec := ⟨[(0, .v false [.val (.sl T62)]), (1, .v false [.val (.sl T62)])], [(0, .v false [.val .bool])], laws_eqObjS⟩
def ann_laws_eqObjS : List (Nat × List (Nat × SSh)) := [(0, [(0, .v false [.val (.sl T62)]), (1, .v false [.val (.sl T62)]), (5, .v false [.val (.int .i64)])])]
theorem g_laws_eqObjS : Go.Vx.Good Try.prog 46 S_laws_eqObjS := good_of ctx (l := [(84, S_laws_eqObj)]) (ann := ann_laws_eqObjS) (md := []) (f := Try.f46) ⟨g_laws_eqObj, trivial⟩ Try.func46 (by kernel_rfl) (fun x => by kernel_rfl)

/- laws.eqTree -/
noncomputable def laws_eqTree (x0 : D28) (x1 : D28) : Option (Bool) :=
  (laws_eqObjS x0.1 x1.1).bind fun r1 => cond (!r1) (some false) (some true)
noncomputable def S_laws_eqTree : CSpec := ⟨[(0, .v true [.val T28]), (1, .v true [.val T28])], [(0, .v false [.val .bool])], laws_eqTree⟩
def ann_laws_eqTree : List (Nat × List (Nat × SSh)) := []
theorem g_laws_eqTree : Go.Vx.Good Try.prog 13 S_laws_eqTree := good_of ctx (l := [(46, S_laws_eqObjS)]) (ann := ann_laws_eqTree) (md := []) (f := Try.f13) ⟨g_laws_eqObjS, trivial⟩ Try.func13 (by kernel_rfl) (fun x => by kernel_rfl)

/- laws.FnExactWalkMany -/
noncomputable def laws_FnExactWalkMany (x0 : D23) (x1 : Int) : Option (Bool) :=
  (laws_szTree x0 1048576).bind fun r1 => cond (decide (r1 < 0)) (some true) ((laws_toTree x0).bind fun r2 => (spec_WalkMany (r2, ()) x1).bind fun r3 => (laws_toTree x0).bind fun r4 => (impl_WalkMany (r4, ()) x1).bind fun r5 => cond (!(r5 == r3)) (some false) ((laws_toTree x0).bind fun r6 => (laws_eqTree (r4, ()) (r6, ())).bind fun r7 => cond (!r7) (some false) (some true)))
noncomputable def S_laws_FnExactWalkMany : CSpec := ⟨[(0, .v true [.val T23]), (1, .v false [.val (.int .i64)])], [(0, .v false [.val .bool])], laws_FnExactWalkMany⟩
def ann_laws_FnExactWalkMany : List (Nat × List (Nat × SSh)) := []
theorem g_laws_FnExactWalkMany : Go.Vx.Good Try.prog 3 S_laws_FnExactWalkMany := good_of ctx (l := [(9, S_laws_szTree), (10, S_spec_WalkMany), (11, S_laws_toTree), (12, S_impl_WalkMany), (13, S_laws_eqTree)]) (ann := ann_laws_FnExactWalkMany) (md := []) (f := Try.f3) ⟨g_laws_szTree, g_spec_WalkMany, g_laws_toTree, g_impl_WalkMany, g_laws_eqTree, trivial⟩ Try.func3 (by kernel_rfl) (fun x => by kernel_rfl)

/- spec.WalkDepth -/
noncomputable def spec_WalkDepth_L0 : ((Int × (List D62) × Int) → Option (((Int × (List D62) × Int) ⊕ (Int)))) → (Int × (List D62) × Int) → Option (((Int × (List D62) × Int) ⊕ (Int))) := fun rec z => cond (decide (z.1 > 0)) ((spec_l1Home (z.2.1, ()) z.1).bind fun r1 => rec (r1, z.2.1, (IntKind.i64.wrap (z.2.2 + 1)))) (some (Sum.inl (z.1, z.2.1, z.2.2)))
noncomputable def spec_WalkDepth (x0 : D28) (x1 : Int) : Option (Int) :=
  (spec_TreeOk x0).bind fun r1 => cond (!r1) (some (-1)) ((spec_l1Id x1).bind fun r2 => cond (!r2) (some (-1)) ((idx x0.1 x1).bind fun y3 => cond (y3.1 == 0) (some (-1)) ((@iter (Int × (List D62) × Int) ((Int × (List D62) × Int) ⊕ (Int)) spec_WalkDepth_L0 FUEL (x1, x0.1, 0)).bind fun o => match o with | Sum.inl z4 => (some z4.2.2) | Sum.inr r => some r)))
noncomputable def S_spec_WalkDepth : CSpec := ⟨[(0, .v true [.val T28]), (1, .v false [.val (.int .i64)])], [(0, .v false [.val (.int .i64)])], spec_WalkDepth⟩
def ann_spec_WalkDepth : List (Nat × List (Nat × SSh)) := [(0, [(1, .v false [.val (.int .i64)]), (2, .ptr [.val (.sl T62)]), (5, .v false [.val (.int .i64)])])]
theorem g_spec_WalkDepth : Go.Vx.Good Try.prog 14 S_spec_WalkDepth := good_of ctx (l := [(39, S_spec_TreeOk), (40, S_spec_l1Id), (47, S_spec_l1Home)]) (ann := ann_spec_WalkDepth) (md := []) (f := Try.f14) ⟨g_spec_TreeOk, g_spec_l1Id, g_spec_l1Home, trivial⟩ Try.func14 (by kernel_rfl) (fun x => by kernel_rfl)

/- impl.home -/
noncomputable def impl_home_L2 : ((Int × Int × (List D62) × Int × Int × (List D109) × Int × Int) → Option (((Int × Int × (List D62) × Int × Int × (List D109) × Int × Int) ⊕ ((Int × (List D62) × Int × Int) ⊕ (Int × ByteArray))))) → (Int × Int × (List D62) × Int × Int × (List D109) × Int × Int) → Option (((Int × Int × (List D62) × Int × Int × (List D109) × Int × Int) ⊕ ((Int × (List D62) × Int × Int) ⊕ (Int × ByteArray)))) := fun rec z => cond (decide (z.2.2.2.2.2.2.2 < z.2.2.2.2.2.2.1)) ((idx z.2.2.2.2.2.1 z.2.2.2.2.2.2.2).bind fun y1 => cond (y1.2.1 == z.1) (some (Sum.inr (Sum.inr (z.2.1, y1.1)))) (rec (z.1, z.2.1, z.2.2.1, z.2.2.2.1, z.2.2.2.2.1, z.2.2.2.2.2.1, z.2.2.2.2.2.2.1, (IntKind.i64.wrap (z.2.2.2.2.2.2.2 + 1))))) (some (Sum.inl (z.1, z.2.1, z.2.2.1, z.2.2.2.1, z.2.2.2.2.1, z.2.2.2.2.2.1, z.2.2.2.2.2.2.1, z.2.2.2.2.2.2.2)))
noncomputable def impl_home_L0 : ((Int × (List D62) × Int × Int) → Option (((Int × (List D62) × Int × Int) ⊕ (Int × ByteArray)))) → (Int × (List D62) × Int × Int) → Option (((Int × (List D62) × Int × Int) ⊕ (Int × ByteArray))) := fun rec z => cond (decide (z.2.2.2 < z.2.2.1)) ((idx z.2.1 z.2.2.2).bind fun y1 => (@iter (Int × Int × (List D62) × Int × Int × (List D109) × Int × Int) ((Int × Int × (List D62) × Int × Int × (List D109) × Int × Int) ⊕ ((Int × (List D62) × Int × Int) ⊕ (Int × ByteArray))) impl_home_L2 FUEL (z.1, z.2.2.2, z.2.1, z.2.2.1, z.2.2.2, y1.2.2.2.1, (List.length y1.2.2.2.1 : Int), 0)).bind fun o => match o with | Sum.inl z2 => (rec (z2.1, z2.2.2.1, z2.2.2.2.1, (IntKind.i64.wrap (z2.2.2.2.2.1 + 1)))) | Sum.inr r => some r) (some (Sum.inl (z.1, z.2.1, z.2.2.1, z.2.2.2)))
noncomputable def impl_home (x0 : D28) (x1 : Int) : Option (Int × ByteArray) :=
  (@iter (Int × (List D62) × Int × Int) ((Int × (List D62) × Int × Int) ⊕ (Int × ByteArray)) impl_home_L0 FUEL (x1, x0.1, (List.length x0.1 : Int), 0)).bind fun o => match o with | Sum.inl z1 => (some ((-1), (⟨#[]⟩ : ByteArray))) | Sum.inr r => some r
noncomputable def S_impl_home : CSpec := ⟨[(0, .v true [.val T28]), (1, .v false [.val (.int .i64)])], [(0, .v false [.val (.int .i64)]), (1, .v false [.val .str])], impl_home⟩
def ann_impl_home : List (Nat × List (Nat × SSh)) := [(0, [(1, .v false [.val (.int .i64)]), (11, .v false [.val (.sl T62)]), (12, .v false [.val (.int .i64)]), (13, .v false [.val (.int .i64)])]), (2, [(1, .v false [.val (.int .i64)]), (6, .v false [.val (.int .i64)]), (11, .v false [.val (.sl T62)]), (12, .v false [.val (.int .i64)]), (13, .v false [.val (.int .i64)]), (19, .v false [.val (.sl T109)]), (20, .v false [.val (.int .i64)]), (21, .v false [.val (.int .i64)])])]
theorem g_impl_home : Go.Vx.Good Try.prog 48 S_impl_home := good_of ctx (l := []) (ann := ann_impl_home) (md := []) (f := Try.f48) trivial Try.func48 (by kernel_rfl) (fun x => by kernel_rfl)

/- impl.WalkDepth -/
noncomputable def impl_WalkDepth_L0 : (((List D62) × Int × Int) → Option ((((List D62) × Int × Int) ⊕ (Int)))) → ((List D62) × Int × Int) → Option ((((List D62) × Int × Int) ⊕ (Int))) := fun rec z => cond (decide (z.2.2 > 0)) ((impl_home (z.1, ()) z.2.2).bind fun r1 => rec (z.1, (IntKind.i64.wrap (z.2.1 + 1)), r1.1)) (some (Sum.inl (z.1, z.2.1, z.2.2)))
noncomputable def impl_WalkDepth (x0 : D28) (x1 : Int) : Option (Int) :=
  (impl_TreeOk x0).bind fun r1 => cond (!r1) (some (-1)) ((impl_there x0 x1).bind fun r2 => cond (!r2) (some (-1)) ((@iter ((List D62) × Int × Int) (((List D62) × Int × Int) ⊕ (Int)) impl_WalkDepth_L0 FUEL (x0.1, 0, x1)).bind fun o => match o with | Sum.inl z3 => (some z3.2.1) | Sum.inr r => some r))
noncomputable def S_impl_WalkDepth : CSpec := ⟨[(0, .v true [.val T28]), (1, .v false [.val (.int .i64)])], [(0, .v false [.val (.int .i64)])], impl_WalkDepth⟩
def ann_impl_WalkDepth : List (Nat × List (Nat × SSh)) := [(0, [(2, .ptr [.val (.sl T62)]), (5, .v false [.val (.int .i64)]), (6, .v false [.val (.int .i64)])])]
theorem g_impl_WalkDepth : Go.Vx.Good Try.prog 15 S_impl_WalkDepth := good_of ctx (l := [(43, S_impl_TreeOk), (44, S_impl_there), (48, S_impl_home)]) (ann := ann_impl_WalkDepth) (md := []) (f := Try.f15) ⟨g_impl_TreeOk, g_impl_there, g_impl_home, trivial⟩ Try.func15 (by kernel_rfl) (fun x => by kernel_rfl)

/- laws.FnExactWalkDepth -/
noncomputable def laws_FnExactWalkDepth (x0 : D23) (x1 : Int) : Option (Bool) :=
  (laws_szTree x0 1048576).bind fun r1 => cond (decide (r1 < 0)) (some true) ((laws_toTree x0).bind fun r2 => (spec_WalkDepth (r2, ()) x1).bind fun r3 => (laws_toTree x0).bind fun r4 => (impl_WalkDepth (r4, ()) x1).bind fun r5 => cond (!(r5 == r3)) (some false) ((laws_toTree x0).bind fun r6 => (laws_eqTree (r4, ()) (r6, ())).bind fun r7 => cond (!r7) (some false) (some true)))
noncomputable def S_laws_FnExactWalkDepth : CSpec := ⟨[(0, .v true [.val T23]), (1, .v false [.val (.int .i64)])], [(0, .v false [.val .bool])], laws_FnExactWalkDepth⟩
def ann_laws_FnExactWalkDepth : List (Nat × List (Nat × SSh)) := []
theorem g_laws_FnExactWalkDepth : Go.Vx.Good Try.prog 4 S_laws_FnExactWalkDepth := good_of ctx (l := [(9, S_laws_szTree), (11, S_laws_toTree), (13, S_laws_eqTree), (14, S_spec_WalkDepth), (15, S_impl_WalkDepth)]) (ann := ann_laws_FnExactWalkDepth) (md := []) (f := Try.f4) ⟨g_laws_szTree, g_laws_toTree, g_laws_eqTree, g_spec_WalkDepth, g_impl_WalkDepth, trivial⟩ Try.func4 (by kernel_rfl) (fun x => by kernel_rfl)

/- spec.l1Find -/
noncomputable def spec_l1Find_L0 : (((List D109) × ByteArray × Int) → Option ((((List D109) × ByteArray × Int) ⊕ (Int)))) → ((List D109) × ByteArray × Int) → Option ((((List D109) × ByteArray × Int) ⊕ (Int))) := fun rec z => cond (decide (z.2.2 < (List.length z.1 : Int))) ((idx z.1 z.2.2).bind fun y1 => cond (ByteArray.toList y1.1 == ByteArray.toList z.2.1) ((idx z.1 z.2.2).bind fun y2 => Option.map Sum.inr (some y2.2.1)) (rec (z.1, z.2.1, (IntKind.i64.wrap (z.2.2 + 1))))) (some (Sum.inl (z.1, z.2.1, z.2.2)))
noncomputable def spec_l1Find (x0 : (List D109)) (x1 : ByteArray) : Option (Int) :=
  (@iter ((List D109) × ByteArray × Int) (((List D109) × ByteArray × Int) ⊕ (Int)) spec_l1Find_L0 FUEL (x0, x1, 0)).bind fun o => match o with | Sum.inl z1 => (some (-1)) | Sum.inr r => some r
noncomputable def S_spec_l1Find : CSpec := ⟨[(0, .v false [.val (.sl T109)]), (1, .v false [.val .str])], [(0, .v false [.val (.int .i64)])], spec_l1Find⟩
def ann_spec_l1Find : List (Nat × List (Nat × SSh)) := [(0, [(0, .v false [.val (.sl T109)]), (1, .v false [.val .str]), (5, .v false [.val (.int .i64)])])]
theorem g_spec_l1Find : Go.Vx.Good Try.prog 85 S_spec_l1Find := good_of ctx (l := []) (ann := ann_spec_l1Find) (md := []) (f := Try.f85) trivial Try.func85 (by kernel_rfl) (fun x => by kernel_rfl)

/- spec.l14Free -/
noncomputable def spec_l14Free_L0 : ((Int × ByteArray × (List D62) × ByteArray × ByteArray × Int) → Option (((Int × ByteArray × (List D62) × ByteArray × ByteArray × Int) ⊕ (ByteArray)))) → (Int × ByteArray × (List D62) × ByteArray × ByteArray × Int) → Option (((Int × ByteArray × (List D62) × ByteArray × ByteArray × Int) ⊕ (ByteArray))) := fun rec z => cond (decide (z.2.2.2.2.2 < (ByteArray.size z.2.2.2.2.1 : Int))) ((idx z.2.2.1 z.1).bind fun y1 => (subS z.2.2.2.2.1 z.2.2.2.2.2 (IntKind.i64.wrap (z.2.2.2.2.2 + 1))).bind fun y2 => cond (decide (ByteArray.size z.2.2.2.1 + ByteArray.size y2 ≤ 4611686018427387904)) ((spec_l1Find y1.2.2.2.1 (z.2.2.2.1 ++ y2)).bind fun r3 => cond (decide (r3 < 0)) ((subS z.2.2.2.2.1 z.2.2.2.2.2 (IntKind.i64.wrap (z.2.2.2.2.2 + 1))).bind fun y4 => cond (decide (ByteArray.size z.2.2.2.1 + ByteArray.size y4 ≤ 4611686018427387904)) (some (Sum.inr (z.2.2.2.1 ++ y4))) none) (rec (z.1, z.2.1, z.2.2.1, z.2.2.2.1, z.2.2.2.2.1, (IntKind.i64.wrap (z.2.2.2.2.2 + 1))))) none) (some (Sum.inl (z.1, z.2.1, z.2.2.1, z.2.2.2.1, z.2.2.2.2.1, z.2.2.2.2.2)))
noncomputable def spec_l14Free (x0 : D28) (x1 : Int) (x2 : ByteArray) : Option (ByteArray) :=
  (idx x0.1 x1).bind fun y1 => (spec_l1Find y1.2.2.2.1 x2).bind fun r2 => cond (decide (r2 < 0)) (some x2) (cond ((ByteArray.size x2 : Int) == 4) ((subS x2 0 3).bind fun y3 => (@iter (Int × ByteArray × (List D62) × ByteArray × ByteArray × Int) ((Int × ByteArray × (List D62) × ByteArray × ByteArray × Int) ⊕ (ByteArray)) spec_l14Free_L0 FUEL (x1, x2, x0.1, y3, (⟨#[97, 98, 99, 100, 101, 102, 103, 104, 105, 106, 107, 108, 109, 110, 111, 112, 113, 114, 115, 116, 117, 118, 119, 120, 121, 122]⟩ : ByteArray), 0)).bind fun o => match o with | Sum.inl z4 => (some z4.2.1) | Sum.inr r => some r) ((@iter (Int × ByteArray × (List D62) × ByteArray × ByteArray × Int) ((Int × ByteArray × (List D62) × ByteArray × ByteArray × Int) ⊕ (ByteArray)) spec_l14Free_L0 FUEL (x1, x2, x0.1, x2, (⟨#[97, 98, 99, 100, 101, 102, 103, 104, 105, 106, 107, 108, 109, 110, 111, 112, 113, 114, 115, 116, 117, 118, 119, 120, 121, 122]⟩ : ByteArray), 0)).bind fun o => match o with | Sum.inl z5 => (some z5.2.1) | Sum.inr r => some r))
noncomputable def S_spec_l14Free : CSpec := ⟨[(0, .v true [.val T28]), (1, .v false [.val (.int .i64)]), (2, .v false [.val .str])], [(0, .v false [.val .str])], spec_l14Free⟩
def ann_spec_l14Free : List (Nat × List (Nat × SSh)) := [(0, [(1, .v false [.val (.int .i64)]), (2, .v false [.val .str]), (3, .ptr [.val (.sl T62)]), (7, .v false [.val .str]), (8, .v false [.val .str]), (9, .v false [.val (.int .i64)])])]
theorem g_spec_l14Free : Go.Vx.Good Try.prog 50 S_spec_l14Free := good_of ctx (l := [(85, S_spec_l1Find)]) (ann := ann_spec_l14Free) (md := []) (f := Try.f50) ⟨g_spec_l1Find, trivial⟩ Try.func50 (by kernel_rfl) (fun x => by kernel_rfl)

/- spec.MendName -/
noncomputable def spec_MendName (x0 : D28) (x1 : Int) (x2 : ByteArray) : Option (ByteArray) :=
  (spec_TreeOk x0).bind fun r1 => cond (!r1) (some (⟨#[]⟩ : ByteArray)) ((spec_l1Id x1).bind fun r2 => cond (!r2) (some (⟨#[]⟩ : ByteArray)) ((spec_TreeWord x2).bind fun r3 => cond (!r3) (some (⟨#[]⟩ : ByteArray)) ((spec_l14Free x0 x1 x2).bind fun r4 => some r4)))
noncomputable def S_spec_MendName : CSpec := ⟨[(0, .v true [.val T28]), (1, .v false [.val (.int .i64)]), (2, .v false [.val .str])], [(0, .v false [.val .str])], spec_MendName⟩
def ann_spec_MendName : List (Nat × List (Nat × SSh)) := []
theorem g_spec_MendName : Go.Vx.Good Try.prog 16 S_spec_MendName := good_of ctx (l := [(39, S_spec_TreeOk), (40, S_spec_l1Id), (49, S_spec_TreeWord), (50, S_spec_l14Free)]) (ann := ann_spec_MendName) (md := []) (f := Try.f16) ⟨g_spec_TreeOk, g_spec_l1Id, g_spec_TreeWord, g_spec_l14Free, trivial⟩ Try.func16 (by kernel_rfl) (fun x => by kernel_rfl)

/- impl.find -/
noncomputable def impl_find_L0 : ((ByteArray × (List D109) × Int × Int) → Option (((ByteArray × (List D109) × Int × Int) ⊕ (Int)))) → (ByteArray × (List D109) × Int × Int) → Option (((ByteArray × (List D109) × Int × Int) ⊕ (Int))) := fun rec z => cond (decide (z.2.2.2 < z.2.2.1)) ((idx z.2.1 z.2.2.2).bind fun y1 => cond (ByteArray.toList y1.1 == ByteArray.toList z.1) (Option.map Sum.inr (some y1.2.1)) (rec (z.1, z.2.1, z.2.2.1, (IntKind.i64.wrap (z.2.2.2 + 1))))) (some (Sum.inl (z.1, z.2.1, z.2.2.1, z.2.2.2)))
noncomputable def impl_find (x0 : D28) (x1 : Int) (x2 : ByteArray) : Option (Int) :=
  (idx x0.1 x1).bind fun y1 => (@iter (ByteArray × (List D109) × Int × Int) ((ByteArray × (List D109) × Int × Int) ⊕ (Int)) impl_find_L0 FUEL (x2, y1.2.2.2.1, (List.length y1.2.2.2.1 : Int), 0)).bind fun o => match o with | Sum.inl z2 => (some (-1)) | Sum.inr r => some r
noncomputable def S_impl_find : CSpec := ⟨[(0, .v true [.val T28]), (1, .v false [.val (.int .i64)]), (2, .v false [.val .str])], [(0, .v false [.val (.int .i64)])], impl_find⟩
def ann_impl_find : List (Nat × List (Nat × SSh)) := [(0, [(2, .v false [.val .str]), (14, .v false [.val (.sl T109)]), (15, .v false [.val (.int .i64)]), (16, .v false [.val (.int .i64)])])]
theorem g_impl_find : Go.Vx.Good Try.prog 86 S_impl_find := good_of ctx (l := []) (ann := ann_impl_find) (md := []) (f := Try.f86) trivial Try.func86 (by kernel_rfl) (fun x => by kernel_rfl)

/- impl.freeName -/
noncomputable def impl_freeName_L0 : ((Int × ByteArray × (List D62) × ByteArray × Int) → Option (((Int × ByteArray × (List D62) × ByteArray × Int) ⊕ (ByteArray)))) → (Int × ByteArray × (List D62) × ByteArray × Int) → Option (((Int × ByteArray × (List D62) × ByteArray × Int) ⊕ (ByteArray))) := fun rec z => cond (decide (z.2.2.2.2 ≤ 122)) (cond (decide (ByteArray.size z.2.2.2.1 + ByteArray.size (bytesOf ([z.2.2.2.2] : List Int)) ≤ 4611686018427387904)) ((impl_find (z.2.2.1, ()) z.1 (z.2.2.2.1 ++ (bytesOf ([z.2.2.2.2] : List Int)))).bind fun r1 => cond (decide (r1 < 0)) (some (Sum.inr (z.2.2.2.1 ++ (bytesOf ([z.2.2.2.2] : List Int))))) (rec (z.1, z.2.1, z.2.2.1, z.2.2.2.1, (IntKind.u8.wrap (z.2.2.2.2 + 1))))) none) (some (Sum.inl (z.1, z.2.1, z.2.2.1, z.2.2.2.1, z.2.2.2.2)))
noncomputable def impl_freeName (x0 : D28) (x1 : Int) (x2 : ByteArray) : Option (ByteArray) :=
  (impl_find x0 x1 x2).bind fun r1 => cond (decide (r1 < 0)) (some x2) (cond ((ByteArray.size x2 : Int) == 4) ((subS x2 0 3).bind fun y2 => (@iter (Int × ByteArray × (List D62) × ByteArray × Int) ((Int × ByteArray × (List D62) × ByteArray × Int) ⊕ (ByteArray)) impl_freeName_L0 FUEL (x1, x2, x0.1, y2, 97)).bind fun o => match o with | Sum.inl z3 => (some z3.2.1) | Sum.inr r => some r) ((@iter (Int × ByteArray × (List D62) × ByteArray × Int) ((Int × ByteArray × (List D62) × ByteArray × Int) ⊕ (ByteArray)) impl_freeName_L0 FUEL (x1, x2, x0.1, x2, 97)).bind fun o => match o with | Sum.inl z4 => (some z4.2.1) | Sum.inr r => some r))
noncomputable def S_impl_freeName : CSpec := ⟨[(0, .v true [.val T28]), (1, .v false [.val (.int .i64)]), (2, .v false [.val .str])], [(0, .v false [.val .str])], impl_freeName⟩
def ann_impl_freeName : List (Nat × List (Nat × SSh)) := [(0, [(1, .v false [.val (.int .i64)]), (2, .v false [.val .str]), (3, .ptr [.val (.sl T62)]), (7, .v false [.val .str]), (8, .v false [.val (.int .u8)])])]
theorem g_impl_freeName : Go.Vx.Good Try.prog 53 S_impl_freeName := good_of ctx (l := [(86, S_impl_find)]) (ann := ann_impl_freeName) (md := []) (f := Try.f53) ⟨g_impl_find, trivial⟩ Try.func53 (by kernel_rfl) (fun x => by kernel_rfl)

/- impl.MendName -/
noncomputable def impl_MendName (x0 : D28) (x1 : Int) (x2 : ByteArray) : Option (ByteArray) :=
  (impl_TreeOk x0).bind fun r1 => cond (!r1) (some (⟨#[]⟩ : ByteArray)) ((impl_in x1 0 31).bind fun r2 => cond (!r2) (some (⟨#[]⟩ : ByteArray)) ((impl_TreeWord x2).bind fun r3 => cond (!r3) (some (⟨#[]⟩ : ByteArray)) ((impl_freeName x0 x1 x2).bind fun r4 => some r4)))
noncomputable def S_impl_MendName : CSpec := ⟨[(0, .v true [.val T28]), (1, .v false [.val (.int .i64)]), (2, .v false [.val .str])], [(0, .v false [.val .str])], impl_MendName⟩
def ann_impl_MendName : List (Nat × List (Nat × SSh)) := []
theorem g_impl_MendName : Go.Vx.Good Try.prog 17 S_impl_MendName := good_of ctx (l := [(43, S_impl_TreeOk), (51, S_impl_in), (52, S_impl_TreeWord), (53, S_impl_freeName)]) (ann := ann_impl_MendName) (md := []) (f := Try.f17) ⟨g_impl_TreeOk, g_impl_in, g_impl_TreeWord, g_impl_freeName, trivial⟩ Try.func17 (by kernel_rfl) (fun x => by kernel_rfl)

/- laws.FnExactMendName -/
noncomputable def laws_FnExactMendName (x0 : D23) (x1 : Int) (x2 : ByteArray) : Option (Bool) :=
  cond (decide ((ByteArray.size x2 : Int) > 1048576)) (some true) ((laws_szTree x0 1048576).bind fun r1 => cond (decide (r1 < 0)) (some true) ((laws_toTree x0).bind fun r2 => (spec_MendName (r2, ()) x1 x2).bind fun r3 => (laws_toTree x0).bind fun r4 => (impl_MendName (r4, ()) x1 x2).bind fun r5 => cond (!(ByteArray.toList r5 == ByteArray.toList r3)) (some false) ((laws_toTree x0).bind fun r6 => (laws_eqTree (r4, ()) (r6, ())).bind fun r7 => cond (!r7) (some false) (some true))))
noncomputable def S_laws_FnExactMendName : CSpec := ⟨[(0, .v true [.val T23]), (1, .v false [.val (.int .i64)]), (2, .v false [.val .str])], [(0, .v false [.val .bool])], laws_FnExactMendName⟩
def ann_laws_FnExactMendName : List (Nat × List (Nat × SSh)) := []
theorem g_laws_FnExactMendName : Go.Vx.Good Try.prog 5 S_laws_FnExactMendName := good_of ctx (l := [(9, S_laws_szTree), (11, S_laws_toTree), (13, S_laws_eqTree), (16, S_spec_MendName), (17, S_impl_MendName)]) (ann := ann_laws_FnExactMendName) (md := []) (f := Try.f5) ⟨g_laws_szTree, g_laws_toTree, g_laws_eqTree, g_spec_MendName, g_impl_MendName, trivial⟩ Try.func5 (by kernel_rfl) (fun x => by kernel_rfl)

/- spec.WalkList -/
noncomputable def spec_WalkList (x0 : D28) : Option ((List Int)) :=
  (spec_TreeOk x0).bind fun r1 => cond (!r1) (some ([] : List Int)) ((spec_l13From RF x0 0).bind fun r2 => some r2)
noncomputable def S_spec_WalkList : CSpec := ⟨[(0, .v true [.val T28])], [(0, .v false [.own 3 (.int .i64)])], spec_WalkList⟩
def ann_spec_WalkList : List (Nat × List (Nat × SSh)) := []
theorem g_spec_WalkList : Go.Vx.Good Try.prog 18 S_spec_WalkList := good_of ctx (l := [(39, S_spec_TreeOk), (41, S_spec_l13From RF)]) (ann := ann_spec_WalkList) (md := []) (f := Try.f18) ⟨g_spec_TreeOk, g_spec_l13From RF, trivial⟩ Try.func18 (by kernel_rfl) (fun x => by kernel_rfl)

/- impl.copied[int] -/
noncomputable def impl_copied_int (x0 : (List Int)) : Option ((List Int)) :=
  cond ((List.length x0 : Int) == 0) (some ([] : List Int)) (cond (decide (0 ≤ (List.length x0 : Int)) && decide ((List.length x0 : Int) ≤ (LIM : Int))) (some (List.take (List.length (List.replicate (Int.toNat (List.length x0 : Int)) (0 : Int))) x0 ++ List.drop (List.length x0) (List.replicate (Int.toNat (List.length x0 : Int)) (0 : Int)))) none)
noncomputable def S_impl_copied_int : CSpec := ⟨[(0, .v false [.val (.sl (.int .i64))])], [(0, .v false [.own 3 (.int .i64)])], impl_copied_int⟩
def ann_impl_copied_int : List (Nat × List (Nat × SSh)) := []
theorem g_impl_copied_int : Go.Vx.Good Try.prog 54 S_impl_copied_int := good_of ctx (l := []) (ann := ann_impl_copied_int) (md := []) (f := Try.f54) trivial Try.func54 (by kernel_rfl) (fun x => by kernel_rfl)

/- impl.WalkList -/
noncomputable def impl_WalkList (x0 : D28) : Option ((List Int)) :=
  (impl_TreeOk x0).bind fun r1 => cond (!r1) (some ([] : List Int)) ((impl_walk RF x0 0 ([] : List Int) 0).bind fun r2 => (impl_copied_int r2).bind fun r3 => some r3)
noncomputable def S_impl_WalkList : CSpec := ⟨[(0, .v true [.val T28])], [(0, .v false [.own 3 (.int .i64)])], impl_WalkList⟩
def ann_impl_WalkList : List (Nat × List (Nat × SSh)) := []
theorem g_impl_WalkList : Go.Vx.Good Try.prog 19 S_impl_WalkList := good_of ctx (l := [(43, S_impl_TreeOk), (45, S_impl_walk RF), (54, S_impl_copied_int)]) (ann := ann_impl_WalkList) (md := []) (f := Try.f19) ⟨g_impl_TreeOk, g_impl_walk RF, g_impl_copied_int, trivial⟩ Try.func19 (by kernel_rfl) (fun x => by kernel_rfl)

/- laws.eqIntS -/
noncomputable def laws_eqIntS_L0 : (((List Int) × (List Int) × Int) → Option ((((List Int) × (List Int) × Int) ⊕ (Bool)))) → ((List Int) × (List Int) × Int) → Option ((((List Int) × (List Int) × Int) ⊕ (Bool))) := fun rec z => cond (decide (z.2.2 < (List.length z.1 : Int))) ((idx z.1 z.2.2).bind fun y1 => (idx z.2.1 z.2.2).bind fun y2 => cond (!(y1 == y2)) (Option.map Sum.inr (some false)) (rec (z.1, z.2.1, (IntKind.i64.wrap (z.2.2 + 1))))) (some (Sum.inl (z.1, z.2.1, z.2.2)))
noncomputable def laws_eqIntS (x0 : (List Int)) (x1 : (List Int)) : Option (Bool) :=
  cond (!((List.length x0 : Int) == (List.length x1 : Int))) (some false) ((@iter ((List Int) × (List Int) × Int) (((List Int) × (List Int) × Int) ⊕ (Bool)) laws_eqIntS_L0 FUEL (x0, x1, 0)).bind fun o => match o with | Sum.inl z1 => (some true) | Sum.inr r => some r)
noncomputable def S_laws_eqIntS : CSpec := ⟨[(0, .v false [.val (.sl (.int .i64))]), (1, .v false [.val (.sl (.int .i64))])], [(0, .v false [.val .bool])], laws_eqIntS⟩
def ann_laws_eqIntS : List (Nat × List (Nat × SSh)) := [(0, [(0, .v false [.val (.sl (.int .i64))]), (1, .v false [.val (.sl (.int .i64))]), (5, .v false [.val (.int .i64)])])]
theorem g_laws_eqIntS : Go.Vx.Good Try.prog 20 S_laws_eqIntS := good_of ctx (l := []) (ann := ann_laws_eqIntS) (md := []) (f := Try.f20) trivial Try.func20 (by kernel_rfl) (fun x => by kernel_rfl)

/- laws.markText -/
noncomputable def laws_markText_L0 : ((Int × ByteArray) → Option (((Int × ByteArray) ⊕ (ByteArray)))) → (Int × ByteArray) → Option (((Int × ByteArray) ⊕ (ByteArray))) := fun rec z => cond (decide (z.1 > 0)) ((remO z.1 10).bind fun y1 => cond (decide (ByteArray.size (bytesOf ([(IntKind.u8.wrap (IntKind.i64.wrap (48 + y1)))] : List Int)) + ByteArray.size z.2 ≤ 4611686018427387904)) ((quoO IntKind.i64 z.1 10).bind fun y2 => rec (y2, ((bytesOf ([(IntKind.u8.wrap (IntKind.i64.wrap (48 + y1)))] : List Int)) ++ z.2))) none) (some (Sum.inl (z.1, z.2)))
noncomputable def laws_markText (x0 : Int) : Option (ByteArray) :=
  cond (decide (x0 ≤ 0)) (some (⟨#[109, 48]⟩ : ByteArray)) ((@iter (Int × ByteArray) ((Int × ByteArray) ⊕ (ByteArray)) laws_markText_L0 FUEL (x0, (⟨#[]⟩ : ByteArray))).bind fun o => match o with | Sum.inl z1 => (cond (decide (ByteArray.size (⟨#[109]⟩ : ByteArray) + ByteArray.size z1.2 ≤ 4611686018427387904)) (some ((⟨#[109]⟩ : ByteArray) ++ z1.2)) none) | Sum.inr r => some r)
noncomputable def S_laws_markText : CSpec := ⟨[(0, .v false [.val (.int .i64)])], [(0, .v false [.val .str])], laws_markText⟩
def ann_laws_markText : List (Nat × List (Nat × SSh)) := [(0, [(0, .v false [.val (.int .i64)]), (3, .v false [.val .str])])]
theorem g_laws_markText : Go.Vx.Good Try.prog 65 S_laws_markText := good_of ctx (l := []) (ann := ann_laws_markText) (md := []) (f := Try.f65) trivial Try.func65 (by kernel_rfl) (fun x => by kernel_rfl)

/- laws.markEntS -/
noncomputable def laws_markEntS_L0 : (((List D109) × Int × Int) → Option ((((List D109) × Int × Int) ⊕ (Int × (List D109))))) → ((List D109) × Int × Int) → Option ((((List D109) × Int × Int) ⊕ (Int × (List D109)))) := fun rec z => cond (decide (z.2.2 < (List.length z.1 : Int))) ((laws_markText z.2.1).bind fun r1 => cond (inb z.2.2 (List.length z.1)) ((idx z.1 z.2.2).bind fun y2 => cond (inb z.2.2 (List.length (List.set z.1 (Int.toNat z.2.2) (r1, y2.2.1, ())))) ((idx (List.set z.1 (Int.toNat z.2.2) (r1, y2.2.1, ())) z.2.2).bind fun y3 => rec ((List.set (List.set z.1 (Int.toNat z.2.2) (r1, y2.2.1, ())) (Int.toNat z.2.2) (y3.1, (IntKind.i64.wrap (z.2.1 + 1)), ())), (IntKind.i64.wrap ((IntKind.i64.wrap (z.2.1 + 1)) + 1)), (IntKind.i64.wrap (z.2.2 + 1)))) none) none) (some (Sum.inl (z.1, z.2.1, z.2.2)))
noncomputable def laws_markEntS (x0 : (List D109)) (x1 : Int) : Option (Int × (List D109)) :=
  (@iter ((List D109) × Int × Int) (((List D109) × Int × Int) ⊕ (Int × (List D109))) laws_markEntS_L0 FUEL (x0, x1, 0)).bind fun o => match o with | Sum.inl z1 => (some (z1.2.1, z1.1)) | Sum.inr r => some r
noncomputable def S_laws_markEntS : CSpec := ⟨[(0, .v false [.row 110 T109]), (1, .v false [.val (.int .i64)])], [(0, .v false [.val (.int .i64)])], laws_markEntS⟩
def ann_laws_markEntS : List (Nat × List (Nat × SSh)) := [(0, [(0, .v false [.own 110 T109]), (1, .v false [.val (.int .i64)]), (5, .v false [.val (.int .i64)])])]
theorem g_laws_markEntS : Go.Vx.Good Try.prog 87 S_laws_markEntS := good_of ctx (l := [(65, S_laws_markText)]) (ann := ann_laws_markEntS) (md := []) (f := Try.f87) ⟨g_laws_markText, trivial⟩ Try.func87 (by kernel_rfl) (fun x => by kernel_rfl)

/- laws.markObjS -/
noncomputable def laws_markObjS_L0 : (((List D62) × Int × Int) → Option ((((List D62) × Int × Int) ⊕ (Int × (List D62))))) → ((List D62) × Int × Int) → Option ((((List D62) × Int × Int) ⊕ (Int × (List D62)))) := fun rec z => cond (decide (z.2.2 < (List.length z.1 : Int))) (cond (inb z.2.2 (List.length z.1)) ((idx z.1 z.2.2).bind fun y1 => cond (inb z.2.2 (List.length (List.set z.1 (Int.toNat z.2.2) (z.2.1, y1.2.1, y1.2.2.1, y1.2.2.2.1, ())))) ((idx (List.set z.1 (Int.toNat z.2.2) (z.2.1, y1.2.1, y1.2.2.1, y1.2.2.2.1, ())) z.2.2).bind fun y2 => (laws_markText (IntKind.i64.wrap ((IntKind.i64.wrap (z.2.1 + 1)) + 1))).bind fun r3 => cond (inb z.2.2 (List.length (List.set (List.set z.1 (Int.toNat z.2.2) (z.2.1, y1.2.1, y1.2.2.1, y1.2.2.2.1, ())) (Int.toNat z.2.2) (y2.1, (IntKind.i64.wrap (z.2.1 + 1)), y2.2.2.1, y2.2.2.2.1, ())))) ((idx (List.set (List.set z.1 (Int.toNat z.2.2) (z.2.1, y1.2.1, y1.2.2.1, y1.2.2.2.1, ())) (Int.toNat z.2.2) (y2.1, (IntKind.i64.wrap (z.2.1 + 1)), y2.2.2.1, y2.2.2.2.1, ())) z.2.2).bind fun y4 => cond (inb z.2.2 (List.length (List.set (List.set (List.set z.1 (Int.toNat z.2.2) (z.2.1, y1.2.1, y1.2.2.1, y1.2.2.2.1, ())) (Int.toNat z.2.2) (y2.1, (IntKind.i64.wrap (z.2.1 + 1)), y2.2.2.1, y2.2.2.2.1, ())) (Int.toNat z.2.2) (y4.1, y4.2.1, r3, y4.2.2.2.1, ())))) ((idx (List.set (List.set (List.set z.1 (Int.toNat z.2.2) (z.2.1, y1.2.1, y1.2.2.1, y1.2.2.2.1, ())) (Int.toNat z.2.2) (y2.1, (IntKind.i64.wrap (z.2.1 + 1)), y2.2.2.1, y2.2.2.2.1, ())) (Int.toNat z.2.2) (y4.1, y4.2.1, r3, y4.2.2.2.1, ())) z.2.2).bind fun y5 => (laws_markEntS y5.2.2.2.1 (IntKind.i64.wrap ((IntKind.i64.wrap ((IntKind.i64.wrap (z.2.1 + 1)) + 1)) + 1))).bind fun r6 => (idx (List.set (List.set (List.set (List.set z.1 (Int.toNat z.2.2) (z.2.1, y1.2.1, y1.2.2.1, y1.2.2.2.1, ())) (Int.toNat z.2.2) (y2.1, (IntKind.i64.wrap (z.2.1 + 1)), y2.2.2.1, y2.2.2.2.1, ())) (Int.toNat z.2.2) (y4.1, y4.2.1, r3, y4.2.2.2.1, ())) (Int.toNat z.2.2) (y5.1, y5.2.1, y5.2.2.1, ([] : List D109), ())) z.2.2).bind fun y7 => rec ((List.set (List.set (List.set (List.set (List.set z.1 (Int.toNat z.2.2) (z.2.1, y1.2.1, y1.2.2.1, y1.2.2.2.1, ())) (Int.toNat z.2.2) (y2.1, (IntKind.i64.wrap (z.2.1 + 1)), y2.2.2.1, y2.2.2.2.1, ())) (Int.toNat z.2.2) (y4.1, y4.2.1, r3, y4.2.2.2.1, ())) (Int.toNat z.2.2) (y5.1, y5.2.1, y5.2.2.1, ([] : List D109), ())) (Int.toNat z.2.2) (y7.1, y7.2.1, y7.2.2.1, r6.2, ())), r6.1, (IntKind.i64.wrap (z.2.2 + 1)))) none) none) none) none) (some (Sum.inl (z.1, z.2.1, z.2.2)))
noncomputable def laws_markObjS (x0 : (List D62)) (x1 : Int) : Option (Int × (List D62)) :=
  (@iter ((List D62) × Int × Int) (((List D62) × Int × Int) ⊕ (Int × (List D62))) laws_markObjS_L0 FUEL (x0, x1, 0)).bind fun o => match o with | Sum.inl z1 => (some (z1.2.1, z1.1)) | Sum.inr r => some r
noncomputable def S_laws_markObjS : CSpec := ⟨[(0, .v false [.dlent 63 E63]), (1, .v false [.val (.int .i64)])], [(0, .v false [.val (.int .i64)])], laws_markObjS⟩
def md_laws_markObjS : List (Nat × Md) := [(38, ⟨[], .opn, []⟩), (40, ⟨[], .plain, [.close 0]⟩)]
def ann_laws_markObjS : List (Nat × List (Nat × SSh)) := [(0, [(0, .v false [.dp false 63 E63]), (1, .v false [.val (.int .i64)]), (5, .v false [.val (.int .i64)])])]
theorem g_laws_markObjS : Go.Vx.Good Try.prog 55 S_laws_markObjS := good_of ctx (l := [(65, S_laws_markText), (87, S_laws_markEntS)]) (ann := ann_laws_markObjS) (md := md_laws_markObjS) (f := Try.f55) ⟨g_laws_markText, g_laws_markEntS, trivial⟩ Try.func55 (by kernel_rfl) (fun x => by kernel_rfl)

/- laws.markTree -/
noncomputable def laws_markTree (x0 : (List D62)) (x1 : Int) : Option (Int × (List D62)) :=
  (laws_markObjS x0 x1).bind fun r1 => some (r1.1, r1.2)
noncomputable def S_laws_markTree : CSpec := ⟨[(0, .v true [.dlent 63 E63]), (1, .v false [.val (.int .i64)])], [(0, .v false [.val (.int .i64)])], laws_markTree⟩
def ann_laws_markTree : List (Nat × List (Nat × SSh)) := []
theorem g_laws_markTree : Go.Vx.Good Try.prog 21 S_laws_markTree := good_of ctx (l := [(55, S_laws_markObjS)]) (ann := ann_laws_markTree) (md := []) (f := Try.f21) ⟨g_laws_markObjS, trivial⟩ Try.func21 (by kernel_rfl) (fun x => by kernel_rfl)

/- laws.markIntS -/
noncomputable def laws_markIntS_L0 : (((List Int) × Int × Int) → Option ((((List Int) × Int × Int) ⊕ (Int × (List Int))))) → ((List Int) × Int × Int) → Option ((((List Int) × Int × Int) ⊕ (Int × (List Int)))) := fun rec z => cond (decide (z.2.2 < (List.length z.1 : Int))) (cond (inb z.2.2 (List.length z.1)) ((idx z.1 z.2.2).bind fun y1 => rec ((List.set z.1 (Int.toNat z.2.2) z.2.1), (IntKind.i64.wrap (z.2.1 + 1)), (IntKind.i64.wrap (z.2.2 + 1)))) none) (some (Sum.inl (z.1, z.2.1, z.2.2)))
noncomputable def laws_markIntS (x0 : (List Int)) (x1 : Int) : Option (Int × (List Int)) :=
  (@iter ((List Int) × Int × Int) (((List Int) × Int × Int) ⊕ (Int × (List Int))) laws_markIntS_L0 FUEL (x0, x1, 0)).bind fun o => match o with | Sum.inl z1 => (some (z1.2.1, z1.1)) | Sum.inr r => some r
noncomputable def S_laws_markIntS : CSpec := ⟨[(0, .v false [.row 3 (.int .i64)]), (1, .v false [.val (.int .i64)])], [(0, .v false [.val (.int .i64)])], laws_markIntS⟩
def ann_laws_markIntS : List (Nat × List (Nat × SSh)) := [(0, [(0, .v false [.own 3 (.int .i64)]), (1, .v false [.val (.int .i64)]), (5, .v false [.val (.int .i64)])])]
theorem g_laws_markIntS : Go.Vx.Good Try.prog 22 S_laws_markIntS := good_of ctx (l := []) (ann := ann_laws_markIntS) (md := []) (f := Try.f22) trivial Try.func22 (by kernel_rfl) (fun x => by kernel_rfl)

/- laws.heldIntS -/
noncomputable def laws_heldIntS_L0 : (((List Int) × Int × Int) → Option ((((List Int) × Int × Int) ⊕ (Int)))) → ((List Int) × Int × Int) → Option ((((List Int) × Int × Int) ⊕ (Int))) := fun rec z => cond (decide (z.2.2 < (List.length z.1 : Int))) ((idx z.1 z.2.2).bind fun y1 => cond (!(y1 == z.2.1)) (some (Sum.inr (-1))) (rec (z.1, (IntKind.i64.wrap (z.2.1 + 1)), (IntKind.i64.wrap (z.2.2 + 1))))) (some (Sum.inl (z.1, z.2.1, z.2.2)))
noncomputable def laws_heldIntS (x0 : (List Int)) (x1 : Int) : Option (Int) :=
  (@iter ((List Int) × Int × Int) (((List Int) × Int × Int) ⊕ (Int)) laws_heldIntS_L0 FUEL (x0, x1, 0)).bind fun o => match o with | Sum.inl z1 => (some z1.2.1) | Sum.inr r => some r
noncomputable def S_laws_heldIntS : CSpec := ⟨[(0, .v false [.val (.sl (.int .i64))]), (1, .v false [.val (.int .i64)])], [(0, .v false [.val (.int .i64)])], laws_heldIntS⟩
def ann_laws_heldIntS : List (Nat × List (Nat × SSh)) := [(0, [(0, .v false [.val (.sl (.int .i64))]), (1, .v false [.val (.int .i64)]), (5, .v false [.val (.int .i64)])])]
theorem g_laws_heldIntS : Go.Vx.Good Try.prog 23 S_laws_heldIntS := good_of ctx (l := []) (ann := ann_laws_heldIntS) (md := []) (f := Try.f23) trivial Try.func23 (by kernel_rfl) (fun x => by kernel_rfl)

/- laws.FnExactWalkList -/
noncomputable def laws_FnExactWalkList (x0 : D23) : Option (Bool) :=
  (laws_szTree x0 1048576).bind fun r1 => cond (decide (r1 < 0)) (some true) ((laws_toTree x0).bind fun r2 => (spec_WalkList (r2, ())).bind fun r3 => (laws_toTree x0).bind fun r4 => (impl_WalkList (r4, ())).bind fun r5 => (laws_eqIntS r5 r3).bind fun r6 => cond (!r6) (some false) ((laws_toTree x0).bind fun r7 => (laws_eqTree (r4, ()) (r7, ())).bind fun r8 => cond (!r8) (some false) ((laws_markTree r4 1).bind fun r9 => cond (decide (r9.1 < 0)) (some false) ((laws_eqIntS r5 r3).bind fun r10 => cond (!r10) (some false) ((laws_markIntS r5 1).bind fun r11 => (laws_heldIntS r11.2 1).bind fun r12 => cond (decide (r12 < 0)) (some false) (cond (!(r12 == r11.1)) (some false) ((laws_toTree x0).bind fun r13 => (impl_WalkList (r13, ())).bind fun r14 => (laws_eqIntS r14 r3).bind fun r15 => cond (!r15) (some false) ((laws_heldIntS r11.2 1).bind fun r16 => cond (decide (r16 < 0)) (some false) (cond (!(r16 == r11.1)) (some false) (some true))))))))))
noncomputable def S_laws_FnExactWalkList : CSpec := ⟨[(0, .v true [.val T23])], [(0, .v false [.val .bool])], laws_FnExactWalkList⟩
def ann_laws_FnExactWalkList : List (Nat × List (Nat × SSh)) := []
theorem g_laws_FnExactWalkList : Go.Vx.Good Try.prog 6 S_laws_FnExactWalkList := good_of ctx (l := [(9, S_laws_szTree), (11, S_laws_toTree), (13, S_laws_eqTree), (18, S_spec_WalkList), (19, S_impl_WalkList), (20, S_laws_eqIntS), (21, S_laws_markTree), (22, S_laws_markIntS), (23, S_laws_heldIntS)]) (ann := ann_laws_FnExactWalkList) (md := []) (f := Try.f6) ⟨g_laws_szTree, g_laws_toTree, g_laws_eqTree, g_spec_WalkList, g_impl_WalkList, g_laws_eqIntS, g_laws_markTree, g_laws_markIntS, g_laws_heldIntS, trivial⟩ Try.func6 (by kernel_rfl) (fun x => by kernel_rfl)

end Go.VxU
