/-
  The functions, as they read.
-/
import Derived.Test.YtioldhlngmomjaaProg
import Derived.Test.YtioldhlngmomjaaVxUse
set_option linter.unusedSimpArgs false
set_option linter.unusedVariables false
set_option linter.unnecessarySimpa false
namespace Go.VxU
open Go Go.Vx Go.Proofs
set_option maxRecDepth 100000
@[reducible] def T86 : Ty := .pair (.int .i64) (.pair (.int .i64) .unit)
abbrev D86 : Type := Int × Int × Unit
@[reducible] def T84 : Ty := .pair (.int .i64) (.pair (.int .i64) (.pair .str (.pair (.int .i64) (.pair .str (.pair (.int .i64) (.pair .str .unit))))))
abbrev D84 : Type := Int × Int × ByteArray × Int × ByteArray × Int × ByteArray × Unit
@[reducible] def T43 : Ty := .pair (.int .i64) (.pair (.int .i64) (.pair (.sl T86) (.pair (.sl T84) .unit)))
abbrev D43 : Type := Int × Int × (List D86) × (List D84) × Unit
@[reducible] def T47 : Ty := .pair (.int .i64) (.pair (.int .i64) (.pair (.sl T86) (.pair (.sl T84) .unit)))
abbrev D47 : Type := Int × Int × (List D86) × (List D84) × Unit
@[reducible] def T77 : Ty := .pair .str (.pair (.int .i64) .unit)
abbrev D77 : Type := ByteArray × Int × Unit
@[reducible] def T73 : Ty := .pair (.int .i64) (.pair (.int .i64) (.pair .str (.pair (.sl T77) .unit)))
abbrev D73 : Type := Int × Int × ByteArray × (List D77) × Unit
@[reducible] def T30 : Ty := .pair (.sl T73) .unit
abbrev D30 : Type := (List D73) × Unit
@[reducible] def T55 : Ty := .pair (.int .i64) (.pair (.int .i64) (.pair .str (.pair (.sl T77) .unit)))
abbrev D55 : Type := Int × Int × ByteArray × (List D77) × Unit
@[reducible] def T35 : Ty := .pair (.sl T55) .unit
abbrev D35 : Type := (List D55) × Unit
def tab : List (Nat × TI) := [
  (3, ⟨(.int .i64), [], 0, false⟩),
  (4, ⟨.bool, [], 0, false⟩),
  (5, ⟨(.int .u8), [], 0, false⟩),
  (9, ⟨.str, [], 0, false⟩),
  (22, ⟨(.sl T43), [], 44, false⟩),
  (25, ⟨(.sl T47), [], 48, false⟩),
  (29, ⟨(.sl T73), [], 74, false⟩),
  (31, ⟨T30, [(0, 29)], 0, false⟩),
  (34, ⟨(.sl T55), [], 56, false⟩),
  (36, ⟨T35, [(0, 34)], 0, false⟩),
  (41, ⟨(.sl T86), [], 89, false⟩),
  (42, ⟨(.sl T84), [], 85, false⟩),
  (44, ⟨T43, [(0, 3), (1, 3), (2, 41), (3, 42)], 0, false⟩),
  (45, ⟨(.sl T86), [], 87, false⟩),
  (46, ⟨(.sl T84), [], 90, false⟩),
  (48, ⟨T47, [(0, 3), (1, 3), (2, 45), (3, 46)], 0, false⟩),
  (54, ⟨(.sl T77), [], 78, false⟩),
  (56, ⟨T55, [(0, 3), (1, 3), (2, 9), (3, 54)], 0, false⟩),
  (57, ⟨(.sl (.int .i64)), [], 3, false⟩),
  (72, ⟨(.sl T77), [], 100, false⟩),
  (74, ⟨T73, [(0, 3), (1, 3), (2, 9), (3, 72)], 0, false⟩),
  (78, ⟨T77, [(0, 9), (1, 3)], 0, false⟩),
  (80, ⟨(.arr 32 (.int .i64)), [], 3, false⟩),
  (85, ⟨T84, [(0, 3), (1, 3), (2, 9), (3, 3), (4, 9), (5, 3), (6, 9)], 0, false⟩),
  (87, ⟨T86, [(0, 3), (1, 3)], 0, false⟩),
  (89, ⟨T86, [(0, 3), (1, 3)], 0, false⟩),
  (90, ⟨T84, [(0, 3), (1, 3), (2, 9), (3, 3), (4, 9), (5, 3), (6, 9)], 0, false⟩),
  (100, ⟨T77, [(0, 9), (1, 3)], 0, false⟩)]
theorem ctx : Ctx Try.prog tab := ⟨by kernel_rfl, chkTab_ok (by kernel_rfl)⟩

/- laws.szBaseS -/
def fn32 (x0 : (List D86)) (x1 : Int) : Option (Int) :=
  cond (decide ((IntKind.i64.wrap (x1 - (List.length x0 : Int))) < 0)) (some (-1)) (some (IntKind.i64.wrap (x1 - (List.length x0 : Int))))
def S32 : CSpec := ⟨[(0, .v false [.val (.sl T86)]), (1, .v false [.val (.int .i64)])], [(0, .v false [.val (.int .i64)])], fn32⟩
def ann32 : List (Nat × List (Nat × SSh)) := []
theorem g32 : Go.Vx.Good Try.prog 32 S32 := good_of ctx (l := []) (ann := ann32) (f := Try.f32) trivial Try.func32 (by kernel_rfl) (fun x => by kernel_rfl)

/- laws.szOp -/
def fn46 (x0 : D84) (x1 : Int) : Option (Int) :=
  cond (decide ((IntKind.i64.wrap (x1 - (ByteArray.size x0.2.2.1 : Int))) < 0)) (some (-1)) (cond (decide ((IntKind.i64.wrap ((IntKind.i64.wrap (x1 - (ByteArray.size x0.2.2.1 : Int))) - (ByteArray.size x0.2.2.2.2.1 : Int))) < 0)) (some (-1)) (cond (decide ((IntKind.i64.wrap ((IntKind.i64.wrap ((IntKind.i64.wrap (x1 - (ByteArray.size x0.2.2.1 : Int))) - (ByteArray.size x0.2.2.2.2.1 : Int))) - (ByteArray.size x0.2.2.2.2.2.2.1 : Int))) < 0)) (some (-1)) (some (IntKind.i64.wrap ((IntKind.i64.wrap ((IntKind.i64.wrap (x1 - (ByteArray.size x0.2.2.1 : Int))) - (ByteArray.size x0.2.2.2.2.1 : Int))) - (ByteArray.size x0.2.2.2.2.2.2.1 : Int))))))
def S46 : CSpec := ⟨[(0, .v true [.val T84]), (1, .v false [.val (.int .i64)])], [(0, .v false [.val (.int .i64)])], fn46⟩
def ann46 : List (Nat × List (Nat × SSh)) := []
theorem g46 : Go.Vx.Good Try.prog 46 S46 := good_of ctx (l := []) (ann := ann46) (f := Try.f46) trivial Try.func46 (by kernel_rfl) (fun x => by kernel_rfl)

/- laws.szOpS -/
def fn33 (x0 : (List D84)) (x1 : Int) : Option (Int) :=
  cond (decide ((IntKind.i64.wrap (x1 - (List.length x0 : Int))) < 0)) (some (-1)) ((@iter ((List D84) × Int × Int) (((List D84) × Int × Int) ⊕ (Int)) (fun rec2 z1 => cond (decide (z1.2.2 < (List.length z1.1 : Int))) ((idx z1.1 z1.2.2).bind fun y3 => (fn46 y3 z1.2.1).bind fun r4 => cond (decide (r4 < 0)) (some (Sum.inr (-1))) (rec2 (z1.1, r4, (IntKind.i64.wrap (z1.2.2 + 1))))) (some (Sum.inl (z1.1, z1.2.1, z1.2.2)))) FUEL (x0, (IntKind.i64.wrap (x1 - (List.length x0 : Int))), 0)).bind fun o => match o with | Sum.inl z5 => some z5.2.1 | Sum.inr r => some r)
def S33 : CSpec := ⟨[(0, .v false [.val (.sl T84)]), (1, .v false [.val (.int .i64)])], [(0, .v false [.val (.int .i64)])], fn33⟩
def ann33 : List (Nat × List (Nat × SSh)) := [(0, [(0, .v false [.val (.sl T84)]), (1, .v false [.val (.int .i64)]), (5, .v false [.val (.int .i64)])])]
theorem g33 : Go.Vx.Good Try.prog 33 S33 := good_of ctx (l := [(46, S46)]) (ann := ann33) (f := Try.f33) ⟨g46, trivial⟩ Try.func33 (by kernel_rfl) (fun x => by kernel_rfl)

/- laws.szLog -/
def fn18 (x0 : D43) (x1 : Int) : Option (Int) :=
  (fn32 x0.2.2.1 x1).bind fun r1 => cond (decide (r1 < 0)) (some (-1)) ((fn33 x0.2.2.2.1 r1).bind fun r2 => cond (decide (r2 < 0)) (some (-1)) (some r2))
def S18 : CSpec := ⟨[(0, .v true [.val T43]), (1, .v false [.val (.int .i64)])], [(0, .v false [.val (.int .i64)])], fn18⟩
def ann18 : List (Nat × List (Nat × SSh)) := []
theorem g18 : Go.Vx.Good Try.prog 18 S18 := good_of ctx (l := [(32, S32), (33, S33)]) (ann := ann18) (f := Try.f18) ⟨g32, g33, trivial⟩ Try.func18 (by kernel_rfl) (fun x => by kernel_rfl)

/- laws.szLogS -/
def fn6 (x0 : (List D43)) (x1 : Int) : Option (Int) :=
  cond (decide ((IntKind.i64.wrap (x1 - (List.length x0 : Int))) < 0)) (some (-1)) ((@iter ((List D43) × Int × Int) (((List D43) × Int × Int) ⊕ (Int)) (fun rec2 z1 => cond (decide (z1.2.2 < (List.length z1.1 : Int))) ((idx z1.1 z1.2.2).bind fun y3 => (fn18 y3 z1.2.1).bind fun r4 => cond (decide (r4 < 0)) (some (Sum.inr (-1))) (rec2 (z1.1, r4, (IntKind.i64.wrap (z1.2.2 + 1))))) (some (Sum.inl (z1.1, z1.2.1, z1.2.2)))) FUEL (x0, (IntKind.i64.wrap (x1 - (List.length x0 : Int))), 0)).bind fun o => match o with | Sum.inl z5 => some z5.2.1 | Sum.inr r => some r)
def S6 : CSpec := ⟨[(0, .v false [.val (.sl T43)]), (1, .v false [.val (.int .i64)])], [(0, .v false [.val (.int .i64)])], fn6⟩
def ann6 : List (Nat × List (Nat × SSh)) := [(0, [(0, .v false [.val (.sl T43)]), (1, .v false [.val (.int .i64)]), (5, .v false [.val (.int .i64)])])]
theorem g6 : Go.Vx.Good Try.prog 6 S6 := good_of ctx (l := [(18, S18)]) (ann := ann6) (f := Try.f6) ⟨g18, trivial⟩ Try.func6 (by kernel_rfl) (fun x => by kernel_rfl)

/- spec.ToldHas -/
def fn7 (x0 : (List D47)) (x1 : Int) (x2 : Int) : Option (Bool) :=
  (@iter ((List D47) × Int × Int × Int) (((List D47) × Int × Int × Int) ⊕ (Bool)) (fun rec2 z1 => cond (decide (z1.2.2.2 < (List.length z1.1 : Int))) ((idx z1.1 z1.2.2.2).bind fun y3 => cond (y3.1 == z1.2.1) ((idx z1.1 z1.2.2.2).bind fun y4 => cond (y4.2.1 == z1.2.2.1) (Option.map Sum.inr (some true)) (rec2 (z1.1, z1.2.1, z1.2.2.1, (IntKind.i64.wrap (z1.2.2.2 + 1))))) (rec2 (z1.1, z1.2.1, z1.2.2.1, (IntKind.i64.wrap (z1.2.2.2 + 1))))) (some (Sum.inl (z1.1, z1.2.1, z1.2.2.1, z1.2.2.2)))) FUEL (x0, x1, x2, 0)).bind fun o => match o with | Sum.inl z5 => some false | Sum.inr r => some r
def S7 : CSpec := ⟨[(0, .v false [.val (.sl T47)]), (1, .v false [.val (.int .i64)]), (2, .v false [.val (.int .i64)])], [(0, .v false [.val .bool])], fn7⟩
def ann7 : List (Nat × List (Nat × SSh)) := [(0, [(0, .v false [.val (.sl T47)]), (1, .v false [.val (.int .i64)]), (2, .v false [.val (.int .i64)]), (7, .v false [.val (.int .i64)])])]
theorem g7 : Go.Vx.Good Try.prog 7 S7 := good_of ctx (l := []) (ann := ann7) (f := Try.f7) trivial Try.func7 (by kernel_rfl) (fun x => by kernel_rfl)

/- laws.toBase -/
def fn47 (x0 : D86) : Option (D86) :=
  some x0
def S47 : CSpec := ⟨[(0, .v true [.val T86])], [(0, .v true [.val T86])], fn47⟩
def ann47 : List (Nat × List (Nat × SSh)) := []
theorem g47 : Go.Vx.Good Try.prog 47 S47 := good_of ctx (l := []) (ann := ann47) (f := Try.f47) trivial Try.func47 (by kernel_rfl) (fun x => by kernel_rfl)

/- laws.toBaseS -/
def fn34 (x0 : (List D86)) : Option ((List D86)) :=
  cond (decide (0 ≤ (List.length x0 : Int)) && decide ((List.length x0 : Int) ≤ (LIM : Int))) ((@iter ((List D86) × (List D86) × Int) (((List D86) × (List D86) × Int) ⊕ ((List D86))) (fun rec2 z1 => cond (decide (z1.2.2 < (List.length z1.1 : Int))) ((idx z1.1 z1.2.2).bind fun y3 => (fn47 y3).bind fun r4 => cond (inb z1.2.2 (List.length z1.2.1)) ((idx z1.2.1 z1.2.2).bind fun y5 => rec2 (z1.1, (List.set z1.2.1 z1.2.2.toNat r4), (IntKind.i64.wrap (z1.2.2 + 1)))) none) (some (Sum.inl (z1.1, z1.2.1, z1.2.2)))) FUEL (x0, (List.replicate (List.length x0 : Int).toNat ((0, 0, ()) : D86)), 0)).bind fun o => match o with | Sum.inl z6 => some z6.2.1 | Sum.inr r => some r) none
def S34 : CSpec := ⟨[(0, .v false [.val (.sl T86)])], [(0, .v false [.own 87 T86])], fn34⟩
def ann34 : List (Nat × List (Nat × SSh)) := [(0, [(0, .v false [.val (.sl T86)]), (3, .v false [.own 87 T86]), (4, .v false [.val (.int .i64)])])]
theorem g34 : Go.Vx.Good Try.prog 34 S34 := good_of ctx (l := [(47, S47)]) (ann := ann34) (f := Try.f34) ⟨g47, trivial⟩ Try.func34 (by kernel_rfl) (fun x => by kernel_rfl)

/- laws.toOp -/
def fn48 (x0 : D84) : Option (D84) :=
  some x0
def S48 : CSpec := ⟨[(0, .v true [.val T84])], [(0, .v true [.val T84])], fn48⟩
def ann48 : List (Nat × List (Nat × SSh)) := []
theorem g48 : Go.Vx.Good Try.prog 48 S48 := good_of ctx (l := []) (ann := ann48) (f := Try.f48) trivial Try.func48 (by kernel_rfl) (fun x => by kernel_rfl)

/- laws.toOpS -/
def fn35 (x0 : (List D84)) : Option ((List D84)) :=
  cond (decide (0 ≤ (List.length x0 : Int)) && decide ((List.length x0 : Int) ≤ (LIM : Int))) ((@iter ((List D84) × (List D84) × Int) (((List D84) × (List D84) × Int) ⊕ ((List D84))) (fun rec2 z1 => cond (decide (z1.2.2 < (List.length z1.1 : Int))) ((idx z1.1 z1.2.2).bind fun y3 => (fn48 y3).bind fun r4 => cond (inb z1.2.2 (List.length z1.2.1)) ((idx z1.2.1 z1.2.2).bind fun y5 => rec2 (z1.1, (List.set z1.2.1 z1.2.2.toNat r4), (IntKind.i64.wrap (z1.2.2 + 1)))) none) (some (Sum.inl (z1.1, z1.2.1, z1.2.2)))) FUEL (x0, (List.replicate (List.length x0 : Int).toNat ((0, 0, (⟨#[]⟩ : ByteArray), 0, (⟨#[]⟩ : ByteArray), 0, (⟨#[]⟩ : ByteArray), ()) : D84)), 0)).bind fun o => match o with | Sum.inl z6 => some z6.2.1 | Sum.inr r => some r) none
def S35 : CSpec := ⟨[(0, .v false [.val (.sl T84)])], [(0, .v false [.own 90 T84])], fn35⟩
def ann35 : List (Nat × List (Nat × SSh)) := [(0, [(0, .v false [.val (.sl T84)]), (3, .v false [.own 90 T84]), (4, .v false [.val (.int .i64)])])]
theorem g35 : Go.Vx.Good Try.prog 35 S35 := good_of ctx (l := [(48, S48)]) (ann := ann35) (f := Try.f35) ⟨g48, trivial⟩ Try.func35 (by kernel_rfl) (fun x => by kernel_rfl)

/- laws.toLog -/
def fn19 (x0 : D43) : Option (D47) :=
  (fn34 x0.2.2.1).bind fun r1 => (fn35 x0.2.2.2.1).bind fun r2 => some (x0.1, x0.2.1, r1, r2, ())
def S19 : CSpec := ⟨[(0, .v true [.val T43])], [(0, .v true [.val T47])], fn19⟩
def ann19 : List (Nat × List (Nat × SSh)) := []
theorem g19 : Go.Vx.Good Try.prog 19 S19 := good_of ctx (l := [(34, S34), (35, S35)]) (ann := ann19) (f := Try.f19) ⟨g34, g35, trivial⟩ Try.func19 (by kernel_rfl) (fun x => by kernel_rfl)

/- laws.toLogS -/
def fn8 (x0 : (List D43)) : Option ((List D47)) :=
  cond (decide (0 ≤ (List.length x0 : Int)) && decide ((List.length x0 : Int) ≤ (LIM : Int))) ((@iter ((List D43) × (List D47) × Int) (((List D43) × (List D47) × Int) ⊕ ((List D47))) (fun rec2 z1 => cond (decide (z1.2.2 < (List.length z1.1 : Int))) ((idx z1.1 z1.2.2).bind fun y3 => (fn19 y3).bind fun r4 => cond (inb z1.2.2 (List.length z1.2.1)) ((idx z1.2.1 z1.2.2).bind fun y5 => rec2 (z1.1, (List.set z1.2.1 z1.2.2.toNat r4), (IntKind.i64.wrap (z1.2.2 + 1)))) none) (some (Sum.inl (z1.1, z1.2.1, z1.2.2)))) FUEL (x0, (List.replicate (List.length x0 : Int).toNat ((0, 0, [], [], ()) : D47)), 0)).bind fun o => match o with | Sum.inl z6 => some z6.2.1 | Sum.inr r => some r) none
def S8 : CSpec := ⟨[(0, .v false [.val (.sl T43)])], [(0, .v false [.own 48 T47])], fn8⟩
def ann8 : List (Nat × List (Nat × SSh)) := [(0, [(0, .v false [.val (.sl T43)]), (3, .v false [.own 48 T47]), (4, .v false [.val (.int .i64)])])]
theorem g8 : Go.Vx.Good Try.prog 8 S8 := good_of ctx (l := [(19, S19)]) (ann := ann8) (f := Try.f8) ⟨g19, trivial⟩ Try.func8 (by kernel_rfl) (fun x => by kernel_rfl)

/- impl.ToldHas -/
def fn9 (x0 : (List D47)) (x1 : Int) (x2 : Int) : Option (Bool) :=
  (@iter (Int × Int × (List D47) × Int × Int) ((Int × Int × (List D47) × Int × Int) ⊕ (Bool)) (fun rec2 z1 => cond (decide (z1.2.2.2.2 < z1.2.2.2.1)) ((idx z1.2.2.1 z1.2.2.2.2).bind fun y3 => cond (y3.1 == z1.1) (cond (y3.2.1 == z1.2.1) (Option.map Sum.inr (some true)) (rec2 (z1.1, z1.2.1, z1.2.2.1, z1.2.2.2.1, (IntKind.i64.wrap (z1.2.2.2.2 + 1))))) (rec2 (z1.1, z1.2.1, z1.2.2.1, z1.2.2.2.1, (IntKind.i64.wrap (z1.2.2.2.2 + 1))))) (some (Sum.inl (z1.1, z1.2.1, z1.2.2.1, z1.2.2.2.1, z1.2.2.2.2)))) FUEL (x1, x2, x0, (List.length x0 : Int), 0)).bind fun o => match o with | Sum.inl z4 => some false | Sum.inr r => some r
def S9 : CSpec := ⟨[(0, .v false [.val (.sl T47)]), (1, .v false [.val (.int .i64)]), (2, .v false [.val (.int .i64)])], [(0, .v false [.val .bool])], fn9⟩
def ann9 : List (Nat × List (Nat × SSh)) := [(0, [(1, .v false [.val (.int .i64)]), (2, .v false [.val (.int .i64)]), (9, .v false [.val (.sl T47)]), (10, .v false [.val (.int .i64)]), (11, .v false [.val (.int .i64)])])]
theorem g9 : Go.Vx.Good Try.prog 9 S9 := good_of ctx (l := []) (ann := ann9) (f := Try.f9) trivial Try.func9 (by kernel_rfl) (fun x => by kernel_rfl)

/- laws.eqBase -/
def fn49 (x0 : D86) (x1 : D86) : Option (Bool) :=
  cond (!(x0.1 == x1.1)) (some false) (cond (!(x0.2.1 == x1.2.1)) (some false) (some true))
def S49 : CSpec := ⟨[(0, .v true [.val T86]), (1, .v true [.val T86])], [(0, .v false [.val .bool])], fn49⟩
def ann49 : List (Nat × List (Nat × SSh)) := []
theorem g49 : Go.Vx.Good Try.prog 49 S49 := good_of ctx (l := []) (ann := ann49) (f := Try.f49) trivial Try.func49 (by kernel_rfl) (fun x => by kernel_rfl)

/- laws.eqBaseS -/
def fn36 (x0 : (List D86)) (x1 : (List D86)) : Option (Bool) :=
  cond (!((List.length x0 : Int) == (List.length x1 : Int))) (some false) ((@iter ((List D86) × (List D86) × Int) (((List D86) × (List D86) × Int) ⊕ (Bool)) (fun rec2 z1 => cond (decide (z1.2.2 < (List.length z1.1 : Int))) ((idx z1.1 z1.2.2).bind fun y3 => (idx z1.2.1 z1.2.2).bind fun y4 => (fn49 y3 y4).bind fun r5 => cond (!r5) (Option.map Sum.inr (some false)) (rec2 (z1.1, z1.2.1, (IntKind.i64.wrap (z1.2.2 + 1))))) (some (Sum.inl (z1.1, z1.2.1, z1.2.2)))) FUEL (x0, x1, 0)).bind fun o => match o with | Sum.inl z6 => some true | Sum.inr r => some r)
def S36 : CSpec := ⟨[(0, .v false [.val (.sl T86)]), (1, .v false [.val (.sl T86)])], [(0, .v false [.val .bool])], fn36⟩
def ann36 : List (Nat × List (Nat × SSh)) := [(0, [(0, .v false [.val (.sl T86)]), (1, .v false [.val (.sl T86)]), (5, .v false [.val (.int .i64)])])]
theorem g36 : Go.Vx.Good Try.prog 36 S36 := good_of ctx (l := [(49, S49)]) (ann := ann36) (f := Try.f36) ⟨g49, trivial⟩ Try.func36 (by kernel_rfl) (fun x => by kernel_rfl)

/- laws.eqOp -/
def fn50 (x0 : D84) (x1 : D84) : Option (Bool) :=
  cond (!(x0.1 == x1.1)) (some false) (cond (!(x0.2.1 == x1.2.1)) (some false) (cond (!(ByteArray.toList x0.2.2.1 == ByteArray.toList x1.2.2.1)) (some false) (cond (!(x0.2.2.2.1 == x1.2.2.2.1)) (some false) (cond (!(ByteArray.toList x0.2.2.2.2.1 == ByteArray.toList x1.2.2.2.2.1)) (some false) (cond (!(x0.2.2.2.2.2.1 == x1.2.2.2.2.2.1)) (some false) (cond (!(ByteArray.toList x0.2.2.2.2.2.2.1 == ByteArray.toList x1.2.2.2.2.2.2.1)) (some false) (some true)))))))
def S50 : CSpec := ⟨[(0, .v true [.val T84]), (1, .v true [.val T84])], [(0, .v false [.val .bool])], fn50⟩
def ann50 : List (Nat × List (Nat × SSh)) := []
theorem g50 : Go.Vx.Good Try.prog 50 S50 := good_of ctx (l := []) (ann := ann50) (f := Try.f50) trivial Try.func50 (by kernel_rfl) (fun x => by kernel_rfl)

/- laws.eqOpS -/
def fn37 (x0 : (List D84)) (x1 : (List D84)) : Option (Bool) :=
  cond (!((List.length x0 : Int) == (List.length x1 : Int))) (some false) ((@iter ((List D84) × (List D84) × Int) (((List D84) × (List D84) × Int) ⊕ (Bool)) (fun rec2 z1 => cond (decide (z1.2.2 < (List.length z1.1 : Int))) ((idx z1.1 z1.2.2).bind fun y3 => (idx z1.2.1 z1.2.2).bind fun y4 => (fn50 y3 y4).bind fun r5 => cond (!r5) (Option.map Sum.inr (some false)) (rec2 (z1.1, z1.2.1, (IntKind.i64.wrap (z1.2.2 + 1))))) (some (Sum.inl (z1.1, z1.2.1, z1.2.2)))) FUEL (x0, x1, 0)).bind fun o => match o with | Sum.inl z6 => some true | Sum.inr r => some r)
def S37 : CSpec := ⟨[(0, .v false [.val (.sl T84)]), (1, .v false [.val (.sl T84)])], [(0, .v false [.val .bool])], fn37⟩
def ann37 : List (Nat × List (Nat × SSh)) := [(0, [(0, .v false [.val (.sl T84)]), (1, .v false [.val (.sl T84)]), (5, .v false [.val (.int .i64)])])]
theorem g37 : Go.Vx.Good Try.prog 37 S37 := good_of ctx (l := [(50, S50)]) (ann := ann37) (f := Try.f37) ⟨g50, trivial⟩ Try.func37 (by kernel_rfl) (fun x => by kernel_rfl)

/- laws.eqLog -/
def fn20 (x0 : D47) (x1 : D47) : Option (Bool) :=
  cond (!(x0.1 == x1.1)) (some false) (cond (!(x0.2.1 == x1.2.1)) (some false) ((fn36 x0.2.2.1 x1.2.2.1).bind fun r1 => cond (!r1) (some false) ((fn37 x0.2.2.2.1 x1.2.2.2.1).bind fun r2 => cond (!r2) (some false) (some true))))
def S20 : CSpec := ⟨[(0, .v true [.val T47]), (1, .v true [.val T47])], [(0, .v false [.val .bool])], fn20⟩
def ann20 : List (Nat × List (Nat × SSh)) := []
theorem g20 : Go.Vx.Good Try.prog 20 S20 := good_of ctx (l := [(36, S36), (37, S37)]) (ann := ann20) (f := Try.f20) ⟨g36, g37, trivial⟩ Try.func20 (by kernel_rfl) (fun x => by kernel_rfl)

/- laws.eqLogS -/
def fn10 (x0 : (List D47)) (x1 : (List D47)) : Option (Bool) :=
  cond (!((List.length x0 : Int) == (List.length x1 : Int))) (some false) ((@iter ((List D47) × (List D47) × Int) (((List D47) × (List D47) × Int) ⊕ (Bool)) (fun rec2 z1 => cond (decide (z1.2.2 < (List.length z1.1 : Int))) ((idx z1.1 z1.2.2).bind fun y3 => (idx z1.2.1 z1.2.2).bind fun y4 => (fn20 y3 y4).bind fun r5 => cond (!r5) (Option.map Sum.inr (some false)) (rec2 (z1.1, z1.2.1, (IntKind.i64.wrap (z1.2.2 + 1))))) (some (Sum.inl (z1.1, z1.2.1, z1.2.2)))) FUEL (x0, x1, 0)).bind fun o => match o with | Sum.inl z6 => some true | Sum.inr r => some r)
def S10 : CSpec := ⟨[(0, .v false [.val (.sl T47)]), (1, .v false [.val (.sl T47)])], [(0, .v false [.val .bool])], fn10⟩
def ann10 : List (Nat × List (Nat × SSh)) := [(0, [(0, .v false [.val (.sl T47)]), (1, .v false [.val (.sl T47)]), (5, .v false [.val (.int .i64)])])]
theorem g10 : Go.Vx.Good Try.prog 10 S10 := good_of ctx (l := [(20, S20)]) (ann := ann10) (f := Try.f10) ⟨g20, trivial⟩ Try.func10 (by kernel_rfl) (fun x => by kernel_rfl)

/- laws.FnExactToldHas -/
def fn3 (x0 : (List D43)) (x1 : Int) (x2 : Int) : Option (Bool) :=
  (fn6 x0 1048576).bind fun r1 => cond (decide (r1 < 0)) (some true) ((fn8 x0).bind fun r2 => (fn7 r2 x1 x2).bind fun r3 => (fn8 x0).bind fun r4 => (fn9 r4 x1 x2).bind fun r5 => cond (!(r5 == r3)) (some false) ((fn8 x0).bind fun r6 => (fn10 r4 r6).bind fun r7 => cond (!r7) (some false) (some true)))
def S3 : CSpec := ⟨[(0, .v false [.val (.sl T43)]), (1, .v false [.val (.int .i64)]), (2, .v false [.val (.int .i64)])], [(0, .v false [.val .bool])], fn3⟩
def ann3 : List (Nat × List (Nat × SSh)) := []
theorem g3 : Go.Vx.Good Try.prog 3 S3 := good_of ctx (l := [(6, S6), (7, S7), (8, S8), (9, S9), (10, S10)]) (ann := ann3) (f := Try.f3) ⟨g6, g7, g8, g9, g10, trivial⟩ Try.func3 (by kernel_rfl) (fun x => by kernel_rfl)

end Go.VxU
