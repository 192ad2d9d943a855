/-
  A reader of the model's code that computes with plain data: no memory, no schedule. Definitions alone.
-/
import Derived.Test.YtgdfaamcmkfkcaaVxBase
set_option linter.unusedSimpArgs false
set_option linter.unusedVariables false
set_option linter.unnecessarySimpa false
namespace Go.Vx

/-- One cell's worth of what the reader knows (an array: all its cells). -/
inductive Leaf where
  | undef
  | int (k : IntKind) (x : Int)
  | bool (b : Bool)
  | str (s : ByteArray)
  | sl (e : Ty) (xs : List e.den)
  | nil
  | arr (n : Nat) (e : Ty) (xs : List e.den)
  | hdr (n : Nat)
  | sub (n : Nat) (lo hi : Int)
  | box (n off : Nat)
  | belem (n off esz : Nat) (i : Int)
  | ro (t : Ty) (x : t.den)
  | row (n : Nat) (i : Int) (off : Nat)
  | fn (f : Nat) (caps : List Nat)

def Leaf.size : Leaf → Nat
  | .arr n e _ => n * e.size
  | _ => 1

/-- A slot. 'un': an operation that was passed over. -/
inductive AV where
  | no
  | un
  | sc (l : Leaf)
  | ag (ls : List Leaf)
  | tup (vs : List (Bool × List Leaf))

inductive AObj where
  | none
  | dead
  | box (ls : List Leaf)
  | row (tid : Nat) (e : Ty) (xs : List e.den)
  /-- A row whose elements' rows are held alone (of the first k, if k is said); h: the row at (element, cell) is another object just now. -/
  | deep (tid : Nat) (d : DTy) (k : Option Int) (xs : List d.ty.den) (h : Option (Int × Nat × Nat))

structure St where
  env : Nat → AV
  obj : Nat → AObj

structure TI where
  ty : Ty
  flds : List (Nat × Nat)
  elem : Nat
  eq : Bool

/-- What is handed over: 'val': data; 'own': a row, given away; 'row': a row, lent to be written; 'box': a variable, lent. -/
inductive Cm where
  | val (t : Ty)
  | own (tid : Nat) (e : Ty)
  | row (tid : Nat) (e : Ty)
  | box (t : Ty)
  /-- A row with rows of its own, given away; pt: of its first so many elements. -/
  | dp (pt : Bool) (tid : Nat) (d : DTy)
  /-- The same, all of it, lent. -/
  | dlent (tid : Nat) (d : DTy)

@[reducible] def DT (pt : Bool) (d : DTy) : Type := match pt with
  | true => Int × List d.ty.den
  | false => List d.ty.den

@[reducible] def Cm.T : Cm → Type
  | .val t => t.den
  | .own _ e => List e.den
  | .row _ e => List e.den
  | .box t => t.den
  | .dp pt _ d => DT pt d
  | .dlent _ d => List d.ty.den

def dK : (pt : Bool) → {d : DTy} → DT pt d → Option Int
  | true, _, x => some x.1
  | false, _, _ => none
def dXs : (pt : Bool) → {d : DTy} → DT pt d → List d.ty.den
  | true, _, x => x.2
  | false, _, x => x

/-- A slot that is handed over: its cells; or a variable's address with the variable's cells. -/
inductive SSh where
  | v (agg : Bool) (ls : List Cm)
  | ptr (ls : List Cm)

@[reducible] def Fn : List Cm → Type → Type
  | [], R => R
  | c :: cs, R => c.T → Fn cs R

@[reducible] def HL : List Cm → Type
  | [] => Unit
  | c :: cs => c.T × HL cs

@[reducible] def Prods : List Cm → Type
  | [] => Unit
  | [c] => c.T
  | c :: d :: r => c.T × Prods (d :: r)

def Fn.app {R : Type} : (cs : List Cm) → Fn cs R → HL cs → R
  | [], f, _ => f
  | _ :: cs, f, x => Fn.app cs (f x.1) x.2

def Fn.lam {R : Type} : (cs : List Cm) → (HL cs → R) → Fn cs R
  | [], f => f ()
  | _ :: cs, f => fun x => Fn.lam cs fun y => f (x, y)

def toHL : (cs : List Cm) → Prods cs → HL cs
  | [], _ => ()
  | [_], x => (x, ())
  | _ :: d :: r, x => (x.1, toHL (d :: r) x.2)

def ofHL : (cs : List Cm) → HL cs → Prods cs
  | [], _ => ()
  | [_], x => x.1
  | _ :: d :: r, x => (x.1, ofHL (d :: r) x.2)

def saveC : List (Nat × SSh) → List Cm
  | [] => []
  | (_, .v _ ls) :: r => ls ++ saveC r
  | (_, .ptr ls) :: r => ls ++ saveC r

/-- What comes back of what was lent. -/
def iosC : List Cm → List Cm
  | [] => []
  | .row t e :: r => .row t e :: iosC r
  | .box t :: r => .box t :: iosC r
  | .dlent t d :: r => .dlent t d :: iosC r
  | .val _ :: r => iosC r
  | .own _ _ :: r => iosC r
  | .dp _ _ _ :: r => iosC r

/-- What a function takes and gives: slots by number. -/
structure CSpec where
  ins : List (Nat × SSh)
  outs : List (Nat × SSh)
  fn : Fn (saveC ins) (Option (Prods (saveC outs ++ iosC (saveC ins))))

def CSpec.call (S : CSpec) (x : HL (saveC S.ins)) : Option (Prods (saveC S.outs ++ iosC (saveC S.ins))) := Fn.app _ S.fn x

def Cm.flat : Cm → Bool
  | .val t => t.flat
  | .own _ e => e.flat
  | .row _ e => e.flat
  | .box t => t.flat
  | .dp pt _ _ => !pt
  | .dlent _ _ => true

def CSpec.flat (S : CSpec) : Bool := (saveC S.outs).all Cm.flat && (iosC (saveC S.ins)).all Cm.flat

def noLent : List Cm → Bool
  | [] => true
  | .val _ :: r => noLent r
  | .own _ _ :: r => noLent r
  | .dp _ _ _ :: r => noLent r
  | _ => false

/-- The slots of what is lent: they are not written. -/
def keepOf : List (Nat × SSh) → List Nat
  | [] => []
  | (s, .v _ cs) :: r => cond (noLent cs) (keepOf r) (s :: keepOf r)
  | (_, .ptr _) :: r => keepOf r

/-- What turns nothing in memory: a row's inner rows are data from now on; a hole is closed; the inner rows so far are shared; all inner rows are its own. -/
inductive Gst where
  | freeze (n : Nat)
  | close (n : Nat)
  | part (n : Nat) (d : DTy)
  | full (n : Nat)

/-- Another reading of an operation: a row within a row is taken out; is looked at; a row is made with rows of its own. -/
inductive Sp where
  | plain
  | opn
  | peek
  | deep (d : DTy)

structure Md where
  pre : List Gst
  sp : Sp
  post : List Gst

structure Cfg where
  Θ : Nat → Option TI
  Γ : Nat → Option CSpec
  ann : Nat → Option (List (Nat × SSh))
  N : Nat
  keep : List Nat
  md : Nat → Option Md

/-! ### data and leaves -/

def leavesOf : (t : Ty) → t.den → List Leaf
  | .int k, x => [.int k x]
  | .bool, x => [.bool x]
  | .str, x => [.str x]
  | .sl e, x => [.sl e x]
  | .unit, _ => []
  | .pair a b, x => leavesOf a x.1 ++ leavesOf b x.2
  | .arr n e, x => [.arr n e x]

def castL (e' e : Ty) (xs : List e'.den) : Option (List e.den) := if h : e' = e then some (h ▸ xs) else none

def ofLeaves : (t : Ty) → List Leaf → Option (t.den × List Leaf)
  | .int k, .int k' x :: r => if k' = k then some (x, r) else none
  | .bool, .bool x :: r => some (x, r)
  | .str, .str x :: r => some (x, r)
  | .sl _, .nil :: r => some ([], r)
  | .sl e, .sl e' xs :: r => match castL e' e xs with | some ys => some (ys, r) | none => none
  | .unit, r => some ((), r)
  | .pair a b, r =>
    match ofLeaves a r with
    | none => none
    | some (x, r1) => match ofLeaves b r1 with
      | none => none
      | some (y, r2) => some ((x, y), r2)
  | .arr n e, .arr n' e' xs :: r => if n' = n then (match castL e' e xs with | some ys => some (ys, r) | none => none) else none
  | _, _ => none

def sizes : List Leaf → Nat
  | [] => 0
  | l :: ls => l.size + sizes ls

/-- The leaves that cover the first n cells, and the rest. -/
def takeC : List Leaf → Nat → Option (List Leaf × List Leaf)
  | ls, 0 => some ([], ls)
  | [], _ + 1 => none
  | l :: ls, n + 1 =>
    cond (Nat.ble l.size (n + 1)) (match takeC ls (n + 1 - l.size) with | some (x, y) => some (l :: x, y) | none => none) none

def midC (ls : List Leaf) (off n : Nat) : Option (List Leaf) :=
  match takeC ls off with
  | none => none
  | some (_, r) => match takeC r n with
    | none => none
    | some (m, _) => some m

def spliceC (ls : List Leaf) (off : Nat) (new : List Leaf) : Option (List Leaf) :=
  match takeC ls off with
  | none => none
  | some (p, r) => match takeC r (sizes new) with
    | none => none
    | some (_, q) => some (p ++ new ++ q)

def mkAV (agg : Bool) (ls : List Leaf) : AV :=
  match agg with
  | true => .ag ls
  | false => match ls with
    | [l] => .sc l
    | _ => .no

def AV.leaves : AV → Option (List Leaf)
  | .sc l => some [l]
  | .ag ls => some ls
  | _ => none

def subL {α : Type} (xs : List α) (lo hi : Int) : Option (List α) :=
  cond (decide (0 ≤ lo) && decide (lo ≤ hi) && decide (hi ≤ (xs.length : Int))) (some ((xs.take hi.toNat).drop lo.toNat)) none

def subS (s : ByteArray) (lo hi : Int) : Option ByteArray :=
  cond (decide (0 ≤ lo) && decide (lo ≤ hi) && decide (hi ≤ (s.size : Int))) (some (s.extract lo.toNat hi.toNat)) none

def idx {α : Type} (xs : List α) (i : Int) : Option α := cond (decide (0 ≤ i)) (xs[i.toNat]?) none

def inb (i : Int) (n : Nat) : Bool := decide (0 ≤ i) && decide (i < (n : Int))

def idxB (s : ByteArray) (i : Int) : Option Int := cond (decide (0 ≤ i)) ((s[i.toNat]?).map fun b => (b.toNat : Int)) none

/-- A header as data: what it shows now. -/
def reify (obj : Nat → AObj) : Leaf → Leaf
  | .hdr n => match obj n with
    | .row _ e xs => .sl e xs
    | .deep _ d _ xs none => .sl d.ty xs
    | _ => .undef
  | .sub n lo hi => match obj n with
    | .row _ e xs => .sl e ((xs.take hi.toNat).drop lo.toNat)
    | _ => .undef
  | l => l

/-- The rows that a leaf shows. -/
def shown : List Leaf → List Nat
  | [] => []
  | .hdr n :: r => n :: shown r
  | .sub n _ _ :: r => n :: shown r
  | _ :: r => shown r

def St.put (st : St) (d : Option Nat) (v : AV) : St :=
  match d with
  | none => st
  | some d => { st with env := fun i => cond (Nat.beq i d) v (st.env i) }

def setO (obj : Nat → AObj) (n : Nat) (o : AObj) : Nat → AObj := fun i => cond (Nat.beq i n) o (obj i)

def killO (obj : Nat → AObj) : List Nat → Nat → AObj
  | [] => obj
  | n :: ns => killO (setO obj n .dead) ns

def constL : Value → Option Leaf
  | .int k n => some (.int k n)
  | .bool b => some (.bool b)
  | .string s => some (.str s)
  | .slice none 0 0 => some .nil
  | _ => none

def constLs : List Value → Option (List Leaf)
  | [] => some []
  | v :: vs => match constL v, constLs vs with
    | some l, some ls => some (l :: ls)
    | _, _ => none

def constV : Value → AV
  | .agg cs => match constLs cs.toList with
    | some ls => .ag ls
    | none => .no
  | v => match constL v with
    | some l => .sc l
    | none => .no

def val (st : St) : Operand → AV
  | .tmp t => st.env t
  | .const v => constV v
  | .global _ => .no
  | .func f => .sc (.fn f [])

/-! ### operations that only compute -/

inductive Eff : Type 1 where
  | fail
  | val (v : AV)
  | opt {α : Type} (m : Option α) (f : α → AV)
  | guard (b : Bool) (v : AV)
  | ite (b : Bool) (x y : AV)

def Eff.go {R : Type} (e : Eff) (k : AV → Option R) : Option R :=
  match e with
  | .fail => none
  | .val v => k v
  | .opt m f => m.bind fun y => k (f y)
  | .guard b v => cond b (k v) none
  | .ite b x y => cond b (k x) (k y)

/-- T is a slice type of elements of so many cells. -/
def isSl (C : Cfg) (T sz : Nat) : Bool := match C.Θ T with
  | some ti => match ti.ty, C.Θ ti.elem with
    | .sl _, some te => Nat.beq te.ty.size sz
    | _, _ => false
  | none => false

/-- T is an array type of m elements of so many cells. -/
def isAr (C : Cfg) (T m sz : Nat) : Bool := match C.Θ T with
  | some ti => match ti.ty, C.Θ ti.elem with
    | .arr m' _, some te => Nat.beq m' m && Nat.beq te.ty.size sz
    | _, _ => false
  | none => false

def nth : (t : Ty) → t.den → Nat → Option (Nat × (t : Ty) × t.den)
  | .pair a _, x, 0 => some (0, ⟨a, x.1⟩)
  | .pair a b, x, k + 1 => match nth b x.2 k with
    | some (o, y) => some (a.size + o, y)
    | none => none
  | _, _, _ => none

def roLeaf (off : Nat) : Option (Nat × (t : Ty) × t.den) → Eff
  | some (o, ⟨t, y⟩) => cond (Nat.beq o off) (.val (.sc (.ro t y))) .fail
  | none => .fail

/-- No slice among them. -/
def flatLs : List Leaf → Bool
  | [] => true
  | .int _ _ :: r => flatLs r
  | .bool _ :: r => flatLs r
  | .str _ :: r => flatLs r
  | _ => false

def opLoad (C : Cfg) (st : St) (T : Nat) (p : AV) : Eff :=
  match C.Θ T, p with
  | some ti, .sc (.box n off) => match st.obj n with
    | .box ls => match midC ls off ti.ty.size with
      | some m => .val (mkAV ti.ty.agg m)
      | none => .fail
    | _ => .fail
  | some ti, .sc (.ro t x) => cond (Nat.beq t.size ti.ty.size && (t.agg == ti.ty.agg)) (.val (mkAV ti.ty.agg (leavesOf t x))) .fail
  | some ti, .sc (.row n i off) => match st.obj n with
    | .row _ e xs => cond (Nat.ble (off + ti.ty.size) e.size) (.opt (idx xs i) fun x => match midC (leavesOf e x) off ti.ty.size with
      | some m => mkAV ti.ty.agg m
      | none => .no) .fail
    | .deep _ d _ xs none => cond (Nat.ble (off + ti.ty.size) d.ty.size) (.opt (idx xs i) fun x => match midC (leavesOf d.ty x) off ti.ty.size with
      | some m => cond (flatLs m) (mkAV ti.ty.agg m) .no
      | none => .no) .fail
    | _ => .fail
  | some ti, .sc (.belem n off sz i) => match st.obj n with
    | .box ls => match takeC ls off with
      | some (_, .arr _ e xs :: _) => cond (Nat.beq e.size sz && Nat.beq sz ti.ty.size && (e.agg == ti.ty.agg)) (.opt (idx xs i) fun x => mkAV ti.ty.agg (leavesOf e x)) .fail
      | _ => .fail
    | _ => .fail
  | _, _ => .fail

def opField (C : Cfg) (st : St) (s f : Nat) (p : AV) : Eff :=
  match C.Θ s with
  | none => .fail
  | some ti => match ti.flds[f]? with
    | none => .fail
    | some (off, _) => match p with
      | .sc (.box n o) => match st.obj n with
        | .box _ => .val (.sc (.box n (o + off)))
        | _ => .fail
      | .sc (.row n i o) => match st.obj n with
        | .row _ _ _ => .val (.sc (.row n i (o + off)))
        | .deep _ _ _ _ _ => .val (.sc (.row n i (o + off)))
        | _ => .fail
      | .sc (.ro t x) => roLeaf off (nth t x f)
      | _ => .fail

def opIndexAddr (C : Cfg) (st : St) (T : Nat) (x i : AV) : Eff :=
  match i with
  | .sc (.int _ i) => match x with
    | .sc (.sl e xs) => cond (isSl C T e.size) (.opt (idx xs i) fun y => .sc (.ro e y)) .fail
    | .sc (.hdr n) => match st.obj n with
      | .row _ e xs => cond (isSl C T e.size) (.guard (inb i (List.length xs)) (.sc (.row n i 0))) .fail
      | .deep _ d _ xs _ => cond (isSl C T d.ty.size) (.guard (inb i (List.length xs)) (.sc (.row n i 0))) .fail
      | _ => .fail
    | .sc (.box n off) => match st.obj n with
      | .box ls => match takeC ls off with
        | some (_, .arr m e _ :: _) => cond (isAr C T m e.size) (.guard (inb i m) (.sc (.belem n off e.size i))) .fail
        | _ => .fail
      | _ => .fail
    | .sc (.ro (.arr m e) xs) => cond (isAr C T m e.size) (.opt (idx xs i) fun y => .sc (.ro e y)) .fail
    | _ => .fail
  | _ => .fail

def opIndex (C : Cfg) (T : Nat) (x i : AV) : Eff :=
  match i with
  | .sc (.int _ i) => match x with
    | .sc (.str s) => match C.Θ T with
      | some ti => match ti.ty with
        | .str => .opt (idxB s i) fun c => .sc (.int .u8 c)
        | _ => .fail
      | none => .fail
    | _ => .fail
  | _ => .fail

def boundAt (d : Int) : Option AV → Option Int
  | none => some d
  | some (.sc (.int _ i)) => some i
  | some _ => none

def tyIs (C : Cfg) (T : Nat) (f : Ty → Bool) : Bool := match C.Θ T with
  | some ti => f ti.ty
  | none => false

def isStrTy : Ty → Bool
  | .str => true
  | _ => false

def opSlice (C : Cfg) (st : St) (T : Nat) (x : AV) (lo hi : Option AV) : Eff :=
  match x with
  | .sc (.str s) => match boundAt 0 lo, boundAt s.size hi with
    | some l, some h => cond (tyIs C T isStrTy) (.opt (subS s l h) fun t => .sc (.str t)) .fail
    | _, _ => .fail
  | .sc (.sl e xs) => match boundAt 0 lo, boundAt (List.length xs) hi with
    | some l, some h => cond (isSl C T e.size) (.opt (subL xs l h) fun ys => .sc (.sl e ys)) .fail
    | _, _ => .fail
  | .sc (.hdr n) => match st.obj n with
    | .row _ e xs => match boundAt 0 lo, boundAt (List.length xs) hi with
      | some l, some h => cond (isSl C T e.size) (.guard (decide (0 ≤ l) && decide (l ≤ h) && decide (h ≤ (List.length xs : Int))) (.sc (.sub n l h))) .fail
      | _, _ => .fail
    | _ => .fail
  | _ => .fail

def quoO (k : IntKind) (a b : Int) : Option Int := cond (b == 0) none (some (k.wrap (a.tdiv b)))
def remO (a b : Int) : Option Int := cond (b == 0) none (some (a.tmod b))

def bytesEq (a b : ByteArray) : Bool := a.toList == b.toList

def eqL : Leaf → Leaf → Option Bool
  | .int k a, .int k' b => if k = k' then some (a == b) else none
  | .bool a, .bool b => some (a == b)
  | .str a, .str b => some (a == b)
  | _, _ => none

def eqLs : List Leaf → List Leaf → Option Bool
  | [], [] => some true
  | [a], [b] => eqL a b
  | a :: as, b :: bs => match eqL a b, eqLs as bs with
    | some x, some y => some (x && y)
    | _, _ => none
  | _, _ => none

def bits (op : BinOp) (k : IntKind) (a b : Int) : Int :=
  k.wrap (match op with
    | .and => BitVec.ofInt k.bits a &&& BitVec.ofInt k.bits b
    | .or => BitVec.ofInt k.bits a ||| BitVec.ofInt k.bits b
    | .xor => BitVec.ofInt k.bits a ^^^ BitVec.ofInt k.bits b
    | _ => BitVec.ofInt k.bits a &&& ~~~(BitVec.ofInt k.bits b)).toNat

def opInt (op : BinOp) (k : IntKind) (a b : Int) : Eff :=
  match op with
  | .add => .val (.sc (.int k (k.wrap (a + b))))
  | .sub => .val (.sc (.int k (k.wrap (a - b))))
  | .mul => .val (.sc (.int k (k.wrap (a * b))))
  | .quo => .opt (quoO k a b) fun c => .sc (.int k c)
  | .rem => .opt (remO a b) fun c => .sc (.int k c)
  | .and | .or | .xor | .andNot => .val (.sc (.int k (bits op k a b)))
  | .eql => .val (.sc (.bool (a == b)))
  | .neq => .val (.sc (.bool (a != b)))
  | .lss => .val (.sc (.bool (decide (a < b))))
  | .leq => .val (.sc (.bool (decide (a ≤ b))))
  | .gtr => .val (.sc (.bool (decide (a > b))))
  | .geq => .val (.sc (.bool (decide (a ≥ b))))
  | _ => .fail

def opStr (op : BinOp) (a b : ByteArray) : Eff :=
  match op with
  | .add => .guard (decide (a.size + b.size ≤ 4611686018427387904)) (.sc (.str (a ++ b)))
  | .eql => .val (.sc (.bool (a.toList == b.toList)))
  | .neq => .val (.sc (.bool (!(a.toList == b.toList))))
  | .lss => .val (.sc (.bool (Op.bytesLess a.toList b.toList)))
  | .leq => .val (.sc (.bool (Op.bytesLess a.toList b.toList || a.toList == b.toList)))
  | .gtr => .val (.sc (.bool (!(Op.bytesLess a.toList b.toList || a.toList == b.toList))))
  | .geq => .val (.sc (.bool (!(Op.bytesLess a.toList b.toList))))
  | _ => .fail

def isBoolTy : Ty → Bool
  | .bool => true
  | _ => false

def opBool (op : BinOp) (a b : Bool) : Eff :=
  match op with
  | .eql => .val (.sc (.bool (a == b)))
  | .neq => .val (.sc (.bool (!(a == b))))
  | _ => .fail

/-- Structs that '==' goes through: all their parts whole numbers, bools, strings, and none is named '_'. -/
def opBin (C : Cfg) (op : BinOp) (T : Nat) (x y : AV) : Eff :=
  match x, y with
  | .sc (.int k a), .sc (.int k' b) => cond (decide (k = k')) (opInt op k a b) .fail
  | .sc (.str a), .sc (.str b) => opStr op a b
  | .sc (.bool a), .sc (.bool b) => cond (tyIs C T isBoolTy) (opBool op a b) .fail
  | _, _ => .fail

def sameKind : Leaf → Leaf → Bool
  | .int k _, .int k' _ => decide (k = k')
  | .bool _, .bool _ => true
  | .str _, .str _ => true
  | _, _ => false

def sameKinds : List Leaf → List Leaf → Bool
  | [], [] => true
  | a :: as, b :: bs => sameKind a b && sameKinds as bs
  | _, _ => false

/-- The leaves of a zero value. -/
def zleaves : Ty → List Leaf
  | .int k => [.int k 0]
  | .bool => [.bool false]
  | .str => [.str ⟨#[]⟩]
  | .sl _ => [.nil]
  | .unit => []
  | .pair a b => zleaves a ++ zleaves b
  | .arr n e => [.arr n e (List.replicate n e.zero)]

/-- '==' of structs, field by field. -/
def opEqSt (C : Cfg) (op : BinOp) (T : Nat) (x y : AV) : Eff :=
  match C.Θ T, x, y with
  | some ti, .ag xs, .ag ys => cond (ti.eq && sameKinds (zleaves ti.ty) xs && sameKinds (zleaves ti.ty) ys) (match eqLs xs ys, op with
    | some b, .eql => .val (.sc (.bool b))
    | some b, .neq => .val (.sc (.bool (!b)))
    | _, _ => .fail) .fail
  | _, _, _ => .fail

def opUn (op : UnOp) (x : AV) : Eff :=
  match op, x with
  | .not, .sc (.bool b) => .val (.sc (.bool (!b)))
  | .neg, .sc (.int k n) => .val (.sc (.int k (k.wrap (0 - n))))
  | _, _ => .fail

def bytesOf (xs : List Int) : ByteArray := ⟨(xs.map fun n => UInt8.ofNat n.toNat).toArray⟩

def opConv (C : Cfg) (st : St) (src dst : Nat) (x : AV) : Eff :=
  match C.Θ src, C.Θ dst with
  | some tj, some ti => match tj.ty, ti.ty, x with
    | .int _, .int k, .sc (.int _ n) => .val (.sc (.int k (k.wrap n)))
    | .str, .str, .sc (.str s) => .val (.sc (.str s))
    | .sl (.int .u8), .str, .sc (.hdr n) => match st.obj n with
      | .row _ (.int .u8) xs => .val (.sc (.str (bytesOf xs)))
      | _ => .fail
    | _, _, _ => .fail
  | _, _ => .fail

def isSlTy : Ty → Bool
  | .sl _ => true
  | _ => false

def opLen (C : Cfg) (st : St) (T : Nat) (x : AV) : Eff :=
  match x with
  | .sc (.str s) => cond (tyIs C T isStrTy) (.val (.sc (.int .i64 s.size))) .fail
  | .sc (.sl _ xs) => cond (tyIs C T isSlTy) (.val (.sc (.int .i64 (List.length xs)))) .fail
  | .sc .nil => cond (tyIs C T isSlTy) (.val (.sc (.int .i64 0))) .fail
  | .sc (.hdr n) => match st.obj n with
    | .row _ _ xs => cond (tyIs C T isSlTy) (.val (.sc (.int .i64 (List.length xs)))) .fail
    | .deep _ _ _ xs _ => cond (tyIs C T isSlTy) (.val (.sc (.int .i64 (List.length xs)))) .fail
    | _ => .fail
  | _ => .fail

def opMinMax (b : Builtin) (x y : AV) : Eff :=
  match x, y with
  | .sc (.int k a), .sc (.int k' c) => cond (decide (k = k')) (match b with
    | .min => .val (.sc (.int k (if c < a then c else a)))
    | .max => .val (.sc (.int k (if c > a then c else a)))
    | _ => .fail) .fail
  | _, _ => .fail

def opExtract (x : AV) (i : Nat) : Eff :=
  match x with
  | .tup vs => match vs[i]? with
    | some (b, ls) => .val (mkAV b ls)
    | none => .fail
  | _ => .fail

def fillSt (C : Cfg) (T : Nat) (st : St) : List (Nat × Operand) → List Leaf → Option (List Leaf)
  | [], ls => some ls
  | (i, x) :: r, ls => match C.Θ T with
    | none => none
    | some ti => match ti.flds[i]?, (val st x).leaves with
      | some (off, ft), some new => match C.Θ ft with
        | some tf => cond (Nat.beq (sizes new) tf.ty.size) (match spliceC ls off new with
          | some ls' => fillSt C T st r ls'
          | none => none) none
        | none => none
      | _, _ => none

def opBuild (C : Cfg) (T : Nat) (st : St) (parts : List (Nat × Operand)) : Eff :=
  match C.Θ T with
  | none => .fail
  | some ti => match ti.ty, parts with
    | .arr n e, [] => .val (.ag [.arr n e (List.replicate n e.zero)])
    | .unit, [] => .val (.ag [])
    | .pair x y, ps => match fillSt C T st ps (zleaves (.pair x y)) with
      | some ls => .val (.ag ls)
      | none => .fail
    | _, _ => .fail

def okPtr (st : St) : AV → Eff
  | .sc (.box n o) => match st.obj n with
    | .box _ => .val (.sc (.box n o))
    | _ => .fail
  | .sc (.ro t x) => .val (.sc (.ro t x))
  | .sc (.fn f c) => .val (.sc (.fn f c))
  | _ => .fail

def capsOf (st : St) : List Operand → Option (List Nat)
  | [] => some []
  | x :: r => match val st x, capsOf st r with
    | .sc (.box n 0), some ns => some (n :: ns)
    | _, _ => none

/-- The operations that turn no object. -/
def opE (C : Cfg) (st : St) (op : Op) : Eff :=
  match op with
  | .move x | .assign x => .val (val st x)
  | .pick c a b => match val st c with
    | .sc (.bool t) => .ite t (val st a) (val st b)
    | _ => .fail
  | .load T p => opLoad C st T (val st p)
  | .nilCheck x => okPtr st (val st x)
  | .binOp op T x y _ => match val st x with
    | .ag ls => opEqSt C op T (.ag ls) (val st y)
    | v => opBin C op T v (val st y)
  | .unOp op _ x => opUn op (val st x)
  | .convert src dst x => opConv C st src dst (val st x)
  | .build T parts => opBuild C T st parts.toList
  | .fieldAddr s x f => opField C st s f (val st x)
  | .indexAddr T x i => opIndexAddr C st T (val st x) (val st i)
  | .index T x i => opIndex C T (val st x) (val st i)
  | .slice T x lo hi none => opSlice C st T (val st x) (lo.map (val st)) (hi.map (val st))
  | .extract x i => opExtract (val st x) i
  | .makeFunc (.func f) first caps => match first.toList, capsOf st caps.toList with
    | [], some ns => .val (.sc (.fn f ns))
    | _, _ => .fail
  | .call { callee := .builtin .len, args, argTypes } => match args.toList, argTypes.toList with
    | [x], [T] => opLen C st T (val st x)
    | _, _ => .fail
  | .call { callee := .builtin .min, args, .. } => match args.toList with
    | [x, y] => opMinMax .min (val st x) (val st y)
    | _ => .fail
  | .call { callee := .builtin .max, args, .. } => match args.toList with
    | [x, y] => opMinMax .max (val st x) (val st y)
    | _ => .fail
  | _ => .fail

/-! ### operations that turn objects -/

def LIM : Nat := 1073741824

def nlv : Ty → Nat
  | .unit => 0
  | .pair a b => nlv a + nlv b
  | _ => 1

def appHL : (a b : List Cm) → HL a → HL b → HL (a ++ b)
  | [], _, _, y => y
  | _ :: a, b, x, y => (x.1, appHL a b x.2 y)

def fstHL : (a b : List Cm) → HL (a ++ b) → HL a
  | [], _, _ => ()
  | _ :: a, b, x => (x.1, fstHL a b x.2)

def sndHL : (a b : List Cm) → HL (a ++ b) → HL b
  | [], _, x => x
  | _ :: a, b, x => sndHL a b x.2

/-- What has been taken so far: the objects as they are now; the names of what was lent; the rows that were shown as data. -/
structure Tk where
  obj : Nat → AObj
  ios : List Nat
  sh : List Nat

def takeRow (tid : Nat) (e : Ty) (tk : Tk) (lend : Bool) : Leaf → Option (List e.den × Tk)
  | .nil => cond lend none (some ([], tk))
  | .hdr n => match tk.obj n with
    | .row tid' e' xs => cond (Nat.beq tid' tid) (match castL e' e xs with
      | some ys => some (ys, { obj := setO tk.obj n .dead, ios := cond lend (n :: tk.ios) tk.ios, sh := tk.sh })
      | none => none) none
    | _ => none
  | _ => none

def castD (d' d : DTy) (xs : List d'.ty.den) : Option (List d.ty.den) := if h : d' = d then some (h ▸ xs) else none

def mkDT : (pt : Bool) → {d : DTy} → Option Int → List d.ty.den → Option (DT pt d)
  | true, _, some k, ys => some (k, ys)
  | false, _, none, ys => some ys
  | _, _, _, _ => none

def nilDT : (pt : Bool) → {d : DTy} → Option (DT pt d)
  | true, _ => none
  | false, _ => some []

def takeDp (pt : Bool) (tid : Nat) (d : DTy) (tk : Tk) : Leaf → Option (DT pt d × Tk)
  | .nil => match nilDT pt (d := d) with
    | some x => some (x, tk)
    | none => none
  | .hdr n => match tk.obj n with
    | .deep tid' d' k xs none => cond (Nat.beq tid' tid) (match castD d' d xs with
      | some ys => match mkDT pt k ys with
        | some x => some (x, { obj := setO tk.obj n .dead, ios := tk.ios, sh := tk.sh })
        | none => none
      | none => none) none
    | _ => none
  | _ => none

def takeDl (tid : Nat) (d : DTy) (tk : Tk) : Leaf → Option (List d.ty.den × Tk)
  | .hdr n => match tk.obj n with
    | .deep tid' d' none xs none => cond (Nat.beq tid' tid) (match castD d' d xs with
      | some ys => some (ys, { obj := setO tk.obj n .dead, ios := n :: tk.ios, sh := tk.sh })
      | none => none) none
    | _ => none
  | _ => none

def takeBox (t : Ty) (tk : Tk) : Leaf → Option (t.den × Tk)
  | .box n 0 => match tk.obj n with
    | .box ls => match ofLeaves t (ls.map (reify tk.obj)) with
      | some (x, []) => some (x, { obj := setO tk.obj n .dead, ios := n :: tk.ios, sh := shown ls ++ tk.sh })
      | _ => none
    | _ => none
  | _ => none

/-- Leaves as data of the wanted kinds. (What is lent is noted last first.) -/
def leafIn : (cs : List Cm) → List Leaf → Tk → Option (HL cs × Tk)
  | [], [], tk => some ((), tk)
  | [], _ :: _, _ => none
  | .val t :: cs, ls, tk => match ofLeaves t ((ls.take (nlv t)).map (reify tk.obj)) with
    | some (x, []) => match leafIn cs (ls.drop (nlv t)) { tk with sh := shown (ls.take (nlv t)) ++ tk.sh } with
      | some (y, tk') => some ((x, y), tk')
      | none => none
    | _ => none
  | .own tid e :: cs, l :: ls, tk => match takeRow tid e tk false l with
    | some (xs, tk') => match leafIn cs ls tk' with
      | some (y, tk'') => some ((xs, y), tk'')
      | none => none
    | none => none
  | .row tid e :: cs, l :: ls, tk => match takeRow tid e tk true l with
    | some (xs, tk') => match leafIn cs ls tk' with
      | some (y, tk'') => some ((xs, y), tk'')
      | none => none
    | none => none
  | .box t :: cs, l :: ls, tk => match takeBox t tk l with
    | some (x, tk') => match leafIn cs ls tk' with
      | some (y, tk'') => some ((x, y), tk'')
      | none => none
    | none => none
  | .dp pt tid d :: cs, l :: ls, tk => match takeDp pt tid d tk l with
    | some (x, tk') => match leafIn cs ls tk' with
      | some (y, tk'') => some ((x, y), tk'')
      | none => none
    | none => none
  | .dlent tid d :: cs, l :: ls, tk => match takeDl tid d tk l with
    | some (x, tk') => match leafIn cs ls tk' with
      | some (y, tk'') => some ((x, y), tk'')
      | none => none
    | none => none
  | _, _, _ => none

def leavesIf (agg : Bool) : AV → Option (List Leaf)
  | .sc l => cond agg none (some [l])
  | .ag ls => cond agg (some ls) none
  | _ => none

def save : (sh : List (Nat × SSh)) → (Nat → AV) → Tk → Option (HL (saveC sh) × Tk)
  | [], _, tk => some ((), tk)
  | (s, .v agg cs) :: r, env, tk => match leavesIf agg (env s) with
    | none => none
    | some ls => match leafIn cs ls tk with
      | none => none
      | some (x, tk1) => match save r env tk1 with
        | none => none
        | some (y, tk2) => some (appHL cs (saveC r) x y, tk2)
  | (s, .ptr cs) :: r, env, tk => match env s with
    | .sc (.box n 0) => match tk.obj n with
      | .box ls => match leafIn cs ls { tk with obj := setO tk.obj n .dead } with
        | none => none
        | some (x, tk1) => match save r env tk1 with
          | none => none
          | some (y, tk2) => some (appHL cs (saveC r) x y, tk2)
      | _ => none
    | _ => none

def allRows (obj : Nat → AObj) : List Nat → Bool
  | [] => true
  | n :: ns => match obj n with
    | .row _ _ _ => allRows obj ns
    | .deep _ _ _ _ none => allRows obj ns
    | _ => false

/-- Data as leaves: rows get names, one a place. -/
def outLeaves : (cs : List Cm) → HL cs → Nat → (Nat → AObj) → List Leaf × (Nat → AObj)
  | [], _, _, obj => ([], obj)
  | .val t :: cs, x, nm, obj => (leavesOf t x.1 ++ (outLeaves cs x.2 (nm + 1) obj).1, (outLeaves cs x.2 (nm + 1) obj).2)
  | .own tid e :: cs, x, nm, obj => (.hdr nm :: (outLeaves cs x.2 (nm + 1) obj).1, setO (outLeaves cs x.2 (nm + 1) obj).2 nm (.row tid e x.1))
  | .row tid e :: cs, x, nm, obj => (.hdr nm :: (outLeaves cs x.2 (nm + 1) obj).1, setO (outLeaves cs x.2 (nm + 1) obj).2 nm (.row tid e x.1))
  | .box t :: cs, x, nm, obj => (.box nm 0 :: (outLeaves cs x.2 (nm + 1) obj).1, setO (outLeaves cs x.2 (nm + 1) obj).2 nm (.box (leavesOf t x.1)))
  | .dp pt tid d :: cs, x, nm, obj => (.hdr nm :: (outLeaves cs x.2 (nm + 1) obj).1, setO (outLeaves cs x.2 (nm + 1) obj).2 nm (.deep tid d (dK pt x.1) (dXs pt x.1) none))
  | .dlent tid d :: cs, x, nm, obj => (.hdr nm :: (outLeaves cs x.2 (nm + 1) obj).1, setO (outLeaves cs x.2 (nm + 1) obj).2 nm (.deep tid d none x.1 none))

def free (obj : Nat → AObj) (nm : Nat) : Nat → Bool
  | 0 => true
  | n + 1 => match obj nm with
    | .none => free obj (nm + 1) n
    | _ => false

/-- Slots out of data: those of 'sh'; names begin at 'nf s'. -/
def restore (nf : Nat → Nat) : (sh : List (Nat × SSh)) → HL (saveC sh) → St → St
  | [], _, st => st
  | (s, .v agg cs) :: r, x, st =>
    let q := restore nf r (sndHL cs (saveC r) x) st
    let o := outLeaves cs (fstHL cs (saveC r) x) (nf s) q.obj
    { env := fun i => cond (Nat.beq i s) (mkAV agg o.1) (q.env i), obj := o.2 }
  | (s, .ptr cs) :: r, x, st =>
    let q := restore nf r (sndHL cs (saveC r) x) st
    let o := outLeaves cs (fstHL cs (saveC r) x) (nf s + 1) q.obj
    { env := fun i => cond (Nat.beq i s) (.sc (.box (nf s) 0)) (q.env i), obj := setO o.2 (nf s) (.box o.1) }

def outIos : (ios : List Cm) → HL ios → List Nat → (Nat → AObj) → Option (Nat → AObj)
  | [], _, [], obj => some obj
  | .row tid e :: r, x, n :: ns, obj => match outIos r x.2 ns obj with
    | some o => some (setO o n (.row tid e x.1))
    | none => none
  | .box t :: r, x, n :: ns, obj => match outIos r x.2 ns obj with
    | some o => some (setO o n (.box (leavesOf t x.1)))
    | none => none
  | .dlent tid d :: r, x, n :: ns, obj => match outIos r x.2 ns obj with
    | some o => some (setO o n (.deep tid d none x.1 none))
    | none => none
  | _, _, _, _ => none

def emptySt : St := ⟨fun _ => .no, fun _ => .none⟩

def avLeaves : AV → Bool × List Leaf
  | .sc l => (false, [l])
  | .ag ls => (true, ls)
  | _ => (false, [])

/-- The results as the slot that takes them. -/
def resAV : (outs : List (Nat × SSh)) → (Nat → AV) → AV
  | [], _ => .no
  | [_], env => env 0
  | _ :: _ :: r, env => .tup ((List.range (r.length + 2)).map fun s => avLeaves (env s))

def callE {R : Type} (S : CSpec) (st : St) (args : List AV) (d : Nat) (k : St → Option R) : Option R :=
  match save S.ins (fun s => args.getD s .no) ⟨st.obj, [], []⟩ with
  | none => none
  | some (x, tk) => cond (Nat.beq args.length S.ins.length && allRows tk.obj tk.sh && free st.obj (d * 16) 16)
    ((S.call x).bind fun y =>
      match outIos (iosC (saveC S.ins)) (sndHL (saveC S.outs) (iosC (saveC S.ins)) (toHL _ y)) tk.ios.reverse (cond S.flat tk.obj (killO tk.obj tk.sh)) with
      | none => none
      | some obj =>
        let q := restore (fun s => d * 16 + s * 5) S.outs (fstHL (saveC S.outs) (iosC (saveC S.ins)) (toHL _ y)) ⟨fun _ => .no, obj⟩
        k ({ st with obj := q.obj }.put (some d) (resAV S.outs q.env))) none

def sameOpnd : Operand → Operand → Bool
  | .tmp a, .tmp b => Nat.beq a b
  | .const (.int .i64 a), .const (.int .i64 b) => decide (a = b)
  | _, _ => false

def elemOf (C : Cfg) (T : Nat) : Option (Nat × Ty) :=
  match C.Θ T with
  | some ti => match ti.ty, C.Θ ti.elem with
    | .sl e, some te => cond (decide (te.ty = e)) (some (ti.elem, e)) none
    | _, _ => none
  | none => none

def fillL (st : St) (e : Ty) : List (Nat × Operand) → List e.den → Option (List e.den)
  | [], xs => some xs
  | (i, x) :: r, xs => match (val st x).leaves with
    | none => none
    | some ls => match ofLeaves e (ls.map (reify st.obj)) with
      | some (y, []) => cond (Nat.blt i (List.length xs)) (fillL st e r (xs.set i y)) none
      | _ => none

def shownAll (st : St) : List (Nat × Operand) → List Nat
  | [] => []
  | (_, x) :: r => match (val st x).leaves with
    | some ls => shown ls ++ shownAll st r
    | none => shownAll st r

/-- What 'append' or 'copy' reads. -/
def srcOf (st : St) (e : Ty) : AV → Option (List e.den)
  | .sc .nil => some []
  | .sc (.sl e' ys) => castL e' e ys
  | .sc (.hdr n) => match st.obj n with
    | .row _ e' ys => castL e' e ys
    | _ => none
  | .sc (.sub n lo hi) => match st.obj n with
    | .row _ e' ys => castL e' e ((ys.take hi.toNat).drop lo.toNat)
    | _ => none
  | _ => none

/-- What 'append' appends to, and the row that it takes. -/
def dstOf (st : St) (tid : Nat) (e : Ty) : AV → Option (List e.den × Option Nat)
  | .sc .nil => some ([], none)
  | .sc (.hdr n) => match st.obj n with
    | .row tid' e' xs => cond (Nat.beq tid' tid) (match castL e' e xs with
      | some ys => some (ys, some n)
      | none => none) none
    | _ => none
  | .sc (.sub n lo hi) => match st.obj n with
    | .row tid' e' xs => cond (Nat.beq tid' tid && decide (lo = 0)) (match castL e' e xs with
      | some ys => some (ys.take hi.toNat, some n)
      | none => none) none
    | _ => none
  | _ => none

def killOpt (obj : Nat → AObj) : Option Nat → Nat → AObj
  | some n => setO obj n .dead
  | none => obj

def opStore {R : Type} (C : Cfg) (st : St) (T : Nat) (p v : AV) (k : St → Option R) : Option R :=
  match C.Θ T, v.leaves with
  | some ti, some ls => cond (Nat.beq (sizes ls) ti.ty.size) (match p with
    | .sc (.box n off) => match st.obj n with
      | .box old => match spliceC old off ls with
        | some new => k { st with obj := setO st.obj n (.box new) }
        | none => none
      | _ => none
    | .sc (.row n i off) => match st.obj n with
      | .row tid e xs => cond (!(shown ls).contains n && allRows st.obj (shown ls)) ((idx xs i).bind fun x => match spliceC (leavesOf e x) off (ls.map (reify st.obj)) with
        | some nl => match ofLeaves e nl with
          | some (y, []) => k { st with obj := setO (killO st.obj (shown ls)) n (.row tid e (xs.set i.toNat y)) }
          | _ => none
        | none => none) none
      | _ => none
    | .sc (.belem n off sz i) => match st.obj n, shown ls with
      | .box old, [] => match takeC old off with
        | some (pre, .arr m e xs :: post) => cond (Nat.beq e.size sz && Nat.beq sz ti.ty.size && inb i (List.length xs)) (match ofLeaves e ls with
          | some (y, []) => k { st with obj := setO st.obj n (.box (pre ++ .arr m e (xs.set i.toNat y) :: post)) }
          | _ => none) none
        | _ => none
      | _, _ => none
    | _ => none) none
  | _, _ => none

def opBox {R : Type} (st : St) (d : Nat) (sz : Nat) (ls : List Leaf) (k : St → Option R) : Option R :=
  cond (Nat.beq (sizes ls) sz) (match st.obj (d * 16) with
    | .none => k ({ st with obj := setO st.obj (d * 16) (.box ls) }.put (some d) (.sc (.box (d * 16) 0)))
    | _ => none) none

def opNewRow {R : Type} (st : St) (obj : Nat → AObj) (d tid : Nat) (e : Ty) (xs : List e.den) (k : St → Option R) : Option R :=
  match st.obj (d * 16) with
  | .none => k ({ st with obj := setO obj (d * 16) (.row tid e xs) }.put (some d) (.sc (.hdr (d * 16))))
  | _ => none

def opAppend {R : Type} (C : Cfg) (st : St) (T d : Nat) (s x : AV) (k : St → Option R) : Option R :=
  match elemOf C T with
  | none => none
  | some (tid, e) => match dstOf st tid e s, srcOf st e x with
    | some (xs, n), some ys => cond (decide (List.length xs + List.length ys ≤ LIM)) (opNewRow st (killOpt st.obj n) d tid e (xs ++ ys) k) none
    | _, _ => none

def opCopy {R : Type} (C : Cfg) (st : St) (T : Nat) (d : Option Nat) (s x : AV) (k : St → Option R) : Option R :=
  match elemOf C T, s with
  | some (tid, e), .sc (.hdr n) => match dstOf st tid e s, srcOf st e x with
    | some (xs, _), some ys => cond (match x with | .sc (.hdr m) => !(Nat.beq m n) | .sc (.sub _ _ _) => false | _ => true)
      (k ({ st with obj := setO st.obj n (.row tid e (ys.take (List.length xs) ++ xs.drop (List.length ys))) }.put d (.sc (.int .i64 (Nat.min (List.length ys) (List.length xs)))))) none
    | _, _ => none
  | _, _ => none

def calleeOf (st : St) (f : Operand) : Option (Nat × List AV) :=
  match val st f with
  | .sc (.fn g caps) => some (g, caps.map fun n => .sc (.box n 0))
  | _ => none

/-- One operation. -/
def stepOp {R : Type} (C : Cfg) (st : St) (d : Option Nat) (op : Op) (k : St → Option R) : Option R :=
  match op with
  | .store T p v => match d with
    | none => opStore C st T (val st p) (val st v) k
    | some _ => none
  | .alloc T => match d, C.Θ T with
    | some d, some ti => opBox st d ti.ty.size (zleaves ti.ty) k
    | _, _ => none
  | .box T x => match d, C.Θ T, (val st x).leaves with
    | some d, some ti, some ls => opBox st d ti.ty.size ls k
    | _, _, _ => none
  | .buildSlice T n parts => match d, elemOf C T with
    | some d, some (tid, e) => cond (Nat.ble (n * e.size) 16777216 && allRows st.obj (shownAll st parts.toList)) (match fillL st e parts.toList (List.replicate n e.zero) with
      | some xs => opNewRow st (killO st.obj (shownAll st parts.toList)) d tid e xs k
      | none => none) none
    | _, _ => none
  | .makeSlice T l c => match d, elemOf C T, val st l with
    | some d, some (tid, e), .sc (.int .i64 n) => cond (sameOpnd l c) (cond (decide (0 ≤ n) && decide (n ≤ (LIM : Int))) (opNewRow st st.obj d tid e (List.replicate n.toNat e.zero) k) none) none
    | _, _, _ => none
  | .call c => match c.callee, c.args.toList with
    | .builtin .append, [s, x] => match d, c.argTypes.toList with
      | some d, [T, T'] => cond (Nat.beq T T') (opAppend C st T d (val st s) (val st x) k) none
      | _, _ => none
    | .builtin .copy, [s, x] => match c.argTypes.toList with
      | T :: _ => opCopy C st T d (val st s) (val st x) k
      | [] => none
    | .value f, args => match calleeOf st f, d with
      | some (g, caps), some d => match C.Γ g with
        | some S => callE S st (args.map (val st) ++ caps) d k
        | none => none
      | _, _ => none
    | _, _ => (opE C st op).go fun v => k (st.put d v)
  | _ => (opE C st op).go fun v => k (st.put d v)

/-! ### rows within rows -/

/-- A slice within data: its elements' type, the elements; and the data with others. -/
structure SlAt (α : Type) where
  tid : Nat
  e : DTy
  ys : List e.ty.den
  set : List e.ty.den → α

def slAt : (d : DTy) → d.ty.den → Nat → Option (SlAt d.ty.den)
  | .sl tid e, xs, 0 => some ⟨tid, e, xs, fun ys => ys⟩
  | .pair a b, x, off => cond (Nat.blt off a.ty.size)
      (match slAt a x.1 off with
        | some r => some ⟨r.tid, r.e, r.ys, fun ys => (r.set ys, x.2)⟩
        | none => none)
      (match slAt b x.2 (off - a.ty.size) with
        | some r => some ⟨r.tid, r.e, r.ys, fun ys => (x.1, r.set ys)⟩
        | none => none)
  | _, _, _ => none

def rowD (tid : Nat) (e : DTy) : AObj → Option (List e.ty.den)
  | .row t e' ys => cond (Nat.beq t tid && e.ty.flat) (castL e' e.ty ys) none
  | .deep t d' none ys none => cond (Nat.beq t tid) (castD d' e ys) none
  | _ => none

def rowDeep (tid : Nat) (e : DTy) : AObj → Option (List e.ty.den)
  | .deep t d' none ys none => cond (Nat.beq t tid) (castD d' e ys) none
  | _ => none

def objD (tid : Nat) (e : DTy) (ys : List e.ty.den) : AObj := match e.ty.flat with
  | true => .row tid e.ty ys
  | false => .deep tid e none ys none

/-- Leaves as data whose rows are its own, and the names of those rows. -/
def ofD : (d : DTy) → List Leaf → (Nat → AObj) → Option (d.ty.den × List Leaf × List Nat)
  | .int k, .int k' x :: r, _ => if k' = k then some (x, r, []) else none
  | .bool, .bool x :: r, _ => some (x, r, [])
  | .str, .str x :: r, _ => some (x, r, [])
  | .sl _ _, .nil :: r, _ => some ([], r, [])
  | .sl tid e, .hdr m :: r, obj => match rowD tid e (obj m) with
    | some ys => some (ys, r, [m])
    | none => none
  | .unit, r, _ => some ((), r, [])
  | .pair a b, r, obj => match ofD a r obj with
    | none => none
    | some (x, r1, n1) => match ofD b r1 obj with
      | none => none
      | some (y, r2, n2) => some ((x, y), r2, n1 ++ n2)
  | _, _, _ => none

def wholeD (d : DTy) (ls : List Leaf) (obj : Nat → AObj) : Option (d.ty.den × List Nat) := match ofD d ls obj with
  | some (y, [], ns) => some (y, ns)
  | _ => none

def putD : (d : DTy) → d.ty.den → Nat → List Leaf → (Nat → AObj) → Option (d.ty.den × List Nat)
  | .pair a b, x, off, ls, obj => cond (Nat.beq off 0 && Nat.beq (sizes ls) (a.ty.size + b.ty.size)) (wholeD (.pair a b) ls obj)
      (cond (Nat.blt off a.ty.size)
        (match putD a x.1 off ls obj with
          | some (y, ns) => some ((y, x.2), ns)
          | none => none)
        (match putD b x.2 (off - a.ty.size) ls obj with
          | some (y, ns) => some ((x.1, y), ns)
          | none => none))
  | d, _, off, ls, obj => cond (Nat.beq off 0 && Nat.beq (sizes ls) d.ty.size) (wholeD d ls obj) none

/-- All slices of it lie from lo to hi. -/
def coversD : DTy → Nat → Nat → Bool
  | .sl _ _, lo, hi => Nat.beq lo 0 && Nat.ble 1 hi
  | .pair a b, lo, hi => coversD a lo hi && coversD b (lo - a.ty.size) (hi - a.ty.size)
  | _, _, _ => true

def distinct : List Nat → Bool
  | [] => true
  | n :: ns => ns.all (fun m => !Nat.beq m n) && distinct ns

def isDead : AObj → Bool
  | .dead => true
  | _ => false

def storeD {R : Type} (st : St) (n tid : Nat) (d : DTy) (kk : Option Int) (xs : List d.ty.den) (hole : Option (Int × Nat × Nat)) (i : Int) (off : Nat) (ls : List Leaf) (k : St → Option R) : Option R :=
  (idx xs i).bind fun x => match putD d x off ls st.obj with
    | some (y, ns) => cond (distinct ns && ns.all (fun m => !Nat.beq m n)) (match kk, hole with
      | none, none => k { st with obj := setO (killO st.obj ns) n (.deep tid d none (xs.set i.toNat y) none) }
      | some z, none => cond (coversD d off (off + sizes ls)) (cond (i == z) (k { st with obj := setO (killO st.obj ns) n (.deep tid d (some (z + 1)) (xs.set i.toNat y) none) }) none) none
      | none, some (i0, off0, m) => cond (Nat.beq off off0 && Nat.beq (sizes ls) 1 && isDead (st.obj m)) (cond (i == i0) (k { st with obj := setO (killO st.obj ns) n (.deep tid d none (xs.set i.toNat y) none) }) none) none
      | _, _ => none) none
    | none => none

def stepSt {R : Type} (C : Cfg) (st : St) (T : Nat) (p v : AV) (k : St → Option R) (other : Option R) : Option R :=
  match p with
  | .sc (.row n i off) => match st.obj n with
    | .deep tid d kk xs hole => match C.Θ T, v.leaves with
      | some ti, some ls => cond (Nat.beq (sizes ls) ti.ty.size && Nat.ble (off + sizes ls) d.ty.size) (storeD st n tid d kk xs hole i off ls k) none
      | _, _ => none
    | _ => other
  | _ => other

def ghost {R : Type} (st : St) (g : Gst) (k : St → Option R) : Option R :=
  match g with
  | .freeze n => match st.obj n with
    | .deep tid d _ xs none => k { st with obj := setO st.obj n (.row tid d.ty xs) }
    | _ => none
  | .part n d => match st.obj n with
    | .row tid e xs => match castL e d.ty xs with
      | some ys => k { st with obj := setO st.obj n (.deep tid d (some 0) ys none) }
      | none => none
    | _ => none
  | .full n => match st.obj n with
    | .deep tid d (some z) xs none => cond (decide ((List.length xs : Int) ≤ z)) (k { st with obj := setO st.obj n (.deep tid d none xs none) }) none
    | _ => none
  | .close n => match st.obj n with
    | .deep tid d none xs (some (i, off, m)) => (idx xs i).bind fun x => match slAt d x off with
      | some r => match rowD r.tid r.e (st.obj m) with
        | some ys => cond (!Nat.beq m n) (k { st with obj := setO (setO st.obj m .dead) n (.deep tid d none (xs.set i.toNat (r.set ys)) none) }) none
        | none => none
      | none => none
    | _ => none

def ghosts {R : Type} : List Gst → St → (St → Option R) → Option R
  | [], st, k => k st
  | g :: gs, st, k => ghost st g fun st' => ghosts gs st' k

def loadOpn {R : Type} (C : Cfg) (st : St) (T dst : Nat) (p : AV) (k : St → Option R) : Option R :=
  match C.Θ T, p with
  | some ti, .sc (.row n i off) => match st.obj n with
    | .deep tid d none xs none => cond (isSlTy ti.ty && Nat.blt off d.ty.size && !Nat.beq (dst * 16) n) ((idx xs i).bind fun x => match slAt d x off with
      | some r => match st.obj (dst * 16) with
        | .none => k ({ st with obj := setO (setO st.obj n (.deep tid d none (xs.set i.toNat (r.set [])) (some (i, off, dst * 16)))) (dst * 16) (objD r.tid r.e r.ys) }.put (some dst) (.sc (.hdr (dst * 16))))
        | _ => none
      | none => none) none
    | _ => none
  | _, _ => none

def loadPeek {R : Type} (C : Cfg) (st : St) (T dst : Nat) (p : AV) (k : St → Option R) : Option R :=
  match C.Θ T, p with
  | some ti, .sc (.row n i off) => match st.obj n with
    | .deep _ d (some z) xs none => cond (Nat.ble (off + ti.ty.size) d.ty.size) ((idx xs i).bind fun x => cond (decide (z ≤ i)) (match midC (leavesOf d.ty x) off ti.ty.size with
      | some m => k (st.put (some dst) (mkAV ti.ty.agg m))
      | none => none) none) none
    | _ => none
  | _, _ => none

def fillD (st : St) (d : DTy) : List (Nat × Operand) → List d.ty.den → List Nat → Option (List d.ty.den × List Nat)
  | [], xs, ns => some (xs, ns)
  | (i, x) :: r, xs, ns => match (val st x).leaves with
    | none => none
    | some ls => match wholeD d ls st.obj with
      | some (y, ms) => cond (Nat.beq i 0 && Nat.beq (List.length xs) 1) (fillD st d r (xs.set i y) (ns ++ ms)) none
      | none => none

def makeD {R : Type} (C : Cfg) (st : St) (d : DTy) (dst : Nat) (op : Op) (k : St → Option R) : Option R :=
  match op with
  | .makeSlice T l c => match elemOf C T, val st l with
    | some (tid, e), .sc (.int .i64 n) => cond (sameOpnd l c && decide (d.ty = e)) (cond (decide (0 ≤ n) && decide (n ≤ (LIM : Int))) (match st.obj (dst * 16) with
      | .none => k ({ st with obj := setO st.obj (dst * 16) (.deep tid d none (List.replicate n.toNat d.ty.zero) none) }.put (some dst) (.sc (.hdr (dst * 16))))
      | _ => none) none) none
    | _, _ => none
  | .buildSlice T n parts => match elemOf C T, parts.toList with
    | some (tid, e), [(0, x)] => match (val st x).leaves with
      | some ls => match wholeD d ls st.obj with
        | some (y, ns) => cond (Nat.beq n 1 && Nat.ble e.size 16777216 && decide (d.ty = e) && distinct ns) (match st.obj (dst * 16) with
          | .none => k ({ st with obj := setO (killO st.obj ns) (dst * 16) (.deep tid d none [y] none) }.put (some dst) (.sc (.hdr (dst * 16))))
          | _ => none) none
        | none => none
      | none => none
    | _, _ => none
  | .call c => match c.callee, c.args.toList, c.argTypes.toList with
    | .builtin .append, [s, x], [T, T'] => cond (Nat.beq T T') (match elemOf C T, val st x with
      | some (tid, e), .sc (.hdr m) => cond (decide (d.ty = e)) (match rowDeep tid d (st.obj m), val st s with
        | some ys, .sc .nil => cond (decide (List.length ys ≤ LIM)) (match st.obj (dst * 16) with
          | .none => k ({ st with obj := setO (setO st.obj m .dead) (dst * 16) (.deep tid d none ys none) }.put (some dst) (.sc (.hdr (dst * 16))))
          | _ => none) none
        | some ys, .sc (.hdr n) => match rowDeep tid d (st.obj n) with
          | some xs => cond (!Nat.beq m n) (cond (decide (List.length xs + List.length ys ≤ LIM)) (match st.obj (dst * 16) with
            | .none => k ({ st with obj := setO (setO (setO st.obj m .dead) n .dead) (dst * 16) (.deep tid d none (xs ++ ys) none) }.put (some dst) (.sc (.hdr (dst * 16))))
            | _ => none) none) none
          | none => none
        | _, _ => none) none
      | _, _ => none) none
    | _, _, _ => none
  | _ => none

def stepS {R : Type} (C : Cfg) (sp : Sp) (st : St) (d : Nat) (op : Op) (k : St → Option R) : Option R :=
  match sp with
  | .plain => stepOp C st (some d) op k
  | .opn => match op with
    | .load T p => loadOpn C st T d (val st p) k
    | _ => none
  | .peek => match op with
    | .load T p => loadPeek C st T d (val st p) k
    | _ => none
  | .deep dd => makeD C st dd d op k

/-- One operation, with what goes beside it. -/
def stepM {R : Type} (C : Cfg) (st : St) (d : Option Nat) (op : Op) (k : St → Option R) : Option R :=
  match d with
  | none => match op with
    | .store T p v => stepSt C st T (val st p) (val st v) k (stepOp C st none op k)
    | _ => stepOp C st none op k
  | some dd => match C.md dd with
    | none => stepOp C st (some dd) op k
    | some m => ghosts m.pre st fun st1 => stepS C m.sp st1 dd op fun st2 => ghosts m.post st2 k

def dstOk (C : Cfg) : Option Nat → Bool
  | some d => Nat.blt d C.N && C.keep.all (fun i => !Nat.beq i d)
  | none => true

def rowish : AV → Bool
  | .sc (.hdr _) => true
  | .sc (.sub _ _ _) => true
  | .sc (.row _ _ _) => true
  | _ => false

def noBox : List Cm → Bool
  | [] => true
  | .box _ :: _ => false
  | _ :: r => noBox r

def noPtr : List (Nat × SSh) → Bool
  | [] => true
  | (_, .v _ _) :: r => noPtr r
  | (_, .ptr _) :: _ => false

def noRowish (st : St) : List Operand → Bool
  | [] => true
  | x :: r => !rowish (val st x) && noRowish st r

/-- In a region that draws its order: what reads no row's variable, and no call that is lent a variable. -/
def okD (C : Cfg) (st : St) (op : Op) : Bool :=
  match op with
  | .load _ x | .fieldAddr _ x _ | .convert _ _ x | .nilCheck x | .indexAddr _ x _ | .slice _ x _ _ _ => !rowish (val st x)
  | .call c => match c.callee with
    | .builtin .len => noRowish st c.args.toList
    | .value f => match calleeOf st f with
      | some (g, []) => match C.Γ g with
        | some S => noBox (saveC S.ins) && noPtr S.ins
        | none => false
      | _ => false
    | _ => true
  | _ => true

def runOne {R : Type} (C : Cfg) (dr : Bool) (all : List Oper) (o : Oper) (st : St) (k : St → Option R) : Option R :=
  cond (dstOk C o.dst && (!dr || okD C st o.op)) (match o.guard with
    | none => stepM C st o.dst o.op k
    | some (j, want) => match (all[j]?).bind (·.dst) with
      | none => k (st.put o.dst .un)
      | some dj => match st.env dj with
        | .un => k (st.put o.dst .un)
        | .sc (.bool b) => cond b
          (cond want (stepM C (st.put (some dj) (.sc (.bool true))) o.dst o.op k) (k ((st.put (some dj) (.sc (.bool true))).put o.dst .un)))
          (cond want (k ((st.put (some dj) (.sc (.bool false))).put o.dst .un)) (stepM C (st.put (some dj) (.sc (.bool false))) o.dst o.op k))
        | _ => none) none

/-- 0: computes alone; 1: makes objects, takes rows; 2: never changes places. -/
def kindO (op : Op) : Nat :=
  match op with
  | .store _ _ _ => 2
  | .alloc _ | .box _ _ | .buildSlice _ _ _ | .makeSlice _ _ _ => 1
  | .call c => match c.callee with
    | .builtin .append => 1
    | .builtin .copy => 2
    | .value _ => 1
    | _ => 0
  | _ => 0

/-- All that goes ahead, as bits. -/
def edgeMask (ms : List Nat) : List Edge → Nat → Nat
  | [], m => m
  | e :: r, m => edgeMask ms r (cond (Region.binds .any e) (m ||| (1 <<< e.on) ||| ms.getD e.on 0) m)

def masksFrom : List Nat → List Oper → List Nat
  | ms, [] => ms
  | ms, o :: r => masksFrom (ms ++ [edgeMask ms o.after.toList 0]) r

/-- What goes with something beside it never changes places. -/
def kindM (md : Nat → Option Md) (o : Oper) : Nat := match o.dst with
  | none => kindO o.op
  | some d => match md d with
    | none => kindO o.op
    | some _ => 2

/-- Does it go ahead of, or behind, each that is more than a computation? -/
def fixB (md : Nat → Option Md) (ms : List Nat) (j : Nat) : Nat → List Oper → Bool
  | _, [] => true
  | i, x :: r => (Nat.beq (kindM md x) 0 || Nat.beq i j || (ms.getD j 0).testBit i || (ms.getD i 0).testBit j) && fixB md ms j (i + 1) r

/-- Must it be asked of what it looks at? -/
def flagF (md : Nat → Option Md) (all : List Oper) (ms : List Nat) (j : Nat) : Bool :=
  match all[j]? with
  | some y => !(Nat.beq (kindM md y) 0 && fixB md ms j 0 all)
  | none => true

/-- A row of operations, one behind the other. -/
def runSeq {R : Type} (C : Cfg) (fl : Nat → Bool) (all : List Oper) : Nat → List Oper → St → (St → Option R) → Option R
  | _, [], st, k => k st
  | i, o :: r, st, k => runOne C (fl i) all o st fun st' => runSeq C fl all (i + 1) r st' k

/-! ### control -/

def noRow : List Cm → Bool
  | [] => true
  | .val _ :: r => noRow r
  | .own _ _ :: r => noRow r
  | .dp _ _ _ :: r => noRow r
  | _ => false

def saveP (sh : List (Nat × SSh)) (st : St) : Option (Prods (saveC sh)) :=
  match save sh st.env ⟨st.obj, [], []⟩ with
  | none => none
  | some (x, tk) => cond (allRows tk.obj tk.sh) (some (ofHL _ x)) none

def loopN (s : Nat) : Nat := s * 16

def unsave (sh : List (Nat × SSh)) (y : Prods (saveC sh)) : St := restore loopN sh (toHL _ y) emptySt

/-- Every slot once, few parts a slot, nothing lent; slots in bounds. -/
def shOk (N : Nat) : List (Nat × SSh) → Bool
  | [] => true
  | (s, .v _ cs) :: r => Nat.blt s N && Nat.ble cs.length 16 && noRow cs && r.all (fun q => !Nat.beq q.1 s) && shOk N r
  | (s, .ptr cs) :: r => Nat.blt s N && Nat.ble cs.length 15 && noRow cs && r.all (fun q => !Nat.beq q.1 s) && shOk N r

inductive Ex where
  | normal
  | exit (id : Nat)
  | ret

/-- Rounds, at most so many. -/
def iter {α β : Type} (f : (α → Option β) → α → Option β) : Nat → α → Option β
  | 0, _ => none
  | n + 1, x => f (iter f n) x

/-- So many rounds; closed to the kernel's eyes. -/
noncomputable def FUEL : Nat := Classical.choose (⟨4611686018427387904, rfl⟩ : ∃ n : Nat, n = 4611686018427387904)
theorem FUEL_eq : FUEL = 4611686018427387904 := Classical.choose_spec (⟨4611686018427387904, rfl⟩ : ∃ n : Nat, n = 4611686018427387904)

def lit (st : St) (c : Operand) (b : Bool) : St :=
  match c with
  | .tmp t => st.put (some t) (.sc (.bool b))
  | _ => st

/-- May the operations of a region be taken in any order? (Filled in by Order.) -/
noncomputable def exec (C : Cfg) (any : List Oper → Bool) : Code → Nat → {R : Type} → St → (Ex → St → Option R) → Option R
  | .skip, _, _, st, K => K .normal st
  | .region _ ops draw, _, _, st, K => cond (!draw || any ops.toList) (runSeq C (cond draw (flagF C.md ops.toList (masksFrom [] ops.toList)) (fun _ => false)) ops.toList 0 ops.toList st (K .normal)) none
  | .seq a b, bid, _, st, K => exec C any a bid st fun e st' => match e with
    | .normal => exec C any b bid st' K
    | .exit i => K (.exit i) st'
    | .ret => K .ret st'
  | .cond c x y, bid, _, st, K => match val st c with
    | .sc (.bool b) => cond b (exec C any x bid (lit st c true) K) (exec C any y bid (lit st c false) K)
    | _ => none
  | .block id c, _, _, st, K => exec C any c id st fun e st' => match e with
    | .normal => K .normal st'
    | .exit i => cond (Nat.beq i id) (K .normal st') (K (.exit i) st')
    | .ret => K .ret st'
  | .loop body, bid, R, st, K => match C.ann bid with
    | none => none
    | some sh => cond (shOk C.N sh) (match saveP sh st with
      | none => none
      | some x => (iter (β := Prods (saveC sh) ⊕ R) (fun rec y => exec C any body bid (unsave sh y) fun e st' => match e with
          | .normal => match saveP sh st' with
            | some z => rec z
            | none => none
          | .exit i => cond (Nat.beq i bid) (match saveP sh st' with
            | some z => some (.inl z)
            | none => none) ((K (.exit i) st').map .inr)
          | .ret => (K .ret st').map .inr) FUEL x).bind fun out => match out with
        | .inl y => K (.exit bid) (unsave sh y)
        | .inr r => some r) none
  | .exit id, _, _, st, K => K (.exit id) st
  | .ret, _, _, st, K => K .ret st
  | _, _, _, _, _ => none

/-! ### a whole function -/

def entry (S : CSpec) (x : HL (saveC S.ins)) : St := restore loopN S.ins x emptySt

def resultAV (C : Cfg) (st : St) : ResultVar → AV
  | .tmp t => st.env t
  | .cell a ty => match st.env a with
    | .sc (.box n off) => match st.obj n, C.Θ ty with
      | .box ls, some ti => match midC ls off ti.ty.size with
        | some m => mkAV ti.ty.agg m
        | none => .no
      | _, _ => .no
    | _ => .no

def resOk (C : Cfg) (st : St) : List ResultVar → Bool
  | [] => true
  | .tmp _ :: r => resOk C st r
  | .cell a ty :: r => (match st.env a with
    | .sc (.box n off) => match st.obj n, C.Θ ty with
      | .box ls, some ti => match midC ls off ti.ty.size with
        | some _ => true
        | none => false
      | _, _ => false
    | _ => false) && resOk C st r

/-- What was lent, as it is at the end: found where it was handed over. -/
def finL : (cs : List Cm) → List Leaf → Tk → Option (HL (iosC cs) × Tk)
  | [], _, tk => some ((), tk)
  | .val t :: cs, ls, tk => match takeC ls t.size with
    | some (_, r) => finL cs r tk
    | none => none
  | .own _ _ :: cs, l :: ls, tk => cond (Nat.beq l.size 1) (finL cs ls tk) none
  | .row tid e :: cs, l :: ls, tk => match takeRow tid e tk true l with
    | none => none
    | some (xs, tk1) => match finL cs ls tk1 with
      | none => none
      | some (y, tk2) => some ((xs, y), tk2)
  | .box t :: cs, l :: ls, tk => match takeBox t tk l with
    | none => none
    | some (x, tk1) => match finL cs ls tk1 with
      | none => none
      | some (y, tk2) => some ((x, y), tk2)
  | .dp _ _ _ :: cs, l :: ls, tk => cond (Nat.beq l.size 1) (finL cs ls tk) none
  | .dlent tid d :: cs, l :: ls, tk => match takeDl tid d tk l with
    | none => none
    | some (x, tk1) => match finL cs ls tk1 with
      | none => none
      | some (y, tk2) => some ((x, y), tk2)
  | _, _, _ => none

def iosApp : (a b : List Cm) → HL (iosC a) → HL (iosC b) → HL (iosC (a ++ b))
  | [], _, _, y => y
  | .row _ _ :: a, b, x, y => (x.1, iosApp a b x.2 y)
  | .box _ :: a, b, x, y => (x.1, iosApp a b x.2 y)
  | .val _ :: a, b, x, y => iosApp a b x y
  | .own _ _ :: a, b, x, y => iosApp a b x y
  | .dp _ _ _ :: a, b, x, y => iosApp a b x y
  | .dlent _ _ :: a, b, x, y => (x.1, iosApp a b x.2 y)

def noIos : (cs : List Cm) → Tk → Option (HL (iosC cs) × Tk)
  | [], tk => some ((), tk)
  | .val _ :: r, tk => noIos r tk
  | .own _ _ :: r, tk => noIos r tk
  | .dp _ _ _ :: r, tk => noIos r tk
  | _, _ => none

def finP : (ins : List (Nat × SSh)) → (Nat → AV) → Tk → Option (HL (iosC (saveC ins)) × Tk)
  | [], _, tk => some ((), tk)
  | (s, .v agg cs) :: r, env, tk => match (cond (noLent cs) (noIos cs tk) (match leavesIf agg (env s) with
      | none => none
      | some ls => finL cs ls tk)) with
    | none => none
    | some (x, tk1) => match finP r env tk1 with
      | none => none
      | some (y, tk2) => some (iosApp cs (saveC r) x y, tk2)
  | (_, .ptr _) :: _, _, _ => none

def finish (C : Cfg) (S : CSpec) (f : Func) (st : St) : Option (Prods (saveC S.outs ++ iosC (saveC S.ins))) :=
  match save S.outs (fun s => (f.results.toList.map (resultAV C st)).getD s .no) ⟨st.obj, [], []⟩ with
  | none => none
  | some (x, tk) => match finP S.ins st.env tk with
    | none => none
    | some (y, tk') => cond (Nat.beq f.results.toList.length S.outs.length && resOk C st f.results.toList && allRows tk'.obj tk'.sh) (some (ofHL _ (appHL (saveC S.outs) (iosC (saveC S.ins)) x y))) none

/-- What a function's text comes to. -/
noncomputable def runBody (C : Cfg) (any : List Oper → Bool) (S : CSpec) (f : Func) (x : HL (saveC S.ins)) : Option (Prods (saveC S.outs ++ iosC (saveC S.ins))) :=
  match f.body with
  | none => none
  | some c => exec C any c 0 (entry S x) fun e st => match e with
    | .exit _ => none
    | .normal => finish C S f st
    | .ret => finish C S f st

end Go.Vx
