/-
  What a Go value reads as: types of plain data, and the relation between cells and data. No program in sight.
-/
import Derived.WalkKit
import Derived.Deep.LoopGhost
import Derived.Laws.AppendOwn
import Derived.Laws.OwnMore
import Derived.Laws.IdiomCopy
import Derived.Laws.StructEq
import Derived.WalkLawsBesides
set_option linter.unusedSimpArgs false
set_option linter.unusedVariables false
set_option linter.unnecessarySimpa false
namespace Go.Vx

inductive Ty where
  | int (k : IntKind)
  | bool
  | str
  | sl (e : Ty)
  | unit
  | pair (a b : Ty)
  | arr (n : Nat) (e : Ty)
  deriving DecidableEq

@[reducible] def Ty.den : Ty → Type
  | .int _ => Int
  | .bool => Bool
  | .str => ByteArray
  | .sl e => List e.den
  | .unit => Unit
  | .pair a b => a.den × b.den
  | .arr _ e => List e.den

def Ty.size : Ty → Nat
  | .unit => 0
  | .pair a b => a.size + b.size
  | .arr n e => n * e.size
  | _ => 1

def Ty.agg : Ty → Bool
  | .unit | .pair _ _ | .arr _ _ => true
  | _ => false

/-- No slice anywhere: what reads so lies in its own cells alone. -/
def Ty.flat : Ty → Bool
  | .sl _ => false
  | .pair a b => a.flat && b.flat
  | .arr _ e => e.flat
  | _ => true

def Ty.zero : (t : Ty) → t.den
  | .int _ => (0 : Int)
  | .bool => false
  | .str => (⟨#[]⟩ : ByteArray)
  | .sl _ => []
  | .unit => ()
  | .pair a b => (a.zero, b.zero)
  | .arr n e => List.replicate n e.zero

def RepL {α : Type} (R : α → List Value → Prop) : List α → List Value → Prop
  | [], cs => cs = []
  | x :: xs, cs => ∃ c1 c2, cs = c1 ++ c2 ∧ R x c1 ∧ RepL R xs c2

/-- The cells ds lie at the address a, in a block of the region p. -/
def Lies (w : World) (p : Nat → Prop) (a : Option Addr) (ds : List Value) : Prop :=
  ds = [] ∨ ∃ ad, a = some ad ∧ ad.spot = none ∧ p ad.block ∧ ∀ j v, ds[j]? = some v → w.cell? ⟨ad.block, ad.off + j, none⟩ = some v

/-- The cells cs read as x, all memory behind them lying in the region p. -/
def Rep (w : World) (p : Nat → Prop) : (t : Ty) → t.den → List Value → Prop
  | .int k, x, cs => cs = [.int k x]
  | .bool, x, cs => cs = [.bool x]
  | .str, x, cs => cs = [.string x]
  | .sl e, xs, cs => ∃ a c ds, cs = [.slice a xs.length c] ∧ xs.length ≤ c ∧ RepL (Rep w p e) xs ds ∧ Lies w p a ds
  | .unit, _, cs => cs = []
  | .pair a b, x, cs => ∃ c1 c2, cs = c1 ++ c2 ∧ Rep w p a x.1 c1 ∧ Rep w p b x.2 c2
  | .arr n e, xs, cs => List.length xs = n ∧ RepL (Rep w p e) xs cs

/-! ### lists of readings -/
section
variable {α : Type} {R S : α → List Value → Prop}

theorem RepL.nil : RepL R [] [] := rfl

theorem RepL.mono {xs : List α} {cs : List Value} (h : RepL R xs cs) (hm : ∀ x c, x ∈ xs → R x c → S x c) : RepL S xs cs := by
  induction xs generalizing cs with
  | nil => exact h
  | cons x xs ih =>
    obtain ⟨c1, c2, rfl, h1, h2⟩ := h
    exact ⟨c1, c2, rfl, hm x c1 (List.mem_cons_self ..) h1, ih h2 fun y c hy => hm y c (List.mem_cons_of_mem _ hy)⟩

theorem RepL.append {xs ys : List α} {cs ds : List Value} (h : RepL R xs cs) (k : RepL R ys ds) : RepL R (xs ++ ys) (cs ++ ds) := by
  induction xs generalizing cs with
  | nil => have : cs = [] := h; subst this; exact k
  | cons x xs ih =>
    obtain ⟨c1, c2, rfl, h1, h2⟩ := h
    exact ⟨c1, c2 ++ ds, by simp, h1, ih h2⟩

theorem RepL.single {x : α} {c : List Value} (h : R x c) : RepL R [x] c := ⟨c, [], by simp, h, rfl⟩

theorem RepL.length {n : Nat} {xs : List α} {cs : List Value} (h : RepL R xs cs) (hn : ∀ x c, R x c → c.length = n) : cs.length = xs.length * n := by
  induction xs generalizing cs with
  | nil => have : cs = [] := h; subst this; simp
  | cons x xs ih =>
    obtain ⟨c1, c2, rfl, h1, h2⟩ := h
    rw [List.length_append, hn x c1 h1, ih h2, List.length_cons, Nat.succ_mul, Nat.add_comm]

theorem RepL.split {n : Nat} {xs ys : List α} {cs : List Value} (h : RepL R (xs ++ ys) cs) (hn : ∀ x c, R x c → c.length = n) :
    RepL R xs (cs.take (xs.length * n)) ∧ RepL R ys (cs.drop (xs.length * n)) := by
  induction xs generalizing cs with
  | nil => simpa [RepL] using h
  | cons x xs ih =>
    obtain ⟨c1, c2, rfl, h1, h2⟩ := h
    have e : (x :: xs).length * n = c1.length + xs.length * n := by rw [hn x c1 h1, List.length_cons, Nat.succ_mul, Nat.add_comm]
    obtain ⟨i1, i2⟩ := ih h2
    rw [e]
    refine ⟨⟨c1, c2.take (xs.length * n), by rw [List.take_length_add_append], h1, i1⟩, ?_⟩
    rw [List.drop_length_add_append]
    exact i2

theorem RepL.take {n : Nat} {xs : List α} {cs : List Value} (h : RepL R xs cs) (hn : ∀ x c, R x c → c.length = n) (k : Nat) (hk : k ≤ xs.length) :
    RepL R (xs.take k) (cs.take (k * n)) := by
  rw [← List.take_append_drop k xs] at h
  have := (h.split hn).1
  rwa [List.length_take, Nat.min_eq_left hk] at this

theorem RepL.drop {n : Nat} {xs : List α} {cs : List Value} (h : RepL R xs cs) (hn : ∀ x c, R x c → c.length = n) (k : Nat) (hk : k ≤ xs.length) :
    RepL R (xs.drop k) (cs.drop (k * n)) := by
  rw [← List.take_append_drop k xs] at h
  have := (h.split hn).2
  rwa [List.length_take, Nat.min_eq_left hk] at this

theorem RepL.get {n : Nat} {xs : List α} {cs : List Value} (h : RepL R xs cs) (hn : ∀ x c, R x c → c.length = n) (k : Nat) {x : α} (hx : xs[k]? = some x) :
    R x ((cs.drop (k * n)).take n) := by
  obtain ⟨hk, rfl⟩ := List.getElem?_eq_some_iff.1 hx
  have h1 := h.drop hn k (Nat.le_of_lt hk)
  rw [List.drop_eq_getElem_cons hk] at h1
  obtain ⟨c1, c2, e, r1, _⟩ := h1
  rw [e, List.take_append_of_le_length (by rw [hn _ _ r1]; exact Nat.le_refl _), List.take_of_length_le (by rw [hn _ _ r1]; exact Nat.le_refl _)]
  exact r1

theorem RepL.set {n : Nat} {xs : List α} {cs : List Value} (h : RepL R xs cs) (hn : ∀ x c, R x c → c.length = n) (k : Nat) (hk : k < xs.length) {y : α} {d : List Value} (hy : R y d) :
    RepL R (xs.set k y) (cs.take (k * n) ++ d ++ cs.drop (k * n + n)) := by
  have h1 := h.take hn k (Nat.le_of_lt hk)
  have h2 := h.drop hn (k + 1) hk
  rw [List.set_eq_take_append_cons_drop, if_pos hk, show k * n + n = (k + 1) * n by rw [Nat.succ_mul]]
  rw [List.append_assoc]
  exact h1.append (show RepL R (y :: xs.drop (k + 1)) _ from ⟨d, _, rfl, hy, h2⟩)

theorem RepL.replicate {x : α} {c : List Value} (h : R x c) : ∀ n, RepL R (List.replicate n x) (List.replicate n c).flatten
  | 0 => rfl
  | n + 1 => by
    rw [List.replicate_succ, List.replicate_succ, List.flatten_cons]
    exact ⟨c, _, rfl, h, RepL.replicate h n⟩
end

theorem Lies.mono {w w' : World} {p p' : Nat → Prop} {a : Option Addr} {ds : List Value} (h : Lies w p a ds)
    (hp : ∀ b, p b → b < w.heap.size → p' b ∧ w'.heap[b]? = w.heap[b]?) : Lies w' p' a ds := by
  rcases h with h | ⟨ad, ha, hs, hb, hc⟩
  · exact .inl h
  · cases ds with
    | nil => exact .inl rfl
    | cons d ds =>
      have hlt : ad.block < w.heap.size := World.block_lt_of_cell? w ⟨ad.block, ad.off + 0, none⟩ (hc 0 d rfl)
      obtain ⟨h1, h2⟩ := hp _ hb hlt
      exact .inr ⟨ad, ha, hs, h1, fun j v hj => (World.cell?_of_block (a := ⟨ad.block, ad.off + j, none⟩) h2).trans (hc j v hj)⟩

theorem Rep.mono {w w' : World} {p p' : Nat → Prop} (hp : ∀ b, p b → b < w.heap.size → p' b ∧ w'.heap[b]? = w.heap[b]?) :
    ∀ (t : Ty) (x : t.den) (cs : List Value), Rep w p t x cs → Rep w' p' t x cs
  | .int _, _, _, h => h
  | .bool, _, _, h => h
  | .str, _, _, h => h
  | .sl e, _, _, h => by
    obtain ⟨a, c, ds, h1, h2, h3, h4⟩ := h
    exact ⟨a, c, ds, h1, h2, h3.mono fun x c _ hr => Rep.mono hp e x c hr, h4.mono hp⟩
  | .unit, _, _, h => h
  | .pair a b, _, _, h => by
    obtain ⟨c1, c2, h1, h2, h3⟩ := h
    exact ⟨c1, c2, h1, Rep.mono hp a _ _ h2, Rep.mono hp b _ _ h3⟩
  | .arr n e, _, _, h => ⟨h.1, h.2.mono fun x c _ hr => Rep.mono hp e x c hr⟩

theorem Rep.flat {w w' : World} {p p' : Nat → Prop} : ∀ (t : Ty) (x : t.den) (cs : List Value), t.flat = true → Rep w p t x cs → Rep w' p' t x cs
  | .int _, _, _, _, h => h
  | .bool, _, _, _, h => h
  | .str, _, _, _, h => h
  | .sl _, _, _, hf, _ => by simp [Ty.flat] at hf
  | .unit, _, _, _, h => h
  | .pair a b, _, _, hf, h => by
    simp only [Ty.flat, Bool.and_eq_true] at hf
    obtain ⟨c1, c2, h1, h2, h3⟩ := h
    exact ⟨c1, c2, h1, Rep.flat a _ _ hf.1 h2, Rep.flat b _ _ hf.2 h3⟩
  | .arr n e, _, _, hf, h => ⟨h.1, h.2.mono fun x c _ hr => Rep.flat e x c hf hr⟩

theorem Rep.length {w : World} {p : Nat → Prop} : ∀ (t : Ty) (x : t.den) (cs : List Value), Rep w p t x cs → cs.length = t.size
  | .int _, _, _, h => by have h : _ = _ := h; rw [h]; rfl
  | .bool, _, _, h => by have h : _ = _ := h; rw [h]; rfl
  | .str, _, _, h => by have h : _ = _ := h; rw [h]; rfl
  | .sl _, _, _, h => by obtain ⟨_, _, _, rfl, _⟩ := h; rfl
  | .unit, _, _, h => by have h : _ = _ := h; rw [h]; rfl
  | .pair a b, _, _, h => by
    obtain ⟨c1, c2, rfl, h2, h3⟩ := h
    rw [List.length_append, Rep.length a _ _ h2, Rep.length b _ _ h3]; rfl
  | .arr n e, xs, cs, h => by
    have := h.2.length (n := e.size) (fun x c hr => Rep.length e x c hr)
    rw [this, h.1]; rfl

theorem Rep.one {w : World} {p : Nat → Prop} : ∀ (t : Ty) (x : t.den) (cs : List Value), Rep w p t x cs → ∀ v ∈ cs, v.oneCell' = true
  | .int _, _, _, h => by have h : _ = _ := h; rw [h]; simp [Value.oneCell']
  | .bool, _, _, h => by have h : _ = _ := h; rw [h]; simp [Value.oneCell']
  | .str, _, _, h => by have h : _ = _ := h; rw [h]; simp [Value.oneCell']
  | .sl _, _, _, h => by obtain ⟨_, _, _, rfl, _⟩ := h; simp [Value.oneCell']
  | .unit, _, _, h => by have h : _ = _ := h; rw [h]; simp
  | .pair a b, _, _, h => by
    obtain ⟨c1, c2, rfl, h2, h3⟩ := h
    intro v hv
    rcases List.mem_append.1 hv with hv | hv
    · exact Rep.one a _ _ h2 v hv
    · exact Rep.one b _ _ h3 v hv
  | .arr n e, xs, cs, h => by
    have h2 := h.2
    have go : ∀ (xs : List e.den) (cs : List Value), RepL (Rep w p e) xs cs → ∀ v ∈ cs, v.oneCell' = true := by
      intro xs
      induction xs with
      | nil => intro cs h; have h : _ = _ := h; rw [h]; simp
      | cons x xs ih =>
        intro cs h
        obtain ⟨c1, c2, rfl, r1, r2⟩ := h
        intro v hv
        rcases List.mem_append.1 hv with hv | hv
        · exact Rep.one e _ _ r1 v hv
        · exact ih _ r2 v hv
    exact go _ _ h2

theorem RepL.one {w : World} {p : Nat → Prop} {e : Ty} {xs : List e.den} {cs : List Value} (h : RepL (Rep w p e) xs cs) : ∀ v ∈ cs, v.oneCell' = true :=
  Rep.one (.arr xs.length e) xs cs ⟨rfl, h⟩

theorem RepL.len {w : World} {p : Nat → Prop} {e : Ty} {xs : List e.den} {cs : List Value} (h : RepL (Rep w p e) xs cs) : cs.length = xs.length * e.size :=
  h.length fun x c hr => Rep.length e x c hr

/-- The cells of a zero value. -/
def zcells : Ty → List Value
  | .int k => [.int k 0]
  | .bool => [.bool false]
  | .str => [.string ⟨#[]⟩]
  | .sl _ => [.slice none 0 0]
  | .unit => []
  | .pair a b => zcells a ++ zcells b
  | .arr n e => (List.replicate n (zcells e)).flatten

theorem Rep.zero (w : World) (p : Nat → Prop) : ∀ t : Ty, Rep w p t t.zero (zcells t)
  | .int _ => rfl
  | .bool => rfl
  | .str => rfl
  | .sl _ => ⟨none, 0, [], rfl, Nat.le_refl _, rfl, .inl rfl⟩
  | .unit => rfl
  | .pair a b => ⟨_, _, rfl, Rep.zero w p a, Rep.zero w p b⟩
  | .arr n e => ⟨by simp [Ty.zero], RepL.replicate (Rep.zero w p e) n⟩

/-! ### rows within rows, each a block of its own -/

/-- A type of plain data whose slices bear the number of their elements' type. -/
inductive DTy where
  | int (k : IntKind)
  | bool
  | str
  | sl (tid : Nat) (e : DTy)
  | unit
  | pair (a b : DTy)
  deriving DecidableEq

@[reducible] def DTy.ty : DTy → Ty
  | .int k => .int k
  | .bool => .bool
  | .str => .str
  | .sl _ e => .sl e.ty
  | .unit => .unit
  | .pair a b => .pair a.ty b.ty

def DRepL {α : Type} (R : α → List Value → List Nat → Prop) : List α → List Value → List Nat → Prop
  | [], cs, bs => cs = [] ∧ bs = []
  | x :: xs, cs, bs => ∃ c1 c2 b1 b2, cs = c1 ++ c2 ∧ bs = b1 ++ b2 ∧ R x c1 b1 ∧ DRepL R xs c2 b2

def ablk (a : Option Addr) : List Nat := (a.map (·.block)).toList

/-- The cells cs read as x; the rows behind them are those of the blocks bs, in this order. -/
def DRep (w : World) : (d : DTy) → d.ty.den → List Value → List Nat → Prop
  | .int k, x, cs, bs => cs = [.int k x] ∧ bs = []
  | .bool, x, cs, bs => cs = [.bool x] ∧ bs = []
  | .str, x, cs, bs => cs = [.string x] ∧ bs = []
  | .sl tid e, xs, cs, bs => ∃ a c ds b2, cs = [.slice a (List.length xs) c] ∧ w.ownsRow 0 tid e.ty.size (.slice a (List.length xs) c) (List.length xs) ds ∧ DRepL (DRep w e) xs ds b2 ∧ bs = ablk a ++ b2
  | .unit, _, cs, bs => cs = [] ∧ bs = []
  | .pair a b, x, cs, bs => ∃ c1 c2 b1 b2, cs = c1 ++ c2 ∧ bs = b1 ++ b2 ∧ DRep w a x.1 c1 b1 ∧ DRep w b x.2 c2 b2

section
variable {α : Type} {R S : α → List Value → List Nat → Prop}

theorem DRepL.mono {xs : List α} {cs : List Value} {bs : List Nat} (h : DRepL R xs cs bs) (hm : ∀ x c b, (∀ z ∈ b, z ∈ bs) → R x c b → S x c b) : DRepL S xs cs bs := by
  induction xs generalizing cs bs with
  | nil => exact h
  | cons x xs ih =>
    obtain ⟨c1, c2, b1, b2, rfl, rfl, h1, h2⟩ := h
    exact ⟨c1, c2, b1, b2, rfl, rfl, hm x c1 b1 (fun z hz => List.mem_append_left _ hz) h1, ih h2 fun y c b hb => hm y c b fun z hz => List.mem_append_right _ (hb z hz)⟩

theorem DRepL.append {xs ys : List α} {cs ds : List Value} {bs es : List Nat} (h : DRepL R xs cs bs) (k : DRepL R ys ds es) : DRepL R (xs ++ ys) (cs ++ ds) (bs ++ es) := by
  induction xs generalizing cs bs with
  | nil => obtain ⟨rfl, rfl⟩ := h; exact k
  | cons x xs ih =>
    obtain ⟨c1, c2, b1, b2, rfl, rfl, h1, h2⟩ := h
    exact ⟨c1, c2 ++ ds, b1, b2 ++ es, by simp, by simp, h1, ih h2⟩

theorem DRepL.split {xs ys : List α} {cs : List Value} {bs : List Nat} (h : DRepL R (xs ++ ys) cs bs) : ∃ c1 c2 b1 b2, cs = c1 ++ c2 ∧ bs = b1 ++ b2 ∧ DRepL R xs c1 b1 ∧ DRepL R ys c2 b2 := by
  induction xs generalizing cs bs with
  | nil => exact ⟨[], cs, [], bs, rfl, rfl, ⟨rfl, rfl⟩, h⟩
  | cons x xs ih =>
    obtain ⟨c1, c2, b1, b2, rfl, rfl, h1, h2⟩ := h
    obtain ⟨d1, d2, e1, e2, rfl, rfl, h3, h4⟩ := ih h2
    exact ⟨c1 ++ d1, d2, b1 ++ e1, e2, by simp, by simp, ⟨c1, d1, b1, e1, rfl, rfl, h1, h3⟩, h4⟩
end

theorem ownsRow_keep {w w' : World} {tid size : Nat} {a : Option Addr} {l c n : Nat} {ds : List Value} (h : w.ownsRow 0 tid size (.slice a l c) n ds) (hb : ∀ b ∈ ablk a, w'.heap[b]? = w.heap[b]?) : w'.ownsRow 0 tid size (.slice a l c) n ds := by
  refine ⟨h.1, ?_⟩
  rcases h.2 with h3 | ⟨g, cap, cur, h4, h5, h6, h7⟩
  · exact .inl h3
  · refine .inr ⟨g, cap, cur, h4, h5, ?_, h7⟩
    simp only [Value.slice.injEq] at h4
    rw [hb g (by rw [h4.1]; simp [ablk])]; exact h6

theorem DRep.keep {w w' : World} : ∀ (d : DTy) (x : d.ty.den) (cs : List Value) (bs : List Nat), (∀ b ∈ bs, w'.heap[b]? = w.heap[b]?) → DRep w d x cs bs → DRep w' d x cs bs
  | .int _, _, _, _, _, h => h
  | .bool, _, _, _, _, h => h
  | .str, _, _, _, _, h => h
  | .sl tid e, _, _, _, hb, h => by
    obtain ⟨a, c, ds, b2, h1, h2, h3, rfl⟩ := h
    exact ⟨a, c, ds, b2, h1, ownsRow_keep h2 fun b hm => hb b (List.mem_append_left _ hm), h3.mono fun x c b hs hr => DRep.keep e x c b (fun z hz => hb z (List.mem_append_right _ (hs z hz))) hr, rfl⟩
  | .unit, _, _, _, _, h => h
  | .pair a b, _, _, _, hb, h => by
    obtain ⟨c1, c2, b1, b2, h1, rfl, h2, h3⟩ := h
    exact ⟨c1, c2, b1, b2, h1, rfl, DRep.keep a _ _ _ (fun z hz => hb z (List.mem_append_left _ hz)) h2, DRep.keep b _ _ _ (fun z hz => hb z (List.mem_append_right _ hz)) h3⟩

theorem ownsRow_lies {w : World} {p : Nat → Prop} {tid size : Nat} {a : Option Addr} {l c n : Nat} {ds : List Value} (h : w.ownsRow 0 tid size (.slice a l c) n ds) (hp : ∀ b ∈ ablk a, p b) : Lies w p a ds ∧ n ≤ c := by
  rcases h.2 with ⟨h3, h4⟩ | ⟨g, cap, cur, h4, h5, h6, h7, h8, h9, h10⟩
  · simp only [Value.slice.injEq] at h3
    refine ⟨.inl ?_, by omega⟩
    have := h.1
    rw [h4, Nat.zero_mul] at this
    exact List.eq_nil_of_length_eq_zero this
  · simp only [Value.slice.injEq] at h4
    obtain ⟨rfl, rfl, rfl⟩ := h4
    refine ⟨.inr ⟨_, rfl, rfl, hp g (by simp [ablk]), fun j v hj => ?_⟩, h7⟩
    rw [← h10, List.getElem?_take] at hj
    split at hj
    · simp only [World.cell?, h6, Nat.zero_add]
      simpa using hj
    · cases hj

/-- Rows that one holds alone are data. -/
theorem DRep.rep {w : World} {p : Nat → Prop} : ∀ (d : DTy) (x : d.ty.den) (cs : List Value) (bs : List Nat), (∀ b ∈ bs, p b) → DRep w d x cs bs → Rep w p d.ty x cs
  | .int _, _, _, _, _, h => h.1
  | .bool, _, _, _, _, h => h.1
  | .str, _, _, _, _, h => h.1
  | .sl tid e, xs, _, _, hb, h => by
    obtain ⟨a, c, ds, b2, h1, h2, h3, rfl⟩ := h
    obtain ⟨k1, k2⟩ := ownsRow_lies (p := p) h2 fun b hm => hb b (List.mem_append_left _ hm)
    have hl : ∀ (ys : List e.ty.den) (es : List Value) (b3 : List Nat), (∀ b ∈ b3, p b) → DRepL (DRep w e) ys es b3 → RepL (Rep w p e.ty) ys es := by
      intro ys
      induction ys with
      | nil => intro es b3 _ h; exact h.1
      | cons y ys ih =>
        intro es b3 hb h
        obtain ⟨c1, c2, b1, b2, rfl, rfl, h4, h5⟩ := h
        exact ⟨c1, c2, rfl, DRep.rep e y c1 b1 (fun z hz => hb z (List.mem_append_left _ hz)) h4, ih c2 b2 (fun z hz => hb z (List.mem_append_right _ hz)) h5⟩
    exact ⟨a, c, ds, h1, k2, hl xs ds b2 (fun z hz => hb z (List.mem_append_right _ hz)) h3, k1⟩
  | .unit, _, _, _, _, h => h.1
  | .pair a b, _, _, _, hb, h => by
    obtain ⟨c1, c2, b1, b2, h1, rfl, h2, h3⟩ := h
    exact ⟨c1, c2, h1, DRep.rep a _ _ _ (fun z hz => hb z (List.mem_append_left _ hz)) h2, DRep.rep b _ _ _ (fun z hz => hb z (List.mem_append_right _ hz)) h3⟩

theorem DRep.length {w : World} {d : DTy} {x : d.ty.den} {cs : List Value} {bs : List Nat} (h : DRep w d x cs bs) : cs.length = d.ty.size :=
  Rep.length (w := w) (p := fun _ => True) d.ty x cs (DRep.rep d x cs bs (fun _ _ => trivial) h)

theorem DRep.zero (w : World) : ∀ d : DTy, DRep w d d.ty.zero (zcells d.ty) []
  | .int _ => ⟨rfl, rfl⟩
  | .bool => ⟨rfl, rfl⟩
  | .str => ⟨rfl, rfl⟩
  | .sl _ e => ⟨none, 0, [], [], rfl, ⟨by simp [DTy.ty, Ty.zero], .inl ⟨rfl, rfl⟩⟩, ⟨rfl, rfl⟩, rfl⟩
  | .unit => ⟨rfl, rfl⟩
  | .pair a b => ⟨_, _, [], [], rfl, rfl, DRep.zero w a, DRep.zero w b⟩

/-- How many elements' rows are held alone: all, or so many of the first ones. -/
def inK (k : Option Int) (i : Nat) : Bool := match k with
  | none => true
  | some z => decide ((i : Int) < z)

/-- The elements of a row: each with rows of its own, or with rows that are shared. -/
def ElsR (w : World) (p : Nat → Prop) (d : DTy) (k : Option Int) : Nat → List d.ty.den → List Value → List Nat → Prop
  | _, [], cs, bs => cs = [] ∧ bs = []
  | i, x :: xs, cs, bs => ∃ c1 c2 b1 b2, cs = c1 ++ c2 ∧ bs = b1 ++ b2 ∧ (match inK k i with | true => DRep w d x c1 b1 | false => Rep w p d.ty x c1 ∧ b1 = []) ∧ ElsR w p d k (i + 1) xs c2 b2

theorem ElsR.keep {w w' : World} {p p' : Nat → Prop} {d : DTy} {k : Option Int} (hp : ∀ b, p b → b < w.heap.size → p' b ∧ w'.heap[b]? = w.heap[b]?) : ∀ (xs : List d.ty.den) (i : Nat) (cs : List Value) (bs : List Nat), (∀ b ∈ bs, w'.heap[b]? = w.heap[b]?) → ElsR w p d k i xs cs bs → ElsR w' p' d k i xs cs bs
  | [], _, _, _, _, h => h
  | x :: xs, i, _, _, hb, h => by
    obtain ⟨c1, c2, b1, b2, h1, rfl, h2, h3⟩ := h
    refine ⟨c1, c2, b1, b2, h1, rfl, ?_, ElsR.keep hp xs (i + 1) c2 b2 (fun z hz => hb z (List.mem_append_right _ hz)) h3⟩
    cases hk : inK k i with
    | true => rw [hk] at h2; exact DRep.keep d x c1 b1 (fun z hz => hb z (List.mem_append_left _ hz)) h2
    | false => rw [hk] at h2; exact ⟨Rep.mono hp d.ty x c1 h2.1, h2.2⟩

/-- All of it as data. -/
theorem ElsR.rep {w : World} {p : Nat → Prop} {d : DTy} {k : Option Int} : ∀ (xs : List d.ty.den) (i : Nat) (cs : List Value) (bs : List Nat), (∀ b ∈ bs, p b) → ElsR w p d k i xs cs bs → RepL (Rep w p d.ty) xs cs
  | [], _, _, _, _, h => h.1
  | x :: xs, i, _, _, hb, h => by
    obtain ⟨c1, c2, b1, b2, h1, rfl, h2, h3⟩ := h
    refine ⟨c1, c2, h1, ?_, ElsR.rep xs (i + 1) c2 b2 (fun z hz => hb z (List.mem_append_right _ hz)) h3⟩
    cases hk : inK k i with
    | true => rw [hk] at h2; exact DRep.rep d x c1 b1 (fun z hz => hb z (List.mem_append_left _ hz)) h2
    | false => rw [hk] at h2; exact h2.1

end Go.Vx
