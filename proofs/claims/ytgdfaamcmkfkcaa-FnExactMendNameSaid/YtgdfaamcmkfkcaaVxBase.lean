/-
  What a Go value reads as: types of plain data, and the relation between cells and data. No program in sight.
-/
import Derived.WalkKit
import Derived.Deep.LoopGhost
import Derived.Laws.AppendOwn
import Derived.Laws.OwnMore
import Derived.Laws.IdiomCopy
import Derived.Laws.StructEq
import Derived.WalkLawsBesides
set_option linter.unusedSimpArgs false
set_option linter.unusedVariables false
set_option linter.unnecessarySimpa false
namespace Go.Vx

inductive Ty where
  | int (k : IntKind)
  | bool
  | str
  | sl (e : Ty)
  | unit
  | pair (a b : Ty)
  | arr (n : Nat) (e : Ty)
  deriving DecidableEq

@[reducible] def Ty.den : Ty → Type
  | .int _ => Int
  | .bool => Bool
  | .str => ByteArray
  | .sl e => List e.den
  | .unit => Unit
  | .pair a b => a.den × b.den
  | .arr _ e => List e.den

def Ty.size : Ty → Nat
  | .unit => 0
  | .pair a b => a.size + b.size
  | .arr n e => n * e.size
  | _ => 1

def Ty.agg : Ty → Bool
  | .unit | .pair _ _ | .arr _ _ => true
  | _ => false

/-- No slice anywhere: what reads so lies in its own cells alone. -/
def Ty.flat : Ty → Bool
  | .sl _ => false
  | .pair a b => a.flat && b.flat
  | .arr _ e => e.flat
  | _ => true

def Ty.zero : (t : Ty) → t.den
  | .int _ => (0 : Int)
  | .bool => false
  | .str => (⟨#[]⟩ : ByteArray)
  | .sl _ => []
  | .unit => ()
  | .pair a b => (a.zero, b.zero)
  | .arr n e => List.replicate n e.zero

def RepL {α : Type} (R : α → List Value → Prop) : List α → List Value → Prop
  | [], cs => cs = []
  | x :: xs, cs => ∃ c1 c2, cs = c1 ++ c2 ∧ R x c1 ∧ RepL R xs c2

/-- The cells ds lie at the address a, in a block of the region p. -/
def Lies (w : World) (p : Nat → Prop) (a : Option Addr) (ds : List Value) : Prop :=
  ds = [] ∨ ∃ ad, a = some ad ∧ ad.spot = none ∧ p ad.block ∧ ∀ j v, ds[j]? = some v → w.cell? ⟨ad.block, ad.off + j, none⟩ = some v

/-- The cells cs read as x, all memory behind them lying in the region p. -/
def Rep (w : World) (p : Nat → Prop) : (t : Ty) → t.den → List Value → Prop
  | .int k, x, cs => cs = [.int k x]
  | .bool, x, cs => cs = [.bool x]
  | .str, x, cs => cs = [.string x]
  | .sl e, xs, cs => ∃ a c ds, cs = [.slice a xs.length c] ∧ xs.length ≤ c ∧ RepL (Rep w p e) xs ds ∧ Lies w p a ds
  | .unit, _, cs => cs = []
  | .pair a b, x, cs => ∃ c1 c2, cs = c1 ++ c2 ∧ Rep w p a x.1 c1 ∧ Rep w p b x.2 c2
  | .arr n e, xs, cs => List.length xs = n ∧ RepL (Rep w p e) xs cs

/-! ### lists of readings -/
section
variable {α : Type} {R S : α → List Value → Prop}

theorem RepL.nil : RepL R [] [] := rfl

theorem RepL.mono {xs : List α} {cs : List Value} (h : RepL R xs cs) (hm : ∀ x c, x ∈ xs → R x c → S x c) : RepL S xs cs := by
  induction xs generalizing cs with
  | nil => exact h
  | cons x xs ih =>
    obtain ⟨c1, c2, rfl, h1, h2⟩ := h
    exact ⟨c1, c2, rfl, hm x c1 (List.mem_cons_self ..) h1, ih h2 fun y c hy => hm y c (List.mem_cons_of_mem _ hy)⟩

theorem RepL.append {xs ys : List α} {cs ds : List Value} (h : RepL R xs cs) (k : RepL R ys ds) : RepL R (xs ++ ys) (cs ++ ds) := by
  induction xs generalizing cs with
  | nil => have : cs = [] := h; subst this; exact k
  | cons x xs ih =>
    obtain ⟨c1, c2, rfl, h1, h2⟩ := h
    exact ⟨c1, c2 ++ ds, by simp, h1, ih h2⟩

theorem RepL.single {x : α} {c : List Value} (h : R x c) : RepL R [x] c := ⟨c, [], by simp, h, rfl⟩

theorem RepL.length {n : Nat} {xs : List α} {cs : List Value} (h : RepL R xs cs) (hn : ∀ x c, R x c → c.length = n) : cs.length = xs.length * n := by
  induction xs generalizing cs with
  | nil => have : cs = [] := h; subst this; simp
  | cons x xs ih =>
    obtain ⟨c1, c2, rfl, h1, h2⟩ := h
    rw [List.length_append, hn x c1 h1, ih h2, List.length_cons, Nat.succ_mul, Nat.add_comm]

theorem RepL.split {n : Nat} {xs ys : List α} {cs : List Value} (h : RepL R (xs ++ ys) cs) (hn : ∀ x c, R x c → c.length = n) :
    RepL R xs (cs.take (xs.length * n)) ∧ RepL R ys (cs.drop (xs.length * n)) := by
  induction xs generalizing cs with
  | nil => simpa [RepL] using h
  | cons x xs ih =>
    obtain ⟨c1, c2, rfl, h1, h2⟩ := h
    have e : (x :: xs).length * n = c1.length + xs.length * n := by rw [hn x c1 h1, List.length_cons, Nat.succ_mul, Nat.add_comm]
    obtain ⟨i1, i2⟩ := ih h2
    rw [e]
    refine ⟨⟨c1, c2.take (xs.length * n), by rw [List.take_length_add_append], h1, i1⟩, ?_⟩
    rw [List.drop_length_add_append]
    exact i2

theorem RepL.take {n : Nat} {xs : List α} {cs : List Value} (h : RepL R xs cs) (hn : ∀ x c, R x c → c.length = n) (k : Nat) (hk : k ≤ xs.length) :
    RepL R (xs.take k) (cs.take (k * n)) := by
  rw [← List.take_append_drop k xs] at h
  have := (h.split hn).1
  rwa [List.length_take, Nat.min_eq_left hk] at this

theorem RepL.drop {n : Nat} {xs : List α} {cs : List Value} (h : RepL R xs cs) (hn : ∀ x c, R x c → c.length = n) (k : Nat) (hk : k ≤ xs.length) :
    RepL R (xs.drop k) (cs.drop (k * n)) := by
  rw [← List.take_append_drop k xs] at h
  have := (h.split hn).2
  rwa [List.length_take, Nat.min_eq_left hk] at this

theorem RepL.get {n : Nat} {xs : List α} {cs : List Value} (h : RepL R xs cs) (hn : ∀ x c, R x c → c.length = n) (k : Nat) {x : α} (hx : xs[k]? = some x) :
    R x ((cs.drop (k * n)).take n) := by
  obtain ⟨hk, rfl⟩ := List.getElem?_eq_some_iff.1 hx
  have h1 := h.drop hn k (Nat.le_of_lt hk)
  rw [List.drop_eq_getElem_cons hk] at h1
  obtain ⟨c1, c2, e, r1, _⟩ := h1
  rw [e, List.take_append_of_le_length (by rw [hn _ _ r1]; exact Nat.le_refl _), List.take_of_length_le (by rw [hn _ _ r1]; exact Nat.le_refl _)]
  exact r1

theorem RepL.set {n : Nat} {xs : List α} {cs : List Value} (h : RepL R xs cs) (hn : ∀ x c, R x c → c.length = n) (k : Nat) (hk : k < xs.length) {y : α} {d : List Value} (hy : R y d) :
    RepL R (xs.set k y) (cs.take (k * n) ++ d ++ cs.drop (k * n + n)) := by
  have h1 := h.take hn k (Nat.le_of_lt hk)
  have h2 := h.drop hn (k + 1) hk
  rw [List.set_eq_take_append_cons_drop, if_pos hk, show k * n + n = (k + 1) * n by rw [Nat.succ_mul]]
  rw [List.append_assoc]
  exact h1.append (show RepL R (y :: xs.drop (k + 1)) _ from ⟨d, _, rfl, hy, h2⟩)

theorem RepL.replicate {x : α} {c : List Value} (h : R x c) : ∀ n, RepL R (List.replicate n x) (List.replicate n c).flatten
  | 0 => rfl
  | n + 1 => by
    rw [List.replicate_succ, List.replicate_succ, List.flatten_cons]
    exact ⟨c, _, rfl, h, RepL.replicate h n⟩
end

theorem Lies.mono {w w' : World} {p p' : Nat → Prop} {a : Option Addr} {ds : List Value} (h : Lies w p a ds)
    (hp : ∀ b, p b → b < w.heap.size → p' b ∧ w'.heap[b]? = w.heap[b]?) : Lies w' p' a ds := by
  rcases h with h | ⟨ad, ha, hs, hb, hc⟩
  · exact .inl h
  · cases ds with
    | nil => exact .inl rfl
    | cons d ds =>
      have hlt : ad.block < w.heap.size := World.block_lt_of_cell? w ⟨ad.block, ad.off + 0, none⟩ (hc 0 d rfl)
      obtain ⟨h1, h2⟩ := hp _ hb hlt
      exact .inr ⟨ad, ha, hs, h1, fun j v hj => (World.cell?_of_block (a := ⟨ad.block, ad.off + j, none⟩) h2).trans (hc j v hj)⟩

theorem Rep.mono {w w' : World} {p p' : Nat → Prop} (hp : ∀ b, p b → b < w.heap.size → p' b ∧ w'.heap[b]? = w.heap[b]?) :
    ∀ (t : Ty) (x : t.den) (cs : List Value), Rep w p t x cs → Rep w' p' t x cs
  | .int _, _, _, h => h
  | .bool, _, _, h => h
  | .str, _, _, h => h
  | .sl e, _, _, h => by
    obtain ⟨a, c, ds, h1, h2, h3, h4⟩ := h
    exact ⟨a, c, ds, h1, h2, h3.mono fun x c _ hr => Rep.mono hp e x c hr, h4.mono hp⟩
  | .unit, _, _, h => h
  | .pair a b, _, _, h => by
    obtain ⟨c1, c2, h1, h2, h3⟩ := h
    exact ⟨c1, c2, h1, Rep.mono hp a _ _ h2, Rep.mono hp b _ _ h3⟩
  | .arr n e, _, _, h => ⟨h.1, h.2.mono fun x c _ hr => Rep.mono hp e x c hr⟩

theorem Rep.flat {w w' : World} {p p' : Nat → Prop} : ∀ (t : Ty) (x : t.den) (cs : List Value), t.flat = true → Rep w p t x cs → Rep w' p' t x cs
  | .int _, _, _, _, h => h
  | .bool, _, _, _, h => h
  | .str, _, _, _, h => h
  | .sl _, _, _, hf, _ => by simp [Ty.flat] at hf
  | .unit, _, _, _, h => h
  | .pair a b, _, _, hf, h => by
    simp only [Ty.flat, Bool.and_eq_true] at hf
    obtain ⟨c1, c2, h1, h2, h3⟩ := h
    exact ⟨c1, c2, h1, Rep.flat a _ _ hf.1 h2, Rep.flat b _ _ hf.2 h3⟩
  | .arr n e, _, _, hf, h => ⟨h.1, h.2.mono fun x c _ hr => Rep.flat e x c hf hr⟩

theorem Rep.length {w : World} {p : Nat → Prop} : ∀ (t : Ty) (x : t.den) (cs : List Value), Rep w p t x cs → cs.length = t.size
  | .int _, _, _, h => by have h : _ = _ := h; rw [h]; rfl
  | .bool, _, _, h => by have h : _ = _ := h; rw [h]; rfl
  | .str, _, _, h => by have h : _ = _ := h; rw [h]; rfl
  | .sl _, _, _, h => by obtain ⟨_, _, _, rfl, _⟩ := h; rfl
  | .unit, _, _, h => by have h : _ = _ := h; rw [h]; rfl
  | .pair a b, _, _, h => by
    obtain ⟨c1, c2, rfl, h2, h3⟩ := h
    rw [List.length_append, Rep.length a _ _ h2, Rep.length b _ _ h3]; rfl
  | .arr n e, xs, cs, h => by
    have := h.2.length (n := e.size) (fun x c hr => Rep.length e x c hr)
    rw [this, h.1]; rfl

theorem Rep.one {w : World} {p : Nat → Prop} : ∀ (t : Ty) (x : t.den) (cs : List Value), Rep w p t x cs → ∀ v ∈ cs, v.oneCell' = true
  | .int _, _, _, h => by have h : _ = _ := h; rw [h]; simp [Value.oneCell']
  | .bool, _, _, h => by have h : _ = _ := h; rw [h]; simp [Value.oneCell']
  | .str, _, _, h => by have h : _ = _ := h; rw [h]; simp [Value.oneCell']
  | .sl _, _, _, h => by obtain ⟨_, _, _, rfl, _⟩ := h; simp [Value.oneCell']
  | .unit, _, _, h => by have h : _ = _ := h; rw [h]; simp
  | .pair a b, _, _, h => by
    obtain ⟨c1, c2, rfl, h2, h3⟩ := h
    intro v hv
    rcases List.mem_append.1 hv with hv | hv
    · exact Rep.one a _ _ h2 v hv
    · exact Rep.one b _ _ h3 v hv
  | .arr n e, xs, cs, h => by
    have h2 := h.2
    have go : ∀ (xs : List e.den) (cs : List Value), RepL (Rep w p e) xs cs → ∀ v ∈ cs, v.oneCell' = true := by
      intro xs
      induction xs with
      | nil => intro cs h; have h : _ = _ := h; rw [h]; simp
      | cons x xs ih =>
        intro cs h
        obtain ⟨c1, c2, rfl, r1, r2⟩ := h
        intro v hv
        rcases List.mem_append.1 hv with hv | hv
        · exact Rep.one e _ _ r1 v hv
        · exact ih _ r2 v hv
    exact go _ _ h2

theorem RepL.one {w : World} {p : Nat → Prop} {e : Ty} {xs : List e.den} {cs : List Value} (h : RepL (Rep w p e) xs cs) : ∀ v ∈ cs, v.oneCell' = true :=
  Rep.one (.arr xs.length e) xs cs ⟨rfl, h⟩

theorem RepL.len {w : World} {p : Nat → Prop} {e : Ty} {xs : List e.den} {cs : List Value} (h : RepL (Rep w p e) xs cs) : cs.length = xs.length * e.size :=
  h.length fun x c hr => Rep.length e x c hr

/-- The cells of a zero value. -/
def zcells : Ty → List Value
  | .int k => [.int k 0]
  | .bool => [.bool false]
  | .str => [.string ⟨#[]⟩]
  | .sl _ => [.slice none 0 0]
  | .unit => []
  | .pair a b => zcells a ++ zcells b
  | .arr n e => (List.replicate n (zcells e)).flatten

theorem Rep.zero (w : World) (p : Nat → Prop) : ∀ t : Ty, Rep w p t t.zero (zcells t)
  | .int _ => rfl
  | .bool => rfl
  | .str => rfl
  | .sl _ => ⟨none, 0, [], rfl, Nat.le_refl _, rfl, .inl rfl⟩
  | .unit => rfl
  | .pair a b => ⟨_, _, rfl, Rep.zero w p a, Rep.zero w p b⟩
  | .arr n e => ⟨by simp [Ty.zero], RepL.replicate (Rep.zero w p e) n⟩

end Go.Vx
