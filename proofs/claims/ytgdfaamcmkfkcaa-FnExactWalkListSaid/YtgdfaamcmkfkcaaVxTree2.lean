/-
  Trees: homes, counts, walks. What the program's functions and the reference's compute. Plain lists.
-/
import Derived.Test.YtgdfaamcmkfkcaaVxTree
set_option linter.unusedSimpArgs false
set_option linter.unusedVariables false
set_option linter.unnecessarySimpa false
namespace Go.VxU
open Go Go.Vx Go.Proofs Go.Gr

def SmL (os : List Obj) : Prop := os.length ≤ 1048576 ∧ ∀ o ∈ os, SmO o

/-- Where something is, and what it is called there. -/
def homeF (os : List Obj) (id : Int) : Option (Int × ByteArray) :=
  findI (fun i o => (findI (fun _ (e : Ent) => if e.2.1 == id then some e.1 else none) 0 o.2.2.2.1).map fun nm => ((i : Int), nm)) 0 os

def homeI (os : List Obj) (id : Int) : Int := ((homeF os id).map (·.1)).getD (-1)

theorem spec_home (os : List Obj) (id : Int) (h : SmL os) : spec_l1Home (os, ()) id = some (homeI os id) := by
  have inner : ∀ i (hi : i < os.length), iter (β := (Int × (List Obj) × Int × Int) ⊕ ((Int × (List Obj) × Int) ⊕ Int)) spec_l1Home_L2 FUEL (id, os, (i : Int), 0) =
      some ((findI (fun _ (e : Ent) => if e.2.1 == id then some (Sum.inr (Sum.inr (i : Int))) else none) 0 os[i].2.2.2.1).getD (Sum.inl (id, os, (i : Int), (os[i].2.2.2.1.length : Int)))) := by
    intro i hi
    have hk := (h.2 _ (List.getElem_mem hi)).2.1
    refine iter_find os[i].2.2.2.1 (fun k => (id, os, (i : Int), (k : Int))) (fun _ (e : Ent) => if e.2.1 == id then some (Sum.inr (Sum.inr (i : Int))) else none) _ ?_ ?_ rfl (by omega)
    · intro k hk rec
      unfold spec_l1Home_L2
      simp only
      rw [idx_get hi]
      simp only [Option.bind_some]
      rw [lt_true hk, cond_true, idx_get hk, wrap_succ (by omega)]
      simp only [Option.bind_some]
      by_cases hq : (os[i].2.2.2.1[k].2.1 == id) = true
      · rw [hq, if_pos rfl]; rfl
      · rw [if_neg hq, Bool.eq_false_iff.2 hq]; rfl
    · intro rec
      unfold spec_l1Home_L2
      simp only
      rw [idx_get hi]
      simp only [Option.bind_some]
      rw [lt_false]; rfl
  have outer : iter (β := (Int × (List Obj) × Int) ⊕ Int) spec_l1Home_L0 FUEL (id, os, 0) =
      some ((findI (fun i o => (findI (fun _ (e : Ent) => if e.2.1 == id then some e.1 else none) 0 o.2.2.2.1).map fun _ => (Sum.inr (i : Int) : (Int × (List Obj) × Int) ⊕ Int)) 0 os).getD (Sum.inl (id, os, (os.length : Int)))) := by
    refine iter_find os (fun k => (id, os, (k : Int))) _ _ ?_ ?_ rfl (by have := h.1; omega)
    · intro k hk rec
      have hl := h.1
      unfold spec_l1Home_L0
      simp only
      rw [lt_true hk, cond_true, inner k hk]
      simp only [Option.bind_some]
      have go : ∀ (ks : List Ent) j, (findI (fun _ (e : Ent) => if e.2.1 == id then some (Sum.inr (Sum.inr (k : Int)) : (Int × (List Obj) × Int × Int) ⊕ ((Int × (List Obj) × Int) ⊕ Int)) else none) j ks) =
          (findI (fun _ (e : Ent) => if e.2.1 == id then some e.1 else none) j ks).map fun _ => Sum.inr (Sum.inr (k : Int)) := by
        intro ks
        induction ks with
        | nil => intro j; rfl
        | cons e ks ih =>
          intro j
          rw [findI, findI]
          by_cases hq : (e.2.1 == id) = true
          · rw [if_pos hq, if_pos hq]; rfl
          · rw [if_neg hq, if_neg hq]; exact ih _
      rw [go]
      cases hf : findI (fun _ (e : Ent) => if e.2.1 == id then some e.1 else none) 0 os[k].2.2.2.1 with
      | none => simp only [Option.map_none, Option.getD_none]; rw [wrap_succ (by omega)]
      | some nm => rfl
    · intro rec
      unfold spec_l1Home_L0
      simp only
      rw [lt_false]; rfl
  unfold spec_l1Home
  rw [outer]
  simp only [Option.bind_some]
  unfold homeI homeF
  have go : ∀ (l : List Obj) j, (findI (fun i (o : Obj) => (findI (fun _ (e : Ent) => if e.2.1 == id then some e.1 else none) 0 o.2.2.2.1).map fun _ => (Sum.inr (i : Int) : (Int × (List Obj) × Int) ⊕ Int)) j l) =
      (findI (fun i (o : Obj) => (findI (fun _ (e : Ent) => if e.2.1 == id then some e.1 else none) 0 o.2.2.2.1).map fun nm => ((i : Int), nm)) j l).map fun x => Sum.inr x.1 := by
    intro l
    induction l with
    | nil => intro j; rfl
    | cons o l ih =>
      intro j
      rw [findI, findI]
      cases hf : findI (fun _ (e : Ent) => if e.2.1 == id then some e.1 else none) 0 o.2.2.2.1 with
      | none => exact ih _
      | some nm => rfl
  rw [go]
  cases hf : findI (fun i (o : Obj) => (findI (fun _ (e : Ent) => if e.2.1 == id then some e.1 else none) 0 o.2.2.2.1).map fun nm => ((i : Int), nm)) 0 os with
  | none => rfl
  | some x => rfl

theorem impl_home_eq (os : List Obj) (id : Int) (h : SmL os) : impl_home (os, ()) id = some ((homeF os id).getD (-1, ⟨#[]⟩)) := by
  have inner : ∀ i (hi : i < os.length), iter (β := (Int × Int × (List Obj) × Int × Int × (List Ent) × Int × Int) ⊕ ((Int × (List Obj) × Int × Int) ⊕ (Int × ByteArray))) impl_home_L2 FUEL
      (id, (i : Int), os, (os.length : Int), (i : Int), os[i].2.2.2.1, (os[i].2.2.2.1.length : Int), 0) =
      some ((findI (fun _ (e : Ent) => if e.2.1 == id then some (Sum.inr (Sum.inr ((i : Int), e.1))) else none) 0 os[i].2.2.2.1).getD (Sum.inl (id, (i : Int), os, (os.length : Int), (i : Int), os[i].2.2.2.1, (os[i].2.2.2.1.length : Int), (os[i].2.2.2.1.length : Int)))) := by
    intro i hi
    have hk := (h.2 _ (List.getElem_mem hi)).2.1
    refine iter_find os[i].2.2.2.1 (fun k => (id, (i : Int), os, (os.length : Int), (i : Int), os[i].2.2.2.1, (os[i].2.2.2.1.length : Int), (k : Int))) (fun _ (e : Ent) => if e.2.1 == id then some (Sum.inr (Sum.inr ((i : Int), e.1))) else none) _ ?_ ?_ rfl (by omega)
    · intro k hk rec
      unfold impl_home_L2
      simp only
      rw [lt_true hk, cond_true, idx_get hk, wrap_succ (by omega)]
      simp only [Option.bind_some]
      by_cases hq : (os[i].2.2.2.1[k].2.1 == id) = true
      · rw [hq, if_pos rfl]; rfl
      · rw [if_neg hq, Bool.eq_false_iff.2 hq]; rfl
    · intro rec
      unfold impl_home_L2
      simp only
      rw [lt_false]; rfl
  have outer : iter (β := (Int × (List Obj) × Int × Int) ⊕ (Int × ByteArray)) impl_home_L0 FUEL (id, os, (os.length : Int), 0) =
      some ((findI (fun i o => (findI (fun _ (e : Ent) => if e.2.1 == id then some e.1 else none) 0 o.2.2.2.1).map fun nm => (Sum.inr ((i : Int), nm) : (Int × (List Obj) × Int × Int) ⊕ (Int × ByteArray))) 0 os).getD (Sum.inl (id, os, (os.length : Int), (os.length : Int)))) := by
    refine iter_find os (fun k => (id, os, (os.length : Int), (k : Int))) _ _ ?_ ?_ rfl (by have := h.1; omega)
    · intro k hk rec
      have hl := h.1
      unfold impl_home_L0
      simp only
      rw [lt_true hk, cond_true, idx_get hk]
      simp only [Option.bind_some]
      rw [inner k hk]
      simp only [Option.bind_some]
      have go : ∀ (ks : List Ent) j, (findI (fun _ (e : Ent) => if e.2.1 == id then some (Sum.inr (Sum.inr ((k : Int), e.1)) : (Int × Int × (List Obj) × Int × Int × (List Ent) × Int × Int) ⊕ ((Int × (List Obj) × Int × Int) ⊕ (Int × ByteArray))) else none) j ks) =
          (findI (fun _ (e : Ent) => if e.2.1 == id then some e.1 else none) j ks).map fun nm => Sum.inr (Sum.inr ((k : Int), nm)) := by
        intro ks
        induction ks with
        | nil => intro j; rfl
        | cons e ks ih =>
          intro j
          rw [findI, findI]
          by_cases hq : (e.2.1 == id) = true
          · rw [if_pos hq, if_pos hq]; rfl
          · rw [if_neg hq, if_neg hq]; exact ih _
      rw [go]
      cases hf : findI (fun _ (e : Ent) => if e.2.1 == id then some e.1 else none) 0 os[k].2.2.2.1 with
      | none => simp only [Option.map_none, Option.getD_none]; rw [wrap_succ (by omega)]
      | some nm => rfl
    · intro rec
      unfold impl_home_L0
      simp only
      rw [lt_false]; rfl
  unfold impl_home
  rw [outer]
  simp only [Option.bind_some]
  unfold homeF
  have go : ∀ (l : List Obj) j, (findI (fun i (o : Obj) => (findI (fun _ (e : Ent) => if e.2.1 == id then some e.1 else none) 0 o.2.2.2.1).map fun nm => (Sum.inr ((i : Int), nm) : (Int × (List Obj) × Int × Int) ⊕ (Int × ByteArray))) j l) =
      (findI (fun i (o : Obj) => (findI (fun _ (e : Ent) => if e.2.1 == id then some e.1 else none) 0 o.2.2.2.1).map fun nm => ((i : Int), nm)) j l).map Sum.inr := by
    intro l
    induction l with
    | nil => intro j; rfl
    | cons o l ih =>
      intro j
      rw [findI, findI]
      cases hf : findI (fun _ (e : Ent) => if e.2.1 == id then some e.1 else none) 0 o.2.2.2.1 with
      | none => exact ih _
      | some nm => rfl
  rw [go]
  cases hf : findI (fun i (o : Obj) => (findI (fun _ (e : Ent) => if e.2.1 == id then some e.1 else none) 0 o.2.2.2.1).map fun nm => ((i : Int), nm)) 0 os with
  | none => rfl
  | some x => rfl

end Go.VxU
