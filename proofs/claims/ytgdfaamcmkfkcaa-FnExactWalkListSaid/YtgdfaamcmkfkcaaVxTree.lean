/-
  Trees: what the program's functions and the reference's compute. Plain lists.
-/
import Derived.Test.YtgdfaamcmkfkcaaVxFa
import Derived.Test.YtgdfaamcmkfkcaaVxLoop
import Derived.Test.YtgdfaamcmkfkcaaVxGraph
set_option linter.unusedSimpArgs false
set_option linter.unusedVariables false
set_option linter.unnecessarySimpa false
namespace Go.VxU
open Go Go.Vx Go.Proofs Go.Gr

abbrev Ent := ByteArray × Int × Unit
abbrev Obj := Int × Int × ByteArray × List Ent × Unit
abbrev Tree := List Obj × Unit

def BIG : Nat := 4611686018427387904

def lowB (b : UInt8) : Bool := decide (97 ≤ b.toNat) && decide (b.toNat ≤ 122)
def digB (b : UInt8) : Bool := decide (48 ≤ b.toNat) && decide (b.toNat ≤ 57)
def tword (s : ByteArray) : Bool := (byt s).all lowB && (decide (1 ≤ s.size) && decide (s.size ≤ 4))
def tbody (s : ByteArray) : Bool := (byt s).all (fun b => lowB b || digB b) && decide (s.size ≤ 12)

theorem in_eq (n a b : Int) : impl_in n a b = some (decide (a ≤ n) && decide (n ≤ b)) := by
  unfold impl_in
  by_cases h1 : a ≤ n <;> by_cases h2 : n ≤ b <;> simp [h1, h2]

theorem id_eq (n : Int) : spec_l1Id n = some (decide (0 ≤ n) && decide (n < 32)) := by
  unfold spec_l1Id
  by_cases h1 : (0 : Int) ≤ n <;> simp [h1]

theorem spec_word (s : ByteArray) (h : s.size < BIG) : spec_TreeWord s = some (tword s) := by
  unfold spec_TreeWord
  rw [iter_all (x0 := (s, (0 : Int))) (byt s) (fun k => (s, (k : Int))) (fun _ b => lowB b) (Sum.inl (s, (s.size : Int))) (Sum.inr false) ?_ ?_ rfl (by rw [byt_len]; exact h)]
  · rw [allI_all]
    unfold tword
    cases (byt s).all lowB
    · rfl
    · simp only [cond_true, Option.bind_some, Bool.true_and]
      by_cases h1 : 1 ≤ s.size
      · rw [show decide ((s.size : Int) > 0) = true from decide_eq_true (by omega), cond_true]
        simp [h1]; omega
      · rw [show decide ((s.size : Int) > 0) = false from decide_eq_false (by omega), cond_false]
        simp [h1]
  · intro k hk rec
    have hs : k < s.size := by rw [← byt_len]; exact hk
    have hB : BIG = 4611686018427387904 := rfl
    unfold spec_TreeWord_L0
    simp only
    rw [lt_true hs, cond_true, idxB_get hk, Option.bind_some, wrap_succ (by omega)]
    generalize (byt s)[k] = b
    simp only [Option.bind_some]
    by_cases h1 : 97 ≤ b.toNat <;> by_cases h2 : b.toNat ≤ 122 <;>
      simp [lowB, h1, h2, show ((b.toNat : Int) < 97) = ¬ (97 ≤ b.toNat) by simp; omega, show ((122 : Int) < (b.toNat : Int)) = ¬ (b.toNat ≤ 122) by simp; omega]
  · intro rec
    unfold spec_TreeWord_L0
    simp only
    rw [byt_len, lt_false]
    rfl

theorem impl_word (s : ByteArray) (h : s.size < BIG) : impl_TreeWord s = some (tword s) := by
  unfold impl_TreeWord
  rw [iter_all (x0 := (s, (0 : Int))) (byt s) (fun k => (s, (k : Int))) (fun _ b => lowB b) (Sum.inl (s, (s.size : Int))) (Sum.inr false) ?_ ?_ rfl (by rw [byt_len]; exact h)]
  · rw [allI_all]
    unfold tword
    cases (byt s).all lowB
    · rfl
    · simp only [cond_true, Option.bind_some, Bool.true_and, in_eq]
      congr 2
      · simp; omega
      · simp; omega
  · intro k hk rec
    have hs : k < s.size := by rw [← byt_len]; exact hk
    have hB : BIG = 4611686018427387904 := rfl
    unfold impl_TreeWord_L0
    simp only
    rw [lt_true hs, cond_true, idxB_get hk, Option.bind_some, wrap_succ (by omega)]
    generalize (byt s)[k] = b
    have hb : b.toNat < 256 := b.toNat_lt
    rw [wrap_id (by omega) (by omega), in_eq, Option.bind_some]
    by_cases h1 : 97 ≤ b.toNat <;> by_cases h2 : b.toNat ≤ 122
    · rw [show decide ((97 : Int) ≤ b.toNat) = true from decide_eq_true (by omega), show decide ((b.toNat : Int) ≤ 122) = true from decide_eq_true (by omega)]
      simp [lowB, h1, h2]
    · rw [show decide ((b.toNat : Int) ≤ 122) = false from decide_eq_false (by omega)]
      simp [lowB, h1, h2]
    · rw [show decide ((97 : Int) ≤ b.toNat) = false from decide_eq_false (by omega)]
      simp [lowB, h1, h2]
    · rw [show decide ((97 : Int) ≤ b.toNat) = false from decide_eq_false (by omega)]
      simp [lowB, h1, h2]
  · intro rec
    unfold impl_TreeWord_L0
    simp only
    rw [byt_len, lt_false]
    rfl

theorem spec_body (s : ByteArray) (h : s.size < BIG) : spec_TreeBody s = some (tbody s) := by
  unfold spec_TreeBody
  rw [iter_all (x0 := (s, (0 : Int))) (byt s) (fun k => (s, (k : Int))) (fun _ b => lowB b || digB b) (Sum.inl (s, (s.size : Int))) (Sum.inr false) ?_ ?_ rfl (by rw [byt_len]; exact h)]
  · rw [allI_all]
    unfold tbody
    cases (byt s).all fun b => lowB b || digB b
    · rfl
    · simp only [cond_true, Option.bind_some, Bool.true_and]
      congr 1
      simp; omega
  · intro k hk rec
    have hs : k < s.size := by rw [← byt_len]; exact hk
    have hB : BIG = 4611686018427387904 := rfl
    unfold spec_TreeBody_L0
    simp only
    rw [lt_true hs, cond_true, idxB_get hk, wrap_succ (by omega)]
    simp only [Option.bind_some]
    generalize (byt s)[k] = b
    by_cases h1 : 97 ≤ b.toNat <;> by_cases h2 : b.toNat ≤ 122 <;> by_cases h3 : 48 ≤ b.toNat <;> by_cases h4 : b.toNat ≤ 57 <;>
      simp [lowB, digB, h1, h2, h3, h4, Nat.not_lt.2, Nat.lt_of_not_le, show ((b.toNat : Int) < 97) = ¬ (97 ≤ b.toNat) by simp; omega, show ((b.toNat : Int) < 48) = ¬ (48 ≤ b.toNat) by simp; omega,
        show ((122 : Int) < (b.toNat : Int)) = ¬ (b.toNat ≤ 122) by simp; omega, show ((57 : Int) < (b.toNat : Int)) = ¬ (b.toNat ≤ 57) by simp; omega]
  · intro rec
    unfold spec_TreeBody_L0
    simp only
    rw [byt_len, lt_false]
    rfl

theorem impl_body (s : ByteArray) (h : s.size < BIG) : impl_TreeBody s = some (tbody s) := by
  unfold impl_TreeBody
  rw [iter_all (x0 := (s, (0 : Int))) (byt s) (fun k => (s, (k : Int))) (fun _ b => lowB b || digB b) (Sum.inl (s, (s.size : Int))) (Sum.inr false) ?_ ?_ rfl (by rw [byt_len]; exact h)]
  · rw [allI_all]
    unfold tbody
    cases (byt s).all fun b => lowB b || digB b
    · rfl
    · simp only [cond_true, Option.bind_some, Bool.true_and]
      congr 1
      simp; omega
  · intro k hk rec
    have hs : k < s.size := by rw [← byt_len]; exact hk
    have hB : BIG = 4611686018427387904 := rfl
    unfold impl_TreeBody_L0
    simp only
    rw [lt_true hs, cond_true, idxB_get hk, wrap_succ (by omega)]
    simp only [Option.bind_some]
    generalize (byt s)[k] = b
    have hb : b.toNat < 256 := b.toNat_lt
    rw [wrap_id (by omega) (by omega), in_eq, in_eq]
    simp only [Option.bind_some]
    by_cases h1 : 97 ≤ b.toNat <;> by_cases h2 : b.toNat ≤ 122 <;> by_cases h3 : 48 ≤ b.toNat <;> by_cases h4 : b.toNat ≤ 57 <;>
      simp [lowB, digB, h1, h2, h3, h4, show ((97 : Int) ≤ (b.toNat : Int)) = (97 ≤ b.toNat) by simp; omega, show ((48 : Int) ≤ (b.toNat : Int)) = (48 ≤ b.toNat) by simp; omega,
        show ((b.toNat : Int) ≤ 122) = (b.toNat ≤ 122) by simp; omega, show ((b.toNat : Int) ≤ 57) = (b.toNat ≤ 57) by simp; omega]
  · intro rec
    unfold impl_TreeBody_L0
    simp only
    rw [byt_len, lt_false]
    rfl

/-! ### objects -/

def emp (s : ByteArray) : Bool := ByteArray.toList s == ByteArray.toList (⟨#[]⟩ : ByteArray)

def prevLess (ks : List Ent) (k : Nat) (e : Ent) : Bool :=
  match k with
  | 0 => true
  | j + 1 => match ks[j]? with
    | some p => Op.bytesLess p.1.toList e.1.toList
    | none => true

def kidOk (ks : List Ent) (k : Nat) (e : Ent) : Bool := tword e.1 && (decide (1 ≤ e.2.1) && decide (e.2.1 ≤ 31)) && prevLess ks k e
def kidsOk (ks : List Ent) : Bool := allI (kidOk ks) 0 ks

def objOk (o : Obj) : Bool := (decide (0 ≤ o.2.1) && decide (o.2.1 ≤ 1000000)) &&
  cond (o.1 == 0) (emp o.2.2.1 && ((List.length o.2.2.2.1 : Int) == 0)) (cond (o.1 == 1) (decide (o.2.1 > 0) && tbody o.2.2.1 && ((List.length o.2.2.2.1 : Int) == 0))
    (cond (o.1 == 2) (emp o.2.2.1 && kidsOk o.2.2.2.1 && decide (o.2.1 > 0)) false))

def SmE (e : Ent) : Prop := e.1.size ≤ 1048576
def SmO (o : Obj) : Prop := o.2.2.1.size ≤ 1048576 ∧ o.2.2.2.1.length ≤ 1048576 ∧ ∀ e ∈ o.2.2.2.1, SmE e
def SmT (t : Tree) : Prop := t.1.length ≤ 1048576 ∧ ∀ o ∈ t.1, SmO o

theorem wrap_pred {k : Nat} (h : k < 4611686018427387904) : IntKind.i64.wrap (((k + 1 : Nat) : Int) - 1) = (k : Int) := by
  rw [wrap_id (by omega) (by omega)]; omega

theorem spec_kids (ks : List Ent) (hl : ks.length ≤ 1048576) (hs : ∀ e ∈ ks, SmE e) : spec_l1Kids ks = some (kidsOk ks) := by
  unfold spec_l1Kids
  rw [iter_all (x0 := (ks, (0 : Int))) ks (fun k => (ks, (k : Int))) (kidOk ks) (Sum.inl (ks, (ks.length : Int))) (Sum.inr false) ?_ ?_ rfl (by omega)]
  · unfold kidsOk
    cases allI (kidOk ks) 0 ks <;> rfl
  · intro k hk rec
    have hw : spec_TreeWord ks[k].1 = some (tword ks[k].1) := spec_word _ (by have := hs _ (List.getElem_mem hk); unfold SmE at this; unfold BIG; omega)
    unfold spec_l1Kids_L0
    simp only
    rw [lt_true hk, cond_true, idx_get hk, wrap_succ (by omega)]
    simp only [Option.bind_some, hw, id_eq]
    unfold kidOk
    cases tword ks[k].1 with
    | false => rfl
    | true =>
      simp only [Bool.not_true, cond_false, Bool.true_and]
      by_cases h1 : ks[k].2.1 < 1
      · rw [show decide (ks[k].2.1 < 1) = true from decide_eq_true h1, show decide (1 ≤ ks[k].2.1) = false from decide_eq_false (by omega)]; rfl
      · rw [show decide (ks[k].2.1 < 1) = false from decide_eq_false (by omega), show decide (1 ≤ ks[k].2.1) = true from decide_eq_true (by omega), show decide (0 ≤ ks[k].2.1) = true from decide_eq_true (by omega)]
        simp only [cond_false, Bool.true_and]
        by_cases h2 : ks[k].2.1 < 32
        · rw [show decide (ks[k].2.1 < 32) = true from decide_eq_true (by omega), show decide (ks[k].2.1 ≤ 31) = true from decide_eq_true (by omega)]
          simp only [Bool.not_true, cond_false, Bool.true_and]
          cases k with
          | zero => rfl
          | succ j =>
            rw [show decide (((j + 1 : Nat) : Int) > 0) = true from decide_eq_true (by omega), cond_true, wrap_pred (by omega), idx_get (by omega : j < ks.length), Option.bind_some]
            simp only [prevLess]
            rw [getElem?_pos ks j (by omega)]
            simp only
            rw [less_total]
            cases Op.bytesLess ks[j].1.toList ks[j + 1].1.toList <;> rfl
        · rw [show decide (ks[k].2.1 < 32) = false from decide_eq_false (by omega), show decide (ks[k].2.1 ≤ 31) = false from decide_eq_false (by omega)]; rfl
  · intro rec
    unfold spec_l1Kids_L0
    simp only
    rw [lt_false]
    rfl

theorem spec_obj (o : Obj) (h : SmO o) : spec_l1Obj o = some (objOk o) := by
  have hb : spec_TreeBody o.2.2.1 = some (tbody o.2.2.1) := spec_body _ (by have := h.1; unfold BIG; omega)
  have hk := spec_kids o.2.2.2.1 h.2.1 h.2.2
  unfold spec_l1Obj
  rw [hb, hk]
  simp only [Option.bind_some]
  unfold objOk
  by_cases h1 : o.2.1 < 0
  · rw [show decide (o.2.1 < 0) = true from decide_eq_true h1, show decide (0 ≤ o.2.1) = false from decide_eq_false (by omega)]; rfl
  · rw [show decide (o.2.1 < 0) = false from decide_eq_false (by omega), show decide (0 ≤ o.2.1) = true from decide_eq_true (by omega)]
    by_cases h2 : o.2.1 > 1000000
    · rw [show decide (o.2.1 > 1000000) = true from decide_eq_true h2, show decide (o.2.1 ≤ 1000000) = false from decide_eq_false (by omega)]; rfl
    · rw [show decide (o.2.1 > 1000000) = false from decide_eq_false (by omega), show decide (o.2.1 ≤ 1000000) = true from decide_eq_true (by omega)]
      simp only [cond_false, Bool.true_and, emp]
      cases (o.1 == 0) <;> cases (o.1 == 1) <;> cases (o.1 == 2) <;> cases (ByteArray.toList o.2.2.1 == ByteArray.toList (⟨#[]⟩ : ByteArray)) <;> cases tbody o.2.2.1 <;> cases kidsOk o.2.2.2.1 <;> cases decide (o.2.1 > 0) <;> cases ((List.length o.2.2.2.1 : Int) == 0) <;> rfl

theorem impl_obj (o : Obj) (h : SmO o) : impl_objOk o = some (objOk o) := by
  have hb : impl_TreeBody o.2.2.1 = some (tbody o.2.2.1) := impl_body _ (by have := h.1; unfold BIG; omega)
  obtain ⟨kd, ver, tx, ks, u⟩ := o
  obtain ⟨h1, h2, h3⟩ := h
  simp only at hb h1 h2 h3
  have hk : iter (β := (Int × Int × ByteArray × (List Ent) × (List Ent) × Int × Int) ⊕ Bool) impl_objOk_L1 FUEL (kd, ver, tx, ks, ks, (List.length ks : Int), 0) = some (cond (kidsOk ks) (Sum.inl (kd, ver, tx, ks, ks, (List.length ks : Int), (List.length ks : Int))) (Sum.inr false)) := by
    refine iter_all ks (fun k => (kd, ver, tx, ks, ks, (List.length ks : Int), (k : Int))) (kidOk ks) _ _ ?_ ?_ rfl (by omega)
    · intro k hk rec
      have hw : impl_TreeWord ks[k].1 = some (tword ks[k].1) := impl_word _ (by have := h3 _ (List.getElem_mem hk); unfold SmE at this; unfold BIG; omega)
      unfold impl_objOk_L1
      simp only
      rw [lt_true hk, cond_true, idx_get hk, wrap_succ (by omega)]
      simp only [Option.bind_some, hw, in_eq]
      unfold kidOk
      cases tword ks[k].1 with
      | false => rfl
      | true =>
        simp only [Bool.not_true, cond_false, Bool.true_and]
        cases k with
        | zero =>
          simp only [prevLess, Bool.and_true]
          cases decide (1 ≤ ks[0].2.1) && decide (ks[0].2.1 ≤ 31) <;> rfl
        | succ j =>
          rw [show decide (((j + 1 : Nat) : Int) > 0) = true from decide_eq_true (by omega), cond_true, wrap_pred (by omega), idx_get (by omega : j < ks.length), Option.bind_some]
          simp only [prevLess]
          rw [getElem?_pos ks j (by omega)]
          simp only
          cases Op.bytesLess ks[j].1.toList ks[j + 1].1.toList <;> cases decide (1 ≤ ks[j + 1].2.1) && decide (ks[j + 1].2.1 ≤ 31) <;> rfl
    · intro rec
      unfold impl_objOk_L1
      simp only
      rw [lt_false]
      rfl
  unfold impl_objOk
  simp only
  rw [hb, hk, in_eq]
  simp only [Option.bind_some]
  unfold objOk
  simp only [emp]
  have go : ∀ c1 c3 c4 c5 c6 : Bool, (bif !c1 then some false else bif kd == 0 then bif c3 then some c4 else some false else bif kd == 1 then bif decide (ver > 0) then bif c5 then some c4 else some false else some false
      else bif kd == 2 then match (bif c6 then Sum.inl (kd, ver, tx, ks, ks, (ks.length : Int), (ks.length : Int)) else Sum.inr false : (Int × Int × ByteArray × (List Ent) × (List Ent) × Int × Int) ⊕ Bool) with
        | Sum.inl z3 => bif decide (z3.2.1 > 0) then some c3 else some false
        | Sum.inr r => some r
      else some false) = some (c1 && bif kd == 0 then c3 && c4 else bif kd == 1 then decide (ver > 0) && c5 && c4 else bif kd == 2 then c3 && c6 && decide (ver > 0) else false) := by
    intro c1 c3 c4 c5 c6
    cases c6 <;> simp only [cond_true, cond_false] <;> generalize decide (ver > 0) = c2 <;>
      cases c1 <;> cases (kd == 0) <;> cases (kd == 1) <;> cases (kd == 2) <;> cases c3 <;> cases c4 <;> cases c5 <;> cases c2 <;> rfl
  have := go (decide (0 ≤ ver) && decide (ver ≤ 1000000)) (ByteArray.toList tx == ByteArray.toList (⟨#[]⟩ : ByteArray)) ((List.length ks : Int) == 0) (tbody tx) (kidsOk ks)
  cases hq : kidsOk ks with
  | true => rw [hq] at this; exact this
  | false => rw [hq] at this; exact this

end Go.VxU
