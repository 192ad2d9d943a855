/-
  Marks; the law of WalkList.
-/
import Derived.Test.YtgdfaamcmkfkcaaVxTreeLaw
set_option linter.unusedSimpArgs false
set_option linter.unusedVariables false
set_option linter.unnecessarySimpa false
namespace Go.VxU
open Go Go.Vx Go.Proofs Go.Gr

theorem mark_loop : ∀ (k : Nat) (x : Int) (s : ByteArray) (fuel : Nat), x < 10 ^ k → x < 9223372036854775808 → 0 ≤ x → k < fuel → s.size + k ≤ 1000 → ∃ r, iter laws_markText_L0 fuel (x, s) = some (.inl r) ∧ r.2.size ≤ s.size + k
  | k, x, s, 0, _, _, _, hf, _ => by omega
  | 0, x, s, fuel + 1, hx, _, h0, hf, hs => by
    have : x = 0 := by simp at hx; omega
    subst this
    exact ⟨(0, s), rfl, by simp⟩
  | k + 1, x, s, fuel + 1, hx, hb0, h0, hf, hs => by
    by_cases h : x > 0
    · have hb : (bytesOf ([(IntKind.u8.wrap (IntKind.i64.wrap (48 + x.tmod 10)))] : List Int)).size = 1 := rfl
      have hq : x.tdiv 10 = x / 10 := Int.tdiv_eq_ediv_of_nonneg h0
      have hstep : laws_markText_L0 (iter laws_markText_L0 fuel) (x, s) = iter laws_markText_L0 fuel (x.tdiv 10, (bytesOf ([(IntKind.u8.wrap (IntKind.i64.wrap (48 + x.tmod 10)))] : List Int)) ++ s) := by
        unfold laws_markText_L0
        simp only
        rw [decide_eq_true h, cond_true, show remO x 10 = some (x.tmod 10) from rfl, Option.bind_some]
        rw [decide_eq_true (by rw [hb]; omega), cond_true, show quoO IntKind.i64 x 10 = some (IntKind.i64.wrap (x.tdiv 10)) from rfl, Option.bind_some, wrap_id (by omega) (by omega)]
      obtain ⟨r, h1, h2⟩ := mark_loop k (x.tdiv 10) ((bytesOf ([(IntKind.u8.wrap (IntKind.i64.wrap (48 + x.tmod 10)))] : List Int)) ++ s) fuel (by rw [hq]; rw [Int.pow_succ] at hx; omega) (by omega) (by omega) (by omega) (by rw [ByteArray.size_append, hb]; omega)
      exact ⟨r, hstep.trans h1, by rw [ByteArray.size_append, hb] at h2; omega⟩
    · refine ⟨(x, s), ?_, by simp⟩
      show laws_markText_L0 _ _ = _
      unfold laws_markText_L0
      simp only
      rw [decide_eq_false h]; rfl

theorem mark_text (n : Int) (h0 : 0 ≤ n) (h1 : n < 4611686018427387904) : ∃ s, laws_markText n = some s := by
  unfold laws_markText
  by_cases h : n ≤ 0
  · rw [decide_eq_true h]; exact ⟨_, rfl⟩
  · rw [decide_eq_false h, cond_false]
    obtain ⟨r, e1, e2⟩ := mark_loop 19 n (⟨#[]⟩ : ByteArray) FUEL (by have : (10 : Int) ^ 19 = 10000000000000000000 := by decide
                                                                      omega) (by omega) h0 (by rw [FUEL_eq]; omega) (by show 0 + 19 ≤ 1000; omega)
    rw [e1]
    simp only [Option.bind_some]
    rw [decide_eq_true (by have : (⟨#[109]⟩ : ByteArray).size = 1 := rfl
                           have h2 : (⟨#[]⟩ : ByteArray).size = 0 := rfl
                           rw [h2] at e2; rw [this]; omega)]
    exact ⟨_, rfl⟩

theorem idx_set {α : Type} {l : List α} {k : Nat} {v : α} (h : k < l.length) : idx (l.set k v) (k : Int) = some v := by
  rw [idx_get (by rw [List.length_set]; exact h)]
  congr 1
  exact List.getElem_set_self _

theorem mark_Ents (xs : List Ent) (n : Int) (h0 : 0 ≤ n) (h1 : n + 2 * xs.length < 4611686018427387904) : ∃ ys, laws_markEntS xs n = some (n + 2 * xs.length, ys) ∧ ys.length = xs.length := by
  unfold laws_markEntS
  refine Exists.elim (iter_go (f := laws_markEntS_L0) xs.length (fun k a => (a, n + 2 * (k : Int), (k : Int))) (fun k a => a.length = xs.length) (fun a => .inl (a, n + 2 * (xs.length : Int), (xs.length : Int))) ?_ ?_
    (a0 := xs) rfl (x0 := (xs, n, 0)) (by simp) (by omega)) fun a hq => ?_
  · intro k a hk ha
    obtain ⟨s, hs⟩ := mark_text (n + 2 * (k : Int)) (by omega) (by omega)
    have hka : k < a.length := by omega
    refine ⟨(a.set k (s, a[k].2.1, ())).set k (s, n + 2 * (k : Int) + 1, ()), by simp [ha], fun rec => ?_⟩
    unfold laws_markEntS_L0
    simp only
    rw [lt_true hka, cond_true, hs, Option.bind_some, inb_lt hka, cond_true, idx_get hka, Option.bind_some, Int.toNat_natCast, inb_lt (by rw [List.length_set]; exact hka), cond_true, idx_set hka, Option.bind_some,
      wrap_id (n := n + 2 * (k : Int) + 1) (by omega) (by omega), wrap_id (n := n + 2 * (k : Int) + 1 + 1) (by omega) (by omega), wrap_succ (by omega)]
    congr 1
    refine Prod.ext rfl (Prod.ext ?_ rfl)
    simp only [Int.natCast_add, Int.natCast_one]
    omega
  · intro a rec ha
    unfold laws_markEntS_L0
    simp only
    rw [show decide (((_ : Nat) : Int) < ((_ : Nat) : Int)) = false from decide_eq_false (by omega)]; rfl
  · obtain ⟨ha, e⟩ := hq
    rw [e]; exact ⟨a, rfl, ha⟩

theorem mark_Ints (xs : List Int) (n : Int) (h0 : 0 ≤ n) (h1 : n + xs.length < 4611686018427387904) : ∃ ys, laws_markIntS xs n = some (n + xs.length, ys) ∧ ys.length = xs.length ∧ ∀ j (h : j < ys.length), ys[j] = n + j := by
  unfold laws_markIntS
  refine Exists.elim (iter_go (f := laws_markIntS_L0) xs.length (fun k a => (a, n + (k : Int), (k : Int))) (fun k a => a.length = xs.length ∧ ∀ j (h : j < a.length), j < k → a[j] = n + j) (fun a => .inl (a, n + (xs.length : Int), (xs.length : Int))) ?_ ?_
    (a0 := xs) ⟨rfl, fun j _ hj => by omega⟩ (x0 := (xs, n, 0)) (by simp) (by omega)) fun a hq => ?_
  · intro k a hk ha
    have hka : k < a.length := by omega
    refine ⟨a.set k (n + (k : Int)), ⟨by simp [ha.1], fun j h hj => ?_⟩, fun rec => ?_⟩
    · rw [List.getElem_set]
      split
      · omega
      · exact ha.2 j (by simpa using h) (by omega)
    · unfold laws_markIntS_L0
      simp only
      rw [lt_true hka, cond_true, inb_lt hka, cond_true, idx_get hka, Option.bind_some, Int.toNat_natCast, wrap_id (n := n + (k : Int) + 1) (by omega) (by omega), wrap_succ (by omega)]
      congr 1
      refine Prod.ext rfl (Prod.ext ?_ rfl)
      simp only [Int.natCast_add, Int.natCast_one]
      omega
  · intro a rec ha
    unfold laws_markIntS_L0
    simp only
    rw [show decide (((_ : Nat) : Int) < ((_ : Nat) : Int)) = false from decide_eq_false (by omega)]; rfl
  · obtain ⟨ha, e⟩ := hq
    rw [e]; exact ⟨a, rfl, ha.1, fun j h => ha.2 j h (by omega)⟩

theorem held_Ints (ys : List Int) (n : Int) (h0 : 0 ≤ n) (h1 : n + ys.length < 4611686018427387904) (h : ∀ j (h : j < ys.length), ys[j] = n + j) : laws_heldIntS ys n = some (n + ys.length) := by
  unfold laws_heldIntS
  refine Exists.elim (iter_go (f := laws_heldIntS_L0) ys.length (fun k (_ : Unit) => (ys, n + (k : Int), (k : Int))) (fun k _ => True) (fun _ => .inl (ys, n + (ys.length : Int), (ys.length : Int))) ?_ ?_
    (a0 := ()) trivial (x0 := (ys, n, 0)) (by simp) (by omega)) fun a hq => ?_
  · intro k a hk ha
    refine ⟨(), trivial, fun rec => ?_⟩
    unfold laws_heldIntS_L0
    simp only
    rw [lt_true hk, cond_true, idx_get hk, Option.bind_some, h k hk, beq_self_eq_true, Bool.not_true, cond_false, wrap_id (n := n + (k : Int) + 1) (by omega) (by omega), wrap_succ (by omega)]
    congr 1
    refine Prod.ext rfl (Prod.ext ?_ rfl)
    simp only [Int.natCast_add, Int.natCast_one]
    omega
  · intro a rec ha
    unfold laws_heldIntS_L0
    simp only
    rw [show decide (((_ : Nat) : Int) < ((_ : Nat) : Int)) = false from decide_eq_false (by omega)]; rfl
  · obtain ⟨ha, e⟩ := hq
    rw [e]; rfl

theorem eq_Ints (xs : List Int) (hl : xs.length ≤ LIM) : laws_eqIntS xs xs = some true :=
  (show laws_eqIntS xs xs = eqG (fun x y => some (x == y)) xs xs by kernel_rfl).trans <| eqG_refl xs hl fun y _ => by simp

theorem mark_Objs (xs : List Obj) (hs : SmL xs) (n : Int) (h0 : 0 ≤ n) (h1 : n ≤ 1048576) : ∃ m ys, laws_markObjS xs n = some (m, ys) ∧ 0 ≤ m := by
  have hlen := hs.1
  unfold laws_markObjS
  refine Exists.elim (iter_go (f := laws_markObjS_L0) xs.length (fun k (a : List Obj × Int) => (a.1, a.2, (k : Int))) (fun k a => a.1.length = xs.length ∧ 0 ≤ a.2 ∧ a.2 ≤ n + 4194304 * k ∧ ∀ o ∈ a.1, o.2.2.2.1.length ≤ 1048576) (fun a => .inl (a.1, a.2, (xs.length : Int))) ?_ ?_
    (a0 := (xs, n)) ⟨rfl, h0, by simp, fun o ho => (hs.2 o ho).2.1⟩ (x0 := (xs, n, 0)) rfl (by omega)) fun a hq => ?_
  · intro k a hk ha
    obtain ⟨os, m⟩ := a
    obtain ⟨q1, q2, q3, q4⟩ := ha
    simp only at q1 q2 q3 q4
    have hka : k < os.length := by omega
    have hkids := q4 _ (List.getElem_mem hka)
    obtain ⟨s, hs⟩ := mark_text (m + 1 + 1) (by omega) (by omega)
    obtain ⟨ys, hy1, hy2⟩ := mark_Ents os[k].2.2.2.1 (m + 1 + 1 + 1) (by omega) (by omega)
    refine ⟨(os.set k (m, m + 1, s, ys, ()), m + 1 + 1 + 1 + 2 * os[k].2.2.2.1.length), ⟨by simp [q1], by simp only; omega, by simp only [Int.natCast_add, Int.natCast_one]; omega, fun o ho => ?_⟩, fun rec => ?_⟩
    · rcases List.mem_or_eq_of_mem_set ho with ho | rfl
      · exact q4 o ho
      · simp only; omega
    · unfold laws_markObjS_L0
      simp only
      rw [lt_true hka, cond_true, inb_lt hka, cond_true, idx_get hka, Option.bind_some]
      simp only [Int.toNat_natCast, List.length_set, List.set_set, inb_lt hka, cond_true, idx_set hka, Option.bind_some]
      rw [wrap_id (n := m + 1) (by omega) (by omega), wrap_id (n := m + 1 + 1) (by omega) (by omega), hs, Option.bind_some]
      rw [wrap_id (n := m + 1 + 1 + 1) (by omega) (by omega)]
      simp only [hy1, Option.bind_some, List.set_set, idx_set hka, Int.toNat_natCast]
      rw [wrap_succ (by omega)]
  · intro a rec ha
    unfold laws_markObjS_L0
    simp only
    rw [show decide (((_ : Nat) : Int) < ((_ : Nat) : Int)) = false from decide_eq_false (by omega)]; rfl
  · obtain ⟨ha, e⟩ := hq
    rw [e]; exact ⟨a.2, a.1, rfl, ha.2.1⟩

theorem copied_eq (xs : List Int) (hl : xs.length ≤ LIM) : impl_copied_int xs = some xs := by
  unfold impl_copied_int
  cases hz : ((xs.length : Int) == 0) with
  | true =>
    have : xs = [] := List.eq_nil_of_length_eq_zero (by have := (beq_iff_eq).1 hz; omega)
    rw [this, cond_true]
  | false =>
    rw [cond_false, show (decide (0 ≤ (List.length xs : Int)) && decide ((List.length xs : Int) ≤ (LIM : Int))) = true by simp only [Bool.and_eq_true, decide_eq_true_eq]; omega, cond_true]
    simp only [Int.toNat_natCast, List.length_replicate, List.take_length]
    rw [List.drop_of_length_le (by rw [List.length_replicate]; exact Nat.le_refl _), List.append_nil]

theorem list_eq (os : List Obj) (hs : SmL os) : ∃ r, spec_WalkList (os, ()) = some r ∧ impl_WalkList (os, ()) = some r ∧ r.length ≤ 32 := by
  unfold spec_WalkList impl_WalkList
  rw [spec_ok os hs, impl_ok os hs]
  simp only [Option.bind_some]
  cases hok : okM os with
  | false => exact ⟨[], rfl, rfl, by simp⟩
  | true =>
    have h := okM_good4 hs hok
    have hL : LIM = 1073741824 := rfl
    have hlen := h.pre_len (i := 0) (by omega) h.top 31
    have hil : (ints (pre (kidsAt os) 31 0)).length ≤ 32 := by unfold ints; rw [List.length_map]; exact hlen
    simp only [Bool.not_true, cond_false]
    have a1 := spec_from os h (i := 0) (by omega) h.top
    have a2 := impl_walk_all os h (i := 0) (by omega) h.top
    rw [show ((0 : Nat) : Int) = 0 from rfl] at a1 a2
    generalize ints (pre (kidsAt os) 31 0) = X at a1 a2 hil
    refine ⟨X, ?_, ?_, hil⟩
    · rw [a1, Option.bind_some]
    · rw [a2, Option.bind_some, copied_eq X (by omega), Option.bind_some]

theorem list_true (t : Tree) (hw : Wf YTree t) : laws_FnExactWalkList t = some true := by
  obtain ⟨r, h1, h2⟩ := sz_Tree t 1048576 hw (by omega) (by omega)
  unfold laws_FnExactWalkList
  rw [h1, Option.bind_some]
  by_cases c : r < 0
  · rw [decide_eq_true c]; rfl
  · rw [decide_eq_false c, cond_false]
    have hs := (h2.resolve_left c).2
    obtain ⟨v, e1, e2, e3⟩ := list_eq t.1 hs
    have hL : LIM = 1073741824 := rfl
    obtain ⟨m, ys, m1, m2⟩ := mark_Objs t.1 hs 1 (by omega) (by omega)
    obtain ⟨zs, k1, k2, k3⟩ := mark_Ints v 1 (by omega) (by omega)
    have hh := held_Ints zs 1 (by omega) (by omega) k3
    rw [to_Tree t hs]
    simp only [Option.bind_some]
    rw [e1, e2]
    simp only [Option.bind_some]
    rw [eq_Ints v (by omega)]
    simp only [Option.bind_some, Bool.not_true, cond_false]
    rw [show laws_eqTree (t.1, ()) (t.1, ()) = some true from eq_Tree t hs]
    simp only [Option.bind_some, Bool.not_true, cond_false]
    rw [show laws_markTree t.1 1 = some (m, ys) by unfold laws_markTree; rw [m1]; rfl]
    simp only [Option.bind_some]
    rw [decide_eq_false (by omega), cond_false, k1]
    simp only [Option.bind_some]
    rw [hh]
    simp only [Option.bind_some]
    rw [decide_eq_false (by omega), cond_false, k2]
    simp

end Go.VxU
