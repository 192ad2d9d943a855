/-
  The law: ToldHas of the impl answers as the spec's.
-/
import Derived.Test.YtioldhlngmomjaaVxTold
import Derived.Test.YtioldhlngmomjaaVxGen
set_option linter.unusedSimpArgs false
set_option linter.unusedVariables false
set_option linter.unnecessarySimpa false
namespace Go.VxU
open Go Go.Vx Go.Proofs

def hasAt (xs : List D47) (a b : Int) (k : Nat) : Bool := match xs[k]? with
  | some y => y.1 == a && y.2.1 == b
  | none => false

theorem fn7_spec (xs : List D47) (a b : Int) (hl : xs.length ≤ 1048576) : fn7 xs a b = some (xs.any fun y => y.1 == a && y.2.1 == b) := by
  have key : ∀ (d k fuel : Nat), xs.length - k = d → k ≤ xs.length → d < fuel →
      iter (β := ((List D47) × Int × Int × Int) ⊕ Bool) (fun rec2 (z1 : (List D47) × Int × Int × Int) => cond (decide (z1.2.2.2 < (List.length z1.1 : Int))) ((idx z1.1 z1.2.2.2).bind fun y3 => cond (y3.1 == z1.2.1) ((idx z1.1 z1.2.2.2).bind fun y4 => cond (y4.2.1 == z1.2.2.1) (Option.map Sum.inr (some true)) (rec2 (z1.1, z1.2.1, z1.2.2.1, (IntKind.i64.wrap (z1.2.2.2 + 1))))) (rec2 (z1.1, z1.2.1, z1.2.2.1, (IntKind.i64.wrap (z1.2.2.2 + 1))))) (some (Sum.inl (z1.1, z1.2.1, z1.2.2.1, z1.2.2.2)))) fuel (xs, a, b, (k : Int)) =
        some (cond ((xs.drop k).any fun y => y.1 == a && y.2.1 == b) (.inr true) (.inl (xs, a, b, (xs.length : Int)))) := by
    intro d
    induction d with
    | zero =>
      intro k fuel hd hk hf
      obtain ⟨n, rfl⟩ : ∃ n, fuel = n + 1 := ⟨fuel - 1, by omega⟩
      have : k = xs.length := by omega
      subst this
      simp [iter]
    | succ d ih =>
      intro k fuel hd hk hf
      obtain ⟨n, rfl⟩ : ∃ n, fuel = n + 1 := ⟨fuel - 1, by omega⟩
      have hj : k < xs.length := by omega
      have := ih (k + 1) n (by omega) (by omega) (by omega)
      rw [iter]
      simp only
      rw [show decide ((k : Int) < (xs.length : Int)) = true by simp; exact hj, cond_true, idx_get hj, wrap_id (by omega) (by omega)]
      simp only [Option.bind_some]
      rw [List.drop_eq_getElem_cons hj, List.any_cons]
      have e : ((k : Int) + 1) = ((k + 1 : Nat) : Int) := by omega
      rw [e, this]
      cases h1 : (xs[k].1 == a) <;> cases h2 : (xs[k].2.1 == b) <;> simp
  unfold fn7
  have := key xs.length 0 FUEL (by omega) (by omega) (by unfold FUEL; omega)
  rw [show ((0 : Nat) : Int) = 0 from rfl] at this
  rw [this]
  simp only [List.drop_zero, Option.bind_some]
  cases xs.any fun y => y.1 == a && y.2.1 == b <;> rfl

theorem fn9_spec (xs : List D47) (a b : Int) (hl : xs.length ≤ 1048576) : fn9 xs a b = some (xs.any fun y => y.1 == a && y.2.1 == b) := by
  have key : ∀ (d k fuel : Nat), xs.length - k = d → k ≤ xs.length → d < fuel →
      iter (β := (Int × Int × (List D47) × Int × Int) ⊕ Bool) (fun rec2 (z1 : Int × Int × (List D47) × Int × Int) => cond (decide (z1.2.2.2.2 < z1.2.2.2.1)) ((idx z1.2.2.1 z1.2.2.2.2).bind fun y3 => cond (y3.1 == z1.1) (cond (y3.2.1 == z1.2.1) (Option.map Sum.inr (some true)) (rec2 (z1.1, z1.2.1, z1.2.2.1, z1.2.2.2.1, (IntKind.i64.wrap (z1.2.2.2.2 + 1))))) (rec2 (z1.1, z1.2.1, z1.2.2.1, z1.2.2.2.1, (IntKind.i64.wrap (z1.2.2.2.2 + 1))))) (some (Sum.inl (z1.1, z1.2.1, z1.2.2.1, z1.2.2.2.1, z1.2.2.2.2)))) fuel (a, b, xs, (xs.length : Int), (k : Int)) =
        some (cond ((xs.drop k).any fun y => y.1 == a && y.2.1 == b) (.inr true) (.inl (a, b, xs, (xs.length : Int), (xs.length : Int)))) := by
    intro d
    induction d with
    | zero =>
      intro k fuel hd hk hf
      obtain ⟨n, rfl⟩ : ∃ n, fuel = n + 1 := ⟨fuel - 1, by omega⟩
      have : k = xs.length := by omega
      subst this
      simp [iter]
    | succ d ih =>
      intro k fuel hd hk hf
      obtain ⟨n, rfl⟩ : ∃ n, fuel = n + 1 := ⟨fuel - 1, by omega⟩
      have hj : k < xs.length := by omega
      have := ih (k + 1) n (by omega) (by omega) (by omega)
      rw [iter]
      simp only
      rw [show decide ((k : Int) < (xs.length : Int)) = true by simp; exact hj, cond_true, idx_get hj, wrap_id (by omega) (by omega)]
      simp only [Option.bind_some]
      rw [List.drop_eq_getElem_cons hj, List.any_cons]
      have e : ((k : Int) + 1) = ((k + 1 : Nat) : Int) := by omega
      rw [e, this]
      cases h1 : (xs[k].1 == a) <;> cases h2 : (xs[k].2.1 == b) <;> simp
  unfold fn9
  have := key xs.length 0 FUEL (by omega) (by omega) (by unfold FUEL; omega)
  rw [show ((0 : Nat) : Int) = 0 from rfl] at this
  rw [this]
  simp only [List.drop_zero, Option.bind_some]
  cases xs.any fun y => y.1 == a && y.2.1 == b <;> rfl

theorem sz46 : Sizes (Wf T84) (fun _ => True) fn46 := by
  intro x left hw h0 h1
  obtain ⟨_, _, h3, _, h5, _, h7, _⟩ := hw
  have h3 : x.2.2.1.size ≤ 9223372036854775807 := h3
  have h5 : x.2.2.2.2.1.size ≤ 9223372036854775807 := h5
  have h7 : x.2.2.2.2.2.2.1.size ≤ 9223372036854775807 := h7
  unfold fn46
  generalize x.2.2.1.size = a at *
  generalize x.2.2.2.2.1.size = b at *
  generalize x.2.2.2.2.2.2.1.size = c at *
  rw [wrap_id (n := left - (a : Int)) (by omega) (by omega)]
  by_cases c1 : left - (a : Int) < 0
  · rw [show decide (left - (a : Int) < 0) = true by simp; omega]
    exact ⟨-1, rfl, .inl (by omega)⟩
  rw [show decide (left - (a : Int) < 0) = false by simp; omega, cond_false, wrap_id (n := left - (a : Int) - (b : Int)) (by omega) (by omega)]
  by_cases c2 : left - (a : Int) - (b : Int) < 0
  · rw [show decide (left - (a : Int) - (b : Int) < 0) = true by simp; omega]
    exact ⟨-1, rfl, .inl (by omega)⟩
  rw [show decide (left - (a : Int) - (b : Int) < 0) = false by simp; omega, cond_false, wrap_id (n := left - (a : Int) - (b : Int) - (c : Int)) (by omega) (by omega)]
  by_cases c3 : left - (a : Int) - (b : Int) - (c : Int) < 0
  · rw [show decide (left - (a : Int) - (b : Int) - (c : Int) < 0) = true by simp; omega]
    exact ⟨-1, rfl, .inl (by omega)⟩
  rw [show decide (left - (a : Int) - (b : Int) - (c : Int) < 0) = false by simp; omega, cond_false]
  exact ⟨_, rfl, .inr ⟨by omega, trivial⟩⟩

theorem sz33 : Sizes (Wf (.sl T84)) (fun xs => List.length xs ≤ 1048576) fn33 := by
  intro xs left hw h0 h1
  obtain ⟨r, h2, h3⟩ := szG_spec sz46 xs left hw h0 h1
  rw [show fn33 xs left = szG fn46 xs left by kernel_rfl]
  exact ⟨r, h2, h3.imp id fun h => ⟨h.1, h.2.1⟩⟩

theorem sz32 : Sizes (Wf (.sl T86)) (fun xs => List.length xs ≤ 1048576) fn32 := by
  intro xs left hw h0 h1
  have hm : List.length xs ≤ 9223372036854775807 := hw.1
  unfold fn32
  rw [wrap_id (by omega) (by omega)]
  by_cases c1 : left - (List.length xs : Int) < 0
  · rw [show decide (left - (List.length xs : Int) < 0) = true by simp; omega]
    exact ⟨-1, rfl, .inl (by omega)⟩
  · rw [show decide (left - (List.length xs : Int) < 0) = false by simp; omega]
    exact ⟨_, rfl, .inr ⟨by omega, by omega⟩⟩

def small (x : D43) : Prop := List.length x.2.2.1 ≤ 1048576 ∧ List.length x.2.2.2.1 ≤ 1048576

theorem sz18 : Sizes (Wf T43) small fn18 := by
  intro x left hw h0 h1
  obtain ⟨_, _, h3, h4, _⟩ := hw
  unfold fn18
  obtain ⟨r1, e1, q1⟩ := sz32 x.2.2.1 left h3 h0 h1
  rw [e1, Option.bind_some]
  by_cases c1 : r1 < 0
  · rw [show decide (r1 < 0) = true by simp; exact c1]
    exact ⟨-1, rfl, .inl (by omega)⟩
  · rw [show decide (r1 < 0) = false by simp; omega, cond_false]
    rcases q1 with q1 | ⟨q1, q2⟩
    · exact absurd q1 c1
    obtain ⟨r2, e2, q3⟩ := sz33 x.2.2.2.1 r1 h4 (by omega) (by omega)
    rw [e2, Option.bind_some]
    by_cases c2 : r2 < 0
    · rw [show decide (r2 < 0) = true by simp; exact c2]
      exact ⟨-1, rfl, .inl (by omega)⟩
    · rw [show decide (r2 < 0) = false by simp; omega, cond_false]
      rcases q3 with q3 | ⟨q3, q4⟩
      · exact absurd q3 c2
      · exact ⟨r2, rfl, .inr ⟨by omega, q2, q4⟩⟩

theorem sz6 (xs : List D43) (hw : Wf (.sl T43) xs) : ∃ r, fn6 xs 1048576 = some r ∧ (r < 0 ∨ (xs.length ≤ 1048576 ∧ ∀ x ∈ xs, small x)) := by
  obtain ⟨r, h2, h3⟩ := szG_spec sz18 xs 1048576 hw (by omega) (by omega)
  rw [show fn6 xs 1048576 = szG fn18 xs 1048576 by kernel_rfl]
  exact ⟨r, h2, h3.imp id fun h => ⟨h.2.1, h.2.2⟩⟩

theorem lim (n : Nat) (h : n ≤ 1048576) : n ≤ LIM := by unfold LIM; omega

theorem to19 (x : D43) (h : small x) : fn19 x = some x := by
  have h1 : fn34 x.2.2.1 = some x.2.2.1 := by
    have := toG_spec (z := ((0, 0, ()) : D86)) (g := fn47) id x.2.2.1 (lim _ h.1) (fun _ _ => rfl)
    rw [List.map_id] at this
    exact (show fn34 x.2.2.1 = toG ((0, 0, ()) : D86) fn47 x.2.2.1 by kernel_rfl).trans this
  have h2 : fn35 x.2.2.2.1 = some x.2.2.2.1 := by
    have := toG_spec (z := ((0, 0, (⟨#[]⟩ : ByteArray), 0, (⟨#[]⟩ : ByteArray), 0, (⟨#[]⟩ : ByteArray), ()) : D84)) (g := fn48) id x.2.2.2.1 (lim _ h.2) (fun _ _ => rfl)
    rw [List.map_id] at this
    exact (show fn35 x.2.2.2.1 = toG ((0, 0, (⟨#[]⟩ : ByteArray), 0, (⟨#[]⟩ : ByteArray), 0, (⟨#[]⟩ : ByteArray), ()) : D84) fn48 x.2.2.2.1 by kernel_rfl).trans this
  unfold fn19
  rw [h1, Option.bind_some, h2, Option.bind_some]

theorem to8 (xs : List D43) (hl : xs.length ≤ 1048576) (h : ∀ x ∈ xs, small x) : fn8 xs = some xs := by
  have := toG_spec (z := ((0, 0, [], [], ()) : D47)) (g := fn19) id xs (lim _ hl) (fun x hx => to19 x (h x hx))
  rw [List.map_id] at this
  exact (show fn8 xs = toG ((0, 0, [], [], ()) : D47) fn19 xs by kernel_rfl).trans this

theorem eq49 (x : D86) : fn49 x x = some true := by unfold fn49; simp
theorem eq50 (x : D84) : fn50 x x = some true := by unfold fn50; simp

theorem eq20 (x : D47) (h : small x) : fn20 x x = some true := by
  have h1 : fn36 x.2.2.1 x.2.2.1 = some true := (show fn36 x.2.2.1 x.2.2.1 = eqG fn49 x.2.2.1 x.2.2.1 by kernel_rfl).trans <| eqG_refl (g := fn49) x.2.2.1 (lim _ h.1) fun y _ => eq49 y
  have h2 : fn37 x.2.2.2.1 x.2.2.2.1 = some true := (show fn37 x.2.2.2.1 x.2.2.2.1 = eqG fn50 x.2.2.2.1 x.2.2.2.1 by kernel_rfl).trans <| eqG_refl (g := fn50) x.2.2.2.1 (lim _ h.2) fun y _ => eq50 y
  unfold fn20
  rw [h1, h2]
  simp

theorem eq10 (xs : List D47) (hl : xs.length ≤ 1048576) (h : ∀ x ∈ xs, small x) : fn10 xs xs = some true :=
  (show fn10 xs xs = eqG fn20 xs xs by kernel_rfl).trans <| eqG_refl (g := fn20) xs (lim _ hl) fun y hy => eq20 y (h y hy)

theorem told_true (xs : List D43) (a b : Int) (hw : Wf (.sl T43) xs) : fn3 xs a b = some true := by
  obtain ⟨r, h1, h2⟩ := sz6 xs hw
  unfold fn3
  rw [h1, Option.bind_some]
  by_cases c : r < 0
  · rw [show decide (r < 0) = true by simp; exact c]; rfl
  · rw [show decide (r < 0) = false by simp; omega, cond_false]
    obtain ⟨hl, hs⟩ := h2.resolve_left c
    rw [to8 xs hl hs]
    simp only [Option.bind_some]
    rw [fn7_spec xs a b hl, fn9_spec xs a b hl]
    simp only [Option.bind_some, beq_self_eq_true, Bool.not_true, cond_false]
    rw [eq10 xs hl hs]
    rfl

end Go.VxU
