/-
  The laws of WalkMany, WalkDepth and MendName, over plain data.
-/
import Derived.Test.YtgdfaamcmkfkcaaVxTree7
set_option linter.unusedSimpArgs false
set_option linter.unusedVariables false
set_option linter.unnecessarySimpa false
namespace Go.VxU
open Go Go.Vx Go.Proofs Go.Gr

@[reducible] def YEnt : Ty := .pair .str (.pair (.int .i64) .unit)
@[reducible] def YObj : Ty := .pair (.int .i64) (.pair (.int .i64) (.pair .str (.pair (.sl YEnt) .unit)))
@[reducible] def YTree : Ty := .pair (.sl YObj) .unit

theorem sz_Ent : Sizes (Wf YEnt) SmE laws_szEnt := by
  intro x left hw h0 h1
  obtain ⟨h3, _⟩ := hw
  have h3 : x.1.size ≤ 9223372036854775807 := h3
  unfold laws_szEnt
  rw [wrap_id (by omega) (by omega)]
  by_cases c1 : left - (x.1.size : Int) < 0
  · rw [decide_eq_true c1]; exact ⟨-1, rfl, .inl (by omega)⟩
  · rw [decide_eq_false c1]; exact ⟨_, rfl, .inr ⟨by omega, by unfold SmE; omega⟩⟩

theorem sz_EntS : Sizes (Wf (.sl YEnt)) (fun xs => List.length xs ≤ 1048576 ∧ ∀ e ∈ xs, SmE e) laws_szEntS := by
  intro xs left hw h0 h1
  obtain ⟨r, h2, h3⟩ := szG_spec sz_Ent xs left hw h0 h1
  rw [show laws_szEntS xs left = szG laws_szEnt xs left by kernel_rfl]
  exact ⟨r, h2, h3⟩

theorem sz_Obj : Sizes (Wf YObj) SmO laws_szObj := by
  intro x left hw h0 h1
  obtain ⟨_, _, h3, h4, _⟩ := hw
  have h3 : x.2.2.1.size ≤ 9223372036854775807 := h3
  unfold laws_szObj
  rw [wrap_id (by omega) (by omega)]
  by_cases c1 : left - (x.2.2.1.size : Int) < 0
  · rw [decide_eq_true c1]; exact ⟨-1, rfl, .inl (by omega)⟩
  · rw [decide_eq_false c1, cond_false]
    obtain ⟨r1, e1, q1⟩ := sz_EntS x.2.2.2.1 (left - (x.2.2.1.size : Int)) h4 (by omega) (by omega)
    rw [e1, Option.bind_some]
    by_cases c2 : r1 < 0
    · rw [decide_eq_true c2]; exact ⟨-1, rfl, .inl (by omega)⟩
    · rw [decide_eq_false c2]
      rcases q1 with q1 | ⟨q1, q2, q3⟩
      · exact absurd q1 c2
      · exact ⟨_, rfl, .inr ⟨by omega, by omega, q2, q3⟩⟩

theorem sz_ObjS : Sizes (Wf (.sl YObj)) SmL laws_szObjS := by
  intro xs left hw h0 h1
  obtain ⟨r, h2, h3⟩ := szG_spec sz_Obj xs left hw h0 h1
  rw [show laws_szObjS xs left = szG laws_szObj xs left by kernel_rfl]
  exact ⟨r, h2, h3⟩

theorem sz_Tree : Sizes (Wf YTree) (fun t => SmL t.1) laws_szTree := by
  intro x left hw h0 h1
  unfold laws_szTree
  obtain ⟨r1, e1, q1⟩ := sz_ObjS x.1 left hw.1 h0 h1
  rw [e1, Option.bind_some]
  by_cases c2 : r1 < 0
  · rw [decide_eq_true c2]; exact ⟨-1, rfl, .inl (by omega)⟩
  · rw [decide_eq_false c2]; exact ⟨_, rfl, q1⟩

theorem lim (n : Nat) (h : n ≤ 1048576) : n ≤ LIM := by unfold LIM; omega

theorem to_Obj (o : Obj) (h : SmO o) : laws_toObj o = some o := by
  have h1 : laws_toEntS o.2.2.2.1 = some o.2.2.2.1 := by
    have := toG_spec (z := (((⟨#[]⟩ : ByteArray), 0, ()) : Ent)) (g := laws_toEnt) id o.2.2.2.1 (lim _ h.2.1) (fun _ _ => rfl)
    rw [List.map_id] at this
    exact (show laws_toEntS o.2.2.2.1 = toG (((⟨#[]⟩ : ByteArray), 0, ()) : Ent) laws_toEnt o.2.2.2.1 by kernel_rfl).trans this
  unfold laws_toObj
  rw [h1]; rfl

theorem to_Tree (t : Tree) (h : SmL t.1) : laws_toTree t = some t := by
  have h1 : laws_toObjS t.1 = some t.1 := by
    have := toG_spec (z := ((0, 0, (⟨#[]⟩ : ByteArray), [], ()) : Obj)) (g := laws_toObj) id t.1 (lim _ h.1) (fun x hx => to_Obj x (h.2 x hx))
    rw [List.map_id] at this
    exact (show laws_toObjS t.1 = toG ((0, 0, (⟨#[]⟩ : ByteArray), [], ()) : Obj) laws_toObj t.1 by kernel_rfl).trans this
  unfold laws_toTree
  rw [h1]; rfl

theorem eq_Ent (x : Ent) : laws_eqEnt x x = some true := by unfold laws_eqEnt; simp
theorem eq_Obj (x : Obj) (h : SmO x) : laws_eqObj x x = some true := by
  have h1 : laws_eqEntS x.2.2.2.1 x.2.2.2.1 = some true := (show laws_eqEntS x.2.2.2.1 x.2.2.2.1 = eqG laws_eqEnt x.2.2.2.1 x.2.2.2.1 by kernel_rfl).trans <| eqG_refl x.2.2.2.1 (lim _ h.2.1) fun y _ => eq_Ent y
  unfold laws_eqObj
  rw [h1]
  simp
theorem eq_Tree (t : Tree) (h : SmL t.1) : laws_eqTree t t = some true := by
  have h1 : laws_eqObjS t.1 t.1 = some true := (show laws_eqObjS t.1 t.1 = eqG laws_eqObj t.1 t.1 by kernel_rfl).trans <| eqG_refl t.1 (lim _ h.1) fun y hy => eq_Obj y (h.2 y hy)
  unfold laws_eqTree
  rw [h1]; rfl

theorem many_true (t : Tree) (id : Int) (hw : Wf YTree t) : laws_FnExactWalkMany t id = some true := by
  obtain ⟨r, h1, h2⟩ := sz_Tree t 1048576 hw (by omega) (by omega)
  unfold laws_FnExactWalkMany
  rw [h1, Option.bind_some]
  by_cases c : r < 0
  · rw [decide_eq_true c]; rfl
  · rw [decide_eq_false c, cond_false]
    have hs := (h2.resolve_left c).2
    obtain ⟨v, e1, e2⟩ := many_eq t.1 hs id
    rw [to_Tree t hs]
    simp only [Option.bind_some]
    rw [show spec_WalkMany t id = some v from e1, show impl_WalkMany t id = some v from e2]
    simp only [Option.bind_some, beq_self_eq_true, Bool.not_true, cond_false]
    rw [eq_Tree t hs]; rfl

theorem depth_true (t : Tree) (id : Int) (hw : Wf YTree t) : laws_FnExactWalkDepth t id = some true := by
  obtain ⟨r, h1, h2⟩ := sz_Tree t 1048576 hw (by omega) (by omega)
  unfold laws_FnExactWalkDepth
  rw [h1, Option.bind_some]
  by_cases c : r < 0
  · rw [decide_eq_true c]; rfl
  · rw [decide_eq_false c, cond_false]
    have hs := (h2.resolve_left c).2
    obtain ⟨v, e1, e2⟩ := depth_eq t.1 hs id
    rw [to_Tree t hs]
    simp only [Option.bind_some]
    rw [show spec_WalkDepth t id = some v from e1, show impl_WalkDepth t id = some v from e2]
    simp only [Option.bind_some, beq_self_eq_true, Bool.not_true, cond_false]
    rw [eq_Tree t hs]; rfl

theorem mend_true (t : Tree) (d : Int) (nm : ByteArray) (hw : Wf YTree t) : laws_FnExactMendName t d nm = some true := by
  obtain ⟨r, h1, h2⟩ := sz_Tree t 1048576 hw (by omega) (by omega)
  unfold laws_FnExactMendName
  by_cases hn : (nm.size : Int) > 1048576
  · rw [decide_eq_true hn]; rfl
  rw [decide_eq_false hn, cond_false, h1, Option.bind_some]
  by_cases c : r < 0
  · rw [decide_eq_true c]; rfl
  · rw [decide_eq_false c, cond_false]
    have hs := (h2.resolve_left c).2
    obtain ⟨v, e1, e2⟩ := mend_eq t.1 hs d nm (by omega)
    rw [to_Tree t hs]
    simp only [Option.bind_some]
    rw [show spec_MendName t d nm = some v from e1, show impl_MendName t d nm = some v from e2]
    simp only [Option.bind_some, beq_self_eq_true, Bool.not_true, cond_false]
    rw [eq_Tree t hs]; rfl

end Go.VxU
