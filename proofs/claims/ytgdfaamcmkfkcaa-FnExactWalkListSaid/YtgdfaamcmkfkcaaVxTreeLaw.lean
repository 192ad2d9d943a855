/-
  The laws of WalkMany, WalkDepth and MendName, over plain data.
-/
import Derived.Test.YtgdfaamcmkfkcaaVxTree7
set_option linter.unusedSimpArgs false
set_option linter.unusedVariables false
set_option linter.unnecessarySimpa false
namespace Go.VxU
open Go Go.Vx Go.Proofs Go.Gr

@[reducible] def YEnt : Ty := .pair .str (.pair (.int .i64) .unit)
@[reducible] def YObj : Ty := .pair (.int .i64) (.pair (.int .i64) (.pair .str (.pair (.sl YEnt) .unit)))
@[reducible] def YTree : Ty := .pair (.sl YObj) .unit

theorem sz_Ent : Sizes (Wf YEnt) SmE laws_szEnt := by
  intro x left hw h0 h1
  obtain ⟨h3, _⟩ := hw
  have h3 : x.1.size ≤ 9223372036854775807 := h3
  unfold laws_szEnt
  rw [wrap_id (by omega) (by omega)]
  by_cases c1 : left - (x.1.size : Int) < 0
  · rw [decide_eq_true c1]; exact ⟨-1, rfl, .inl (by omega)⟩
  · rw [decide_eq_false c1]; exact ⟨_, rfl, .inr ⟨by omega, by unfold SmE; omega⟩⟩

theorem sz_EntS : Sizes (Wf (.sl YEnt)) (fun xs => List.length xs ≤ 1048576 ∧ ∀ e ∈ xs, SmE e) laws_szEntS := by
  intro xs left hw h0 h1
  obtain ⟨r, h2, h3⟩ := szG_spec sz_Ent xs left hw h0 h1
  rw [show laws_szEntS xs left = szG laws_szEnt xs left by kernel_rfl]
  exact ⟨r, h2, h3⟩

theorem sz_Obj : Sizes (Wf YObj) SmO laws_szObj := by
  intro x left hw h0 h1
  obtain ⟨_, _, h3, h4, _⟩ := hw
  have h3 : x.2.2.1.size ≤ 9223372036854775807 := h3
  unfold laws_szObj
  rw [wrap_id (by omega) (by omega)]
  by_cases c1 : left - (x.2.2.1.size : Int) < 0
  · rw [decide_eq_true c1]; exact ⟨-1, rfl, .inl (by omega)⟩
  · rw [decide_eq_false c1, cond_false]
    obtain ⟨r1, e1, q1⟩ := sz_EntS x.2.2.2.1 (left - (x.2.2.1.size : Int)) h4 (by omega) (by omega)
    rw [e1, Option.bind_some]
    by_cases c2 : r1 < 0
    · rw [decide_eq_true c2]; exact ⟨-1, rfl, .inl (by omega)⟩
    · rw [decide_eq_false c2]
      rcases q1 with q1 | ⟨q1, q2, q3⟩
      · exact absurd q1 c2
      · exact ⟨_, rfl, .inr ⟨by omega, by omega, q2, q3⟩⟩

theorem sz_ObjS : Sizes (Wf (.sl YObj)) SmL laws_szObjS := by
  intro xs left hw h0 h1
  obtain ⟨r, h2, h3⟩ := szG_spec sz_Obj xs left hw h0 h1
  rw [show laws_szObjS xs left = szG laws_szObj xs left by kernel_rfl]
  exact ⟨r, h2, h3⟩

theorem sz_Tree : Sizes (Wf YTree) (fun t => SmL t.1) laws_szTree := by
  intro x left hw h0 h1
  unfold laws_szTree
  obtain ⟨r1, e1, q1⟩ := sz_ObjS x.1 left hw.1 h0 h1
  rw [e1, Option.bind_some]
  by_cases c2 : r1 < 0
  · rw [decide_eq_true c2]; exact ⟨-1, rfl, .inl (by omega)⟩
  · rw [decide_eq_false c2]; exact ⟨_, rfl, q1⟩

theorem lim (n : Nat) (h : n ≤ 1048576) : n ≤ LIM := by unfold LIM; omega

theorem to_Obj (o : Obj) (h : SmO o) : laws_toObj o = some (o.1, o.2.1, o.2.2.1, o.2.2.2.1) := by
  have h1 : laws_toEntS o.2.2.2.1 = some o.2.2.2.1 := by
    have := toG_spec (z := (((⟨#[]⟩ : ByteArray), 0, ()) : Ent)) (g := laws_toEnt) id o.2.2.2.1 (lim _ h.2.1) (fun _ _ => rfl)
    rw [List.map_id] at this
    exact (show laws_toEntS o.2.2.2.1 = toG (((⟨#[]⟩ : ByteArray), 0, ()) : Ent) laws_toEnt o.2.2.2.1 by kernel_rfl).trans this
  unfold laws_toObj
  rw [h1]; rfl

theorem set_prefix {α : Type} {a os : List α} {k : Nat} (hl : a.length = os.length) (h : ∀ j, j < k → a[j]? = os[j]?) (hk : k < os.length) : ∀ j, j < k + 1 → (a.set k os[k])[j]? = os[j]? := by
  intro j hj
  by_cases e : j = k
  · subst e
    rw [List.getElem?_set_self (by omega), List.getElem?_eq_getElem hk]
  · rw [List.getElem?_set_ne (fun e' => e e'.symm)]
    exact h j (by omega)

theorem to_Tree (t : Tree) (h : SmL t.1) : laws_toTree t = some t.1 := by
  have hlen := h.1
  have h1 : laws_toObjS t.1 = some t.1 := by
    unfold laws_toObjS
    have hL : LIM = 1073741824 := rfl
    rw [show (decide (0 ≤ (List.length t.1 : Int)) && decide ((List.length t.1 : Int) ≤ (LIM : Int))) = true by simp; exact lim _ h.1]
    simp only [cond_true]
    refine Exists.elim (iter_go (f := laws_toObjS_L0) t.1.length (fun k a => (t.1, a, (k : Int))) (fun k a => a.length = t.1.length ∧ ∀ j, j < k → a[j]? = t.1[j]?) (fun a => .inl (t.1, a, (t.1.length : Int))) ?_ ?_
      (a0 := List.replicate (Int.toNat (List.length t.1 : Int)) ((0, 0, (⟨#[]⟩ : ByteArray), [], ()) : D62)) ⟨by simp, fun j hj => by omega⟩ (x0 := (t.1, List.replicate (Int.toNat (List.length t.1 : Int)) ((0, 0, (⟨#[]⟩ : ByteArray), [], ()) : D62), 0)) rfl (by omega)) fun a hq => ?_
    · intro k a hk ha
      refine ⟨a.set k t.1[k], ⟨by simp [ha.1], set_prefix ha.1 ha.2 hk⟩, fun rec => ?_⟩
      unfold laws_toObjS_L0
      simp only
      rw [lt_true hk, cond_true, idx_get hk, Option.bind_some, to_Obj _ (h.2 _ (List.getElem_mem hk)), Option.bind_some, inb_lt (by rw [ha.1]; exact hk), cond_true, idx_get (by rw [ha.1]; exact hk), Option.bind_some, wrap_succ (by omega)]
      rfl
    · intro a rec ha
      unfold laws_toObjS_L0
      simp only
      rw [show decide (((_ : Nat) : Int) < ((_ : Nat) : Int)) = false from decide_eq_false (by omega)]; rfl
    · obtain ⟨ha, e⟩ := hq
      rw [e]
      simp only [Option.bind_some]
      congr 1
      refine List.ext_getElem? fun j => ?_
      by_cases hj : j < t.1.length
      · exact ha.2 j hj
      · rw [List.getElem?_eq_none (by omega), List.getElem?_eq_none (by omega)]
  unfold laws_toTree
  rw [h1]; rfl

theorem eq_Ent (x : Ent) : laws_eqEnt x x = some true := by unfold laws_eqEnt; simp
theorem eq_Obj (x : Obj) (h : SmO x) : laws_eqObj x x = some true := by
  have h1 : laws_eqEntS x.2.2.2.1 x.2.2.2.1 = some true := (show laws_eqEntS x.2.2.2.1 x.2.2.2.1 = eqG laws_eqEnt x.2.2.2.1 x.2.2.2.1 by kernel_rfl).trans <| eqG_refl x.2.2.2.1 (lim _ h.2.1) fun y _ => eq_Ent y
  unfold laws_eqObj
  rw [h1]
  simp
theorem eq_Tree (t : Tree) (h : SmL t.1) : laws_eqTree t t = some true := by
  have h1 : laws_eqObjS t.1 t.1 = some true := (show laws_eqObjS t.1 t.1 = eqG laws_eqObj t.1 t.1 by kernel_rfl).trans <| eqG_refl t.1 (lim _ h.1) fun y hy => eq_Obj y (h.2 y hy)
  unfold laws_eqTree
  rw [h1]; rfl

theorem many_true (t : Tree) (id : Int) (hw : Wf YTree t) : laws_FnExactWalkMany t id = some true := by
  obtain ⟨r, h1, h2⟩ := sz_Tree t 1048576 hw (by omega) (by omega)
  unfold laws_FnExactWalkMany
  rw [h1, Option.bind_some]
  by_cases c : r < 0
  · rw [decide_eq_true c]; rfl
  · rw [decide_eq_false c, cond_false]
    have hs := (h2.resolve_left c).2
    obtain ⟨v, e1, e2⟩ := many_eq t.1 hs id
    rw [to_Tree t hs]
    simp only [Option.bind_some]
    rw [e1, e2]
    simp only [Option.bind_some, beq_self_eq_true, Bool.not_true, cond_false]
    rw [show laws_eqTree (t.1, ()) (t.1, ()) = some true from eq_Tree t hs]; rfl

theorem depth_true (t : Tree) (id : Int) (hw : Wf YTree t) : laws_FnExactWalkDepth t id = some true := by
  obtain ⟨r, h1, h2⟩ := sz_Tree t 1048576 hw (by omega) (by omega)
  unfold laws_FnExactWalkDepth
  rw [h1, Option.bind_some]
  by_cases c : r < 0
  · rw [decide_eq_true c]; rfl
  · rw [decide_eq_false c, cond_false]
    have hs := (h2.resolve_left c).2
    obtain ⟨v, e1, e2⟩ := depth_eq t.1 hs id
    rw [to_Tree t hs]
    simp only [Option.bind_some]
    rw [e1, e2]
    simp only [Option.bind_some, beq_self_eq_true, Bool.not_true, cond_false]
    rw [show laws_eqTree (t.1, ()) (t.1, ()) = some true from eq_Tree t hs]; rfl

theorem mend_true (t : Tree) (d : Int) (nm : ByteArray) (hw : Wf YTree t) : laws_FnExactMendName t d nm = some true := by
  obtain ⟨r, h1, h2⟩ := sz_Tree t 1048576 hw (by omega) (by omega)
  unfold laws_FnExactMendName
  by_cases hn : (nm.size : Int) > 1048576
  · rw [decide_eq_true hn]; rfl
  rw [decide_eq_false hn, cond_false, h1, Option.bind_some]
  by_cases c : r < 0
  · rw [decide_eq_true c]; rfl
  · rw [decide_eq_false c, cond_false]
    have hs := (h2.resolve_left c).2
    obtain ⟨v, e1, e2⟩ := mend_eq t.1 hs d nm (by omega)
    rw [to_Tree t hs]
    simp only [Option.bind_some]
    rw [e1, e2]
    simp only [Option.bind_some, beq_self_eq_true, Bool.not_true, cond_false]
    rw [show laws_eqTree (t.1, ()) (t.1, ()) = some true from eq_Tree t hs]; rfl

end Go.VxU
