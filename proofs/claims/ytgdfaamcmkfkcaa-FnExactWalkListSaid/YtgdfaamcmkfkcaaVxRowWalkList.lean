/-
  For every input the law FnExactWalkList returns true, and its arguments read as before. No further condition.
-/
import Derived.Test.YtgdfaamcmkfkcaaRows
import Derived.Test.YtgdfaamcmkfkcaaVxTree8
set_option linter.unusedSimpArgs false
set_option linter.unusedVariables false
set_option linter.unnecessarySimpa false
namespace Go.Proofs.Ytgdfaamcmkfkcaa
open Go.ChangeShapes Go.WideShapes Go.ChangeAt Go.RowKit Go.Vx Go.VxU

theorem walklist_own : ownKnob Try.prog.godebug = none := by kernel_rfl
theorem walklist_laidOut : laidOutB Try.prog = true := by kernel_rfl
theorem walklist_tie : TieOk (assoc tab) := chkTies_ok (by kernel_rfl)
theorem walklist_ins : S_laws_FnExactWalkList.ins = mkIns (assoc tab) 0 [24] := by kernel_rfl

set_option maxRecDepth 100000 in
theorem walklist_calls (W : World) (base : Nat) (args : Array Value) {H : Type} (enc : TypeId × Value → H) (ds : List (DataW H)) (ps : List MemPlace)
    (hok : ∀ (j : Nat) t v, ([24] : List Nat)[j]? = some t → args.toList[j]? = some v → Value.okWide Try.prog W .any base t v) (hA : DataW.TrodAll enc Try.prog W 0 (fun _ => true) true [24] args.toList ds ps) :
    Calls Try.prog 6 args W fun e W' => e = .returned (.bool true) ∧ Below W.heap.size W W' := by
  obtain ⟨hl, x, hx, hwf⟩ := args_IS ctx.types walklist_tie (V := fun s => args.toList.getD s undef) [24] 0 args.toList ds ps (known_of (by kernel_rfl)) hok hA (fun j v hv => by
    simp only [Nat.zero_add, List.getD_eq_getElem?_getD, hv, Option.getD_some])
  have hx' : IS W (fun b => b < W.heap.size) S_laws_FnExactWalkList.ins x (fun s => args.toList.getD s undef) [] := hx
  have hcall : S_laws_FnExactWalkList.call x = some true := list_true x.1 hwf.1
  have := good_calls g_laws_FnExactWalkList hcall (vs := args.toList) (by rw [hl]; rfl) hx'
  rw [Array.toArray_toList] at this
  refine this.mono ?_
  rintro e W' ⟨v, V, os', q, rfl, hv, hIS, hb⟩
  refine ⟨?_, hb⟩
  obtain ⟨cells, o1, o2, _, hs, ⟨c1, c2, rfl, h1, h2, _⟩, _⟩ := hIS
  have hv : v = V 0 := hv
  have hs : c1 ++ c2 = [V 0] := hs
  have h1 : c1 = [.bool true] := h1
  rw [h1, h2] at hs
  simp only [List.append_nil, List.cons.injEq, and_true] at hs
  rw [hv, ← hs]

set_option maxRecDepth 100000 in
theorem walklist_lifted (os : Os) (started : os.Started) (H : Type) (enc : TypeId × Value → H) :
    ReturnsInHanded {} Try.checked os 6 .any (Rows.fnExactWalkListSpec.pre6 enc Try.prog Try.f6 Rows.fnExactWalkListRow.domain false) (Rows.fnExactWalkListSpec.post enc Try.prog Try.f6 false true false false) := by
  refine returnsInHanded_of_change (C := Try.checked) walklist_own started (by kernel_rfl) Try.func6
    (ChangeSpec.witness6 (enc := enc) (C := Try.checked) false ⟨#[], #[.agg #[.slice none 0 0]], []⟩ 8 (by kernel_rfl) (by kernel_rfl) (by kernel_rfl) (by kernel_rfl)) ?_
  intro W base args ds gs before hval0 hW hcnd _
  have hW' := hW
  obtain ⟨p, q, hA0, hV, rfl, hfz, hnd⟩ := hW
  have hgs : gs = [] ∧ q = [] := trodVars_none hV
  obtain ⟨rfl, rfl⟩ := hgs
  have hA : DataW.TrodAll enc Try.prog W 0 (fun _ => true) true [24] args.toList ds p := hA0
  refine (walklist_calls W base args enc ds p (fun j t v ht hv => hval0 j t v ?_ ?_) hA).mono ?_
  · rw [← Array.getElem?_toList]; exact ht
  · rw [← Array.getElem?_toList]; exact hv
  rintro e W' ⟨rfl, hb⟩
  refine ⟨.bool true, rfl, law_post (t := 4) rfl hW' walklist_laidOut (readable_of (by kernel_rfl)) hb (by kernel_rfl) (by kernel_rfl) ?_⟩
  have hlen := trodAll_len _ _ _ _ hA
  match ds, hlen with
  | [d1], _ => exact ⟨rfl, rfl, rfl⟩

theorem walklist_holds : Rows.FnExactWalkListSaid :=
  OpenClaim.holds_of_wide 6 Try.f6 rfl rfl rfl rfl rfl rfl rfl ⟨rfl, rfl, rfl, rfl, rfl⟩ rfl rfl rfl rfl rfl (by kernel_rfl) Try.func6 (by kernel_rfl)
    (of_decide_eq_true (by kernel_rfl)) (by unfold Func.isWrapper; first | (rw [if_pos (by decide +kernel)]; kernel_rfl) | (rw [if_neg (by decide +kernel)]; exact ⟨rfl, rfl⟩))
    (fun os started H enc _ => walklist_lifted os started H enc)

end Go.Proofs.Ytgdfaamcmkfkcaa
