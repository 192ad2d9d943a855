/-
  One operation, whichever; a row of operations.
-/
import Derived.Test.YtgdfaamcmkfkcaaVxCall
set_option linter.unusedSimpArgs false
set_option linter.unusedVariables false
set_option linter.unnecessarySimpa false
namespace Go.Vx

/-- What is known of the functions that are called. -/
structure Good (P : Program) (g : FuncId) (S : CSpec) : Prop where
  spec : specOk S = true
  con : Contract P g S
  fn : ∃ fn c, P.funcs[g]? = some fn ∧ (fn.name == "runtime.NumGoroutine") = false ∧ fn.body = some c

section
variable {P : Program} {C : Cfg} {N : Nat} {w0 : World} {p0 Bs : Nat → Prop} {G : Gh} {st : St} {a : Act} {w : World}

theorem Good.run_call {g : FuncId} {S : CSpec} (h : Good P g S) (args : Array Value) (w : World) : (callFunc g args).run P w = .ok (.enter g args) w := by
  obtain ⟨fn, c, h1, h2, h3⟩ := h.fn
  have h2 : fn.name ≠ "runtime.NumGoroutine" := by simpa using h2
  simp [callFunc, h1, h2, h3]

theorem run_value2 {s : Sem Value} {z : Value} {w w' : World} (h : s.run P w = .ok z w') : (do pure (Next.value (← s)) : Sem Next).run P w = .ok (.value z) w' := by
  simp only [Sem.run_bind, h, Result.andThen_ok, Sem.run_pure]

theorem run_newVar (t : Nat) (v : Value) (w : World) : (newVar t v).run P w = .ok ⟨w.heap.size, 0, none⟩ (w.alloc (.cells v.cells t)) := by
  simp only [newVar, newRow, Sem.run_bind, run_newObj_alloc, Result.andThen_ok, Sem.run_pure]

theorem capsR_box {w : World} {p : Nat → Prop} {G : Gh} {obj : Nat → AObj} : ∀ {ns : List Nat} {vs : List Value}, capsR G obj ns vs →
    vs.length = ns.length ∧ ∀ s, RV w p G obj ((ns.map fun n => AV.sc (.box n 0)).getD s .no) (vs.getD s undef)
  | [], vs, h => by
    have h : vs = [] := h
    subst h
    exact ⟨rfl, fun s => by simp [RV]⟩
  | n :: ns, vs, h => by
    obtain ⟨v, r, rfl, h1, h2, h3, h4⟩ := h
    obtain ⟨k1, k2⟩ := capsR_box (w := w) (p := p) h4
    refine ⟨by simp [k1], fun s => ?_⟩
    cases s with
    | zero => exact ⟨v, rfl, h1, h2, h3⟩
    | succ s => simpa using k2 s

theorem getD_app_AV {w : World} {p : Nat → Prop} {G : Gh} {obj : Nat → AObj} {xs ys : List AV} {us vs : List Value} (hl : xs.length = us.length)
    (h1 : ∀ s, RV w p G obj (xs.getD s .no) (us.getD s undef)) (h2 : ∀ s, RV w p G obj (ys.getD s .no) (vs.getD s undef)) (s : Nat) :
    RV w p G obj ((xs ++ ys).getD s .no) ((us ++ vs).getD s undef) := by
  by_cases hs : s < xs.length
  · have := h1 s
    simp only [List.getD_eq_getElem?_getD] at this ⊢
    rw [List.getElem?_append_left hs, List.getElem?_append_left (by omega)]
    exact this
  · have := h2 (s - xs.length)
    simp only [List.getD_eq_getElem?_getD] at this ⊢
    rw [List.getElem?_append_right (by omega), List.getElem?_append_right (by omega), ← hl]
    exact this

theorem sameOpnd_eq {x y : Operand} (h : sameOpnd x y = true) (a : Act) : a.eval x = a.eval y := by
  unfold sameOpnd at h
  split at h
  · rw [Nat.eq_of_beq_eq_true h]
  · rw [of_decide_eq_true h]
  · cases h

theorem opWp (o : Oper) {z : Value} {w' : World} {next : Act → World → Prop} {Q : Exit → Act → World → Prop} (hr : (execOp a.eval o).run P w = .ok (.value z) w') (hn : next (a.put o.dst z) w') :
    o.wp P a w next Q := by
  unfold Oper.wp
  rw [hr]
  exact hn

theorem stepOp_sound (hT : TabOk P C.Θ) (hΓ : ∀ g S, C.Γ g = some S → Good P g S) (h : Rel N w0 p0 Bs G st a w) (o : Oper) (hd : ∀ e, o.dst = some e → e < N) {R : Type} {k : St → Option R} {r : R}
    (hk : stepOp C st o.dst o.op k = some r) {next : Act → World → Prop} {Q : Exit → Act → World → Prop}
    (hnext : ∀ G' st' z w', Rel N w0 p0 Bs G' st' (a.put o.dst z) w' → k st' = some r → next (a.put o.dst z) w') : o.wp P a w next Q := by
  have hval := fun x => val_sound h x
  have hE : ∀ (_ : (opE C st o.op).go (fun v => k (st.put o.dst v)) = some r), o.wp P a w next Q := by
    intro hg
    obtain ⟨v, hv, hkv⟩ := Eff.go_some hg
    obtain ⟨z, h1, h2⟩ := opE_sound hT h o hv
    exact opWp o h1 (hnext G _ z w (h.put hd h2) hkv)
  cases ho : o.op with
  | store T p v =>
    rw [ho] at hk
    simp only [stepOp] at hk
    split at hk
    · rename_i hdst
      obtain ⟨G', st', w', k1, k2, k3⟩ := opStore_sound hT h (hval p) (hval v) hk
      unfold Oper.wp
      have : (execOp a.eval o).run P w = .ok .skip w' := by
        unfold execOp; simp only [ho, Sem.run_bind, k1, Result.andThen_ok, Sem.run_pure]
      rw [this]
      show next (a.put o.dst undef) w'
      refine hnext G' st' undef w' ?_ k3
      rw [hdst]; exact k2
    · cases hk
  | alloc T =>
    rw [ho] at hk
    simp only [stepOp] at hk
    split at hk
    · rename_i d ti hdst hti
      have hty := hT T ti hti
      obtain ⟨info, z, i1, i2, i3, i4, i5⟩ := zero_cells hty
      obtain ⟨_, G', st', k1, k2⟩ := opBox_sound h (hd d hdst) (zleaves_sound ti.ty) T hk
      refine opWp o (z := .pointer (some ⟨w.heap.size, 0, none⟩)) (w' := w.alloc (.cells (zcells ti.ty).toArray T)) ?_ ?_
      · unfold execOp
        have hz : (zeroValue T).run P w = .ok z w := by simp [zeroValue, typeInfo, i1, i3]
        simp only [ho, Instr.alloc, Sem.run_bind, hz, run_newVar, Result.andThen_ok, Sem.run_pure, i4]
      · rw [hdst]
        have := hnext G' st' (.pointer (some ⟨w.heap.size, 0, none⟩)) _ (by rw [hdst]; exact k1) k2
        rwa [hdst] at this
    · cases hk
  | box T x =>
    rw [ho] at hk
    simp only [stepOp] at hk
    split at hk
    · rename_i d ti ls hdst hti hls
      obtain ⟨cs, l2, l1, _⟩ := AV.leaves_sound hls (hval x)
      obtain ⟨_, G', st', k1, k2⟩ := opBox_sound h (hd d hdst) l2 T hk
      refine opWp o (z := .pointer (some ⟨w.heap.size, 0, none⟩)) (w' := w.alloc (.cells cs.toArray T)) ?_ ?_
      · unfold execOp
        simp only [ho, Instr.box, Sem.run_bind, run_newVar, Result.andThen_ok, Sem.run_pure, l1]
      · have := hnext G' st' (.pointer (some ⟨w.heap.size, 0, none⟩)) _ (by rw [hdst]; exact k1) k2
        exact this
    · cases hk
  | buildSlice T n parts =>
    rw [ho] at hk
    simp only [stepOp] at hk
    split at hk
    · rename_i d tid e hdst he
      obtain ⟨hc, hk2⟩ := cond_some hk
      clear hk
      simp only [Bool.and_eq_true] at hc
      split at hk2
      · rename_i xs hf
        obtain ⟨G', st', w', z, k1, k2, k3⟩ := buildSlice_sound hT h (hd d hdst) he (Nat.le_of_ble_eq_true hc.1) hc.2 hf hk2
        refine opWp o (z := z) (w' := w') ?_ (hnext G' st' z w' (by rw [hdst]; exact k2) k3)
        unfold execOp
        simp only [ho]
        exact run_value2 k1
      · cases hk2
    · cases hk
  | makeSlice T l c =>
    rw [ho] at hk
    simp only [stepOp] at hk
    split at hk
    · rename_i d tid e n hdst he hln
      obtain ⟨hs, hk2⟩ := cond_some hk
      obtain ⟨hc, hk3⟩ := cond_some hk2
      simp only [Bool.and_eq_true, decide_eq_true_eq] at hc
      have hlv := hval l
      rw [hln] at hlv
      have hlv := int_of hlv
      have hcv : a.eval c = .int .i64 n := by rw [← sameOpnd_eq hs a]; exact hlv
      obtain ⟨G', st', w', z, k1, k2, k3⟩ := makeSlice_sound hT h (hd d hdst) he hc.1 hc.2 hk3
      refine opWp o (z := z) (w' := w') ?_ (hnext G' st' z w' (by rw [hdst]; exact k2) k3)
      unfold execOp
      simp only [ho, hlv, hcv]
      exact run_value2 k1
    · cases hk
  | call c =>
    rw [ho] at hk hE
    obtain ⟨callee, args, argTypes⟩ := c
    simp only [stepOp] at hk
    split at hk
    · rename_i s x ha
      split at hk
      · rename_i d T T' hdst hts
        obtain ⟨hb, hk2⟩ := cond_some hk
        have hb := Nat.eq_of_beq_eq_true hb
        subst hb
        obtain ⟨G', st', w', z, k1, k2, k3⟩ := append_sound hT h (hd d hdst) (hval s) (hval x) o.type hk2
        refine opWp o (z := z) (w' := w') ?_ (hnext G' st' z w' (by rw [hdst]; exact k2) k3)
        have h1 : args = #[s, x] := by apply Array.ext'; rw [ha]
        have h2 : argTypes = #[T, T] := by apply Array.ext'; rw [hts]
        unfold execOp
        simp only [ho, resolve, h1, h2, invoke, builtin, pure_bind, List.map_toArray, List.map_cons, List.map_nil]
        exact run_value2 k1
      · cases hk
    · rename_i s x ha
      split at hk
      · rename_i T ts hts
        obtain ⟨G', st', w', z, k1, k2, k3⟩ := copy_sound (T' := T) hT h hd (hval s) (hval x) o.type hk argTypes (by rw [← Array.getElem?_toList, hts]; rfl)
        refine opWp o (z := z) (w' := w') ?_ (hnext G' st' z w' k2 k3)
        have h1 : args = #[s, x] := by apply Array.ext'; rw [ha]
        unfold execOp
        simp only [ho, resolve, h1, invoke, builtin, pure_bind, List.map_toArray, List.map_cons, List.map_nil]
        exact run_value2 k1
      · cases hk
    · rename_i f
      split at hk
      · rename_i g caps d hcal hdst
        split at hk
        · rename_i S hS
          have hg := hΓ g S hS
          unfold calleeOf at hcal
          split at hcal
          · rename_i g' ns hfv
            simp only [Option.some.injEq, Prod.mk.injEq] at hcal
            obtain ⟨rfl, rfl⟩ := hcal
            have hfn := hval f
            rw [hfv] at hfn
            obtain ⟨cvs, e1, e2⟩ := hfn
            simp only [List.cons.injEq, and_true] at e1
            obtain ⟨c1, c2⟩ := capsR_box (w := w) (p := reg w0 p0 Bs G st.obj) e2
            have hargs : ∀ s, RV w (reg w0 p0 Bs G st.obj) G st.obj ((args.toList.map (val st)).getD s .no) ((args.toList.map a.eval).getD s undef) := by
              intro s
              simp only [List.getD_eq_getElem?_getD, List.getElem?_map]
              cases args.toList[s]? with
              | none => exact trivial
              | some x => exact hval x
            have hcall := callE_sound (vs := args.toList.map a.eval ++ cvs) h hg.con hg.spec (by simp [c1]) (getD_app_AV (by simp) hargs c2) (hd d hdst) hk
            unfold Oper.wp
            have hrun : (execOp a.eval o).run P w = .ok (.enter g' (args.toList.map a.eval ++ cvs).toArray) w := by
              unfold execOp
              simp only [ho, resolve, e1, Deferred.ofValue, invoke, pure_bind]
              rw [hg.run_call]
              congr 2
              apply Array.ext'
              simp
            rw [hrun]
            show Calls P g' _ w _
            refine hcall.mono ?_
            rintro e w' ⟨v, G', st', rfl, k1, k2⟩
            exact hnext G' st' v w' (by rw [hdst]; exact k1) k2
          · cases hcal
        · cases hk
      · cases hk
    · exact hE hk
  | _ => rw [ho] at hk hE; exact hE hk

end
end Go.Vx
