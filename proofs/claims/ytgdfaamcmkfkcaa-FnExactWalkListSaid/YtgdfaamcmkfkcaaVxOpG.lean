/-
  All the operations that turn no object.
-/
import Derived.Test.YtgdfaamcmkfkcaaVxOpF
set_option linter.unusedSimpArgs false
set_option linter.unusedVariables false
set_option linter.unnecessarySimpa false
namespace Go.Vx
section
variable {P : Program} {C : Cfg} {N : Nat} {w0 : World} {p0 Bs : Nat → Prop} {G : Gh} {st : St} {a : Act} {w : World}

theorem run_value {s : Sem Value} {z : Value} (h : s.run P w = .ok z w) : (do pure (Next.value (← s)) : Sem Next).run P w = .ok (.value z) w := by
  simp only [Sem.run_bind, h, Result.andThen_ok, Sem.run_pure]

theorem builtin_len (args : List Operand) (T : TypeId) (x : Operand) (ty : TypeId) (ha : args = [x]) (ts : List TypeId) (hts : ts = [T]) (o : Oper) {c : Call} (ho : o.op = .call c)
    (hc : c.callee = .builtin .len) (h1 : c.args.toList = args) (h2 : c.argTypes.toList = ts) (hty : o.type = ty) :
    execOp a.eval o = (do pure (Next.value (← Builtin.len_ #[T] ty #[a.eval x]))) := by
  have h1' : c.args = #[x] := by apply Array.ext'; rw [h1, ha]
  have h2' : c.argTypes = #[T] := by apply Array.ext'; rw [h2, hts]
  unfold execOp
  simp only [ho, resolve, hc, h1', h2', invoke, builtin, hty, pure_bind, List.map_toArray, List.map_cons, List.map_nil]

theorem builtin_mm {b : Builtin} (hb : b = .min ∨ b = .max) (x y : Operand) (o : Oper) {c : Call} (ho : o.op = .call c)
    (hc : c.callee = .builtin b) (h1 : c.args.toList = [x, y]) :
    execOp a.eval o = (do pure (Next.value (← (match b with | .min => Builtin.min_ c.argTypes o.type #[a.eval x, a.eval y] | _ => Builtin.max_ c.argTypes o.type #[a.eval x, a.eval y])))) := by
  have h1' : c.args = #[x, y] := by apply Array.ext'; rw [h1]
  unfold execOp
  rcases hb with rfl | rfl
  · simp only [ho, resolve, hc, h1', invoke, builtin, pure_bind, List.map_toArray, List.map_cons, List.map_nil]
  · simp only [ho, resolve, hc, h1', invoke, builtin, pure_bind, List.map_toArray, List.map_cons, List.map_nil]

theorem opE_sound (hT : TabOk P C.Θ) (h : Rel N w0 p0 Bs G st a w) (o : Oper) {v : AV} (hv : (opE C st o.op).res v) :
    ∃ z, (execOp a.eval o).run P w = .ok (.value z) w ∧ RV w (reg w0 p0 Bs G st.obj) G st.obj v z := by
  have hval := fun x => val_sound h x
  cases ho : o.op with
  | move x =>
    rw [ho] at hv
    obtain rfl : v = _ := hv
    exact ⟨_, by unfold execOp; simp only [ho]; rfl, hval x⟩
  | assign x =>
    rw [ho] at hv
    obtain rfl : v = _ := hv
    exact ⟨_, by unfold execOp; simp only [ho]; rfl, hval x⟩
  | pick c x y =>
    rw [ho] at hv
    simp only [opE] at hv
    split at hv
    · rename_i t hc
      obtain rfl : v = _ := hv
      have hb := hval c
      rw [hc] at hb
      have hb := bool_of hb
      refine ⟨if t then a.eval x else a.eval y, ?_, ?_⟩
      · unfold execOp; simp only [ho, hb, asBool]; simp only [pure_bind, Sem.run_pure]
      · cases t
        · exact hval y
        · exact hval x
    · exact hv.elim
  | load T x =>
    rw [ho] at hv
    obtain ⟨z, h1, h2⟩ := opLoad_sound hT h (hval x) hv
    exact ⟨z, by unfold execOp; simp only [ho]; exact run_value h1, h2⟩
  | nilCheck x =>
    rw [ho] at hv
    exact okPtr_sound (env := st.env) (hval x) hv o x ho a.eval rfl
  | binOp op T x y ty =>
    rw [ho] at hv
    have go : ∀ {z : Value}, (do eqGuard op T x y (a.eval x) (a.eval y); binOp op T (a.eval x) (a.eval y)).run P w = .ok z w → (execOp a.eval o).run P w = .ok (.value z) w := by
      intro z hz
      unfold execOp
      simp only [ho]
      exact run_value hz
    simp only [opE] at hv
    have hx := hval x
    have hy := hval y
    split at hv
    · rename_i ls hls
      rw [hls] at hx
      obtain ⟨z, h1, h2⟩ := opEqSt_sound hT hx hy hv x y
      exact ⟨z, go h1, h2⟩
    · unfold opBin at hv
      split at hv
      · rename_i k a1 k' b1 e1 e2
        rw [e1] at hx; rw [e2] at hy
        have hx := int_of hx
        have hy := int_of hy
        obtain ⟨hc, hv2⟩ := cond_res hv
        have hc := of_decide_eq_true hc
        subst hc
        obtain ⟨z, h1, h2⟩ := opInt_sound (P := P) (w := w) (p := reg w0 p0 Bs G st.obj) (G := G) (obj := st.obj) hv2 T x y
        exact ⟨z, go (by rw [hx, hy]; exact h1), h2⟩
      · rename_i a1 b1 e1 e2
        rw [e1] at hx; rw [e2] at hy
        have hx := str_of hx
        have hy := str_of hy
        obtain ⟨z, h1, h2⟩ := opStr_sound (P := P) (w := w) (p := reg w0 p0 Bs G st.obj) (G := G) (obj := st.obj) hv T x y
        exact ⟨z, go (by rw [hx, hy]; exact h1), h2⟩
      · rename_i a1 b1 e1 e2
        rw [e1] at hx; rw [e2] at hy
        have hx := bool_of hx
        have hy := bool_of hy
        obtain ⟨hc, hv⟩ := cond_res hv
        obtain ⟨z, h1, h2⟩ := opBool_sound (w := w) (p := reg w0 p0 Bs G st.obj) (G := G) (obj := st.obj) hT hc hv x y
        exact ⟨z, go (by rw [hx, hy]; exact h1), h2⟩
      · exact hv.elim
  | unOp op ty x =>
    rw [ho] at hv
    obtain ⟨z, h1, h2⟩ := opUn_sound (P := P) (hval x) hv
    exact ⟨z, by unfold execOp; simp only [ho]; exact run_value h1, h2⟩
  | convert src dst x =>
    rw [ho] at hv
    obtain ⟨z, h1, h2⟩ := opConv_sound hT h (hval x) hv
    exact ⟨z, by unfold execOp; simp only [ho]; exact run_value h1, h2⟩
  | build T parts =>
    rw [ho] at hv
    obtain ⟨z, h1, h2⟩ := opBuild_sound hT h hv
    exact ⟨z, by unfold execOp; simp only [ho]; exact run_value h1, h2⟩
  | fieldAddr s x f =>
    rw [ho] at hv
    obtain ⟨z, h1, h2⟩ := opField_sound hT h (hval x) hv
    exact ⟨z, by unfold execOp; simp only [ho]; exact run_value h1, h2⟩
  | indexAddr T x i =>
    rw [ho] at hv
    obtain ⟨z, h1, h2⟩ := opIndexAddr_sound hT h (hval x) (hval i) hv
    exact ⟨z, by unfold execOp; simp only [ho]; exact run_value h1, h2⟩
  | index T x i =>
    rw [ho] at hv
    obtain ⟨z, h1, h2⟩ := opIndex_sound hT (hval x) (hval i) hv
    exact ⟨z, by unfold execOp; simp only [ho]; exact run_value h1, h2⟩
  | slice T x lo hi mx =>
    rw [ho] at hv
    cases mx with
    | some m => exact hv.elim
    | none =>
      obtain ⟨z, h1, h2⟩ := opSlice_sound hT h (hval x) hv
      exact ⟨z, by unfold execOp; simp only [ho]; exact run_value h1, h2⟩
  | extract x i =>
    rw [ho] at hv
    obtain ⟨z, h1, h2⟩ := opExtract_sound (P := P) (hval x) hv
    exact ⟨z, by unfold execOp; simp only [ho]; exact run_value h1, h2⟩
  | makeFunc fn first caps =>
    rw [ho] at hv
    cases fn with
    | func f =>
      simp only [opE] at hv
      split at hv
      · rename_i ns h1 h2
        obtain rfl : v = _ := hv
        have h1' : first = #[] := by apply Array.ext'; rw [h1]
        refine ⟨.func (.func f) #[] (caps.map a.eval), ?_, ⟨caps.toList.map a.eval, ?_, capsOf_sound h h2⟩⟩
        · unfold execOp
          simp only [ho, h1', List.map_toArray, List.map_nil]
          exact run_value rfl
        · congr 2
          apply Array.ext'
          simp
      · exact hv.elim
    | _ => exact hv.elim
  | call c =>
    rw [ho] at hv
    obtain ⟨callee, args, argTypes⟩ := c
    cases callee with
    | value f => exact hv.elim
    | invoke r m => exact hv.elim
    | builtin b =>
      cases b with
      | len =>
        simp only [opE] at hv
        split at hv
        · rename_i x T h1 h2
          obtain ⟨z, k1, k2⟩ := opLen_sound (env := st.env) hT o.type (hval x) hv
          exact ⟨z, by rw [builtin_len [x] T x o.type rfl [T] rfl o ho rfl h1 h2 rfl]; exact run_value k1, k2⟩
        · exact hv.elim
      | min =>
        simp only [opE] at hv
        split at hv
        · rename_i x y h1
          obtain ⟨z, k1, k2⟩ := opMinMax_sound (P := P) (.inl rfl) argTypes o.type (hval x) (hval y) hv
          exact ⟨z, by rw [builtin_mm (.inl rfl) x y o ho rfl h1]; exact run_value k1, k2⟩
        · exact hv.elim
      | max =>
        simp only [opE] at hv
        split at hv
        · rename_i x y h1
          obtain ⟨z, k1, k2⟩ := opMinMax_sound (P := P) (.inr rfl) argTypes o.type (hval x) (hval y) hv
          exact ⟨z, by rw [builtin_mm (.inr rfl) x y o ho rfl h1]; exact run_value k1, k2⟩
        · exact hv.elim
      | _ => exact hv.elim
  | _ => rw [ho] at hv; exact hv.elim

end
end Go.Vx
