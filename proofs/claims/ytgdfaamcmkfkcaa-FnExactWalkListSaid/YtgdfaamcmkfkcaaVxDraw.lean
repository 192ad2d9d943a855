/-
  Regions that draw their order: what an operation looks at and what it leaves alone.
-/
import Derived.Test.YtgdfaamcmkfkcaaVxFun
set_option linter.unusedSimpArgs false
set_option linter.unusedVariables false
set_option linter.unnecessarySimpa false
namespace Go.Vx
section
variable {C : Cfg} {R : Type}

theorem cond_bind {b : Bool} {x : Option St} {y : Option R} {k : St → Option R} (h : y = x.bind k) : cond b y none = (cond b x none).bind k := by
  cases b
  · rfl
  · exact h

theorem opStore_bind (st : St) (T : Nat) (p v : AV) (k : St → Option R) : opStore C st T p v k = (opStore C st T p v some).bind k := by
  unfold opStore
  cases C.Θ T with
  | none => rfl
  | some ti =>
    cases v.leaves with
    | none => rfl
    | some ls =>
      simp only
      apply cond_bind
      cases p with
      | sc l =>
        cases l with
        | box n off =>
          simp only
          cases st.obj n with
          | box old => simp only; cases spliceC old off ls <;> rfl
          | _ => rfl
        | row n i off =>
          simp only
          cases st.obj n with
          | row tid e xs =>
            simp only
            apply cond_bind
            cases idx xs i with
            | none => rfl
            | some x =>
              simp only [Option.bind_some]
              cases spliceC (leavesOf e x) off (ls.map (reify st.obj)) with
              | none => rfl
              | some nl =>
                simp only
                cases ofLeaves e nl with
                | none => rfl
                | some q => obtain ⟨y, r⟩ := q; cases r <;> rfl
          | _ => rfl
        | belem n off sz i =>
          simp only
          cases st.obj n with
          | box old =>
            cases shown ls with
            | cons _ _ => rfl
            | nil =>
              simp only
              cases takeC old off with
              | none => rfl
              | some q =>
                obtain ⟨pre, post⟩ := q
                cases post with
                | nil => rfl
                | cons l post =>
                  cases l with
                  | arr m e xs =>
                    simp only
                    apply cond_bind
                    cases ofLeaves e ls with
                    | none => rfl
                    | some q => obtain ⟨y, r⟩ := q; cases r <;> rfl
                  | _ => rfl
          | _ => cases shown ls <;> rfl
        | _ => rfl
      | _ => rfl

theorem opBox_bind (st : St) (d sz : Nat) (ls : List Leaf) (k : St → Option R) : opBox st d sz ls k = (opBox st d sz ls some).bind k := by
  unfold opBox
  apply cond_bind
  cases st.obj (d * 16) <;> rfl

theorem opNewRow_bind (st : St) (obj : Nat → AObj) (d tid : Nat) (e : Ty) (xs : List e.den) (k : St → Option R) : opNewRow st obj d tid e xs k = (opNewRow st obj d tid e xs some).bind k := by
  unfold opNewRow
  cases st.obj (d * 16) <;> rfl

theorem opAppend_bind (st : St) (T d : Nat) (s x : AV) (k : St → Option R) : opAppend C st T d s x k = (opAppend C st T d s x some).bind k := by
  unfold opAppend
  cases elemOf C T with
  | none => rfl
  | some q =>
    obtain ⟨tid, e⟩ := q
    simp only
    cases dstOf st tid e s with
    | none => cases srcOf st e x <;> rfl
    | some q =>
      obtain ⟨xs, n⟩ := q
      cases srcOf st e x with
      | none => rfl
      | some ys =>
        simp only
        apply cond_bind
        exact opNewRow_bind ..

theorem opCopy_bind (st : St) (T : Nat) (d : Option Nat) (s x : AV) (k : St → Option R) : opCopy C st T d s x k = (opCopy C st T d s x some).bind k := by
  unfold opCopy
  cases elemOf C T with
  | none => cases s <;> rfl
  | some q =>
    obtain ⟨tid, e⟩ := q
    cases s with
    | sc l =>
      cases l with
      | hdr n =>
        simp only
        cases dstOf st tid e (.sc (.hdr n)) with
        | none => cases srcOf st e x <;> rfl
        | some q =>
          obtain ⟨xs, m⟩ := q
          cases srcOf st e x with
          | none => rfl
          | some ys =>
            simp only
            apply cond_bind
            rfl
      | _ => rfl
    | _ => rfl

theorem callE_bind (S : CSpec) (st : St) (args : List AV) (d : Nat) (k : St → Option R) : callE S st args d k = (callE S st args d some).bind k := by
  unfold callE
  cases save S.ins (fun s => args.getD s .no) ⟨st.obj, [], []⟩ with
  | none => rfl
  | some q =>
    obtain ⟨x, tk⟩ := q
    simp only
    apply cond_bind
    cases S.call x with
    | none => rfl
    | some y =>
      simp only [Option.bind_some]
      split
      · rfl
      · rfl

theorem go_bind (e : Eff) (st : St) (d : Option Nat) (k : St → Option R) : e.go (fun v => k (st.put d v)) = (e.go fun v => some (st.put d v)).bind k := by
  cases e with
  | fail => rfl
  | val v => rfl
  | opt m f => cases m <;> rfl
  | guard b v => cases b <;> rfl
  | ite b x y => cases b <;> rfl

theorem stepOp_bind (st : St) (d : Option Nat) (op : Op) (k : St → Option R) : stepOp C st d op k = (stepOp C st d op some).bind k := by
  cases op with
  | store T p v =>
    cases d with
    | none => exact opStore_bind ..
    | some d => rfl
  | alloc T =>
    simp only [stepOp]
    cases d with
    | none => rfl
    | some d =>
      cases C.Θ T with
      | none => rfl
      | some ti => exact opBox_bind ..
  | box T x =>
    simp only [stepOp]
    cases d with
    | none => rfl
    | some d =>
      cases C.Θ T with
      | none => rfl
      | some ti =>
        cases (val st x).leaves with
        | none => rfl
        | some ls => exact opBox_bind ..
  | buildSlice T n parts =>
    simp only [stepOp]
    cases d with
    | none => rfl
    | some d =>
      cases elemOf C T with
      | none => rfl
      | some q =>
        obtain ⟨tid, e⟩ := q
        simp only
        apply cond_bind
        cases fillL st e parts.toList (List.replicate n e.zero) with
        | none => rfl
        | some xs => exact opNewRow_bind ..
  | makeSlice T l c =>
    simp only [stepOp]
    cases d with
    | none => rfl
    | some d =>
      cases elemOf C T with
      | none => rfl
      | some q =>
        obtain ⟨tid, e⟩ := q
        cases val st l with
        | sc z =>
          cases z with
          | int kk n =>
            cases kk with
            | i64 =>
              simp only
              apply cond_bind
              apply cond_bind
              exact opNewRow_bind ..
            | _ => rfl
          | _ => rfl
        | _ => rfl
  | call c =>
    obtain ⟨callee, args, ts⟩ := c
    simp only [stepOp]
    split
    · split
      · apply cond_bind
        exact opAppend_bind ..
      · rfl
    · split
      · exact opCopy_bind ..
      · rfl
    · split
      · split
        · exact callE_bind ..
        · rfl
      · rfl
    · exact go_bind ..
  | _ => simp only [stepOp]; exact go_bind ..

theorem ghost_bind (st : St) (g : Gst) (k : St → Option R) : ghost st g k = (ghost st g some).bind k := by
  cases g with
  | freeze n => simp only [ghost]; split <;> rfl
  | part n d =>
    simp only [ghost]
    split
    · split <;> rfl
    · rfl
  | full n =>
    simp only [ghost]
    split
    · exact cond_bind rfl
    · rfl
  | close n =>
    simp only [ghost]
    split
    · rename_i tid d xs i off m _
      cases idx xs i with
      | none => rfl
      | some x =>
        simp only [Option.bind_some]
        split
        · split
          · exact cond_bind rfl
          · rfl
        · rfl
    · rfl

theorem ghosts_bind : ∀ (gs : List Gst) (st : St) (k : St → Option R), ghosts gs st k = (ghosts gs st some).bind k
  | [], st, k => rfl
  | g :: gs, st, k => by
    unfold ghosts
    rw [ghost_bind, ghost_bind st g (fun st' => ghosts gs st' some), Option.bind_assoc]
    congr 1
    funext st'
    exact ghosts_bind gs st' k

theorem stepSt_bind (st : St) (T : Nat) (p v : AV) (k : St → Option R) {other : Option R} {other' : Option St} (ho : other = other'.bind k) : stepSt C st T p v k other = (stepSt C st T p v some other').bind k := by
  unfold stepSt
  split
  · split
    · split
      · apply cond_bind
        unfold storeD
        rename_i n i off _ tid d kk xs hole _ _ _ ti ls _ _
        cases idx xs i with
        | none => rfl
        | some x =>
          simp only [Option.bind_some]
          split
          · apply cond_bind
            split
            · rfl
            · apply cond_bind; exact cond_bind rfl
            · apply cond_bind; exact cond_bind rfl
            · rfl
          · rfl
      · rfl
    · exact ho
  · exact ho

theorem loadOpn_bind (st : St) (T dst : Nat) (p : AV) (k : St → Option R) : loadOpn C st T dst p k = (loadOpn C st T dst p some).bind k := by
  unfold loadOpn
  split
  · split
    · apply cond_bind
      rename_i n i off _ _ tid d xs _
      cases idx xs i with
      | none => rfl
      | some x =>
        simp only [Option.bind_some]
        split
        · split <;> rfl
        · rfl
    · rfl
  · rfl

theorem loadPeek_bind (st : St) (T dst : Nat) (p : AV) (k : St → Option R) : loadPeek C st T dst p k = (loadPeek C st T dst p some).bind k := by
  unfold loadPeek
  split
  · split
    · apply cond_bind
      rename_i n i off _ _ tid d z xs _
      cases idx xs i with
      | none => rfl
      | some x =>
        simp only [Option.bind_some]
        apply cond_bind
        split <;> rfl
    · rfl
  · rfl

theorem makeD_bind (st : St) (d : DTy) (dst : Nat) (op : Op) (k : St → Option R) : makeD C st d dst op k = (makeD C st d dst op some).bind k := by
  unfold makeD
  split
  · split
    · apply cond_bind
      apply cond_bind
      split <;> rfl
    · rfl
  · split
    · split
      · split
        · apply cond_bind
          split <;> rfl
        · rfl
      · rfl
    · rfl
  · split
    · apply cond_bind
      split
      · apply cond_bind
        split
        · apply cond_bind
          split <;> rfl
        · split
          · apply cond_bind
            apply cond_bind
            split <;> rfl
          · rfl
        · rfl
      · rfl
    · rfl
  · rfl

theorem stepS_bind (sp : Sp) (st : St) (d : Nat) (op : Op) (k : St → Option R) : stepS C sp st d op k = (stepS C sp st d op some).bind k := by
  cases sp with
  | plain => exact stepOp_bind st (some d) op k
  | deep dd => exact makeD_bind ..
  | opn =>
    simp only [stepS]
    split
    · exact loadOpn_bind ..
    · rfl
  | peek =>
    simp only [stepS]
    split
    · exact loadPeek_bind ..
    · rfl

theorem stepM_bind (st : St) (d : Option Nat) (op : Op) (k : St → Option R) : stepM C st d op k = (stepM C st d op some).bind k := by
  unfold stepM
  split
  · split
    · exact stepSt_bind _ _ _ _ _ (stepOp_bind ..)
    · exact stepOp_bind ..
  · split
    · exact stepOp_bind ..
    · rename_i m _
      rw [ghosts_bind, ghosts_bind m.pre st (fun st1 => stepS C m.sp st1 _ op fun st2 => ghosts m.post st2 some), Option.bind_assoc]
      congr 1
      funext st1
      rw [stepS_bind, stepS_bind m.sp st1 _ op (fun st2 => ghosts m.post st2 some), Option.bind_assoc]
      congr 1
      funext st2
      exact ghosts_bind m.post st2 k

theorem runOne_bind (dr : Bool) (all : List Oper) (o : Oper) (st : St) (k : St → Option R) : runOne C dr all o st k = (runOne C dr all o st some).bind k := by
  unfold runOne
  apply cond_bind
  cases o.guard with
  | none => exact stepM_bind ..
  | some q =>
    obtain ⟨j, want⟩ := q
    simp only
    cases (all[j]?).bind (·.dst) with
    | none => rfl
    | some dj =>
      simp only
      cases st.env dj with
      | un => rfl
      | sc l =>
        cases l with
        | bool b =>
          cases b <;> cases want
          · exact stepM_bind ..
          · rfl
          · rfl
          · exact stepM_bind ..
        | _ => rfl
      | _ => rfl

end
end Go.Vx
