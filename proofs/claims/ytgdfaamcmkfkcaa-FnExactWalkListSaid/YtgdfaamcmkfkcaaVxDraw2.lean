/-
  Regions that draw their order: what an operation looks at, what it leaves alone, which may change places.
-/
import Derived.Test.YtgdfaamcmkfkcaaVxDraw
set_option linter.unusedSimpArgs false
set_option linter.unusedVariables false
set_option linter.unnecessarySimpa false
namespace Go.Vx

def opnds : Op → List Operand
  | .move x | .assign x | .nilCheck x => [x]
  | .pick a b c => [a, b, c]
  | .load _ p => [p]
  | .binOp _ _ x y _ => [x, y]
  | .unOp _ _ x => [x]
  | .convert _ _ x => [x]
  | .build _ parts => parts.toList.map (·.2)
  | .buildSlice _ _ parts => parts.toList.map (·.2)
  | .fieldAddr _ x _ => [x]
  | .indexAddr _ x i | .index _ x i => [x, i]
  | .slice _ x lo hi _ => x :: (lo.toList ++ hi.toList)
  | .extract x _ => [x]
  | .makeFunc _ _ caps => caps.toList
  | .box _ x => [x]
  | .makeSlice _ l c => [l, c]
  | .store _ p v => [p, v]
  | .call c => match c.callee with
    | .value f => f :: c.args.toList
    | _ => c.args.toList
  | _ => []

def avN : AV → List Nat
  | .sc (.box n _) => [n]
  | .sc (.belem n _ _ _) => [n]
  | _ => []

section
variable {C : Cfg} {st st' : St}

theorem opLoad_local {T : Nat} {x : AV} (hr : rowish x = false) (hb : ∀ n ∈ avN x, ∀ ls, st.obj n = .box ls → st'.obj n = .box ls) {v : AV} (h : (opLoad C st T x).res v) : (opLoad C st' T x).res v := by
  unfold opLoad at h ⊢
  generalize C.Θ T = o at h ⊢
  cases o with
  | none => exact h.elim
  | some ti =>
    cases x with
    | sc l =>
      cases l with
      | box n off =>
        simp only at h ⊢
        cases ho : st.obj n with
        | box ls => rw [ho] at h; rw [hb n (by simp [avN]) ls ho]; exact h
        | _ => rw [ho] at h; exact h.elim
      | belem n off sz i =>
        simp only at h ⊢
        cases ho : st.obj n with
        | box ls => rw [ho] at h; rw [hb n (by simp [avN]) ls ho]; exact h
        | _ => rw [ho] at h; exact h.elim
      | row n i off => cases hr
      | _ => exact h
    | _ => exact h

theorem opField_local {s f : Nat} {x : AV} (hr : rowish x = false) (hb : ∀ n ∈ avN x, ∀ ls, st.obj n = .box ls → st'.obj n = .box ls) {v : AV} (h : (opField C st s f x).res v) : (opField C st' s f x).res v := by
  unfold opField at h ⊢
  generalize C.Θ s = o at h ⊢
  cases o with
  | none => exact h
  | some ti =>
    simp only at h ⊢
    generalize ti.flds[f]? = o at h ⊢
    cases o with
    | none => exact h
    | some q =>
      cases x with
      | sc l =>
        cases l with
        | box n off =>
          simp only at h ⊢
          cases ho : st.obj n with
          | box ls => rw [ho] at h; rw [hb n (by simp [avN]) ls ho]; exact h
          | _ => rw [ho] at h; exact h.elim
        | row n i off => cases hr
        | _ => exact h
      | _ => exact h

theorem opIndexAddr_local {T : Nat} {x i : AV} (hr : rowish x = false) (hb : ∀ n ∈ avN x, ∀ ls, st.obj n = .box ls → st'.obj n = .box ls) {v : AV} (h : (opIndexAddr C st T x i).res v) : (opIndexAddr C st' T x i).res v := by
  unfold opIndexAddr at h ⊢
  cases i with
  | sc li =>
    cases li with
    | int k j =>
      simp only at h ⊢
      cases x with
      | sc l =>
        cases l with
        | box n off =>
          simp only at h ⊢
          cases ho : st.obj n with
          | box ls => rw [ho] at h; rw [hb n (by simp [avN]) ls ho]; exact h
          | _ => rw [ho] at h; exact h.elim
        | hdr n => cases hr
        | ro t y => cases t <;> exact h
        | _ => exact h
      | _ => exact h
    | _ => exact h
  | _ => exact h

theorem opSlice_local {T : Nat} {x : AV} {lo hi : Option AV} (hr : rowish x = false) : opSlice C st' T x lo hi = opSlice C st T x lo hi := by
  unfold opSlice
  cases x with
  | sc l => cases l <;> first | rfl | cases hr
  | _ => rfl

theorem opConv_local {s d : Nat} {x : AV} (hr : rowish x = false) : opConv C st' s d x = opConv C st s d x := by
  unfold opConv
  cases C.Θ s with
  | none => rfl
  | some tj =>
    cases C.Θ d with
    | none => rfl
    | some ti =>
      simp only
      have fin : ∀ a b : Ty, ∀ x : AV, rowish x = false → (match a, b, x with
        | .int _, .int k, .sc (.int _ n) => Eff.val (.sc (.int k (k.wrap n)))
        | .str, .str, .sc (.str s) => .val (.sc (.str s))
        | .sl (.int .u8), .str, .sc (.hdr n) => match st'.obj n with
          | .row _ (.int .u8) xs => .val (.sc (.str (bytesOf xs)))
          | _ => .fail
        | _, _, _ => .fail) = (match a, b, x with
        | .int _, .int k, .sc (.int _ n) => Eff.val (.sc (.int k (k.wrap n)))
        | .str, .str, .sc (.str s) => .val (.sc (.str s))
        | .sl (.int .u8), .str, .sc (.hdr n) => match st.obj n with
          | .row _ (.int .u8) xs => .val (.sc (.str (bytesOf xs)))
          | _ => .fail
        | _, _, _ => .fail) := by
        intro a b x hr
        split
        · rfl
        · rfl
        · cases hr
        · rfl
      exact fin tj.ty ti.ty x hr

theorem opLen_local {T : Nat} {x : AV} (hr : rowish x = false) : opLen C st' T x = opLen C st T x := by
  unfold opLen
  cases x with
  | sc l => cases l <;> first | rfl | cases hr
  | _ => rfl

theorem okPtr_local {x : AV} (hr : rowish x = false) (hb : ∀ n ∈ avN x, ∀ ls, st.obj n = .box ls → st'.obj n = .box ls) {v : AV} (h : (okPtr st x).res v) : (okPtr st' x).res v := by
  unfold okPtr at h ⊢
  cases x with
  | sc l =>
    cases l with
    | box n off =>
      simp only at h ⊢
      cases ho : st.obj n with
      | box ls => rw [ho] at h; rw [hb n (by simp [avN]) ls ho]; exact h
      | _ => rw [ho] at h; exact h.elim
    | _ => exact h
  | _ => exact h

theorem fillSt_local {T : Nat} : ∀ (parts : List (Nat × Operand)) (ls : List Leaf), (∀ x ∈ parts.map (·.2), val st' x = val st x) → fillSt C T st' parts ls = fillSt C T st parts ls
  | [], _, _ => rfl
  | (i, x) :: r, ls, h => by
    unfold fillSt
    rw [h x (by simp)]
    have ih := fun ls' => fillSt_local (T := T) r ls' fun y hy => h y (by simp only [List.map_cons, List.mem_cons]; exact .inr hy)
    simp only [ih]

theorem capsOf_local : ∀ (xs : List Operand), (∀ x ∈ xs, val st' x = val st x) → capsOf st' xs = capsOf st xs
  | [], _ => rfl
  | x :: r, h => by
    unfold capsOf
    rw [h x (List.mem_cons_self ..), capsOf_local r fun y hy => h y (List.mem_cons_of_mem _ hy)]

theorem noRowish_mem : ∀ {xs : List Operand}, noRowish st xs = true → ∀ x ∈ xs, rowish (val st x) = false
  | [], _, _, hx => by cases hx
  | y :: r, h, x, hx => by
    simp only [noRowish, Bool.and_eq_true, Bool.not_eq_true'] at h
    rcases List.mem_cons.1 hx with rfl | hx
    · exact h.1
    · exact noRowish_mem h.2 x hx

theorem not_true {b : Bool} (h : (!b) = true) : b = false := by cases b <;> simp_all

theorem opE_local {op : Op} (hv : ∀ x ∈ opnds op, val st' x = val st x) (hb : ∀ x ∈ opnds op, ∀ n ∈ avN (val st x), ∀ ls, st.obj n = .box ls → st'.obj n = .box ls)
    (hok : okD C st op = true) {v : AV} (h : (opE C st op).res v) : (opE C st' op).res v := by
  cases op with
  | move x => simp only [opE] at h ⊢; rw [hv x (by simp [opnds])]; exact h
  | assign x => simp only [opE] at h ⊢; rw [hv x (by simp [opnds])]; exact h
  | pick c a b => simp only [opE] at h ⊢; rw [hv c (by simp [opnds]), hv a (by simp [opnds]), hv b (by simp [opnds])]; exact h
  | load T p => simp only [opE] at h ⊢; rw [hv p (by simp [opnds])]; exact opLoad_local (not_true hok) (hb p (by simp [opnds])) h
  | nilCheck x => simp only [opE] at h ⊢; rw [hv x (by simp [opnds])]; exact okPtr_local (not_true hok) (hb x (by simp [opnds])) h
  | binOp op T x y k => simp only [opE] at h ⊢; rw [hv x (by simp [opnds]), hv y (by simp [opnds])]; exact h
  | unOp op k x => simp only [opE] at h ⊢; rw [hv x (by simp [opnds])]; exact h
  | convert s d x => simp only [opE] at h ⊢; rw [hv x (by simp [opnds]), opConv_local (not_true hok)]; exact h
  | build T parts =>
    have hfs : ∀ ls, fillSt C T st' parts.toList ls = fillSt C T st parts.toList ls := fun ls => fillSt_local parts.toList ls (fun x hx => hv x (by simpa [opnds] using hx))
    have hb' : opBuild C T st' parts.toList = opBuild C T st parts.toList := by
      unfold opBuild
      cases C.Θ T with
      | none => rfl
      | some ti =>
        simp only
        generalize parts.toList = ps at hfs ⊢
        cases ti.ty with
        | pair a b => cases ps <;> (simp only; rw [hfs])
        | _ => cases ps <;> rfl
    simp only [opE] at h ⊢
    rw [hb']; exact h
  | fieldAddr s x f => simp only [opE] at h ⊢; rw [hv x (by simp [opnds])]; exact opField_local (not_true hok) (hb x (by simp [opnds])) h
  | indexAddr T x i => simp only [opE] at h ⊢; rw [hv x (by simp [opnds]), hv i (by simp [opnds])]; exact opIndexAddr_local (not_true hok) (hb x (by simp [opnds])) h
  | index T x i => simp only [opE] at h ⊢; rw [hv x (by simp [opnds]), hv i (by simp [opnds])]; exact h
  | slice T x lo hi mx =>
    cases mx with
    | some _ => exact h
    | none =>
      simp only [opE] at h ⊢
      have h1 : lo.map (val st') = lo.map (val st) := by cases lo with
        | none => rfl
        | some y => simp only [Option.map_some]; rw [hv y (by simp [opnds])]
      have h2 : hi.map (val st') = hi.map (val st) := by cases hi with
        | none => rfl
        | some y => simp only [Option.map_some]; rw [hv y (by simp [opnds])]
      rw [hv x (by simp [opnds]), h1, h2, opSlice_local (not_true hok)]; exact h
  | extract x i => simp only [opE] at h ⊢; rw [hv x (by simp [opnds])]; exact h
  | makeFunc fn first caps =>
    cases fn with
    | func f =>
      simp only [opE] at h ⊢
      rw [capsOf_local caps.toList (fun x hx => hv x hx)]; exact h
    | _ => exact h
  | call c =>
    obtain ⟨callee, args, ts⟩ := c
    cases callee with
    | builtin b =>
      cases b with
      | len =>
        have hv : ∀ x ∈ args.toList, val st' x = val st x := hv
        have hok : noRowish st args.toList = true := hok
        simp only [opE] at h ⊢
        split at h
        · rename_i x T h1 h2
          rw [hv x (by rw [h1]; simp), opLen_local (noRowish_mem hok x (by rw [h1]; simp))]; exact h
        · exact h.elim
      | min =>
        have hv : ∀ x ∈ args.toList, val st' x = val st x := hv
        simp only [opE] at h ⊢
        split at h
        · rename_i x y h1
          rw [hv x (by rw [h1]; simp), hv y (by rw [h1]; simp)]; exact h
        · exact h.elim
      | max =>
        have hv : ∀ x ∈ args.toList, val st' x = val st x := hv
        simp only [opE] at h ⊢
        split at h
        · rename_i x y h1
          rw [hv x (by rw [h1]; simp), hv y (by rw [h1]; simp)]; exact h
        · exact h.elim
      | _ => exact h
    | _ => exact h
  | _ => exact h

theorem opE_same {op : Op} (hv : ∀ x ∈ opnds op, val st' x = val st x) (ho : st'.obj = st.obj) : opE C st' op = opE C st op := by
  have e1 : ∀ T x, opLoad C st' T x = opLoad C st T x := fun T x => by unfold opLoad; rw [ho]
  have e2 : ∀ x, okPtr st' x = okPtr st x := fun x => by unfold okPtr; rw [ho]
  have e3 : ∀ s d x, opConv C st' s d x = opConv C st s d x := fun s d x => by unfold opConv; rw [ho]
  have e4 : ∀ s f x, opField C st' s f x = opField C st s f x := fun s f x => by unfold opField; rw [ho]
  have e5 : ∀ T x i, opIndexAddr C st' T x i = opIndexAddr C st T x i := fun T x i => by unfold opIndexAddr; rw [ho]
  have e6 : ∀ T x lo hi, opSlice C st' T x lo hi = opSlice C st T x lo hi := fun T x lo hi => by unfold opSlice; rw [ho]
  have e7 : ∀ T x, opLen C st' T x = opLen C st T x := fun T x => by unfold opLen; rw [ho]
  cases op with
  | move x => simp only [opE]; rw [hv x (by simp [opnds])]
  | assign x => simp only [opE]; rw [hv x (by simp [opnds])]
  | pick c a b => simp only [opE]; rw [hv c (by simp [opnds]), hv a (by simp [opnds]), hv b (by simp [opnds])]
  | load T p => simp only [opE]; rw [hv p (by simp [opnds]), e1]
  | nilCheck x => simp only [opE]; rw [hv x (by simp [opnds]), e2]
  | binOp op T x y k => simp only [opE]; rw [hv x (by simp [opnds]), hv y (by simp [opnds])]
  | unOp op k x => simp only [opE]; rw [hv x (by simp [opnds])]
  | convert s d x => simp only [opE]; rw [hv x (by simp [opnds]), e3]
  | build T parts =>
    have hfs : ∀ ls, fillSt C T st' parts.toList ls = fillSt C T st parts.toList ls := fun ls => fillSt_local parts.toList ls (fun x hx => hv x (by simpa [opnds] using hx))
    simp only [opE]
    unfold opBuild
    cases C.Θ T with
    | none => rfl
    | some ti =>
      simp only
      generalize parts.toList = ps at hfs ⊢
      cases ti.ty with
      | pair a b => cases ps <;> (simp only; rw [hfs])
      | _ => cases ps <;> rfl
  | fieldAddr s x f => simp only [opE]; rw [hv x (by simp [opnds]), e4]
  | indexAddr T x i => simp only [opE]; rw [hv x (by simp [opnds]), hv i (by simp [opnds]), e5]
  | index T x i => simp only [opE]; rw [hv x (by simp [opnds]), hv i (by simp [opnds])]
  | slice T x lo hi mx =>
    cases mx with
    | some _ => rfl
    | none =>
      simp only [opE]
      have h1 : lo.map (val st') = lo.map (val st) := by cases lo with
        | none => rfl
        | some y => simp only [Option.map_some]; rw [hv y (by simp [opnds])]
      have h2 : hi.map (val st') = hi.map (val st) := by cases hi with
        | none => rfl
        | some y => simp only [Option.map_some]; rw [hv y (by simp [opnds])]
      rw [hv x (by simp [opnds]), h1, h2, e6]
  | extract x i => simp only [opE]; rw [hv x (by simp [opnds])]
  | makeFunc fn first caps =>
    cases fn with
    | func f =>
      simp only [opE]
      rw [capsOf_local caps.toList (fun x hx => hv x hx)]
    | _ => rfl
  | call c =>
    obtain ⟨callee, args, ts⟩ := c
    cases callee with
    | builtin b =>
      have hu : ∀ x ∈ args.toList, val st' x = val st x := hv
      cases b with
      | len =>
        simp only [opE]
        generalize args.toList = l at hu
        match l, ts.toList, hu with
        | [x], [T], hu => simp only; rw [hu x (List.mem_cons_self ..), e7]
        | [], _, _ => rfl
        | [_], [], _ => rfl
        | [_], _ :: _ :: _, _ => rfl
        | _ :: _ :: _, _, _ => rfl
      | min =>
        simp only [opE]
        generalize args.toList = l at hu
        match l, hu with
        | [x, y], hu => simp only; rw [hu x (List.mem_cons_self ..), hu y (List.mem_cons_of_mem _ (List.mem_cons_self ..))]
        | [], _ => rfl
        | [_], _ => rfl
        | _ :: _ :: _ :: _, _ => rfl
      | max =>
        simp only [opE]
        generalize args.toList = l at hu
        match l, hu with
        | [x, y], hu => simp only; rw [hu x (List.mem_cons_self ..), hu y (List.mem_cons_of_mem _ (List.mem_cons_self ..))]
        | [], _ => rfl
        | [_], _ => rfl
        | _ :: _ :: _ :: _, _ => rfl
      | _ => rfl
    | _ => rfl
  | _ => rfl

theorem go_of_res {e : Eff} {v : AV} (h : e.res v) {R : Type} (k : AV → Option R) : e.go k = k v := by
  cases e with
  | fail => exact h.elim
  | val x => obtain rfl : v = x := h; rfl
  | opt m f => obtain ⟨y, rfl, rfl⟩ := h; rfl
  | guard b x => obtain ⟨rfl, rfl⟩ := h; rfl
  | ite b x y => obtain rfl : v = _ := h; cases b <;> rfl

theorem stepOp_kind0 {op : Op} (hk : kindO op = 0) (st : St) (d : Option Nat) {R : Type} (k : St → Option R) : stepOp C st d op k = (opE C st op).go fun v => k (st.put d v) := by
  cases op with
  | store _ _ _ => cases hk
  | alloc _ => cases hk
  | box _ _ => cases hk
  | buildSlice _ _ _ => cases hk
  | makeSlice _ _ _ => cases hk
  | call c =>
    obtain ⟨callee, args, ts⟩ := c
    cases callee with
    | builtin b => cases b <;> first | (cases hk; done) | (simp only [stepOp]; done) | (simp only [stepOp]; split <;> first | rfl | simp_all)
    | value f => cases hk
    | invoke r m => simp only [stepOp]
  | _ => simp only [stepOp]

theorem put_comm (st : St) {a b : Nat} (h : a ≠ b) (x y : AV) : (st.put (some a) x).put (some b) y = (st.put (some b) y).put (some a) x := by
  simp only [St.put]
  congr 1
  funext i
  cases h1 : Nat.beq i a <;> cases h2 : Nat.beq i b <;> try rfl
  exact absurd ((Nat.eq_of_beq_eq_true h1).symm.trans (Nat.eq_of_beq_eq_true h2)) h

theorem val_put {x : Operand} {d : Nat} (h : x ≠ .tmp d) (st : St) (v : AV) : val (st.put (some d) v) x = val st x := by
  cases x with
  | tmp t =>
    show (st.put (some d) v).env t = st.env t
    rw [env_put, if_neg (fun e => h (by rw [e]))]
  | _ => rfl

theorem fillL_put {d : Nat} (v : AV) {e : Ty} : ∀ (parts : List (Nat × Operand)) (xs : List e.den), (∀ x ∈ parts.map (·.2), x ≠ .tmp d) → fillL (st.put (some d) v) e parts xs = fillL st e parts xs
  | [], _, _ => rfl
  | (i, x) :: r, xs, h => by
    unfold fillL
    rw [val_put (h x (by simp)) st v]
    have ih := fun ys => fillL_put v (e := e) r ys fun y hy => h y (by simp only [List.map_cons, List.mem_cons]; exact .inr hy)
    simp only [ih]
    rfl

theorem shownAll_put {d : Nat} (v : AV) : ∀ (parts : List (Nat × Operand)), (∀ x ∈ parts.map (·.2), x ≠ .tmp d) → shownAll (st.put (some d) v) parts = shownAll st parts
  | [], _ => rfl
  | (i, x) :: r, h => by
    unfold shownAll
    rw [val_put (h x (by simp)) st v, shownAll_put v r fun y hy => h y (by simp only [List.map_cons, List.mem_cons]; exact .inr hy)]

theorem opBox_put {d : Nat} (v : AV) (d' sz : Nat) (ls : List Leaf) (hd : d ≠ d') : opBox (st.put (some d) v) d' sz ls some = (opBox st d' sz ls some).map (·.put (some d) v) := by
  unfold opBox
  cases Nat.beq (sizes ls) sz with
  | false => rfl
  | true =>
    simp only [cond_true]
    have : (st.put (some d) v).obj = st.obj := rfl
    rw [this]
    cases st.obj (d' * 16) with
    | none =>
      simp only [Option.map_some]
      rw [← put_comm _ hd.symm.symm]
      rfl
    | _ => rfl

theorem opNewRow_put {d : Nat} (v : AV) (obj : Nat → AObj) (d' tid : Nat) (e : Ty) (xs : List e.den) (hd : d ≠ d') : opNewRow (st.put (some d) v) obj d' tid e xs some = (opNewRow st obj d' tid e xs some).map (·.put (some d) v) := by
  unfold opNewRow
  have : (st.put (some d) v).obj = st.obj := rfl
  rw [this]
  cases st.obj (d' * 16) with
  | none =>
    simp only [Option.map_some]
    rw [← put_comm _ hd.symm.symm]
    rfl
  | _ => rfl

theorem map_cond {b : Bool} {x y : Option St} {f : St → St} (h : x = y.map f) : cond b x none = (cond b y none).map f := by
  cases b
  · rfl
  · exact h

theorem callE_put {d : Nat} (v : AV) (S : CSpec) (args : List AV) (d' : Nat) (hd : d ≠ d') : callE S (st.put (some d) v) args d' some = (callE S st args d' some).map (·.put (some d) v) := by
  unfold callE
  have : (st.put (some d) v).obj = st.obj := rfl
  rw [this]
  cases save S.ins (fun s => args.getD s .no) ⟨st.obj, [], []⟩ with
  | none => rfl
  | some q =>
    obtain ⟨x, tk⟩ := q
    simp only
    apply map_cond
    cases S.call x with
    | none => rfl
    | some y =>
      simp only [Option.bind_some]
      split
      · rfl
      · simp only [Option.map_some]
        rw [← put_comm _ hd.symm.symm]
        rfl

theorem stepOp_put {op : Op} (hk : kindO op = 1) {d : Nat} (v : AV) (d' : Option Nat) (hd : d' ≠ some d) (hx : ∀ x ∈ opnds op, x ≠ .tmp d) :
    stepOp C (st.put (some d) v) d' op some = (stepOp C st d' op some).map (·.put (some d) v) := by
  have hne : ∀ e, d' = some e → d ≠ e := fun e he h => hd (by rw [he, h])
  cases op with
  | alloc T =>
    simp only [stepOp]
    cases d' with
    | none => rfl
    | some d' =>
      cases C.Θ T with
      | none => rfl
      | some ti => exact opBox_put v _ _ _ (hne _ rfl)
  | box T x =>
    simp only [stepOp]
    rw [val_put (hx x (by simp [opnds])) st v]
    cases d' with
    | none => rfl
    | some d' =>
      cases C.Θ T with
      | none => rfl
      | some ti =>
        cases (val st x).leaves with
        | none => rfl
        | some ls => exact opBox_put v _ _ _ (hne _ rfl)
  | buildSlice T n parts =>
    simp only [stepOp]
    have hp : ∀ x ∈ parts.toList.map (·.2), x ≠ .tmp d := fun x hx' => hx x (by simpa [opnds] using hx')
    cases d' with
    | none => rfl
    | some d' =>
      cases elemOf C T with
      | none => rfl
      | some q =>
        obtain ⟨tid, e⟩ := q
        simp only
        rw [shownAll_put v _ hp, fillL_put v _ _ hp]
        apply map_cond
        cases fillL st e parts.toList (List.replicate n e.zero) with
        | none => rfl
        | some xs => exact opNewRow_put v _ _ _ _ _ (hne _ rfl)
  | makeSlice T l c =>
    simp only [stepOp]
    rw [val_put (hx l (by simp [opnds])) st v]
    cases d' with
    | none => rfl
    | some d' =>
      cases elemOf C T with
      | none => rfl
      | some q =>
        obtain ⟨tid, e⟩ := q
        cases val st l with
        | sc z =>
          cases z with
          | int kk n =>
            cases kk with
            | i64 =>
              simp only
              apply map_cond
              apply map_cond
              exact opNewRow_put v _ _ _ _ _ (hne _ rfl)
            | _ => rfl
          | _ => rfl
        | _ => rfl
  | call c =>
    obtain ⟨callee, args, ts⟩ := c
    cases callee with
    | builtin b =>
      cases b with
      | append =>
        have hx : ∀ x ∈ args.toList, x ≠ .tmp d := hx
        simp only [stepOp]
        split
        · rename_i s x heq h1
          rw [val_put (hx s (by rw [h1]; simp)) st v, val_put (hx x (by rw [h1]; simp)) st v]
          split
          · rename_i d' T T' _
            apply map_cond
            unfold opAppend
            cases elemOf C T with
            | none => rfl
            | some q =>
              obtain ⟨tid, e⟩ := q
              simp only
              rw [show dstOf (st.put (some d) v) tid e (val st s) = dstOf st tid e (val st s) from rfl, show srcOf (st.put (some d) v) e (val st x) = srcOf st e (val st x) from rfl]
              cases dstOf st tid e (val st s) with
              | none => cases srcOf st e (val st x) <;> rfl
              | some q =>
                obtain ⟨xs, n⟩ := q
                cases srcOf st e (val st x) with
                | none => rfl
                | some ys =>
                  simp only
                  apply map_cond
                  exact opNewRow_put v _ _ _ _ _ (hne _ rfl)
          · rfl
        all_goals first | rfl | simp_all
      | _ => cases hk
    | value f =>
      have hx' : ∀ x ∈ args.toList, x ≠ .tmp d := fun x hx' => hx x (by simp [opnds]; exact .inr (by simpa using hx'))
      have hf : f ≠ .tmp d := hx f (by simp [opnds])
      have hm : args.toList.map (val (st.put (some d) v)) = args.toList.map (val st) := List.map_congr_left fun x hx => val_put (hx' x hx) st v
      simp only [stepOp]
      rw [show calleeOf (st.put (some d) v) f = calleeOf st f by unfold calleeOf; rw [val_put hf st v], hm]
      split
      · split
        · exact callE_put v _ _ _ (hne _ rfl)
        · rfl
      · rfl
    | invoke r m => cases hk
  | _ => cases hk

end
end Go.Vx
