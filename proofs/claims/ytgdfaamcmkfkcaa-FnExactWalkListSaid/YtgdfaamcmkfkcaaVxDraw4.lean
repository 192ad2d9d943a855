/-
  Regions that draw their order: whichever order, one reading.
-/
import Derived.Test.YtgdfaamcmkfkcaaVxDraw3
set_option linter.unusedSimpArgs false
set_option linter.unusedVariables false
set_option linter.unnecessarySimpa false
namespace Go.Vx

def slotsOf : List Operand → List Nat
  | [] => []
  | .tmp t :: r => t :: slotsOf r
  | _ :: r => slotsOf r

def guardSlot (all : List Oper) (o : Oper) : List Nat :=
  match o.guard with
  | none => []
  | some (j, _) => match (all[j]?).bind (·.dst) with
    | none => []
    | some dj => [dj]

def looksO (all : List Oper) (o : Oper) : List Nat := slotsOf (opnds o.op) ++ guardSlot all o

def notIn (d : Option Nat) (l : List Nat) : Bool :=
  match d with
  | none => true
  | some d => l.all fun t => !Nat.beq t d

def dstNe (x y : Option Nat) : Bool :=
  match x, y with
  | some a, some b => !Nat.beq a b
  | _, _ => true

/-- The two may change places. -/
def swapB (md : Nat → Option Md) (all : List Oper) (fx fy : Bool) (x y : Oper) : Bool :=
  notIn x.dst (looksO all y) && notIn y.dst (looksO all x) && dstNe x.dst y.dst && (match kindM md x, kindM md y with
    | 0, 0 => true
    | 0, 1 => fx && fy
    | 1, 0 => fx && fy
    | _, _ => false)

theorem notIn_ne {d : Option Nat} {l : List Nat} (h : notIn d l = true) : ∀ t ∈ l, d ≠ some t := by
  intro t ht e
  subst e
  have := List.all_eq_true.1 h t ht
  simp at this

theorem dstNe_ne {x y : Option Nat} (h : dstNe x y = true) : ∀ a, x = some a → y ≠ some a := by
  rintro a rfl rfl
  simp [dstNe] at h

theorem slotsOf_mem : ∀ {l : List Operand} {x : Operand} {t : Nat}, x ∈ l → x = .tmp t → t ∈ slotsOf l
  | [], _, _, h, _ => by cases h
  | .tmp s :: r, x, t, h, e => by
    rcases List.mem_cons.1 h with h | h
    · rw [e] at h; injection h with h; subst h; exact List.mem_cons_self ..
    · exact List.mem_cons_of_mem _ (slotsOf_mem h e)
  | .const _ :: r, x, t, h, e => by
    rcases List.mem_cons.1 h with h | h
    · rw [e] at h; cases h
    · exact slotsOf_mem (l := r) h e
  | .global _ :: r, x, t, h, e => by
    rcases List.mem_cons.1 h with h | h
    · rw [e] at h; cases h
    · exact slotsOf_mem (l := r) h e
  | .func _ :: r, x, t, h, e => by
    rcases List.mem_cons.1 h with h | h
    · rw [e] at h; cases h
    · exact slotsOf_mem (l := r) h e

section
variable {C : Cfg} {all : List Oper} {st st' : St}

theorem val_agree {l : List Operand} (h : ∀ t ∈ slotsOf l, st'.env t = st.env t) : ∀ x ∈ l, val st' x = val st x := by
  intro x hx
  cases x with
  | tmp t => exact h t (slotsOf_mem hx rfl)
  | _ => rfl

def stepI (C : Cfg) (f : Bool) (all : List Oper) (o : Oper) (st : St) : Option St := runOne C f all o st some

/-- Is it taken, is it passed over? -/
def wantS (all : List Oper) (o : Oper) (st : St) : Option Bool :=
  match o.guard with
  | none => some true
  | some (j, want) => match (all[j]?).bind (·.dst) with
    | none => some false
    | some dj => match st.env dj with
      | .un => some false
      | .sc (.bool b) => some (b == want)
      | _ => none

theorem put_same {d : Nat} {v : AV} (h : st.env d = v) : st.put (some d) v = st := by
  cases st with
  | mk env obj =>
    simp only [St.put]
    congr 1
    funext i
    cases hb : Nat.beq i d with
    | false => rfl
    | true =>
      rw [Nat.eq_of_beq_eq_true hb]
      exact h.symm

theorem stepI_eq (f : Bool) (o : Oper) (st : St) : stepI C f all o st = cond (dstOk C o.dst && (!f || okD C st o.op)) (match wantS all o st with
    | some true => stepM C st o.dst o.op some
    | some false => some (st.put o.dst .un)
    | none => none) none := by
  unfold stepI runOne wantS
  congr 1
  cases o.guard with
  | none => rfl
  | some q =>
    obtain ⟨j, want⟩ := q
    simp only
    cases (all[j]?).bind (·.dst) with
    | none => rfl
    | some dj =>
      simp only
      cases he : st.env dj with
      | un => rfl
      | sc l =>
        cases l with
        | bool b =>
          cases b <;> cases want <;> simp only [put_same he] <;> rfl
        | _ => rfl
      | _ => rfl

theorem wantS_local {o : Oper} (h : ∀ t ∈ guardSlot all o, st'.env t = st.env t) : wantS all o st' = wantS all o st := by
  unfold wantS
  unfold guardSlot at h
  cases hg : o.guard with
  | none => rfl
  | some q =>
    obtain ⟨j, want⟩ := q
    rw [hg] at h
    simp only at h ⊢
    cases hj : (all[j]?).bind (·.dst) with
    | none => rfl
    | some dj =>
      rw [hj] at h
      simp only at h ⊢
      rw [h dj (List.mem_cons_self ..)]

theorem noRowish_local : ∀ {l : List Operand}, (∀ x ∈ l, val st' x = val st x) → noRowish st' l = noRowish st l
  | [], _ => rfl
  | x :: r, h => by
    unfold noRowish
    rw [h x (List.mem_cons_self ..), noRowish_local fun y hy => h y (List.mem_cons_of_mem _ hy)]

theorem okD_local {op : Op} (h : ∀ x ∈ opnds op, val st' x = val st x) : okD C st' op = okD C st op := by
  cases op with
  | load T x => simp only [okD]; rw [h x (by simp [opnds])]
  | fieldAddr s x f => simp only [okD]; rw [h x (by simp [opnds])]
  | convert s d x => simp only [okD]; rw [h x (by simp [opnds])]
  | nilCheck x => simp only [okD]; rw [h x (by simp [opnds])]
  | indexAddr T x i => simp only [okD]; rw [h x (by simp [opnds])]
  | slice T x lo hi mx => simp only [okD]; rw [h x (by simp [opnds])]
  | call c =>
    obtain ⟨callee, args, ts⟩ := c
    cases callee with
    | builtin b =>
      cases b with
      | len => exact noRowish_local h
      | _ => rfl
    | value f =>
      simp only [okD]
      rw [show calleeOf st' f = calleeOf st f by unfold calleeOf; rw [h f (by simp [opnds])]]
    | invoke r m => rfl
  | _ => rfl

theorem env_put_ne {d : Option Nat} {v : AV} {t : Nat} (h : d ≠ some t) : (st.put d v).env t = st.env t := by
  cases d with
  | none => rfl
  | some d => rw [env_put, if_neg (fun e => h (by rw [e]))]

theorem put_comm' {a b : Option Nat} (h : ∀ x, a = some x → b ≠ some x) (u v : AV) : (st.put a u).put b v = (st.put b v).put a u := by
  cases a with
  | none => rfl
  | some a =>
    cases b with
    | none => rfl
    | some b => exact put_comm st (fun e => h a rfl (by rw [e])) u v

theorem kindM_plain {o : Oper} (h : kindM C.md o ≠ 2) : kindO o.op = kindM C.md o ∧ ∀ (st : St) {R : Type} (k : St → Option R), stepM C st o.dst o.op k = stepOp C st o.dst o.op k := by
  unfold kindM at h ⊢
  unfold stepM
  cases hd : o.dst with
  | none =>
    rw [hd] at h
    refine ⟨rfl, fun st R k => ?_⟩
    simp only at h ⊢
    split
    · rename_i heq; rw [heq] at h; exact absurd rfl h
    · rfl
  | some d =>
    rw [hd] at h
    simp only at h ⊢
    cases hm : C.md d with
    | none => exact ⟨rfl, fun _ _ _ => rfl⟩
    | some m => rw [hm] at h; exact absurd rfl h

theorem kindM_0 {o : Oper} (h : kindM C.md o = 0) : kindO o.op = 0 ∧ ∀ (st : St) {R : Type} (k : St → Option R), stepM C st o.dst o.op k = stepOp C st o.dst o.op k := by
  have := kindM_plain (C := C) (o := o) (by omega)
  exact ⟨by omega, this.2⟩
theorem kindM_1 {o : Oper} (h : kindM C.md o = 1) : kindO o.op = 1 ∧ ∀ (st : St) {R : Type} (k : St → Option R), stepM C st o.dst o.op k = stepOp C st o.dst o.op k := by
  have := kindM_plain (C := C) (o := o) (by omega)
  exact ⟨by omega, this.2⟩

def isE (C : Cfg) (o : Oper) (st : St) (all : List Oper) : Prop := kindM C.md o = 0 ∨ wantS all o st = some false
def isH (C : Cfg) (o : Oper) (st : St) (all : List Oper) : Prop := kindM C.md o = 1 ∧ wantS all o st = some true

theorem modes {f : Bool} {o : Oper} {s1 : St} (hk : kindM C.md o = 0 ∨ kindM C.md o = 1) (h : stepI C f all o st = some s1) : isE C o st all ∨ isH C o st all := by
  rcases hk with hk | hk
  · exact .inl (.inl hk)
  · rw [stepI_eq] at h
    obtain ⟨_, h⟩ := cond_some h
    cases hw : wantS all o st with
    | none => rw [hw] at h; cases h
    | some b =>
      cases b with
      | true => exact .inr ⟨hk, hw⟩
      | false => exact .inl (.inr hw)

/-- A computation: it gives a value, whatever else is in the slots. -/
theorem Estep0 {f : Bool} {o : Oper} {s1 : St} (hm : kindM C.md o = 0) (h : stepI C f all o st = some s1) :
    ∃ v, s1 = st.put o.dst v ∧ ∀ st', (∀ t ∈ looksO all o, st'.env t = st.env t) → st'.obj = st.obj → stepI C f all o st' = some (st'.put o.dst v) := by
  rw [stepI_eq] at h
  obtain ⟨hc, h⟩ := cond_some h
  simp only [Bool.and_eq_true] at hc
  have hsame : ∀ st', (∀ t ∈ looksO all o, st'.env t = st.env t) → (dstOk C o.dst && (!f || okD C st' o.op)) = true ∧ wantS all o st' = wantS all o st ∧ ∀ x ∈ opnds o.op, val st' x = val st x := by
    intro st' he
    have hv := val_agree (l := opnds o.op) fun t ht => he t (List.mem_append_left _ ht)
    exact ⟨by rw [okD_local hv, Bool.and_eq_true]; exact hc, wantS_local fun t ht => he t (List.mem_append_right _ ht), hv⟩
  cases hw : wantS all o st with
  | none => rw [hw] at h; cases h
  | some b =>
    cases b with
    | false =>
      rw [hw] at h
      obtain rfl := Option.some.inj h
      refine ⟨.un, rfl, fun st' he _ => ?_⟩
      obtain ⟨k1, k3, _⟩ := hsame st' he
      rw [stepI_eq, k1, k3, hw]; rfl
    | true =>
      rw [hw] at h
      simp only at h
      rw [(kindM_0 hm).2, stepOp_kind0 (kindM_0 hm).1] at h
      obtain ⟨v, h1, h2⟩ := Eff.go_some h
      obtain rfl := Option.some.inj h2
      refine ⟨v, rfl, fun st' he hb => ?_⟩
      obtain ⟨k1, k3, k4⟩ := hsame st' he
      rw [stepI_eq, k1, k3, hw]
      simp only [cond_true]
      rw [(kindM_0 hm).2, stepOp_kind0 (kindM_0 hm).1, opE_same k4 hb, go_of_res h1]

theorem Estep {o : Oper} {s1 : St} (hm : isE C o st all) (h : stepI C true all o st = some s1) :
    ∃ v, s1 = st.put o.dst v ∧ ∀ st', (∀ t ∈ looksO all o, st'.env t = st.env t) → (∀ x ∈ opnds o.op, ∀ n ∈ avN (val st x), ∀ ls, st.obj n = .box ls → st'.obj n = .box ls) →
      stepI C true all o st' = some (st'.put o.dst v) := by
  rw [stepI_eq] at h
  obtain ⟨hc, h⟩ := cond_some h
  simp only [Bool.and_eq_true, Bool.not_true, Bool.false_or] at hc
  have hsame : ∀ st', (∀ t ∈ looksO all o, st'.env t = st.env t) → dstOk C o.dst = true ∧ okD C st' o.op = true ∧ wantS all o st' = wantS all o st ∧ ∀ x ∈ opnds o.op, val st' x = val st x := by
    intro st' he
    have hv := val_agree (l := opnds o.op) fun t ht => he t (List.mem_append_left _ ht)
    exact ⟨hc.1, by rw [okD_local hv]; exact hc.2, wantS_local fun t ht => he t (List.mem_append_right _ ht), hv⟩
  cases hw : wantS all o st with
  | none => rw [hw] at h; cases h
  | some b =>
    cases b with
    | false =>
      rw [hw] at h
      obtain rfl := Option.some.inj h
      refine ⟨.un, rfl, fun st' he _ => ?_⟩
      obtain ⟨k1, k2, k3, _⟩ := hsame st' he
      rw [stepI_eq, k1, k2, k3, hw]; rfl
    | true =>
      rw [hw] at h
      rcases hm with hk | hm
      · simp only at h
        rw [(kindM_0 hk).2, stepOp_kind0 (kindM_0 hk).1] at h
        obtain ⟨v, h1, h2⟩ := Eff.go_some h
        obtain rfl := Option.some.inj h2
        refine ⟨v, rfl, fun st' he hb => ?_⟩
        obtain ⟨k1, k2, k3, k4⟩ := hsame st' he
        rw [stepI_eq, k1, k2, k3, hw]
        simp only [Bool.not_true, Bool.false_or, Bool.and_self, cond_true]
        rw [(kindM_0 hk).2, stepOp_kind0 (kindM_0 hk).1, go_of_res (opE_local k4 hb hc.2 h1)]
      · rw [hw] at hm; cases hm

theorem Hput {o : Oper} (hm : isH C o st all) {d : Option Nat} (v : AV) (hd : ∀ t ∈ looksO all o, d ≠ some t) (hne : ∀ a, d = some a → o.dst ≠ some a) :
    stepI C true all o (st.put d v) = (stepI C true all o st).map (·.put d v) := by
  cases d with
  | none =>
    show stepI C true all o st = (stepI C true all o st).map (fun s => s)
    cases stepI C true all o st <;> rfl
  | some d =>
    have hv : ∀ x ∈ opnds o.op, val (st.put (some d) v) x = val st x := val_agree fun t ht => env_put_ne (hd t (List.mem_append_left _ ht))
    rw [stepI_eq, stepI_eq, okD_local hv, wantS_local (st := st) (fun t ht => env_put_ne (hd t (List.mem_append_right _ ht))), hm.2]
    apply map_cond
    rw [(kindM_1 hm.1).2, (kindM_1 hm.1).2]
    exact stepOp_put (kindM_1 hm.1).1 v o.dst (hne d rfl) fun x hx e => hd d (List.mem_append_left _ (slotsOf_mem hx e)) rfl

theorem Hkeep (hΓ : ∀ g S, C.Γ g = some S → specOk S = true) {o : Oper} (hm : isH C o st all) {s1 : St} (h : stepI C true all o st = some s1) :
    (∀ s, o.dst ≠ some s → s1.env s = st.env s) ∧ Kept st.obj s1.obj := by
  rw [stepI_eq] at h
  obtain ⟨hc, h⟩ := cond_some h
  simp only [Bool.and_eq_true, Bool.not_true, Bool.false_or] at hc
  rw [hm.2] at h
  simp only at h
  rw [(kindM_1 hm.1).2] at h
  obtain ⟨k1, k2⟩ := stepOp_keep hΓ (kindM_1 hm.1).1 hc.2 h
  exact ⟨k1, k2.kept⟩

/-- No slot that it looks at names what is not there. -/
def WFn (o : Oper) (st : St) : Prop := ∀ x ∈ opnds o.op, ∀ n ∈ avN (val st x), st.obj n ≠ .none

theorem stepI_frame (hΓ : ∀ g S, C.Γ g = some S → specOk S = true) {f : Bool} {o : Oper} (hk : kindM C.md o = 0 ∨ (kindM C.md o = 1 ∧ f = true)) {s1 : St} (h : stepI C f all o st = some s1) :
    (∀ s, o.dst ≠ some s → s1.env s = st.env s) ∧ ∀ n, st.obj n ≠ .none → s1.obj n ≠ .none := by
  rcases hk with hk | ⟨hk, rfl⟩
  · obtain ⟨v, rfl, _⟩ := Estep0 hk h
    exact ⟨fun s hs => env_put_ne hs, fun n hn => by cases o.dst <;> exact hn⟩
  · rcases modes (.inr hk) h with hm | hm
    · obtain ⟨v, rfl, _⟩ := Estep hm h
      exact ⟨fun s hs => env_put_ne hs, fun n hn => by cases o.dst <;> exact hn⟩
    · obtain ⟨k1, k2⟩ := Hkeep hΓ hm h
      exact ⟨k1, fun n hn => (k2 n hn).1⟩

theorem swapB_spec {fx fy : Bool} {x y : Oper} (h : swapB C.md all fx fy x y = true) : (∀ t ∈ looksO all y, x.dst ≠ some t) ∧ (∀ t ∈ looksO all x, y.dst ≠ some t) ∧ (∀ a, x.dst = some a → y.dst ≠ some a) ∧
    ((kindM C.md x = 0 ∧ kindM C.md y = 0) ∨ (fx = true ∧ fy = true ∧ (kindM C.md x = 0 ∨ kindM C.md x = 1) ∧ (kindM C.md y = 0 ∨ kindM C.md y = 1) ∧ (kindM C.md x = 0 ∨ kindM C.md y = 0))) := by
  unfold swapB at h
  simp only [Bool.and_eq_true] at h
  obtain ⟨⟨⟨h1, h2⟩, h3⟩, h4⟩ := h
  refine ⟨notIn_ne h1, notIn_ne h2, dstNe_ne h3, ?_⟩
  split at h4
  · rename_i k1 k2; exact .inl ⟨k1, k2⟩
  · rename_i k1 k2; simp only [Bool.and_eq_true] at h4; exact .inr ⟨h4.1, h4.2, .inl k1, .inr k2, .inl k1⟩
  · rename_i k1 k2; simp only [Bool.and_eq_true] at h4; exact .inr ⟨h4.1, h4.2, .inr k1, .inl k2, .inr k2⟩
  · cases h4

theorem swapB_kinds {fx fy : Bool} {x y : Oper} (h : swapB C.md all fx fy x y = true) : (kindM C.md x = 0 ∨ (kindM C.md x = 1 ∧ fx = true)) ∧ (kindM C.md y = 0 ∨ (kindM C.md y = 1 ∧ fy = true)) := by
  obtain ⟨_, _, _, h | ⟨h1, h2, h3, h4, _⟩⟩ := swapB_spec h
  · exact ⟨.inl h.1, .inl h.2⟩
  · exact ⟨h3.imp id fun k => ⟨k, h1⟩, h4.imp id fun k => ⟨k, h2⟩⟩

theorem swap (hΓ : ∀ g S, C.Γ g = some S → specOk S = true) {fx fy : Bool} {x y : Oper} (hs : swapB C.md all fx fy x y = true) (hwf : WFn y st) {s1 s2 : St} (h1 : stepI C fx all x st = some s1) (h2 : stepI C fy all y s1 = some s2) :
    ∃ t1, stepI C fy all y st = some t1 ∧ stepI C fx all x t1 = some s2 := by
  obtain ⟨a1, a2, a3, hk⟩ := swapB_spec hs
  obtain ⟨f1, f2⟩ := stepI_frame hΓ (swapB_kinds hs).1 h1
  have hvy : ∀ t ∈ looksO all y, s1.env t = st.env t := fun t ht => f1 t (a1 t ht)
  have hval : ∀ z ∈ opnds y.op, val s1 z = val st z := val_agree fun t ht => hvy t (List.mem_append_left _ ht)
  have hwy : wantS all y s1 = wantS all y st := wantS_local fun t ht => hvy t (List.mem_append_right _ ht)
  rcases hk with ⟨kx, ky⟩ | ⟨rfl, rfl, kx, ky, k0⟩
  · obtain ⟨vx, rfl, ex⟩ := Estep0 kx h1
    obtain ⟨vy, rfl, ey⟩ := Estep0 ky h2
    refine ⟨_, ey st (fun t ht => (hvy t ht).symm) (by cases x.dst <;> rfl), ?_⟩
    rw [ex _ (fun t ht => env_put_ne (a2 t ht)) (by cases y.dst <;> rfl), put_comm' a3]
  rcases modes kx h1 with mx | mx
  · obtain ⟨vx, rfl, ex⟩ := Estep mx h1
    rcases modes ky h2 with my | my
    · obtain ⟨vy, rfl, ey⟩ := Estep my h2
      refine ⟨_, ey st (fun t ht => (hvy t ht).symm) (fun z _ n _ ls hn => by cases hx : x.dst <;> (rw [hx] at hn; exact hn)), ?_⟩
      rw [ex _ (fun t ht => env_put_ne (a2 t ht)) (fun z _ n _ ls hn => by cases hy : y.dst <;> exact hn), put_comm' a3]
    · have my' : isH C y st all := ⟨my.1, by rw [← hwy]; exact my.2⟩
      rw [Hput my' vx a1 a3] at h2
      cases hy : stepI C true all y st with
      | none => rw [hy] at h2; cases h2
      | some t1 =>
        rw [hy] at h2
        obtain rfl := Option.some.inj h2
        obtain ⟨j1, j2⟩ := Hkeep hΓ my' hy
        exact ⟨t1, rfl, ex t1 (fun t ht => j1 t (a2 t ht)) (fun z _ n _ ls hn => ((j2 n (by rw [hn]; simp)).2 ls).2 hn)⟩
  · rcases modes ky h2 with my | my
    · obtain ⟨vy, rfl, ey⟩ := Estep my h2
      obtain ⟨j1, j2⟩ := Hkeep hΓ mx h1
      refine ⟨_, ey st (fun t ht => (hvy t ht).symm) (fun z hz n hn ls hls => ?_), ?_⟩
      · rw [hval z hz] at hn
        exact ((j2 n (hwf z hz n hn)).2 ls).1 hls
      · have hne : ∀ a, y.dst = some a → x.dst ≠ some a := fun a ha hb => a3 a hb ha
        rw [Hput mx vy a2 hne, h1]; rfl
    · rcases k0 with k0 | k0
      · rw [mx.1] at k0; cases k0
      · rw [my.1] at k0; cases k0

def Lex (C : Cfg) (fl : Nat → Bool) (all : List Oper) : List Nat → St → (St → Prop) → Prop
  | [], st, K => K st
  | i :: l, st, K => ∃ o s1, all[i]? = some o ∧ stepI C (fl i) all o st = some s1 ∧ Lex C fl all l s1 K

theorem bubble (hΓ : ∀ g S, C.Γ g = some S → specOk S = true) {fl : Nat → Bool} {i : Nat} {o : Oper} (ho : all[i]? = some o) {K : St → Prop} (post : List Nat) :
    ∀ (pre : List Nat) (st : St), (∀ a ∈ pre, ∀ x, all[a]? = some x → swapB C.md all (fl a) (fl i) x o = true) → WFn o st → Lex C fl all (pre ++ i :: post) st K → ∃ s1, stepI C (fl i) all o st = some s1 ∧ Lex C fl all (pre ++ post) s1 K
  | [], st, _, _, h => by
    obtain ⟨o', s1, h1, h2, h3⟩ := h
    rw [ho] at h1
    obtain rfl := Option.some.inj h1
    exact ⟨s1, h2, h3⟩
  | a :: pre, st, hs, hwf, h => by
    obtain ⟨x, s1, h1, h2, h3⟩ := h
    have hsw := hs a (List.mem_cons_self ..) x h1
    obtain ⟨a1, a2, a3, _⟩ := swapB_spec hsw
    obtain ⟨f1, f2⟩ := stepI_frame hΓ (swapB_kinds hsw).1 h2
    have hval : ∀ z ∈ opnds o.op, val s1 z = val st z := val_agree fun t ht => f1 t (a1 t (List.mem_append_left _ ht))
    have hwf1 : WFn o s1 := fun z hz n hn => by rw [hval z hz] at hn; exact f2 n (hwf z hz n hn)
    obtain ⟨s2, h4, h5⟩ := bubble hΓ ho post pre s1 (fun b hb => hs b (List.mem_cons_of_mem _ hb)) hwf1 h3
    obtain ⟨t1, h6, h7⟩ := swap hΓ hsw hwf h2 h4
    exact ⟨t1, h6, x, s2, h1, h7, h5⟩

theorem lex_of_run {R : Type} {fl : Nat → Bool} {k : St → Option R} {r : R} : ∀ (ops : List Oper) (i : Nat) (st : St), (∀ j, ops[j]? = all[i + j]?) → runSeq C fl all i ops st k = some r →
    Lex C fl all (List.range' i ops.length) st (fun s => k s = some r)
  | [], _, _, _, h => h
  | o :: ops, i, st, ha, h => by
    unfold runSeq at h
    rw [runOne_bind] at h
    cases hs : runOne C (fl i) all o st some with
    | none => rw [hs] at h; cases h
    | some s1 =>
      rw [hs] at h
      rw [List.length_cons, List.range'_succ]
      refine ⟨o, s1, by have := ha 0; simpa using this.symm, hs, lex_of_run ops (i + 1) s1 (fun j => ?_) h⟩
      have := ha (j + 1)
      simpa [Nat.add_assoc, Nat.add_comm 1 j] using this

end

/-! ### the check -/

def edgeTo (o : Oper) (i : Nat) : List Edge → Bool
  | [] => false
  | e :: r => (Region.binds .any e && Nat.beq e.on i) || edgeTo o i r

inductive Path (all : List Oper) (i : Nat) : Nat → Prop where
  | edge {j : Nat} {o : Oper} {e : Edge} : all[j]? = some o → e ∈ o.after.toList → Region.binds .any e = true → e.on = i → Path all i j
  | more {j : Nat} {o : Oper} {e : Edge} : all[j]? = some o → e ∈ o.after.toList → Region.binds .any e = true → Path all i e.on → Path all i j

theorem edgeMask_spec {all : List Oper} {ms : List Nat} (hm : ∀ k m i, ms[k]? = some m → m.testBit i = true → Path all i k) {j : Nat} {o : Oper} (ho : all[j]? = some o) :
    ∀ (l : List Edge) (m : Nat), (∀ e ∈ l, e ∈ o.after.toList) → (∀ i, m.testBit i = true → Path all i j) → ∀ i, (edgeMask ms l m).testBit i = true → Path all i j
  | [], m, _, h, i, hi => h i hi
  | e :: r, m, hl, h, i, hi => by
    refine edgeMask_spec hm ho r _ (fun x hx => hl x (List.mem_cons_of_mem _ hx)) (fun k hk => ?_) i hi
    cases hb : Region.binds .any e with
    | false => rw [hb] at hk; exact h k hk
    | true =>
      rw [hb, cond_true, Nat.testBit_or, Nat.testBit_or] at hk
      simp only [Bool.or_eq_true] at hk
      rcases hk with (hk | hk) | hk
      · exact h k hk
      · have : e.on = k := by
          rw [Nat.shiftLeft_eq, Nat.one_mul, Nat.testBit_two_pow] at hk
          simpa using hk
        exact .edge ho (hl e (List.mem_cons_self ..)) hb this
      · cases hx : ms[e.on]? with
        | none => rw [List.getD_eq_getElem?_getD, hx] at hk; simp at hk
        | some m' =>
          rw [List.getD_eq_getElem?_getD, hx] at hk
          exact .more ho (hl e (List.mem_cons_self ..)) hb (hm _ _ _ hx hk)

theorem masksFrom_spec {all : List Oper} : ∀ (l : List Oper) (ms : List Nat), (∀ k y, l[k]? = some y → all[ms.length + k]? = some y) → (∀ k m i, ms[k]? = some m → m.testBit i = true → Path all i k) →
    ∀ k m i, (masksFrom ms l)[k]? = some m → m.testBit i = true → Path all i k
  | [], ms, _, hm => hm
  | o :: r, ms, hl, hm => by
    refine masksFrom_spec r (ms ++ [edgeMask ms o.after.toList 0]) (fun k y hy => ?_) (fun k m i hk hi => ?_)
    · have := hl (k + 1) y (by simpa using hy)
      rw [List.length_append, List.length_singleton, show ms.length + 1 + k = ms.length + (k + 1) by omega]; exact this
    · rw [List.getElem?_append] at hk
      split at hk
      · exact hm k m i hk hi
      · rename_i hlt
        rw [List.getElem?_singleton] at hk
        split at hk
        · obtain rfl := Option.some.inj hk
          have hk0 : k = ms.length := by omega
          subst hk0
          exact edgeMask_spec hm (hl 0 o rfl) o.after.toList 0 (fun _ h => h) (fun i hi => by simp at hi) i hi
        · cases hk

def pairsB (md : Nat → Option Md) (all : List Oper) (fl : Nat → Bool) (m : Nat) (j : Nat) (y : Oper) : Nat → List Oper → Bool
  | _, [] => true
  | i, x :: r => cond (Nat.blt i j) ((m.testBit i || swapB md all (fl i) (fl j) x y) && pairsB md all fl m j y (i + 1) r) true

def backB (j : Nat) : List Edge → Bool
  | [] => true
  | e :: r => (!Region.binds .any e || Nat.blt e.on j) && backB j r

def rowsB (md : Nat → Option Md) (all : List Oper) (ms : List Nat) : Nat → List Oper → Bool
  | _, [] => true
  | j, y :: r => backB j y.after.toList && pairsB md all (flagF md all ms) (ms.getD j 0) j y 0 all && rowsB md all ms (j + 1) r

def anyB (md : Nat → Option Md) (all : List Oper) : Bool := rowsB md all (masksFrom [] all) 0 all

theorem edgeTo_spec {o : Oper} {i : Nat} : ∀ {l : List Edge}, edgeTo o i l = true → ∃ e ∈ l, Region.binds .any e = true ∧ e.on = i
  | [], h => by cases h
  | e :: r, h => by
    simp only [edgeTo, Bool.or_eq_true, Bool.and_eq_true, Nat.beq_eq] at h
    rcases h with h | h
    · exact ⟨e, List.mem_cons_self .., h⟩
    · obtain ⟨e', h1, h2⟩ := edgeTo_spec h
      exact ⟨e', List.mem_cons_of_mem _ h1, h2⟩

theorem backB_spec {j : Nat} : ∀ {l : List Edge}, backB j l = true → ∀ e ∈ l, Region.binds .any e = true → e.on < j
  | [], _, _, he, _ => by cases he
  | x :: r, h, e, he, hb => by
    simp only [backB, Bool.and_eq_true, Bool.or_eq_true, Bool.not_eq_true'] at h
    rcases List.mem_cons.1 he with rfl | he
    · rcases h.1 with h | h
      · rw [hb] at h; cases h
      · simpa using h
    · exact backB_spec h.2 e he hb

theorem pairsB_spec {md : Nat → Option Md} {all : List Oper} {fl : Nat → Bool} {m j : Nat} {y : Oper} : ∀ {l : List Oper} {i : Nat}, pairsB md all fl m j y i l = true → ∀ k x, l[k]? = some x → i + k < j → m.testBit (i + k) = true ∨ swapB md all (fl (i + k)) (fl j) x y = true
  | [], _, _, k, x, hx, _ => by simp at hx
  | z :: r, i, h, k, x, hx, hlt => by
    unfold pairsB at h
    have hb : Nat.blt i j = true := by simp; omega
    rw [hb] at h
    simp only [cond_true, Bool.and_eq_true, Bool.or_eq_true] at h
    cases k with
    | zero =>
      simp only [List.getElem?_cons_zero, Option.some.injEq] at hx
      subst hx
      exact h.1
    | succ k =>
      have := pairsB_spec h.2 k x (by simpa using hx) (by omega)
      rwa [show i + 1 + k = i + (k + 1) by omega] at this

theorem rowsB_spec {md : Nat → Option Md} {all : List Oper} {ms : List Nat} : ∀ {l : List Oper} {j : Nat}, rowsB md all ms j l = true → ∀ k y, l[k]? = some y → backB (j + k) y.after.toList = true ∧ pairsB md all (flagF md all ms) (ms.getD (j + k) 0) (j + k) y 0 all = true
  | [], _, _, k, y, hy => by simp at hy
  | z :: r, j, h, k, y, hy => by
    simp only [rowsB, Bool.and_eq_true] at h
    cases k with
    | zero =>
      simp only [List.getElem?_cons_zero, Option.some.injEq] at hy
      subst hy
      exact h.1
    | succ k =>
      have := rowsB_spec h.2 k y (by simpa using hy)
      rwa [show j + 1 + k = j + (k + 1) by omega] at this

/-- What is listed has all that goes ahead of it listed. -/
def Closed (ops : Array Oper) (listed : Array Bool) : Prop :=
  ∀ c o, ops[c]? = some o → listed.getD c false = true → ∀ e ∈ o.after.toList, Region.binds .any e = true → listed.getD e.on false = true

theorem Closed.path {ops : Array Oper} {listed : Array Bool} (h : Closed ops listed) {i j : Nat} (hp : Path ops.toList i j) : listed.getD j false = true → listed.getD i false = true := by
  induction hp with
  | edge ho he hb hi => intro hl; subst hi; exact h _ _ (by simpa using ho) hl _ he hb
  | more ho he hb _ ih => intro hl; exact ih (h _ _ (by simpa using ho) hl _ he hb)

section
variable {P : Program} {C : Cfg} {w0 : World} {p0 Bs : Nat → Prop} {G : Gh} {st : St} {a : Act} {w : World}

theorem WFn_of (h : Rel C.N w0 p0 Bs G st a w) (o : Oper) : WFn o st := by
  intro x _ n hn
  have hv := val_sound h x
  generalize val st x = v at hn hv
  cases v with
  | sc l =>
    cases l with
    | box m off =>
      obtain ⟨_, _, _, h3, _⟩ := hv
      simp only [avN, List.mem_singleton] at hn
      subst hn; exact h3
    | belem m off sz i =>
      obtain ⟨_, _, _, h3, _⟩ := hv
      simp only [avN, List.mem_singleton] at hn
      subst hn; exact h3
    | _ => cases hn
  | _ => cases hn

theorem Rel.world {N : Nat} (h : Rel N w0 p0 Bs G st a w) {w' : World} (hh : w'.heap = w.heap) (hos : w'.os = w.os) (ht : w'.tape = w.tape) (hout : w'.output = w.output) : Rel N w0 p0 Bs G st a w' := by
  have := (h.upd (w' := w') (G' := G) (obj' := st.obj) hos ht hout (by rw [hh]; exact Nat.le_refl _) (fun b _ _ => by rw [hh]) (fun n b hb _ => ⟨n, hb⟩) (fun _ h => h)
    (fun n e l hx _ => ⟨hx, rfl⟩) (fun n ls hx _ => ⟨⟨ls, hx⟩, rfl⟩) (fun tr n => RO.kept tr rfl rfl rfl rfl (fun b _ => by rw [hh]) (h.objs n)) h.inj (fun n b hb => by rw [hh]; exact h.bound n b hb)).1
  exact this

def unl (listed : Array Bool) (n : Nat) : List Nat := (List.range n).filter fun i => !listed.getD i true

theorem mem_ready {ops : Array Oper} {listed : Array Bool} {i : Nat} : i ∈ Region.ready .any ops listed ↔ i < ops.size ∧ listed.getD i true = false ∧ ∃ o, ops[i]? = some o ∧ ∀ e ∈ o.after.toList, Region.binds .any e = true → listed.getD e.on false = true := by
  unfold Region.ready
  rw [List.mem_filter, List.mem_range]
  constructor
  · rintro ⟨h1, h2⟩
    simp only [Bool.and_eq_true, Bool.not_eq_true'] at h2
    refine ⟨h1, h2.1, ?_⟩
    cases ho : ops[i]? with
    | none => rw [ho] at h2; simp at h2
    | some o =>
      rw [ho] at h2
      refine ⟨o, rfl, fun e he hb => ?_⟩
      have h3 := h2.2
      simp only [Option.map_some, Option.getD_some] at h3
      have := Array.all_eq_true_iff_forall_mem.1 h3 e (Array.mem_toList_iff.1 he)
      simpa [hb] using this
  · rintro ⟨h1, h2, o, ho, h3⟩
    refine ⟨h1, ?_⟩
    simp only [Bool.and_eq_true, Bool.not_eq_true']
    refine ⟨h2, ?_⟩
    rw [ho]
    simp only [Option.map_some, Option.getD_some]
    refine Array.all_eq_true_iff_forall_mem.2 fun e he => ?_
    cases hb : Region.binds .any e with
    | false => rfl
    | true => simp [h3 e (Array.mem_toList_iff.2 he) hb]

theorem unl_set {listed : Array Bool} {n i : Nat} (hi : i < listed.size) : unl (listed.setIfInBounds i true) n = (unl listed n).filter (fun j => !Nat.beq j i) := by
  unfold unl
  rw [List.filter_filter]
  apply List.filter_congr
  intro j _
  rw [Array.getD_eq_getD_getElem?, Array.getElem?_setIfInBounds, Array.getD_eq_getD_getElem?]
  by_cases e : i = j
  · subst e; simp [hi]
  · have : Nat.beq j i = false := Bool.eq_false_iff.2 fun h => e (Nat.eq_of_beq_eq_true h).symm
    simp [e, this]

theorem filter_split {l : List Nat} (hnd : l.Nodup) {pre post : List Nat} {i : Nat} (h : l = pre ++ i :: post) : l.filter (fun j => !Nat.beq j i) = pre ++ post := by
  subst h
  rw [List.nodup_append] at hnd
  obtain ⟨_, h2, h3⟩ := hnd
  rw [List.nodup_cons] at h2
  rw [List.filter_append, List.filter_cons]
  simp only [Nat.beq_refl, Bool.not_true, Bool.false_eq_true, if_false]
  rw [List.filter_eq_self.2, List.filter_eq_self.2]
  · intro j hj
    have : j ≠ i := fun e => h2.1 (e ▸ hj)
    rw [show Nat.beq j i = false from Bool.eq_false_iff.2 fun e => this (Nat.eq_of_beq_eq_true e)]; rfl
  · intro j hj
    have : j ≠ i := h3 j hj i (List.mem_cons_self ..)
    rw [show Nat.beq j i = false from Bool.eq_false_iff.2 fun e => this (Nat.eq_of_beq_eq_true e)]; rfl

theorem any_sound (hT : TabOk P C.Θ) (hΓ : ∀ g S, C.Γ g = some S → Good P g S) {ops : Array Oper} (hB : anyB C.md ops.toList = true) {R : Type} {k : St → Option R} {r : R} {Q : Exit → Act → World → Prop} {a0 : Act}
    (hQ : ∀ G' st' a' w', Rel C.N w0 p0 Bs G' st' a' w' → Keep C.keep a0 a' → k st' = some r → Q .normal a' w') :
    ∀ (fuel : Nat) (listed : Array Bool) (G : Gh) (st : St) (a : Act) (w : World), listed.size = ops.size → Closed ops listed → (unl listed ops.size).length = fuel → Rel C.N w0 p0 Bs G st a w → Keep C.keep a0 a →
      Lex C (flagF C.md ops.toList (masksFrom [] ops.toList)) ops.toList (unl listed ops.size) st (fun s => k s = some r) → wpAny P .any ops Q fuel listed a w := by
  have hspec := fun k y hy => rowsB_spec (all := ops.toList) (ms := masksFrom [] ops.toList) (j := 0) hB k y hy
  have hempty : ∀ listed : Array Bool, listed.size = ops.size → Region.ready .any ops listed = [] → unl listed ops.size = [] := by
    intro listed hszl hr
    cases hu : unl listed ops.size with
    | nil => rfl
    | cons i l =>
      exfalso
      have hi : i ∈ unl listed ops.size := by rw [hu]; exact List.mem_cons_self ..
      obtain ⟨h1, h2⟩ := List.mem_filter.1 hi
      have h1 := List.mem_range.1 h1
      have hsort : (unl listed ops.size).Pairwise (· < ·) := List.Pairwise.filter _ List.pairwise_lt_range
      rw [hu, List.pairwise_cons] at hsort
      have ho : ops[i]? = some ops[i] := by simp [h1]
      have : i ∈ Region.ready .any ops listed := by
        refine mem_ready.2 ⟨h1, by simpa using h2, _, ho, fun e he hb => ?_⟩
        have hlt := backB_spec (hspec i ops[i] (by simpa using ho)).1 e he hb
        rw [Nat.zero_add] at hlt
        cases hl : listed.getD e.on true with
        | true =>
          by_cases hsz : e.on < listed.size
          · rw [Array.getD_eq_getD_getElem?] at hl ⊢
            simp only [hsz, getElem?_pos, Option.getD_some] at hl ⊢
            exact hl
          · omega
        | false =>
          have : e.on ∈ unl listed ops.size := List.mem_filter.2 ⟨List.mem_range.2 (by omega), by simp [hl]⟩
          rw [hu] at this
          rcases List.mem_cons.1 this with h | h
          · omega
          · have := hsort.1 _ h; omega
      rw [hr] at this; cases this
  intro fuel
  induction fuel with
  | zero =>
    intro listed G st a w hsz hcl hlen h hK hl
    have hu := List.eq_nil_of_length_eq_zero hlen
    rw [hu] at hl
    refine ⟨?_, hQ G st a w h hK hl⟩
    cases hr : Region.ready .any ops listed with
    | nil => rfl
    | cons i l =>
      have hi : i ∈ Region.ready .any ops listed := by rw [hr]; exact List.mem_cons_self ..
      obtain ⟨h1, h2, _⟩ := mem_ready.1 hi
      have : i ∈ unl listed ops.size := List.mem_filter.2 ⟨List.mem_range.2 h1, by simp [h2]⟩
      rw [hu] at this; cases this
  | succ fuel ih =>
    intro listed G st a w hsz hcl hlen h hK hl
    refine ⟨fun hr => ?_, fun i hi => ?_⟩
    · have hu := hempty listed hsz hr
      rw [hu] at hlen; cases hlen
    · obtain ⟨h1, h2, o, ho, h3⟩ := mem_ready.1 hi
      have ho' : ops.toList[i]? = some o := by simpa using ho
      have hmem : i ∈ unl listed ops.size := List.mem_filter.2 ⟨List.mem_range.2 h1, by simp [h2]⟩
      obtain ⟨pre, post, hsplit⟩ := List.append_of_mem hmem
      have hsort : (unl listed ops.size).Pairwise (· < ·) := List.Pairwise.filter _ List.pairwise_lt_range
      have hnd : (unl listed ops.size).Nodup := List.Pairwise.filter _ List.nodup_range
      rw [hsplit] at hl
      have hsw : ∀ b ∈ pre, ∀ x, ops.toList[b]? = some x → swapB C.md ops.toList (flagF C.md ops.toList (masksFrom [] ops.toList) b) (flagF C.md ops.toList (masksFrom [] ops.toList) i) x o = true := by
        intro b hb x hx
        have hbi : b < i := by
          rw [hsplit, List.pairwise_append] at hsort
          exact hsort.2.2 b hb i (List.mem_cons_self ..)
        have hbu : b ∈ unl listed ops.size := by rw [hsplit]; exact List.mem_append_left _ hb
        obtain ⟨_, hbl⟩ := List.mem_filter.1 hbu
        rcases pairsB_spec (hspec i o ho').2 b x hx (by omega) with hc | hc
        · exfalso
          rw [Nat.zero_add, Nat.zero_add] at hc
          have hpath : Path ops.toList b i := by
            cases hm : (masksFrom [] ops.toList)[i]? with
            | none => rw [List.getD_eq_getElem?_getD, hm] at hc; simp at hc
            | some m =>
              rw [List.getD_eq_getElem?_getD, hm] at hc
              exact masksFrom_spec ops.toList [] (fun k y hy => by simpa using hy) (fun k m i hk => by simp at hk) i m b hm hc
          have : listed.getD b false = true := by
            cases hpath with
            | edge hp he hb1 hb2 =>
              rw [ho'] at hp
              obtain rfl := Option.some.inj hp
              rw [← hb2]; exact h3 _ he hb1
            | more hp he hb1 hp2 =>
              rw [ho'] at hp
              obtain rfl := Option.some.inj hp
              exact hcl.path hp2 (h3 _ he hb1)
          simp only [Bool.not_eq_true'] at hbl
          rw [Array.getD_eq_getD_getElem?] at this hbl
          cases hq : listed[b]? with
          | none => rw [hq] at this; cases this
          | some q => rw [hq] at this hbl; simp only [Option.getD_some] at this hbl; rw [this] at hbl; cases hbl
        · simpa using hc
      obtain ⟨s1, k1, k2⟩ := bubble (fun g S hS => (hΓ g S hS).spec) ho' post pre st hsw (WFn_of h o) hl
      unfold wpOp
      rw [ho]
      simp only
      have hone := runOne_sound hT hΓ (flagF C.md ops.toList (masksFrom [] ops.toList) i) ops.toList o (Q := Q) (k := some) (r := s1) h k1 (K := wpAny P .any ops Q fuel (listed.setIfInBounds i true)) fun G' st' z w' j1 j2 j3 => by
        obtain rfl := Option.some.inj j3
        have hu : unl (listed.setIfInBounds i true) ops.size = pre ++ post := by
          rw [unl_set (by omega), filter_split hnd hsplit]
        refine ih _ G' st' _ w' (by simpa using hsz) ?_ ?_ j1 (hK.trans j2) (by rw [hu]; exact k2)
        · have hset : ∀ c, listed.getD c false = true → (listed.setIfInBounds i true).getD c false = true := by
            intro c hc
            rw [Array.getD_eq_getD_getElem?, Array.getElem?_setIfInBounds]
            rw [Array.getD_eq_getD_getElem?] at hc
            by_cases e : i = c
            · subst e; rw [if_pos rfl, if_pos (by omega)]; rfl
            · rw [if_neg e]; exact hc
          intro c o' hco hlc e he hb
          by_cases e1 : c = i
          · subst e1
            rw [ho] at hco
            obtain rfl := Option.some.inj hco
            exact hset _ (h3 e he hb)
          · refine hset _ (hcl c o' hco ?_ e he hb)
            rw [Array.getD_eq_getD_getElem?, Array.getElem?_setIfInBounds, if_neg (Ne.symm e1)] at hlc
            rw [Array.getD_eq_getD_getElem?]; exact hlc
        rw [hu]
        rw [hsplit] at hlen
        simp only [List.length_append, List.length_cons] at hlen ⊢
        omega
      rw [show ops.toList.toArray = ops by simp] at hone
      split
      · rename_i hw; rw [if_pos hw] at hone; exact .inl hone
      · rename_i hw; rw [if_neg hw] at hone; exact hone

theorem anyOk (hm : P.follows .mixedOrders = true) (hT : TabOk P C.Θ) (hΓ : ∀ g S, C.Γ g = some S → Good P g S) : AnyOk P C (anyB C.md) := by
  intro id ops hB w0 p0 Bs G st a w R k r Q h hr hQ
  refine wp_region_any hm ?_
  have hu : unl (Array.replicate ops.size false) ops.size = List.range' 0 ops.toList.length := by
    unfold unl
    rw [List.filter_eq_self.2, List.range_eq_range', Array.length_toList]
    intro i hi
    have := List.mem_range.1 hi
    simp [Array.getD_eq_getD_getElem?, this]
  refine any_sound (a0 := a) hT hΓ hB hQ ops.size _ G st a _ (by simp) (fun c o _ hc => by rw [Array.getD_eq_getD_getElem?, Array.getElem?_replicate] at hc; split at hc <;> simp at hc) (by rw [hu]; simp) (h.world rfl rfl rfl rfl) (Keep.refl _ _) ?_
  rw [hu]
  exact lex_of_run ops.toList 0 st (fun j => by rw [Nat.zero_add]) hr

end
end Go.Vx
