/-
  What a function's row says of it; a call of such a function.
-/
import Derived.Test.YtgdfaamcmkfkcaaVxSaved
set_option linter.unusedSimpArgs false
set_option linter.unusedVariables false
set_option linter.unnecessarySimpa false
namespace Go.Vx

def RetV (outs : List (Nat × SSh)) (v : Value) (V : Nat → Value) : Prop :=
  match outs with
  | [] => True
  | [_] => v = V 0
  | _ :: _ :: r => v = .tuple ((List.range (r.length + 2)).map V).toArray

def slots0 : Nat → List (Nat × SSh) → Bool
  | _, [] => true
  | i, z :: r => Nat.beq z.1 i && slots0 (i + 1) r

def specOk (S : CSpec) : Bool := shD 16 S.ins && shD 5 S.outs && allV S.ins && allV S.outs && slots0 0 S.ins && slots0 0 S.outs && Nat.ble S.outs.length 3

def blocksOf (os : List Own) (b : Nat) : Prop := ∃ o ∈ os, o.blk b

/-- What comes back of what was lent: the same headers; the inner rows may be others. -/
def Own.same : Own → Own → Prop
  | .row t n a c, o => o = .row t n a c
  | .box b, o => o = .box b
  | .deep t n a c _, o => ∃ X, o = .deep t n a c X

def SameL : List Own → List Own → Prop
  | [], qs => qs = []
  | o :: os, qs => ∃ o' qs', qs = o' :: qs' ∧ o.same o' ∧ SameL os qs'

theorem Own.same_refl (o : Own) : o.same o := by
  cases o with
  | deep t n a c X => exact ⟨X, rfl⟩
  | _ => rfl

theorem SameL.append : ∀ {a b c d : List Own}, SameL a b → SameL c d → SameL (a ++ c) (b ++ d)
  | [], _, _, _, h, k => by have h : _ = _ := h; subst h; exact k
  | o :: a, _, c, d, h, k => by
    obtain ⟨o', q, rfl, h1, h2⟩ := h
    exact ⟨o', q ++ d, rfl, h1, SameL.append h2 k⟩

theorem SameL_map {α : Type} (f g : α → Own) : ∀ (E : List α), SameL (E.map f) (E.map g) → ∀ e ∈ E, (f e).same (g e)
  | [], _, _, he => by cases he
  | x :: E, h, e, he => by
    obtain ⟨o', q, h1, h2, h3⟩ := h
    rw [List.map_cons, List.cons.injEq] at h1
    rcases List.mem_cons.1 he with rfl | he
    · rw [h1.1]; exact h2
    · exact SameL_map f g E (by rw [h1.2]; exact h3) e he

/-- Wherever the function S.fn answers, the program's function ends and answers the same; it changes nothing but what it was given. -/
def Contract (P : Program) (f : FuncId) (S : CSpec) : Prop :=
  ∀ x y, S.call x = some y → ∀ (w : World) (p : Nat → Prop) (vs : List Value) (os : List Own), vs.length = S.ins.length →
    IS w p S.ins x (fun s => vs.getD s undef) os → OwnsOk os → (∀ o ∈ os, ∀ b, o.blk b → ¬ p b ∧ b < w.heap.size) →
    Calls P f vs.toArray w fun e w' => ∃ v V os' q os2, e = .returned v ∧ RetV S.outs v V ∧ IS w' q S.outs (fstHL (saveC S.outs) (iosC (saveC S.ins)) (toHL _ y)) V os' ∧ SameL (lents (saveC S.ins) os) os2 ∧
      IO w' q (saveC S.ins) (sndHL (saveC S.outs) (iosC (saveC S.ins)) (toHL _ y)) os2 ∧ Given w p (blocksOf os) w' q (os' ++ os2) ∧ Fr w (blocksOf os) w'

theorem slots0_mem : ∀ {sh : List (Nat × SSh)} {i : Nat}, slots0 i sh = true → ∀ z ∈ sh, i ≤ z.1 ∧ z.1 < i + sh.length
  | [], _, _, _, hz => by cases hz
  | y :: r, i, h, z, hz => by
    simp only [slots0, Bool.and_eq_true, Nat.beq_eq] at h
    rcases List.mem_cons.1 hz with rfl | hz
    · simp only [List.length_cons]; omega
    · have := slots0_mem h.2 z hz
      simp only [List.length_cons]; omega

theorem slots0_at : ∀ {sh : List (Nat × SSh)} {i : Nat}, slots0 i sh = true → ∀ k, k < sh.length → ∃ z ∈ sh, z.1 = i + k
  | [], _, _, k, hk => by simp at hk
  | y :: r, i, h, k, hk => by
    simp only [slots0, Bool.and_eq_true, Nat.beq_eq] at h
    cases k with
    | zero => exact ⟨y, List.mem_cons_self .., h.1⟩
    | succ k =>
      obtain ⟨z, hz, h3⟩ := slots0_at h.2 k (by simpa using hk)
      exact ⟨z, List.mem_cons_of_mem _ hz, by omega⟩

section
variable {w w' : World} {q : Nat → Prop}

theorem outIos_sound : ∀ (cs : List Cm) (x : HL (iosC cs)) (os : List Own) (ns : List Nat) (obj obj1 : Nat → AObj), IO w q cs x os → outIos (iosC cs) x ns obj = some obj1 →
    ∃ E : List Ent, obj1 = setE E obj ∧ E.map (·.n) = ns ∧ E.map (·.o) = os ∧ (∀ e ∈ E, Fit e) ∧ (∀ e ∈ E, ∀ tid ty xs, e.b = .row tid ty xs → ∃ a c, e.o = .row ty xs.length a c) ∧
      (∀ e ∈ E, ∀ tid d k xs h, e.b = .deep tid d k xs h → ∃ a c X, e.o = .deep d.ty (List.length xs) a c X) ∧
      ∀ (G : Gh) (obj' : Nat → AObj) (q' : Nat → Prop), (∀ b, q b → q' b) → (∀ e ∈ E, Has G obj' e) → ∀ e ∈ E, RO w q' G obj' e.n e.b
  | [], x, os, ns, obj, obj1, h, ho => by
    have h : os = [] := h
    subst h
    cases ns with
    | cons _ _ => cases ho
    | nil =>
      obtain rfl := Option.some.inj ho
      exact ⟨[], rfl, rfl, rfl, fun _ h => (by cases h), fun _ h => (by cases h), fun _ h => (by cases h), fun _ _ _ _ _ _ h => (by cases h)⟩
  | .val _ :: cs, x, os, ns, obj, obj1, h, ho => outIos_sound cs x os ns obj obj1 h ho
  | .own _ _ :: cs, x, os, ns, obj, obj1, h, ho => outIos_sound cs x os ns obj obj1 h ho
  | .dp _ _ _ :: cs, x, os, ns, obj, obj1, h, ho => outIos_sound cs x os ns obj obj1 h ho
  | .dlent tid d :: cs, x, os, ns, obj, obj1, h, ho => by
    obtain ⟨a, c, X, os, rfl, h1, h2⟩ := h
    cases ns with
    | nil => cases ho
    | cons n ns =>
      simp only [iosC, outIos] at ho
      split at ho
      · rename_i o hx
        obtain rfl := Option.some.inj ho
        obtain ⟨E, e1, e2, e3, e4, e5, e7, e6⟩ := outIos_sound cs x.2 os ns obj o h2 hx
        refine ⟨⟨n, .deep d.ty (List.length x.1) a c X, .deep tid d none x.1 none⟩ :: E, by rw [e1]; rfl, by rw [List.map_cons, e2], by rw [List.map_cons, e3], fun z hz => ?_, fun z hz => ?_, fun z hz => ?_, fun G obj' q' hq hH z hz => ?_⟩
        · rcases List.mem_cons.1 hz with rfl | hz
          · exact .inr (.inr ⟨_, _, _, _, _, _, _, rfl, rfl, rfl, rfl⟩)
          · exact e4 z hz
        · rcases List.mem_cons.1 hz with rfl | hz
          · intro t' ty xs hx
            cases hx
          · exact e5 z hz
        · rcases List.mem_cons.1 hz with rfl | hz
          · intro tid' d' k' xs' h' hx
            injection hx with _ hx2 _ hx4
            subst hx2
            obtain rfl := eq_of_heq hx4
            exact ⟨a, c, X, rfl⟩
          · exact e7 z hz
        · rcases List.mem_cons.1 hz with rfl | hz
          · exact deep_RO (pt := false) (o := .deep d.ty (List.length x.1) a c X) h1 hq ⟨rfl, rfl, rfl⟩ (hH _ (List.mem_cons_self ..))
          · exact e6 G obj' q' hq (fun e he => hH e (List.mem_cons_of_mem _ he)) z hz
      · cases ho
  | .row tid e :: cs, x, os, ns, obj, obj1, h, ho => by
    obtain ⟨a, c, os, rfl, h1, h2⟩ := h
    cases ns with
    | nil => cases ho
    | cons n ns =>
      simp only [iosC, outIos] at ho
      split at ho
      · rename_i o hx
        obtain rfl := Option.some.inj ho
        obtain ⟨E, e1, e2, e3, e4, e5, e7, e6⟩ := outIos_sound cs x.2 os ns obj o h2 hx
        refine ⟨⟨n, .row e (List.length x.1) a c, .row tid e x.1⟩ :: E, by rw [e1]; rfl, by rw [List.map_cons, e2], by rw [List.map_cons, e3], fun z hz => ?_, fun z hz => ?_, fun z hz => ?_, fun G obj' q' hq hH z hz => ?_⟩
        · rcases List.mem_cons.1 hz with rfl | hz
          · exact .inl ⟨_, _, _, _, _, _, _, rfl, rfl⟩
          · exact e4 z hz
        · rcases List.mem_cons.1 hz with rfl | hz
          · intro t' ty xs hx
            injection hx with _ hx2 hx3
            subst hx2
            obtain rfl := eq_of_heq hx3
            exact ⟨a, c, rfl⟩
          · exact e5 z hz
        · rcases List.mem_cons.1 hz with rfl | hz
          · intro _ _ _ _ _ hx; cases hx
          · exact e7 z hz
        · rcases List.mem_cons.1 hz with rfl | hz
          · exact row_RO h1 hq (hH _ (List.mem_cons_self ..))
          · exact e6 G obj' q' hq (fun e he => hH e (List.mem_cons_of_mem _ he)) z hz
      · cases ho
  | .box t :: cs, x, os, ns, obj, obj1, h, ho => by
    obtain ⟨b, os, rfl, ⟨bc, tid, h0, h1⟩, h2⟩ := h
    cases ns with
    | nil => cases ho
    | cons n ns =>
      simp only [iosC, outIos] at ho
      split at ho
      · rename_i o hx
        obtain rfl := Option.some.inj ho
        obtain ⟨E, e1, e2, e3, e4, e5, e7, e6⟩ := outIos_sound cs x.2 os ns obj o h2 hx
        refine ⟨⟨n, .box b, .box (leavesOf t x.1)⟩ :: E, by rw [e1]; rfl, by rw [List.map_cons, e2], by rw [List.map_cons, e3], fun z hz => ?_, fun z hz => ?_, fun z hz => ?_, fun G obj' q' hq hH z hz => ?_⟩
        · rcases List.mem_cons.1 hz with rfl | hz
          · exact .inr (.inl ⟨_, _, rfl, rfl⟩)
          · exact e4 z hz
        · rcases List.mem_cons.1 hz with rfl | hz
          · intro t' ty xs hx
            cases hx
          · exact e5 z hz
        · rcases List.mem_cons.1 hz with rfl | hz
          · intro _ _ _ _ _ hx; cases hx
          · exact e7 z hz
        · rcases List.mem_cons.1 hz with rfl | hz
          · have := (hH _ (List.mem_cons_self ..)).2.2.1 _ rfl
            simp only [Own.box.injEq] at this
            exact ⟨bc, tid, by rw [← this]; exact h0, leavesOf_sound t _ _ (Rep.mono (fun b hb _ => ⟨hq b hb, rfl⟩) t _ _ h1)⟩
          · exact e6 G obj' q' hq (fun e he => hH e (List.mem_cons_of_mem _ he)) z hz
      · cases ho

theorem free_none {obj : Nat → AObj} : ∀ {k nm : Nat}, free obj nm k = true → ∀ n, nm ≤ n → n < nm + k → obj n = .none
  | 0, nm, _, n, h1, h2 => by omega
  | k + 1, nm, h, n, h1, h2 => by
    simp only [free] at h
    split at h
    · rename_i h0
      by_cases e : n = nm
      · rw [e]; exact h0
      · exact free_none h n (by omega) (by omega)
    · cases h

theorem resAV_sound {p : Nat → Prop} {G : Gh} {obj : Nat → AObj} {outs : List (Nat × SSh)} (hs : slots0 0 outs = true) {env : Nat → AV} {v : Value} {V : Nat → Value} (hv : RetV outs v V)
    (h : ∀ z ∈ outs, RV w p G obj (env z.1) (V z.1)) : RV w p G obj (resAV outs env) v := by
  have hall : ∀ k, k < outs.length → RV w p G obj (env k) (V k) := fun k hk => by
    obtain ⟨z, hz, h1⟩ := slots0_at hs k hk
    have := h z hz
    rwa [h1, Nat.zero_add] at this
  match outs, hv, hall with
  | [], _, _ => trivial
  | [_], hv, hall =>
    have hv : v = V 0 := hv
    rw [hv]; exact hall 0 (by simp)
  | _ :: _ :: r, hv, hall =>
    refine ⟨(List.range (r.length + 2)).map V, hv, ?_⟩
    have go : ∀ l : List Nat, (∀ k ∈ l, k < r.length + 2) → RT w p G obj (l.map fun s => avLeaves (env s)) (l.map V) := by
      intro l
      induction l with
      | nil => intro _; rfl
      | cons k l ih =>
        intro hl
        refine ⟨_, _, rfl, ?_, ih fun j hj => hl j (List.mem_cons_of_mem _ hj)⟩
        have hk := hall k (by simpa using hl k (List.mem_cons_self ..))
        show R1 w p G obj (avLeaves (env k)).1 (avLeaves (env k)).2 (V k)
        generalize env k = z at hk
        cases z with
        | sc l' => exact hk
        | ag l' => exact hk
        | no => exact trivial
        | un => exact trivial
        | tup _ => exact trivial
    exact go _ fun k hk => List.mem_range.1 hk

end

section
variable {P : Program} {C : Cfg} {N : Nat} {w0 : World} {p0 Bs : Nat → Prop} {G : Gh} {st : St} {a : Act} {w : World}

theorem callE_sound (h : Rel N w0 p0 Bs G st a w) {g : FuncId} {S : CSpec} (hC : Contract P g S) (hS : specOk S = true) {args : List AV} {vs : List Value} (hl : args.length = vs.length)
    (hv : ∀ s, RV w (reg w0 p0 Bs G st.obj) G st.obj (args.getD s .no) (vs.getD s undef)) {d : Nat} (hd : d < N) {R : Type} {k : St → Option R} {r : R} (hk : callE S st args d k = some r) :
    Calls P g vs.toArray w fun e w' => ∃ v G' st', e = .returned v ∧ Rel N w0 p0 Bs G' st' (a.put (some d) v) w' ∧ k st' = some r := by
  unfold callE at hk
  split at hk
  · cases hk
  · rename_i x tk hsv
    obtain ⟨hc, hk2⟩ := cond_some hk
    clear hk
    simp only [Bool.and_eq_true, Nat.beq_eq] at hc
    obtain ⟨⟨hc1, hc2⟩, hc3⟩ := hc
    simp only [specOk, Bool.and_eq_true] at hS
    obtain ⟨⟨⟨⟨⟨⟨s1, s2⟩, s3⟩, s4⟩, s5⟩, s6⟩, s7⟩ := hS
    have s7 := Nat.le_of_ble_eq_true s7
    cases hy : S.call x with
    | none => rw [hy] at hk2; cases hk2
    | some y =>
      rw [hy] at hk2
      simp only [Option.bind_some] at hk2
      obtain ⟨nms, t1, t2, t3, t4⟩ := h.saved hv hsv hc2
      have t4 := t4 s3
      have hown : ∀ b, blocksOf (nms.map (ownAt G st.obj)) b ↔ ∃ n ∈ nms.filterMap id, blk G st.obj n b := by
        intro b
        constructor
        · rintro ⟨o, ho, hb⟩
          obtain ⟨z, hz, rfl⟩ := List.mem_map.1 ho
          obtain ⟨n, rfl, hn, h3⟩ := ownAt_some t1 hz hb
          exact ⟨n, hn, h3⟩
        · rintro ⟨n, hn, hb⟩
          obtain ⟨z, hz, hzn⟩ := List.mem_filterMap.1 hn
          have hzn : z = some n := hzn
          subst hzn
          exact ⟨_, List.mem_map_of_mem hz, by rw [ownAt_blk (t1.taken n hn).1]; exact hb⟩
      refine (hC x y hy w _ vs _ (by rw [← hl, hc1]) t2 t3.ok (fun o ho b hb => ⟨(t3.out o ho b hb).1, (t3.out o ho b hb).2.1⟩)).mono ?_
      rintro e w' ⟨v, V, os', q', os2, rfl, hret, hIS, hSame, hIO, hG, hF⟩
      split at hk2
      · cases hk2
      · rename_i obj hios
        -- the region of what comes back
        have hq2 : ∃ q2 : Nat → Prop, IS w' q2 S.outs (fstHL (saveC S.outs) (iosC (saveC S.ins)) (toHL _ y)) V os' ∧
            IO w' q2 (saveC S.ins) (sndHL (saveC S.outs) (iosC (saveC S.ins)) (toHL _ y)) os2 ∧
            (∀ b, q2 b → q' b ∧ S.flat = false) := by
          cases hf : S.flat with
          | false => exact ⟨q', hIS, hIO, fun b hb => ⟨hb, rfl⟩⟩
          | true =>
            simp only [CSpec.flat, Bool.and_eq_true] at hf
            exact ⟨fun _ => False, IS.flat S.outs _ V os' hf.1 hIS, IO.flat (saveC S.ins) _ _ hf.2 hIO, fun b hb => hb.elim⟩
        obtain ⟨q2, hIS2, hIO2, hq2⟩ := hq2
        obtain ⟨E2, i1, i2, i3, i4, i5, i7, i6⟩ := outIos_sound (saveC S.ins) _ _ _ _ _ hIO2 hios
        have hsep : ∀ s s' n, s ≠ s' → d * 16 + s * 5 ≤ n → n < d * 16 + s * 5 + 5 → d * 16 + s' * 5 ≤ n → n < d * 16 + s' * 5 + 5 → False := by intro s s' n h1 h2 h3 h4 h5; omega
        obtain ⟨E1, r1, r2, r3, r4, r5, r6, r7⟩ := restore_sound (nf := fun s => d * 16 + s * 5) hsep ⟨fun _ => .no, obj⟩ S.outs _ os' s2 hIS2
        have hfree : ∀ n ∈ E1.map (·.n), st.obj n = .none := by
          intro n hn
          obtain ⟨e, he, rfl⟩ := List.mem_map.1 hn
          obtain ⟨z, hz, z1, z2⟩ := r4 e he
          have := (slots0_mem s6 z hz).2
          have z1 : d * 16 + z.1 * 5 ≤ e.n := z1
          have z2 : e.n < d * 16 + z.1 * 5 + 5 := z2
          exact free_none hc3 e.n (by omega) (by omega)
        have hln : ∀ n, n ∈ tk.ios.reverse → n ∈ nms.filterMap id := by
          intro n hn
          have : some n ∈ lents (saveC S.ins) nms := by rw [t4]; exact List.mem_map_of_mem hn
          exact List.mem_filterMap.2 ⟨some n, (lents_sub _ _).subset this, rfl⟩
        have hlnd : (tk.ios.reverse).Nodup := by
          have hsub : (tk.ios.reverse.map some).Sublist nms := t4 ▸ lents_sub (saveC S.ins) nms
          have := hsub.filterMap id
          rw [List.filterMap_map] at this
          have e : (tk.ios.reverse.filterMap (id ∘ some)) = tk.ios.reverse := by simp
          rw [e] at this
          exact this.nodup t1.nodup
        have hnd : ((E1 ++ E2).map (·.n)).Nodup := by
          rw [List.map_append, List.nodup_append]
          refine ⟨r5, by rw [i2]; exact hlnd, fun x hx z hz e => ?_⟩
          subst e
          rw [i2] at hz
          have := (t1.taken x (hln x hz)).1
          rw [hfree x hx] at this; cases this
        have hfit : ∀ e ∈ E1 ++ E2, Fit e := fun e he => by
          rcases List.mem_append.1 he with he | he
          · exact r3 e he
          · exact i4 e he
        let base : Nat → AObj := cond S.flat tk.obj (killO tk.obj tk.sh)
        obtain ⟨G', g1, g2⟩ := exists_gh (E1 ++ E2) G base hnd hfit
        have hobj : (restore (fun s => d * 16 + s * 5) S.outs (fstHL (saveC S.outs) (iosC (saveC S.ins)) (toHL _ y)) ⟨fun _ => .no, obj⟩).obj = setE (E1 ++ E2) base := by
          rw [r1, setE_append, i1]
        generalize hob : setE (E1 ++ E2) base = obj' at *
        have hEo : (E1 ++ E2).map (·.o) = os' ++ os2 := by rw [List.map_append, r2, i3]
        have hbase : ∀ n, live (base n) = true → base n = st.obj n ∧ n ∉ nms.filterMap id ∧ (S.flat = false → n ∉ tk.sh) := by
          intro n hn
          cases hf : S.flat with
          | true =>
            simp only [base, hf, cond_true] at hn ⊢
            obtain ⟨k1, k2⟩ := t1.of_live hn
            exact ⟨k2, k1, fun h => by cases h⟩
          | false =>
            simp only [base, hf, cond_false] at hn ⊢
            rcases killO_cases tk.sh tk.obj n with ⟨k1, k2⟩ | ⟨k1, k2⟩
            · rw [k2] at hn ⊢
              obtain ⟨k3, k4⟩ := t1.of_live hn
              exact ⟨k4, k3, fun _ => k1⟩
            · rw [k2] at hn; cases hn
        have hbnone : ∀ n, st.obj n ≠ .none → base n ≠ .none := by
          intro n hn
          have htk : tk.obj n ≠ .none := t1.tr (w := w) (p := fun _ => True) (G := G).names n hn
          cases hf : S.flat with
          | true => simp only [base, hf, cond_true]; exact htk
          | false =>
            simp only [base, hf, cond_false]
            rcases killO_cases tk.sh tk.obj n with ⟨_, k2⟩ | ⟨_, k2⟩
            · rw [k2]; exact htk
            · rw [k2]; simp
        have hother : ∀ n, n ∉ (E1 ++ E2).map (·.n) → obj' n = base n := fun n hn => by rw [← hob]; exact setE_other _ _ n hn
        -- whose blocks they are
        have hblk : ∀ n b, blk G' obj' n b → (∃ e ∈ E1 ++ E2, e.n = n ∧ e.o.blk b) ∨ (n ∉ (E1 ++ E2).map (·.n) ∧ base n = st.obj n ∧ n ∉ nms.filterMap id ∧ (S.flat = false → n ∉ tk.sh) ∧ blk G st.obj n b) := by
          intro n b hb
          by_cases hn : n ∈ (E1 ++ E2).map (·.n)
          · obtain ⟨e, he, rfl⟩ := List.mem_map.1 hn
            exact .inl ⟨e, he, rfl, by rw [← (g1 e he).blk (hfit e he)]; exact hb⟩
          · have hl := blk_live hb
            rw [hother n hn] at hl
            obtain ⟨k1, k2, k3⟩ := hbase n hl
            refine .inr ⟨hn, k1, k2, k3, ?_⟩
            obtain ⟨j1, j2, j3⟩ := g2 n hn
            simp only [blk, hother n hn, k1, j1, j2, j3] at hb ⊢
            exact hb
        have hout : ∀ e ∈ E1 ++ E2, ∀ b, e.o.blk b → ¬ q' b ∧ b < w'.heap.size ∧ ((∃ n ∈ nms.filterMap id, blk G st.obj n b) ∨ w.heap.size ≤ b) := by
          intro e he b hb
          have hm : e.o ∈ os' ++ os2 := hEo ▸ List.mem_map_of_mem he
          obtain ⟨k1, k2, k3⟩ := hG.out _ hm b hb
          exact ⟨k1, k2, k3.imp (fun k => (hown b).1 k) id⟩
        have hreg : ∀ b, q2 b → reg w0 p0 Bs G' obj' b := by
          intro b hb
          obtain ⟨hb, hf⟩ := hq2 b hb
          have hr := hG.reg b hb
          refine ⟨?_, fun n hn => ?_⟩
          · rcases hr with hr | hr | hr
            · exact t3.reg b hr
            · obtain ⟨m, _, hm⟩ := (hown b).1 hr
              exact .inr (h.bound m b hm).2
            · exact .inr (.inr (Nat.le_trans h.frame.size hr))
          · rcases hblk n b hn with ⟨e, he, _, h2⟩ | ⟨_, _, k3, k4, k5⟩
            · exact (hout e he b h2).1 hb
            · rcases hr with hr | hr | hr
              · rcases hr with hr | ⟨m, hm, hmb⟩
                · exact hr.2 n k5
                · have := h.inj m n b hmb k5
                  exact k4 hf (this ▸ hm)
              · obtain ⟨m, hm, hmb⟩ := (hown b).1 hr
                have := h.inj m n b hmb k5
                exact k3 (this ▸ hm)
              · have := (h.bound n b k5).1; omega
        have hlent : ∀ e ∈ E2, (ownAt G st.obj (some e.n)).same e.o ∧ live (st.obj e.n) = true := by
          intro e he
          have hn : e.n ∈ tk.ios.reverse := i2 ▸ List.mem_map_of_mem he
          refine ⟨?_, (t1.taken e.n (hln e.n hn)).1⟩
          have h1 : SameL (E2.map fun e => ownAt G st.obj (some e.n)) (E2.map (·.o)) := by
            rw [i3]
            rw [lents_map, t4, List.map_map] at hSame
            have : (E2.map fun e => ownAt G st.obj (some e.n)) = (E2.map (·.n)).map fun n => ownAt G st.obj (some n) := by rw [List.map_map]; rfl
            rw [this, i2]
            exact hSame
          exact SameL_map (fun e : Ent => ownAt G st.obj (some e.n)) (·.o) E2 h1 e he
        have hup := h.upd (w' := w') (G' := G') (obj' := obj') hF.os hF.tape hF.output hF.size ?_ ?_ ?_ ?_ ?_ ?_ ?_ ?_
        · obtain ⟨hrel, _⟩ := hup
          rw [hobj] at hk2
          refine ⟨v, G', _, rfl, hrel.put (d := some d) (fun e he => by injection he with he; rw [← he]; exact hd) ?_, hk2⟩
          exact resAV_sound s6 hret (r6 G' obj' _ hreg fun e he => g1 e (List.mem_append_left _ he)).2
        · intro b hlt hno
          refine hF.block b hlt fun hb => ?_
          obtain ⟨n, _, hn⟩ := (hown b).1 hb
          exact hno n hn
        · intro n b hn hlt
          rcases hblk n b hn with ⟨e, he, _, h2⟩ | ⟨_, _, _, _, k5⟩
          · rcases (hout e he b h2).2.2 with ⟨m, _, hm⟩ | hm
            · exact ⟨m, hm⟩
            · omega
          · exact ⟨n, k5⟩
        · intro n hn
          by_cases hm : n ∈ (E1 ++ E2).map (·.n)
          · obtain ⟨e, he, rfl⟩ := List.mem_map.1 hm
            rw [(g1 e he).1]
            rcases hfit e he with ⟨_, _, _, _, _, _, _, k, _⟩ | ⟨_, _, k, _⟩ | ⟨_, _, _, _, _, _, _, k, _⟩ <;> rw [k] <;> simp
          · rw [hother n hm]; exact hbnone n hn
        · intro n ty l hx hne
          by_cases hm : n ∈ (E1 ++ E2).map (·.n)
          · obtain ⟨e, he, rfl⟩ := List.mem_map.1 hm
            rcases List.mem_append.1 he with he1 | he2
            · exact absurd (hfree e.n (List.mem_map_of_mem he1)) hne
            · have hh := g1 e he
              rw [hh.1] at hx
              obtain ⟨k3, k4⟩ := hlent e he2
              cases hb : e.b with
              | none => rw [hb] at hx; cases hx
              | dead => rw [hb] at hx; cases hx
              | box _ => rw [hb] at hx; cases hx
              | deep tid d kk xs h =>
                rw [hb] at hx
                simp only [rowOf, Option.some.injEq, Prod.mk.injEq] at hx
                obtain ⟨rfl, rfl⟩ := hx
                obtain ⟨a1, c1, X1, k1⟩ := i7 e he2 tid d kk xs h hb
                have k2 := hh.2.2.2 tid d kk xs h hb
                rw [k1] at k2 k3
                obtain ⟨k21, k22, _⟩ := k2
                cases ho : st.obj e.n with
                | none => rw [ho] at k4; cases k4
                | dead => rw [ho] at k4; cases k4
                | box ls => simp only [ownAt, ho] at k3; cases k3
                | row _ _ _ => simp only [ownAt, ho] at k3; cases k3
                | deep tid' d' kk' xs' h' =>
                  simp only [ownAt, ho] at k3
                  obtain ⟨X', k3⟩ := k3
                  simp only [Own.deep.injEq] at k3
                  obtain ⟨k31, k32, k33, k34, _⟩ := k3
                  refine ⟨by simp [rowOf, k31, k32], ?_⟩
                  rw [Prod.ext_iff]
                  exact ⟨by rw [← k21, k33], by rw [← k22, k34]⟩
              | row tid ty' xs =>
                rw [hb] at hx
                simp only [rowOf, Option.some.injEq, Prod.mk.injEq] at hx
                obtain ⟨rfl, rfl⟩ := hx
                obtain ⟨a1, c1, k1⟩ := i5 e he2 tid ty' xs hb
                obtain ⟨t2', n2', k2⟩ := hh.2.1 tid ty' xs hb
                rw [k1] at k2 k3
                simp only [Own.row.injEq] at k2
                cases ho : st.obj e.n with
                | none => rw [ho] at k4; cases k4
                | dead => rw [ho] at k4; cases k4
                | box ls => simp only [ownAt, ho] at k3; cases k3
                | deep _ _ _ _ _ => simp only [ownAt, ho] at k3; obtain ⟨_, k3⟩ := k3; cases k3
                | row tid' e' xs' =>
                  simp only [ownAt, ho] at k3
                  have k3 : _ = _ := k3
                  simp only [Own.row.injEq] at k3
                  obtain ⟨k31, k5, k6, k7⟩ := k3
                  refine ⟨by simp [rowOf, k31, k5], ?_⟩
                  rw [Prod.ext_iff]
                  exact ⟨by rw [← k2.2.2.1, k6], by rw [← k2.2.2.2, k7]⟩
          · rw [hother n hm] at hx
            obtain ⟨k1, _, _⟩ := hbase n (by cases hb : base n <;> (first | rfl | (rw [hb] at hx; cases hx)))
            exact ⟨by rw [← k1]; exact hx, (g2 n hm).1⟩
        · intro n ls hx hne
          by_cases hm : n ∈ (E1 ++ E2).map (·.n)
          · obtain ⟨e, he, rfl⟩ := List.mem_map.1 hm
            rcases List.mem_append.1 he with he1 | he2
            · exact absurd (hfree e.n (List.mem_map_of_mem he1)) hne
            · have hh := g1 e he
              rw [hh.1] at hx
              have k1 := hh.2.2.1 ls hx
              obtain ⟨k3, k4⟩ := hlent e he2
              rw [k1] at k3
              cases ho : st.obj e.n with
              | none => rw [ho] at k4; cases k4
              | dead => rw [ho] at k4; cases k4
              | box ls' =>
                simp only [ownAt, ho] at k3
                have k3 : _ = _ := k3
                simp only [Own.box.injEq] at k3
                exact ⟨⟨ls', rfl⟩, k3⟩
              | row tid' e' xs' => simp only [ownAt, ho] at k3; cases k3
              | deep _ _ _ _ _ => simp only [ownAt, ho] at k3; obtain ⟨_, k3⟩ := k3; cases k3
          · rw [hother n hm] at hx
            obtain ⟨k1, _, _⟩ := hbase n (by rw [hx]; rfl)
            exact ⟨⟨ls, by rw [← k1]; exact hx⟩, (g2 n hm).2.1⟩
        · intro tr n
          by_cases hm : n ∈ (E1 ++ E2).map (·.n)
          · obtain ⟨e, he, rfl⟩ := List.mem_map.1 hm
            rw [(g1 e he).1]
            rcases List.mem_append.1 he with he1 | he2
            · exact (r6 G' obj' _ hreg fun e he => g1 e (List.mem_append_left _ he)).1 e he1
            · exact i6 G' obj' _ hreg (fun e he => g1 e (List.mem_append_right _ he)) e he2
          · rw [hother n hm]
            cases hlv : live (base n) with
            | false => cases hb : base n <;> (try trivial) <;> (rw [hb] at hlv; cases hlv)
            | true =>
              obtain ⟨k1, k2, _⟩ := hbase n hlv
              rw [k1]
              obtain ⟨j1, j2, j3⟩ := g2 n hm
              refine RO.kept tr rfl j1 j2 j3 (fun b hb => ?_) (h.objs n)
              refine hF.block b (h.bound n b hb).1 fun hbb => ?_
              obtain ⟨m, hm', hmb⟩ := (hown b).1 hbb
              have := h.inj m n b hmb hb
              exact k2 (this ▸ hm')
        · intro m n b h1 h2
          rcases hblk m b h1 with ⟨e, he, rfl, k1⟩ | ⟨_, _, k2, _, k3⟩ <;> rcases hblk n b h2 with ⟨e', he', rfl, j1⟩ | ⟨_, _, j2, _, j3⟩
          · exact pair_eq hG.ok hEo he he' k1 j1
          · rcases (hout e he b k1).2.2 with ⟨m, hm, hmb⟩ | hm
            · have := h.inj m n b hmb j3
              exact absurd (this ▸ hm) j2
            · have := (h.bound n b j3).1; omega
          · rcases (hout e' he' b j1).2.2 with ⟨m', hm, hmb⟩ | hm
            · have := h.inj m' m b hmb k3
              exact absurd (this ▸ hm) k2
            · have := (h.bound m b k3).1; omega
          · exact h.inj m n b k3 j3
        · intro n b hb
          rcases hblk n b hb with ⟨e, he, _, k1⟩ | ⟨_, _, _, _, k3⟩
          · obtain ⟨_, k2, k4⟩ := hout e he b k1
            refine ⟨k2, ?_⟩
            rcases k4 with ⟨m, _, hm⟩ | hm
            · exact (h.bound m b hm).2
            · exact .inr (Nat.le_trans h.frame.size hm)
          · have := h.bound n b k3
            exact ⟨Nat.lt_of_lt_of_le this.1 hF.size, this.2⟩

end
end Go.Vx
