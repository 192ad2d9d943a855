/-
  A whole function: from what the reader answers to the function's contract.
-/
import Derived.Test.YtgdfaamcmkfkcaaVxRun
set_option linter.unusedSimpArgs false
set_option linter.unusedVariables false
set_option linter.unnecessarySimpa false
namespace Go.Vx
section
variable {w w' : World} {p q : Nat → Prop} {G : Gh} {obj0 : Nat → AObj} {T : List Nat} {tk : Tk}

theorem IS.congr : ∀ (sh : List (Nat × SSh)) (x : HL (saveC sh)) (V V' : Nat → Value) (os : List Own), (∀ z ∈ sh, V' z.1 = V z.1) → IS w p sh x V os → IS w p sh x V' os
  | [], _, _, _, _, _, h => h
  | (s, .v agg cs) :: r, x, V, V', os, hv, h => by
    obtain ⟨cells, o1, o2, h1, h2, h3, h4⟩ := h
    have := hv (s, .v agg cs) (List.mem_cons_self ..)
    exact ⟨cells, o1, o2, h1, by simp only at this; rw [this]; exact h2, h3, IS.congr r _ V V' o2 (fun z hz => hv z (List.mem_cons_of_mem _ hz)) h4⟩
  | (s, .ptr cs) :: r, x, V, V', os, hv, h => by
    obtain ⟨b, cells, tid, o1, o2, h1, h2, h3, h4, h5⟩ := h
    have := hv (s, .ptr cs) (List.mem_cons_self ..)
    exact ⟨b, cells, tid, o1, o2, h1, by simp only at this; rw [this]; exact h2, h3, h4, IS.congr r _ V V' o2 (fun z hz => hv z (List.mem_cons_of_mem _ hz)) h5⟩

theorem Sh.inj {agg : Bool} {v : Value} {c d : List Value} (h : Sh agg v c) (k : Sh agg v d) : c = d := by
  cases agg with
  | true =>
    have h : v = _ := h
    have k : v = _ := k
    rw [h] at k
    injection k with k
    injection k
  | false =>
    have h : c = _ := h
    have k : d = _ := k
    rw [h, k]

theorem IO.app : ∀ (a b : List Cm) (x : HL (iosC a)) (y : HL (iosC b)) (o1 o2 : List Own), IO w q a x o1 → IO w q b y o2 → IO w q (a ++ b) (iosApp a b x y) (o1 ++ o2)
  | [], _, _, _, _, _, h, k => by have h : _ = _ := h; rw [h]; exact k
  | .val _ :: a, b, x, y, o1, o2, h, k => IO.app a b x y o1 o2 h k
  | .own _ _ :: a, b, x, y, o1, o2, h, k => IO.app a b x y o1 o2 h k
  | .row _ _ :: a, b, x, y, _, o2, h, k => by
    obtain ⟨c, d, os, rfl, h1, h2⟩ := h
    exact ⟨c, d, os ++ o2, rfl, h1, IO.app a b x.2 y os o2 h2 k⟩
  | .box _ :: a, b, x, y, _, o2, h, k => by
    obtain ⟨c, os, rfl, h1, h2⟩ := h
    exact ⟨c, os ++ o2, rfl, h1, IO.app a b x.2 y os o2 h2 k⟩
  | .dp _ _ _ :: a, b, x, y, o1, o2, h, k => IO.app a b x y o1 o2 h k
  | .dlent _ _ :: a, b, x, y, _, o2, h, k => by
    obtain ⟨a', c, X, os, rfl, h1, h2⟩ := h
    exact ⟨a', c, X, os ++ o2, rfl, h1, IO.app a b x.2 y os o2 h2 k⟩

theorem noIos_sound : ∀ (cs : List Cm) (tk : Tk) (y : HL (iosC cs)) (tk' : Tk) (os : List Own), noLent cs = true → noIos cs tk = some (y, tk') → tk' = tk ∧ IO w q cs y [] ∧ lents cs os = []
  | [], tk, y, tk', os, _, h => by
    obtain ⟨_, rfl⟩ := Prod.mk.inj (Option.some.inj h)
    exact ⟨rfl, rfl, rfl⟩
  | .val _ :: cs, tk, y, tk', os, hn, h => noIos_sound cs tk y tk' os hn h
  | .own _ _ :: cs, tk, y, tk', os, hn, h => by
    cases os with
    | nil => obtain ⟨h1, h2, _⟩ := noIos_sound cs tk y tk' [] hn h; exact ⟨h1, h2, rfl⟩
    | cons o os => exact noIos_sound cs tk y tk' os hn h
  | .dp _ _ _ :: cs, tk, y, tk', os, hn, h => by
    cases os with
    | nil => obtain ⟨h1, h2, _⟩ := noIos_sound cs tk y tk' [] hn h; exact ⟨h1, h2, rfl⟩
    | cons o os => exact noIos_sound cs tk y tk' os hn h
  | .row _ _ :: _, _, _, _, _, hn, _ => by cases hn
  | .box _ :: _, _, _, _, _, hn, _ => by cases hn
  | .dlent _ _ :: _, _, _, _, _, hn, _ => by cases hn

theorem app_len {c1 c2 d1 d2 : List Value} (h : c1 ++ c2 = d1 ++ d2) (hl : c1.length = d1.length) : c1 = d1 ∧ c2 = d2 := List.append_inj h hl

theorem finL_sound {w0 : World} {p0 : Nat → Prop} (hO : ∀ n, RO w p G obj0 n (obj0 n)) (q : Nat → Prop) : ∀ (cs : List Cm) (x : HL cs) (ls : List Leaf) (T : List Nat) (tk : Tk) (cells : List Value) (os : List Own) (y : HL (iosC cs)) (tk' : Tk),
    TkI obj0 T tk → IL w0 p0 cs x cells os → RLs w p G obj0 ls cells → finL cs ls tk = some (y, tk') → (∀ b, withSh p G obj0 tk'.sh b → q b) →
    ∃ nms : List (Option Nat), TkI obj0 (T ++ nms.filterMap id) tk' ∧ IO w q cs y (nms.map (ownAt G obj0)) ∧ SameL (lents cs os) (nms.map (ownAt G obj0)) ∧ (∃ s, tk'.sh = s ++ tk.sh)
  | [], x, ls, T, tk, cells, os, y, tk', hI, _, _, h, _ => by
    obtain ⟨_, rfl⟩ := Prod.mk.inj (Option.some.inj h)
    exact ⟨[], by simpa using hI, rfl, rfl, [], rfl⟩
  | .val t :: cs, x, ls, T, tk, cells, os, y, tk', hI, hl, hr, h, hq => by
    simp only [finL] at h
    split at h
    · rename_i m r hm
      obtain ⟨c1, c2, rfl, l1, l2⟩ := hl
      obtain ⟨_, d1, d2, e1, e2, e3, e4⟩ := takeC_sound _ _ _ _ _ hr hm
      obtain ⟨rfl, rfl⟩ := app_len e1 (by rw [e2, Rep.length t _ _ l1])
      exact finL_sound hO q cs x.2 r T tk c2 os y tk' hI l2 e4 h hq
    · cases h
  | .dp _ _ _ :: cs, x, [], T, tk, cells, os, y, tk', _, _, _, h, _ => by simp [finL] at h
  | .dlent _ _ :: cs, x, [], T, tk, cells, os, y, tk', _, _, _, h, _ => by simp [finL] at h
  | .dp pt tid d :: cs, x, l :: ls, T, tk, cells, os, y, tk', hI, hl, hr, h, hq => by
    obtain ⟨hs, h⟩ := cond_some h
    obtain ⟨a, c, _, _, r, os, rfl, rfl, _, _, l2⟩ := hl
    obtain ⟨d1, d2, e1, e3, e4⟩ := RLs.cons hr
    have hd := RL.length l d1 e3
    rw [Nat.eq_of_beq_eq_true hs] at hd
    obtain ⟨rfl, rfl⟩ := app_len (c1 := [.slice a (List.length (dXs pt x.1)) c]) (c2 := r) e1 (by rw [hd]; rfl)
    exact finL_sound hO q cs x.2 ls T tk r os y tk' hI l2 e4 h hq
  | .dlent tid d :: cs, x, l :: ls, T, tk, cells, os, y, tk', hI, hl, hr, h, hq => by
    simp only [finL] at h
    split at h
    · cases h
    · rename_i xs tk1 h1
      split at h
      · cases h
      · rename_i z tk2 h2
        obtain ⟨rfl, rfl⟩ := Prod.mk.inj (Option.some.inj h)
        obtain ⟨a, c, X, r, os, rfl, rfl, _, l2⟩ := hl
        obtain ⟨d1, d2, e1, e3, e4⟩ := RLs.cons hr
        obtain ⟨n, a', c', X', j1, j2, j3, j4, j5, j7⟩ := takeDl_sound hI hO e3 h1
        rw [j2] at e1
        simp only [List.singleton_append, List.cons.injEq, Value.slice.injEq] at e1
        obtain ⟨⟨rfl, hlen, rfl⟩, rfl⟩ := e1
        obtain ⟨nms, i1, i2, i3, s, i4⟩ := finL_sound hO q cs x.2 ls _ tk1 r os z tk2 j1 l2 e4 h2 hq
        refine ⟨some n :: nms, ?_, ⟨_, _, _, _, by rw [List.map_cons, j3], j4.mono (fun b hb _ => ⟨hq b (.inl hb), rfl⟩) (fun _ _ => rfl), i2⟩, ?_, s, by rw [i4, j5]⟩
        · rw [List.append_assoc] at i1; exact i1
        · show SameL (_ :: lents cs os) (ownAt G obj0 (some n) :: _)
          exact ⟨_, _, rfl, by rw [j3, ← hlen]; exact ⟨X', rfl⟩, i3⟩
  | .own _ _ :: cs, x, [], T, tk, cells, os, y, tk', _, _, _, h, _ => by simp [finL] at h
  | .row _ _ :: cs, x, [], T, tk, cells, os, y, tk', _, _, _, h, _ => by simp [finL] at h
  | .box _ :: cs, x, [], T, tk, cells, os, y, tk', _, _, _, h, _ => by simp [finL] at h
  | .own tid e :: cs, x, l :: ls, T, tk, cells, os, y, tk', hI, hl, hr, h, hq => by
    obtain ⟨hs, h⟩ := cond_some h
    obtain ⟨a, c, _, _, r, os, rfl, rfl, _, l2⟩ := hl
    obtain ⟨d1, d2, e1, e3, e4⟩ := RLs.cons hr
    have hd := RL.length l d1 e3
    rw [Nat.eq_of_beq_eq_true hs] at hd
    obtain ⟨rfl, rfl⟩ := app_len (c1 := [.slice a (List.length x.1) c]) (c2 := r) e1 (by rw [hd]; rfl)
    exact finL_sound hO q cs x.2 ls T tk r os y tk' hI l2 e4 h hq
  | .row tid e :: cs, x, l :: ls, T, tk, cells, os, y, tk', hI, hl, hr, h, hq => by
    simp only [finL] at h
    split at h
    · cases h
    · rename_i xs tk1 h1
      split at h
      · cases h
      · rename_i z tk2 h2
        obtain ⟨rfl, rfl⟩ := Prod.mk.inj (Option.some.inj h)
        obtain ⟨a, c, r, os, rfl, rfl, _, l2⟩ := hl
        obtain ⟨d1, d2, e1, e3, e4⟩ := RLs.cons hr
        obtain ⟨nm, a', c', t', k', j1, j2, j3, j4, j5, _, j7⟩ := takeRow_sound hI hO e3 h1
        obtain ⟨rfl, rfl, n, rfl, _⟩ := j7 rfl
        rw [j2] at e1
        simp only [List.singleton_append, List.cons.injEq, Value.slice.injEq] at e1
        obtain ⟨⟨rfl, hlen, rfl⟩, rfl⟩ := e1
        obtain ⟨nms, i1, i2, i3, s, i4⟩ := finL_sound hO q cs x.2 ls _ tk1 r os z tk2 j1 l2 e4 h2 hq
        refine ⟨some n :: nms, ?_, ⟨_, _, _, by rw [List.map_cons, j3], j4.mono (fun b hb _ => ⟨hq b (.inl hb), rfl⟩) (fun _ _ => rfl), i2⟩, ?_, s, by rw [i4, j5]⟩
        · rw [List.append_assoc] at i1; exact i1
        · show SameL (_ :: lents cs os) (ownAt G obj0 (some n) :: _)
          exact ⟨_, _, rfl, by rw [j3, hlen]; exact Own.same_refl _, i3⟩
  | .box t :: cs, x, l :: ls, T, tk, cells, os, y, tk', hI, hl, hr, h, hq => by
    simp only [finL] at h
    split at h
    · cases h
    · rename_i xs tk1 h1
      split at h
      · cases h
      · rename_i z tk2 h2
        obtain ⟨rfl, rfl⟩ := Prod.mk.inj (Option.some.inj h)
        obtain ⟨b, r, os, rfl, rfl, _, l2⟩ := hl
        obtain ⟨d1, d2, e1, e3, e4⟩ := RLs.cons hr
        obtain ⟨n, b', j1, j2, j3, ⟨s0, j5⟩, ⟨bc, btid, j4, j6⟩, _⟩ := takeBox_sound hI hO e3 h1
        rw [j2] at e1
        simp only [List.singleton_append, List.cons.injEq, Value.pointer.injEq, Option.some.injEq, Addr.mk.injEq, and_true] at e1
        obtain ⟨rfl, rfl⟩ := e1
        obtain ⟨nms, i1, i2, i3, s, i4⟩ := finL_sound hO q cs x.2 ls _ tk1 r os z tk2 j1 l2 e4 h2 hq
        refine ⟨some n :: nms, ?_, ⟨_, _, by rw [List.map_cons, j3], ⟨bc, btid, j4, ?_⟩, i2⟩, ?_, s ++ s0, by rw [i4, j5]; simp⟩
        · rw [List.append_assoc] at i1; exact i1
        · exact Rep.mono (fun b hb _ => ⟨hq b (withSh_mono (fun m hm => by rw [i4]; exact List.mem_append_right _ hm) hb), rfl⟩) t _ _ j6
        · show SameL (_ :: lents cs os) (ownAt G obj0 (some n) :: _)
          exact ⟨_, _, rfl, by rw [j3]; exact Own.same_refl _, i3⟩

theorem finP_sound {w0 : World} {p0 : Nat → Prop} (hO : ∀ n, RO w p G obj0 n (obj0 n)) (q : Nat → Prop) {env : Nat → AV} {V : Nat → Value} (hV : ∀ s, RV w p G obj0 (env s) (V s)) :
    ∀ (sh : List (Nat × SSh)) (x : HL (saveC sh)) (T : List Nat) (tk : Tk) (os : List Own) (V0 : Nat → Value) (y : HL (iosC (saveC sh))) (tk' : Tk),
    (∀ s ∈ keepOf sh, V0 s = V s) → TkI obj0 T tk → IS w0 p0 sh x V0 os → finP sh env tk = some (y, tk') → (∀ b, withSh p G obj0 tk'.sh b → q b) →
    ∃ nms : List (Option Nat), TkI obj0 (T ++ nms.filterMap id) tk' ∧ IO w q (saveC sh) y (nms.map (ownAt G obj0)) ∧ SameL (lents (saveC sh) os) (nms.map (ownAt G obj0)) ∧ (∃ s, tk'.sh = s ++ tk.sh)
  | [], x, T, tk, os, V0, y, tk', _, hI, _, h, _ => by
    obtain ⟨_, rfl⟩ := Prod.mk.inj (Option.some.inj h)
    exact ⟨[], by simpa using hI, rfl, rfl, [], rfl⟩
  | (s, .v agg cs) :: r, x, T, tk, os, V0, y, tk', hv, hI, hl, h, hq => by
    obtain ⟨cells, o1, o2, rfl, h1, h2, h3⟩ := hl
    have hv0 : noLent cs = false → V0 s = V s := fun hn => hv s (by rw [keepOf, hn]; exact List.mem_cons_self ..)
    have hvr : ∀ s ∈ keepOf r, V0 s = V s := fun z hz => hv z (by rw [keepOf]; cases noLent cs <;> simp [hz])
    have hcount := IL.count _ _ _ _ h2
    simp only [finP] at h
    split at h
    · cases h
    · rename_i x1 tk1 hx
      split at h
      · cases h
      · rename_i x2 tk2 hx2
        obtain ⟨rfl, rfl⟩ := Prod.mk.inj (Option.some.inj h)
        have first : ∀ q : Nat → Prop, (∀ b, withSh p G obj0 tk1.sh b → q b) → ∃ nms : List (Option Nat), TkI obj0 (T ++ nms.filterMap id) tk1 ∧ IO w q cs x1 (nms.map (ownAt G obj0)) ∧ SameL (lents cs o1) (nms.map (ownAt G obj0)) ∧ (∃ s, tk1.sh = s ++ tk.sh) := by
          intro q hq
          cases hn : noLent cs with
          | true =>
            rw [hn] at hx
            obtain ⟨k1, k2, k3⟩ := noIos_sound (w := w) (q := q) cs tk x1 tk1 o1 hn hx
            subst k1
            exact ⟨[], by simpa using hI, k2, by rw [k3]; rfl, [], rfl⟩
          | false =>
            rw [hn] at hx
            simp only [cond_false] at hx
            split at hx
            · cases hx
            · rename_i ls hls
              obtain ⟨cells', c1, c2⟩ := leavesIf_sound hls (hV s)
              rw [← hv0 hn] at c1
              obtain rfl := Sh.inj h1 c1
              exact finL_sound hO q cs _ ls T tk cells o1 x1 tk1 hI h2 c2 hx hq
        obtain ⟨nms0, k0, _, _, _⟩ := first (fun _ => True) (fun _ _ => trivial)
        obtain ⟨nms2, i1, i2, i3, s2, i4⟩ := finP_sound hO q hV r _ _ tk1 o2 V0 x2 tk2 hvr k0 h3 hx2 hq
        obtain ⟨nms1, j1, j2, j3, s1, j4⟩ := first q (fun b hb => hq b (withSh_mono (fun n hn => by rw [i4]; exact List.mem_append_right _ hn) hb))
        obtain ⟨nms2, i1, i2, i3, s2, i4⟩ := finP_sound hO q hV r _ _ tk1 o2 V0 x2 tk2 hvr j1 h3 hx2 hq
        refine ⟨nms1 ++ nms2, ?_, ?_, ?_, s2 ++ s1, by rw [i4, j4]; simp⟩
        · rw [List.filterMap_append, ← List.append_assoc]; exact i1
        · rw [List.map_append]; exact IO.app cs (saveC r) _ _ _ _ j2 i2
        · rw [List.map_append]
          show SameL (lents (cs ++ saveC r) (o1 ++ o2)) _
          rw [lents_append hcount]
          exact SameL.append j3 i3
  | (s, .ptr cs) :: r, x, T, tk, os, V0, y, tk', _, _, _, h, _ => by cases h

end

section
variable {P : Program} {C : Cfg} {N : Nat} {w0 : World} {p0 Bs : Nat → Prop} {G : Gh} {st : St} {a : Act} {w : World}

def oneRes (tmps : Array Value) : ResultVar → Sem Value
  | .tmp t => pure (tmps.getD t undef)
  | .cell x t => do loadVar t (← asAddr (tmps.getD x undef))

theorem results_sound (hT : TabOk P C.Θ) (h : Rel N w0 p0 Bs G st a w) : ∀ (rs : List ResultVar), resOk C st rs = true →
    ∃ vs : List Value, vs.length = rs.length ∧ (rs.mapM (oneRes a.tmps)).run P w = .ok vs w ∧
      ∀ s, RV w (reg w0 p0 Bs G st.obj) G st.obj ((rs.map (resultAV C st)).getD s .no) (vs.getD s undef)
  | [], _ => ⟨[], rfl, by simp, fun s => by simp [RV]⟩
  | .tmp t :: rs, hr => by
    obtain ⟨vs, h1, h2, h3⟩ := results_sound hT h rs hr
    refine ⟨a.tmps.getD t undef :: vs, by simp [h1], ?_, fun s => ?_⟩
    · rw [List.mapM_cons]
      simp only [oneRes, Sem.run_bind, Sem.run_pure, Result.andThen_ok, h2]
    · cases s with
      | zero => exact h.slots t
      | succ s => simpa using h3 s
  | .cell x t :: rs, hr => by
    simp only [resOk, Bool.and_eq_true] at hr
    obtain ⟨hr1, hr2⟩ := hr
    obtain ⟨vs, h1, h2, h3⟩ := results_sound hT h rs hr2
    split at hr1
    · rename_i n off he
      split at hr1
      · rename_i ls ti ho hti
        split at hr1
        · rename_i m hm
          have hs := h.slots x
          rw [he] at hs
          obtain ⟨v, k1, _, _, k4⟩ := hs
          simp only [List.cons.injEq, and_true] at k1
          have hO := h.objs n
          rw [ho] at hO
          obtain ⟨cells, tid, k5, k6⟩ := hO
          obtain ⟨k7, k8⟩ := midC_sound k6 hm
          have hty := hT t ti hti
          have hrun := hty.run_loadVar (w := w) (ad := ⟨G.bk n, off, none⟩) rfl (cs := (cells.toList.drop off).take ti.ty.size) (by simp only [List.length_take, List.length_drop]; omega) (fun j v hj => by
            rw [List.getElem?_take] at hj
            split at hj
            · rw [List.getElem?_drop] at hj
              simp only [World.cell?, k5]
              simpa using hj
            · cases hj)
          refine ⟨(if ti.ty.agg = true then Value.agg (List.take ti.ty.size (List.drop off cells.toList)).toArray else (List.take ti.ty.size (List.drop off cells.toList)).headD undef) :: vs, by rw [List.length_cons, List.length_cons, h1], ?_, fun s => ?_⟩
          · rw [List.mapM_cons]
            simp only [oneRes, Sem.run_bind, k1, k4 ls ho, asAddr, Sem.run_pure, Result.andThen_ok, hrun, h2]
          · cases s with
            | zero =>
              simp only [List.map_cons, List.getD_cons_zero, resultAV, he, ho, hti, hm]
              exact mkAV_sound k7 (fun hg => by rw [Ty.size_of_not_agg _ hg]; simp only [List.length_take, List.length_drop]; rw [Ty.size_of_not_agg _ hg] at k8; omega)
            | succ s => simpa using h3 s
        · cases hr1
      · cases hr1
    · cases hr1

theorem run_results (hT : TabOk P C.Θ) (h : Rel N w0 p0 Bs G st a w) (fn : Func) (hr : resOk C st fn.results.toList = true) :
    ∃ vs : List Value, vs.length = fn.results.toList.length ∧ (results fn a.tmps).run P w = .ok (match vs with | [v] => v | _ => .tuple vs.toArray) w ∧
      ∀ s, RV w (reg w0 p0 Bs G st.obj) G st.obj ((fn.results.toList.map (resultAV C st)).getD s .no) (vs.getD s undef) := by
  obtain ⟨vs, h1, h2, h3⟩ := results_sound hT h fn.results.toList hr
  refine ⟨vs, h1, ?_, h3⟩
  have e : results fn a.tmps = (do let vs ← fn.results.mapM (oneRes a.tmps); pure (if h : vs.size = 1 then vs[0] else .tuple vs)) := by
    unfold results
    have : ∀ f g : ResultVar → Sem Value, (∀ x, f x = g x) → fn.results.mapM f = fn.results.mapM g := fun f g hfg => by rw [funext hfg]
    rw [this _ (oneRes a.tmps) (fun x => by cases x <;> rfl)]
  rw [e, show fn.results.mapM (oneRes a.tmps) = (do return (← fn.results.toList.mapM (oneRes a.tmps)).toArray) by rw [Array.mapM_eq_mapM_toList]; rfl]
  simp only [Sem.run_bind, h2, Result.andThen_ok, Sem.run_pure]
  match vs with
  | [] => rfl
  | [v] => rfl
  | _ :: _ :: _ => rfl

theorem contract_of (hT : TabOk P C.Θ) (hΓ : ∀ g S, C.Γ g = some S → Good P g S) {any : List Oper → Bool} (hany : AnyOk P C any) {f : FuncId} {fn : Func} (hf : P.funcs[f]? = some fn) (hb : fn.body.isSome = true)
    {S : CSpec} (hS : specOk S = true) (hN : C.N = fn.ntmps) (hnp : C.keep = keepOf S.ins) (hle : S.ins.length ≤ fn.ntmps)
    (h : ∀ x y, S.call x = some y → runBody C any S fn x = some y) : Contract P f S := by
  intro x y hxy w p vs os hlen hIS hok hout
  have hrun := h x y hxy
  obtain ⟨c, hc⟩ := Option.isSome_iff_exists.1 hb
  unfold runBody at hrun
  rw [hc] at hrun
  simp only at hrun
  simp only [specOk, Bool.and_eq_true] at hS
  obtain ⟨⟨⟨⟨⟨⟨s1, s2⟩, s3⟩, s4⟩, s5⟩, s6⟩, s7⟩ := hS
  refine calls_of_wp hf hc ?_
  generalize ha : ({ tmps := vs.toArray ++ Array.replicate (fn.ntmps - vs.toArray.size) undef, defers := [] } : Act) = a0
  have hsz : a0.tmps.size = C.N := by
    rw [← ha, hN]
    simp only [Array.size_append, List.size_toArray, Array.size_replicate]
    omega
  have harg : ∀ s, s < S.ins.length → a0.tmps.getD s undef = vs.getD s undef := by
    intro s hs
    rw [← ha]
    simp only [Array.getD_eq_getD_getElem?, List.getD_eq_getElem?_getD]
    rw [Array.getElem?_append_left (by simpa [hlen] using hs)]
    simp
  have hIS' : IS w p S.ins x (fun s => a0.tmps.getD s undef) os := by
    refine IS.congr S.ins x _ _ os (fun z hz => ?_) hIS
    have := (slots0_mem s5 z hz).2
    exact harg z.1 (by omega)
  obtain ⟨G, hrel⟩ := build (w0 := w) (p0 := p) (Bs := blocksOf os) (N := C.N) (a := a0) hsz (by rw [← ha]) (Fr.refl w _) s1 hIS' ⟨hok, fun o ho b hb => ⟨(hout o ho b hb).1, (hout o ho b hb).2, .inl ⟨o, ho, hb⟩⟩, fun b hb => .inl hb⟩
  have hfin : ∀ G' st' a' w', Rel C.N w p (blocksOf os) G' st' a' w' → Keep C.keep a0 a' → finish C S fn st' = some y → a'.defers = [] ∧ ∃ v, (results fn a'.tmps).run P w' = .ok v w' ∧
      ∃ v0 V os' q os2, Ending.returned v = .returned v0 ∧ RetV S.outs v0 V ∧ IS w' q S.outs (fstHL (saveC S.outs) (iosC (saveC S.ins)) (toHL _ y)) V os' ∧ SameL (lents (saveC S.ins) os) os2 ∧
      IO w' q (saveC S.ins) (sndHL (saveC S.outs) (iosC (saveC S.ins)) (toHL _ y)) os2 ∧ Given w p (blocksOf os) w' q (os' ++ os2) ∧ Fr w (blocksOf os) w' := by
    intro G' st' a' w' hr hK hfi
    refine ⟨hr.defers, ?_⟩
    unfold finish at hfi
    split at hfi
    · cases hfi
    · rename_i x1 tk hx1
      split at hfi
      · cases hfi
      · rename_i y1 tk' hy1
        obtain ⟨hc1, hfi2⟩ := cond_some hfi
        simp only [Bool.and_eq_true, Nat.beq_eq] at hc1
        obtain ⟨⟨hc1, hc2⟩, hc3⟩ := hc1
        obtain rfl := Option.some.inj hfi2
        rw [toHL_ofHL, fst_app, snd_app]
        obtain ⟨rs, r1, r2, r3⟩ := run_results hT hr fn hc2
        refine ⟨_, r2, ?_⟩
        generalize hq : withSh (reg w p (blocksOf os) G' st'.obj) G' st'.obj tk'.sh = q
        obtain ⟨nms0, k0, _⟩ := save_sound (p := reg w p (blocksOf os) G' st'.obj) (G := G') hr.objs (fun _ => True) r3 S.outs [] ⟨st'.obj, [], []⟩ x1 tk (TkI.start st'.obj [] []) hx1 (fun _ _ => trivial)
        have hV : ∀ s ∈ keepOf S.ins, a0.tmps.getD s undef = a'.tmps.getD s undef := fun s hs => (hK s (by rw [hnp]; exact hs)).symm
        obtain ⟨_, _, _, _, s2', i4⟩ := finP_sound (p := reg w p (blocksOf os) G' st'.obj) (G := G') hr.objs (fun _ => True) hr.slots S.ins x _ tk os (fun s => a0.tmps.getD s undef) y1 tk' hV k0 hIS' hy1 (fun _ _ => trivial)
        obtain ⟨nms1, j1, j2, _, _⟩ := save_sound (p := reg w p (blocksOf os) G' st'.obj) (G := G') hr.objs q r3 S.outs [] ⟨st'.obj, [], []⟩ x1 tk (TkI.start st'.obj [] []) hx1 (fun b hb => by rw [← hq]; exact withSh_mono (fun n hn => by rw [i4]; exact List.mem_append_right _ hn) hb)
        obtain ⟨nms2, l1, l2, l3, _⟩ := finP_sound (p := reg w p (blocksOf os) G' st'.obj) (G := G') hr.objs q hr.slots S.ins x _ tk os (fun s => a0.tmps.getD s undef) y1 tk' hV j1 hIS' hy1 (fun b hb => by rw [← hq]; exact hb)
        rw [List.nil_append, ← List.filterMap_append] at l1
        have hgiv := hr.given l1 hc3
        rw [hq, List.map_append] at hgiv
        refine ⟨_, fun s => rs.getD s undef, nms1.map (ownAt G' st'.obj), q, nms2.map (ownAt G' st'.obj), rfl, ?_, j2, l3, l2, hgiv, hr.frame⟩
        have hl : rs.length = S.outs.length := by rw [r1, hc1]
        generalize S.outs = outs at hl
        match outs, rs, hl with
        | [], _, _ => exact trivial
        | [_], [v], _ => rfl
        | _ :: _ :: r, u :: v :: l, hl =>
          show Value.tuple _ = Value.tuple _
          congr 1
          apply Array.ext'
          simp only [List.length_cons] at hl
          rw [show r.length + 2 = l.length + 2 by omega]
          simp only
          apply List.ext_getElem?
          intro i
          simp only [List.getElem?_map, List.getElem?_range, List.getD_eq_getElem?_getD]
          by_cases hi : i < l.length + 2
          · rw [List.getElem?_range hi]
            simp only [Option.map_some]
            rw [List.getElem?_eq_getElem (by simpa using hi)]
            simp
          · rw [List.getElem?_eq_none (by simp; omega), List.getElem?_eq_none (by simp; omega)]
            rfl
  refine exec_sound hT hΓ hany c 0 _ _ y (bodyPost P fn _) a0 ?_ G _ a0 w hrel (Keep.refl _ _) hrun
  intro e G' st' a' w' k1 k2 k3
  cases e with
  | normal => exact hfin G' st' a' w' k1 k2 k3
  | ret => exact hfin G' st' a' w' k1 k2 k3
  | exit i => cases k3

end
end Go.Vx
