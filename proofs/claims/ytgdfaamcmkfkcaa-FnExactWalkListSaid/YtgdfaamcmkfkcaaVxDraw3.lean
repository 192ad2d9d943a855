/-
  Regions that draw their order: two operations change places.
-/
import Derived.Test.YtgdfaamcmkfkcaaVxDraw2
set_option linter.unusedSimpArgs false
set_option linter.unusedVariables false
set_option linter.unnecessarySimpa false
namespace Go.Vx

def Kept (obj obj' : Nat → AObj) : Prop := ∀ n, obj n ≠ .none → obj' n ≠ .none ∧ ∀ ls, (obj' n = .box ls ↔ obj n = .box ls)

def isRow : AObj → Bool
  | .row _ _ _ => true
  | .deep _ _ _ _ _ => true
  | _ => false

/-- Rows die, rows are written, new objects come; nothing else. -/
def RowOnly (obj obj' : Nat → AObj) : Prop := ∀ n, obj' n = obj n ∨ (isRow (obj n) = true ∧ (obj' n = .dead ∨ isRow (obj' n) = true)) ∨ obj n = .none

theorem RowOnly.kept {obj obj' : Nat → AObj} (h : RowOnly obj obj') : Kept obj obj' := by
  intro n hn
  rcases h n with h | ⟨h1, h2⟩ | h
  · rw [h]; exact ⟨hn, fun _ => Iff.rfl⟩
  · have hb : ∀ ls, obj n ≠ .box ls := fun ls e => by rw [e] at h1; cases h1
    rcases h2 with h2 | h2
    · rw [h2]; exact ⟨by simp, fun ls => ⟨fun e => (by cases e), fun e => absurd e (hb ls)⟩⟩
    · exact ⟨fun e => (by rw [e] at h2; cases h2), fun ls => ⟨fun e => (by rw [e] at h2; cases h2), fun e => absurd e (hb ls)⟩⟩
  · exact absurd h hn

theorem RowOnly.refl (obj : Nat → AObj) : RowOnly obj obj := fun _ => .inl rfl

theorem RowOnly.new {obj obj' : Nat → AObj} (h : RowOnly obj obj') {n : Nat} (hn : obj n = .none) (o : AObj) : RowOnly obj (setO obj' n o) := by
  intro m
  by_cases e : m = n
  · subst e; exact .inr (.inr hn)
  · rw [setO_other _ _ e]; exact h m

theorem RowOnly.row {obj obj' : Nat → AObj} (h : RowOnly obj obj') {n : Nat} (hn : isRow (obj n) = true) {o : AObj} (ho : o = .dead ∨ isRow o = true) : RowOnly obj (setO obj' n o) := by
  intro m
  by_cases e : m = n
  · subst e; rw [setO_same]; exact .inr (.inl ⟨hn, ho⟩)
  · rw [setO_other _ _ e]; exact h m

theorem allRows_isRow {obj : Nat → AObj} : ∀ {ns : List Nat}, allRows obj ns = true → ∀ {m : Nat}, m ∈ ns → isRow (obj m) = true
  | [], _, m, hm => by cases hm
  | n :: ns, h, m, hm => by
    simp only [allRows] at h
    split at h
    · rename_i hx
      rcases List.mem_cons.1 hm with rfl | hm
      · rw [hx]; rfl
      · exact allRows_isRow h hm
    · rename_i hx
      rcases List.mem_cons.1 hm with rfl | hm
      · rw [hx]; rfl
      · exact allRows_isRow h hm
    · cases h

theorem RowOnly.kill {obj : Nat → AObj} {ns : List Nat} (h : allRows obj ns = true) : RowOnly obj (killO obj ns) := by
  intro m
  rcases killO_cases ns obj m with ⟨_, k⟩ | ⟨k1, k2⟩
  · exact .inl k
  · exact .inr (.inl ⟨allRows_isRow h k1, .inl k2⟩)

theorem takeRow_pure {tid : Nat} {e : Ty} {tk tk' : Tk} {lend : Bool} {l : Leaf} {xs : List e.den} {obj0 : Nat → AObj} (h0 : RowOnly obj0 tk.obj) (hi : ∀ m ∈ tk.ios, isRow (obj0 m) = true) (hnn : ∀ m, isRow (tk.obj m) = true → isRow (obj0 m) = true)
    (h : takeRow tid e tk lend l = some (xs, tk')) : RowOnly obj0 tk'.obj ∧ (∀ m ∈ tk'.ios, isRow (obj0 m) = true) ∧ (∀ m, isRow (tk'.obj m) = true → isRow (obj0 m) = true) := by
  unfold takeRow at h
  split at h
  · cases lend with
    | true => cases h
    | false =>
      obtain ⟨_, rfl⟩ := Prod.mk.inj (Option.some.inj h)
      exact ⟨h0, hi, hnn⟩
  · rename_i n
    split at h
    · rename_i tid' e' ys ho
      obtain ⟨_, hk⟩ := cond_some h
      clear h
      cases hz : castL e' e ys with
      | none => rw [hz] at hk; cases hk
      | some zs =>
        rw [hz] at hk
        obtain ⟨_, rfl⟩ := Prod.mk.inj (Option.some.inj hk)
        have hr : isRow (obj0 n) = true := hnn n (by rw [ho]; rfl)
        refine ⟨h0.row hr (.inl rfl), fun m hm => ?_, fun m hm => ?_⟩
        · cases lend with
          | true =>
            simp only [cond_true, List.mem_cons] at hm
            rcases hm with rfl | hm
            · exact hr
            · exact hi m hm
          | false => exact hi m hm
        · by_cases e : m = n
          · subst e; exact hr
          · have hm : isRow (setO tk.obj n .dead m) = true := hm
            rw [setO_other _ _ e] at hm; exact hnn m hm
    · cases h
  · cases h

theorem takeDp_pure {pt : Bool} {tid : Nat} {d : DTy} {tk tk' : Tk} {l : Leaf} {x : DT pt d} {obj0 : Nat → AObj} (h0 : RowOnly obj0 tk.obj) (hi : ∀ m ∈ tk.ios, isRow (obj0 m) = true) (hnn : ∀ m, isRow (tk.obj m) = true → isRow (obj0 m) = true)
    (h : takeDp pt tid d tk l = some (x, tk')) : RowOnly obj0 tk'.obj ∧ (∀ m ∈ tk'.ios, isRow (obj0 m) = true) ∧ (∀ m, isRow (tk'.obj m) = true → isRow (obj0 m) = true) := by
  unfold takeDp at h
  split at h
  · split at h
    · obtain ⟨_, rfl⟩ := Prod.mk.inj (Option.some.inj h)
      exact ⟨h0, hi, hnn⟩
    · cases h
  · rename_i n
    split at h
    · rename_i tid' d' kk ys ho
      obtain ⟨_, hk⟩ := cond_some h
      clear h
      cases hz : castD d' d ys with
      | none => rw [hz] at hk; cases hk
      | some zs =>
        rw [hz] at hk
        simp only at hk
        cases hm : mkDT pt kk zs with
        | none => rw [hm] at hk; cases hk
        | some x' =>
        rw [hm] at hk
        obtain ⟨_, rfl⟩ := Prod.mk.inj (Option.some.inj hk)
        have hr : isRow (obj0 n) = true := hnn n (by rw [ho]; rfl)
        refine ⟨h0.row hr (.inl rfl), hi, fun m hm => ?_⟩
        by_cases e : m = n
        · subst e; exact hr
        · have hm : isRow (setO tk.obj n .dead m) = true := hm
          rw [setO_other _ _ e] at hm; exact hnn m hm
    · cases h
  · cases h

theorem takeDl_pure {tid : Nat} {d : DTy} {tk tk' : Tk} {l : Leaf} {x : List d.ty.den} {obj0 : Nat → AObj} (h0 : RowOnly obj0 tk.obj) (hi : ∀ m ∈ tk.ios, isRow (obj0 m) = true) (hnn : ∀ m, isRow (tk.obj m) = true → isRow (obj0 m) = true)
    (h : takeDl tid d tk l = some (x, tk')) : RowOnly obj0 tk'.obj ∧ (∀ m ∈ tk'.ios, isRow (obj0 m) = true) ∧ (∀ m, isRow (tk'.obj m) = true → isRow (obj0 m) = true) := by
  unfold takeDl at h
  split at h
  · rename_i n
    split at h
    · rename_i tid' d' ys ho
      obtain ⟨_, hk⟩ := cond_some h
      clear h
      cases hz : castD d' d ys with
      | none => rw [hz] at hk; cases hk
      | some zs =>
        rw [hz] at hk
        obtain ⟨_, rfl⟩ := Prod.mk.inj (Option.some.inj hk)
        have hr : isRow (obj0 n) = true := hnn n (by rw [ho]; rfl)
        refine ⟨h0.row hr (.inl rfl), fun m hm => ?_, fun m hm => ?_⟩
        · rcases List.mem_cons.1 hm with rfl | hm
          · exact hr
          · exact hi m hm
        · by_cases e : m = n
          · subst e; exact hr
          · have hm : isRow (setO tk.obj n .dead m) = true := hm
            rw [setO_other _ _ e] at hm; exact hnn m hm
    · cases h
  · cases h

theorem leafIn_pure {obj0 : Nat → AObj} : ∀ (cs : List Cm) (ls : List Leaf) (tk : Tk) (x : HL cs) (tk' : Tk), noBox cs = true → RowOnly obj0 tk.obj → (∀ m ∈ tk.ios, isRow (obj0 m) = true) →
    (∀ m, isRow (tk.obj m) = true → isRow (obj0 m) = true) → leafIn cs ls tk = some (x, tk') → RowOnly obj0 tk'.obj ∧ (∀ m ∈ tk'.ios, isRow (obj0 m) = true) ∧ (∀ m, isRow (tk'.obj m) = true → isRow (obj0 m) = true)
  | [], [], tk, x, tk', _, h0, hi, hnn, h => by
    obtain ⟨_, rfl⟩ := Prod.mk.inj (Option.some.inj h)
    exact ⟨h0, hi, hnn⟩
  | [], _ :: _, _, _, _, _, _, _, _, h => by simp [leafIn] at h
  | .val t :: cs, ls, tk, x, tk', hb, h0, hi, hnn, h => by
    simp only [leafIn] at h
    split at h
    · split at h
      · rename_i z tk1 hz
        obtain ⟨_, rfl⟩ := Prod.mk.inj (Option.some.inj h)
        exact leafIn_pure cs _ { tk with sh := shown (ls.take (nlv t)) ++ tk.sh } z tk1 hb h0 hi hnn hz
      · cases h
    · cases h
  | .own tid e :: cs, [], _, _, _, _, _, _, _, h => by simp [leafIn] at h
  | .row tid e :: cs, [], _, _, _, _, _, _, _, h => by simp [leafIn] at h
  | .box t :: cs, _, _, _, _, hb, _, _, _, _ => by cases hb
  | .dp _ _ _ :: cs, [], _, _, _, _, _, _, _, h => by simp [leafIn] at h
  | .dlent _ _ :: cs, [], _, _, _, _, _, _, _, h => by simp [leafIn] at h
  | .dp _ _ _ :: cs, l :: ls, tk, x, tk', hb, h0, hi, hnn, h => by
    simp only [leafIn] at h
    split at h
    · rename_i xs tk1 h1
      split at h
      · rename_i y tk2 h2
        obtain ⟨_, rfl⟩ := Prod.mk.inj (Option.some.inj h)
        obtain ⟨k1, k2, k3⟩ := takeDp_pure h0 hi hnn h1
        exact leafIn_pure cs ls tk1 y tk2 hb k1 k2 k3 h2
      · cases h
    · cases h
  | .dlent _ _ :: cs, l :: ls, tk, x, tk', hb, h0, hi, hnn, h => by
    simp only [leafIn] at h
    split at h
    · rename_i xs tk1 h1
      split at h
      · rename_i y tk2 h2
        obtain ⟨_, rfl⟩ := Prod.mk.inj (Option.some.inj h)
        obtain ⟨k1, k2, k3⟩ := takeDl_pure h0 hi hnn h1
        exact leafIn_pure cs ls tk1 y tk2 hb k1 k2 k3 h2
      · cases h
    · cases h
  | .own tid e :: cs, l :: ls, tk, x, tk', hb, h0, hi, hnn, h => by
    simp only [leafIn] at h
    split at h
    · rename_i xs tk1 h1
      split at h
      · rename_i y tk2 h2
        obtain ⟨_, rfl⟩ := Prod.mk.inj (Option.some.inj h)
        obtain ⟨k1, k2, k3⟩ := takeRow_pure h0 hi hnn h1
        exact leafIn_pure cs ls tk1 y tk2 hb k1 k2 k3 h2
      · cases h
    · cases h
  | .row tid e :: cs, l :: ls, tk, x, tk', hb, h0, hi, hnn, h => by
    simp only [leafIn] at h
    split at h
    · rename_i xs tk1 h1
      split at h
      · rename_i y tk2 h2
        obtain ⟨_, rfl⟩ := Prod.mk.inj (Option.some.inj h)
        obtain ⟨k1, k2, k3⟩ := takeRow_pure h0 hi hnn h1
        exact leafIn_pure cs ls tk1 y tk2 hb k1 k2 k3 h2
      · cases h
    · cases h

theorem noBox_app : ∀ {a b : List Cm}, noBox (a ++ b) = true → noBox a = true ∧ noBox b = true
  | [], _, h => ⟨rfl, h⟩
  | .val _ :: a, _, h => noBox_app (a := a) h
  | .own _ _ :: a, _, h => noBox_app (a := a) h
  | .row _ _ :: a, _, h => noBox_app (a := a) h
  | .dp _ _ _ :: a, _, h => noBox_app (a := a) h
  | .dlent _ _ :: a, _, h => noBox_app (a := a) h
  | .box _ :: _, _, h => by cases h

theorem save_pure {obj0 : Nat → AObj} {env : Nat → AV} : ∀ (sh : List (Nat × SSh)) (tk : Tk) (x : HL (saveC sh)) (tk' : Tk), noBox (saveC sh) = true → noPtr sh = true → RowOnly obj0 tk.obj → (∀ m ∈ tk.ios, isRow (obj0 m) = true) →
    (∀ m, isRow (tk.obj m) = true → isRow (obj0 m) = true) → save sh env tk = some (x, tk') → RowOnly obj0 tk'.obj ∧ (∀ m ∈ tk'.ios, isRow (obj0 m) = true) ∧ (∀ m, isRow (tk'.obj m) = true → isRow (obj0 m) = true)
  | [], tk, x, tk', _, _, h0, hi, hnn, h => by
    obtain ⟨_, rfl⟩ := Prod.mk.inj (Option.some.inj h)
    exact ⟨h0, hi, hnn⟩
  | (s, .v agg cs) :: r, tk, x, tk', hb, hp, h0, hi, hnn, h => by
    obtain ⟨hb1, hb2⟩ := noBox_app (a := cs) hb
    simp only [save] at h
    split at h
    · cases h
    · rename_i ls hls
      split at h
      · cases h
      · rename_i y tk1 h1
        split at h
        · cases h
        · rename_i z tk2 h2
          obtain ⟨_, rfl⟩ := Prod.mk.inj (Option.some.inj h)
          obtain ⟨k1, k2, k3⟩ := leafIn_pure cs ls tk y tk1 hb1 h0 hi hnn h1
          exact save_pure r tk1 z tk2 hb2 hp k1 k2 k3 h2
  | (s, .ptr cs) :: r, _, _, _, _, hp, _, _, _, _ => by cases hp

theorem outIos_pure : ∀ (cs : List Cm) (x : HL (iosC cs)) (ns : List Nat) (obj obj1 : Nat → AObj), noBox cs = true → outIos (iosC cs) x ns obj = some obj1 → ∀ m, obj1 m = obj m ∨ (m ∈ ns ∧ isRow (obj1 m) = true)
  | [], _, [], obj, obj1, _, h, m => by
    obtain rfl := Option.some.inj h
    exact .inl rfl
  | [], _, _ :: _, _, _, _, h, _ => by cases h
  | .val _ :: cs, x, ns, obj, obj1, hb, h, m => outIos_pure cs x ns obj obj1 hb h m
  | .own _ _ :: cs, x, ns, obj, obj1, hb, h, m => outIos_pure cs x ns obj obj1 hb h m
  | .dp _ _ _ :: cs, x, ns, obj, obj1, hb, h, m => outIos_pure cs x ns obj obj1 hb h m
  | .dlent _ _ :: cs, x, [], obj, obj1, hb, h, m => by cases h
  | .dlent tid d :: cs, x, n :: ns, obj, obj1, hb, h, m => by
    simp only [iosC, outIos] at h
    split at h
    · rename_i o ho
      obtain rfl := Option.some.inj h
      by_cases e' : m = n
      · subst e'
        exact .inr ⟨List.mem_cons_self .., by rw [setO_same]; rfl⟩
      · rw [setO_other _ _ e']
        rcases outIos_pure cs x.2 ns obj o hb ho m with k | ⟨k1, k2⟩
        · exact .inl k
        · exact .inr ⟨List.mem_cons_of_mem _ k1, k2⟩
    · cases h
  | .row tid e :: cs, x, [], obj, obj1, hb, h, m => by cases h
  | .row tid e :: cs, x, n :: ns, obj, obj1, hb, h, m => by
    simp only [iosC, outIos] at h
    split at h
    · rename_i o ho
      obtain rfl := Option.some.inj h
      by_cases e' : m = n
      · subst e'
        exact .inr ⟨List.mem_cons_self .., by rw [setO_same]; rfl⟩
      · rw [setO_other _ _ e']
        rcases outIos_pure cs x.2 ns obj o hb ho m with k | ⟨k1, k2⟩
        · exact .inl k
        · exact .inr ⟨List.mem_cons_of_mem _ k1, k2⟩
    · cases h
  | .box _ :: _, _, _, _, _, hb, _, _ => by cases hb

theorem outLeaves_pure : ∀ (cs : List Cm) (x : HL cs) (nm : Nat) (obj : Nat → AObj) (m : Nat), (m < nm ∨ nm + cs.length ≤ m) → (outLeaves cs x nm obj).2 m = obj m
  | [], _, _, _, _, _ => rfl
  | .val t :: cs, x, nm, obj, m, h => outLeaves_pure cs x.2 (nm + 1) obj m (by simp only [List.length_cons] at h; omega)
  | .own tid e :: cs, x, nm, obj, m, h => by
    simp only [List.length_cons] at h
    show setO (outLeaves cs x.2 (nm + 1) obj).2 nm _ m = _
    rw [setO_other _ _ (by omega)]
    exact outLeaves_pure cs x.2 (nm + 1) obj m (by omega)
  | .row tid e :: cs, x, nm, obj, m, h => by
    simp only [List.length_cons] at h
    show setO (outLeaves cs x.2 (nm + 1) obj).2 nm _ m = _
    rw [setO_other _ _ (by omega)]
    exact outLeaves_pure cs x.2 (nm + 1) obj m (by omega)
  | .dp pt tid d :: cs, x, nm, obj, m, h => by
    simp only [List.length_cons] at h
    show setO (outLeaves cs x.2 (nm + 1) obj).2 nm _ m = _
    rw [setO_other _ _ (by omega)]
    exact outLeaves_pure cs x.2 (nm + 1) obj m (by omega)
  | .dlent tid d :: cs, x, nm, obj, m, h => by
    simp only [List.length_cons] at h
    show setO (outLeaves cs x.2 (nm + 1) obj).2 nm _ m = _
    rw [setO_other _ _ (by omega)]
    exact outLeaves_pure cs x.2 (nm + 1) obj m (by omega)
  | .box t :: cs, x, nm, obj, m, h => by
    simp only [List.length_cons] at h
    show setO (outLeaves cs x.2 (nm + 1) obj).2 nm _ m = _
    rw [setO_other _ _ (by omega)]
    exact outLeaves_pure cs x.2 (nm + 1) obj m (by omega)

theorem restore_pure {d : Nat} (st : St) : ∀ (sh : List (Nat × SSh)) (x : HL (saveC sh)) (m : Nat), allV sh = true → shD 5 sh = true → (∀ z ∈ sh, z.1 < 3) → (m < d * 16 ∨ d * 16 + 15 ≤ m) →
    (restore (fun s => d * 16 + s * 5) sh x st).obj m = st.obj m
  | [], _, _, _, _, _, _ => rfl
  | (s, .v agg cs) :: r, x, m, hv, hd, hs, hm => by
    simp only [shD, Bool.and_eq_true] at hd
    have h1 := Nat.le_of_ble_eq_true hd.1.1
    have h2 : s < 3 := hs _ (List.mem_cons_self ..)
    show (outLeaves cs (fstHL cs (saveC r) x) (d * 16 + s * 5) (restore (fun s => d * 16 + s * 5) r (sndHL cs (saveC r) x) st).obj).2 m = _
    rw [outLeaves_pure _ _ _ _ _ (by omega)]
    exact restore_pure st r _ m hv hd.2 (fun z hz => hs z (List.mem_cons_of_mem _ hz)) hm
  | (s, .ptr cs) :: r, _, _, hv, _, _, _ => by cases hv

section
variable {C : Cfg} {st : St}

theorem callE_keep {S : CSpec} (hS : specOk S = true) (hb : noBox (saveC S.ins) = true) (hp : noPtr S.ins = true) {args : List AV} {d : Nat} {st2 : St} (h : callE S st args d some = some st2) :
    (∀ s, s ≠ d → st2.env s = st.env s) ∧ RowOnly st.obj st2.obj := by
  simp only [specOk, Bool.and_eq_true] at hS
  obtain ⟨⟨⟨⟨⟨⟨s1, s2⟩, s3⟩, s4⟩, s5⟩, s6⟩, s7⟩ := hS
  have s7 := Nat.le_of_ble_eq_true s7
  unfold callE at h
  split at h
  · cases h
  · rename_i x tk hsv
    obtain ⟨hc, hk⟩ := cond_some h
    clear h
    simp only [Bool.and_eq_true] at hc
    obtain ⟨⟨_, hc2⟩, hc3⟩ := hc
    cases hy : S.call x with
    | none => rw [hy] at hk; cases hk
    | some y =>
      rw [hy] at hk
      simp only [Option.bind_some] at hk
      split at hk
      · cases hk
      · rename_i obj hio
        obtain rfl := Option.some.inj hk
        refine ⟨fun s hs => by rw [env_put, if_neg hs], ?_⟩
        obtain ⟨k1, k2, k3⟩ := save_pure (obj0 := st.obj) S.ins ⟨st.obj, [], []⟩ x tk hb hp (RowOnly.refl _) (fun _ h => by cases h) (fun _ h => h) hsv
        have hbase : RowOnly st.obj (cond S.flat tk.obj (killO tk.obj tk.sh)) := by
          cases S.flat with
          | true => exact k1
          | false =>
            intro n
            show killO tk.obj tk.sh n = _ ∨ _
            rcases killO_cases tk.sh tk.obj n with ⟨_, e⟩ | ⟨e1, e2⟩
            · rw [cond_false, e]; exact k1 n
            · exact .inr (.inl ⟨k3 n (allRows_isRow hc2 e1), .inl e2⟩)
        intro n
        show (restore (fun s => d * 16 + s * 5) S.outs _ ⟨fun _ => .no, obj⟩).obj n = st.obj n ∨ _
        by_cases hn : d * 16 ≤ n ∧ n < d * 16 + 16
        · exact .inr (.inr (free_none hc3 n hn.1 hn.2))
        · have hr := restore_pure (d := d) ⟨fun _ => .no, obj⟩ S.outs (fstHL (saveC S.outs) (iosC (saveC S.ins)) (toHL _ y)) n s4 s2 (fun z hz => by have := slots0_mem s6 z hz; omega) (by omega)
          have e : (restore (fun s => d * 16 + s * 5) S.outs (fstHL (saveC S.outs) (iosC (saveC S.ins)) (toHL _ y)) ⟨fun _ => .no, obj⟩).obj n = obj n := hr
          rcases outIos_pure (saveC S.ins) _ _ _ _ hb hio n with k | ⟨k, k'⟩
          · have := hbase n
            simp only [St.put]
            rw [e, k]; exact this
          · simp only [St.put]
            rw [e]
            exact .inr (.inl ⟨k2 n (List.mem_reverse.1 k), .inr k'⟩)

theorem opBox_keep {d sz : Nat} {ls : List Leaf} {st2 : St} (h : opBox st d sz ls some = some st2) : (∀ s, s ≠ d → st2.env s = st.env s) ∧ RowOnly st.obj st2.obj := by
  unfold opBox at h
  obtain ⟨_, h⟩ := cond_some h
  split at h
  · rename_i ho
    obtain rfl := Option.some.inj h
    exact ⟨fun s hs => by rw [env_put, if_neg hs], (RowOnly.refl st.obj).new ho _⟩
  · cases h

theorem opNewRow_keep {obj : Nat → AObj} (h0 : RowOnly st.obj obj) {d tid : Nat} {e : Ty} {xs : List e.den} {st2 : St} (h : opNewRow st obj d tid e xs some = some st2) : (∀ s, s ≠ d → st2.env s = st.env s) ∧ RowOnly st.obj st2.obj := by
  unfold opNewRow at h
  split at h
  · rename_i ho
    obtain rfl := Option.some.inj h
    exact ⟨fun s hs => by rw [env_put, if_neg hs], h0.new ho _⟩
  · cases h

theorem dstOf_row {tid : Nat} {e : Ty} {x : AV} {xs : List e.den} {n : Nat} (h : dstOf st tid e x = some (xs, some n)) : isRow (st.obj n) = true := by
  unfold dstOf at h
  split at h
  · cases h
  · split at h
    · rename_i ho
      obtain ⟨_, h⟩ := cond_some h
      split at h
      · have := (Prod.mk.inj (Option.some.inj h)).2
        injection this with this
        subst this
        rw [ho]; rfl
      · cases h
    · cases h
  · split at h
    · rename_i ho
      obtain ⟨_, h⟩ := cond_some h
      split at h
      · have := (Prod.mk.inj (Option.some.inj h)).2
        injection this with this
        subst this
        rw [ho]; rfl
      · cases h
    · cases h
  · cases h

theorem killOpt_row {n : Option Nat} (h : ∀ m, n = some m → isRow (st.obj m) = true) : RowOnly st.obj (killOpt st.obj n) := by
  cases n with
  | none => exact RowOnly.refl _
  | some n => exact (RowOnly.refl st.obj).row (h n rfl) (.inl rfl)

theorem stepOp_keep (hΓ : ∀ g S, C.Γ g = some S → specOk S = true) {op : Op} (hk : kindO op = 1) (hok : okD C st op = true) {d : Option Nat} {st2 : St} (h : stepOp C st d op some = some st2) :
    (∀ s, d ≠ some s → st2.env s = st.env s) ∧ RowOnly st.obj st2.obj := by
  have lift : ∀ d', d = some d' → ((∀ s, s ≠ d' → st2.env s = st.env s) ∧ RowOnly st.obj st2.obj) → (∀ s, d ≠ some s → st2.env s = st.env s) ∧ RowOnly st.obj st2.obj :=
    fun d' hd k => ⟨fun s hs => k.1 s fun e => hs (by rw [hd, e]), k.2⟩
  cases op with
  | alloc T =>
    simp only [stepOp] at h
    split at h
    · exact lift _ rfl (opBox_keep h)
    · cases h
  | box T x =>
    simp only [stepOp] at h
    split at h
    · exact lift _ rfl (opBox_keep h)
    · cases h
  | buildSlice T n parts =>
    simp only [stepOp] at h
    split at h
    · obtain ⟨hc, h⟩ := cond_some h
      simp only [Bool.and_eq_true] at hc
      split at h
      · exact lift _ rfl (opNewRow_keep (RowOnly.kill hc.2) h)
      · cases h
    · cases h
  | makeSlice T l c =>
    simp only [stepOp] at h
    split at h
    · obtain ⟨_, h⟩ := cond_some h
      obtain ⟨_, h⟩ := cond_some h
      exact lift _ rfl (opNewRow_keep (RowOnly.refl _) h)
    · cases h
  | call c =>
    obtain ⟨callee, args, ts⟩ := c
    cases callee with
    | builtin b =>
      cases b with
      | append =>
        simp only [stepOp] at h
        split at h
        · split at h
          · obtain ⟨_, h⟩ := cond_some h
            unfold opAppend at h
            split at h
            · cases h
            · split at h
              · rename_i hd _
                obtain ⟨_, h⟩ := cond_some h
                exact lift _ rfl (opNewRow_keep (killOpt_row fun m hm => dstOf_row (by rw [← hm]; exact hd)) h)
              · cases h
          · cases h
        all_goals first | (cases h; done) | simp_all [opE, Eff.go]
      | _ => cases hk
    | value f =>
      simp only [okD] at hok
      simp only [stepOp] at h
      split at h
      · rename_i g caps d' hcal
        split at h
        · rename_i S hS
          rw [hcal] at hok
          cases caps with
          | cons _ _ => cases hok
          | nil =>
            simp only at hok
            rw [hS] at hok
            simp only [Bool.and_eq_true] at hok
            exact lift _ rfl (callE_keep (hΓ g S hS) hok.1 hok.2 h)
        · cases h
      · cases h
    | invoke r m => cases hk
  | _ => cases hk

end
end Go.Vx
