/-
  What is handed over: from the state to data with its owners.
-/
import Derived.Test.YtgdfaamcmkfkcaaVxStep3
set_option linter.unusedSimpArgs false
set_option linter.unusedVariables false
set_option linter.unnecessarySimpa false
namespace Go.Vx

inductive Own where
  | row (t : Ty) (n : Nat) (a : Option Addr) (c : Nat)
  | box (b : Nat)
  | deep (t : Ty) (n : Nat) (a : Option Addr) (c : Nat) (X : List Nat)

def Own.blk : Own → Nat → Prop
  | .row _ _ a _, b => a.map (·.block) = some b
  | .box x, b => b = x
  | .deep _ _ a _ X, b => a.map (·.block) = some b ∨ b ∈ X

/-- The header and the inner blocks of an owner. -/
def Own.isR : Own → Option Addr → Nat → List Nat → Prop
  | .row _ _ a c, a', c', X => a = a' ∧ c = c' ∧ X = []
  | .box _, _, _, _ => False
  | .deep _ _ a c X, a', c', X' => a = a' ∧ c = c' ∧ X = X'

section
variable (w : World) (p : Nat → Prop)

/-- A row with rows of its own. -/
def DV (pt : Bool) (tid : Nat) (d : DTy) (x : DT pt d) (a : Option Addr) (c : Nat) (X : List Nat) : Prop :=
  (ablk a ++ X).Nodup ∧ ∃ ds, w.ownsRow 0 tid d.ty.size (.slice a (List.length (dXs pt x)) c) (List.length (dXs pt x)) ds ∧ ElsR w p d (dK pt x) 0 (dXs pt x) ds X

def RowV (tid : Nat) (e : Ty) (xs : List e.den) (a : Option Addr) (c : Nat) : Prop :=
  ∃ ds, w.ownsRow 0 tid e.size (.slice a xs.length c) xs.length ds ∧ RepL (Rep w p e) xs ds

def BoxV (t : Ty) (x : t.den) (b : Nat) : Prop := ∃ cells tid, w.heap[b]? = some (.cells cells tid (0, 0)) ∧ Rep w p t x cells.toList

/-- Cells that read as x, and the owners of what is given with them. -/
def IL : (cs : List Cm) → HL cs → List Value → List Own → Prop
  | [], _, vs, os => vs = [] ∧ os = []
  | .val t :: cs, x, vs, os => ∃ c1 c2, vs = c1 ++ c2 ∧ Rep w p t x.1 c1 ∧ IL cs x.2 c2 os
  | .own tid e :: cs, x, vs, os => ∃ a c t n r q, vs = .slice a (List.length x.1) c :: r ∧ os = .row t n a c :: q ∧ RowV w p tid e x.1 a c ∧ IL cs x.2 r q
  | .row tid e :: cs, x, vs, os => ∃ a c r q, vs = .slice a (List.length x.1) c :: r ∧ os = .row e (List.length x.1) a c :: q ∧ RowV w p tid e x.1 a c ∧ IL cs x.2 r q
  | .box t :: cs, x, vs, os => ∃ b r q, vs = .pointer (some ⟨b, 0, none⟩) :: r ∧ os = .box b :: q ∧ BoxV w p t x.1 b ∧ IL cs x.2 r q
  | .dp pt tid d :: cs, x, vs, os => ∃ a c X o r q, vs = .slice a (List.length (dXs pt x.1)) c :: r ∧ os = o :: q ∧ o.isR a c X ∧ DV w p pt tid d x.1 a c X ∧ IL cs x.2 r q
  | .dlent tid d :: cs, x, vs, os => ∃ a c X r q, vs = .slice a (List.length x.1) c :: r ∧ os = .deep d.ty (List.length x.1) a c X :: q ∧ DV w p false tid d x.1 a c X ∧ IL cs x.2 r q

/-- What was lent, read again. -/
def IO : (cs : List Cm) → HL (iosC cs) → List Own → Prop
  | [], _, os => os = []
  | .val _ :: cs, x, os => IO cs x os
  | .own _ _ :: cs, x, os => IO cs x os
  | .row tid e :: cs, x, os => ∃ a c q, os = .row e (List.length x.1) a c :: q ∧ RowV w p tid e x.1 a c ∧ IO cs x.2 q
  | .box t :: cs, x, os => ∃ b q, os = .box b :: q ∧ BoxV w p t x.1 b ∧ IO cs x.2 q
  | .dp _ _ _ :: cs, x, os => IO cs x os
  | .dlent tid d :: cs, x, os => ∃ a c X q, os = .deep d.ty (List.length x.1) a c X :: q ∧ DV w p false tid d x.1 a c X ∧ IO cs x.2 q

def Sh : Bool → Value → List Value → Prop
  | true, v, cs => v = .agg cs.toArray
  | false, v, cs => cs = [v]

def IS : (sh : List (Nat × SSh)) → HL (saveC sh) → (Nat → Value) → List Own → Prop
  | [], _, _, os => os = []
  | (s, .v agg cs) :: r, x, V, os => ∃ cells o1 o2, os = o1 ++ o2 ∧ Sh agg (V s) cells ∧ IL w p cs (fstHL cs (saveC r) x) cells o1 ∧ IS r (sndHL cs (saveC r) x) V o2
  | (s, .ptr cs) :: r, x, V, os => ∃ b cells tid o1 o2, os = .box b :: (o1 ++ o2) ∧ V s = .pointer (some ⟨b, 0, none⟩) ∧ w.heap[b]? = some (.cells cells tid (0, 0)) ∧
      IL w p cs (fstHL cs (saveC r) x) cells.toList o1 ∧ IS r (sndHL cs (saveC r) x) V o2
end

def lents {α : Type} : List Cm → List α → List α
  | [], _ => []
  | .val _ :: cs, os => lents cs os
  | .own _ _ :: cs, _ :: os => lents cs os
  | .row _ _ :: cs, o :: os => o :: lents cs os
  | .box _ :: cs, o :: os => o :: lents cs os
  | .dp _ _ _ :: cs, _ :: os => lents cs os
  | .dlent _ _ :: cs, o :: os => o :: lents cs os
  | _ :: _, [] => []

def nown : List Cm → Nat
  | [] => 0
  | .val _ :: cs => nown cs
  | _ :: cs => nown cs + 1

theorem lents_append {α : Type} : ∀ {cs ds : List Cm} {os qs : List α}, os.length = nown cs → lents (cs ++ ds) (os ++ qs) = lents cs os ++ lents ds qs
  | [], _, [], _, _ => rfl
  | .val _ :: cs, _, os, _, h => by
    show lents (cs ++ _) (os ++ _) = lents cs os ++ _
    exact lents_append (cs := cs) h
  | .own _ _ :: cs, _, o :: os, _, h => by
    show lents (cs ++ _) (os ++ _) = lents cs os ++ _
    exact lents_append (cs := cs) (by simpa [nown] using h)
  | .row _ _ :: cs, _, o :: os, _, h => by
    show o :: lents (cs ++ _) (os ++ _) = o :: lents cs os ++ _
    rw [lents_append (cs := cs) (by simpa [nown] using h)]; rfl
  | .box _ :: cs, _, o :: os, _, h => by
    show o :: lents (cs ++ _) (os ++ _) = o :: lents cs os ++ _
    rw [lents_append (cs := cs) (by simpa [nown] using h)]; rfl
  | .dp _ _ _ :: cs, _, o :: os, _, h => by
    show lents (cs ++ _) (os ++ _) = lents cs os ++ _
    exact lents_append (cs := cs) (by simpa [nown] using h)
  | .dlent _ _ :: cs, _, o :: os, _, h => by
    show o :: lents (cs ++ _) (os ++ _) = o :: lents cs os ++ _
    rw [lents_append (cs := cs) (by simpa [nown] using h)]; rfl

theorem lents_map {α β : Type} (f : α → β) : ∀ (cs : List Cm) (os : List α), lents cs (os.map f) = (lents cs os).map f
  | [], _ => rfl
  | .val _ :: cs, os => lents_map f cs os
  | .own _ _ :: _, [] => rfl
  | .row _ _ :: _, [] => rfl
  | .box _ :: _, [] => rfl
  | .dp _ _ _ :: _, [] => rfl
  | .dlent _ _ :: _, [] => rfl
  | .dp _ _ _ :: cs, _ :: os => lents_map f cs os
  | .dlent _ _ :: cs, o :: os => by show f o :: _ = f o :: _; rw [lents_map f cs os]
  | .own _ _ :: cs, _ :: os => lents_map f cs os
  | .row _ _ :: cs, o :: os => by show f o :: _ = f o :: _; rw [lents_map f cs os]
  | .box _ :: cs, o :: os => by show f o :: _ = f o :: _; rw [lents_map f cs os]

theorem lents_sub {α : Type} : ∀ (cs : List Cm) (os : List α), (lents cs os).Sublist os
  | [], os => List.nil_sublist os
  | .val _ :: cs, os => lents_sub cs os
  | .own _ _ :: _, [] => List.Sublist.refl _
  | .row _ _ :: _, [] => List.Sublist.refl _
  | .box _ :: _, [] => List.Sublist.refl _
  | .dp _ _ _ :: _, [] => List.Sublist.refl _
  | .dlent _ _ :: _, [] => List.Sublist.refl _
  | .dp _ _ _ :: cs, _ :: os => (lents_sub cs os).cons _
  | .dlent _ _ :: cs, o :: os => (lents_sub cs os).cons_cons o
  | .own _ _ :: cs, _ :: os => (lents_sub cs os).cons _
  | .row _ _ :: cs, o :: os => (lents_sub cs os).cons_cons o
  | .box _ :: cs, o :: os => (lents_sub cs os).cons_cons o

theorem IL.count {w : World} {p : Nat → Prop} : ∀ (cs : List Cm) (x : HL cs) (vs : List Value) (os : List Own), IL w p cs x vs os → os.length = nown cs
  | [], _, _, _, h => by rw [h.2]; rfl
  | .val _ :: cs, x, _, os, h => by obtain ⟨_, c2, _, _, h⟩ := h; exact IL.count cs x.2 c2 os h
  | .own _ _ :: cs, x, _, _, h => by obtain ⟨_, _, _, _, r, q, _, rfl, _, h⟩ := h; simp [nown, IL.count cs x.2 r q h]
  | .row _ _ :: cs, x, _, _, h => by obtain ⟨_, _, r, q, _, rfl, _, h⟩ := h; simp [nown, IL.count cs x.2 r q h]
  | .box _ :: cs, x, _, _, h => by obtain ⟨_, r, q, _, rfl, _, h⟩ := h; simp [nown, IL.count cs x.2 r q h]
  | .dp _ _ _ :: cs, x, _, _, h => by obtain ⟨_, _, _, _, r, q, _, rfl, _, _, h⟩ := h; simp [nown, IL.count cs x.2 r q h]
  | .dlent _ _ :: cs, x, _, _, h => by obtain ⟨_, _, _, r, q, _, rfl, _, h⟩ := h; simp [nown, IL.count cs x.2 r q h]

theorem RowV.mono {w w' : World} {p q : Nat → Prop} {tid : Nat} {e : Ty} {xs : List e.den} {a : Option Addr} {c : Nat} (h : RowV w p tid e xs a c)
    (hp : ∀ b, p b → b < w.heap.size → q b ∧ w'.heap[b]? = w.heap[b]?) (hb : ∀ b, a.map (·.block) = some b → w'.heap[b]? = w.heap[b]?) : RowV w' q tid e xs a c := by
  obtain ⟨ds, h1, h2⟩ := h
  refine ⟨ds, ⟨h1.1, ?_⟩, h2.mono fun x c _ hr => Rep.mono hp e x c hr⟩
  rcases h1.2 with h3 | ⟨g, cap, cur, h4, h5, h6, h7⟩
  · exact .inl h3
  · refine .inr ⟨g, cap, cur, h4, h5, ?_, h7⟩
    simp only [Value.slice.injEq] at h4
    rw [hb g (by rw [h4.1]; rfl)]; exact h6

theorem RowV.flat {w : World} {p q : Nat → Prop} {tid : Nat} {e : Ty} {xs : List e.den} {a : Option Addr} {c : Nat} (hf : e.flat = true) (h : RowV w p tid e xs a c) : RowV w q tid e xs a c := by
  obtain ⟨ds, h1, h2⟩ := h
  exact ⟨ds, h1, h2.mono fun x c _ hr => Rep.flat e x c hf hr⟩

theorem DV.mono {w w' : World} {p q : Nat → Prop} {pt : Bool} {tid : Nat} {d : DTy} {x : DT pt d} {a : Option Addr} {c : Nat} {X : List Nat} (h : DV w p pt tid d x a c X)
    (hp : ∀ b, p b → b < w.heap.size → q b ∧ w'.heap[b]? = w.heap[b]?) (hb : ∀ b, a.map (·.block) = some b ∨ b ∈ X → w'.heap[b]? = w.heap[b]?) : DV w' q pt tid d x a c X := by
  obtain ⟨hn, ds, h1, h2⟩ := h
  exact ⟨hn, ds, ownsRow_keep h1 fun b hm => hb b (.inl (by simpa [ablk] using hm)), ElsR.keep hp _ 0 ds X (fun b hm => hb b (.inr hm)) h2⟩

theorem ElsR.all {w : World} {p q : Nat → Prop} {d : DTy} : ∀ (xs : List d.ty.den) (i : Nat) (cs : List Value) (bs : List Nat), ElsR w p d none i xs cs bs → ElsR w q d none i xs cs bs
  | [], _, _, _, h => h
  | x :: xs, i, _, _, h => by
    obtain ⟨c1, c2, b1, b2, h1, h2, h3, h4⟩ := h
    exact ⟨c1, c2, b1, b2, h1, h2, h3, ElsR.all xs (i + 1) c2 b2 h4⟩

theorem DV.flat {w : World} {p q : Nat → Prop} {tid : Nat} {d : DTy} {x : DT false d} {a : Option Addr} {c : Nat} {X : List Nat} (h : DV w p false tid d x a c X) : DV w q false tid d x a c X := by
  obtain ⟨hn, ds, h1, h2⟩ := h
  exact ⟨hn, ds, h1, ElsR.all _ 0 ds X h2⟩

theorem IL.flat {w : World} {p q : Nat → Prop} : ∀ (cs : List Cm) (x : HL cs) (vs : List Value) (os : List Own), cs.all Cm.flat = true → IL w p cs x vs os → IL w q cs x vs os
  | [], _, _, _, _, h => h
  | .val t :: cs, x, _, os, hf, h => by
    simp only [List.all_cons, Bool.and_eq_true] at hf
    obtain ⟨c1, c2, h1, h2, h⟩ := h
    exact ⟨c1, c2, h1, Rep.flat t _ _ hf.1 h2, IL.flat cs x.2 c2 os hf.2 h⟩
  | .own _ _ :: cs, x, _, _, hf, h => by
    simp only [List.all_cons, Bool.and_eq_true] at hf
    obtain ⟨a, c, t, n, r, q, h1, h2, h3, h⟩ := h
    exact ⟨a, c, t, n, r, q, h1, h2, h3.flat hf.1, IL.flat cs x.2 r q hf.2 h⟩
  | .row _ _ :: cs, x, _, _, hf, h => by
    simp only [List.all_cons, Bool.and_eq_true] at hf
    obtain ⟨a, c, r, q, h1, h2, h3, h⟩ := h
    exact ⟨a, c, r, q, h1, h2, h3.flat hf.1, IL.flat cs x.2 r q hf.2 h⟩
  | .box t :: cs, x, _, _, hf, h => by
    simp only [List.all_cons, Bool.and_eq_true] at hf
    obtain ⟨b, r, q, h1, h2, ⟨cells, tid, h3, h4⟩, h⟩ := h
    exact ⟨b, r, q, h1, h2, ⟨cells, tid, h3, Rep.flat t _ _ hf.1 h4⟩, IL.flat cs x.2 r q hf.2 h⟩
  | .dp pt tid d :: cs, x, _, _, hf, h => by
    simp only [List.all_cons, Bool.and_eq_true] at hf
    obtain ⟨a, c, X, o, r, q, h1, h2, h3, h4, h⟩ := h
    have hpt : pt = false := by have := hf.1; simp only [Cm.flat] at this; cases pt <;> simp_all
    subst hpt
    exact ⟨a, c, X, o, r, q, h1, h2, h3, h4.flat, IL.flat cs x.2 r q hf.2 h⟩
  | .dlent tid d :: cs, x, _, _, hf, h => by
    simp only [List.all_cons, Bool.and_eq_true] at hf
    obtain ⟨a, c, X, r, q, h1, h2, h3, h⟩ := h
    exact ⟨a, c, X, r, q, h1, h2, h3.flat, IL.flat cs x.2 r q hf.2 h⟩

theorem all_app {a b : List Cm} : (a ++ b).all Cm.flat = true ↔ a.all Cm.flat = true ∧ b.all Cm.flat = true := by
  rw [List.all_append, Bool.and_eq_true]

theorem IS.flat {w : World} {p q : Nat → Prop} : ∀ (sh : List (Nat × SSh)) (x : HL (saveC sh)) (V : Nat → Value) (os : List Own), (saveC sh).all Cm.flat = true → IS w p sh x V os → IS w q sh x V os
  | [], _, _, _, _, h => h
  | (s, .v agg cs) :: r, x, V, os, hf, h => by
    obtain ⟨hf1, hf2⟩ := all_app.1 hf
    obtain ⟨cells, o1, o2, h1, h2, h3, h4⟩ := h
    exact ⟨cells, o1, o2, h1, h2, IL.flat cs _ _ _ hf1 h3, IS.flat r _ V o2 hf2 h4⟩
  | (s, .ptr cs) :: r, x, V, os, hf, h => by
    obtain ⟨hf1, hf2⟩ := all_app.1 hf
    obtain ⟨b, cells, tid, o1, o2, h1, h2, h3, h4, h5⟩ := h
    exact ⟨b, cells, tid, o1, o2, h1, h2, h3, IL.flat cs _ _ _ hf1 h4, IS.flat r _ V o2 hf2 h5⟩

theorem IO.flat {w : World} {p q : Nat → Prop} : ∀ (cs : List Cm) (x : HL (iosC cs)) (os : List Own), (iosC cs).all Cm.flat = true → IO w p cs x os → IO w q cs x os
  | [], _, _, _, h => h
  | .val t :: cs, x, os, hf, h => IO.flat cs x os hf h
  | .own _ _ :: cs, x, os, hf, h => IO.flat cs x os hf h
  | .row _ _ :: cs, x, _, hf, h => by
    simp only [iosC, List.all_cons, Bool.and_eq_true] at hf
    obtain ⟨a, c, q, h2, h3, h⟩ := h
    exact ⟨a, c, q, h2, h3.flat hf.1, IO.flat cs x.2 q hf.2 h⟩
  | .box t :: cs, x, _, hf, h => by
    simp only [iosC, List.all_cons, Bool.and_eq_true] at hf
    obtain ⟨b, q, h2, ⟨cells, tid, h3, h4⟩, h⟩ := h
    exact ⟨b, q, h2, ⟨cells, tid, h3, Rep.flat t _ _ hf.1 h4⟩, IO.flat cs x.2 q hf.2 h⟩
  | .dp _ _ _ :: cs, x, os, hf, h => IO.flat cs x os hf h
  | .dlent tid d :: cs, x, _, hf, h => by
    simp only [iosC, List.all_cons, Bool.and_eq_true] at hf
    obtain ⟨a, c, X, q, h2, h3, h⟩ := h
    exact ⟨a, c, X, q, h2, h3.flat, IO.flat cs x.2 q hf.2 h⟩

/-! ### taking -/

def live : AObj → Bool
  | .box _ => true
  | .row _ _ _ => true
  | .deep _ _ _ _ _ => true
  | _ => false

def ownAt (G : Gh) (obj : Nat → AObj) : Option Nat → Own
  | none => .row .unit 0 none 0
  | some n => match obj n with
    | .box _ => .box (G.bk n)
    | .row _ e xs => .row e (List.length xs) (G.hd n).1 (G.hd n).2
    | .deep _ d _ xs _ => .deep d.ty (List.length xs) (G.hd n).1 (G.hd n).2 (G.ex n)
    | _ => .row .unit 0 none 0

theorem ownAt_blk {G : Gh} {obj : Nat → AObj} {n : Nat} (h : live (obj n) = true) : (ownAt G obj (some n)).blk = blk G obj n := by
  funext b
  cases ho : obj n with
  | box ls => simp [ownAt, blk, ho, Own.blk]
  | row _ _ _ => simp [ownAt, blk, ho, Own.blk]
  | deep _ _ _ _ _ => simp [ownAt, blk, ho, Own.blk]
  | none => rw [ho] at h; cases h
  | dead => rw [ho] at h; cases h

structure TkI (obj0 : Nat → AObj) (T : List Nat) (tk : Tk) : Prop where
  nodup : T.Nodup
  taken : ∀ m ∈ T, live (obj0 m) = true ∧ tk.obj m = .dead
  kept : ∀ m, m ∉ T → tk.obj m = obj0 m

section
variable {w : World} {p : Nat → Prop} {G : Gh} {obj0 : Nat → AObj} {T : List Nat} {tk : Tk}

theorem TkI.start (obj0 : Nat → AObj) (ios sh : List Nat) : TkI obj0 [] ⟨obj0, ios, sh⟩ := ⟨List.nodup_nil, fun _ h => (by cases h), fun _ _ => rfl⟩

theorem TkI.of_live (h : TkI obj0 T tk) {n : Nat} (hl : live (tk.obj n) = true) : n ∉ T ∧ tk.obj n = obj0 n := by
  by_cases hn : n ∈ T
  · rw [(h.taken n hn).2] at hl; cases hl
  · exact ⟨hn, h.kept n hn⟩

theorem TkI.tr (h : TkI obj0 T tk) : Tr w p G obj0 w p G tk.obj := by
  have hk : ∀ n, live (tk.obj n) = true → tk.obj n = obj0 n := fun n hl => (h.of_live hl).2
  refine ⟨fun _ hb _ => ⟨hb, rfl⟩, Nat.le_refl _, fun n hn => ?_, fun n e l hx _ => ⟨?_, rfl⟩, fun n ls hx _ => ⟨⟨ls, ?_⟩, rfl⟩⟩
  · by_cases hm : n ∈ T
    · rw [(h.taken n hm).2]; simp
    · rw [h.kept n hm]; exact hn
  · rw [← hk n (by cases ho : tk.obj n <;> (first | rfl | (rw [ho] at hx; cases hx)))]; exact hx
  · rw [← hk n (by rw [hx]; rfl)]; exact hx

theorem TkI.ro (h : TkI obj0 T tk) (hO : ∀ n, RO w p G obj0 n (obj0 n)) (n : Nat) : RO w p G tk.obj n (tk.obj n) := by
  by_cases hm : n ∈ T
  · rw [(h.taken n hm).2]; trivial
  · rw [h.kept n hm]
    exact RO.kept h.tr rfl rfl rfl rfl (fun _ _ => rfl) (hO n)

theorem TkI.blk (h : TkI obj0 T tk) {n b : Nat} (hb : blk G tk.obj n b) : blk G obj0 n b := by
  have : live (tk.obj n) = true := by
    unfold Vx.blk at hb
    cases ho : tk.obj n with
    | box _ => rfl
    | row _ _ _ => rfl
    | deep _ _ _ _ _ => rfl
    | none => rw [ho] at hb; cases hb
    | dead => rw [ho] at hb; cases hb
  unfold Vx.blk at hb ⊢
  rw [← (h.of_live this).2]; exact hb

theorem TkI.sh (h : TkI obj0 T tk) {ns ms : List Nat} (hs : ∀ n ∈ ns, n ∈ ms) {b : Nat} (hb : withSh p G tk.obj ns b) : withSh p G obj0 ms b := by
  rcases hb with hb | ⟨n, hn, hb⟩
  · exact .inl hb
  · exact .inr ⟨n, hs n hn, h.blk hb⟩

theorem TkI.more (h : TkI obj0 T tk) {n : Nat} (hl : live (tk.obj n) = true) (ios sh : List Nat) : TkI obj0 (T ++ [n]) ⟨setO tk.obj n .dead, ios, sh⟩ := by
  obtain ⟨h1, h2⟩ := h.of_live hl
  refine ⟨?_, fun m hm => ?_, fun m hm => ?_⟩
  · rw [List.nodup_append]
    exact ⟨h.nodup, by simp, fun a ha b hb => by simp only [List.mem_singleton] at hb; subst hb; exact fun e => h1 (e ▸ ha)⟩
  · show _ ∧ setO tk.obj n .dead m = .dead
    by_cases e : m = n
    · subst e; rw [setO_same]; rw [h2] at hl; exact ⟨hl, rfl⟩
    · rw [setO_other _ _ e]
      exact h.taken m (by simpa [e] using hm)
  · show setO tk.obj n .dead m = _
    rw [List.mem_append, List.mem_singleton, not_or] at hm
    rw [setO_other _ _ hm.2]
    exact h.kept m hm.1

theorem TkI.same (h : TkI obj0 T tk) (ios sh : List Nat) : TkI obj0 T ⟨tk.obj, ios, sh⟩ := ⟨h.nodup, h.taken, h.kept⟩

theorem takeRow_sound (hI : TkI obj0 T tk) (hO : ∀ n, RO w p G obj0 n (obj0 n)) {tid : Nat} {e : Ty} {lend : Bool} {l : Leaf} {cs : List Value} (hl : RL w p G obj0 l cs) {xs : List e.den} {tk' : Tk}
    (h : takeRow tid e tk lend l = some (xs, tk')) :
    ∃ nm a c t k, TkI obj0 (T ++ nm.toList) tk' ∧ cs = [.slice a xs.length c] ∧ ownAt G obj0 nm = .row t k a c ∧ RowV w p tid e xs a c ∧ tk'.sh = tk.sh ∧
      (lend = false → tk'.ios = tk.ios) ∧ (lend = true → t = e ∧ k = xs.length ∧ ∃ n, nm = some n ∧ tk'.ios = n :: tk.ios) := by
  unfold takeRow at h
  split at h
  · cases lend with
    | true => cases h
    | false =>
      simp only [cond_false, Option.some.injEq, Prod.mk.injEq] at h
      obtain ⟨rfl, rfl⟩ := h
      have hl : _ = _ := hl
      refine ⟨none, none, 0, .unit, 0, by simpa using hI, hl, rfl, ⟨[], ⟨by simp, .inl ⟨rfl, rfl⟩⟩, rfl⟩, rfl, fun _ => rfl, fun h => by cases h⟩
  · rename_i n
    split at h
    · rename_i tid' e' ys ho
      obtain ⟨hb, hk⟩ := cond_some h
      clear h
      have := Nat.eq_of_beq_eq_true hb
      subst this
      cases hz : castL e' e ys with
      | none => rw [hz] at hk; cases hk
      | some zs =>
        rw [hz] at hk
        obtain ⟨rfl, rfl⟩ := Prod.mk.inj (Option.some.inj hk)
        obtain ⟨he, hz⟩ := castL_some hz
        subst he
        subst hz
        have hlv : live (tk.obj n) = true := by rw [ho]; rfl
        obtain ⟨_, h2⟩ := hI.of_live hlv
        have ho0 : obj0 n = .row tid' e' ys := by rw [← h2, ho]
        obtain ⟨v, k1, k2, k3, k4⟩ := hl
        have hr := hO n
        rw [ho0] at hr
        refine ⟨some n, _, _, _, _, hI.more hlv _ _, by rw [k1, k4 _ (List.length ys) (by rw [ho0]; rfl)], by simp only [ownAt, ho0], hr, rfl, fun hf => by simp [hf], fun hf => ⟨rfl, rfl, n, rfl, by simp [hf]⟩⟩
    · cases h
  · cases h

theorem castD_some {d' d : DTy} {xs : List d'.ty.den} {ys : List d.ty.den} (h : castD d' d xs = some ys) : ∃ e : d' = d, e ▸ xs = ys := by
  unfold castD at h
  split at h
  · rename_i e
    exact ⟨e, Option.some.inj h⟩
  · cases h

theorem mkDT_some {pt : Bool} {d : DTy} {k : Option Int} {ys : List d.ty.den} {x : DT pt d} (h : mkDT pt k ys = some x) : dK pt x = k ∧ dXs pt x = ys := by
  cases pt <;> cases k <;> simp only [mkDT] at h <;> cases h <;> exact ⟨rfl, rfl⟩

theorem takeDp_sound (hI : TkI obj0 T tk) (hO : ∀ n, RO w p G obj0 n (obj0 n)) {pt : Bool} {tid : Nat} {d : DTy} {l : Leaf} {cs : List Value} (hl : RL w p G obj0 l cs) {x : DT pt d} {tk' : Tk}
    (h : takeDp pt tid d tk l = some (x, tk')) :
    ∃ nm a c X, TkI obj0 (T ++ nm.toList) tk' ∧ cs = [.slice a (List.length (dXs pt x)) c] ∧ (ownAt G obj0 nm).isR a c X ∧ DV w p pt tid d x a c X ∧ tk'.sh = tk.sh ∧ tk'.ios = tk.ios := by
  unfold takeDp at h
  split at h
  · split at h
    · rename_i y hy
      simp only [Option.some.injEq, Prod.mk.injEq] at h
      obtain ⟨rfl, rfl⟩ := h
      have hl : _ = _ := hl
      cases pt with
      | true => cases hy
      | false =>
        obtain rfl : [] = y := Option.some.inj hy
        exact ⟨none, none, 0, [], by simpa using hI, hl, ⟨rfl, rfl, rfl⟩, ⟨by simp [ablk], [], ⟨by simp [dXs], .inl ⟨rfl, rfl⟩⟩, ⟨rfl, rfl⟩⟩, rfl, rfl⟩
    · cases h
  · rename_i n
    obtain ⟨v, k1, k2, k3, k4⟩ := hl
    split at h
    · rename_i tid' d' kk ys ho
      obtain ⟨hb, hk⟩ := cond_some h
      clear h
      have := Nat.eq_of_beq_eq_true hb
      subst this
      cases hz : castD d' d ys with
      | none => rw [hz] at hk; cases hk
      | some zs =>
        rw [hz] at hk
        simp only at hk
        cases hm : mkDT pt kk zs with
        | none => rw [hm] at hk; cases hk
        | some x' =>
        rw [hm] at hk
        obtain ⟨rfl, rfl⟩ := Prod.mk.inj (Option.some.inj hk)
        obtain ⟨m1, m2⟩ := mkDT_some hm
        obtain ⟨he, hz⟩ := castD_some hz
        subst he
        subst hz
        have hlv : live (tk.obj n) = true := by rw [ho]; rfl
        obtain ⟨_, h2⟩ := hI.of_live hlv
        have ho0 : obj0 n = .deep tid' d' kk ys none := by rw [← h2, ho]
        have hr := hO n
        rw [ho0] at hr
        obtain ⟨r1, ds, ds', r2, r3, r4⟩ := hr
        have r3 : ds' = ds := r3
        subst r3
        refine ⟨some n, (G.hd n).1, (G.hd n).2, G.ex n, hI.more hlv _ _, by rw [k1, k4 _ (List.length ys) (by rw [ho0]; rfl), m2], by simp only [ownAt, ho0]; exact ⟨rfl, rfl, rfl⟩, ⟨r1, ds', ?_, ?_⟩, rfl, rfl⟩
        · rw [m2]; exact r2
        · rw [m1, m2]; exact r4
    · cases h
  · cases h

theorem takeDl_sound (hI : TkI obj0 T tk) (hO : ∀ n, RO w p G obj0 n (obj0 n)) {tid : Nat} {d : DTy} {l : Leaf} {cs : List Value} (hl : RL w p G obj0 l cs) {x : List d.ty.den} {tk' : Tk}
    (h : takeDl tid d tk l = some (x, tk')) :
    ∃ n a c X, TkI obj0 (T ++ [n]) tk' ∧ cs = [.slice a (List.length x) c] ∧ ownAt G obj0 (some n) = .deep d.ty (List.length x) a c X ∧ DV w p false tid d x a c X ∧ tk'.sh = tk.sh ∧ tk'.ios = n :: tk.ios := by
  unfold takeDl at h
  split at h
  · rename_i n
    obtain ⟨v, k1, k2, k3, k4⟩ := hl
    split at h
    · rename_i tid' d' ys ho
      obtain ⟨hb, hk⟩ := cond_some h
      clear h
      have := Nat.eq_of_beq_eq_true hb
      subst this
      cases hz : castD d' d ys with
      | none => rw [hz] at hk; cases hk
      | some zs =>
        rw [hz] at hk
        obtain ⟨rfl, rfl⟩ := Prod.mk.inj (Option.some.inj hk)
        obtain ⟨he, hz⟩ := castD_some hz
        subst he
        subst hz
        have hlv : live (tk.obj n) = true := by rw [ho]; rfl
        obtain ⟨_, h2⟩ := hI.of_live hlv
        have ho0 : obj0 n = .deep tid' d' none ys none := by rw [← h2, ho]
        have hr := hO n
        rw [ho0] at hr
        obtain ⟨r1, ds, ds', r2, r3, r4⟩ := hr
        have r3 : ds' = ds := r3
        subst r3
        exact ⟨n, _, _, _, hI.more hlv _ _, by rw [k1, k4 _ (List.length ys) (by rw [ho0]; rfl)], by simp only [ownAt, ho0], ⟨r1, ds', r2, r4⟩, rfl, rfl⟩
    · cases h
  · cases h

theorem takeBox_sound (hI : TkI obj0 T tk) (hO : ∀ n, RO w p G obj0 n (obj0 n)) {t : Ty} {l : Leaf} {cs : List Value} (hl : RL w p G obj0 l cs) {x : t.den} {tk' : Tk}
    (h : takeBox t tk l = some (x, tk')) :
    ∃ n b, TkI obj0 (T ++ [n]) tk' ∧ cs = [.pointer (some ⟨b, 0, none⟩)] ∧ ownAt G obj0 (some n) = .box b ∧ (∃ s, tk'.sh = s ++ tk.sh) ∧ BoxV w (withSh p G obj0 tk'.sh) t x b ∧ tk'.ios = n :: tk.ios := by
  unfold takeBox at h
  split at h
  · rename_i n
    split at h
    · rename_i ls ho
      split at h
      · rename_i y hy
        simp only [Option.some.injEq, Prod.mk.injEq] at h
        obtain ⟨rfl, rfl⟩ := h
        have hlv : live (tk.obj n) = true := by rw [ho]; rfl
        obtain ⟨_, h2⟩ := hI.of_live hlv
        have ho0 : obj0 n = .box ls := by rw [← h2, ho]
        obtain ⟨v, k1, k2, k3, k4⟩ := hl
        have hr := hI.ro hO n
        rw [ho] at hr
        obtain ⟨cells, tid, r1, r2⟩ := hr
        have hre := reify_map (hI.ro hO) _ _ r2
        obtain ⟨c1, c2, s1, s2, s3⟩ := ofLeaves_sound t _ _ _ _ hre hy
        have s3 : c2 = [] := s3
        rw [s3, List.append_nil] at s1
        refine ⟨n, G.bk n, hI.more hlv _ _, by rw [k1, k4 _ ho0], by simp only [ownAt, ho0], ⟨shown ls, rfl⟩, ⟨cells, tid, r1, ?_⟩, rfl⟩
        rw [s1]
        exact Rep.mono (fun b hb _ => ⟨hI.sh (fun n hn => List.mem_append_left _ hn) hb, rfl⟩) t _ _ s2
      · cases h
    · cases h
  · cases h

theorem RLs.cons {l : Leaf} {ls : List Leaf} {cells : List Value} (h : RLs w p G obj0 (l :: ls) cells) : ∃ c1 c2, cells = c1 ++ c2 ∧ RL w p G obj0 l c1 ∧ RLs w p G obj0 ls c2 := h

theorem leafIn_sound (hO : ∀ n, RO w p G obj0 n (obj0 n)) (q : Nat → Prop) : ∀ (cs : List Cm) (ls : List Leaf) (T : List Nat) (tk : Tk) (cells : List Value) (x : HL cs) (tk' : Tk),
    TkI obj0 T tk → RLs w p G obj0 ls cells → leafIn cs ls tk = some (x, tk') → (∀ b, withSh p G obj0 tk'.sh b → q b) →
    ∃ nms, TkI obj0 (T ++ nms.filterMap id) tk' ∧ IL w q cs x cells (nms.map (ownAt G obj0)) ∧ (∃ s, tk'.sh = s ++ tk.sh) ∧ ∃ ln : List Nat, tk'.ios = ln.reverse ++ tk.ios ∧ lents cs nms = ln.map some
  | [], [], T, tk, cells, x, tk', hI, hl, h, hq => by
    simp only [leafIn, Option.some.injEq, Prod.mk.injEq] at h
    obtain ⟨_, rfl⟩ := h
    have hl : cells = [] := hl
    exact ⟨[], by simpa using hI, ⟨hl, rfl⟩, ⟨[], rfl⟩, [], rfl, rfl⟩
  | [], _ :: _, _, _, _, _, _, _, _, h, _ => by simp [leafIn] at h
  | .val t :: cs, ls, T, tk, cells, x, tk', hI, hl, h, hq => by
    simp only [leafIn] at h
    split at h
    · rename_i y hy
      split at h
      · rename_i z tk1 hz
        simp only [Option.some.injEq, Prod.mk.injEq] at h
        obtain ⟨rfl, rfl⟩ := h
        rw [← List.take_append_drop (nlv t) ls] at hl
        obtain ⟨c1, c2, rfl, l1, l2⟩ := hl.split
        obtain ⟨nms, i1, i2, ⟨s, i3⟩, i4⟩ := leafIn_sound hO q cs _ T _ c2 z tk1 (hI.same tk.ios (shown (ls.take (nlv t)) ++ tk.sh)) l2 hz hq
        have hre := reify_map (hI.ro hO) _ _ (RLs.mono hI.tr _ _ l1)
        obtain ⟨d1, d2, s1, s2, s3⟩ := ofLeaves_sound t _ _ _ _ hre hy
        have s3 : d2 = [] := s3
        rw [s3, List.append_nil] at s1
        refine ⟨nms, i1, ⟨c1, c2, rfl, ?_, i2⟩, ⟨s ++ shown (ls.take (nlv t)), by rw [i3]; simp⟩, i4⟩
        rw [s1]
        exact Rep.mono (fun b hb _ => ⟨hq b (hI.sh (fun n hn => by rw [i3]; simp [hn]) hb), rfl⟩) t _ _ s2
      · cases h
    · cases h
  | .own tid e :: cs, [], _, _, _, _, _, _, _, h, _ => by simp [leafIn] at h
  | .row tid e :: cs, [], _, _, _, _, _, _, _, h, _ => by simp [leafIn] at h
  | .box t :: cs, [], _, _, _, _, _, _, _, h, _ => by simp [leafIn] at h
  | .dp _ _ _ :: cs, [], _, _, _, _, _, _, _, h, _ => by simp [leafIn] at h
  | .dlent _ _ :: cs, [], _, _, _, _, _, _, _, h, _ => by simp [leafIn] at h
  | .dp pt tid d :: cs, l :: ls, T, tk, cells, x, tk', hI, hl, h, hq => by
    simp only [leafIn] at h
    split at h
    · rename_i xs tk1 h1
      split at h
      · rename_i y tk2 h2
        simp only [Option.some.injEq, Prod.mk.injEq] at h
        obtain ⟨rfl, rfl⟩ := h
        obtain ⟨c1, c2, rfl, l1, l2⟩ := RLs.cons hl
        obtain ⟨nm, a, c, X, j1, j2, j3, j4, j5, j6⟩ := takeDp_sound hI hO l1 h1
        obtain ⟨nms, i1, i2, ⟨s, i3⟩, ln, i4, i5⟩ := leafIn_sound hO q cs ls _ tk1 c2 y tk2 j1 l2 h2 hq
        refine ⟨nm :: nms, ?_, ⟨a, c, X, _, c2, _, by rw [j2]; rfl, rfl, j3, j4.mono (fun b hb _ => ⟨hq b (.inl hb), rfl⟩) (fun _ _ => rfl), i2⟩, ⟨s, by rw [i3, j5]⟩, ln, by rw [i4, j6], i5⟩
        rw [List.append_assoc] at i1
        cases nm <;> exact i1
      · cases h
    · cases h
  | .dlent tid d :: cs, l :: ls, T, tk, cells, x, tk', hI, hl, h, hq => by
    simp only [leafIn] at h
    split at h
    · rename_i xs tk1 h1
      split at h
      · rename_i y tk2 h2
        simp only [Option.some.injEq, Prod.mk.injEq] at h
        obtain ⟨rfl, rfl⟩ := h
        obtain ⟨c1, c2, rfl, l1, l2⟩ := RLs.cons hl
        obtain ⟨n, a, c, X, j1, j2, j3, j4, j5, j8⟩ := takeDl_sound hI hO l1 h1
        obtain ⟨nms, i1, i2, ⟨s, i3⟩, ln, i4, i5⟩ := leafIn_sound hO q cs ls _ tk1 c2 y tk2 j1 l2 h2 hq
        refine ⟨some n :: nms, ?_, ⟨a, c, X, c2, _, by rw [j2]; rfl, by rw [List.map_cons, j3], j4.mono (fun b hb _ => ⟨hq b (.inl hb), rfl⟩) (fun _ _ => rfl), i2⟩, ⟨s, by rw [i3, j5]⟩, n :: ln, by rw [i4, j8]; simp, ?_⟩
        · rw [List.append_assoc] at i1; exact i1
        · show some n :: lents cs nms = _
          rw [i5]; rfl
      · cases h
    · cases h
  | .own tid e :: cs, l :: ls, T, tk, cells, x, tk', hI, hl, h, hq => by
    simp only [leafIn] at h
    split at h
    · rename_i xs tk1 h1
      split at h
      · rename_i y tk2 h2
        simp only [Option.some.injEq, Prod.mk.injEq] at h
        obtain ⟨rfl, rfl⟩ := h
        obtain ⟨c1, c2, rfl, l1, l2⟩ := RLs.cons hl
        obtain ⟨nm, a, c, t, k, j1, j2, j3, j4, j5, j6, _⟩ := takeRow_sound hI hO l1 h1
        obtain ⟨nms, i1, i2, ⟨s, i3⟩, ln, i4, i5⟩ := leafIn_sound hO q cs ls _ tk1 c2 y tk2 j1 l2 h2 hq
        refine ⟨nm :: nms, ?_, ⟨a, c, t, k, c2, _, by rw [j2]; rfl, by rw [List.map_cons, j3], j4.mono (fun b hb _ => ⟨hq b (.inl hb), rfl⟩) (fun _ _ => rfl), i2⟩, ⟨s, by rw [i3, j5]⟩, ln, by rw [i4, j6 rfl], i5⟩
        rw [List.append_assoc] at i1
        cases nm <;> exact i1
      · cases h
    · cases h
  | .row tid e :: cs, l :: ls, T, tk, cells, x, tk', hI, hl, h, hq => by
    simp only [leafIn] at h
    split at h
    · rename_i xs tk1 h1
      split at h
      · rename_i y tk2 h2
        simp only [Option.some.injEq, Prod.mk.injEq] at h
        obtain ⟨rfl, rfl⟩ := h
        obtain ⟨c1, c2, rfl, l1, l2⟩ := RLs.cons hl
        obtain ⟨nm, a, c, t, k, j1, j2, j3, j4, j5, _, j7⟩ := takeRow_sound hI hO l1 h1
        obtain ⟨rfl, rfl, n, rfl, j8⟩ := j7 rfl
        obtain ⟨nms, i1, i2, ⟨s, i3⟩, ln, i4, i5⟩ := leafIn_sound hO q cs ls _ tk1 c2 y tk2 j1 l2 h2 hq
        refine ⟨some n :: nms, ?_, ⟨a, c, c2, _, by rw [j2]; rfl, by rw [List.map_cons, j3], j4.mono (fun b hb _ => ⟨hq b (.inl hb), rfl⟩) (fun _ _ => rfl), i2⟩, ⟨s, by rw [i3, j5]⟩, n :: ln, by rw [i4, j8]; simp, ?_⟩
        · rw [List.append_assoc] at i1; exact i1
        · show some n :: lents cs nms = _
          rw [i5]; rfl
      · cases h
    · cases h
  | .box t :: cs, l :: ls, T, tk, cells, x, tk', hI, hl, h, hq => by
    simp only [leafIn] at h
    split at h
    · rename_i xs tk1 h1
      split at h
      · rename_i y tk2 h2
        simp only [Option.some.injEq, Prod.mk.injEq] at h
        obtain ⟨rfl, rfl⟩ := h
        obtain ⟨c1, c2, rfl, l1, l2⟩ := RLs.cons hl
        obtain ⟨n, b, j1, j2, j3, ⟨s0, j5⟩, ⟨bc, btid, j4, j6⟩, j8⟩ := takeBox_sound hI hO l1 h1
        obtain ⟨nms, i1, i2, ⟨s, i3⟩, ln, i4, i5⟩ := leafIn_sound hO q cs ls _ tk1 c2 y tk2 j1 l2 h2 hq
        refine ⟨some n :: nms, ?_, ⟨b, c2, _, by rw [j2]; rfl, by rw [List.map_cons, j3], ⟨bc, btid, j4, ?_⟩, i2⟩, ⟨s ++ s0, by rw [i3, j5]; simp⟩, n :: ln, by rw [i4, j8]; simp, ?_⟩
        · rw [List.append_assoc] at i1; exact i1
        · exact Rep.mono (fun b hb _ => ⟨hq b (withSh_mono (fun m hm => by rw [i3]; exact List.mem_append_right _ hm) hb), rfl⟩) t _ _ j6
        · show some n :: lents cs nms = _
          rw [i5]; rfl
      · cases h
    · cases h

def allV : List (Nat × SSh) → Bool
  | [] => true
  | (_, .v _ _) :: r => allV r
  | (_, .ptr _) :: _ => false

theorem fst_app : ∀ {a b : List Cm} (x : HL a) (y : HL b), fstHL a b (appHL a b x y) = x
  | [], _, _, _ => rfl
  | _ :: _, _, x, y => by show (x.1, fstHL _ _ (appHL _ _ x.2 y)) = x; rw [fst_app]
theorem snd_app : ∀ {a b : List Cm} (x : HL a) (y : HL b), sndHL a b (appHL a b x y) = y
  | [], _, _, _ => rfl
  | _ :: _, _, x, y => snd_app x.2 y

theorem leavesIf_sound {agg : Bool} {x : AV} {ls : List Leaf} {v : Value} (h : leavesIf agg x = some ls) (hv : RV w p G obj0 x v) : ∃ cells, Sh agg v cells ∧ RLs w p G obj0 ls cells := by
  unfold leavesIf at h
  split at h
  · cases agg with
    | true => cases h
    | false =>
      simp only [cond_false, Option.some.injEq] at h
      subst h
      exact ⟨[v], rfl, RLs.single hv⟩
  · obtain ⟨ha, h⟩ := cond_some h
    subst ha
    obtain rfl := Option.some.inj h
    obtain ⟨cs, h1, h2⟩ := hv
    exact ⟨cs, h1, h2⟩
  · cases h

theorem save_sound (hO : ∀ n, RO w p G obj0 n (obj0 n)) (q : Nat → Prop) {env : Nat → AV} {V : Nat → Value} (hV : ∀ s, RV w p G obj0 (env s) (V s)) :
    ∀ (sh : List (Nat × SSh)) (T : List Nat) (tk : Tk) (x : HL (saveC sh)) (tk' : Tk),
    TkI obj0 T tk → save sh env tk = some (x, tk') → (∀ b, withSh p G obj0 tk'.sh b → q b) →
    ∃ nms, TkI obj0 (T ++ nms.filterMap id) tk' ∧ IS w q sh x V (nms.map (ownAt G obj0)) ∧ (∃ s, tk'.sh = s ++ tk.sh) ∧ (allV sh = true → ∃ ln : List Nat, tk'.ios = ln.reverse ++ tk.ios ∧ lents (saveC sh) nms = ln.map some)
  | [], T, tk, x, tk', hI, h, hq => by
    simp only [save, Option.some.injEq, Prod.mk.injEq] at h
    obtain ⟨_, rfl⟩ := h
    exact ⟨[], by simpa using hI, rfl, ⟨[], rfl⟩, fun _ => ⟨[], rfl, rfl⟩⟩
  | (s, .v agg cs) :: r, T, tk, x, tk', hI, h, hq => by
    simp only [save] at h
    split at h
    · cases h
    · rename_i ls hls
      split at h
      · cases h
      · rename_i y tk1 h1
        split at h
        · cases h
        · rename_i z tk2 h2
          obtain ⟨rfl, rfl⟩ := Prod.mk.inj (Option.some.inj h)
          obtain ⟨cells, c1, c2⟩ := leavesIf_sound hls (hV s)
          obtain ⟨nms0, k0, _, _, _⟩ := leafIn_sound hO (fun _ => True) cs ls T tk cells y tk1 hI c2 h1 (fun _ _ => trivial)
          obtain ⟨nms2, i1, i2, ⟨s2, i3⟩, i4⟩ := save_sound hO q hV r _ tk1 z tk2 k0 h2 hq
          obtain ⟨nms1, j1, j2, ⟨s1, j3⟩, ln, j4, j5⟩ := leafIn_sound hO q cs ls T tk cells y tk1 hI c2 h1 (fun b hb => hq b (withSh_mono (fun n hn => by rw [i3]; exact List.mem_append_right _ hn) hb))
          obtain ⟨nms2, i1, i2, ⟨s2, i3⟩, i4⟩ := save_sound hO q hV r _ tk1 z tk2 j1 h2 hq
          refine ⟨nms1 ++ nms2, ?_, ⟨cells, nms1.map (ownAt G obj0), nms2.map (ownAt G obj0), by simp, c1, by rw [fst_app]; exact j2, by rw [snd_app]; exact i2⟩, ⟨s2 ++ s1, by rw [i3, j3]; simp⟩, fun ha => ?_⟩
          · rw [List.filterMap_append, ← List.append_assoc]; exact i1
          · obtain ⟨ln2, i5, i6⟩ := i4 ha
            refine ⟨ln ++ ln2, by rw [i5, j4]; simp, ?_⟩
            have hc := IL.count cs y _ _ j2
            rw [List.length_map] at hc
            show lents (cs ++ saveC r) (nms1 ++ nms2) = _
            rw [lents_append hc, j5, i6, List.map_append]
  | (s, .ptr cs) :: r, T, tk, x, tk', hI, h, hq => by
    simp only [save] at h
    split at h
    · rename_i n hn
      split at h
      · rename_i ls ho
        split at h
        · cases h
        · rename_i y tk1 h1
          split at h
          · cases h
          · rename_i z tk2 h2
            obtain ⟨rfl, rfl⟩ := Prod.mk.inj (Option.some.inj h)
            have hlv : live (tk.obj n) = true := by rw [ho]; rfl
            obtain ⟨_, ho1⟩ := hI.of_live hlv
            have ho0 : obj0 n = .box ls := by rw [← ho1, ho]
            have hr := hO n
            rw [ho0] at hr
            obtain ⟨cells, tid, r1, c2⟩ := hr
            have hI1 := hI.more hlv tk.ios tk.sh
            have hv := hV s
            rw [hn] at hv
            obtain ⟨v, v1, _, _, v4⟩ := hv
            simp only [List.cons.injEq, and_true] at v1
            obtain ⟨nms0, k0, _, _, _⟩ := leafIn_sound hO (fun _ => True) cs ls _ _ cells.toList y tk1 hI1 c2 h1 (fun _ _ => trivial)
            obtain ⟨nms2, i1, i2, ⟨s2, i3⟩, i4⟩ := save_sound hO q hV r _ tk1 z tk2 k0 h2 hq
            obtain ⟨nms1, j1, j2, ⟨s1, j3⟩, ln, j4, j5⟩ := leafIn_sound hO q cs ls _ _ cells.toList y tk1 hI1 c2 h1 (fun b hb => hq b (withSh_mono (fun n hn => by rw [i3]; exact List.mem_append_right _ hn) hb))
            obtain ⟨nms2, i1, i2, ⟨s2, i3⟩, i4⟩ := save_sound hO q hV r _ tk1 z tk2 j1 h2 hq
            refine ⟨some n :: (nms1 ++ nms2), ?_, ⟨G.bk n, cells, tid, nms1.map (ownAt G obj0), nms2.map (ownAt G obj0), by simp [ownAt, ho0], by rw [v1]; exact v4 ls ho0, r1, by rw [fst_app]; exact j2, by rw [snd_app]; exact i2⟩, ⟨s2 ++ s1, by rw [i3, j3]; simp⟩, fun ha => by cases ha⟩
            rw [List.append_assoc, List.append_assoc] at i1
            rw [List.filterMap_cons, List.filterMap_append]
            exact i1
      · cases h
    · cases h

end
end Go.Vx
