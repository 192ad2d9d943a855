/-
  From data with its owners back to a state.
-/
import Derived.Test.YtgdfaamcmkfkcaaVxTake
set_option linter.unusedSimpArgs false
set_option linter.unusedVariables false
set_option linter.unnecessarySimpa false
namespace Go.Vx

def OwnsOk (os : List Own) : Prop := os.Pairwise fun o o' => ∀ b, o.blk b → ¬ o'.blk b

structure Ent where
  n : Nat
  o : Own
  b : AObj

def setE : List Ent → (Nat → AObj) → Nat → AObj
  | [], obj => obj
  | e :: es, obj => setO (setE es obj) e.n e.b

def Fit (e : Ent) : Prop := (∃ tid ty xs t n a c, e.b = .row tid ty xs ∧ e.o = .row t n a c) ∨ (∃ ls b, e.b = .box ls ∧ e.o = .box b) ∨ (∃ tid d k xs a c X, e.b = .deep tid d k xs none ∧ e.o.isR a c X)

def Has (G : Gh) (obj : Nat → AObj) (e : Ent) : Prop :=
  obj e.n = e.b ∧ (∀ tid ty xs, e.b = .row tid ty xs → ∃ t n, e.o = .row t n (G.hd e.n).1 (G.hd e.n).2) ∧ (∀ ls, e.b = .box ls → e.o = .box (G.bk e.n)) ∧
    (∀ tid d k xs h, e.b = .deep tid d k xs h → e.o.isR (G.hd e.n).1 (G.hd e.n).2 (G.ex e.n))

theorem Has.blk {G : Gh} {obj : Nat → AObj} {e : Ent} (h : Has G obj e) (hf : Fit e) : blk G obj e.n = e.o.blk := by
  obtain ⟨h1, h2, h3, h4⟩ := h
  funext b
  rcases hf with ⟨tid, ty, xs, t, n, a, c, k1, k2⟩ | ⟨ls, b, k1, k2⟩ | ⟨tid, d, k, xs, a, c, X, k1, k2⟩
  · obtain ⟨_, _, this⟩ := h2 tid ty xs k1
    simp only [Vx.blk, h1, k1, this, Own.blk]
  · have := h3 ls k1
    simp only [Vx.blk, h1, k1, this, Own.blk]
  · have := h4 _ _ _ _ _ k1
    simp only [Vx.blk, h1, k1]
    cases ho : e.o with
    | row _ _ a' c' =>
      rw [ho] at this
      obtain ⟨e1, _, e3⟩ := this
      simp [Own.blk, ← e1, e3]
    | box _ => rw [ho] at this; exact this.elim
    | deep _ _ a' c' X' =>
      rw [ho] at this
      obtain ⟨e1, _, e3⟩ := this
      simp [Own.blk, ← e1, ← e3]

theorem setE_other : ∀ (E : List Ent) (obj : Nat → AObj) (n : Nat), n ∉ E.map (·.n) → setE E obj n = obj n
  | [], _, _, _ => rfl
  | e :: es, obj, n, h => by
    simp only [List.map_cons, List.mem_cons, not_or] at h
    rw [setE, setO_other _ _ h.1, setE_other es obj n h.2]

theorem exists_gh : ∀ (E : List Ent) (G0 : Gh) (obj : Nat → AObj), (E.map (·.n)).Nodup → (∀ e ∈ E, Fit e) →
    ∃ G : Gh, (∀ e ∈ E, Has G (setE E obj) e) ∧ ∀ n, n ∉ E.map (·.n) → G.hd n = G0.hd n ∧ G.bk n = G0.bk n ∧ G.ex n = G0.ex n
  | [], G0, _, _, _ => ⟨G0, fun _ h => (by cases h), fun _ _ => ⟨rfl, rfl, rfl⟩⟩
  | e :: es, G0, obj, hn, hf => by
    simp only [List.map_cons, List.nodup_cons] at hn
    obtain ⟨G, h1, h2⟩ := exists_gh es G0 obj hn.2 fun e he => hf e (List.mem_cons_of_mem _ he)
    let G' : Gh := ⟨fun m => if m = e.n then (match e.o with | .row _ _ a c => (a, c) | .box _ => (none, 0) | .deep _ _ a c _ => (a, c)) else G.hd m, fun m => if m = e.n then (match e.o with | .box b => b | _ => 0) else G.bk m,
      fun m => if m = e.n then (match e.o with | .deep _ _ _ _ X => X | _ => []) else G.ex m⟩
    refine ⟨G', ?_, ?_⟩
    · intro e' he'
      rcases List.mem_cons.1 he' with rfl | he'
      · refine ⟨setO_same _ _ _, fun tid ty xs hx => ?_, fun ls hx => ?_, fun tid d k xs h hx => ?_⟩
        · rcases hf e' (List.mem_cons_self ..) with ⟨_, _, _, t, n, a, c, _, k2⟩ | ⟨_, _, k1, _⟩ | ⟨_, _, _, _, _, _, _, k1, _⟩
          · exact ⟨t, n, by simp [G', k2]⟩
          · rw [hx] at k1; cases k1
          · rw [hx] at k1; cases k1
        · rcases hf e' (List.mem_cons_self ..) with ⟨_, _, _, _, _, a, c, k1, k2⟩ | ⟨_, _, k1, k2⟩ | ⟨_, _, _, _, _, _, _, k1, _⟩
          · rw [hx] at k1; cases k1
          · simp [G', k2]
          · rw [hx] at k1; cases k1
        · rcases hf e' (List.mem_cons_self ..) with ⟨_, _, _, _, _, a, c, k1, k2⟩ | ⟨_, _, k1, k2⟩ | ⟨_, _, _, _, a, c, X, k1, k2⟩
          · rw [hx] at k1; cases k1
          · rw [hx] at k1; cases k1
          · cases ho : e'.o with
            | row _ _ a' c' =>
              rw [ho] at k2
              simp only [G', if_pos, ho]
              exact ⟨rfl, rfl, rfl⟩
            | box _ => rw [ho] at k2; exact k2.elim
            | deep _ _ a' c' X' =>
              simp only [G', if_pos, ho]
              exact ⟨rfl, rfl, rfl⟩
      · have hne : e'.n ≠ e.n := fun h => hn.1 (h ▸ List.mem_map_of_mem he')
        obtain ⟨k1, k2, k3, k4⟩ := h1 e' he'
        refine ⟨by rw [setE, setO_other _ _ hne]; exact k1, fun tid ty xs hx => ?_, fun ls hx => ?_, fun tid d k xs h hx => ?_⟩
        · simp only [G', if_neg hne]; exact k2 tid ty xs hx
        · simp only [G', if_neg hne]; exact k3 ls hx
        · simp only [G', if_neg hne]; exact k4 tid d k xs h hx
    · intro n hnn
      simp only [List.map_cons, List.mem_cons, not_or] at hnn
      simp only [G', if_neg hnn.1]
      exact h2 n hnn.2

def entsL : (cs : List Cm) → HL cs → Nat → List Own → List Ent
  | [], _, _, _ => []
  | .val _ :: cs, x, nm, os => entsL cs x.2 (nm + 1) os
  | .own tid e :: cs, x, nm, o :: os => ⟨nm, o, .row tid e x.1⟩ :: entsL cs x.2 (nm + 1) os
  | .row tid e :: cs, x, nm, o :: os => ⟨nm, o, .row tid e x.1⟩ :: entsL cs x.2 (nm + 1) os
  | .box t :: cs, x, nm, o :: os => ⟨nm, o, .box (leavesOf t x.1)⟩ :: entsL cs x.2 (nm + 1) os
  | .dp pt tid d :: cs, x, nm, o :: os => ⟨nm, o, .deep tid d (dK pt x.1) (dXs pt x.1) none⟩ :: entsL cs x.2 (nm + 1) os
  | .dlent tid d :: cs, x, nm, o :: os => ⟨nm, o, .deep tid d none x.1 none⟩ :: entsL cs x.2 (nm + 1) os
  | _ :: _, _, _, [] => []

section
variable {w : World} {q : Nat → Prop}

theorem outLeaves_ents : ∀ (cs : List Cm) (x : HL cs) (nm : Nat) (os : List Own) (obj : Nat → AObj), os.length = nown cs →
    (outLeaves cs x nm obj).2 = setE (entsL cs x nm os) obj
  | [], _, _, _, _, _ => rfl
  | .val _ :: cs, x, nm, os, obj, h => outLeaves_ents cs x.2 (nm + 1) os obj h
  | .own tid e :: cs, x, nm, o :: os, obj, h => by
    show setO (outLeaves cs x.2 (nm + 1) obj).2 nm _ = setO (setE _ obj) nm _
    rw [outLeaves_ents cs x.2 (nm + 1) os obj (by simpa [nown] using h)]
  | .row tid e :: cs, x, nm, o :: os, obj, h => by
    show setO (outLeaves cs x.2 (nm + 1) obj).2 nm _ = setO (setE _ obj) nm _
    rw [outLeaves_ents cs x.2 (nm + 1) os obj (by simpa [nown] using h)]
  | .box t :: cs, x, nm, o :: os, obj, h => by
    show setO (outLeaves cs x.2 (nm + 1) obj).2 nm _ = setO (setE _ obj) nm _
    rw [outLeaves_ents cs x.2 (nm + 1) os obj (by simpa [nown] using h)]
  | .dp pt tid d :: cs, x, nm, o :: os, obj, h => by
    show setO (outLeaves cs x.2 (nm + 1) obj).2 nm _ = setO (setE _ obj) nm _
    rw [outLeaves_ents cs x.2 (nm + 1) os obj (by simpa [nown] using h)]
  | .dlent tid d :: cs, x, nm, o :: os, obj, h => by
    show setO (outLeaves cs x.2 (nm + 1) obj).2 nm _ = setO (setE _ obj) nm _
    rw [outLeaves_ents cs x.2 (nm + 1) os obj (by simpa [nown] using h)]
  | .dp _ _ _ :: _, _, _, [], _, h => by simp [nown] at h
  | .dlent _ _ :: _, _, _, [], _, h => by simp [nown] at h
  | .own _ _ :: _, _, _, [], _, h => by simp [nown] at h
  | .row _ _ :: _, _, _, [], _, h => by simp [nown] at h
  | .box _ :: _, _, _, [], _, h => by simp [nown] at h

theorem outLeaves_fst : ∀ (cs : List Cm) (x : HL cs) (nm : Nat) (obj obj' : Nat → AObj), (outLeaves cs x nm obj).1 = (outLeaves cs x nm obj').1
  | [], _, _, _, _ => rfl
  | .val t :: cs, x, nm, obj, obj' => by show leavesOf t x.1 ++ _ = leavesOf t x.1 ++ _; rw [outLeaves_fst cs x.2 (nm + 1) obj obj']
  | .own tid e :: cs, x, nm, obj, obj' => by show Leaf.hdr nm :: _ = Leaf.hdr nm :: _; rw [outLeaves_fst cs x.2 (nm + 1) obj obj']
  | .row tid e :: cs, x, nm, obj, obj' => by show Leaf.hdr nm :: _ = Leaf.hdr nm :: _; rw [outLeaves_fst cs x.2 (nm + 1) obj obj']
  | .box t :: cs, x, nm, obj, obj' => by show Leaf.box nm 0 :: _ = Leaf.box nm 0 :: _; rw [outLeaves_fst cs x.2 (nm + 1) obj obj']
  | .dp pt tid d :: cs, x, nm, obj, obj' => by show Leaf.hdr nm :: _ = Leaf.hdr nm :: _; rw [outLeaves_fst cs x.2 (nm + 1) obj obj']
  | .dlent tid d :: cs, x, nm, obj, obj' => by show Leaf.hdr nm :: _ = Leaf.hdr nm :: _; rw [outLeaves_fst cs x.2 (nm + 1) obj obj']

theorem entsL_names : ∀ (cs : List Cm) (x : HL cs) (nm : Nat) (os : List Own), (∀ e ∈ entsL cs x nm os, nm ≤ e.n ∧ e.n < nm + cs.length) ∧ ((entsL cs x nm os).map (·.n)).Nodup
  | [], _, _, _ => ⟨fun _ h => (by cases h), List.nodup_nil⟩
  | .val _ :: cs, x, nm, os => by
    obtain ⟨h1, h2⟩ := entsL_names cs x.2 (nm + 1) os
    exact ⟨fun e he => by have := h1 e he; simp only [List.length_cons]; omega, h2⟩
  | .own tid e :: cs, x, nm, o :: os => by
    obtain ⟨h1, h2⟩ := entsL_names cs x.2 (nm + 1) os
    refine ⟨fun e' he => ?_, ?_⟩
    · rcases List.mem_cons.1 he with rfl | he
      · simp only [List.length_cons]; omega
      · have := h1 e' he; simp only [List.length_cons]; omega
    · rw [entsL, List.map_cons, List.nodup_cons]
      refine ⟨fun hm => ?_, h2⟩
      obtain ⟨e', he', h⟩ := List.mem_map.1 hm
      have := h1 e' he'; simp only at h; omega
  | .row tid e :: cs, x, nm, o :: os => by
    obtain ⟨h1, h2⟩ := entsL_names cs x.2 (nm + 1) os
    refine ⟨fun e' he => ?_, ?_⟩
    · rcases List.mem_cons.1 he with rfl | he
      · simp only [List.length_cons]; omega
      · have := h1 e' he; simp only [List.length_cons]; omega
    · rw [entsL, List.map_cons, List.nodup_cons]
      refine ⟨fun hm => ?_, h2⟩
      obtain ⟨e', he', h⟩ := List.mem_map.1 hm
      have := h1 e' he'; simp only at h; omega
  | .box t :: cs, x, nm, o :: os => by
    obtain ⟨h1, h2⟩ := entsL_names cs x.2 (nm + 1) os
    refine ⟨fun e' he => ?_, ?_⟩
    · rcases List.mem_cons.1 he with rfl | he
      · simp only [List.length_cons]; omega
      · have := h1 e' he; simp only [List.length_cons]; omega
    · rw [entsL, List.map_cons, List.nodup_cons]
      refine ⟨fun hm => ?_, h2⟩
      obtain ⟨e', he', h⟩ := List.mem_map.1 hm
      have := h1 e' he'; simp only at h; omega
  | .dp pt tid d :: cs, x, nm, o :: os => by
    obtain ⟨h1, h2⟩ := entsL_names cs x.2 (nm + 1) os
    refine ⟨fun e' he => ?_, ?_⟩
    · rcases List.mem_cons.1 he with rfl | he
      · simp only [List.length_cons]; omega
      · have := h1 e' he; simp only [List.length_cons]; omega
    · rw [entsL, List.map_cons, List.nodup_cons]
      refine ⟨fun hm => ?_, h2⟩
      obtain ⟨e', he', h⟩ := List.mem_map.1 hm
      have := h1 e' he'; simp only at h; omega
  | .dlent tid d :: cs, x, nm, o :: os => by
    obtain ⟨h1, h2⟩ := entsL_names cs x.2 (nm + 1) os
    refine ⟨fun e' he => ?_, ?_⟩
    · rcases List.mem_cons.1 he with rfl | he
      · simp only [List.length_cons]; omega
      · have := h1 e' he; simp only [List.length_cons]; omega
    · rw [entsL, List.map_cons, List.nodup_cons]
      refine ⟨fun hm => ?_, h2⟩
      obtain ⟨e', he', h⟩ := List.mem_map.1 hm
      have := h1 e' he'; simp only at h; omega
  | .dp _ _ _ :: _, _, _, [] => ⟨fun _ h => (by cases h), List.nodup_nil⟩
  | .dlent _ _ :: _, _, _, [] => ⟨fun _ h => (by cases h), List.nodup_nil⟩
  | .own _ _ :: _, _, _, [] => ⟨fun _ h => (by cases h), List.nodup_nil⟩
  | .row _ _ :: _, _, _, [] => ⟨fun _ h => (by cases h), List.nodup_nil⟩
  | .box _ :: _, _, _, [] => ⟨fun _ h => (by cases h), List.nodup_nil⟩

theorem row_RO {G : Gh} {obj : Nat → AObj} {q' : Nat → Prop} {tid : Nat} {ty : Ty} {xs : List ty.den} {a : Option Addr} {c n : Nat} {t : Ty} {k : Nat} (h : RowV w q tid ty xs a c) (hq : ∀ b, q b → q' b)
    (hh : Has G obj ⟨n, .row t k a c, .row tid ty xs⟩) : RO w q' G obj n (.row tid ty xs) := by
  obtain ⟨_, _, this⟩ := hh.2.1 tid ty xs rfl
  simp only [Own.row.injEq] at this
  have this := this.2.2
  have h := h.mono (w' := w) (fun b hb _ => ⟨hq b hb, rfl⟩) (fun _ _ => rfl)
  rw [this.1, this.2] at h
  exact h

theorem row_RL {G : Gh} {obj : Nat → AObj} {q' : Nat → Prop} {tid : Nat} {ty : Ty} {xs : List ty.den} {a : Option Addr} {c n : Nat} {t : Ty} {k : Nat}
    (hh : Has G obj ⟨n, .row t k a c, .row tid ty xs⟩) : RL w q' G obj (.hdr n) [.slice a xs.length c] := by
  obtain ⟨_, _, this⟩ := hh.2.1 tid ty xs rfl
  simp only [Own.row.injEq] at this
  have this := this.2.2
  have h1 : obj n = .row tid ty xs := hh.1
  refine ⟨_, rfl, rfl, by rw [h1]; simp, fun e' l' hx => ?_⟩
  rw [h1] at hx
  simp only [rowOf, Option.some.injEq, Prod.mk.injEq] at hx
  rw [this.1, this.2, ← hx.2]

theorem deep_isR {o : Own} {a a' : Option Addr} {c c' : Nat} {X X' : List Nat} (h : o.isR a c X) (k : o.isR a' c' X') : a = a' ∧ c = c' ∧ X = X' := by
  cases o with
  | row _ _ _ _ => obtain ⟨rfl, rfl, rfl⟩ := h; obtain ⟨rfl, rfl, rfl⟩ := k; exact ⟨rfl, rfl, rfl⟩
  | box _ => exact h.elim
  | deep _ _ _ _ _ => obtain ⟨rfl, rfl, rfl⟩ := h; obtain ⟨rfl, rfl, rfl⟩ := k; exact ⟨rfl, rfl, rfl⟩

theorem deep_RO {G : Gh} {obj : Nat → AObj} {q' : Nat → Prop} {pt : Bool} {tid : Nat} {d : DTy} {x : DT pt d} {a : Option Addr} {c n : Nat} {X : List Nat} {o : Own} (h : DV w q pt tid d x a c X) (hq : ∀ b, q b → q' b) (hr : o.isR a c X)
    (hh : Has G obj ⟨n, o, .deep tid d (dK pt x) (dXs pt x) none⟩) : RO w q' G obj n (.deep tid d (dK pt x) (dXs pt x) none) := by
  obtain ⟨h1, h2, h3⟩ := deep_isR hr (hh.2.2.2 _ _ _ _ _ rfl)
  obtain ⟨k1, ds, k2, k3⟩ := h.mono (w' := w) (q := q') (fun b hb _ => ⟨hq b hb, rfl⟩) (fun _ _ => rfl)
  subst h1
  subst h2
  subst h3
  exact ⟨k1, ds, ds, k2, rfl, k3⟩

theorem deep_RL {G : Gh} {obj : Nat → AObj} {q' : Nat → Prop} {tid : Nat} {d : DTy} {k : Option Int} {xs : List d.ty.den} {a : Option Addr} {c n : Nat} {X : List Nat} {o : Own} (hr : o.isR a c X)
    (hh : Has G obj ⟨n, o, .deep tid d k xs none⟩) : RL w q' G obj (.hdr n) [.slice a (List.length xs) c] := by
  obtain ⟨h1, h2, h3⟩ := deep_isR hr (hh.2.2.2 _ _ _ _ _ rfl)
  have h0 : obj n = .deep tid d k xs none := hh.1
  refine ⟨_, rfl, rfl, by rw [h0]; simp, fun e' l' hx => ?_⟩
  rw [h0] at hx
  simp only [rowOf, Option.some.injEq, Prod.mk.injEq] at hx
  rw [h1, h2, ← hx.2]

theorem box_RL {G : Gh} {obj : Nat → AObj} {q' : Nat → Prop} {ls : List Leaf} {b n : Nat}
    (hh : Has G obj ⟨n, .box b, .box ls⟩) : RL w q' G obj (.box n 0) [.pointer (some ⟨b, 0, none⟩)] := by
  have := hh.2.2.1 ls rfl
  simp only [Own.box.injEq] at this
  have h1 : obj n = .box ls := hh.1
  exact ⟨_, rfl, rfl, by rw [h1]; simp, fun ls' _ => by rw [this]⟩

theorem outLeaves_rel {G : Gh} {obj' : Nat → AObj} {q' : Nat → Prop} (hq : ∀ b, q b → q' b) : ∀ (cs : List Cm) (x : HL cs) (nm : Nat) (cells : List Value) (os : List Own) (obj : Nat → AObj), IL w q cs x cells os →
    (∀ e ∈ entsL cs x nm os, Has G obj' e) → RLs w q' G obj' (outLeaves cs x nm obj).1 cells ∧ ∀ e ∈ entsL cs x nm os, RO w q' G obj' e.n e.b
  | [], _, _, _, _, _, h, _ => ⟨h.1, fun _ h => (by cases h)⟩
  | .val t :: cs, x, nm, cells, os, obj, h, hH => by
    obtain ⟨c1, c2, rfl, h1, h2⟩ := h
    obtain ⟨k1, k2⟩ := outLeaves_rel hq cs x.2 (nm + 1) c2 os obj h2 hH
    exact ⟨(leavesOf_sound t _ _ (Rep.mono (fun b hb _ => ⟨hq b hb, rfl⟩) t _ _ h1)).append k1, k2⟩
  | .own tid e :: cs, x, nm, cells, os, obj, h, hH => by
    obtain ⟨a, c, _, _, r, os, rfl, rfl, h1, h2⟩ := h
    obtain ⟨k1, k2⟩ := outLeaves_rel hq cs x.2 (nm + 1) r os obj h2 fun e he => hH e (List.mem_cons_of_mem _ he)
    have hh := hH _ (List.mem_cons_self ..)
    refine ⟨⟨[_], r, rfl, row_RL hh, k1⟩, fun e' he => ?_⟩
    rcases List.mem_cons.1 he with rfl | he
    · exact row_RO h1 hq hh
    · exact k2 e' he
  | .row tid e :: cs, x, nm, cells, os, obj, h, hH => by
    obtain ⟨a, c, r, os, rfl, rfl, h1, h2⟩ := h
    obtain ⟨k1, k2⟩ := outLeaves_rel hq cs x.2 (nm + 1) r os obj h2 fun e he => hH e (List.mem_cons_of_mem _ he)
    have hh := hH _ (List.mem_cons_self ..)
    refine ⟨⟨[_], r, rfl, row_RL hh, k1⟩, fun e' he => ?_⟩
    rcases List.mem_cons.1 he with rfl | he
    · exact row_RO h1 hq hh
    · exact k2 e' he
  | .box t :: cs, x, nm, cells, os, obj, h, hH => by
    obtain ⟨b, r, os, rfl, rfl, ⟨bc, tid, h0, h1⟩, h2⟩ := h
    obtain ⟨k1, k2⟩ := outLeaves_rel hq cs x.2 (nm + 1) r os obj h2 fun e he => hH e (List.mem_cons_of_mem _ he)
    have hh := hH _ (List.mem_cons_self ..)
    refine ⟨⟨[_], r, rfl, box_RL hh, k1⟩, fun e' he => ?_⟩
    rcases List.mem_cons.1 he with rfl | he
    · have := hh.2.2.1 _ rfl
      simp only [Own.box.injEq] at this
      exact ⟨bc, tid, by rw [← this]; exact h0, leavesOf_sound t _ _ (Rep.mono (fun b hb _ => ⟨hq b hb, rfl⟩) t _ _ h1)⟩
    · exact k2 e' he
  | .dp pt tid d :: cs, x, nm, cells, os, obj, h, hH => by
    obtain ⟨a, c, X, o, r, os, rfl, rfl, h0, h1, h2⟩ := h
    obtain ⟨k1, k2⟩ := outLeaves_rel hq cs x.2 (nm + 1) r os obj h2 fun e he => hH e (List.mem_cons_of_mem _ he)
    have hh := hH _ (List.mem_cons_self ..)
    refine ⟨⟨[_], r, rfl, deep_RL h0 hh, k1⟩, fun e' he => ?_⟩
    rcases List.mem_cons.1 he with rfl | he
    · exact deep_RO h1 hq h0 hh
    · exact k2 e' he
  | .dlent tid d :: cs, x, nm, cells, os, obj, h, hH => by
    obtain ⟨a, c, X, r, os, rfl, rfl, h1, h2⟩ := h
    obtain ⟨k1, k2⟩ := outLeaves_rel hq cs x.2 (nm + 1) r os obj h2 fun e he => hH e (List.mem_cons_of_mem _ he)
    have hh := hH _ (List.mem_cons_self ..)
    have h0 : Own.isR (.deep d.ty (List.length x.1) a c X) a c X := ⟨rfl, rfl, rfl⟩
    refine ⟨⟨[_], r, rfl, deep_RL h0 hh, k1⟩, fun e' he => ?_⟩
    rcases List.mem_cons.1 he with rfl | he
    · exact deep_RO (pt := false) h1 hq h0 hh
    · exact k2 e' he

theorem entsL_fit : ∀ (cs : List Cm) (x : HL cs) (nm : Nat) (cells : List Value) (os : List Own), IL w q cs x cells os → (∀ e ∈ entsL cs x nm os, Fit e) ∧ (entsL cs x nm os).map (·.o) = os
  | [], _, _, _, _, h => ⟨fun _ h => (by cases h), h.2.symm⟩
  | .val t :: cs, x, nm, cells, os, h => by
    obtain ⟨c1, c2, rfl, h1, h2⟩ := h
    exact entsL_fit cs x.2 (nm + 1) c2 os h2
  | .own tid e :: cs, x, nm, cells, os, h => by
    obtain ⟨a, c, _, _, r, os, rfl, rfl, h1, h2⟩ := h
    obtain ⟨k1, k2⟩ := entsL_fit cs x.2 (nm + 1) r os h2
    refine ⟨fun e' he => ?_, by rw [entsL, List.map_cons, k2]⟩
    rcases List.mem_cons.1 he with rfl | he
    · exact .inl ⟨_, _, _, _, _, _, _, rfl, rfl⟩
    · exact k1 e' he
  | .row tid e :: cs, x, nm, cells, os, h => by
    obtain ⟨a, c, r, os, rfl, rfl, h1, h2⟩ := h
    obtain ⟨k1, k2⟩ := entsL_fit cs x.2 (nm + 1) r os h2
    refine ⟨fun e' he => ?_, by rw [entsL, List.map_cons, k2]⟩
    rcases List.mem_cons.1 he with rfl | he
    · exact .inl ⟨_, _, _, _, _, _, _, rfl, rfl⟩
    · exact k1 e' he
  | .box t :: cs, x, nm, cells, os, h => by
    obtain ⟨b, r, os, rfl, rfl, _, h2⟩ := h
    obtain ⟨k1, k2⟩ := entsL_fit cs x.2 (nm + 1) r os h2
    refine ⟨fun e' he => ?_, by rw [entsL, List.map_cons, k2]⟩
    rcases List.mem_cons.1 he with rfl | he
    · exact .inr (.inl ⟨_, _, rfl, rfl⟩)
    · exact k1 e' he
  | .dp pt tid d :: cs, x, nm, cells, os, h => by
    obtain ⟨a, c, X, o, r, os, rfl, rfl, h0, h1, h2⟩ := h
    obtain ⟨k1, k2⟩ := entsL_fit cs x.2 (nm + 1) r os h2
    refine ⟨fun e' he => ?_, by rw [entsL, List.map_cons, k2]⟩
    rcases List.mem_cons.1 he with rfl | he
    · exact .inr (.inr ⟨_, _, _, _, _, _, _, rfl, h0⟩)
    · exact k1 e' he
  | .dlent tid d :: cs, x, nm, cells, os, h => by
    obtain ⟨a, c, X, r, os, rfl, rfl, h1, h2⟩ := h
    obtain ⟨k1, k2⟩ := entsL_fit cs x.2 (nm + 1) r os h2
    refine ⟨fun e' he => ?_, by rw [entsL, List.map_cons, k2]⟩
    rcases List.mem_cons.1 he with rfl | he
    · exact .inr (.inr ⟨_, _, _, _, _, _, _, rfl, rfl, rfl, rfl⟩)
    · exact k1 e' he

theorem setE_append (E F : List Ent) (obj : Nat → AObj) : setE (E ++ F) obj = setE E (setE F obj) := by
  induction E with
  | nil => rfl
  | cons e E ih => show setO (setE (E ++ F) obj) _ _ = setO (setE E (setE F obj)) _ _; rw [ih]

/-- Slots once, few parts a slot. -/
def shD (K : Nat) : List (Nat × SSh) → Bool
  | [] => true
  | (s, .v _ cs) :: r => Nat.ble cs.length K && r.all (fun q => !Nat.beq q.1 s) && shD K r
  | (s, .ptr cs) :: r => Nat.blt cs.length K && r.all (fun q => !Nat.beq q.1 s) && shD K r

theorem all_ne {s : Nat} {r : List (Nat × SSh)} (h : r.all (fun q => !Nat.beq q.1 s) = true) : ∀ q ∈ r, q.1 ≠ s := by
  intro q hq e
  have := List.all_eq_true.1 h q hq
  rw [e] at this
  simp at this

theorem mkAV_RV {p : Nat → Prop} {G : Gh} {obj : Nat → AObj} {agg : Bool} {ls : List Leaf} {v : Value} {cells : List Value} (hs : Sh agg v cells) (h : RLs w p G obj ls cells) : RV w p G obj (mkAV agg ls) v := by
  cases agg with
  | true =>
    have hs : v = _ := hs
    exact ⟨cells, hs, h⟩
  | false =>
    have hs : cells = _ := hs
    subst hs
    match ls, h with
    | [], _ => trivial
    | [l], h => exact RLs.of_single h
    | _ :: _ :: _, _ => trivial

theorem restore_sound {V : Nat → Value} {K : Nat} {nf : Nat → Nat} (hsep : ∀ s s' n, s ≠ s' → nf s ≤ n → n < nf s + K → nf s' ≤ n → n < nf s' + K → False) (st : St) :
    ∀ (sh : List (Nat × SSh)) (x : HL (saveC sh)) (os : List Own), shD K sh = true → IS w q sh x V os →
    ∃ E : List Ent, (restore nf sh x st).obj = setE E st.obj ∧ E.map (·.o) = os ∧ (∀ e ∈ E, Fit e) ∧ (∀ e ∈ E, ∃ z ∈ sh, nf z.1 ≤ e.n ∧ e.n < nf z.1 + K) ∧ (E.map (·.n)).Nodup ∧
      (∀ (G : Gh) (obj' : Nat → AObj) (q' : Nat → Prop), (∀ b, q b → q' b) → (∀ e ∈ E, Has G obj' e) → (∀ e ∈ E, RO w q' G obj' e.n e.b) ∧
        ∀ z ∈ sh, RV w q' G obj' ((restore nf sh x st).env z.1) (V z.1)) ∧ (∀ s, (∀ z ∈ sh, z.1 ≠ s) → (restore nf sh x st).env s = st.env s)
  | [], _, os, _, h => by
    have h : os = [] := h
    subst h
    exact ⟨[], rfl, rfl, fun _ h => (by cases h), fun _ h => (by cases h), List.nodup_nil, fun _ _ _ _ _ => ⟨fun _ h => (by cases h), fun _ h => (by cases h)⟩, fun _ _ => rfl⟩
  | (s, .v agg cs) :: r, x, os, hd, h => by
    obtain ⟨cells, o1, o2, rfl, hs, hl, hr⟩ := h
    simp only [shD, Bool.and_eq_true] at hd
    obtain ⟨⟨hd1, hd2⟩, hd3⟩ := hd
    have hd1 := Nat.le_of_ble_eq_true hd1
    have hd2 := all_ne hd2
    obtain ⟨E2, e1, e2, e3, e4, e5, e6, e7⟩ := restore_sound hsep st r (sndHL cs (saveC r) x) o2 hd3 hr
    obtain ⟨f1, f2⟩ := entsL_fit cs (fstHL cs (saveC r) x) (nf s) cells o1 hl
    obtain ⟨n1, n2⟩ := entsL_names cs (fstHL cs (saveC r) x) (nf s) o1
    have hobj : (restore nf ((s, .v agg cs) :: r) x st).obj = setE (entsL cs (fstHL cs (saveC r) x) (nf s) o1 ++ E2) st.obj := by
      show (outLeaves cs (fstHL cs (saveC r) x) (nf s) (restore nf r (sndHL cs (saveC r) x) st).obj).2 = _
      rw [outLeaves_ents _ _ _ o1 _ (IL.count _ _ _ _ hl), e1, setE_append]
    refine ⟨entsL cs (fstHL cs (saveC r) x) (nf s) o1 ++ E2, hobj, by rw [List.map_append, f2, e2], fun e he => ?_, fun e he => ?_, ?_, fun G obj' q' hq hH => ?_, fun t ht => ?_⟩
    · rcases List.mem_append.1 he with he | he
      · exact f1 e he
      · exact e3 e he
    · rcases List.mem_append.1 he with he | he
      · exact ⟨_, List.mem_cons_self .., (n1 e he).1, by have := (n1 e he).2; simp only; omega⟩
      · obtain ⟨z, hz, h⟩ := e4 e he
        exact ⟨z, List.mem_cons_of_mem _ hz, h⟩
    · rw [List.map_append, List.nodup_append]
      refine ⟨n2, e5, fun a ha b hb hab => ?_⟩
      subst hab
      obtain ⟨x1, hx1, rfl⟩ := List.mem_map.1 ha
      obtain ⟨x2, hx2, hx⟩ := List.mem_map.1 hb
      obtain ⟨z, hz, z1, z2⟩ := e4 x2 hx2
      have := n1 x1 hx1
      have hx : x2.n = x1.n := hx
      rw [hx] at z1 z2
      exact hsep s z.1 x1.n (fun e => hd2 z hz e.symm) this.1 (by omega) z1 z2
    · obtain ⟨k1, k2⟩ := e6 G obj' q' hq fun e he => hH e (List.mem_append_right _ he)
      obtain ⟨l1, l2⟩ := outLeaves_rel hq cs (fstHL cs (saveC r) x) (nf s) cells o1 (restore nf r (sndHL cs (saveC r) x) st).obj hl fun e he => hH e (List.mem_append_left _ he)
      refine ⟨fun e he => ?_, fun z hz => ?_⟩
      · rcases List.mem_append.1 he with he | he
        · exact l2 e he
        · exact k1 e he
      · rcases List.mem_cons.1 hz with rfl | hz
        · show RV w q' G obj' (cond (Nat.beq s s) (mkAV agg _) _) (V s)
          rw [show Nat.beq s s = true by simp]
          exact mkAV_RV hs l1
        · show RV w q' G obj' (cond (Nat.beq z.1 s) _ ((restore nf r (sndHL cs (saveC r) x) st).env z.1)) (V z.1)
          rw [show Nat.beq z.1 s = false from Bool.eq_false_iff.2 fun e => hd2 z hz (Nat.eq_of_beq_eq_true e)]
          exact k2 z hz
    · show cond (Nat.beq t s) _ ((restore nf r (sndHL cs (saveC r) x) st).env t) = _
      rw [show Nat.beq t s = false from Bool.eq_false_iff.2 fun e => ht _ (List.mem_cons_self ..) (Nat.eq_of_beq_eq_true e).symm]
      exact e7 t fun z hz => ht z (List.mem_cons_of_mem _ hz)
  | (s, .ptr cs) :: r, x, os, hd, h => by
    obtain ⟨b, cells, tid, o1, o2, rfl, hs, hb, hl, hr⟩ := h
    simp only [shD, Bool.and_eq_true] at hd
    obtain ⟨⟨hd1, hd2⟩, hd3⟩ := hd
    have hd1 : cs.length < K := by simpa using hd1
    have hd2 := all_ne hd2
    obtain ⟨E2, e1, e2, e3, e4, e5, e6, e7⟩ := restore_sound hsep st r (sndHL cs (saveC r) x) o2 hd3 hr
    obtain ⟨f1, f2⟩ := entsL_fit cs (fstHL cs (saveC r) x) (nf s + 1) cells.toList o1 hl
    obtain ⟨n1, n2⟩ := entsL_names cs (fstHL cs (saveC r) x) (nf s + 1) o1
    let e0 : Ent := ⟨nf s, .box b, .box (outLeaves cs (fstHL cs (saveC r) x) (nf s + 1) (restore nf r (sndHL cs (saveC r) x) st).obj).1⟩
    have hobj : (restore nf ((s, .ptr cs) :: r) x st).obj = setE (e0 :: (entsL cs (fstHL cs (saveC r) x) (nf s + 1) o1 ++ E2)) st.obj := by
      show setO (outLeaves cs (fstHL cs (saveC r) x) (nf s + 1) (restore nf r (sndHL cs (saveC r) x) st).obj).2 (nf s) _ = setO (setE _ st.obj) (nf s) _
      rw [outLeaves_ents _ _ _ o1 _ (IL.count _ _ _ _ hl)]
      simp only [e0, e1, setE_append]
    refine ⟨e0 :: (entsL cs (fstHL cs (saveC r) x) (nf s + 1) o1 ++ E2), hobj, by rw [List.map_cons, List.map_append, f2, e2], fun e he => ?_, fun e he => ?_, ?_, fun G obj' q' hq hH => ?_, fun t ht => ?_⟩
    · rcases List.mem_cons.1 he with rfl | he
      · exact .inr (.inl ⟨_, _, rfl, rfl⟩)
      rcases List.mem_append.1 he with he | he
      · exact f1 e he
      · exact e3 e he
    · rcases List.mem_cons.1 he with rfl | he
      · exact ⟨_, List.mem_cons_self .., Nat.le_refl _, by simp only [e0]; omega⟩
      rcases List.mem_append.1 he with he | he
      · exact ⟨_, List.mem_cons_self .., by have := (n1 e he).1; simp only; omega, by have := (n1 e he).2; simp only; omega⟩
      · obtain ⟨z, hz, h⟩ := e4 e he
        exact ⟨z, List.mem_cons_of_mem _ hz, h⟩
    · rw [List.map_cons, List.nodup_cons, List.map_append, List.nodup_append]
      refine ⟨fun hm => ?_, n2, e5, fun a ha b hb hab => ?_⟩
      · rcases List.mem_append.1 hm with hm | hm
        · obtain ⟨x1, hx1, hx⟩ := List.mem_map.1 hm
          have := n1 x1 hx1; simp only [e0] at hx; omega
        · obtain ⟨x2, hx2, hx⟩ := List.mem_map.1 hm
          obtain ⟨z, hz, z1, z2⟩ := e4 x2 hx2
          simp only [e0] at hx
          rw [hx] at z1 z2
          exact hsep s z.1 (nf s) (fun e => hd2 z hz e.symm) (Nat.le_refl _) (by omega) z1 z2
      · subst hab
        obtain ⟨x1, hx1, rfl⟩ := List.mem_map.1 ha
        obtain ⟨x2, hx2, hx⟩ := List.mem_map.1 hb
        obtain ⟨z, hz, z1, z2⟩ := e4 x2 hx2
        have := n1 x1 hx1
        have hx : x2.n = x1.n := hx
        rw [hx] at z1 z2
        exact hsep s z.1 x1.n (fun e => hd2 z hz e.symm) (by omega) (by omega) z1 z2
    · obtain ⟨k1, k2⟩ := e6 G obj' q' hq fun e he => hH e (List.mem_cons_of_mem _ (List.mem_append_right _ he))
      obtain ⟨l1, l2⟩ := outLeaves_rel hq cs (fstHL cs (saveC r) x) (nf s + 1) cells.toList o1 (restore nf r (sndHL cs (saveC r) x) st).obj hl fun e he => hH e (List.mem_cons_of_mem _ (List.mem_append_left _ he))
      have hh := hH e0 (List.mem_cons_self ..)
      refine ⟨fun e he => ?_, fun z hz => ?_⟩
      · rcases List.mem_cons.1 he with rfl | he
        · have := hh.2.2.1 _ rfl
          simp only [e0, Own.box.injEq] at this
          exact ⟨cells, tid, by simp only [e0]; rw [← this]; exact hb, l1⟩
        rcases List.mem_append.1 he with he | he
        · exact l2 e he
        · exact k1 e he
      · rcases List.mem_cons.1 hz with rfl | hz
        · show RV w q' G obj' (cond (Nat.beq s s) (.sc (.box (nf s) 0)) _) (V s)
          rw [show Nat.beq s s = true by simp, hs]
          exact box_RL (w := w) (q' := q') hh
        · show RV w q' G obj' (cond (Nat.beq z.1 s) _ ((restore nf r (sndHL cs (saveC r) x) st).env z.1)) (V z.1)
          rw [show Nat.beq z.1 s = false from Bool.eq_false_iff.2 fun e => hd2 z hz (Nat.eq_of_beq_eq_true e)]
          exact k2 z hz
    · show cond (Nat.beq t s) _ ((restore nf r (sndHL cs (saveC r) x) st).env t) = _
      rw [show Nat.beq t s = false from Bool.eq_false_iff.2 fun e => ht _ (List.mem_cons_self ..) (Nat.eq_of_beq_eq_true e).symm]
      exact e7 t fun z hz => ht z (List.mem_cons_of_mem _ hz)

end
end Go.Vx
