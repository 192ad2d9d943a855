/-
  The operations that turn no object: what the machine computes is what the reader computes.
-/
import Derived.Test.YtgdfaamcmkfkcaaVxTab
set_option linter.unusedSimpArgs false
set_option linter.unusedVariables false
set_option linter.unnecessarySimpa false
namespace Go.Vx

def Eff.res : Eff → AV → Prop
  | .fail, _ => False
  | .val x, v => v = x
  | .opt m f, v => ∃ y, m = some y ∧ v = f y
  | .guard b x, v => b = true ∧ v = x
  | .ite b x y, v => v = cond b x y

theorem Eff.go_some {R : Type} {e : Eff} {k : AV → Option R} {r : R} (h : e.go k = some r) : ∃ v, e.res v ∧ k v = some r := by
  cases e with
  | fail => cases h
  | val v => exact ⟨v, rfl, h⟩
  | opt m f =>
    simp only [Eff.go] at h
    cases hm : m with
    | none => rw [hm] at h; cases h
    | some y => rw [hm] at h; exact ⟨f y, ⟨y, rfl, rfl⟩, h⟩
  | guard b v =>
    simp only [Eff.go] at h
    cases b with
    | true => exact ⟨v, ⟨rfl, rfl⟩, h⟩
    | false => cases h
  | ite b x y =>
    simp only [Eff.go] at h
    cases b with
    | true => exact ⟨x, rfl, h⟩
    | false => exact ⟨y, rfl, h⟩

section
variable {P : Program} {C : Cfg} {N : Nat} {w0 : World} {p0 Bs : Nat → Prop} {G : Gh} {st : St} {a : Act} {w : World} {p : Nat → Prop}

theorem constL_sound {v : Value} {l : Leaf} {obj : Nat → AObj} (h : constL v = some l) : RL w p G obj l [v] := by
  unfold constL at h
  split at h <;> first
    | (cases h; rfl)
    | cases h

theorem constLs_sound {obj : Nat → AObj} : ∀ {vs : List Value} {ls : List Leaf}, constLs vs = some ls → RLs w p G obj ls vs
  | [], _, h => by cases h; rfl
  | v :: vs, _, h => by
    simp only [constLs] at h
    split at h
    · rename_i l ls h1 h2
      cases h
      exact ⟨[v], vs, rfl, constL_sound h1, constLs_sound h2⟩
    · cases h

theorem constV_sound (v : Value) {obj : Nat → AObj} : RV w p G obj (constV v) v := by
  unfold constV
  split
  · rename_i cs
    split
    · rename_i ls h
      exact ⟨cs.toList, by simp, constLs_sound h⟩
    · trivial
  · split
    · rename_i l h
      exact constL_sound h
    · trivial

theorem val_sound (h : Rel N w0 p0 Bs G st a w) (x : Operand) : RV w (reg w0 p0 Bs G st.obj) G st.obj (val st x) (a.eval x) := by
  cases x with
  | tmp t => exact h.slots t
  | const v => exact constV_sound v
  | global g => trivial
  | func f => exact ⟨[], rfl, rfl⟩

/-- What a slot that holds one leaf holds. -/
theorem sc_of {x : AV} {l : Leaf} {v : Value} {obj : Nat → AObj} (h : RV w p G obj x v) (hx : x = .sc l) : RL w p G obj l [v] := by subst hx; exact h

theorem RL.int_inv {obj : Nat → AObj} {k : IntKind} {x : Int} {v : Value} (h : RL w p G obj (.int k x) [v]) : v = .int k x := by
  have h : [v] = _ := h
  simpa using h
theorem RL.bool_inv {obj : Nat → AObj} {x : Bool} {v : Value} (h : RL w p G obj (.bool x) [v]) : v = .bool x := by
  have h : [v] = _ := h
  simpa using h
theorem RL.str_inv {obj : Nat → AObj} {x : ByteArray} {v : Value} (h : RL w p G obj (.str x) [v]) : v = .string x := by
  have h : [v] = _ := h
  simpa using h
theorem RL.nil_inv {obj : Nat → AObj} {v : Value} (h : RL w p G obj .nil [v]) : v = .slice none 0 0 := by
  have h : [v] = _ := h
  simpa using h

theorem int_of {obj : Nat → AObj} {k : IntKind} {x : Int} {v : Value} (h : RV w p G obj (.sc (.int k x)) v) : v = .int k x := RL.int_inv (w := w) (p := p) (G := G) (obj := obj) h
theorem bool_of {obj : Nat → AObj} {x : Bool} {v : Value} (h : RV w p G obj (.sc (.bool x)) v) : v = .bool x := RL.bool_inv (w := w) (p := p) (G := G) (obj := obj) h
theorem str_of {obj : Nat → AObj} {x : ByteArray} {v : Value} (h : RV w p G obj (.sc (.str x)) v) : v = .string x := RL.str_inv (w := w) (p := p) (G := G) (obj := obj) h
theorem nil_of {obj : Nat → AObj} {v : Value} (h : RV w p G obj (.sc .nil) v) : v = .slice none 0 0 := RL.nil_inv (w := w) (p := p) (G := G) (obj := obj) h

theorem cell_box {b : Nat} {cells : Array Value} {tid : Nat} {fr : Nat × Nat} (h : w.heap[b]? = some (.cells cells tid fr)) (o : Nat) : w.cell? ⟨b, o, none⟩ = cells[o]? := by
  simp [World.cell?, h]

/-- The cells of a box at an offset, loaded. -/
theorem load_cells {T : Nat} {ti : TI} (hT : TyOk P C.Θ T ti) {b off : Nat} {cells : Array Value} {tid : Nat} {fr : Nat × Nat} (hb : w.heap[b]? = some (.cells cells tid fr))
    (hl : off + ti.ty.size ≤ cells.size) :
    (loadVar T ⟨b, off, none⟩).run P w = .ok (if ti.ty.agg = true then .agg ((cells.toList.drop off).take ti.ty.size).toArray else ((cells.toList.drop off).take ti.ty.size).headD undef) w := by
  refine hT.run_loadVar rfl ?_ ?_
  · simp only [List.length_take, List.length_drop, Array.length_toList]; omega
  · intro j v hj
    rw [cell_box hb]
    rw [List.getElem?_take] at hj
    split at hj
    · simpa [List.getElem?_drop] using hj
    · cases hj

theorem idx_some {α : Type} {xs : List α} {i : Int} {x : α} (h : idx xs i = some x) : 0 ≤ i ∧ xs[i.toNat]? = some x := by
  unfold idx at h
  by_cases hi : 0 ≤ i
  · simp only [hi, decide_true, cond_true] at h; exact ⟨hi, h⟩
  · simp [hi] at h

/-- A row with rows of its own, as a row in a wider region. -/
theorem RO.wide {n tid : Nat} {d : DTy} {k : Option Int} {xs : List d.ty.den} {obj : Nat → AObj} (h : RO w p G obj n (.deep tid d k xs none)) : RO w (fun b => p b ∨ b ∈ G.ex n) G obj n (.row tid d.ty xs) := by
  obtain ⟨hn, ds, ds', k1, k2, k3⟩ := h
  have k2 : ds' = ds := k2
  subst k2
  exact ⟨ds', k1, ElsR.rep xs 0 ds' _ (fun b hb => .inr hb) (ElsR.keep (p' := fun b => p b ∨ b ∈ G.ex n) (fun b hb _ => ⟨.inl hb, rfl⟩) xs 0 ds' _ (fun _ _ => rfl) k3)⟩

theorem flatLs_region {q q' : Nat → Prop} {obj : Nat → AObj} : ∀ (ls : List Leaf) (cs : List Value), flatLs ls = true → RLs w q G obj ls cs → RLs w q' G obj ls cs
  | [], _, _, h => h
  | .int k x :: r, _, hf, h => by
    obtain ⟨c1, c2, rfl, h1, h2⟩ := h
    exact ⟨c1, c2, rfl, h1, flatLs_region r c2 hf h2⟩
  | .bool b :: r, _, hf, h => by
    obtain ⟨c1, c2, rfl, h1, h2⟩ := h
    exact ⟨c1, c2, rfl, h1, flatLs_region r c2 hf h2⟩
  | .str b :: r, _, hf, h => by
    obtain ⟨c1, c2, rfl, h1, h2⟩ := h
    exact ⟨c1, c2, rfl, h1, flatLs_region r c2 hf h2⟩
  | .undef :: _, _, hf, _ => by cases hf
  | .sl _ _ :: _, _, hf, _ => by cases hf
  | .nil :: _, _, hf, _ => by cases hf
  | .arr _ _ _ :: _, _, hf, _ => by cases hf
  | .hdr _ :: _, _, hf, _ => by cases hf
  | .sub _ _ _ :: _, _, hf, _ => by cases hf
  | .box _ _ :: _, _, hf, _ => by cases hf
  | .belem _ _ _ _ :: _, _, hf, _ => by cases hf
  | .ro _ _ :: _, _, hf, _ => by cases hf
  | .row _ _ _ :: _, _, hf, _ => by cases hf
  | .fn _ _ :: _, _, hf, _ => by cases hf

theorem row_lies {n tid : Nat} {e : Ty} {xs : List e.den} (hO : RO w p G st.obj n (.row tid e xs)) {i : Nat} (hi : i < xs.length) {b : Nat} (hb : (G.hd n).1 = some ⟨b, 0, none⟩) :
    ∃ cells : Array Value, w.heap[b]? = some (.cells cells tid (0, 0)) ∧ (i + 1) * e.size ≤ cells.size ∧ Rep w p e xs[i] ((cells.toList.drop (i * e.size)).take e.size) := by
  obtain ⟨ds, h1, h2⟩ := hO
  rcases h1.2 with ⟨h3, h4⟩ | ⟨g, cap, cur, h3, _, h4, h5, _, h6, h7⟩
  · omega
  · rw [hb] at h3
    simp only [Value.slice.injEq, Option.some.injEq, Addr.mk.injEq, and_true, true_and] at h3
    obtain ⟨rfl, rfl⟩ := h3
    refine ⟨cur, h4, by rw [h6]; exact Nat.mul_le_mul_right _ (by omega), ?_⟩
    have := h2.get (n := e.size) (fun x c hr => Rep.length e x c hr) i (List.getElem?_eq_getElem hi)
    rw [← h7] at this
    have hle : i * e.size + e.size ≤ xs.length * e.size := by
      have := Nat.mul_le_mul_right e.size (show i + 1 ≤ xs.length by omega)
      rwa [Nat.succ_mul] at this
    have e2 : ((cur.toList.take (xs.length * e.size)).drop (i * e.size)).take e.size = (cur.toList.drop (i * e.size)).take e.size := by
      rw [List.drop_take, List.take_take, Nat.min_eq_left (by omega)]
    rwa [e2] at this

theorem opLoad_sound (hT : TabOk P C.Θ) (h : Rel N w0 p0 Bs G st a w) {T : Nat} {x : AV} {v : AV} {u : Value}
    (hu : RV w (reg w0 p0 Bs G st.obj) G st.obj x u) (hv : (opLoad C st T x).res v) :
    ∃ y, (Instr.loadAt T u).run P w = .ok y w ∧ RV w (reg w0 p0 Bs G st.obj) G st.obj v y := by
  unfold opLoad at hv
  split at hv
  · rename_i ti n off ht
    have hty := hT T ti ht
    split at hv
    · rename_i ls ho
      split at hv
      · rename_i m hm
        obtain rfl : v = _ := hv
        obtain ⟨v1, h1, _, _, h4⟩ := hu
        simp only [List.cons.injEq, and_true] at h1
        subst h1
        rw [h4 ls ho]
        have hO := h.objs n
        rw [ho] at hO
        obtain ⟨cells, tid, k1, k2⟩ := hO
        obtain ⟨k3, k4⟩ := midC_sound k2 hm
        refine ⟨_, ?_, mkAV_sound k3 ?_⟩
        · simp only [Instr.loadAt, Instr.sureAddr, pure_bind]
          exact load_cells hty k1 (by simpa using k4)
        · intro hg
          rw [Ty.size_of_not_agg _ hg] at k4 ⊢
          simp only [List.length_take, List.length_drop]; omega
      · exact hv.elim
    · exact hv.elim
  · rename_i ti t x ht
    have hty := hT T ti ht
    obtain ⟨ad, ds, h1, h2, h3, h4, h5, h6⟩ := hu
    simp only [List.cons.injEq, and_true] at h1
    subst h1
    cases hc : (Nat.beq t.size ti.ty.size && (t.agg == ti.ty.agg)) with
    | false => rw [hc] at hv; exact hv.elim
    | true =>
      rw [hc] at hv
      obtain rfl : v = _ := hv
      simp only [Bool.and_eq_true, Nat.beq_eq, beq_iff_eq] at hc
      have hl := Rep.length t x ds h5
      refine ⟨_, ?_, mkAV_sound (leavesOf_sound t x ds h5) ?_⟩
      · simp only [Instr.loadAt, Instr.sureAddr, pure_bind]
        exact hty.run_loadVar h2 (by rw [hl, hc.1]) h6
      · intro hg
        rw [hl, hc.1, Ty.size_of_not_agg _ hg]
  · rename_i ti n i off ht
    have hty := hT T ti ht
    split at hv
    · rename_i tid e xs ho
      cases hc : Nat.ble (off + ti.ty.size) e.size with
      | false => rw [hc] at hv; exact hv.elim
      | true =>
      rw [hc] at hv
      have hle := Nat.le_of_ble_eq_true hc
      obtain ⟨y, hy, rfl⟩ := hv
      obtain ⟨hi0, hi1⟩ := idx_some hy
      obtain ⟨hi2, rfl⟩ := List.getElem?_eq_some_iff.1 hi1
      obtain ⟨v1, h1, _, _, h4⟩ := hu
      simp only [List.cons.injEq, and_true] at h1
      subst h1
      obtain ⟨j1, j2, b, j3, j4⟩ := h4 e (List.length xs) (by rw [ho]; rfl)
      have hO := h.objs n
      rw [ho] at hO
      obtain ⟨cells, k1, k2, k3⟩ := row_lies hO hi2 j3
      rw [j4]
      have hmul : (i.toNat + 1) * e.size = i.toNat * e.size + e.size := Nat.succ_mul _ _
      have hld := load_cells (w := w) hty (off := i.toNat * e.size + off) k1 (by omega)
      refine ⟨_, by simp only [Instr.loadAt, Instr.sureAddr, pure_bind]; exact hld, ?_⟩
      show RV _ _ _ _ (match midC (leavesOf e xs[i.toNat]) off ti.ty.size with
        | some m => mkAV ti.ty.agg m
        | none => .no) _
      cases hm : midC (leavesOf e xs[i.toNat]) off ti.ty.size with
      | none => exact trivial
      | some m =>
        obtain ⟨k4, k5⟩ := midC_sound (G := G) (obj := st.obj) (leavesOf_sound e _ _ k3) hm
        rw [List.length_take, List.length_drop, Array.length_toList] at k5
        rw [List.drop_take, List.take_take, Nat.min_eq_left (by omega), List.drop_drop] at k4
        refine mkAV_sound k4 ?_
        intro hg
        rw [Ty.size_of_not_agg _ hg] at k5 ⊢
        simp only [List.length_take, List.length_drop, Array.length_toList]; omega
    · rename_i tid d kk xs ho
      cases hc : Nat.ble (off + ti.ty.size) d.ty.size with
      | false => rw [hc] at hv; exact hv.elim
      | true =>
      rw [hc] at hv
      have hle := Nat.le_of_ble_eq_true hc
      obtain ⟨y, hy, rfl⟩ := hv
      obtain ⟨hi0, hi1⟩ := idx_some hy
      obtain ⟨hi2, rfl⟩ := List.getElem?_eq_some_iff.1 hi1
      obtain ⟨v1, h1, _, _, h4⟩ := hu
      simp only [List.cons.injEq, and_true] at h1
      subst h1
      obtain ⟨j1, j2, b, j3, j4⟩ := h4 d.ty (List.length xs) (by rw [ho]; rfl)
      have hO := h.objs n
      rw [ho] at hO
      obtain ⟨cells, k1, k2, k3⟩ := row_lies hO.wide hi2 j3
      rw [j4]
      have hmul : (i.toNat + 1) * d.ty.size = i.toNat * d.ty.size + d.ty.size := Nat.succ_mul _ _
      have hld := load_cells (w := w) hty (off := i.toNat * d.ty.size + off) k1 (by omega)
      refine ⟨_, by simp only [Instr.loadAt, Instr.sureAddr, pure_bind]; exact hld, ?_⟩
      show RV _ _ _ _ (match midC (leavesOf d.ty xs[i.toNat]) off ti.ty.size with
        | some m => cond (flatLs m) (mkAV ti.ty.agg m) .no
        | none => .no) _
      cases hm : midC (leavesOf d.ty xs[i.toNat]) off ti.ty.size with
      | none => exact trivial
      | some m =>
        show RV _ _ _ _ (cond (flatLs m) (mkAV ti.ty.agg m) .no) _
        cases hfl : flatLs m with
        | false => exact trivial
        | true =>
        obtain ⟨k4, k5⟩ := midC_sound (G := G) (obj := st.obj) (leavesOf_sound d.ty _ _ k3) hm
        rw [List.length_take, List.length_drop, Array.length_toList] at k5
        rw [List.drop_take, List.take_take, Nat.min_eq_left (by omega), List.drop_drop] at k4
        refine mkAV_sound (flatLs_region _ _ hfl k4) ?_
        intro hg
        rw [Ty.size_of_not_agg _ hg] at k5 ⊢
        simp only [List.length_take, List.length_drop, Array.length_toList]; omega
    · exact hv.elim
  · rename_i ti n off sz i ht
    have hty := hT T ti ht
    split at hv
    · rename_i ls ho
      split at hv
      · rename_i pre m e xs post hk
        cases hc : (Nat.beq e.size sz && Nat.beq sz ti.ty.size && (e.agg == ti.ty.agg)) with
        | false => rw [hc] at hv; exact hv.elim
        | true =>
        rw [hc] at hv
        simp only [Bool.and_eq_true, Nat.beq_eq, beq_iff_eq] at hc
        obtain ⟨⟨hc1, hc2⟩, hc3⟩ := hc
        obtain ⟨y, hy, rfl⟩ := hv
        obtain ⟨hi0, hi1⟩ := idx_some hy
        obtain ⟨hi2, rfl⟩ := List.getElem?_eq_some_iff.1 hi1
        obtain ⟨v1, h1, _, _, h4⟩ := hu
        simp only [List.cons.injEq, and_true] at h1
        subst h1
        rw [h4 ls ho]
        have hO := h.objs n
        rw [ho] at hO
        obtain ⟨cells, tid, k1, k2⟩ := hO
        obtain ⟨_, c1, c2, k3, k4, _, k6⟩ := takeC_sound _ _ _ _ _ k2 hk
        obtain ⟨d1, d2, rfl, k7, _⟩ := k6
        have k7 : Rep w _ (.arr m e) xs d1 := k7
        have k8 := k7.2
        have hlen := k8.len
        have k9 := k8.get (n := e.size) (fun x c hr => Rep.length e x c hr) i.toNat (List.getElem?_eq_getElem hi2)
        have hsz : cells.toList.length = off + (d1.length + d2.length) := by rw [k3]; simp [k4]
        have hmul : (i.toNat + 1) * e.size ≤ xs.length * e.size := Nat.mul_le_mul_right _ hi2
        have hmul2 : (i.toNat + 1) * e.size = i.toNat * e.size + e.size := Nat.succ_mul _ _
        rw [Array.length_toList] at hsz
        have hld := load_cells (w := w) hty (off := off + i.toNat * sz) k1 (by rw [← hc2, ← hc1]; omega)
        refine ⟨_, by simp only [Instr.loadAt, Instr.sureAddr, pure_bind]; exact hld, ?_⟩
        have e1 : (cells.toList.drop (off + i.toNat * sz)).take ti.ty.size = (d1.drop (i.toNat * e.size)).take e.size := by
          rw [k3, ← hc2, ← hc1, ← List.drop_drop, ← k4, List.drop_left, List.drop_append_of_le_length (by omega), List.take_append_of_le_length (by rw [List.length_drop]; omega)]
        rw [e1, ← hc3]
        refine mkAV_sound (leavesOf_sound e _ _ k9) ?_
        intro hg
        rw [Rep.length e _ _ k9, Ty.size_of_not_agg _ hg]
      · exact hv.elim
    · exact hv.elim
  · exact hv.elim

theorem nth_sound : ∀ (t : Ty) (x : t.den) (k : Nat) (o : Nat) (t' : Ty) (y : t'.den) (ds : List Value), Rep w p t x ds → nth t x k = some (o, ⟨t', y⟩) →
    ∃ c1 c2 c3, ds = c1 ++ c2 ++ c3 ∧ c1.length = o ∧ Rep w p t' y c2 := by
  intro t
  induction t with
  | pair a b _ ihb =>
    intro x k o t' y ds h hn
    obtain ⟨c1, c2, rfl, h1, h2⟩ := h
    cases k with
    | zero =>
      simp only [nth, Option.some.injEq, Prod.mk.injEq] at hn
      obtain ⟨rfl, hs⟩ := hn
      injection hs with hs1 hs2
      subst hs1
      obtain rfl := eq_of_heq hs2
      exact ⟨[], c1, c2, rfl, rfl, h1⟩
    | succ k =>
      simp only [nth] at hn
      split at hn
      · rename_i o' q hq
        simp only [Option.some.injEq, Prod.mk.injEq] at hn
        obtain ⟨rfl, rfl⟩ := hn
        obtain ⟨d1, d2, d3, rfl, k1, k2⟩ := ihb x.2 k o' t' y c2 h2 hq
        exact ⟨c1 ++ d1, d2, d3, by simp, by rw [List.length_append, Rep.length a _ _ h1, k1], k2⟩
      · cases hn
  | _ => intro x k o t' y ds h hn; simp [nth] at hn

theorem opField_sound (hT : TabOk P C.Θ) (h : Rel N w0 p0 Bs G st a w) {T f : Nat} {x : AV} {v : AV} {u : Value}
    (hu : RV w (reg w0 p0 Bs G st.obj) G st.obj x u) (hv : (opField C st T f x).res v) :
    ∃ y, (Instr.fieldAt T u f).run P w = .ok y w ∧ RV w (reg w0 p0 Bs G st.obj) G st.obj v y := by
  unfold opField at hv
  split at hv
  · exact hv.elim
  · rename_i ti ht
    have hty := hT T ti ht
    split at hv
    · exact hv.elim
    · rename_i off ft hf
      obtain ⟨fs, fd, tf, k1, k2, rfl, rfl, k5, k6⟩ := hty.fld hf
      have hsz := (hT _ _ k5).run_sizeOf (w := w)
      have run : ∀ ad : Addr, ad.spot = none → (Instr.fieldAt T (.pointer (some ad)) f).run P w = .ok (.pointer (some ⟨ad.block, ad.off + fd.offset, none⟩)) w := by
        intro ad hs
        simp only [Instr.fieldAt, Sem.run_bind, run_underlying k1, Result.andThen_ok, k2, Instr.sureAddr, Sem.run_pure, fieldPlace, hsz, if_neg k6, add_plain hs]
      split at hv
      · rename_i n o
        split at hv
        · rename_i ls ho
          obtain rfl : v = _ := hv
          obtain ⟨v1, h1, h2, h3, h4⟩ := hu
          simp only [List.cons.injEq, and_true] at h1
          subst h1
          rw [h4 ls ho]
          exact ⟨_, run _ rfl, ⟨_, rfl, rfl, h3, fun ls' hl => rfl⟩⟩
        · exact hv.elim
      · rename_i n i o
        split at hv
        · rename_i tid e xs ho
          obtain rfl : v = _ := hv
          obtain ⟨v1, h1, h2, h3, h4⟩ := hu
          simp only [List.cons.injEq, and_true] at h1
          subst h1
          obtain ⟨j1, j2, b, j3, j4⟩ := h4 e (List.length xs) (by rw [ho]; rfl)
          rw [j4]
          refine ⟨_, run _ rfl, ⟨_, rfl, rfl, h3, fun e' l' hx => ?_⟩⟩
          rw [ho] at hx
          simp only [rowOf, Option.some.injEq, Prod.mk.injEq] at hx
          obtain ⟨rfl, rfl⟩ := hx
          exact ⟨j1, j2, b, j3, by rw [Nat.add_assoc]⟩
        · rename_i tid d kk xs hh ho
          obtain rfl : v = _ := hv
          obtain ⟨v1, h1, h2, h3, h4⟩ := hu
          simp only [List.cons.injEq, and_true] at h1
          subst h1
          obtain ⟨j1, j2, b, j3, j4⟩ := h4 d.ty (List.length xs) (by rw [ho]; rfl)
          rw [j4]
          refine ⟨_, run _ rfl, ⟨_, rfl, rfl, h3, fun e' l' hx => ?_⟩⟩
          rw [ho] at hx
          simp only [rowOf, Option.some.injEq, Prod.mk.injEq] at hx
          obtain ⟨rfl, rfl⟩ := hx
          exact ⟨j1, j2, b, j3, by rw [Nat.add_assoc]⟩
        · exact hv.elim
      · rename_i t x
        unfold roLeaf at hv
        split at hv
        · rename_i o t' y hn
          cases hb : Nat.beq o fd.offset with
          | false => rw [hb] at hv; exact hv.elim
          | true =>
            rw [hb] at hv
            obtain rfl : v = _ := hv
            have hb := Nat.eq_of_beq_eq_true hb
            obtain ⟨ad, ds, h1, h2, h3, h4, h5, h6⟩ := hu
            simp only [List.cons.injEq, and_true] at h1
            subst h1
            obtain ⟨c1, c2, c3, rfl, h7, h8⟩ := nth_sound t x f o t' y ds h5 hn
            refine ⟨_, run ad h2, ⟨⟨ad.block, ad.off + fd.offset, none⟩, c2, rfl, rfl, h3, h4, h8, fun j v hj => ?_⟩⟩
            have := h6 (o + j) v (by rw [List.append_assoc, List.getElem?_append_right (by omega), h7, Nat.add_sub_cancel_left, List.getElem?_append_left (List.getElem?_eq_some_iff.1 hj).1]; exact hj)
            rwa [hb, ← Nat.add_assoc] at this
        · exact hv.elim
      · exact hv.elim

theorem isSl_ok (hT : TabOk P C.Θ) {T sz : Nat} (h : isSl C T sz = true) : ∃ elem, P.underlying T = some (.slice elem) ∧ (sizeOf elem).run P w = .ok sz w ∧ 0 < sz := by
  unfold isSl at h
  split at h
  · rename_i ti ht
    split at h
    · rename_i e te he hte
      obtain ⟨d, h1, h2⟩ := (hT T ti ht).desc
      unfold DescOk at h2
      rw [he] at h2
      obtain ⟨rfl, h3, te', h4, h5⟩ := h2
      rw [hte] at h4
      obtain rfl := Option.some.inj h4
      have h := Nat.eq_of_beq_eq_true h
      exact ⟨ti.elem, h1, by rw [(hT _ te hte).run_sizeOf, h], by rw [← h, h5]; exact h3⟩
    · cases h
  · cases h

theorem isAr_ok (hT : TabOk P C.Θ) {T m sz : Nat} (h : isAr C T m sz = true) : ∃ elem, P.underlying T = some (.array m elem) ∧ (sizeOf elem).run P w = .ok sz w := by
  unfold isAr at h
  split at h
  · rename_i ti ht
    split at h
    · rename_i m' e te he hte
      simp only [Bool.and_eq_true, Nat.beq_eq] at h
      obtain ⟨rfl, h3⟩ := h
      obtain ⟨d, h1, h2⟩ := (hT T ti ht).desc
      unfold DescOk at h2
      rw [he] at h2
      obtain ⟨rfl, _⟩ := h2
      exact ⟨ti.elem, h1, by rw [(hT _ te hte).run_sizeOf, h3]⟩
    · cases h
  · cases h

theorem inb_true {i : Int} {n : Nat} (h : inb i n = true) : 0 ≤ i ∧ i < (n : Int) := by
  unfold inb at h
  simpa using h

/-- The place of an element. -/
theorem run_indexAt_slice {T elem sz : Nat} (hu : P.underlying T = some (.slice elem)) (hs : (sizeOf elem).run P w = .ok sz w) {ad : Addr} (hp : ad.spot = none) {n c : Nat} {k : IntKind} {i : Int} (h0 : 0 ≤ i) (h1 : i < (n : Int)) :
    (Instr.indexAt T (.slice (some ad) n c) (.int k i)).run P w = .ok (.pointer (some ⟨ad.block, ad.off + i.toNat * sz, none⟩)) w := by
  simp only [Instr.indexAt, asIntOf, pure_bind, Sem.run_bind, run_underlying hu, Result.andThen_ok, Sem.run_pure, Sem.run_ite, h0, h1, and_self, if_true, hs, add_plain hp]

theorem run_indexAt_array {T elem sz m : Nat} (hu : P.underlying T = some (.array m elem)) (hs : (sizeOf elem).run P w = .ok sz w) {ad : Addr} (hp : ad.spot = none) {k : IntKind} {i : Int} (h0 : 0 ≤ i) (h1 : i < (m : Int)) :
    (Instr.indexAt T (.pointer (some ad)) (.int k i)).run P w = .ok (.pointer (some ⟨ad.block, ad.off + i.toNat * sz, none⟩)) w := by
  simp only [Instr.indexAt, asIntOf, pure_bind, Sem.run_bind, run_underlying hu, Result.andThen_ok, Sem.run_pure, Sem.run_ite, h0, h1, and_self, if_true, hs, add_plain hp, Instr.sureAddr]

theorem getElem?_mid {c1 c2 c3 : List Value} {j : Nat} {v : Value} (h : c2[j]? = some v) : (c1 ++ c2 ++ c3)[c1.length + j]? = some v := by
  rw [List.append_assoc, List.getElem?_append_right (by omega), Nat.add_sub_cancel_left, List.getElem?_append_left (List.getElem?_eq_some_iff.1 h).1]
  exact h

theorem sub_cells {ds : List Value} {k n : Nat} {j : Nat} {v : Value} (h : ((ds.drop k).take n)[j]? = some v) : ds[k + j]? = some v := by
  rw [List.getElem?_take] at h
  split at h
  · rwa [List.getElem?_drop] at h
  · cases h

theorem opIndexAddr_sound (hT : TabOk P C.Θ) (h : Rel N w0 p0 Bs G st a w) {T : Nat} {x i : AV} {v : AV} {u ui : Value}
    (hu : RV w (reg w0 p0 Bs G st.obj) G st.obj x u) (hi : RV w (reg w0 p0 Bs G st.obj) G st.obj i ui) (hv : (opIndexAddr C st T x i).res v) :
    ∃ y, (Instr.indexAt T u ui).run P w = .ok y w ∧ RV w (reg w0 p0 Bs G st.obj) G st.obj v y := by
  unfold opIndexAddr at hv
  split at hv
  · rename_i k i
    obtain rfl := int_of hi
    split at hv
    · rename_i e xs
      cases hc : isSl C T e.size with
      | false => rw [hc] at hv; exact hv.elim
      | true =>
      rw [hc] at hv
      obtain ⟨elem, e1, e2, e3⟩ := isSl_ok (w := w) hT hc
      obtain ⟨y, hy, rfl⟩ := hv
      obtain ⟨hi0, hi1⟩ := idx_some hy
      obtain ⟨hi2, rfl⟩ := List.getElem?_eq_some_iff.1 hi1
      obtain ⟨ao, c, ds, h1, h2, h3, h4⟩ := hu
      simp only [List.cons.injEq, and_true] at h1
      subst h1
      have hlen := h3.len
      have hget := h3.get (n := e.size) (fun x c hr => Rep.length e x c hr) i.toNat (List.getElem?_eq_getElem hi2)
      have hpos : 0 < ds.length := by rw [hlen]; exact Nat.mul_pos (by omega) e3
      rcases h4 with h4 | ⟨ad, rfl, h5, h6, h7⟩
      · subst h4; simp at hpos
      · have hlt : ad.block < w.heap.size := World.block_lt_of_cell? w ⟨ad.block, ad.off + 0, none⟩ (h7 0 _ (List.getElem?_eq_getElem hpos))
        refine ⟨_, run_indexAt_slice e1 e2 h5 hi0 (by omega), ⟨_, _, rfl, rfl, h6, hlt, hget, fun j v hj => ?_⟩⟩
        have := h7 _ _ (sub_cells hj)
        rwa [← Nat.add_assoc] at this
    · rename_i n
      split at hv
      · rename_i tid e xs ho
        cases hc : isSl C T e.size with
        | false => rw [hc] at hv; exact hv.elim
        | true =>
        rw [hc] at hv
        obtain ⟨elem, e1, e2, e3⟩ := isSl_ok (w := w) hT hc
        obtain ⟨hb, rfl⟩ := hv
        obtain ⟨hi0, hi1⟩ := inb_true hb
        obtain ⟨v1, h1, _, h3, h4⟩ := hu
        simp only [List.cons.injEq, and_true] at h1
        subst h1
        rw [h4 e (List.length xs) (by rw [ho]; rfl)]
        have hO := h.objs n
        rw [ho] at hO
        obtain ⟨ds, k1, _⟩ := hO
        rcases k1.2 with ⟨_, k3⟩ | ⟨g, cap, cur, k3, _⟩
        · omega
        · simp only [Value.slice.injEq, true_and] at k3
          obtain ⟨k3, k4⟩ := k3
          rw [k3]
          refine ⟨_, run_indexAt_slice e1 e2 rfl hi0 hi1, ⟨_, rfl, rfl, h3, fun e' l' hx => ?_⟩⟩
          rw [ho] at hx
          simp only [rowOf, Option.some.injEq, Prod.mk.injEq] at hx
          obtain ⟨rfl, rfl⟩ := hx
          exact ⟨hi0, hi1, g, k3, by simp⟩
      · rename_i tid d kk xs hh ho
        cases hc : isSl C T d.ty.size with
        | false => rw [hc] at hv; exact hv.elim
        | true =>
        rw [hc] at hv
        obtain ⟨elem, e1, e2, e3⟩ := isSl_ok (w := w) hT hc
        obtain ⟨hb, rfl⟩ := hv
        obtain ⟨hi0, hi1⟩ := inb_true hb
        obtain ⟨v1, h1, _, h3, h4⟩ := hu
        simp only [List.cons.injEq, and_true] at h1
        subst h1
        rw [h4 d.ty (List.length xs) (by rw [ho]; rfl)]
        have hO := h.objs n
        rw [ho] at hO
        obtain ⟨_, ds, ds', k1, _, _⟩ := hO
        rcases k1.2 with ⟨_, k3⟩ | ⟨g, cap, cur, k3, _⟩
        · omega
        · simp only [Value.slice.injEq, true_and] at k3
          obtain ⟨k3, k4⟩ := k3
          rw [k3]
          refine ⟨_, run_indexAt_slice e1 e2 rfl hi0 hi1, ⟨_, rfl, rfl, h3, fun e' l' hx => ?_⟩⟩
          rw [ho] at hx
          simp only [rowOf, Option.some.injEq, Prod.mk.injEq] at hx
          obtain ⟨rfl, rfl⟩ := hx
          exact ⟨hi0, hi1, g, k3, by simp⟩
      · exact hv.elim
    · rename_i n off
      split at hv
      · rename_i ls ho
        split at hv
        · rename_i pre m e xs post hk
          cases hc : isAr C T m e.size with
          | false => rw [hc] at hv; exact hv.elim
          | true =>
          rw [hc] at hv
          obtain ⟨elem, e1, e2⟩ := isAr_ok (w := w) hT hc
          obtain ⟨hb, rfl⟩ := hv
          obtain ⟨hi0, hi1⟩ := inb_true hb
          obtain ⟨v1, h1, _, h3, h4⟩ := hu
          simp only [List.cons.injEq, and_true] at h1
          subst h1
          rw [h4 ls ho]
          exact ⟨_, run_indexAt_array e1 e2 rfl hi0 hi1, ⟨_, rfl, rfl, h3, fun ls' hl => rfl⟩⟩
        · exact hv.elim
      · exact hv.elim
    · rename_i m e xs
      cases hc : isAr C T m e.size with
      | false => rw [hc] at hv; exact hv.elim
      | true =>
      rw [hc] at hv
      obtain ⟨elem, e1, e2⟩ := isAr_ok (w := w) hT hc
      obtain ⟨y, hy, rfl⟩ := hv
      obtain ⟨hi0, hi1⟩ := idx_some hy
      obtain ⟨hi2, rfl⟩ := List.getElem?_eq_some_iff.1 hi1
      obtain ⟨ad, ds, h1, h2, h3, h4, h5, h6⟩ := hu
      simp only [List.cons.injEq, and_true] at h1
      subst h1
      have hm : List.length xs = m := h5.1
      have hget := RepL.get (n := e.size) h5.2 (fun x c hr => Rep.length e x c hr) i.toNat (List.getElem?_eq_getElem hi2)
      refine ⟨_, run_indexAt_array e1 e2 h2 hi0 (by omega), ⟨_, _, rfl, rfl, h3, h4, hget, fun j v hj => ?_⟩⟩
      have := h6 _ _ (sub_cells hj)
      rwa [← Nat.add_assoc] at this
    · exact hv.elim
  · exact hv.elim

theorem underlying_str (hT : TabOk P C.Θ) {T : Nat} {ti : TI} (h : C.Θ T = some ti) (hs : ti.ty = .str) : P.underlying T = some .string := by
  obtain ⟨d, h1, h2⟩ := (hT T ti h).desc
  unfold DescOk at h2
  rw [hs] at h2
  simp only at h2
  rw [h1, h2]

theorem tyIs_str (hT : TabOk P C.Θ) {T : Nat} (h : tyIs C T isStrTy = true) : P.underlying T = some .string := by
  unfold tyIs at h
  split at h
  · rename_i ti ht
    cases hs : ti.ty with
    | str => exact underlying_str hT ht hs
    | _ => rw [hs] at h; cases h
  · cases h

theorem opIndex_sound (hT : TabOk P C.Θ) {T : Nat} {x i : AV} {v : AV} {u ui : Value} {obj : Nat → AObj}
    (hu : RV w p G obj x u) (hi : RV w p G obj i ui) (hv : (opIndex C T x i).res v) :
    ∃ y, (Instr.index T u ui).run P w = .ok y w ∧ RV w p G obj v y := by
  unfold opIndex at hv
  split at hv
  · rename_i k i
    obtain rfl := int_of hi
    split at hv
    · rename_i s
      split at hv
      · rename_i ti ht
        split at hv
        · rename_i hs
          obtain ⟨c, hc, rfl⟩ := hv
          obtain rfl := str_of hu
          have hun := underlying_str hT ht hs
          unfold idxB at hc
          by_cases h0 : 0 ≤ i
          · simp only [h0, decide_true, cond_true] at hc
            cases hq : s[i.toNat]? with
            | none => rw [hq] at hc; cases hc
            | some b =>
              rw [hq] at hc
              simp only [Option.map_some, Option.some.injEq] at hc
              subst hc
              refine ⟨.int .u8 b.toNat, ?_, rfl⟩
              simp [Instr.index, asIntOf, run_underlying hun, h0, hq]
          · simp [h0] at hc
        · exact hv.elim
      · exact hv.elim
    · exact hv.elim
  · exact hv.elim

end
end Go.Vx
