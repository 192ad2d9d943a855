/-
  A claim's reading of an argument and the data that it stands for.
-/
import Derived.Test.YtgdfaamcmkfkcaaVxUse
import Derived.Deep.Slices
import Derived.ChangeArms
import Derived.DataReads
import Derived.OpenShut
set_option linter.unusedSimpArgs false
set_option linter.unusedVariables false
set_option linter.unnecessarySimpa false
namespace Go.Vx

def Tied (Θ : Nat → Option TI) : Ty → List (Nat × Nat) → Nat → Prop
  | .unit, [], _ => True
  | .pair a b, (off, ft) :: r, k => off = k ∧ (∃ tf, Θ ft = some tf ∧ tf.ty = a) ∧ Tied Θ b r (k + a.size)
  | _, _, _ => False

def TieOk (Θ : Nat → Option TI) : Prop := ∀ t i, Θ t = some i → isSt i.ty = true → Tied Θ i.ty i.flds 0

def chkTied (Θ : Nat → Option TI) : Ty → List (Nat × Nat) → Nat → Bool
  | .unit, [], _ => true
  | .pair a b, (off, ft) :: r, k => Nat.beq off k && chkElem Θ ft a && chkTied Θ b r (k + a.size)
  | _, _, _ => false

theorem chkTied_ok {Θ : Nat → Option TI} : ∀ {T : Ty} {fl : List (Nat × Nat)} {k : Nat}, chkTied Θ T fl k = true → Tied Θ T fl k
  | .unit, [], _, _ => trivial
  | .pair a b, (off, ft) :: r, k, h => by
    simp only [chkTied, Bool.and_eq_true, Nat.beq_eq] at h
    exact ⟨h.1.1, chkElem_ok h.1.2, chkTied_ok h.2⟩
  | .unit, _ :: _, _, h => by cases h
  | .pair _ _, [], _, h => by cases h
  | .int _, _, _, h => by cases h
  | .bool, _, _, h => by cases h
  | .str, _, _, h => by cases h
  | .sl _, _, _, h => by cases h
  | .arr _ _, _, _, h => by cases h

def chkTies (Θ : Nat → Option TI) : List (Nat × TI) → Bool
  | [] => true
  | (_, i) :: r => (!isSt i.ty || chkTied Θ i.ty i.flds 0) && chkTies Θ r

theorem chkTies_ok {tab : List (Nat × TI)} (h : chkTies (assoc tab) tab = true) : TieOk (assoc tab) := by
  have go : ∀ l : List (Nat × TI), chkTies (assoc tab) l = true → ∀ q ∈ l, isSt q.2.ty = true → Tied (assoc tab) q.2.ty q.2.flds 0 := by
    intro l
    induction l with
    | nil => intro _ q hq; cases hq
    | cons x l ih =>
      intro h q hq hs
      simp only [chkTies, Bool.and_eq_true, Bool.or_eq_true, Bool.not_eq_true'] at h
      rcases List.mem_cons.1 hq with rfl | hq
      · rcases h.1 with h1 | h1
        · rw [hs] at h1; cases h1
        · exact chkTied_ok h1
      · exact ih h.2 q hq hs
  intro t i hi hs
  exact go tab h _ (assoc_mem hi) hs

/-- What is known of data out of a claim: numbers in their range, lengths. -/
def Wf : (t : Ty) → t.den → Prop
  | .int k, x => (Lit.int k x).wf = true
  | .bool, _ => True
  | .str, s => s.size ≤ maxLen
  | .sl e, xs => List.length xs ≤ maxLen ∧ ∀ x ∈ xs, Wf e x
  | .unit, _ => True
  | .pair a b, x => Wf a x.1 ∧ Wf b x.2
  | .arr _ e, xs => ∀ x ∈ xs, Wf e x

section
variable {H : Type} {enc : TypeId × Value → H} {P : Program} {Θ : Nat → Option TI} {w : World} {spare : Nat → Bool} {held : Bool}

theorem TyOk.cellsOf {t : Nat} {i : TI} (h : TyOk P Θ t i) : P.cellsOf t = i.ty.size := by
  obtain ⟨info, h1, h2, _⟩ := h.info
  simp [Program.cellsOf, h1, h2]

/-- Elements of a row, one after the other. -/
theorem rep_list {e : Ty} {C : Nat} : ∀ (n : Nat) (cells : Nat → List Value) (_ : ∀ i, i < n → ∃ v : e.den, Rep w (fun b => b < w.heap.size) e v (cells i) ∧ Wf e v),
    ∃ xs : List e.den, xs.length = n ∧ RepL (Rep w (fun b => b < w.heap.size) e) xs ((List.range n).map cells).flatten ∧ ∀ x ∈ xs, Wf e x
  | 0, _, _ => ⟨[], rfl, rfl, fun _ h => by cases h⟩
  | n + 1, cells, h => by
    obtain ⟨xs, h1, h2, h3⟩ := rep_list (C := C) n cells fun i hi => h i (by omega)
    obtain ⟨v, h4, h5⟩ := h n (by omega)
    refine ⟨xs ++ [v], by simp [h1], ?_, fun x hx => ?_⟩
    · rw [List.range_succ, List.map_append, List.flatten_append]
      exact h2.append (by simpa using RepL.single h4)
    · rcases List.mem_append.1 hx with hx | hx
      · exact h3 x hx
      · rw [List.mem_singleton.1 hx]; exact h5

theorem flat_get {C : Nat} {cells : Nat → List Value} : ∀ (n : Nat) (_ : ∀ i, i < n → (cells i).length = C) (j : Nat) (v : Value), ((List.range n).map cells).flatten[j]? = some v →
    ∃ i k, i < n ∧ k < C ∧ j = i * C + k ∧ (cells i)[k]? = some v
  | 0, _, j, v, h => by simp at h
  | n + 1, hl, j, v, h => by
    rw [List.range_succ, List.map_append, List.flatten_append] at h
    have hlen : ((List.range n).map cells).flatten.length = n * C := by
      have : ∀ m, m ≤ n → ((List.range m).map cells).flatten.length = m * C := by
        intro m
        induction m with
        | zero => intro _; simp
        | succ m ih =>
          intro hm
          rw [List.range_succ, List.map_append, List.flatten_append, List.length_append, ih (by omega)]
          simp [hl m (by omega), Nat.succ_mul]
      exact this n (Nat.le_refl _)
    by_cases hj : j < n * C
    · rw [List.getElem?_append_left (by omega)] at h
      obtain ⟨i, k, h1, h2, h3, h4⟩ := flat_get n (fun i hi => hl i (by omega)) j v h
      exact ⟨i, k, by omega, h2, h3, h4⟩
    · rw [List.getElem?_append_right (by omega), hlen] at h
      simp only [List.map_cons, List.map_nil, List.flatten_cons, List.flatten_nil, List.append_nil] at h
      obtain ⟨hk, _⟩ := List.getElem?_eq_some_iff.1 h
      rw [hl n (by omega)] at hk
      exact ⟨n, j - n * C, by omega, hk, by omega, h⟩

theorem flat_pieces (cs : List Value) (C : Nat) : ∀ n, ((List.range n).map fun i => (cs.drop (i * C)).take C).flatten = cs.take (n * C)
  | 0 => by simp
  | n + 1 => by
    rw [List.range_succ, List.map_append, List.flatten_append, flat_pieces cs C n, Nat.succ_mul, List.take_add]
    simp

theorem trod_rep (hT : TabOk P Θ) (hTie : TieOk Θ) : ∀ (fuel t : Nat) (i : TI) (cs : List Value) (x : DataW H × List MemPlace), Θ t = some i → DataW.trod enc P w 0 spare held fuel t cs = some x →
    ∃ v : i.ty.den, Rep w (fun b => b < w.heap.size) i.ty v cs ∧ Wf i.ty v := by
  intro fuel
  induction fuel with
  | zero => intro t i cs x _ h; simp [DataW.trod] at h
  | succ n ih =>
    intro t i cs x hi h
    have hty := hT t i hi
    obtain ⟨d, hd, hdesc⟩ := hty.desc
    have hst : ∀ fs : Array Field, P.underlying t = some (.struct fs) → (fs.toList.map fun f => (f.offset, f.type)) = i.flds → isSt i.ty = true → ∃ v : i.ty.den, Rep w (fun b => b < w.heap.size) i.ty v cs ∧ Wf i.ty v := by
      intro fs hu hm hs
      obtain ⟨xs, n', hn, _, hlen, hxl, hf⟩ := DataW.trod_struct hu h
      obtain rfl : n' = n := by omega
      rw [hty.cellsOf] at hlen
      have hfl : ∀ q ∈ i.flds, ∃ y, DataW.trod enc P w 0 spare held n' q.2 ((cs.drop q.1).take (P.cellsOf q.2)) = some y := by
        intro q hq
        rw [← hm] at hq
        obtain ⟨f, hf1, rfl⟩ := List.mem_map.1 hq
        obtain ⟨k, hk, hkf⟩ := List.mem_iff_getElem.1 hf1
        have hk2 : fs[k]? = some f := by rw [← Array.getElem?_toList, List.getElem?_eq_getElem hk, hkf]
        have := hf k f hk2
        have hkx : k < xs.length := by rw [hxl]; simpa using hk
        exact ⟨xs[k], by rw [this, List.getElem?_eq_getElem hkx]⟩
      have go : ∀ (T : Ty) (fl : List (Nat × Nat)) (k : Nat), Tied Θ T fl k → (∀ q ∈ fl, ∃ y, DataW.trod enc P w 0 spare held n' q.2 ((cs.drop q.1).take (P.cellsOf q.2)) = some y) → k + T.size = cs.length →
          ∃ v : T.den, Rep w (fun b => b < w.heap.size) T v (cs.drop k) ∧ Wf T v := by
        intro T
        induction T with
        | unit =>
          intro fl k _ _ hk
          refine ⟨(), ?_, trivial⟩
          show cs.drop k = []
          have hk : k + 0 = cs.length := hk
          exact List.drop_eq_nil_of_le (by omega)
        | pair a b _ ihb =>
          intro fl k ht hfl hk
          cases fl with
          | nil => exact ht.elim
          | cons q r =>
            obtain ⟨off, ft⟩ := q
            obtain ⟨rfl, ⟨tf, h1, rfl⟩, h3⟩ := ht
            obtain ⟨y, hy⟩ := hfl (off, ft) (List.mem_cons_self ..)
            have hc := (hT ft tf h1).cellsOf
            simp only at hy
            rw [hc] at hy
            obtain ⟨v1, r1, r2⟩ := ih ft tf _ y h1 hy
            have hk : off + (tf.ty.size + b.size) = cs.length := hk
            obtain ⟨v2, r3, r4⟩ := ihb r (off + tf.ty.size) h3 (fun q hq => hfl q (List.mem_cons_of_mem _ hq)) (by omega)
            refine ⟨(v1, v2), ⟨_, _, ?_, r1, r3⟩, r2, r4⟩
            rw [← List.drop_drop, List.take_append_drop]
        | int _ => intro _ _ ht; exact ht.elim
        | bool => intro _ _ ht; exact ht.elim
        | str => intro _ _ ht; exact ht.elim
        | sl _ _ => intro _ _ ht; exact ht.elim
        | arr _ _ _ => intro _ _ ht; exact ht.elim
      have := go i.ty i.flds 0 (hTie t i hi hs) hfl (by rw [Nat.zero_add, hlen])
      simpa using this
    have main : ∀ T : Ty, i.ty = T → ∃ v : i.ty.den, Rep w (fun b => b < w.heap.size) i.ty v cs ∧ Wf i.ty v := by
      intro T hT'
      unfold DescOk at hdesc
      cases T with
      | int k =>
        rw [hT'] at hdesc ⊢
        simp only at hdesc
        subst hdesc
        obtain ⟨z, h1, _, h3⟩ := DataW.trod_int hd h
        exact ⟨z, h1, h3⟩
      | bool =>
        rw [hT'] at hdesc ⊢
        simp only at hdesc
        subst hdesc
        obtain ⟨z, h1, _⟩ := DataW.trod_bool hd h
        exact ⟨z, h1, trivial⟩
      | str =>
        rw [hT'] at hdesc ⊢
        simp only at hdesc
        subst hdesc
        obtain ⟨z, h1, _, h3⟩ := DataW.trod_string hd h
        exact ⟨z, h1, h3⟩
      | sl e =>
        rw [hT'] at hdesc ⊢
        simp only at hdesc
        obtain ⟨rfl, hpos, te, hte, rfl⟩ := hdesc
        have hce := (hT _ te hte).cellsOf
        rcases DataW.trod_slice hd h with ⟨h0, _⟩ | ⟨a, len, cap, elems, rest, n', hn, hcs, _, hb, hl, hm, hlen, hel, _⟩
        · exact ⟨[], ⟨none, 0, [], by rw [h0]; rfl, Nat.le_refl _, rfl, .inl rfl⟩, Nat.zero_le _, fun _ h => by cases h⟩
        · obtain rfl : n' = n := by omega
          have hat : ∀ k, k < len → ∃ c, w.cells? 0 (a.add (k * te.ty.size)) te.ty.size = some c ∧ ∃ v : te.ty.den, Rep w (fun b => b < w.heap.size) te.ty v c ∧ Wf te.ty v := by
            intro k hk
            have h1 := hel k hk
            have h2 : k < elems.length := by omega
            rw [List.getElem?_eq_getElem h2, Option.bind_eq_some_iff, hce] at h1
            obtain ⟨c, h3, h4⟩ := h1
            exact ⟨c, h3, ih _ te c _ hte h4⟩
          let cells : Nat → List Value := fun k => (w.cells? 0 (a.add (k * te.ty.size)) te.ty.size).getD []
          obtain ⟨xs, x1, x2, x3⟩ := rep_list (C := te.ty.size) len cells fun k hk => by
            obtain ⟨c, h3, h4⟩ := hat k hk
            simp only [cells, h3, Option.getD_some]
            exact h4
          have hclen : ∀ k, k < len → (cells k).length = te.ty.size := fun k hk => by
            obtain ⟨c, h3, _⟩ := hat k hk
            simp only [cells, h3, Option.getD_some]
            exact (World.cells?_some h3).2.1
          have hcell : ∀ j v, ((List.range len).map cells).flatten[j]? = some v → w.cell? (a.add j) = some v := by
            intro j v hj
            obtain ⟨k, z, h1, h2, h3, h4⟩ := flat_get len hclen j v hj
            obtain ⟨c, h5, _⟩ := hat k h1
            simp only [cells, h5, Option.getD_some] at h4
            have := (World.cells?_some h5).2.2 z h2
            rw [Go.Deep.add_add, ← h3, h4] at this
            exact this
          refine ⟨xs, ⟨some a, cap, _, by rw [hcs, x1], by rw [x1]; exact hl, x2, ?_⟩, by rw [x1]; omega, x3⟩
          cases hf : ((List.range len).map cells).flatten with
          | nil => exact .inl rfl
          | cons v0 vs =>
            rw [hf] at hcell
            have h0 := hcell 0 v0 rfl
            rw [show a.add 0 = a from rfl] at h0
            have hsp := World.cell?_spot h0
            refine .inr ⟨a, rfl, hsp, World.block_lt_of_cell? w a h0, fun j v hj => ?_⟩
            rw [← add_plain hsp]
            exact hcell j v hj
      | arr m e =>
        rw [hT'] at hdesc ⊢
        simp only at hdesc
        obtain ⟨rfl, te, hte, rfl⟩ := hdesc
        have hce := (hT _ te hte).cellsOf
        obtain ⟨ys, n', hn, _, hlen, hyl, hel⟩ := DataW.trod_array hd h
        obtain rfl : n' = n := by omega
        obtain ⟨xs, x1, x2, x3⟩ := rep_list (C := te.ty.size) m (fun k => (cs.drop (k * te.ty.size)).take te.ty.size) fun k hk => by
          have h1 := hel k hk
          have h2 : k < ys.length := by omega
          rw [List.getElem?_eq_getElem h2, hce] at h1
          exact ih _ te _ _ hte h1
        rw [flat_pieces, List.take_of_length_le (by rw [hlen, hty.cellsOf, hT']; exact Nat.le_refl _)] at x2
        exact ⟨xs, ⟨x1, x2⟩, x3⟩
      | unit =>
        rw [hT'] at hdesc
        obtain ⟨fs, rfl, hm, _⟩ := hdesc
        exact hst fs hd hm (by rw [hT']; rfl)
      | pair a b =>
        rw [hT'] at hdesc
        obtain ⟨fs, rfl, hm, _⟩ := hdesc
        exact hst fs hd hm (by rw [hT']; rfl)
    exact main i.ty rfl

end
end Go.Vx
