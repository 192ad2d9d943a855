/-
  Trees: how often each is named; what is a tree. The two agree. Plain lists.
-/
import Derived.Test.YtgdfaamcmkfkcaaVxTree3
set_option linter.unusedSimpArgs false
set_option linter.unusedVariables false
set_option linter.unnecessarySimpa false
namespace Go.VxU
open Go Go.Vx Go.Proofs Go.Gr

def bumpE (m : List Int) (e : Ent) : List Int := m.set e.2.1.toNat (IntKind.i64.wrap ((m[e.2.1.toNat]?).getD 0 + 1))
def bumpO (m : List Int) (o : Obj) : List Int := o.2.2.2.1.foldl bumpE m
def homes (os : List Obj) : List Int := os.foldl bumpO (List.replicate 32 0)

theorem bumpE_len (m : List Int) (e : Ent) : (bumpE m e).length = m.length := by simp [bumpE]
theorem bumpEs_len : ∀ (es : List Ent) (m : List Int), (es.foldl bumpE m).length = m.length
  | [], _ => rfl
  | e :: es, m => by rw [List.foldl_cons, bumpEs_len es, bumpE_len]
theorem bumpOs_len : ∀ (os : List Obj) (m : List Int), (os.foldl bumpO m).length = m.length
  | [], _ => rfl
  | o :: os, m => by rw [List.foldl_cons, bumpOs_len os]; exact bumpEs_len _ _

theorem inb32 {i : Int} (h1 : 1 ≤ i) (h2 : i ≤ 31) {n : Nat} (hn : n = 32) : inb i n = true := by
  unfold inb; simp; omega
theorem idx_of {m : List Int} {i : Int} (h1 : 0 ≤ i) (h2 : i.toNat < m.length) : idx m i = some ((m[i.toNat]?).getD 0) := by
  unfold idx
  rw [show decide (0 ≤ i) = true from decide_eq_true h1, cond_true, getElem?_pos m _ h2]; rfl

theorem spec_homes (os : List Obj) (hs : SmL os) (hv : ∀ o ∈ os, VO o) : spec_l1Homes (os, ()) = some (homes os) := by
  have inner : ∀ i (hi : i < os.length) (m : List Int), m.length = 32 → iter (β := ((List Obj) × (List Int) × Int × Int) ⊕ (((List Obj) × (List Int) × Int) ⊕ List Int)) spec_l1Homes_L2 FUEL (os, m, (i : Int), 0) =
      some (Sum.inl (os, bumpO m os[i], (i : Int), (os[i].2.2.2.1.length : Int))) := by
    intro i hi m hm
    have hk := (hs.2 _ (List.getElem_mem hi)).2.1
    have hvo := hv _ (List.getElem_mem hi)
    obtain ⟨a, ⟨ha, _⟩, hit⟩ := iter_go (β := ((List Obj) × (List Int) × Int × Int) ⊕ (((List Obj) × (List Int) × Int) ⊕ List Int)) (f := spec_l1Homes_L2) (x0 := (os, m, (i : Int), (0 : Int))) os[i].2.2.2.1.length
      (fun k (a : List Int) => (os, a, (i : Int), (k : Int))) (fun k a => a = (os[i].2.2.2.1.take k).foldl bumpE m ∧ a.length = 32) (fun a => Sum.inl (os, a, (i : Int), (os[i].2.2.2.1.length : Int)))
      (fun k a hk2 ha => by
        obtain ⟨ha, hl⟩ := ha
        obtain ⟨v1, v2⟩ := hvo _ (List.getElem_mem hk2)
        refine ⟨bumpE a os[i].2.2.2.1[k], ⟨?_, by rw [bumpE_len]; exact hl⟩, fun rec => ?_⟩
        · rw [List.take_succ_eq_append_getElem hk2, List.foldl_append, ← ha]; rfl
        · unfold spec_l1Homes_L2
          simp only
          rw [idx_get hi, Option.bind_some, lt_true hk2, cond_true, wrap_succ (by omega)]
          simp only [Option.bind_some, idx_get hk2]
          rw [inb32 v1 v2 hl, cond_true, idx_of (by omega) (by omega), Option.bind_some, cond_true, Option.bind_some]
          rfl)
      (fun a rec ha => by
        unfold spec_l1Homes_L2
        simp only
        rw [idx_get hi, Option.bind_some, lt_false]; rfl) (a0 := m) ⟨rfl, hm⟩ rfl (by omega)
    rw [hit, ha, List.take_length]; rfl
  obtain ⟨a, ⟨ha, _⟩, hit⟩ := iter_go (β := ((List Obj) × (List Int) × Int) ⊕ List Int) (f := spec_l1Homes_L0) (x0 := (os, List.replicate 32 (0 : Int), (0 : Int))) os.length
    (fun k (a : List Int) => (os, a, (k : Int))) (fun k a => a = (os.take k).foldl bumpO (List.replicate 32 0) ∧ a.length = 32) (fun a => Sum.inl (os, a, (os.length : Int)))
    (fun k a hk ha => by
      obtain ⟨ha, hl⟩ := ha
      refine ⟨bumpO a os[k], ⟨?_, by unfold bumpO; rw [bumpEs_len]; exact hl⟩, fun rec => ?_⟩
      · rw [List.take_succ_eq_append_getElem hk, List.foldl_append, ← ha]; rfl
      · have := hs.1
        unfold spec_l1Homes_L0
        simp only
        rw [lt_true hk, cond_true, inner k hk a hl, Option.bind_some]
        simp only
        rw [wrap_succ (by omega)])
    (fun a rec ha => by
      unfold spec_l1Homes_L0
      simp only
      rw [lt_false]; rfl) (a0 := List.replicate 32 0) ⟨rfl, by simp⟩ rfl (by have := hs.1; omega)
  unfold spec_l1Homes
  rw [show (decide (0 ≤ 32) && decide ((32 : Int) ≤ (LIM : Int))) = true by decide, cond_true]
  rw [show List.replicate (Int.toNat 32) (0 : Int) = List.replicate 32 0 from rfl, hit, Option.bind_some]
  simp only
  rw [ha, List.take_length]; rfl

theorem objOk_ids {o : Obj} (h : objOk o = true) : VO o := by
  intro e he
  unfold objOk at h
  simp only [Bool.and_eq_true] at h
  obtain ⟨_, h⟩ := h
  have hnil : ∀ {b : Bool}, (b && ((List.length o.2.2.2.1 : Int) == 0)) = true → False := by
    intro b hb
    simp only [Bool.and_eq_true, beq_iff_eq] at hb
    have := List.length_pos_of_mem he
    omega
  cases h0 : (o.1 == 0) with
  | true => rw [h0] at h; exact (hnil h).elim
  | false =>
    rw [h0] at h
    cases h1 : (o.1 == 1) with
    | true => rw [h1] at h; exact (hnil h).elim
    | false =>
      rw [h1] at h
      cases h2 : (o.1 == 2) with
      | false => rw [h2] at h; cases h
      | true =>
        rw [h2] at h
        simp only [cond_true, cond_false, Bool.and_eq_true] at h
        obtain ⟨j, hj, rfl⟩ := List.getElem_of_mem he
        have := allI_true.1 h.1.2 j hj
        unfold kidOk at this
        simp only [Bool.and_eq_true, decide_eq_true_eq] at this
        exact this.1.2

theorem objOk_dir {o : Obj} (h : objOk o = true) {e : Ent} (he : e ∈ o.2.2.2.1) : o.1 = 2 := by
  unfold objOk at h
  simp only [Bool.and_eq_true] at h
  obtain ⟨_, h⟩ := h
  have hnil : ∀ {b : Bool}, (b && ((List.length o.2.2.2.1 : Int) == 0)) = true → False := by
    intro b hb
    simp only [Bool.and_eq_true, beq_iff_eq] at hb
    have := List.length_pos_of_mem he
    omega
  cases h0 : (o.1 == 0) with
  | true => rw [h0] at h; exact (hnil h).elim
  | false =>
    rw [h0] at h
    cases h1 : (o.1 == 1) with
    | true => rw [h1] at h; exact (hnil h).elim
    | false =>
      rw [h1] at h
      cases h2 : (o.1 == 2) with
      | false => rw [h2] at h; cases h
      | true => exact beq_iff_eq.1 h2

/-! ### counts -/

def named (os : List Obj) : List Nat := os.flatMap fun o => o.2.2.2.1.map fun e => e.2.1.toNat

theorem bumpEs_get : ∀ (es : List Ent) (m : List Int) (B : Nat), m.length = 32 → (∀ e ∈ es, 1 ≤ e.2.1 ∧ e.2.1 ≤ 31) → (∀ i (hi : i < m.length), 0 ≤ m[i] ∧ m[i] ≤ (B : Int)) → es.length + B < 4611686018427387904 →
    ∀ i (hi : i < m.length), (es.foldl bumpE m)[i]? = some (m[i] + ((es.map fun e => e.2.1.toNat).count i : Int))
  | [], m, B, _, _, _, _, i, hi => by simp [hi]
  | e :: es, m, B, hm, hv, hb, hB, i, hi => by
    obtain ⟨v1, v2⟩ := hv e (List.mem_cons_self ..)
    have hlt : e.2.1.toNat < m.length := by omega
    obtain ⟨c1, c2⟩ := hb _ hlt
    rw [List.length_cons] at hB
    have hbm : bumpE m e = m.set e.2.1.toNat (m[e.2.1.toNat] + 1) := by
      unfold bumpE
      rw [getElem?_pos m _ hlt, Option.getD_some, wrap_id (by omega) (by omega)]
    rw [List.foldl_cons, bumpEs_get es (bumpE m e) (B + 1) (by rw [bumpE_len]; exact hm) (fun x hx => hv x (List.mem_cons_of_mem _ hx)) (fun j hj => by
      rw [bumpE_len] at hj
      obtain ⟨d1, d2⟩ := hb j hj
      simp only [hbm, List.getElem_set]
      split <;> omega) (by omega) i (by rw [bumpE_len]; exact hi)]
    simp only [hbm, List.getElem_set, List.map_cons, List.count_cons]
    by_cases h : e.2.1.toNat = i
    · subst h; simp; omega
    · simp [h]

theorem homes_get (os : List Obj) (hv : ∀ o ∈ os, VO o) (hs : SmL os) (h32 : os.length = 32) (i : Nat) (hi : i < 32) : (homes os)[i]? = some ((named os).count i : Int) := by
  have e : homes os = (os.flatMap fun o => o.2.2.2.1).foldl bumpE (List.replicate 32 0) := by
    unfold homes bumpO
    rw [List.foldl_flatMap]
  have hlen : ∀ l : List Obj, (∀ o ∈ l, SmO o) → (l.flatMap fun o => o.2.2.2.1).length ≤ l.length * 1048576 := by
    intro l
    induction l with
    | nil => intro _; simp
    | cons o l ih =>
      intro h
      have h1 := (h o (List.mem_cons_self ..)).2.1
      have h2 := ih fun x hx => h x (List.mem_cons_of_mem _ hx)
      rw [List.flatMap_cons, List.length_append, List.length_cons]
      omega
  have hl := hlen os hs.2
  rw [h32] at hl
  rw [e, bumpEs_get _ _ 0 (by simp) (fun x hx => by
    obtain ⟨o, ho, hx⟩ := List.mem_flatMap.1 hx
    exact hv o ho x hx) (fun j hj => by simp only [List.getElem_replicate]; omega) (by omega) i (by simpa using hi)]
  simp only [List.getElem_replicate, Int.zero_add, named, List.map_flatMap]

end Go.VxU
