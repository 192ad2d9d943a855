/-
  Trees: the program's TreeOk is the reference's. Plain lists.
-/
import Derived.Test.YtgdfaamcmkfkcaaVxTree5
set_option linter.unusedSimpArgs false
set_option linter.unusedVariables false
set_option linter.unnecessarySimpa false
namespace Go.VxU
open Go Go.Vx Go.Proofs Go.Gr

theorem drop1_get {os : List Obj} {k : Nat} (hk : k < (os.drop 1).length) (hk1 : k + 1 < os.length) : (os.drop 1)[k] = os[k + 1] := by
  rw [List.getElem_drop]; congr 1; omega

theorem cOk_iff (os : List Obj) (h32 : os.length = 32) (hs : SmL os) (hv : ∀ o ∈ os, VO o) : cOk os = true ↔ ∀ i, i < 32 → (named os).count i = if i = 0 then 0 else if liveAt os i = true then 1 else 0 := by
  unfold cOk
  rw [allI_true]
  have hcount : ∀ i, i < 32 → (homes os)[i]?.getD 0 = ((named os).count i : Int) := fun i hi => by rw [homes_get os hv hs h32 i hi]; rfl
  constructor
  · intro h i hi
    by_cases h0 : i = 0
    · subst h0
      rw [if_pos rfl]
      exact List.count_eq_zero_of_not_mem fun hm => by have := named_pos hv hm; omega
    · rw [if_neg h0]
      have hk : i - 1 < (os.drop 1).length := by rw [List.length_drop]; omega
      have h1 := h (i - 1) hk
      rw [drop1_get hk (by omega)] at h1
      simp only [Nat.zero_add, show i - 1 + 1 = i by omega] at h1
      rw [hcount i hi] at h1
      unfold liveAt liveO
      rw [getElem?_pos os i (by omega)]
      simp only
      by_cases hz : os[i].1 = 0
      · rw [show (os[i].1 == 0) = true from beq_iff_eq.2 hz, cond_true, beq_iff_eq] at h1
        rw [if_neg (by simp [hz])]; omega
      · rw [show (os[i].1 == 0) = false from beq_eq_false_iff_ne.2 hz, cond_false, beq_iff_eq] at h1
        rw [if_pos (by simp [hz])]; omega
  · intro h j hj
    have hj1 : j + 1 < os.length := by rw [List.length_drop] at hj; omega
    have hc := h (j + 1) (by omega)
    rw [if_neg (by omega)] at hc
    rw [drop1_get hj hj1, Nat.zero_add, hcount (j + 1) (by omega), hc]
    unfold liveAt liveO
    rw [getElem?_pos os (j + 1) hj1]
    simp only
    by_cases hz : os[j + 1].1 = 0
    · rw [if_neg (by simp [hz]), show (os[j + 1].1 == 0) = true from beq_iff_eq.2 hz]; rfl
    · rw [if_pos (by simp [hz]), show (os[j + 1].1 == 0) = false from beq_eq_false_iff_ne.2 hz]; rfl

theorem good3_of {os : List Obj} (h32 : os.length = 32) (hs : SmL os) (h0 : top2 os = true) (ha : os.all objOk = true) (hc : cOk os = true) : Good3 os := by
  have ho : ∀ o ∈ os, objOk o = true := fun o ho => List.all_eq_true.1 ha o ho
  refine ⟨h32, hs, ?_, ho, (cOk_iff os h32 hs fun o h => objOk_ids (ho o h)).1 hc⟩
  unfold top2 at h0
  unfold liveAt liveO
  cases hz : os[0]? with
  | none => rw [hz] at h0; cases h0
  | some o =>
    rw [hz] at h0
    simp only at h0 ⊢
    rw [beq_iff_eq.1 h0]; rfl

theorem rOk_iff (os : List Obj) (h32 : os.length = 32) : rOk os = true ↔ ∀ i, 1 ≤ i → i < 32 → liveAt os i = true → topI os 32 (i : Int) = true := by
  unfold rOk
  rw [allI_true]
  constructor
  · intro h i h1 h2 h3
    have hk : i - 1 < (os.drop 1).length := by rw [List.length_drop]; omega
    have h4 := h (i - 1) hk
    rw [drop1_get hk (by omega)] at h4
    simp only [Nat.zero_add, show i - 1 + 1 = i by omega] at h4
    unfold liveAt liveO at h3
    rw [getElem?_pos os i (by omega)] at h3
    simp only [Bool.not_eq_true'] at h3
    rw [h3] at h4
    exact h4
  · intro h j hj
    have hj1 : j + 1 < os.length := by rw [List.length_drop] at hj; omega
    rw [drop1_get hj hj1, Nat.zero_add]
    cases hz : (os[j + 1].1 == 0) with
    | true => rfl
    | false =>
      refine h (j + 1) (by omega) (by omega) ?_
      unfold liveAt liveO
      rw [getElem?_pos os (j + 1) hj1]
      simp only [hz]; rfl

theorem rf_walk (os : List Obj) (h : Good3 os) : impl_walk RF (os, ()) 0 [] 0 = some (ints (pre (kidsAt os) 33 0)) := by
  have := impl_walk_eq os h.vl h.sm RF 33 0 [] 0 rfl (by rw [RF_eq]; omega) (by omega) (by
    have := pre_len h.forest (Acyc.zero h.forest) (by omega) 33
    have hL : LIM = 1073741824 := rfl
    simp only [List.length_nil]; omega)
  simpa using this

theorem homes_zero (os : List Obj) (h32 : os.length = 32) (hs : SmL os) (hv : ∀ o ∈ os, VO o) : (homes os)[0]?.getD 0 = 0 := by
  rw [homes_get os hv hs h32 0 (by omega), List.count_eq_zero_of_not_mem fun hm => by have := named_pos hv hm; omega]; rfl

theorem allI_drop1 {γ : Type} (p : Nat → γ → Bool) (xs : List γ) : allI p 0 xs = ((match xs[0]? with | some x => p 0 x | none => true) && allI (fun k x => p (k + 1) x) 0 (xs.drop 1)) := by
  cases xs with
  | nil => rfl
  | cons x xs =>
    rw [allI]
    simp only [List.getElem?_cons_zero, List.drop_succ_cons, List.drop_zero]
    congr 1
    rw [Bool.eq_iff_iff, allI_true, allI_true]
    constructor
    · intro h j hj; have := h j hj; rwa [show 0 + 1 + j = 0 + j + 1 by omega] at this
    · intro h j hj; have := h j hj; rwa [show 0 + j + 1 = 0 + 1 + j by omega] at this

theorem impl_ok (os : List Obj) (hs : SmL os) : impl_TreeOk (os, ()) = some (okM os) := by
  unfold impl_TreeOk
  simp only
  cases h32 : ((List.length os : Int) == 32) with
  | false => unfold okM; rw [h32]; rfl
  | true =>
    have h32' : os.length = 32 := by rw [beq_iff_eq] at h32; omega
    have h0 : 0 < os.length := by omega
    rw [show idx os 0 = some os[0] from idx_get h0]
    simp only [Bool.not_true, cond_false, Option.bind_some]
    cases hk : (os[0].1 == 2) with
    | false => unfold okM top2; rw [getElem?_pos os 0 h0]; simp only [hk]; rw [h32]; rfl
    | true =>
      have htop : top2 os = true := by unfold top2; rw [getElem?_pos os 0 h0]; exact hk
      simp only [Bool.not_true, cond_false]
      have inner : ∀ i (hi : i < os.length) (m : List Int), m.length = 32 → VO os[i] → iter (β := ((List Obj) × (List Int) × (List Obj) × Int × Int × (List Ent) × Int × Int) ⊕ (((List Obj) × (List Int) × (List Obj) × Int × Int) ⊕ Bool)) impl_TreeOk_L2 FUEL
          (os, m, os, (os.length : Int), (i : Int), os[i].2.2.2.1, (os[i].2.2.2.1.length : Int), 0) = some (Sum.inl (os, bumpO m os[i], os, (os.length : Int), (i : Int), os[i].2.2.2.1, (os[i].2.2.2.1.length : Int), (os[i].2.2.2.1.length : Int))) := by
        intro i hi m hm hvo
        have hk := (hs.2 _ (List.getElem_mem hi)).2.1
        obtain ⟨a, ⟨ha, _⟩, hit⟩ := iter_go (β := ((List Obj) × (List Int) × (List Obj) × Int × Int × (List Ent) × Int × Int) ⊕ (((List Obj) × (List Int) × (List Obj) × Int × Int) ⊕ Bool)) (f := impl_TreeOk_L2)
          (x0 := (os, m, os, (os.length : Int), (i : Int), os[i].2.2.2.1, (os[i].2.2.2.1.length : Int), (0 : Int))) os[i].2.2.2.1.length
          (fun k (a : List Int) => (os, a, os, (os.length : Int), (i : Int), os[i].2.2.2.1, (os[i].2.2.2.1.length : Int), (k : Int))) (fun k a => a = (os[i].2.2.2.1.take k).foldl bumpE m ∧ a.length = 32)
          (fun a => Sum.inl (os, a, os, (os.length : Int), (i : Int), os[i].2.2.2.1, (os[i].2.2.2.1.length : Int), (os[i].2.2.2.1.length : Int)))
          (fun k a hk2 ha => by
            obtain ⟨ha, hl⟩ := ha
            obtain ⟨v1, v2⟩ := hvo _ (List.getElem_mem hk2)
            refine ⟨bumpE a os[i].2.2.2.1[k], ⟨?_, by rw [bumpE_len]; exact hl⟩, fun rec => ?_⟩
            · rw [List.take_succ_eq_append_getElem hk2, List.foldl_append, ← ha]; rfl
            · unfold impl_TreeOk_L2
              simp only
              rw [lt_true hk2, cond_true, wrap_succ (by omega), idx_get hk2, Option.bind_some, inb32 v1 v2 rfl, cond_true, idx_of (by omega) (by omega), Option.bind_some, cond_true, inb32 v1 v2 hl]
              rfl)
          (fun a rec ha => by
            unfold impl_TreeOk_L2
            simp only
            rw [lt_false]; rfl) (a0 := m) ⟨rfl, hm⟩ rfl (by omega)
        rw [hit, ha, List.take_length]; rfl
      rcases iter_goE (β := ((List Obj) × (List Int) × (List Obj) × Int × Int) ⊕ Bool) (f := impl_TreeOk_L0) (x0 := (os, List.replicate 32 (0 : Int), os, (os.length : Int), (0 : Int))) os.length
        (fun k (a : List Int) => (os, a, os, (os.length : Int), (k : Int))) (fun k a => (a = (os.take k).foldl bumpO (List.replicate 32 0) ∧ a.length = 32) ∧ (os.take k).all objOk = true)
        (fun b => b = Sum.inr false ∧ os.all objOk = false) (fun a => Sum.inl (os, a, os, (os.length : Int), (os.length : Int)))
        (fun k a hk ha => by
          obtain ⟨⟨ha, hl⟩, hok⟩ := ha
          cases hq : objOk os[k] with
          | false =>
            refine .inr ⟨_, ⟨rfl, ?_⟩, fun rec => ?_⟩
            · rw [List.all_eq_false]
              exact ⟨_, List.getElem_mem hk, by rw [hq]; simp⟩
            · unfold impl_TreeOk_L0
              simp only
              rw [lt_true hk, cond_true, idx_get hk, Option.bind_some, impl_obj _ (hs.2 _ (List.getElem_mem hk)), hq]; rfl
          | true =>
            refine .inl ⟨bumpO a os[k], ⟨⟨?_, by unfold bumpO; rw [bumpEs_len]; exact hl⟩, ?_⟩, fun rec => ?_⟩
            · rw [List.take_succ_eq_append_getElem hk, List.foldl_append, ← ha]; rfl
            · rw [List.take_succ_eq_append_getElem hk, List.all_append, hok]; simp [hq]
            · unfold impl_TreeOk_L0
              simp only
              rw [lt_true hk, cond_true, idx_get hk, Option.bind_some, impl_obj _ (hs.2 _ (List.getElem_mem hk)), hq, Option.bind_some]
              simp only [Bool.not_true, cond_false]
              rw [inner k hk a hl (objOk_ids hq), Option.bind_some]
              simp only
              rw [wrap_succ (by omega)])
        (fun a rec ha => by
          unfold impl_TreeOk_L0
          simp only
          rw [lt_false]; rfl) (a0 := List.replicate 32 0) ⟨⟨rfl, by simp⟩, by simp⟩ rfl (by omega) with ⟨a, ⟨⟨ha, hl⟩, hok⟩, hit⟩ | ⟨b, ⟨rfl, hno⟩, hit⟩
      · rw [hit, Option.bind_some]
        simp only
        rw [List.take_length] at ha hok
        have hv : ∀ o ∈ os, VO o := fun o ho => objOk_ids (List.all_eq_true.1 hok o ho)
        have ha : a = homes os := ha
        subst ha
        have l4 : iter (β := ((List Obj) × (List Int) × (List Obj) × Int × Int) ⊕ Bool) impl_TreeOk_L4 FUEL (os, homes os, os, (os.length : Int), 0) = some (cond (cOk os) (Sum.inl (os, homes os, os, (os.length : Int), (os.length : Int))) (Sum.inr false)) := by
          have e : cOk os = allI (fun k (o : Obj) => cond (Nat.beq k 0) ((homes os)[k]?.getD 0 == 0) (cond (o.1 == 0) ((homes os)[k]?.getD 0 == 0) ((homes os)[k]?.getD 0 == 1))) 0 os := by
            rw [allI_drop1, getElem?_pos os 0 h0]
            simp only [homes_zero os h32' hs hv, show Nat.beq 0 0 = true from rfl, cond_true, beq_self_eq_true, Bool.true_and]
            rfl
          rw [e]
          refine iter_all os (fun k => (os, homes os, os, (os.length : Int), (k : Int))) _ _ _ ?_ ?_ rfl (by omega)
          · intro k hk rec
            unfold impl_TreeOk_L4
            simp only
            rw [lt_true hk, cond_true, idx_get hk, Option.bind_some, wrap_succ (by omega), show inb (k : Int) 32 = true by unfold inb; simp; omega, idx_of (by omega) (by omega)]
            simp only [Int.toNat_natCast, Option.bind_some, cond_true]
            cases k with
            | zero =>
              rw [show (((0 : Nat) : Int) == 0) = true from rfl]
              simp only [cond_true]
              cases ((homes os)[0]?.getD 0 == 0) <;> rfl
            | succ k =>
              rw [show (((k + 1 : Nat) : Int) == 0) = false from beq_eq_false_iff_ne.2 (by omega)]
              simp only [cond_false, show Nat.beq (k + 1) 0 = false from rfl]
              cases (os[k + 1].1 == 0) <;> cases ((homes os)[k + 1]?.getD 0 == 0) <;> cases ((homes os)[k + 1]?.getD 0 == 1) <;> rfl
          · intro rec
            unfold impl_TreeOk_L4
            simp only
            rw [lt_false]; rfl
        rw [l4]
        unfold okM
        rw [h32, htop, hok]
        cases hc : cOk os with
        | false => rfl
        | true =>
          have h3 := good3_of h32' hs htop hok hc
          simp only [cond_true, Option.bind_some, Bool.true_and]
          obtain ⟨c, hcn, hit6⟩ := iter_go (β := ((List Obj) × Int × (List Obj) × Int × Int) ⊕ Bool) (f := impl_TreeOk_L6) (x0 := (os, (0 : Int), os, (os.length : Int), (0 : Int))) os.length
            (fun k (a : Nat) => (os, (a : Int), os, (os.length : Int), (k : Int))) (fun k a => a = ((List.range k).filter (liveAt os)).length) (fun a => Sum.inl (os, (a : Int), os, (os.length : Int), (os.length : Int)))
            (fun k a hk ha => by
              have hle : a ≤ k := by rw [ha]; exact Nat.le_trans (List.length_filter_le ..) (by simp)
              have hlv : liveAt os k = !(os[k].1 == 0) := by unfold liveAt liveO; rw [getElem?_pos os k hk]
              cases hz : (os[k].1 == 0) with
              | true =>
                refine ⟨a, by rw [List.range_succ, List.filter_append, List.length_append, ← ha]; simp [hlv, hz], fun rec => ?_⟩
                unfold impl_TreeOk_L6
                simp only
                rw [lt_true hk, cond_true, idx_get hk, Option.bind_some, wrap_succ (k := k) (by omega), hz]; rfl
              | false =>
                refine ⟨a + 1, by rw [List.range_succ, List.filter_append, List.length_append, ← ha]; simp [hlv, hz], fun rec => ?_⟩
                unfold impl_TreeOk_L6
                simp only
                rw [lt_true hk, cond_true, idx_get hk, Option.bind_some, wrap_succ (by omega), wrap_succ (by omega), hz]; rfl)
            (fun a rec ha => by
              unfold impl_TreeOk_L6
              simp only
              rw [lt_false]; rfl) (a0 := 0) rfl rfl (by omega)
          rw [hit6, Option.bind_some]
          simp only
          rw [rf_walk os h3, Option.bind_some, hcn, h32']
          simp only [ints, List.length_map]
          congr 1
          rw [Bool.eq_iff_iff, rOk_iff os h32', ← h3.walk_top, beq_iff_eq]
          omega
      · rw [hit]
        unfold okM
        rw [hno]
        simp

end Go.VxU
