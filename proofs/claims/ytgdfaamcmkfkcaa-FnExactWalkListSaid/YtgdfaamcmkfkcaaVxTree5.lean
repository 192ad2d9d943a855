/-
  Trees: both TreeOk are one. Plain lists.
-/
import Derived.Test.YtgdfaamcmkfkcaaVxTree4
set_option linter.unusedSimpArgs false
set_option linter.unusedVariables false
set_option linter.unnecessarySimpa false
namespace Go.VxU
open Go Go.Vx Go.Proofs Go.Gr

def liveO (o : Obj) : Bool := !(o.1 == 0)
def liveAt (os : List Obj) (i : Nat) : Bool := match os[i]? with
  | some o => liveO o
  | none => false

/-- Each is named once, or not at all. -/
def cOk (os : List Obj) : Bool := allI (fun k o => cond (o.1 == 0) ((homes os)[k + 1]?.getD 0 == 0) ((homes os)[k + 1]?.getD 0 == 1)) 0 (os.drop 1)
/-- From each one comes to the top. -/
def rOk (os : List Obj) : Bool := allI (fun k o => cond (o.1 == 0) true (topI os 32 ((k + 1 : Nat) : Int))) 0 (os.drop 1)
def top2 (os : List Obj) : Bool := match os[0]? with
  | some o => o.1 == 2
  | none => false
def okM (os : List Obj) : Bool := ((List.length os : Int) == 32) && top2 os && os.all objOk && cOk os && rOk os

theorem allI_and {γ : Type} (p q : Nat → γ → Bool) : ∀ (xs : List γ) (k : Nat), allI (fun k x => p k x && q k x) k xs = (allI p k xs && allI q k xs)
  | [], _ => rfl
  | x :: xs, k => by
    rw [allI, allI, allI, allI_and p q xs (k + 1)]
    cases p k x <;> cases q k x <;> cases allI p (k + 1) xs <;> rfl

theorem spec_ok (os : List Obj) (hs : SmL os) : spec_TreeOk (os, ()) = some (okM os) := by
  unfold spec_TreeOk okM top2
  simp only
  cases h32 : ((List.length os : Int) == 32) with
  | false => rfl
  | true =>
    have h32' : os.length = 32 := by rw [beq_iff_eq] at h32; omega
    have h0 : 0 < os.length := by omega
    rw [show (0 : Int) = ((0 : Nat) : Int) from rfl, idx_get h0, getElem?_pos os 0 h0]
    simp only [Bool.not_true, cond_false, Option.bind_some, Bool.true_and]
    cases hk : (os[0].1 == 2) with
    | false => rfl
    | true =>
      simp only [Bool.not_true, cond_false, Bool.true_and]
      have l0 : iter (β := ((List Obj) × Int) ⊕ Bool) spec_TreeOk_L0 FUEL (os, ((0 : Nat) : Int)) = some (cond (allI (fun _ => objOk) 0 os) (Sum.inl (os, (os.length : Int))) (Sum.inr false)) := by
        refine iter_all os (fun k => (os, (k : Int))) (fun _ => objOk) _ _ ?_ ?_ rfl (by omega)
        · intro k hk rec
          unfold spec_TreeOk_L0
          simp only
          rw [lt_true hk, cond_true, idx_get hk, Option.bind_some, spec_obj _ (hs.2 _ (List.getElem_mem hk)), Option.bind_some, wrap_succ (by omega)]
          cases objOk os[k] <;> rfl
        · intro rec
          unfold spec_TreeOk_L0
          simp only
          rw [lt_false]; rfl
      rw [l0, allI_all]
      cases ha : os.all objOk with
      | false => rfl
      | true =>
        have hv : ∀ o ∈ os, VO o := fun o ho => objOk_ids (List.all_eq_true.1 ha o ho)
        simp only [cond_true, Option.bind_some, Bool.true_and]
        rw [spec_homes os hs hv, Option.bind_some]
        have l2 : iter (β := ((List Obj) × (List Int) × Int) ⊕ Bool) spec_TreeOk_L2 FUEL (os, homes os, 1) =
            some (cond (allI (fun k (o : Obj) => (cond (o.1 == 0) ((homes os)[k + 1]?.getD 0 == 0) ((homes os)[k + 1]?.getD 0 == 1)) && (cond (o.1 == 0) true (topI os 32 ((k + 1 : Nat) : Int)))) 0 (os.drop 1)) (Sum.inl (os, homes os, (os.length : Int))) (Sum.inr false)) := by
          have hd : (os.drop 1).length + 1 = os.length := by rw [List.length_drop]; omega
          have hh : (homes os).length = 32 := by unfold homes; rw [bumpOs_len]; simp
          refine iter_all (os.drop 1) (fun k => (os, homes os, ((k + 1 : Nat) : Int))) _ _ _ ?_ ?_ rfl (by omega)
          · intro k hk rec
            have hk1 : k + 1 < os.length := by omega
            have e : (os.drop 1)[k] = os[k + 1] := by rw [List.getElem_drop]; congr 1; omega
            unfold spec_TreeOk_L2
            simp only
            rw [lt_true hk1, cond_true, idx_get hk1, e]
            simp only [Option.bind_some]
            rw [show inb ((k + 1 : Nat) : Int) (homes os).length = true by unfold inb; simp; omega, idx_of (by omega) (by omega), wrap_succ (by omega), spec_top os _ hs]
            simp only [Int.toNat_natCast, Option.bind_some]
            cases (os[k + 1].1 == 0) <;> cases ((homes os)[k + 1]?.getD 0 == 0) <;> cases ((homes os)[k + 1]?.getD 0 == 1) <;> cases topI os 32 ((k + 1 : Nat) : Int) <;> rfl
          · intro rec
            unfold spec_TreeOk_L2
            simp only
            rw [hd, lt_false]; rfl
        rw [l2, allI_and]
        unfold cOk rOk
        generalize allI _ 0 (os.drop 1) = c1
        generalize allI _ 0 (os.drop 1) = c2
        cases c1 <;> cases c2 <;> rfl

/-! ### the forest -/

structure Good3 (os : List Obj) : Prop where
  len : os.length = 32
  sm : SmL os
  top : liveAt os 0 = true
  ok : ∀ o ∈ os, objOk o = true
  cnt : ∀ i, i < 32 → (named os).count i = if i = 0 then 0 else if liveAt os i = true then 1 else 0

theorem named_pos {os : List Obj} (hv : ∀ o ∈ os, VO o) {i : Nat} (h : i ∈ named os) : 1 ≤ i ∧ i < 32 := by
  obtain ⟨o, ho, h⟩ := List.mem_flatMap.1 h
  obtain ⟨e, he, rfl⟩ := List.mem_map.1 h
  have := hv o ho e he
  omega

theorem mem_kidsAt {os : List Obj} {d i : Nat} : i ∈ kidsAt os d ↔ ∃ hd : d < os.length, ∃ e ∈ os[d].2.2.2.1, e.2.1.toNat = i := by
  unfold kidsAt
  constructor
  · intro h
    cases ho : os[d]? with
    | none => rw [ho] at h; cases h
    | some o =>
      rw [ho] at h
      obtain ⟨hd, rfl⟩ := List.getElem?_eq_some_iff.1 ho
      obtain ⟨e, he, h⟩ := List.mem_map.1 h
      exact ⟨hd, e, he, h⟩
  · rintro ⟨hd, e, he, rfl⟩
    rw [getElem?_pos os d hd]
    exact List.mem_map_of_mem he

theorem kidsAt_named {os : List Obj} {d i : Nat} (h : i ∈ kidsAt os d) : i ∈ named os := by
  obtain ⟨hd, e, he, rfl⟩ := mem_kidsAt.1 h
  exact List.mem_flatMap.2 ⟨os[d], List.getElem_mem hd, List.mem_map_of_mem he⟩

theorem Good3.vl {os : List Obj} (h : Good3 os) : VL os := ⟨h.len, fun o ho => objOk_ids (h.ok o ho)⟩

theorem Good3.nodup {os : List Obj} (h : Good3 os) : (named os).Nodup := by
  rw [List.nodup_iff_count]
  intro i
  by_cases hi : i < 32
  · rw [h.cnt i hi]; split
    · omega
    · split <;> omega
  · rw [List.count_eq_zero_of_not_mem]
    · omega
    · intro hm; have := named_pos h.vl.2 hm; omega

theorem Good3.forest {os : List Obj} (h : Good3 os) : Forest (kidsAt os) := by
  have hn := h.nodup
  unfold named List.Nodup at hn
  rw [List.pairwise_flatMap] at hn
  obtain ⟨h1, h2⟩ := hn
  refine ⟨fun d k hk => named_pos h.vl.2 (kidsAt_named hk), fun d => ?_, fun d e k hd he => ?_⟩
  · unfold kidsAt
    cases ho : os[d]? with
    | none => exact List.nodup_nil
    | some o => exact h1 o (List.mem_of_getElem? ho)
  · obtain ⟨hd1, x, hx, rfl⟩ := mem_kidsAt.1 hd
    obtain ⟨he1, y, hy, hyx⟩ := mem_kidsAt.1 he
    rw [List.pairwise_iff_getElem] at h2
    rcases Nat.lt_trichotomy d e with hlt | heq | hlt
    · exact absurd hyx.symm (h2 d e hd1 he1 hlt _ (List.mem_map_of_mem hx) _ (List.mem_map_of_mem hy))
    · exact heq
    · exact absurd hyx (h2 e d he1 hd1 hlt _ (List.mem_map_of_mem hy) _ (List.mem_map_of_mem hx))

theorem Good3.live_kid {os : List Obj} (h : Good3 os) {d k : Nat} (hk : k ∈ kidsAt os d) : liveAt os k = true := by
  have hm := kidsAt_named hk
  have hp := named_pos h.vl.2 hm
  have hc := h.cnt k hp.2
  have := List.count_pos_iff.2 hm
  rw [hc] at this
  rw [if_neg (by omega)] at this
  split at this
  · assumption
  · omega

theorem Good3.live_dir {os : List Obj} (h : Good3 os) {d k : Nat} (hk : k ∈ kidsAt os d) : liveAt os d = true := by
  obtain ⟨hd, e, he, _⟩ := mem_kidsAt.1 hk
  unfold liveAt liveO
  rw [getElem?_pos os d hd]
  simp only
  rw [objOk_dir (h.ok _ (List.getElem_mem hd)) he]; rfl

/-- Who is named is at home where he is named first. -/
theorem homeF_some {os : List Obj} {id : Int} {x : Int × ByteArray} (h : homeF os id = some x) : ∃ d, ∃ hd : d < os.length, x.1 = (d : Int) ∧ ∃ e ∈ os[d].2.2.2.1, e.2.1 = id ∧ x.2 = e.1 := by
  obtain ⟨d, hd, h⟩ := findI_some h
  cases hf : findI (fun _ (e : Ent) => if e.2.1 == id then some e.1 else none) 0 os[d].2.2.2.1 with
  | none => rw [hf] at h; cases h
  | some nm =>
    rw [hf] at h
    obtain rfl := Option.some.inj h
    obtain ⟨j, hj, h2⟩ := findI_some hf
    refine ⟨d, hd, by simp, _, List.getElem_mem hj, ?_⟩
    split at h2
    · rename_i hq
      exact ⟨beq_iff_eq.1 hq, (Option.some.inj h2).symm⟩
    · cases h2

theorem homeF_none {os : List Obj} {id : Int} (h : homeF os id = none) {d : Nat} (hd : d < os.length) {e : Ent} (he : e ∈ os[d].2.2.2.1) : e.2.1 ≠ id := by
  intro heq
  have h1 := findI_none.1 h d hd
  cases hf : findI (fun _ (e : Ent) => if e.2.1 == id then some e.1 else none) 0 os[d].2.2.2.1 with
  | some nm => rw [hf] at h1; cases h1
  | none =>
    obtain ⟨j, hj, rfl⟩ := List.getElem_of_mem he
    have := findI_none.1 hf j hj
    rw [heq] at this
    simp at this

theorem Good3.home {os : List Obj} (h : Good3 os) {i : Nat} (hi : 1 ≤ i) (hl : liveAt os i = true) : ∃ d : Nat, d < 32 ∧ homeI os (i : Int) = (d : Int) ∧ i ∈ kidsAt os d ∧ liveAt os d = true := by
  have hi32 : i < 32 := by
    unfold liveAt at hl
    cases ho : os[i]? with
    | none => rw [ho] at hl; cases hl
    | some o => have := (List.getElem?_eq_some_iff.1 ho).1; rw [h.len] at this; exact this
  have hc := h.cnt i hi32
  rw [if_neg (by omega), if_pos hl] at hc
  have hm : i ∈ named os := List.count_pos_iff.1 (by omega)
  obtain ⟨o, ho, h1⟩ := List.mem_flatMap.1 hm
  obtain ⟨e, he, h2⟩ := List.mem_map.1 h1
  obtain ⟨d0, hd0, rfl⟩ := List.getElem_of_mem ho
  have hv := h.vl.2 _ (List.getElem_mem hd0) e he
  have hid : e.2.1 = (i : Int) := by omega
  cases hf : homeF os (i : Int) with
  | none => exact absurd hid (homeF_none hf hd0 he)
  | some x =>
    obtain ⟨d, hd, h3, e', he', h4, _⟩ := homeF_some hf
    have hk : i ∈ kidsAt os d := mem_kidsAt.2 ⟨hd, e', he', by omega⟩
    refine ⟨d, by rw [← h.len]; exact hd, ?_, hk, h.live_dir hk⟩
    unfold homeI
    rw [hf]; exact h3

theorem Good3.topN {os : List Obj} (h : Good3 os) : ∀ (m i : Nat), liveAt os i = true → topI os m (i : Int) = Gr.topN (fun j => (homeI os (j : Int)).toNat) m i
  | 0, i, hl => by
    simp only [topI, Gr.topN]
    cases i <;> simp; omega
  | m + 1, i, hl => by
    simp only [topI, Gr.topN]
    by_cases h0 : 0 < i
    · obtain ⟨d, hd, hh, hk, hl2⟩ := h.home h0 hl
      rw [if_pos (by omega), if_pos h0, hh, Int.toNat_natCast]
      exact h.topN m d hl2
    · rw [if_neg (by omega), if_neg h0]
      cases i <;> simp; omega

theorem Good3.walk_top {os : List Obj} (h : Good3 os) : (pre (kidsAt os) 33 0).length = ((List.range 32).filter (liveAt os)).length ↔ ∀ i, 1 ≤ i → i < 32 → liveAt os i = true → topI os 32 (i : Int) = true := by
  rw [Gr.walk_top h.forest (home := fun j => (homeI os (j : Int)).toNat) h.top (fun d k hk => h.live_kid hk) (fun i h1 _ h3 => by
    obtain ⟨d, hd, hh, hk, hl⟩ := h.home h1 h3
    simp only [hh, Int.toNat_natCast]
    exact ⟨hk, hd, hl⟩) 33 (by omega)]
  constructor
  · intro k i h1 h2 h3
    rw [h.topN 32 i h3]; exact k i h1 h2 h3
  · intro k i h1 h2 h3
    rw [← h.topN 32 i h3]; exact k i h1 h2 h3

end Go.VxU
