/-
  Trees: WalkMany, WalkDepth, MendName: the program's and the reference's are one. Plain lists.
-/
import Derived.Test.YtgdfaamcmkfkcaaVxTree6
set_option linter.unusedSimpArgs false
set_option linter.unusedVariables false
set_option linter.unnecessarySimpa false
namespace Go.VxU
open Go Go.Vx Go.Proofs Go.Gr

theorem okM_good {os : List Obj} (hs : SmL os) (h : okM os = true) : Good3 os ∧ rOk os = true := by
  unfold okM at h
  simp only [Bool.and_eq_true] at h
  obtain ⟨⟨⟨⟨h1, h2⟩, h3⟩, h4⟩, h5⟩ := h
  exact ⟨good3_of (by rw [beq_iff_eq] at h1; omega) hs h2 h3 h4, h5⟩

structure Good4 (os : List Obj) : Prop extends Good3 os where
  up : ∀ i, i < 32 → liveAt os i = true → topI os 32 (i : Int) = true

theorem okM_good4 {os : List Obj} (hs : SmL os) (h : okM os = true) : Good4 os := by
  obtain ⟨h1, h2⟩ := okM_good hs h
  refine ⟨h1, fun i hi hl => ?_⟩
  by_cases h0 : 1 ≤ i
  · exact (rOk_iff os h1.len).1 h2 i h0 hi hl
  · obtain rfl : i = 0 := by omega
    rw [topI_stop os (by omega)]; rfl

theorem Good4.level {os : List Obj} (h : Good4 os) {i : Nat} (hi : i < 32) (hl : liveAt os i = true) : ∃ j, j ≤ 32 ∧ i ∈ lv (kidsAt os) j 0 := by
  refine (topN_iff h.forest (home := fun j => (homeI os (j : Int)).toNat) (live := fun i => liveAt os i = true) (fun i h1 h3 => ?_) 32 i hl).1 ?_
  · obtain ⟨d, hd, hh, hk, hl⟩ := h.toGood3.home h1 h3
    simp only [hh, Int.toNat_natCast]
    exact ⟨hk, hl⟩
  · rw [← h.topN 32 i hl]; exact h.up i hi hl

theorem Good4.acyc {os : List Obj} (h : Good4 os) {i : Nat} (hi : i < 32) (hl : liveAt os i = true) : Acyc (kidsAt os) i := by
  obtain ⟨j, _, hm⟩ := h.level hi hl
  exact (Acyc.zero h.forest).lv h.forest hm

theorem Good4.pre_len {os : List Obj} (h : Good4 os) {i : Nat} (hi : i < 32) (hl : liveAt os i = true) (n : Nat) : (pre (kidsAt os) n i).length ≤ 32 := Gr.pre_len h.forest (h.acyc hi hl) hi n

theorem spec_from (os : List Obj) (h : Good4 os) {i : Nat} (hi : i < 32) (hl : liveAt os i = true) : spec_l13From RF (os, ()) (i : Int) = some (ints (pre (kidsAt os) 31 i)) := by
  have hL : LIM = 1073741824 := rfl
  exact spec_from_eq os h.vl h.sm RF 31 i (lv_nil h.forest (h.acyc hi hl) hi (by omega)) (by rw [RF_eq]; omega) hi (by have := h.pre_len hi hl 31; omega)

theorem impl_walk_all (os : List Obj) (h : Good4 os) {i : Nat} (hi : i < 32) (hl : liveAt os i = true) : impl_walk RF (os, ()) (i : Int) [] 0 = some (ints (pre (kidsAt os) 31 i)) := by
  have hL : LIM = 1073741824 := rfl
  have := impl_walk_eq os h.vl h.sm RF 33 i [] 0 rfl (by rw [RF_eq]; omega) hi (by have := h.pre_len hi hl 33; simp only [List.length_nil]; omega)
  rw [pre_stable' h.forest (h.acyc hi hl) hi (by omega)] at this
  simpa using this

theorem liveAt_get {os : List Obj} {i : Nat} (hi : i < os.length) : liveAt os i = !(os[i].1 == 0) := by
  unfold liveAt liveO; rw [getElem?_pos os i hi]

theorem impl_there_eq (os : List Obj) (h32 : os.length = 32) (id : Int) : impl_there (os, ()) id = some (decide (0 ≤ id) && decide (id ≤ 31) && liveAt os id.toNat) := by
  unfold impl_there
  rw [in_eq, Option.bind_some]
  by_cases h1 : 0 ≤ id
  · by_cases h2 : id ≤ 31
    · rw [show (decide (0 ≤ id) && decide (id ≤ 31)) = true by simp [h1, h2], cond_true]
      have hlt : id.toNat < os.length := by omega
      simp only
      rw [idx_nat h1 hlt, Option.bind_some, liveAt_get hlt]; rfl
    · rw [show (decide (0 ≤ id) && decide (id ≤ 31)) = false by simp [h2]]; rfl
  · rw [show (decide (0 ≤ id) && decide (id ≤ 31)) = false by simp [h1]]; rfl

theorem many_eq (os : List Obj) (hs : SmL os) (id : Int) : ∃ r, spec_WalkMany (os, ()) id = some r ∧ impl_WalkMany (os, ()) id = some r := by
  unfold spec_WalkMany impl_WalkMany
  rw [spec_ok os hs, impl_ok os hs]
  simp only [Option.bind_some]
  cases hok : okM os with
  | false => exact ⟨0, rfl, rfl⟩
  | true =>
    have h := okM_good4 hs hok
    simp only [Bool.not_true, cond_false]
    rw [impl_there_eq os h.len, id_eq]
    simp only [Option.bind_some]
    by_cases h1 : 0 ≤ id
    · by_cases h2 : id < 32
      · rw [show (decide (0 ≤ id) && decide (id < 32)) = true by simp [h1, h2], show (decide (0 ≤ id) && decide (id ≤ 31)) = true by simp [h1]; omega]
        have hlt : id.toNat < os.length := by have := h.len; omega
        obtain ⟨i, rfl⟩ := Int.eq_ofNat_of_zero_le h1
        simp only [Int.toNat_natCast] at hlt ⊢
        rw [show ((i : Nat) : Int) = Int.ofNat i from rfl] at *
        have hi : i < 32 := by have := h.len; omega
        rw [show idx os (Int.ofNat i) = some os[i] from idx_get hlt]
        simp only [Bool.not_true, cond_false, Option.bind_some, Bool.true_and]
        cases hz : (os[i].1 == 0) with
        | true => rw [liveAt_get hlt, hz]; exact ⟨0, rfl, rfl⟩
        | false =>
          have hl : liveAt os i = true := by rw [liveAt_get hlt, hz]; rfl
          rw [hl, show spec_l13From RF (os, ()) (Int.ofNat i) = _ from spec_from os h hi hl, show impl_walk RF (os, ()) (Int.ofNat i) [] 0 = _ from impl_walk_all os h hi hl]
          exact ⟨_, rfl, rfl⟩
      · rw [show (decide (0 ≤ id) && decide (id < 32)) = false by simp [h2], show (decide (0 ≤ id) && decide (id ≤ 31)) = false by simp; omega]
        exact ⟨0, rfl, rfl⟩
    · rw [show (decide (0 ≤ id) && decide (id < 32)) = false by simp [h1], show (decide (0 ≤ id) && decide (id ≤ 31)) = false by simp [h1]]
      exact ⟨0, rfl, rfl⟩

theorem depth_eq (os : List Obj) (hs : SmL os) (id : Int) : ∃ r, spec_WalkDepth (os, ()) id = some r ∧ impl_WalkDepth (os, ()) id = some r := by
  unfold spec_WalkDepth impl_WalkDepth
  rw [spec_ok os hs, impl_ok os hs]
  simp only [Option.bind_some]
  cases hok : okM os with
  | false => exact ⟨-1, rfl, rfl⟩
  | true =>
    have h := okM_good4 hs hok
    simp only [Bool.not_true, cond_false]
    rw [impl_there_eq os h.len, id_eq]
    simp only [Option.bind_some]
    by_cases h1 : 0 ≤ id
    · by_cases h2 : id < 32
      · rw [show (decide (0 ≤ id) && decide (id < 32)) = true by simp [h1, h2], show (decide (0 ≤ id) && decide (id ≤ 31)) = true by simp [h1]; omega]
        have hlt : id.toNat < os.length := by have := h.len; omega
        obtain ⟨i, rfl⟩ := Int.eq_ofNat_of_zero_le h1
        simp only [Int.toNat_natCast] at hlt ⊢
        rw [show ((i : Nat) : Int) = Int.ofNat i from rfl] at *
        have hi : i < 32 := by have := h.len; omega
        rw [show idx os (Int.ofNat i) = some os[i] from idx_get hlt]
        simp only [Bool.not_true, cond_false, Option.bind_some, Bool.true_and]
        cases hz : (os[i].1 == 0) with
        | true => rw [liveAt_get hlt, hz]; exact ⟨-1, rfl, rfl⟩
        | false =>
          have hl : liveAt os i = true := by rw [liveAt_get hlt, hz]; rfl
          obtain ⟨a, ha⟩ := spec_depth_loop os hs 32 0 FUEL (i : Int) (h.up i hi hl) (by rw [FUEL_eq]; omega) (by omega)
          obtain ⟨b, hb⟩ := impl_depth_loop os hs 32 0 FUEL (i : Int) (h.up i hi hl) (by rw [FUEL_eq]; omega) (by omega)
          rw [hl]
          rw [show iter spec_WalkDepth_L0 FUEL (Int.ofNat i, os, 0) = _ from ha, show iter impl_WalkDepth_L0 FUEL (os, 0, Int.ofNat i) = _ from hb]
          exact ⟨_, rfl, rfl⟩
      · rw [show (decide (0 ≤ id) && decide (id < 32)) = false by simp [h2], show (decide (0 ≤ id) && decide (id ≤ 31)) = false by simp; omega]
        exact ⟨-1, rfl, rfl⟩
    · rw [show (decide (0 ≤ id) && decide (id < 32)) = false by simp [h1], show (decide (0 ≤ id) && decide (id ≤ 31)) = false by simp [h1]]
      exact ⟨-1, rfl, rfl⟩

/-! ### names -/

def findM (ks : List Ent) (nm : ByteArray) : Int := (findI (fun _ (e : Ent) => if (ByteArray.toList e.1 == ByteArray.toList nm) = true then some e.2.1 else none) 0 ks).getD (-1)

theorem find_map {β γ : Type} (f : β → γ) (q : Nat → Ent → Option β) : ∀ (ks : List Ent) (j : Nat), findI (fun k e => (q k e).map f) j ks = (findI q j ks).map f
  | [], _ => rfl
  | e :: ks, j => by
    rw [findI, findI]
    cases q j e with
    | none => exact find_map f q ks (j + 1)
    | some b => rfl

theorem spec_find (ks : List Ent) (nm : ByteArray) (hl : ks.length ≤ 1048576) : spec_l1Find ks nm = some (findM ks nm) := by
  unfold spec_l1Find
  rw [iter_find (x0 := (ks, nm, (0 : Int))) ks (fun k => (ks, nm, (k : Int))) (fun k e => (if (ByteArray.toList e.1 == ByteArray.toList nm) = true then some e.2.1 else none).map Sum.inr) (Sum.inl (ks, nm, (ks.length : Int))) ?_ ?_ rfl (by omega), find_map]
  · unfold findM
    cases findI (fun _ (e : Ent) => if (ByteArray.toList e.1 == ByteArray.toList nm) = true then some e.2.1 else none) 0 ks <;> rfl
  · intro k hk rec
    unfold spec_l1Find_L0
    simp only
    rw [lt_true hk, cond_true, idx_get hk, wrap_succ (by omega)]
    simp only [Option.bind_some]
    cases hq : (ByteArray.toList ks[k].1 == ByteArray.toList nm) <;> simp
  · intro rec
    unfold spec_l1Find_L0
    simp only
    rw [lt_false]; rfl

theorem impl_find_eq (os : List Obj) (d : Int) (nm : ByteArray) (o : Obj) (ho : idx os d = some o) (hl : o.2.2.2.1.length ≤ 1048576) : impl_find (os, ()) d nm = some (findM o.2.2.2.1 nm) := by
  unfold impl_find
  simp only
  rw [ho, Option.bind_some]
  generalize o.2.2.2.1 = ks at *
  rw [iter_find (x0 := (nm, ks, (ks.length : Int), (0 : Int))) ks (fun k => (nm, ks, (ks.length : Int), (k : Int))) (fun k e => (if (ByteArray.toList e.1 == ByteArray.toList nm) = true then some e.2.1 else none).map Sum.inr) (Sum.inl (nm, ks, (ks.length : Int), (ks.length : Int))) ?_ ?_ rfl (by omega), find_map]
  · unfold findM
    cases findI (fun _ (e : Ent) => if (ByteArray.toList e.1 == ByteArray.toList nm) = true then some e.2.1 else none) 0 ks <;> rfl
  · intro k hk rec
    unfold impl_find_L0
    simp only
    rw [lt_true hk, cond_true, idx_get hk, wrap_succ (by omega)]
    simp only [Option.bind_some]
    cases hq : (ByteArray.toList ks[k].1 == ByteArray.toList nm) <;> simp
  · intro rec
    unfold impl_find_L0
    simp only
    rw [lt_false]; rfl

def ABC : ByteArray := ⟨#[97, 98, 99, 100, 101, 102, 103, 104, 105, 106, 107, 108, 109, 110, 111, 112, 113, 114, 115, 116, 117, 118, 119, 120, 121, 122]⟩
def chr (k : Nat) : ByteArray := ⟨#[UInt8.ofNat (97 + k)]⟩

theorem abc_at : ∀ k : Fin 26, subS ABC (k.val : Int) (IntKind.i64.wrap ((k.val : Int) + 1)) = some (chr k.val) := by decide +kernel
theorem u8_at : ∀ k : Fin 26, IntKind.u8.wrap (((97 + k.val : Nat) : Int) + 1) = ((97 + (k.val + 1) : Nat) : Int) := by decide +kernel

/-- The first name that is free. -/
def freeL (ks : List Ent) (base name : ByteArray) : ByteArray :=
  (findI (fun k (_ : Nat) => if findM ks (base ++ chr k) < 0 then some (base ++ chr k) else none) 0 (List.range 26)).getD name

theorem findI_map2 {β γ δ : Type} (f : β → γ) (q : Nat → δ → Option β) : ∀ (ks : List δ) (j : Nat), findI (fun k e => (q k e).map f) j ks = (findI q j ks).map f
  | [], _ => rfl
  | e :: ks, j => by
    rw [findI, findI]
    cases q j e with
    | none => exact findI_map2 f q ks (j + 1)
    | some b => rfl

theorem size_chr (k : Nat) : (chr k).size = 1 := rfl

theorem spec_free_loop (os : List Obj) (d : Int) (o : Obj) (ho : idx os d = some o) (hl : o.2.2.2.1.length ≤ 1048576) (base name : ByteArray) (hb : base.size ≤ 4) :
    ((iter (β := (Int × ByteArray × (List Obj) × ByteArray × ByteArray × Int) ⊕ ByteArray) spec_l14Free_L0 FUEL (d, name, os, base, ABC, 0)).bind fun o => match o with | Sum.inl z4 => some z4.2.1 | Sum.inr r => some r) = some (freeL o.2.2.2.1 base name) := by
  rw [iter_find (β := (Int × ByteArray × (List Obj) × ByteArray × ByteArray × Int) ⊕ ByteArray) (x0 := (d, name, os, base, ABC, (0 : Int))) (List.range 26) (fun k => (d, name, os, base, ABC, (k : Int)))
    (fun k (_ : Nat) => (if findM o.2.2.2.1 (base ++ chr k) < 0 then some (base ++ chr k) else none).map Sum.inr) (Sum.inl (d, name, os, base, ABC, (26 : Int))) ?_ ?_ rfl (by simp), findI_map2]
  · unfold freeL
    cases findI (fun k (_ : Nat) => if findM o.2.2.2.1 (base ++ chr k) < 0 then some (base ++ chr k) else none) 0 (List.range 26) <;> rfl
  · intro k hk rec
    rw [List.length_range] at hk
    unfold spec_l14Free_L0
    simp only
    rw [show decide ((k : Int) < (ByteArray.size ABC : Int)) = true from decide_eq_true (by show (k : Int) < 26; omega), cond_true, ho, Option.bind_some, abc_at ⟨k, hk⟩]
    simp only [Option.bind_some]
    rw [show decide (base.size + (chr k).size ≤ 4611686018427387904) = true from decide_eq_true (by rw [size_chr]; omega), cond_true, spec_find _ _ hl, Option.bind_some]
    by_cases hq : findM o.2.2.2.1 (base ++ chr k) < 0
    · rw [decide_eq_true hq, if_pos hq]; rfl
    · rw [decide_eq_false hq, if_neg hq, wrap_succ (by omega)]; rfl
  · intro rec
    rw [List.length_range]
    unfold spec_l14Free_L0
    simp only
    rfl

theorem impl_free_loop (os : List Obj) (d : Int) (o : Obj) (ho : idx os d = some o) (hl : o.2.2.2.1.length ≤ 1048576) (base name : ByteArray) (hb : base.size ≤ 4) :
    ((iter (β := (Int × ByteArray × (List Obj) × ByteArray × Int) ⊕ ByteArray) impl_freeName_L0 FUEL (d, name, os, base, 97)).bind fun o => match o with | Sum.inl z4 => some z4.2.1 | Sum.inr r => some r) = some (freeL o.2.2.2.1 base name) := by
  rw [iter_find (β := (Int × ByteArray × (List Obj) × ByteArray × Int) ⊕ ByteArray) (x0 := (d, name, os, base, (97 : Int))) (List.range 26) (fun k => (d, name, os, base, ((97 + k : Nat) : Int)))
    (fun k (_ : Nat) => (if findM o.2.2.2.1 (base ++ chr k) < 0 then some (base ++ chr k) else none).map Sum.inr) (Sum.inl (d, name, os, base, (123 : Int))) ?_ ?_ rfl (by simp), findI_map2]
  · unfold freeL
    cases findI (fun k (_ : Nat) => if findM o.2.2.2.1 (base ++ chr k) < 0 then some (base ++ chr k) else none) 0 (List.range 26) <;> rfl
  · intro k hk rec
    rw [List.length_range] at hk
    unfold impl_freeName_L0
    simp only
    rw [show decide (((97 + k : Nat) : Int) ≤ 122) = true from decide_eq_true (by omega), cond_true, show bytesOf [((97 + k : Nat) : Int)] = chr k from rfl, u8_at ⟨k, hk⟩]
    rw [show decide (base.size + (chr k).size ≤ 4611686018427387904) = true from decide_eq_true (by rw [size_chr]; omega), cond_true, impl_find_eq os d _ o ho hl, Option.bind_some]
    by_cases hq : findM o.2.2.2.1 (base ++ chr k) < 0
    · rw [decide_eq_true hq, if_pos hq]; rfl
    · rw [decide_eq_false hq, if_neg hq]; rfl
  · intro rec
    rw [List.length_range]
    unfold impl_freeName_L0
    simp only
    rfl

theorem subS_size {s t : ByteArray} {lo hi : Int} (h : subS s lo hi = some t) : t.size ≤ s.size := by
  unfold subS at h
  obtain ⟨hc, h⟩ := cond_some h
  obtain rfl := Option.some.inj h
  rw [ByteArray.size_extract]
  omega

def freeM (ks : List Ent) (name : ByteArray) : ByteArray :=
  if findM ks name < 0 then name else freeL ks (if name.size = 4 then name.extract 0 3 else name) name

theorem subS_cut {s : ByteArray} (h : s.size = 4) : subS s 0 3 = some (s.extract 0 3) := by
  unfold subS
  rw [show (decide ((0 : Int) ≤ 0) && decide ((0 : Int) ≤ 3) && decide ((3 : Int) ≤ (s.size : Int))) = true by simp [h], cond_true]; rfl

theorem spec_free (os : List Obj) (d : Int) (o : Obj) (ho : idx os d = some o) (hl : o.2.2.2.1.length ≤ 1048576) (name : ByteArray) (hn : name.size ≤ 4) : spec_l14Free (os, ()) d name = some (freeM o.2.2.2.1 name) := by
  unfold spec_l14Free freeM
  simp only
  rw [ho, Option.bind_some, spec_find _ _ hl, Option.bind_some]
  by_cases hq : findM o.2.2.2.1 name < 0
  · rw [decide_eq_true hq, if_pos hq]; rfl
  · rw [decide_eq_false hq, if_neg hq, cond_false]
    by_cases h4 : name.size = 4
    · rw [show ((name.size : Int) == 4) = true from beq_iff_eq.2 (by omega), cond_true, if_pos h4, subS_cut h4, Option.bind_some]
      exact spec_free_loop os d o ho hl _ name (by rw [ByteArray.size_extract]; omega)
    · rw [show ((name.size : Int) == 4) = false from beq_eq_false_iff_ne.2 (by omega), cond_false, if_neg h4]
      exact spec_free_loop os d o ho hl _ name hn

theorem impl_free (os : List Obj) (d : Int) (o : Obj) (ho : idx os d = some o) (hl : o.2.2.2.1.length ≤ 1048576) (name : ByteArray) (hn : name.size ≤ 4) : impl_freeName (os, ()) d name = some (freeM o.2.2.2.1 name) := by
  unfold impl_freeName freeM
  rw [impl_find_eq os d _ o ho hl, Option.bind_some]
  by_cases hq : findM o.2.2.2.1 name < 0
  · rw [decide_eq_true hq, if_pos hq]; rfl
  · rw [decide_eq_false hq, if_neg hq, cond_false]
    by_cases h4 : name.size = 4
    · rw [show ((name.size : Int) == 4) = true from beq_iff_eq.2 (by omega), cond_true, if_pos h4, subS_cut h4, Option.bind_some]
      exact impl_free_loop os d o ho hl _ name (by rw [ByteArray.size_extract]; omega)
    · rw [show ((name.size : Int) == 4) = false from beq_eq_false_iff_ne.2 (by omega), cond_false, if_neg h4]
      exact impl_free_loop os d o ho hl _ name hn

theorem tword_size {s : ByteArray} (h : tword s = true) : 1 ≤ s.size ∧ s.size ≤ 4 := by
  unfold tword at h
  simp only [Bool.and_eq_true, decide_eq_true_eq] at h
  exact h.2

theorem mend_eq (os : List Obj) (hs : SmL os) (d : Int) (name : ByteArray) (hn : name.size ≤ 1048576) : ∃ r, spec_MendName (os, ()) d name = some r ∧ impl_MendName (os, ()) d name = some r := by
  unfold spec_MendName impl_MendName
  rw [spec_ok os hs, impl_ok os hs, id_eq, in_eq, spec_word name (by unfold BIG; omega), impl_word name (by unfold BIG; omega)]
  simp only [Option.bind_some]
  cases hok : okM os with
  | false => exact ⟨_, rfl, rfl⟩
  | true =>
    have h := okM_good4 hs hok
    simp only [Bool.not_true, cond_false]
    by_cases hd : 0 ≤ d ∧ d < 32
    · rw [show (decide (0 ≤ d) && decide (d < 32)) = true by simp [hd], show (decide (0 ≤ d) && decide (d ≤ 31)) = true by simp; omega]
      simp only [Bool.not_true, cond_false]
      cases hw : tword name with
      | false => exact ⟨_, rfl, rfl⟩
      | true =>
        simp only [Bool.not_true, cond_false]
        have hlt : d.toNat < os.length := by have := h.len; omega
        have ho : idx os d = some os[d.toNat] := idx_nat hd.1 hlt
        have hl := (hs.2 _ (List.getElem_mem hlt)).2.1
        have hz := (tword_size hw).2
        rw [spec_free os d _ ho hl name hz, impl_free os d _ ho hl name hz]
        exact ⟨_, rfl, rfl⟩
    · rw [show (decide (0 ≤ d) && decide (d < 32)) = false by simp; omega, show (decide (0 ≤ d) && decide (d ≤ 31)) = false by simp; omega]
      exact ⟨_, rfl, rfl⟩

end Go.VxU
