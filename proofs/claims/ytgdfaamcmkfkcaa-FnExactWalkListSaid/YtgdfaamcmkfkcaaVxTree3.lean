/-
  Trees: tops, counts, walks. What the program's functions and the reference's compute. Plain lists.
-/
import Derived.Test.YtgdfaamcmkfkcaaVxTree2
set_option linter.unusedSimpArgs false
set_option linter.unusedVariables false
set_option linter.unnecessarySimpa false
namespace Go.VxU
open Go Go.Vx Go.Proofs Go.Gr

/-! ### tops -/

def topI (os : List Obj) : Nat → Int → Bool
  | 0, i => i == 0
  | m + 1, i => if 0 < i then topI os m (homeI os i) else i == 0

theorem topI_stop (os : List Obj) {i : Int} (h : ¬ 0 < i) : ∀ m, topI os m i = (i == 0)
  | 0 => rfl
  | m + 1 => by rw [topI, if_neg h]

theorem spec_top (os : List Obj) (i : Int) (h : SmL os) : spec_l1Top (os, ()) i = some (topI os 32 i) := by
  have key : ∀ (m n fuel : Nat) (i : Int), n + m = 32 → m < fuel → ∃ j n', iter (β := (Int × (List Obj) × Int) ⊕ Bool) spec_l1Top_L0 fuel (i, os, (n : Int)) = some (Sum.inl (j, os, n')) ∧ (j == 0) = topI os m i := by
    intro m
    induction m with
    | zero =>
      intro n fuel i hn hf
      obtain ⟨f, rfl⟩ : ∃ f, fuel = f + 1 := ⟨fuel - 1, by omega⟩
      refine ⟨i, (n : Int), ?_, rfl⟩
      rw [iter]; unfold spec_l1Top_L0; simp only
      rw [show decide ((n : Int) < 32) = false from decide_eq_false (by omega)]; rfl
    | succ m ih =>
      intro n fuel i hn hf
      obtain ⟨f, rfl⟩ : ∃ f, fuel = f + 1 := ⟨fuel - 1, by omega⟩
      by_cases hi : 0 < i
      · obtain ⟨j, n', h1, h2⟩ := ih (n + 1) f (homeI os i) (by omega) (by omega)
        refine ⟨j, n', ?_, by rw [h2, topI, if_pos hi]⟩
        rw [iter]; unfold spec_l1Top_L0; simp only
        rw [show decide ((n : Int) < 32) = true from decide_eq_true (by omega), show decide (i > 0) = true from decide_eq_true hi]
        simp only [cond_true]
        rw [spec_home os i h, Option.bind_some, wrap_succ (by omega)]
        exact h1
      · refine ⟨i, (n : Int), ?_, by rw [topI_stop os hi]⟩
        rw [iter]; unfold spec_l1Top_L0; simp only
        rw [show decide ((n : Int) < 32) = true from decide_eq_true (by omega), show decide (i > 0) = false from decide_eq_false hi]; rfl
  obtain ⟨j, n', h1, h2⟩ := key 32 0 FUEL i rfl (by rw [FUEL_eq]; omega)
  unfold spec_l1Top
  rw [show ((0 : Nat) : Int) = 0 from rfl] at h1
  rw [h1]
  simp only [Option.bind_some]
  rw [h2]

/-- So many steps up. -/
def ups (os : List Obj) : Nat → Int → Nat
  | 0, _ => 0
  | m + 1, i => if 0 < i then ups os m (homeI os i) + 1 else 0

theorem ups_le (os : List Obj) : ∀ m i, ups os m i ≤ m
  | 0, _ => Nat.le_refl _
  | m + 1, i => by
    rw [ups]; split
    · have := ups_le os m (homeI os i); omega
    · omega

theorem spec_depth_loop (os : List Obj) (h : SmL os) : ∀ (m n fuel : Nat) (i : Int), topI os m i = true → m < fuel → n + m < 1000 → ∃ j, iter (β := (Int × (List Obj) × Int) ⊕ Int) spec_WalkDepth_L0 fuel (i, os, (n : Int)) = some (Sum.inl (j, os, ((n + ups os m i : Nat) : Int)))
  | 0, n, fuel, i, ht, hf, hn => by
    obtain ⟨f, rfl⟩ : ∃ f, fuel = f + 1 := ⟨fuel - 1, by omega⟩
    rw [topI, beq_iff_eq] at ht
    subst ht
    refine ⟨0, ?_⟩
    rw [iter]; unfold spec_WalkDepth_L0; simp only
    rfl
  | m + 1, n, fuel, i, ht, hf, hn => by
    obtain ⟨f, rfl⟩ : ∃ f, fuel = f + 1 := ⟨fuel - 1, by omega⟩
    rw [iter]; unfold spec_WalkDepth_L0; simp only
    rw [topI] at ht
    rw [ups]
    by_cases hi : 0 < i
    · rw [if_pos hi] at ht ⊢
      obtain ⟨j, h1⟩ := spec_depth_loop os h m (n + 1) f (homeI os i) ht (by omega) (by omega)
      refine ⟨j, ?_⟩
      rw [show decide (i > 0) = true from decide_eq_true hi, cond_true, spec_home os i h, Option.bind_some, wrap_succ (by omega)]
      rw [show n + (ups os m (homeI os i) + 1) = n + 1 + ups os m (homeI os i) by omega]
      exact h1
    · rw [if_neg hi]
      exact ⟨i, by rw [show decide (i > 0) = false from decide_eq_false hi]; rfl⟩

theorem home_fst (os : List Obj) (i : Int) : ((homeF os i).getD (-1, ⟨#[]⟩)).1 = homeI os i := by
  unfold homeI
  cases homeF os i <;> rfl

theorem impl_depth_loop (os : List Obj) (h : SmL os) : ∀ (m n fuel : Nat) (i : Int), topI os m i = true → m < fuel → n + m < 1000 → ∃ j, iter (β := ((List Obj) × Int × Int) ⊕ Int) impl_WalkDepth_L0 fuel (os, (n : Int), i) = some (Sum.inl (os, ((n + ups os m i : Nat) : Int), j))
  | 0, n, fuel, i, ht, hf, hn => by
    obtain ⟨f, rfl⟩ : ∃ f, fuel = f + 1 := ⟨fuel - 1, by omega⟩
    rw [topI, beq_iff_eq] at ht
    subst ht
    refine ⟨0, ?_⟩
    rw [iter]; unfold impl_WalkDepth_L0; simp only
    rfl
  | m + 1, n, fuel, i, ht, hf, hn => by
    obtain ⟨f, rfl⟩ : ∃ f, fuel = f + 1 := ⟨fuel - 1, by omega⟩
    rw [iter]; unfold impl_WalkDepth_L0; simp only
    rw [topI] at ht
    rw [ups]
    by_cases hi : 0 < i
    · rw [if_pos hi] at ht ⊢
      obtain ⟨j, h1⟩ := impl_depth_loop os h m (n + 1) f (homeI os i) ht (by omega) (by omega)
      refine ⟨j, ?_⟩
      rw [show decide (i > 0) = true from decide_eq_true hi, cond_true, impl_home_eq os i h, Option.bind_some, home_fst, wrap_succ (by omega)]
      rw [show n + (ups os m (homeI os i) + 1) = n + 1 + ups os m (homeI os i) by omega]
      exact h1
    · rw [if_neg hi]
      exact ⟨i, by rw [show decide (i > 0) = false from decide_eq_false hi]; rfl⟩

/-! ### walks -/

def kidsAt (os : List Obj) (d : Nat) : List Nat := match os[d]? with
  | some o => o.2.2.2.1.map fun e => e.2.1.toNat
  | none => []

def ints (l : List Nat) : List Int := l.map fun (n : Nat) => (n : Int)

/-- All that is named is an object's number. -/
def VO (o : Obj) : Prop := ∀ e ∈ o.2.2.2.1, 1 ≤ e.2.1 ∧ e.2.1 ≤ 31
def VL (os : List Obj) : Prop := os.length = 32 ∧ ∀ o ∈ os, VO o

theorem impl_walk_eq (os : List Obj) (hv : VL os) (hs : SmL os) : ∀ (n d' id : Nat) (out : List Int) (deep : Nat), deep + d' = 33 → d' < n → id < 32 → out.length + (pre (kidsAt os) d' id).length ≤ LIM →
    impl_walk n (os, ()) (id : Int) out (deep : Int) = some (out ++ ints (pre (kidsAt os) d' id))
  | 0, d', id, out, deep, _, h, _, _ => by omega
  | n + 1, d', id, out, deep, hd, hn, hid, hl => by
    have hLIM : LIM = 1073741824 := rfl
    rw [impl_walk]
    have hpre : 1 ≤ (pre (kidsAt os) d' id).length := by cases d' <;> simp [pre]
    rw [show decide (List.length out + List.length ([(id : Int)] : List Int) ≤ LIM) = true from decide_eq_true (by simp; omega), cond_true]
    cases d' with
    | zero =>
      rw [show decide ((deep : Int) > 32) = true from decide_eq_true (by omega), cond_true]
      simp [pre, ints]
    | succ d' =>
      have hlen : id < os.length := by rw [hv.1]; exact hid
      rw [show decide ((deep : Int) > 32) = false from decide_eq_false (by omega), cond_false, idx_get hlen, Option.bind_some]
      have hks : kidsAt os id = os[id].2.2.2.1.map fun e => e.2.1.toNat := by unfold kidsAt; rw [getElem?_pos os id hlen]
      have hvo := hv.2 _ (List.getElem_mem hlen)
      have hko := (hs.2 _ (List.getElem_mem hlen)).2.1
      generalize hkk : os[id].2.2.2.1 = ks at *
      have hsum : ∀ k, k ≤ ks.length → ((ks.take k).flatMap fun e => pre (kidsAt os) d' e.2.1.toNat).length + ((ks.drop k).flatMap fun e => pre (kidsAt os) d' e.2.1.toNat).length + 1 = (pre (kidsAt os) (d' + 1) id).length := by
        intro k _
        rw [← List.length_append, ← List.flatMap_append, List.take_append_drop, pre, hks, List.length_cons, List.flatMap_map]
      have hvk : ∀ e ∈ ks, 1 ≤ e.2.1 ∧ e.2.1 ≤ 31 := by intro e he; exact hvo e (by rw [hkk]; exact he)
      obtain ⟨a, ha, hit⟩ := iter_go (β := ((List Int) × Int × (List Obj) × (List Ent) × Int × Int) ⊕ List Int) (f := impl_walk_L0 (impl_walk n)) (x0 := (out ++ [(id : Int)], (deep : Int), os, ks, (ks.length : Int), (0 : Int))) ks.length
        (fun k (a : List Int) => (a, (deep : Int), os, ks, (ks.length : Int), (k : Int)))
        (fun k a => a = out ++ (id : Int) :: ints ((ks.take k).flatMap fun e => pre (kidsAt os) d' e.2.1.toNat))
        (fun a => Sum.inl (a, (deep : Int), os, ks, (ks.length : Int), (ks.length : Int)))
        (fun k a hk ha => by
          obtain ⟨v1, v2⟩ := hvk _ (List.getElem_mem hk)
          have e1 : ((ks[k].2.1.toNat : Nat) : Int) = ks[k].2.1 := Int.toNat_of_nonneg (by omega)
          have hs1 := hsum (k + 1) (by omega)
          rw [List.take_succ_eq_append_getElem hk, List.flatMap_append, List.length_append] at hs1
          simp only [List.flatMap_cons, List.flatMap_nil, List.append_nil] at hs1
          have hrec := impl_walk_eq os hv hs n d' ks[k].2.1.toNat a (deep + 1) (by omega) (by omega) (by omega) (by
            rw [ha]; simp only [List.length_append, List.length_cons, ints, List.length_map]; omega)
          rw [e1] at hrec
          refine ⟨a ++ ints (pre (kidsAt os) d' ks[k].2.1.toNat), ?_, fun rec => ?_⟩
          · rw [ha, List.take_succ_eq_append_getElem hk, List.flatMap_append]
            simp [ints]
          · unfold impl_walk_L0
            simp only
            rw [lt_true hk, cond_true, idx_get hk, Option.bind_some, wrap_succ (by omega), wrap_succ (by omega), hrec, Option.bind_some])
        (fun a rec ha => by
          unfold impl_walk_L0
          simp only
          rw [lt_false]; rfl) (a0 := out ++ [(id : Int)]) (by simp [ints]) rfl (by omega)
      rw [hit, Option.bind_some]
      simp only
      rw [ha, List.take_length, pre, hks, List.flatMap_map]
      simp [ints]

theorem spec_from_eq (os : List Obj) (hv : VL os) (hs : SmL os) : ∀ (n d' id : Nat), lv (kidsAt os) (d' + 1) id = [] → d' < n → id < 32 → (pre (kidsAt os) d' id).length ≤ LIM →
    spec_l13From n (os, ()) (id : Int) = some (ints (pre (kidsAt os) d' id))
  | 0, d', id, _, h, _, _ => by omega
  | n + 1, d', id, hlv, hn, hid, hl => by
    have hLIM : LIM = 1073741824 := rfl
    have hlen : id < os.length := by rw [hv.1]; exact hid
    rw [spec_l13From]
    have hks : kidsAt os id = os[id].2.2.2.1.map fun e => e.2.1.toNat := by unfold kidsAt; rw [getElem?_pos os id hlen]
    have hvo := hv.2 _ (List.getElem_mem hlen)
    have hko := (hs.2 _ (List.getElem_mem hlen)).2.1
    rw [idx_get hlen, Option.bind_some]
    generalize hkk : os[id].2.2.2.1 = ks at *
    have hvk : ∀ e ∈ ks, 1 ≤ e.2.1 ∧ e.2.1 ≤ 31 := by intro e he; exact hvo e (by rw [hkk]; exact he)
    -- without kids nothing is behind it
    have hd : ∃ f : Nat → List Nat, (∀ e ∈ ks, lv (kidsAt os) d' e.2.1.toNat = [] ∧ f e.2.1.toNat = pre (kidsAt os) (d' - 1) e.2.1.toNat ∧ 1 ≤ d') ∧ pre (kidsAt os) d' id = id :: ks.flatMap fun e => f e.2.1.toNat := by
      refine ⟨pre (kidsAt os) (d' - 1), fun e he => ?_, ?_⟩
      · have hmem : e.2.1.toNat ∈ kidsAt os id := by rw [hks]; exact List.mem_map_of_mem he
        have h1 : lv (kidsAt os) d' e.2.1.toNat = [] := by
          rw [List.eq_nil_iff_forall_not_mem]
          intro i hi
          have : i ∈ lv (kidsAt os) (d' + 1) id := mem_lv_succ.2 ⟨_, hmem, hi⟩
          rw [hlv] at this; cases this
        refine ⟨h1, rfl, ?_⟩
        cases d' with
        | zero => simp [lv] at h1
        | succ d' => omega
      · cases d' with
        | zero =>
          have : ks = [] := by
            cases ks with
            | nil => rfl
            | cons e ks =>
              have : e.2.1.toNat ∈ lv (kidsAt os) 1 id := mem_lv_succ.2 ⟨e.2.1.toNat, by rw [hks]; exact List.mem_cons_self .., List.mem_cons_self ..⟩
              rw [hlv] at this; cases this
          subst this
          rfl
        | succ d' => rw [pre, hks, List.flatMap_map]; rfl
    obtain ⟨f, hf, hpre⟩ := hd
    have hsum : ∀ k, k ≤ ks.length → ((ks.take k).flatMap fun e => f e.2.1.toNat).length + ((ks.drop k).flatMap fun e => f e.2.1.toNat).length + 1 = (pre (kidsAt os) d' id).length := by
      intro k _
      rw [← List.length_append, ← List.flatMap_append, List.take_append_drop, hpre, List.length_cons]
    obtain ⟨a, ha, hit⟩ := iter_go (β := ((List Obj) × (List Int) × (List Ent) × Int) ⊕ List Int) (f := spec_l13From_L0 (spec_l13From n)) (x0 := (os, [(id : Int)], ks, (0 : Int))) ks.length
      (fun k (a : List Int) => (os, a, ks, (k : Int)))
      (fun k a => a = (id : Int) :: ints ((ks.take k).flatMap fun e => f e.2.1.toNat))
      (fun a => Sum.inl (os, a, ks, (ks.length : Int)))
      (fun k a hk ha => by
        obtain ⟨v1, v2⟩ := hvk _ (List.getElem_mem hk)
        obtain ⟨f1, f2, f3⟩ := hf _ (List.getElem_mem hk)
        have e1 : ((ks[k].2.1.toNat : Nat) : Int) = ks[k].2.1 := Int.toNat_of_nonneg (by omega)
        have hs1 := hsum (k + 1) (by omega)
        rw [List.take_succ_eq_append_getElem hk, List.flatMap_append, List.length_append] at hs1
        simp only [List.flatMap_cons, List.flatMap_nil, List.append_nil] at hs1
        have hrec := spec_from_eq os hv hs n (d' - 1) ks[k].2.1.toNat (by rw [show d' - 1 + 1 = d' by omega]; exact f1) (by omega) (by omega) (by rw [← f2]; omega)
        rw [e1, ← f2] at hrec
        refine ⟨a ++ ints (f ks[k].2.1.toNat), ?_, fun rec => ?_⟩
        · rw [ha, List.take_succ_eq_append_getElem hk, List.flatMap_append]
          simp [ints]
        · unfold spec_l13From_L0
          simp only
          rw [lt_true hk, cond_true, idx_get hk, Option.bind_some, wrap_succ (by omega), hrec, Option.bind_some]
          rw [show decide (List.length a + List.length (ints (f ks[k].2.1.toNat)) ≤ LIM) = true from decide_eq_true (by rw [ha]; simp only [List.length_cons, ints, List.length_map]; omega), cond_true])
      (fun a rec ha => by
        unfold spec_l13From_L0
        simp only
        rw [lt_false]; rfl) (a0 := [(id : Int)]) (by simp [ints]) rfl (by omega)
    rw [hit, Option.bind_some]
    simp only
    rw [ha, List.take_length, hpre]
    simp [ints]

end Go.VxU
