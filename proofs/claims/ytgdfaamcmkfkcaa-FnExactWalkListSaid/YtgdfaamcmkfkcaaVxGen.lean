/-
  The shapes that come again in every exact law: the size of a list, its copy, equality of two. Plain lists, no program.
-/
import Derived.Test.YtgdfaamcmkfkcaaVxLaw
import Derived.Laws.BitsLemmas
set_option linter.unusedSimpArgs false
set_option linter.unusedVariables false
set_option linter.unnecessarySimpa false
namespace Go.Vx

theorem wrap_id {n : Int} (h1 : -9223372036854775808 ≤ n) (h2 : n < 9223372036854775808) : IntKind.i64.wrap n = n := by
  rw [IntKind.wrap_i64]; omega

theorem idx_get {α : Type} {xs : List α} {k : Nat} (h : k < xs.length) : idx xs (k : Int) = some xs[k] := by
  unfold idx
  rw [show decide ((0 : Int) ≤ (k : Int)) = true by simp]
  simp [h]

theorem inb_lt {k n : Nat} (h : k < n) : inb (k : Int) n = true := by
  unfold inb
  simp; omega

theorem iter_run {α β : Type} {f : (α → Option β) → α → Option β} (s : Nat → α) {r : Option β} (m : Nat) (hl : ∀ rec, f rec (s m) = r) :
    ∀ (d k fuel : Nat), m - k = d → k ≤ m → d < fuel → (∀ j, k ≤ j → j < m → ∀ rec, f rec (s j) = rec (s (j + 1))) → iter f fuel (s k) = r
  | 0, k, fuel, hd, hk, hf, _ => by
    obtain ⟨n, rfl⟩ : ∃ n, fuel = n + 1 := ⟨fuel - 1, by omega⟩
    have : k = m := by omega
    subst this
    exact hl _
  | d + 1, k, fuel, hd, hk, hf, h => by
    obtain ⟨n, rfl⟩ : ∃ n, fuel = n + 1 := ⟨fuel - 1, by omega⟩
    show f (iter f n) (s k) = r
    rw [h k (Nat.le_refl _) (by omega)]
    exact iter_run s m hl d (k + 1) n (by omega) (by omega) (by omega) fun j hj hm => h j (by omega) hm

theorem iter_from {α β : Type} {f : (α → Option β) → α → Option β} {x0 : α} {r : Option β} (s : Nat → α) (m : Nat) {fuel : Nat} (hs : s 0 = x0) (hl : ∀ rec, f rec (s m) = r) (hm : m < fuel)
    (h : ∀ j, j < m → ∀ rec, f rec (s j) = rec (s (j + 1))) : iter f fuel x0 = r := by
  rw [← hs]
  exact iter_run s m hl m 0 fuel (by omega) (by omega) hm fun j _ hj => h j hj

noncomputable def toG {α β : Type} (z : β) (g : α → Option β) (x0 : List α) : Option (List β) :=
  cond (decide (0 ≤ (List.length x0 : Int)) && decide ((List.length x0 : Int) ≤ (LIM : Int))) ((@iter ((List α) × (List β) × Int) (((List α) × (List β) × Int) ⊕ ((List β))) (fun rec2 z1 => cond (decide (z1.2.2 < (List.length z1.1 : Int))) ((idx z1.1 z1.2.2).bind fun y3 => (g y3).bind fun r4 => cond (inb z1.2.2 (List.length z1.2.1)) ((idx z1.2.1 z1.2.2).bind fun _ => rec2 (z1.1, (List.set z1.2.1 z1.2.2.toNat r4), (IntKind.i64.wrap (z1.2.2 + 1)))) none) (some (Sum.inl (z1.1, z1.2.1, z1.2.2)))) FUEL (x0, (List.replicate (List.length x0 : Int).toNat z), 0)).bind fun o => match o with | Sum.inl z6 => some z6.2.1 | Sum.inr r => some r) none

theorem toG_spec {α β : Type} {z : β} {g : α → Option β} (c : α → β) (xs : List α) (hl : xs.length ≤ LIM) (hg : ∀ x ∈ xs, g x = some (c x)) : toG z g xs = some (xs.map c) := by
  have hL : LIM = 1073741824 := rfl
  unfold toG
  rw [show (decide (0 ≤ (List.length xs : Int)) && decide ((List.length xs : Int) ≤ (LIM : Int))) = true by simp; exact hl]
  simp only [cond_true]
  rw [iter_from (fun k => (xs, (xs.take k).map c ++ List.replicate (xs.length - k) z, (k : Int))) (r := some (.inl (xs, xs.map c, (xs.length : Int)))) xs.length (by simp) ?_ (by rw [FUEL_eq]; omega) ?_]
  · rfl
  · intro rec
    simp
  · intro j hj rec
    simp only
    rw [show decide ((j : Int) < (xs.length : Int)) = true by simp; exact hj, cond_true, idx_get hj, Option.bind_some, hg _ (List.getElem_mem hj), Option.bind_some]
    have hlen : ((xs.take j).map c ++ List.replicate (xs.length - j) z).length = xs.length := by simp; omega
    rw [inb_lt (by rw [hlen]; exact hj), cond_true, idx_get (by rw [hlen]; exact hj), Option.bind_some, wrap_id (by omega) (by omega)]
    congr 1
    refine Prod.ext rfl (Prod.ext ?_ (by simp))
    simp only [Int.toNat_natCast]
    rw [List.set_append_right _ _ (by simp; omega)]
    have h1 : (List.map c (List.take j xs)).length = j := by simp; omega
    rw [h1, Nat.sub_self, show xs.length - j = (xs.length - (j + 1)) + 1 by omega, List.replicate_succ, List.set_cons_zero]
    rw [List.take_succ_eq_append_getElem hj, List.map_append]
    simp

noncomputable def eqG {α β : Type} (g : α → β → Option Bool) (x0 : List α) (x1 : List β) : Option (Bool) :=
  cond (!((List.length x0 : Int) == (List.length x1 : Int))) (some false) ((@iter ((List α) × (List β) × Int) (((List α) × (List β) × Int) ⊕ (Bool)) (fun rec2 z1 => cond (decide (z1.2.2 < (List.length z1.1 : Int))) ((idx z1.1 z1.2.2).bind fun y3 => (idx z1.2.1 z1.2.2).bind fun y4 => (g y3 y4).bind fun r5 => cond (!r5) (Option.map Sum.inr (some false)) (rec2 (z1.1, z1.2.1, (IntKind.i64.wrap (z1.2.2 + 1))))) (some (Sum.inl (z1.1, z1.2.1, z1.2.2)))) FUEL (x0, x1, 0)).bind fun o => match o with | Sum.inl _ => some true | Sum.inr r => some r)

theorem eqG_refl {α : Type} {g : α → α → Option Bool} (xs : List α) (hl : xs.length ≤ LIM) (hg : ∀ x ∈ xs, g x x = some true) : eqG g xs xs = some true := by
  have hL : LIM = 1073741824 := rfl
  unfold eqG
  rw [show (!((List.length xs : Int) == (List.length xs : Int))) = false by simp]
  simp only [cond_false]
  rw [iter_from (x0 := (xs, xs, (0 : Int))) (fun k => (xs, xs, (k : Int))) (r := some (.inl (xs, xs, (xs.length : Int)))) xs.length rfl ?_ (by rw [FUEL_eq]; omega) ?_]
  · rfl
  · intro rec
    simp
  · intro j hj rec
    simp only
    rw [show decide ((j : Int) < (xs.length : Int)) = true by simp; exact hj, cond_true, idx_get hj, Option.bind_some, Option.bind_some, hg _ (List.getElem_mem hj), Option.bind_some, wrap_id (by omega) (by omega)]
    simp

noncomputable def szG {α : Type} (g : α → Int → Option Int) (x0 : List α) (x1 : Int) : Option (Int) :=
  cond (decide ((IntKind.i64.wrap (x1 - (List.length x0 : Int))) < 0)) (some (-1)) ((@iter ((List α) × Int × Int) (((List α) × Int × Int) ⊕ (Int)) (fun rec2 z1 => cond (decide (z1.2.2 < (List.length z1.1 : Int))) ((idx z1.1 z1.2.2).bind fun y3 => (g y3 z1.2.1).bind fun r4 => cond (decide (r4 < 0)) (some (Sum.inr (-1))) (rec2 (z1.1, r4, (IntKind.i64.wrap (z1.2.2 + 1))))) (some (Sum.inl (z1.1, z1.2.1, z1.2.2)))) FUEL (x0, (IntKind.i64.wrap (x1 - (List.length x0 : Int))), 0)).bind fun o => match o with | Sum.inl z5 => some z5.2.1 | Sum.inr r => some r)

/-- What a size function does: it answers; where the answer is no '-1', what was measured is small. -/
def Sizes {α : Type} (W Q : α → Prop) (g : α → Int → Option Int) : Prop :=
  ∀ x left, W x → 0 ≤ left → left ≤ 1048576 → ∃ r, g x left = some r ∧ (r < 0 ∨ (r ≤ left ∧ Q x))

theorem szG_loop {α : Type} {W Q : α → Prop} {g : α → Int → Option Int} (hg : Sizes W Q g) (xs : List α) (hw : ∀ x ∈ xs, W x) (hlen : xs.length ≤ 1048576) :
    ∀ (d k fuel : Nat) (l : Int), xs.length - k = d → k ≤ xs.length → d < fuel → 0 ≤ l → l ≤ 1048576 →
    ∃ out, iter (β := ((List α) × Int × Int) ⊕ Int) (fun rec2 (z1 : (List α) × Int × Int) => cond (decide (z1.2.2 < (List.length z1.1 : Int))) ((idx z1.1 z1.2.2).bind fun y3 => (g y3 z1.2.1).bind fun r4 => cond (decide (r4 < 0)) (some (Sum.inr (-1))) (rec2 (z1.1, r4, (IntKind.i64.wrap (z1.2.2 + 1))))) (some (Sum.inl (z1.1, z1.2.1, z1.2.2)))) fuel (xs, l, (k : Int)) = some out ∧
      (out = .inr (-1) ∨ ∃ l', out = .inl (xs, l', (xs.length : Int)) ∧ 0 ≤ l' ∧ l' ≤ l ∧ ∀ x ∈ xs.drop k, Q x)
  | 0, k, fuel, l, hd, hk, hf, h0, h1 => by
    obtain ⟨n, rfl⟩ : ∃ n, fuel = n + 1 := ⟨fuel - 1, by omega⟩
    have : k = xs.length := by omega
    subst this
    refine ⟨.inl (xs, l, (xs.length : Int)), by simp [iter], .inr ⟨l, rfl, h0, by omega, fun x hx => by simp at hx⟩⟩
  | d + 1, k, fuel, l, hd, hk, hf, h0, h1 => by
    obtain ⟨n, rfl⟩ : ∃ n, fuel = n + 1 := ⟨fuel - 1, by omega⟩
    have hj : k < xs.length := by omega
    obtain ⟨r, hr, hrq⟩ := hg xs[k] l (hw _ (List.getElem_mem hj)) h0 h1
    show ∃ out, (cond (decide ((k : Int) < (xs.length : Int))) ((idx xs (k : Int)).bind fun y3 => (g y3 l).bind fun r4 => cond (decide (r4 < 0)) (some (Sum.inr (-1))) (iter _ n (xs, r4, (IntKind.i64.wrap ((k : Int) + 1))))) _) = some out ∧ _
    rw [show decide ((k : Int) < (xs.length : Int)) = true by simp; exact hj, cond_true, idx_get hj, Option.bind_some, hr, Option.bind_some]
    rcases hrq with hrq | ⟨hrq, hq⟩
    · rw [show decide (r < 0) = true by simp; exact hrq]
      exact ⟨_, rfl, .inl rfl⟩
    · by_cases hneg : r < 0
      · rw [show decide (r < 0) = true by simp; exact hneg]
        exact ⟨_, rfl, .inl rfl⟩
      · rw [show decide (r < 0) = false by simp; omega, cond_false, wrap_id (by omega) (by omega)]
        obtain ⟨out, o1, o2⟩ := szG_loop hg xs hw hlen d (k + 1) n r (by omega) (by omega) (by omega) (by omega) (by omega)
        refine ⟨out, by rw [← o1]; simp, ?_⟩
        rcases o2 with o2 | ⟨l', o3, o4, o5, o6⟩
        · exact .inl o2
        · refine .inr ⟨l', o3, o4, by omega, fun x hx => ?_⟩
          rw [List.drop_eq_getElem_cons hj] at hx
          rcases List.mem_cons.1 hx with rfl | hx
          · exact hq
          · exact o6 x hx

theorem szG_spec {α : Type} {W Q : α → Prop} {g : α → Int → Option Int} (hg : Sizes W Q g) : Sizes (fun xs : List α => xs.length ≤ maxLen ∧ ∀ x ∈ xs, W x) (fun xs => xs.length ≤ 1048576 ∧ ∀ x ∈ xs, Q x) (szG g) := by
  intro xs left hw h0 h1
  have hm : xs.length ≤ 9223372036854775807 := hw.1
  unfold szG
  rw [wrap_id (by omega) (by omega)]
  by_cases hneg : left - (xs.length : Int) < 0
  · rw [show decide (left - (xs.length : Int) < 0) = true by simp; omega]
    exact ⟨-1, rfl, .inl (by omega)⟩
  · rw [show decide (left - (xs.length : Int) < 0) = false by simp; omega, cond_false]
    obtain ⟨out, o1, o2⟩ := szG_loop hg xs hw.2 (by omega) xs.length 0 FUEL (left - (xs.length : Int)) (by omega) (by omega) (by rw [FUEL_eq]; omega) (by omega) (by omega)
    have o1' := o1
    simp only [Int.natCast_zero, Int.ofNat_eq_natCast] at o1'
    rw [show ((0 : Nat) : Int) = 0 from rfl] at o1
    rw [o1]
    rcases o2 with rfl | ⟨l', rfl, o4, o5, o6⟩
    · exact ⟨-1, rfl, .inl (by omega)⟩
    · exact ⟨l', rfl, .inr ⟨by omega, by omega, by simpa using o6⟩⟩

end Go.Vx
