/-
  Forests over the numbers below 32: levels, preorder. Plain lists, no program.
-/
set_option linter.unusedSimpArgs false
set_option linter.unusedVariables false
set_option linter.unnecessarySimpa false
namespace Go.Gr

def lv (kids : Nat → List Nat) : Nat → Nat → List Nat
  | 0, d => [d]
  | n + 1, d => (kids d).flatMap (lv kids n)

def pre (kids : Nat → List Nat) : Nat → Nat → List Nat
  | 0, d => [d]
  | n + 1, d => d :: (kids d).flatMap (pre kids n)

structure Forest (kids : Nat → List Nat) : Prop where
  pos : ∀ d k, k ∈ kids d → 1 ≤ k ∧ k < 32
  nodup : ∀ d, (kids d).Nodup
  uniq : ∀ d e k, k ∈ kids d → k ∈ kids e → d = e

def Acyc (kids : Nat → List Nat) (d : Nat) : Prop := ∀ n, d ∉ lv kids (n + 1) d

section
variable {kids : Nat → List Nat}

theorem mem_lv_succ {n d i : Nat} : i ∈ lv kids (n + 1) d ↔ ∃ k ∈ kids d, i ∈ lv kids n k := by
  simp [lv, List.mem_flatMap]

theorem mem_lv_add {a b d i : Nat} : i ∈ lv kids (a + b) d ↔ ∃ e ∈ lv kids a d, i ∈ lv kids b e := by
  induction a generalizing d with
  | zero => simp [lv]
  | succ a ih =>
    rw [show a + 1 + b = (a + b) + 1 by omega, mem_lv_succ]
    constructor
    · rintro ⟨k, hk, h⟩
      obtain ⟨e, he, h2⟩ := ih.1 h
      exact ⟨e, mem_lv_succ.2 ⟨k, hk, he⟩, h2⟩
    · rintro ⟨e, he, h⟩
      obtain ⟨k, hk, he⟩ := mem_lv_succ.1 he
      exact ⟨k, hk, ih.2 ⟨e, he, h⟩⟩

theorem mem_lv_up {n d i : Nat} : i ∈ lv kids (n + 1) d ↔ ∃ e ∈ lv kids n d, i ∈ kids e := by
  rw [mem_lv_add]
  constructor
  · rintro ⟨e, he, h⟩
    exact ⟨e, he, by simpa [lv, List.mem_flatMap] using h⟩
  · rintro ⟨e, he, h⟩
    exact ⟨e, he, by simpa [lv, List.mem_flatMap] using h⟩

theorem mem_pre {n d i : Nat} : i ∈ pre kids n d ↔ ∃ j, j ≤ n ∧ i ∈ lv kids j d := by
  induction n generalizing d with
  | zero =>
    constructor
    · intro h; exact ⟨0, Nat.le_refl _, h⟩
    · rintro ⟨j, hj, h⟩
      obtain rfl : j = 0 := by omega
      exact h
  | succ n ih =>
    simp only [pre, List.mem_cons, List.mem_flatMap]
    constructor
    · rintro (rfl | ⟨k, hk, h⟩)
      · exact ⟨0, by omega, by simp [lv]⟩
      · obtain ⟨j, hj, h⟩ := ih.1 h
        exact ⟨j + 1, by omega, mem_lv_succ.2 ⟨k, hk, h⟩⟩
    · rintro ⟨j, hj, h⟩
      cases j with
      | zero => left; simpa [lv] using h
      | succ j =>
        obtain ⟨k, hk, h⟩ := mem_lv_succ.1 h
        exact .inr ⟨k, hk, ih.2 ⟨j, by omega, h⟩⟩

theorem lv_pos (F : Forest kids) {n d i : Nat} (h : i ∈ lv kids (n + 1) d) : 1 ≤ i ∧ i < 32 := by
  obtain ⟨e, _, h⟩ := mem_lv_up.1 h
  exact F.pos _ _ h

theorem lv_uniq (F : Forest kids) {n d e i : Nat} (h : i ∈ lv kids n d) (k : i ∈ lv kids n e) : d = e := by
  induction n generalizing d e with
  | zero =>
    simp only [lv, List.mem_singleton] at h k
    exact h.symm.trans k
  | succ n ih =>
    obtain ⟨x, hx, h⟩ := mem_lv_succ.1 h
    obtain ⟨y, hy, k⟩ := mem_lv_succ.1 k
    obtain rfl := ih h k
    exact F.uniq _ _ _ hx hy

theorem Acyc.zero (F : Forest kids) : Acyc kids 0 := fun n h => by have := lv_pos F h; omega

theorem Acyc.kid (F : Forest kids) {d k : Nat} (ha : Acyc kids d) (hk : k ∈ kids d) : Acyc kids k := by
  intro n h
  obtain ⟨e, he, h⟩ := mem_lv_up.1 h
  obtain rfl := F.uniq _ _ _ h hk
  exact ha n (mem_lv_succ.2 ⟨k, hk, he⟩)

theorem Acyc.lv (F : Forest kids) {n d i : Nat} (ha : Acyc kids d) (h : i ∈ lv kids n d) : Acyc kids i := by
  induction n generalizing d with
  | zero =>
    simp only [Gr.lv, List.mem_singleton] at h
    exact h ▸ ha
  | succ n ih =>
    obtain ⟨k, hk, h⟩ := mem_lv_succ.1 h
    exact ih (ha.kid F hk) h

theorem level_uniq (F : Forest kids) {d i a b : Nat} (ha : Acyc kids d) (h : i ∈ lv kids a d) (k : i ∈ lv kids b d) : a = b := by
  have go : ∀ a m, i ∈ lv kids a d → i ∈ lv kids (a + m) d → m = 0 := by
    intro a m h1 h2
    rw [Nat.add_comm] at h2
    obtain ⟨e, he, h2⟩ := mem_lv_add.1 h2
    obtain rfl := lv_uniq F h1 h2
    cases m with
    | zero => rfl
    | succ m => exact absurd he (ha m)
  rcases Nat.le_total a b with hab | hab
  · have := go a (b - a) h (by rw [show a + (b - a) = b by omega]; exact k)
    omega
  · have := go b (a - b) k (by rw [show b + (a - b) = a by omega]; exact h)
    omega

theorem pre_nodup (F : Forest kids) {d : Nat} (ha : Acyc kids d) (n : Nat) : (pre kids n d).Nodup := by
  induction n generalizing d with
  | zero => simp [pre]
  | succ n ih =>
    rw [pre, List.nodup_cons]
    refine ⟨fun h => ?_, ?_⟩
    · obtain ⟨k, hk, h⟩ := List.mem_flatMap.1 h
      obtain ⟨j, _, h⟩ := mem_pre.1 h
      exact ha j (mem_lv_succ.2 ⟨k, hk, h⟩)
    · unfold List.Nodup
      rw [List.pairwise_flatMap]
      refine ⟨fun k hk => ih (ha.kid F hk), ?_⟩
      refine List.Pairwise.imp_of_mem ?_ (F.nodup d)
      intro x y hx hy hne i hi j hj e
      subst e
      obtain ⟨a, _, h1⟩ := mem_pre.1 hi
      obtain ⟨b, _, h2⟩ := mem_pre.1 hj
      have := level_uniq F ha (mem_lv_succ.2 ⟨x, hx, h1⟩) (mem_lv_succ.2 ⟨y, hy, h2⟩)
      obtain rfl : a = b := by omega
      exact hne (lv_uniq F h1 h2)

theorem mem_pre_lt (F : Forest kids) {n d i : Nat} (hd : d < 32) (h : i ∈ pre kids n d) : i < 32 := by
  obtain ⟨j, _, h⟩ := mem_pre.1 h
  cases j with
  | zero => simp only [lv, List.mem_singleton] at h; omega
  | succ j => exact (lv_pos F h).2

theorem pre_len (F : Forest kids) {d : Nat} (ha : Acyc kids d) (hd : d < 32) (n : Nat) : (pre kids n d).length ≤ 32 := by
  have := (pre_nodup F ha n).length_le_of_subset (l₂ := List.range 32) fun i hi => List.mem_range.2 (mem_pre_lt F hd hi)
  simpa using this

theorem len_flatMap_ge {α β : Type} {l : List α} {f : α → List β} {k : α} (hk : k ∈ l) : (f k).length ≤ (l.flatMap f).length := by
  induction l with
  | nil => cases hk
  | cons x l ih =>
    rw [List.flatMap_cons, List.length_append]
    rcases List.mem_cons.1 hk with rfl | hk
    · omega
    · have := ih hk; omega

theorem lv_len {n d : Nat} (h : lv kids n d ≠ []) : n + 1 ≤ (pre kids n d).length := by
  induction n generalizing d with
  | zero => simp [pre]
  | succ n ih =>
    obtain ⟨i, hi⟩ := List.exists_mem_of_ne_nil _ h
    obtain ⟨k, hk, hi⟩ := mem_lv_succ.1 hi
    have h1 := ih (d := k) (fun e => by rw [e] at hi; cases hi)
    have h2 := len_flatMap_ge (f := pre kids n) hk
    rw [pre, List.length_cons]
    omega

theorem lv_nil (F : Forest kids) {d : Nat} (ha : Acyc kids d) (hd : d < 32) {n : Nat} (hn : 32 ≤ n) : lv kids n d = [] := by
  by_cases h : lv kids n d = []
  · exact h
  · have h1 := lv_len h
    have h2 := pre_len F ha hd n
    omega

theorem pre_stable {n d : Nat} (h : lv kids (n + 1) d = []) : pre kids (n + 1) d = pre kids n d := by
  induction n generalizing d with
  | zero =>
    have : kids d = [] := by
      cases hk : kids d with
      | nil => rfl
      | cons x l => simp [lv, hk] at h
    simp [pre, this]
  | succ n ih =>
    have hk : ∀ k ∈ kids d, lv kids (n + 1) k = [] := by
      intro k hk
      rw [List.eq_nil_iff_forall_not_mem]
      intro i hi
      have : i ∈ lv kids (n + 2) d := mem_lv_succ.2 ⟨k, hk, hi⟩
      rw [h] at this; cases this
    rw [pre, pre]
    congr 1
    have : ∀ l : List Nat, (∀ k ∈ l, k ∈ kids d) → l.flatMap (pre kids (n + 1)) = l.flatMap (pre kids n) := by
      intro l
      induction l with
      | nil => intro _; rfl
      | cons x l ih2 =>
        intro hl
        rw [List.flatMap_cons, List.flatMap_cons, ih (hk x (hl x (List.mem_cons_self ..))), ih2 fun k hk => hl k (List.mem_cons_of_mem _ hk)]
    exact this _ fun k hk => hk

theorem pre_stable' (F : Forest kids) {d : Nat} (ha : Acyc kids d) (hd : d < 32) {n : Nat} (hn : 31 ≤ n) : pre kids n d = pre kids 31 d := by
  induction n with
  | zero => omega
  | succ n ih =>
    by_cases h : n + 1 = 31
    · rw [h]
    · rw [pre_stable (lv_nil F ha hd (by omega)), ih (by omega)]

/-- From a node at a level, the levels behind it. -/
theorem lv_nil_at (F : Forest kids) {d i a : Nat} (ha : Acyc kids d) (hd : d < 32) (h : i ∈ lv kids a d) {n : Nat} (hn : 32 ≤ a + n) : lv kids n i = [] := by
  rw [List.eq_nil_iff_forall_not_mem]
  intro j hj
  have : j ∈ lv kids (a + n) d := mem_lv_add.2 ⟨i, h, hj⟩
  rw [lv_nil F ha hd hn] at this; cases this

theorem subset_of_len {α : Type} {a b : List α} (hn : a.Nodup) (hs : ∀ x ∈ a, x ∈ b) (hl : b.length ≤ a.length) : ∀ x ∈ b, x ∈ a := by
  intro x hx
  by_cases h : x ∈ a
  · exact h
  · have := List.Nodup.length_le_of_subset (l₁ := x :: a) (l₂ := b) (by rw [List.nodup_cons]; exact ⟨h, hn⟩) fun y hy => by
      rcases List.mem_cons.1 hy with rfl | hy
      · exact hx
      · exact hs y hy
    rw [List.length_cons] at this
    omega

/-- Going up. -/
def topN (home : Nat → Nat) : Nat → Nat → Bool
  | 0, i => i == 0
  | m + 1, i => if 0 < i then topN home m (home i) else i == 0

theorem topN_iff (F : Forest kids) {home : Nat → Nat} {live : Nat → Prop} (hh : ∀ i, 1 ≤ i → live i → i ∈ kids (home i) ∧ live (home i)) (m : Nat) : ∀ i, live i → (topN home m i = true ↔ ∃ j, j ≤ m ∧ i ∈ lv kids j 0) := by
  induction m with
  | zero =>
    intro i hi
    simp only [topN, beq_iff_eq]
    constructor
    · rintro rfl; exact ⟨0, Nat.le_refl _, by simp [lv]⟩
    · rintro ⟨j, hj, h⟩
      obtain rfl : j = 0 := by omega
      simpa [lv] using h
  | succ m ih =>
    intro i hi
    rw [topN]
    by_cases h0 : 0 < i
    · rw [if_pos h0]
      obtain ⟨h1, h2⟩ := hh i h0 hi
      rw [ih _ h2]
      constructor
      · rintro ⟨j, hj, h⟩
        exact ⟨j + 1, by omega, mem_lv_up.2 ⟨_, h, h1⟩⟩
      · rintro ⟨j, hj, h⟩
        cases j with
        | zero => simp only [lv, List.mem_singleton] at h; omega
        | succ j =>
          obtain ⟨e, he, h⟩ := mem_lv_up.1 h
          obtain rfl := F.uniq _ _ _ h h1
          exact ⟨j, by omega, he⟩
    · rw [if_neg h0]
      have : i = 0 := by omega
      subst this
      simp only [beq_self_eq_true, true_iff]
      exact ⟨0, by omega, by simp [lv]⟩

/-- The walk from the top is as long as there are live ones, just if one comes from each to the top. -/
theorem walk_top (F : Forest kids) {home : Nat → Nat} {live : Nat → Bool} (h0 : live 0 = true) (hk : ∀ d k, k ∈ kids d → live k = true) (hh : ∀ i, 1 ≤ i → i < 32 → live i = true → i ∈ kids (home i) ∧ home i < 32 ∧ live (home i) = true)
    (n : Nat) (hn : 32 ≤ n) : (pre kids n 0).length = ((List.range 32).filter live).length ↔ ∀ i, 1 ≤ i → i < 32 → live i = true → topN home 32 i = true := by
  have hlive : ∀ i ∈ pre kids n 0, i ∈ (List.range 32).filter live := by
    intro i hi
    rw [List.mem_filter, List.mem_range]
    refine ⟨mem_pre_lt F (by omega) hi, ?_⟩
    obtain ⟨j, _, h⟩ := mem_pre.1 hi
    cases j with
    | zero => simp only [lv, List.mem_singleton] at h; rw [h]; exact h0
    | succ j =>
      obtain ⟨e, _, h⟩ := mem_lv_up.1 h
      exact hk _ _ h
  have hnd := pre_nodup F (Acyc.zero F) n
  have hT := topN_iff F (home := home) (live := fun i => i < 32 ∧ live i = true) (fun i h1 h2 => by obtain ⟨a, b, c⟩ := hh i h1 h2.1 h2.2; exact ⟨a, b, c⟩) 32
  constructor
  · intro hl i h1 h2 h3
    have := subset_of_len hnd hlive (by omega) i (by rw [List.mem_filter, List.mem_range]; exact ⟨h2, h3⟩)
    obtain ⟨j, _, h⟩ := mem_pre.1 this
    refine (hT i ⟨h2, h3⟩).2 ⟨j, ?_, h⟩
    by_cases hj : 32 ≤ j
    · rw [lv_nil F (Acyc.zero F) (by omega) hj] at h; cases h
    · omega
  · intro h
    apply Nat.le_antisymm
    · exact hnd.length_le_of_subset fun i hi => hlive i hi
    · refine List.Nodup.length_le_of_subset (List.nodup_range.sublist List.filter_sublist) fun i hi => ?_
      rw [List.mem_filter, List.mem_range] at hi
      rw [mem_pre]
      by_cases h1 : 1 ≤ i
      · obtain ⟨j, hj, hm⟩ := (hT i hi).1 (h i h1 hi.1 hi.2)
        exact ⟨j, by omega, hm⟩
      · obtain rfl : i = 0 := by omega
        exact ⟨0, by omega, by simp [lv]⟩
end
end Go.Gr
