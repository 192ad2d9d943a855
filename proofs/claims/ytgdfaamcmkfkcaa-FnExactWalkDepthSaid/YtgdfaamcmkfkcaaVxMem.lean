/-
  The operations that turn objects: variables, rows, stores, append, copy.
-/
import Derived.Test.YtgdfaamcmkfkcaaVxOpG
set_option linter.unusedSimpArgs false
set_option linter.unusedVariables false
set_option linter.unnecessarySimpa false
namespace Go.Vx
section
variable {P : Program} {C : Cfg} {N : Nat} {w0 : World} {p0 Bs : Nat → Prop} {G : Gh} {st : St} {a : Act} {w : World}

theorem setO_same (obj : Nat → AObj) (n : Nat) (o : AObj) : setO obj n o n = o := by
  simp [setO]
theorem setO_other (obj : Nat → AObj) {n m : Nat} (o : AObj) (h : m ≠ n) : setO obj n o m = obj m := by
  have : Nat.beq m n = false := Bool.eq_false_iff.2 fun e => h (Nat.eq_of_beq_eq_true e)
  simp [setO, this]

theorem killO_cases : ∀ (ns : List Nat) (obj : Nat → AObj) (m : Nat), (m ∉ ns ∧ killO obj ns m = obj m) ∨ (m ∈ ns ∧ killO obj ns m = .dead)
  | [], obj, m => .inl ⟨by simp, rfl⟩
  | n :: ns, obj, m => by
    rcases killO_cases ns (setO obj n .dead) m with ⟨h1, h2⟩ | ⟨h1, h2⟩
    · by_cases hm : m = n
      · subst hm
        exact .inr ⟨List.mem_cons_self .., by rw [killO, h2, setO_same]⟩
      · exact .inl ⟨by simp [hm, h1], by rw [killO, h2, setO_other _ _ hm]⟩
    · exact .inr ⟨List.mem_cons_of_mem _ h1, by rw [killO, h2]⟩

/-- One object is new or written, some die, the others stay. -/
theorem Rel.step (h : Rel N w0 p0 Bs G st a w) {w' : World} {G' : Gh} {obj' : Nat → AObj} {n : Nat}
    (hos : w'.os = w.os) (htape : w'.tape = w.tape) (hout : w'.output = w.output) (hsize : w.heap.size ≤ w'.heap.size)
    (hblk : ∀ b, b < w.heap.size → blk G' obj' n ≠ some b → (∀ m0, blk G st.obj m0 = some b → obj' m0 ≠ .dead) → w'.heap[b]? = w.heap[b]?)
    (hm : ∀ m, m ≠ n → (obj' m = st.obj m ∧ G'.hd m = G.hd m ∧ G'.bk m = G.bk m) ∨ (st.obj m ≠ .none ∧ obj' m = .dead))
    (hn : obj' n ≠ .none)
    (hk : st.obj n ≠ .none → (∀ tid e xs, obj' n = .row tid e xs → (∃ tid' xs', st.obj n = .row tid' e xs' ∧ xs'.length = xs.length) ∧ G'.hd n = G.hd n) ∧
      (∀ ls, obj' n = .box ls → (∃ ls', st.obj n = .box ls') ∧ G'.bk n = G.bk n))
    (hb : ∀ b, blk G' obj' n = some b → b < w'.heap.size ∧ (w.heap.size ≤ b ∨ ∃ m0, blk G st.obj m0 = some b ∧ (m0 = n ∨ obj' m0 = .dead)))
    (hRO : Tr w (reg w0 p0 Bs G st.obj) G st.obj w' (reg w0 p0 Bs G' obj') G' obj' → RO w' (reg w0 p0 Bs G' obj') G' obj' n (obj' n)) :
    Rel N w0 p0 Bs G' { st with obj := obj' } a w' ∧ Tr w (reg w0 p0 Bs G st.obj) G st.obj w' (reg w0 p0 Bs G' obj') G' obj' := by
  have hsub : ∀ m b, m ≠ n → blk G' obj' m = some b → blk G st.obj m = some b ∧ obj' m = st.obj m := by
    intro m b hmn hq
    rcases hm m hmn with ⟨h1, h2, h3⟩ | ⟨_, h2⟩
    · refine ⟨?_, h1⟩
      rw [← hq]
      simp only [blk, h1, h2, h3]
    · simp [blk, h2] at hq
  have hclash : ∀ m b, m ≠ n → blk G' obj' m = some b → blk G' obj' n ≠ some b := by
    intro m b hmn hq hq2
    obtain ⟨k1, k2⟩ := hsub m b hmn hq
    obtain ⟨_, k4⟩ := hb b hq2
    rcases k4 with k4 | ⟨m0, k4, k5⟩
    · have := (h.bound m b k1).1; omega
    · have := h.inj m m0 b k1 k4
      subst this
      rcases k5 with k5 | k5
      · exact hmn k5
      · rw [k5] at k2
        simp [blk, ← k2] at k1
  refine h.upd hos htape hout hsize ?_ ?_ ?_ ?_ ?_ ?_ ?_ ?_
  · intro b hlt hno
    refine hblk b hlt (fun hq => ?_) (fun m0 hm0 => absurd hm0 (hno m0))
    obtain ⟨_, k4⟩ := hb b hq
    rcases k4 with k4 | ⟨m0, k4, _⟩
    · omega
    · exact hno m0 k4
  · intro m b hq hlt
    by_cases hmn : m = n
    · subst hmn
      obtain ⟨_, k4⟩ := hb b hq
      rcases k4 with k4 | ⟨m0, k4, _⟩
      · omega
      · exact ⟨m0, k4⟩
    · exact ⟨m, (hsub m b hmn hq).1⟩
  · intro m hne
    by_cases hmn : m = n
    · subst hmn; exact hn
    · rcases hm m hmn with ⟨h1, _⟩ | ⟨_, h2⟩
      · rw [h1]; exact hne
      · rw [h2]; simp
  · intro m tid e xs hx hne
    by_cases hmn : m = n
    · subst hmn; exact (hk hne).1 tid e xs hx
    · rcases hm m hmn with ⟨h1, h2, _⟩ | ⟨_, h2⟩
      · exact ⟨⟨tid, xs, by rw [← h1]; exact hx, rfl⟩, h2⟩
      · rw [h2] at hx; cases hx
  · intro m ls hx hne
    by_cases hmn : m = n
    · subst hmn; exact (hk hne).2 ls hx
    · rcases hm m hmn with ⟨h1, _, h2⟩ | ⟨_, h2⟩
      · exact ⟨⟨ls, by rw [← h1]; exact hx⟩, h2⟩
      · rw [h2] at hx; cases hx
  · intro tr m
    by_cases hmn : m = n
    · subst hmn; exact hRO tr
    · rcases hm m hmn with ⟨h1, h2, h3⟩ | ⟨_, h2⟩
      · rw [h1]
        refine RO.kept tr rfl h2 h3 (fun b hq => ?_) (h.objs m)
        refine hblk b (h.bound m b hq).1 (fun hq2 => ?_) (fun m0 hm0 hd => ?_)
        · exact hclash m b hmn (by rw [← hq]; simp only [blk, h1, h2, h3]) hq2
        · have := h.inj m m0 b hq hm0
          subst this
          rw [h1] at hd
          simp [blk, hd] at hq
      · rw [h2]; trivial
  · intro m m' b h1 h2
    by_cases e1 : m = n <;> by_cases e2 : m' = n
    · rw [e1, e2]
    · subst e1; exact absurd h1 (hclash m' b e2 h2)
    · subst e2; exact absurd h2 (hclash m b e1 h1)
    · exact h.inj m m' b (hsub m b e1 h1).1 (hsub m' b e2 h2).1
  · intro m b hq
    by_cases hmn : m = n
    · subst hmn
      obtain ⟨k1, k4⟩ := hb b hq
      refine ⟨k1, ?_⟩
      rcases k4 with k4 | ⟨m0, k4, _⟩
      · exact .inr (Nat.le_trans h.frame.size k4)
      · exact (h.bound m0 b k4).2
    · have := h.bound m b (hsub m b hmn hq).1
      exact ⟨Nat.lt_of_lt_of_le this.1 hsize, this.2⟩

/-- A variable's block is written. -/
theorem Rel.boxed (h : Rel N w0 p0 Bs G st a w) {n : Nat} {old new : List Leaf} (ho : st.obj n = .box old) {cur : Array Value} {tid : Nat}
    (hcur : w.heap[G.bk n]? = some (.cells cur tid (0, 0))) {x : List Value} (hx : RLs w (reg w0 p0 Bs G st.obj) G st.obj new x) :
    Rel N w0 p0 Bs G { st with obj := setO st.obj n (.box new) } a (w.setRow (G.bk n) x.toArray) := by
  have hbn : blk G (setO st.obj n (.box new)) n = some (G.bk n) := by simp [blk, setO_same]
  have hbo : blk G st.obj n = some (G.bk n) := by simp [blk, ho]
  refine (h.step (w' := w.setRow (G.bk n) x.toArray) (G' := G) (obj' := setO st.obj n (.box new)) (n := n) rfl rfl rfl (by simp) ?_ ?_ (by rw [setO_same]; simp) ?_ ?_ ?_).1
  · intro b _ hne _
    exact setRow_other w _ b _ fun e => hne (by rw [hbn, e])
  · intro m hm
    exact .inl ⟨setO_other _ _ hm, rfl, rfl⟩
  · intro _
    exact ⟨fun t e xs hq => by (rw [setO_same] at hq; cases hq), fun ls _ => ⟨⟨old, ho⟩, rfl⟩⟩
  · intro b hq
    rw [hbn] at hq
    obtain rfl := Option.some.inj hq
    exact ⟨by simpa using (h.bound n _ hbo).1, .inr ⟨n, hbo, .inl rfl⟩⟩
  · intro tr
    rw [setO_same]
    exact ⟨x.toArray, tid, setRow_heap w _ _ _ _ _ hcur, RLs.mono tr _ _ hx⟩

/-- A new variable. -/
theorem Rel.newBox (h : Rel N w0 p0 Bs G st a w) {n : Nat} {ls : List Leaf} (ho : st.obj n = .none) {x : List Value} (hx : RLs w (reg w0 p0 Bs G st.obj) G st.obj ls x) (tid : Nat) :
    ∃ G', Rel N w0 p0 Bs G' { st with obj := setO st.obj n (.box ls) } a (w.alloc (.cells x.toArray tid)) ∧ G'.bk n = w.heap.size := by
  let G' : Gh := { G with bk := fun m => if m = n then w.heap.size else G.bk m }
  have hg : G'.bk n = w.heap.size := by simp [G']
  have hbn : blk G' (setO st.obj n (.box ls)) n = some w.heap.size := by simp [blk, setO_same, hg]
  refine ⟨G', (h.step (w' := w.alloc (.cells x.toArray tid)) (G' := G') (obj' := setO st.obj n (.box ls)) (n := n) rfl rfl rfl (by simp) ?_ ?_ (by rw [setO_same]; simp) ?_ ?_ ?_).1, hg⟩
  · intro b hlt _ _
    exact Go.RowKit.Below.heap_alloc w _ b hlt
  · intro m hm
    exact .inl ⟨setO_other _ _ hm, rfl, by simp [G', hm]⟩
  · intro hne
    exact absurd ho hne
  · intro b hq
    rw [hbn] at hq
    obtain rfl := Option.some.inj hq
    exact ⟨by simp, .inl (Nat.le_refl _)⟩
  · intro tr
    rw [setO_same]
    refine ⟨x.toArray, tid, ?_, RLs.mono tr _ _ hx⟩
    rw [hg]
    exact heap_alloc_new w _

/-- A new row; some objects die. -/
theorem Rel.newRow (h : Rel N w0 p0 Bs G st a w) {n : Nat} (ho : st.obj n = .none) {w' : World} {obj1 : Nat → AObj} (h1 : ∀ m, obj1 m = st.obj m ∨ (st.obj m ≠ .none ∧ obj1 m = .dead))
    {tid : Nat} {e : Ty} {xs : List e.den} {ad : Option Addr} {c : Nat} {ds : List Value}
    (hown : w'.ownsRow 0 tid e.size (.slice ad xs.length c) xs.length ds) {row : Option Nat} (hg : w.grownBy w' row)
    (hrow : ∀ b, row = some b → ∃ m0, blk G st.obj m0 = some b ∧ obj1 m0 = .dead)
    (hnew : ∀ b, ad.map (·.block) = some b → w.heap.size ≤ b ∨ row = some b)
    (hrep : ∀ w2 p2, (∀ b, reg w0 p0 Bs G st.obj b → b < w.heap.size → p2 b ∧ w2.heap[b]? = w.heap[b]?) → (∀ b, (∃ m0, blk G st.obj m0 = some b ∧ obj1 m0 = .dead) → row ≠ some b → b < w.heap.size → p2 b ∧ w2.heap[b]? = w.heap[b]?) → RepL (Rep w2 p2 e) xs ds) :
    ∃ G', Rel N w0 p0 Bs G' { st with obj := setO obj1 n (.row tid e xs) } a w' ∧ G'.hd n = (ad, c) := by
  let G' : Gh := { G with hd := fun m => if m = n then (ad, c) else G.hd m }
  have hgn : G'.hd n = (ad, c) := by simp [G']
  have hbn : blk G' (setO obj1 n (.row tid e xs)) n = ad.map (·.block) := by simp [blk, setO_same, hgn]
  have hlt : ∀ b, ad.map (·.block) = some b → b < w'.heap.size := by
    intro b hq
    have := hown.lt b
    cases ad with
    | none => cases hq
    | some ad =>
      simp only [Option.map_some, Option.some.injEq] at hq
      exact (this (by simp [Value.ownBlock, hq])).2
  have hdead : ∀ m, obj1 m = .dead → m ≠ n → setO obj1 n (.row tid e xs) m = .dead := fun m hm hmn => by rw [setO_other _ _ hmn]; exact hm
  have hne : ∀ m0 b, blk G st.obj m0 = some b → m0 ≠ n := fun m0 b hq e => by subst e; simp [blk, ho] at hq
  have hst := h.step (w' := w') (G' := G') (obj' := setO obj1 n (.row tid e xs)) (n := n) hg.os hg.tape hg.output hg.size ?_ ?_ (by rw [setO_same]; simp) ?_ ?_ ?_
  · exact ⟨G', hst.1, hgn⟩
  · intro b hb _ hq
    refine hg.block b hb fun e => ?_
    obtain ⟨m0, k1, k2⟩ := hrow b e.symm
    exact hq m0 k1 (hdead m0 k2 (hne m0 b k1))
  · intro m hm
    rw [setO_other _ _ hm]
    rcases h1 m with h2 | h2
    · exact .inl ⟨h2, by simp [G', hm], rfl⟩
    · exact .inr h2
  · intro hne
    exact absurd ho hne
  · intro b hq
    rw [hbn] at hq
    refine ⟨hlt b hq, ?_⟩
    rcases hnew b hq with h2 | h2
    · exact .inl h2
    · obtain ⟨m0, k1, k2⟩ := hrow b h2
      exact .inr ⟨m0, k1, .inr (hdead m0 k2 (hne m0 b k1))⟩
  · intro tr
    rw [setO_same]
    refine ⟨ds, by rw [hgn]; exact hown, hrep w' _ tr.reg ?_⟩
    intro b hb hr hlt
    obtain ⟨m0, k1, k2⟩ := hb
    refine ⟨⟨?_, ?_⟩, hg.block b hlt fun e => hr e.symm⟩
    · rcases (h.bound m0 b k1).2 with k3 | k3
      · exact .inr (.inl k3)
      · exact .inr (.inr k3)
    · intro m hq
      by_cases hmn : m = n
      · subst hmn
        rw [hbn] at hq
        rcases hnew b hq with k4 | k4
        · omega
        · exact hr k4
      · have : setO obj1 n (.row tid e xs) m = st.obj m := by
          rw [setO_other _ _ hmn]
          rcases h1 m with h2 | h2
          · exact h2
          · rw [blk, setO_other _ _ hmn, h2.2] at hq; cases hq
        have hq' : blk G st.obj m = some b := by
          rw [← hq]
          simp only [blk, this]
          simp [G', hmn]
        have := h.inj m m0 b hq' k1
        subst this
        rw [blk, setO_other _ _ hmn, k2] at hq; cases hq

end
end Go.Vx
