/-
  The operations that turn objects: variables, rows, stores, append, copy.
-/
import Derived.Test.YtgdfaamcmkfkcaaVxOpG
set_option linter.unusedSimpArgs false
set_option linter.unusedVariables false
set_option linter.unnecessarySimpa false
namespace Go.Vx
section
variable {P : Program} {C : Cfg} {N : Nat} {w0 : World} {p0 Bs : Nat → Prop} {G : Gh} {st : St} {a : Act} {w : World}

theorem setO_same (obj : Nat → AObj) (n : Nat) (o : AObj) : setO obj n o n = o := by
  simp [setO]
theorem setO_other (obj : Nat → AObj) {n m : Nat} (o : AObj) (h : m ≠ n) : setO obj n o m = obj m := by
  have : Nat.beq m n = false := Bool.eq_false_iff.2 fun e => h (Nat.eq_of_beq_eq_true e)
  simp [setO, this]

theorem killO_cases : ∀ (ns : List Nat) (obj : Nat → AObj) (m : Nat), (m ∉ ns ∧ killO obj ns m = obj m) ∨ (m ∈ ns ∧ killO obj ns m = .dead)
  | [], obj, m => .inl ⟨by simp, rfl⟩
  | n :: ns, obj, m => by
    rcases killO_cases ns (setO obj n .dead) m with ⟨h1, h2⟩ | ⟨h1, h2⟩
    · by_cases hm : m = n
      · subst hm
        exact .inr ⟨List.mem_cons_self .., by rw [killO, h2, setO_same]⟩
      · exact .inl ⟨by simp [hm, h1], by rw [killO, h2, setO_other _ _ hm]⟩
    · exact .inr ⟨List.mem_cons_of_mem _ h1, by rw [killO, h2]⟩

/-- One object is new or written, some die, the others stay. -/
theorem Rel.step (h : Rel N w0 p0 Bs G st a w) {w' : World} {G' : Gh} {obj' : Nat → AObj} {n : Nat}
    (hos : w'.os = w.os) (htape : w'.tape = w.tape) (hout : w'.output = w.output) (hsize : w.heap.size ≤ w'.heap.size)
    (hblk : ∀ b, b < w.heap.size → ¬ blk G' obj' n b → (∀ m0, blk G st.obj m0 b → obj' m0 ≠ .dead) → w'.heap[b]? = w.heap[b]?)
    (hm : ∀ m, m ≠ n → (obj' m = st.obj m ∧ G'.hd m = G.hd m ∧ G'.bk m = G.bk m ∧ G'.ex m = G.ex m) ∨ (st.obj m ≠ .none ∧ obj' m = .dead))
    (hn : obj' n ≠ .none)
    (hk : st.obj n ≠ .none → (∀ e l, rowOf (obj' n) = some (e, l) → rowOf (st.obj n) = some (e, l) ∧ G'.hd n = G.hd n) ∧
      (∀ ls, obj' n = .box ls → (∃ ls', st.obj n = .box ls') ∧ G'.bk n = G.bk n))
    (hb : ∀ b, blk G' obj' n b → b < w'.heap.size ∧ (w.heap.size ≤ b ∨ ∃ m0, blk G st.obj m0 b ∧ (m0 = n ∨ obj' m0 = .dead)))
    (hRO : Tr w (reg w0 p0 Bs G st.obj) G st.obj w' (reg w0 p0 Bs G' obj') G' obj' → RO w' (reg w0 p0 Bs G' obj') G' obj' n (obj' n)) :
    Rel N w0 p0 Bs G' { st with obj := obj' } a w' ∧ Tr w (reg w0 p0 Bs G st.obj) G st.obj w' (reg w0 p0 Bs G' obj') G' obj' := by
  have hsub : ∀ m b, m ≠ n → blk G' obj' m b → blk G st.obj m b ∧ obj' m = st.obj m := by
    intro m b hmn hq
    rcases hm m hmn with ⟨h1, h2, h3, h4⟩ | ⟨_, h2⟩
    · refine ⟨?_, h1⟩
      simpa only [blk, h1, h2, h3, h4] using hq
    · simp [blk, h2] at hq
  have hclash : ∀ m b, m ≠ n → blk G' obj' m b → ¬ blk G' obj' n b := by
    intro m b hmn hq hq2
    obtain ⟨k1, k2⟩ := hsub m b hmn hq
    obtain ⟨_, k4⟩ := hb b hq2
    rcases k4 with k4 | ⟨m0, k4, k5⟩
    · have := (h.bound m b k1).1; omega
    · have := h.inj m m0 b k1 k4
      subst this
      rcases k5 with k5 | k5
      · exact hmn k5
      · rw [k5] at k2
        simp [blk, ← k2] at k1
  refine h.upd hos htape hout hsize ?_ ?_ ?_ ?_ ?_ ?_ ?_ ?_
  · intro b hlt hno
    refine hblk b hlt (fun hq => ?_) (fun m0 hm0 => absurd hm0 (hno m0))
    obtain ⟨_, k4⟩ := hb b hq
    rcases k4 with k4 | ⟨m0, k4, _⟩
    · omega
    · exact hno m0 k4
  · intro m b hq hlt
    by_cases hmn : m = n
    · subst hmn
      obtain ⟨_, k4⟩ := hb b hq
      rcases k4 with k4 | ⟨m0, k4, _⟩
      · omega
      · exact ⟨m0, k4⟩
    · exact ⟨m, (hsub m b hmn hq).1⟩
  · intro m hne
    by_cases hmn : m = n
    · subst hmn; exact hn
    · rcases hm m hmn with ⟨h1, _⟩ | ⟨_, h2⟩
      · rw [h1]; exact hne
      · rw [h2]; simp
  · intro m e l hx hne
    by_cases hmn : m = n
    · subst hmn; exact (hk hne).1 e l hx
    · rcases hm m hmn with ⟨h1, h2, _⟩ | ⟨_, h2⟩
      · exact ⟨by rw [← h1]; exact hx, h2⟩
      · rw [h2] at hx; cases hx
  · intro m ls hx hne
    by_cases hmn : m = n
    · subst hmn; exact (hk hne).2 ls hx
    · rcases hm m hmn with ⟨h1, _, h2, _⟩ | ⟨_, h2⟩
      · exact ⟨⟨ls, by rw [← h1]; exact hx⟩, h2⟩
      · rw [h2] at hx; cases hx
  · intro tr m
    by_cases hmn : m = n
    · subst hmn; exact hRO tr
    · rcases hm m hmn with ⟨h1, h2, h3, h4⟩ | ⟨_, h2⟩
      · rw [h1]
        refine RO.kept tr rfl h2 h3 h4 (fun b hq => ?_) (h.objs m)
        refine hblk b (h.bound m b hq).1 (fun hq2 => ?_) (fun m0 hm0 hd => ?_)
        · exact hclash m b hmn (by simpa only [blk, h1, h2, h3, h4] using hq) hq2
        · have := h.inj m m0 b hq hm0
          subst this
          rw [h1] at hd
          simp [blk, hd] at hq
      · rw [h2]; trivial
  · intro m m' b h1 h2
    by_cases e1 : m = n <;> by_cases e2 : m' = n
    · rw [e1, e2]
    · subst e1; exact absurd h1 (hclash m' b e2 h2)
    · subst e2; exact absurd h2 (hclash m b e1 h1)
    · exact h.inj m m' b (hsub m b e1 h1).1 (hsub m' b e2 h2).1
  · intro m b hq
    by_cases hmn : m = n
    · subst hmn
      obtain ⟨k1, k4⟩ := hb b hq
      refine ⟨k1, ?_⟩
      rcases k4 with k4 | ⟨m0, k4, _⟩
      · exact .inr (Nat.le_trans h.frame.size k4)
      · exact (h.bound m0 b k4).2
    · have := h.bound m b (hsub m b hmn hq).1
      exact ⟨Nat.lt_of_lt_of_le this.1 hsize, this.2⟩

/-- A variable's block is written. -/
theorem Rel.boxed (h : Rel N w0 p0 Bs G st a w) {n : Nat} {old new : List Leaf} (ho : st.obj n = .box old) {cur : Array Value} {tid : Nat}
    (hcur : w.heap[G.bk n]? = some (.cells cur tid (0, 0))) {x : List Value} (hx : RLs w (reg w0 p0 Bs G st.obj) G st.obj new x) :
    Rel N w0 p0 Bs G { st with obj := setO st.obj n (.box new) } a (w.setRow (G.bk n) x.toArray) := by
  have hbn : ∀ b, blk G (setO st.obj n (.box new)) n b ↔ b = G.bk n := fun b => by simp [blk, setO_same]
  have hbo : blk G st.obj n (G.bk n) := by simp [blk, ho]
  refine (h.step (w' := w.setRow (G.bk n) x.toArray) (G' := G) (obj' := setO st.obj n (.box new)) (n := n) rfl rfl rfl (by simp) ?_ ?_ (by rw [setO_same]; simp) ?_ ?_ ?_).1
  · intro b _ hne _
    exact setRow_other w _ b _ fun e => hne ((hbn b).2 e)
  · intro m hm
    exact .inl ⟨setO_other _ _ hm, rfl, rfl, rfl⟩
  · intro _
    exact ⟨fun e l hq => by (rw [setO_same] at hq; cases hq), fun ls _ => ⟨⟨old, ho⟩, rfl⟩⟩
  · intro b hq
    obtain rfl := (hbn b).1 hq
    exact ⟨by simpa using (h.bound n _ hbo).1, .inr ⟨n, hbo, .inl rfl⟩⟩
  · intro tr
    rw [setO_same]
    exact ⟨x.toArray, tid, setRow_heap w _ _ _ _ _ hcur, RLs.mono tr _ _ hx⟩

/-- A new variable. -/
theorem Rel.newBox (h : Rel N w0 p0 Bs G st a w) {n : Nat} {ls : List Leaf} (ho : st.obj n = .none) {x : List Value} (hx : RLs w (reg w0 p0 Bs G st.obj) G st.obj ls x) (tid : Nat) :
    ∃ G', Rel N w0 p0 Bs G' { st with obj := setO st.obj n (.box ls) } a (w.alloc (.cells x.toArray tid)) ∧ G'.bk n = w.heap.size := by
  let G' : Gh := { G with bk := fun m => if m = n then w.heap.size else G.bk m }
  have hg : G'.bk n = w.heap.size := by simp [G']
  have hbn : ∀ b, blk G' (setO st.obj n (.box ls)) n b ↔ b = w.heap.size := fun b => by simp [blk, setO_same, hg]
  refine ⟨G', (h.step (w' := w.alloc (.cells x.toArray tid)) (G' := G') (obj' := setO st.obj n (.box ls)) (n := n) rfl rfl rfl (by simp) ?_ ?_ (by rw [setO_same]; simp) ?_ ?_ ?_).1, hg⟩
  · intro b hlt _ _
    exact Go.RowKit.Below.heap_alloc w _ b hlt
  · intro m hm
    exact .inl ⟨setO_other _ _ hm, rfl, by simp [G', hm], rfl⟩
  · intro hne
    exact absurd ho hne
  · intro b hq
    obtain rfl := (hbn b).1 hq
    exact ⟨by simp, .inl (Nat.le_refl _)⟩
  · intro tr
    rw [setO_same]
    refine ⟨x.toArray, tid, ?_, RLs.mono tr _ _ hx⟩
    rw [hg]
    exact heap_alloc_new w _

/-- A new row; some objects die. (Of a deep one: what it holds beside its own block was held by those that die.) -/
theorem Rel.newObj (h : Rel N w0 p0 Bs G st a w) {n : Nat} (ho : st.obj n = .none) {w' : World} {obj1 : Nat → AObj} (h1 : ∀ m, obj1 m = st.obj m ∨ (st.obj m ≠ .none ∧ obj1 m = .dead))
    {o : AObj} {ad : Option Addr} {c : Nat} {ex : List Nat} (hlive : o ≠ .none)
    (hblkN : ∀ (G2 : Gh), G2.hd n = (ad, c) → G2.ex n = ex → ∀ b, blk G2 (setO obj1 n o) n b → ad.map (·.block) = some b ∨ b ∈ ex)
    {row : Option Nat} (hg : w.grownBy w' row)
    (hrow : ∀ b, row = some b → ∃ m0, blk G st.obj m0 b ∧ obj1 m0 = .dead)
    (hnew : ∀ b, ad.map (·.block) = some b → b < w'.heap.size ∧ (w.heap.size ≤ b ∨ row = some b))
    (hex : ∀ b ∈ ex, ∃ m0, blk G st.obj m0 b ∧ obj1 m0 = .dead)
    (hRO : ∀ (G2 : Gh) (obj2 : Nat → AObj) w2 p2, G2.hd n = (ad, c) → G2.ex n = ex → w2 = w' → (∀ b, reg w0 p0 Bs G st.obj b → b < w.heap.size → p2 b ∧ w2.heap[b]? = w.heap[b]?) →
      (∀ b, (∃ m0, blk G st.obj m0 b ∧ obj1 m0 = .dead) → row ≠ some b → ad.map (·.block) ≠ some b → b ∉ ex → b < w.heap.size → p2 b ∧ w2.heap[b]? = w.heap[b]?) → (∀ b, b ∈ ex → row ≠ some b → w2.heap[b]? = w.heap[b]?) → RO w2 p2 G2 obj2 n o) :
    ∃ G', Rel N w0 p0 Bs G' { st with obj := setO obj1 n o } a w' ∧ G'.hd n = (ad, c) := by
  let G' : Gh := { G with hd := fun m => if m = n then (ad, c) else G.hd m, ex := fun m => if m = n then ex else G.ex m }
  have hgn : G'.hd n = (ad, c) := by simp [G']
  have hen : G'.ex n = ex := by simp [G']
  have hbn := hblkN G' hgn hen
  have hdead : ∀ m, obj1 m = .dead → m ≠ n → setO obj1 n o m = .dead := fun m hm hmn => by rw [setO_other _ _ hmn]; exact hm
  have hne : ∀ m0 b, blk G st.obj m0 b → m0 ≠ n := fun m0 b hq e => by subst e; simp [blk, ho] at hq
  have hst := h.step (w' := w') (G' := G') (obj' := setO obj1 n o) (n := n) hg.os hg.tape hg.output hg.size ?_ ?_ (by rw [setO_same]; exact hlive) ?_ ?_ ?_
  · exact ⟨G', hst.1, hgn⟩
  · intro b hb _ hq
    refine hg.block b hb fun e => ?_
    obtain ⟨m0, k1, k2⟩ := hrow b e.symm
    exact hq m0 k1 (hdead m0 k2 (hne m0 b k1))
  · intro m hm
    rw [setO_other _ _ hm]
    rcases h1 m with h2 | h2
    · exact .inl ⟨h2, by simp [G', hm], rfl, by simp [G', hm]⟩
    · exact .inr h2
  · intro hne
    exact absurd ho hne
  · intro b hq
    rcases hbn b hq with hq | hq
    · obtain ⟨k1, k2⟩ := hnew b hq
      refine ⟨k1, ?_⟩
      rcases k2 with h2 | h2
      · exact .inl h2
      · obtain ⟨m0, k1, k2⟩ := hrow b h2
        exact .inr ⟨m0, k1, .inr (hdead m0 k2 (hne m0 b k1))⟩
    · obtain ⟨m0, k1, k2⟩ := hex b hq
      exact ⟨Nat.lt_of_lt_of_le (h.bound m0 b k1).1 hg.size, .inr ⟨m0, k1, .inr (hdead m0 k2 (hne m0 b k1))⟩⟩
  · intro tr
    rw [setO_same]
    refine hRO G' _ w' _ hgn hen rfl tr.reg ?_ ?_
    · intro b hb hr ha hx hlt
      obtain ⟨m0, k1, k2⟩ := hb
      refine ⟨⟨?_, ?_⟩, hg.block b hlt fun e => hr e.symm⟩
      · rcases (h.bound m0 b k1).2 with k3 | k3
        · exact .inr (.inl k3)
        · exact .inr (.inr k3)
      · intro m hq
        by_cases hmn : m = n
        · subst hmn
          rcases hbn b hq with hq | hq
          · exact ha hq
          · exact hx hq
        · have : setO obj1 n o m = st.obj m := by
            rw [setO_other _ _ hmn]
            rcases h1 m with h2 | h2
            · exact h2
            · simp only [blk, setO_other _ _ hmn, h2.2] at hq
          have hq' : blk G st.obj m b := by
            have e1 : G'.hd m = G.hd m := by simp [G', hmn]
            have e2 : G'.ex m = G.ex m := by simp [G', hmn]
            simpa only [blk, this, e1, e2] using hq
          have := h.inj m m0 b hq' k1
          subst this
          simp only [blk, setO_other _ _ hmn, k2] at hq
    · intro b hb hr
      obtain ⟨m0, k1, _⟩ := hex b hb
      exact hg.block b (h.bound m0 b k1).1 fun e => hr e.symm

/-- A new row; some objects die. -/
theorem Rel.newRow (h : Rel N w0 p0 Bs G st a w) {n : Nat} (ho : st.obj n = .none) {w' : World} {obj1 : Nat → AObj} (h1 : ∀ m, obj1 m = st.obj m ∨ (st.obj m ≠ .none ∧ obj1 m = .dead))
    {tid : Nat} {e : Ty} {xs : List e.den} {ad : Option Addr} {c : Nat} {ds : List Value}
    (hown : w'.ownsRow 0 tid e.size (.slice ad xs.length c) xs.length ds) {row : Option Nat} (hg : w.grownBy w' row)
    (hrow : ∀ b, row = some b → ∃ m0, blk G st.obj m0 b ∧ obj1 m0 = .dead)
    (hnew : ∀ b, ad.map (·.block) = some b → w.heap.size ≤ b ∨ row = some b)
    (hrep : ∀ w2 p2, (∀ b, reg w0 p0 Bs G st.obj b → b < w.heap.size → p2 b ∧ w2.heap[b]? = w.heap[b]?) → (∀ b, (∃ m0, blk G st.obj m0 b ∧ obj1 m0 = .dead) → row ≠ some b → b < w.heap.size → p2 b ∧ w2.heap[b]? = w.heap[b]?) → RepL (Rep w2 p2 e) xs ds) :
    ∃ G', Rel N w0 p0 Bs G' { st with obj := setO obj1 n (.row tid e xs) } a w' ∧ G'.hd n = (ad, c) := by
  have hlt : ∀ b, ad.map (·.block) = some b → b < w'.heap.size := by
    intro b hq
    have := hown.lt b
    cases ad with
    | none => cases hq
    | some ad =>
      simp only [Option.map_some, Option.some.injEq] at hq
      exact (this (by simp [Value.ownBlock, hq])).2
  refine h.newObj ho h1 (o := .row tid e xs) (ex := []) (by simp) (fun G2 g1 _ b hb => ?_) hg hrow (fun b hb => ⟨hlt b hb, hnew b hb⟩) (fun b hb => by cases hb) (fun G2 obj2 w2 p2 g1 _ e2 k1 k2 _ => ?_)
  · simp only [blk, setO_same, g1] at hb
    exact .inl hb
  · subst e2
    refine ⟨ds, by rw [g1]; exact hown, hrep w2 p2 k1 fun b hb hr hl => ?_⟩
    refine k2 b hb hr (fun hq => ?_) (by simp) hl
    rcases hnew b hq with h2 | h2
    · omega
    · exact hr h2

end
end Go.Vx
