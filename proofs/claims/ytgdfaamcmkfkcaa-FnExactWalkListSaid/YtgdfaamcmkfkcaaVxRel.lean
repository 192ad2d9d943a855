/-
  How the reader's state stands to the machine's: slots, variables and rows; what may change.
-/
import Derived.Test.YtgdfaamcmkfkcaaVxExec
set_option linter.unusedSimpArgs false
set_option linter.unusedVariables false
set_option linter.unnecessarySimpa false
namespace Go.Vx

structure Gh where
  hd : Nat → Option Addr × Nat
  bk : Nat → Nat
  ex : Nat → List Nat

/-- The blocks that an object holds. -/
def blk (G : Gh) (obj : Nat → AObj) (n : Nat) (b : Nat) : Prop :=
  match obj n with
  | .box _ => b = G.bk n
  | .row _ _ _ => (G.hd n).1.map (·.block) = some b
  | .deep _ _ _ _ _ => (G.hd n).1.map (·.block) = some b ∨ b ∈ G.ex n
  | _ => False

/-- A row's elements' type, and how many there are. -/
def rowOf : AObj → Option (Ty × Nat)
  | .row _ e xs => some (e, xs.length)
  | .deep _ d _ xs _ => some (d.ty, List.length xs)
  | _ => none

section
variable (w : World) (p : Nat → Prop) (G : Gh) (obj : Nat → AObj)

def capsR : List Nat → List Value → Prop
  | [], vs => vs = []
  | n :: ns, vs => ∃ v r, vs = v :: r ∧ v.oneCell' = true ∧ obj n ≠ .none ∧ (∀ ls, obj n = .box ls → v = .pointer (some ⟨G.bk n, 0, none⟩)) ∧ capsR ns r

/-- A leaf and its cells. -/
def RL : Leaf → List Value → Prop
  | .undef, cs => ∃ v, cs = [v] ∧ v.oneCell' = true
  | .int k x, cs => cs = [.int k x]
  | .bool b, cs => cs = [.bool b]
  | .str s, cs => cs = [.string s]
  | .sl e xs, cs => Rep w p (.sl e) xs cs
  | .nil, cs => cs = [.slice none 0 0]
  | .arr n e xs, cs => Rep w p (.arr n e) xs cs
  | .hdr n, cs => ∃ v, cs = [v] ∧ v.oneCell' = true ∧ obj n ≠ .none ∧ ∀ e l, rowOf (obj n) = some (e, l) → v = .slice (G.hd n).1 l (G.hd n).2
  | .sub n lo hi, cs => ∃ v, cs = [v] ∧ v.oneCell' = true ∧ obj n ≠ .none ∧ ∀ e l, rowOf (obj n) = some (e, l) → 0 ≤ lo ∧ lo ≤ hi ∧ hi ≤ (l : Int) ∧
      v = .slice (if (G.hd n).2 = lo.toNat then (G.hd n).1 else (G.hd n).1.map (·.add (lo.toNat * e.size))) (hi.toNat - lo.toNat) ((G.hd n).2 - lo.toNat)
  | .box n off, cs => ∃ v, cs = [v] ∧ v.oneCell' = true ∧ obj n ≠ .none ∧ ∀ ls, obj n = .box ls → v = .pointer (some ⟨G.bk n, off, none⟩)
  | .belem n off sz i, cs => ∃ v, cs = [v] ∧ v.oneCell' = true ∧ obj n ≠ .none ∧ ∀ ls, obj n = .box ls → v = .pointer (some ⟨G.bk n, off + i.toNat * sz, none⟩)
  | .ro t x, cs => ∃ ad ds, cs = [.pointer (some ad)] ∧ ad.spot = none ∧ p ad.block ∧ ad.block < w.heap.size ∧ Rep w p t x ds ∧ ∀ j v, ds[j]? = some v → w.cell? ⟨ad.block, ad.off + j, none⟩ = some v
  | .row n i off, cs => ∃ v, cs = [v] ∧ v.oneCell' = true ∧ obj n ≠ .none ∧ ∀ e l, rowOf (obj n) = some (e, l) → 0 ≤ i ∧ i < (l : Int) ∧
      ∃ b, (G.hd n).1 = some ⟨b, 0, none⟩ ∧ v = .pointer (some ⟨b, i.toNat * e.size + off, none⟩)
  | .fn f ns, cs => ∃ vs, cs = [.func (.func f) #[] vs.toArray] ∧ capsR G obj ns vs

def RLs : List Leaf → List Value → Prop
  | [], cs => cs = []
  | l :: ls, cs => ∃ c1 c2, cs = c1 ++ c2 ∧ RL w p G obj l c1 ∧ RLs ls c2

def R1 (agg : Bool) (ls : List Leaf) (v : Value) : Prop :=
  match agg with
  | true => ∃ cs, v = .agg cs.toArray ∧ RLs w p G obj ls cs
  | false => match ls with
    | [l] => RL w p G obj l [v]
    | _ => True

def RT : List (Bool × List Leaf) → List Value → Prop
  | [], vs => vs = []
  | q :: qs, vs => ∃ v r, vs = v :: r ∧ R1 w p G obj q.1 q.2 v ∧ RT qs r

def RV : AV → Value → Prop
  | .no, _ => True
  | .un, v => v = undef
  | .sc l, v => RL w p G obj l [v]
  | .ag ls, v => ∃ cs, v = .agg cs.toArray ∧ RLs w p G obj ls cs
  | .tup vs, v => ∃ ws, v = .tuple ws.toArray ∧ RT w p G obj vs ws

/-- The cells as they are, and as they read with an empty row at the hole. -/
def HoleR (d : DTy) : Option (Int × Nat × Nat) → List Value → List Value → Prop
  | none, ds, ds' => ds' = ds
  | some (i, off, m), ds, ds' => 0 ≤ i ∧ ∃ v, ds[i.toNat * d.ty.size + off]? = some v ∧ RL w p G obj (.hdr m) [v] ∧ ds' = ds.set (i.toNat * d.ty.size + off) (.slice none 0 0)

def RO (n : Nat) : AObj → Prop
  | .none => True
  | .dead => True
  | .box ls => ∃ cells tid, w.heap[G.bk n]? = some (.cells cells tid (0, 0)) ∧ RLs w p G obj ls cells.toList
  | .row tid e xs => ∃ ds, w.ownsRow 0 tid e.size (.slice (G.hd n).1 xs.length (G.hd n).2) xs.length ds ∧ RepL (Rep w p e) xs ds
  | .deep tid d k xs h => (ablk (G.hd n).1 ++ G.ex n).Nodup ∧ ∃ ds ds', w.ownsRow 0 tid d.ty.size (.slice (G.hd n).1 (List.length xs) (G.hd n).2) (List.length xs) ds ∧ HoleR w p G obj d h ds ds' ∧ ElsR w p d k 0 xs ds' (G.ex n)
end

structure Tr (w : World) (p : Nat → Prop) (G : Gh) (obj : Nat → AObj) (w' : World) (p' : Nat → Prop) (G' : Gh) (obj' : Nat → AObj) : Prop where
  reg : ∀ b, p b → b < w.heap.size → p' b ∧ w'.heap[b]? = w.heap[b]?
  size : w.heap.size ≤ w'.heap.size
  names : ∀ n, obj n ≠ .none → obj' n ≠ .none
  rows : ∀ n e l, rowOf (obj' n) = some (e, l) → obj n ≠ .none → rowOf (obj n) = some (e, l) ∧ G'.hd n = G.hd n
  boxes : ∀ n ls, obj' n = .box ls → obj n ≠ .none → (∃ ls', obj n = .box ls') ∧ G'.bk n = G.bk n

theorem Tr.refl (w : World) (p : Nat → Prop) (G : Gh) (obj : Nat → AObj) : Tr w p G obj w p G obj :=
  ⟨fun _ h _ => ⟨h, rfl⟩, Nat.le_refl _, fun _ h => h, fun _ _ _ h _ => ⟨h, rfl⟩, fun _ ls h _ => ⟨⟨ls, h⟩, rfl⟩⟩

section
variable {w w' : World} {p p' : Nat → Prop} {G G' : Gh} {obj obj' : Nat → AObj}

theorem capsR.mono (h : Tr w p G obj w' p' G' obj') : ∀ (ns : List Nat) (vs : List Value), capsR G obj ns vs → capsR G' obj' ns vs
  | [], _, k => k
  | n :: ns, _, k => by
    obtain ⟨v, r, rfl, h1, h2, h3, h4⟩ := k
    refine ⟨v, r, rfl, h1, h.names n h2, fun ls hl => ?_, capsR.mono h ns r h4⟩
    obtain ⟨⟨ls', h5⟩, h6⟩ := h.boxes n ls hl h2
    rw [h6]; exact h3 ls' h5

theorem RL.mono (h : Tr w p G obj w' p' G' obj') : ∀ (l : Leaf) (cs : List Value), RL w p G obj l cs → RL w' p' G' obj' l cs
  | .undef, _, k => k
  | .int _ _, _, k => k
  | .bool _, _, k => k
  | .str _, _, k => k
  | .sl e xs, cs, k => Rep.mono h.reg (.sl e) xs cs k
  | .nil, _, k => k
  | .arr n e xs, cs, k => Rep.mono h.reg (.arr n e) xs cs k
  | .hdr n, _, k => by
    obtain ⟨v, h1, h2, h3, h4⟩ := k
    refine ⟨v, h1, h2, h.names n h3, fun e l hx => ?_⟩
    obtain ⟨h5, h7⟩ := h.rows n e l hx h3
    rw [h7]; exact h4 e l h5
  | .sub n lo hi, _, k => by
    obtain ⟨v, h1, h2, h3, h4⟩ := k
    refine ⟨v, h1, h2, h.names n h3, fun e l hx => ?_⟩
    obtain ⟨h5, h7⟩ := h.rows n e l hx h3
    rw [h7]; exact h4 e l h5
  | .box n off, _, k => by
    obtain ⟨v, h1, h2, h3, h4⟩ := k
    refine ⟨v, h1, h2, h.names n h3, fun ls hx => ?_⟩
    obtain ⟨⟨ls', h5⟩, h7⟩ := h.boxes n ls hx h3
    rw [h7]; exact h4 ls' h5
  | .belem n off sz i, _, k => by
    obtain ⟨v, h1, h2, h3, h4⟩ := k
    refine ⟨v, h1, h2, h.names n h3, fun ls hx => ?_⟩
    obtain ⟨⟨ls', h5⟩, h7⟩ := h.boxes n ls hx h3
    rw [h7]; exact h4 ls' h5
  | .ro t x, _, k => by
    obtain ⟨ad, ds, h1, h2, h3, h4, h5, h6⟩ := k
    obtain ⟨h7, h8⟩ := h.reg _ h3 h4
    exact ⟨ad, ds, h1, h2, h7, Nat.lt_of_lt_of_le h4 h.size, Rep.mono h.reg t x ds h5, fun j v hj => (World.cell?_of_block (a := ⟨ad.block, ad.off + j, none⟩) h8).trans (h6 j v hj)⟩
  | .row n i off, _, k => by
    obtain ⟨v, h1, h2, h3, h4⟩ := k
    refine ⟨v, h1, h2, h.names n h3, fun e l hx => ?_⟩
    obtain ⟨h5, h7⟩ := h.rows n e l hx h3
    rw [h7]; exact h4 e l h5
  | .fn f ns, _, k => by
    obtain ⟨vs, h1, h2⟩ := k
    exact ⟨vs, h1, capsR.mono h ns vs h2⟩

theorem RLs.mono (h : Tr w p G obj w' p' G' obj') : ∀ (ls : List Leaf) (cs : List Value), RLs w p G obj ls cs → RLs w' p' G' obj' ls cs
  | [], _, k => k
  | l :: ls, _, k => by
    obtain ⟨c1, c2, rfl, h1, h2⟩ := k
    exact ⟨c1, c2, rfl, RL.mono h l c1 h1, RLs.mono h ls c2 h2⟩

theorem R1.mono (h : Tr w p G obj w' p' G' obj') {agg : Bool} {ls : List Leaf} {v : Value} (k : R1 w p G obj agg ls v) : R1 w' p' G' obj' agg ls v := by
  cases agg with
  | true => obtain ⟨cs, h1, h2⟩ := k; exact ⟨cs, h1, RLs.mono h ls cs h2⟩
  | false =>
    match ls, k with
    | [], _ => trivial
    | [l], k => exact RL.mono h l [v] k
    | _ :: _ :: _, _ => trivial

theorem RT.mono (h : Tr w p G obj w' p' G' obj') : ∀ (qs : List (Bool × List Leaf)) (vs : List Value), RT w p G obj qs vs → RT w' p' G' obj' qs vs
  | [], _, k => k
  | q :: qs, _, k => by
    obtain ⟨v, r, rfl, h1, h2⟩ := k
    exact ⟨v, r, rfl, h1.mono h, RT.mono h qs r h2⟩

theorem RV.mono (h : Tr w p G obj w' p' G' obj') : ∀ (x : AV) (v : Value), RV w p G obj x v → RV w' p' G' obj' x v
  | .no, _, _ => trivial
  | .un, _, k => k
  | .sc l, v, k => RL.mono h l [v] k
  | .ag ls, v, k => by obtain ⟨cs, h1, h2⟩ := k; exact ⟨cs, h1, RLs.mono h ls cs h2⟩
  | .tup qs, v, k => by obtain ⟨ws, h1, h2⟩ := k; exact ⟨ws, h1, RT.mono h qs ws h2⟩

theorem HoleR.mono (h : Tr w p G obj w' p' G' obj') {d : DTy} {o : Option (Int × Nat × Nat)} {ds ds' : List Value} (k : HoleR w p G obj d o ds ds') : HoleR w' p' G' obj' d o ds ds' := by
  cases o with
  | none => exact k
  | some q =>
    obtain ⟨i, off, m⟩ := q
    obtain ⟨k0, v, k1, k2, k3⟩ := k
    exact ⟨k0, v, k1, RL.mono h (.hdr m) [v] k2, k3⟩

/-- An object that nobody touched. -/
theorem RO.kept (h : Tr w p G obj w' p' G' obj') {n : Nat} {o : AObj} (ho : obj n = o) (hh : G'.hd n = G.hd n) (hb : G'.bk n = G.bk n) (he : G'.ex n = G.ex n)
    (hk : ∀ b, blk G obj n b → w'.heap[b]? = w.heap[b]?) (k : RO w p G obj n o) : RO w' p' G' obj' n o := by
  cases o with
  | none => trivial
  | dead => trivial
  | box ls =>
    obtain ⟨cells, tid, h1, h2⟩ := k
    refine ⟨cells, tid, ?_, RLs.mono h ls _ h2⟩
    rw [hb, hk _ (by simp [blk, ho])]; exact h1
  | row tid e xs =>
    obtain ⟨ds, h1, h2⟩ := k
    refine ⟨ds, ⟨h1.1, ?_⟩, h2.mono fun x c _ hr => Rep.mono h.reg e x c hr⟩
    rw [hh]
    rcases h1.2 with h3 | ⟨g, cap, cur, h4, h5, h6, h7⟩
    · exact .inl h3
    · refine .inr ⟨g, cap, cur, h4, h5, ?_, h7⟩
      have : (G.hd n).1 = some ⟨g, 0, none⟩ := by injection h4
      rw [hk g (by simp [blk, ho, this])]; exact h6
  | deep tid d kk xs hh2 =>
    obtain ⟨hn, ds, ds', h1, h2, h3⟩ := k
    have hko : ∀ b ∈ ablk (G.hd n).1, w'.heap[b]? = w.heap[b]? := fun b hb => hk b (by simp only [blk, ho]; exact .inl (by simpa [ablk] using hb))
    refine ⟨by rw [hh, he]; exact hn, ds, ds', by rw [hh]; exact ownsRow_keep h1 hko, HoleR.mono h h2, ?_⟩
    rw [he]
    exact ElsR.keep h.reg xs 0 ds' _ (fun b hb => hk b (by simp only [blk, ho]; exact .inr hb)) h3

end

/-- What has become of the world since the function began: streams, and all blocks but those that it was given. -/
structure Fr (w0 : World) (Bs : Nat → Prop) (w : World) : Prop where
  os : w.os = w0.os
  tape : w.tape = w0.tape
  output : w.output = w0.output
  size : w0.heap.size ≤ w.heap.size
  block : ∀ b, b < w0.heap.size → ¬ Bs b → w.heap[b]? = w0.heap[b]?

theorem Fr.refl (w0 : World) (Bs : Nat → Prop) : Fr w0 Bs w0 := ⟨rfl, rfl, rfl, Nat.le_refl _, fun _ _ _ => rfl⟩

def reg (w0 : World) (p0 Bs : Nat → Prop) (G : Gh) (obj : Nat → AObj) (b : Nat) : Prop :=
  (p0 b ∨ Bs b ∨ w0.heap.size ≤ b) ∧ ∀ n, ¬ blk G obj n b

structure Rel (N : Nat) (w0 : World) (p0 Bs : Nat → Prop) (G : Gh) (st : St) (a : Act) (w : World) : Prop where
  size : a.tmps.size = N
  defers : a.defers = []
  slots : ∀ s, RV w (reg w0 p0 Bs G st.obj) G st.obj (st.env s) (a.tmps.getD s undef)
  objs : ∀ n, RO w (reg w0 p0 Bs G st.obj) G st.obj n (st.obj n)
  inj : ∀ m n b, blk G st.obj m b → blk G st.obj n b → m = n
  bound : ∀ n b, blk G st.obj n b → b < w.heap.size ∧ (Bs b ∨ w0.heap.size ≤ b)
  frame : Fr w0 Bs w

section
variable {N : Nat} {w0 : World} {p0 Bs : Nat → Prop} {G : Gh} {st : St} {a : Act} {w : World}

theorem getD_put (a : Act) (d : Nat) (v : Value) (s : Nat) (hd : d < a.tmps.size) : (a.put (some d) v).tmps.getD s undef = if s = d then v else a.tmps.getD s undef := by
  simp only [Act.put, Array.getD_eq_getD_getElem?, Array.getElem?_setIfInBounds]
  by_cases h : d = s
  · subst h; simp [hd]
  · simp [h, Ne.symm h]

theorem env_put (st : St) (d : Nat) (v : AV) (s : Nat) : (st.put (some d) v).env s = if s = d then v else st.env s := by
  simp only [St.put]
  by_cases h : s = d
  · subst h; simp
  · have : Nat.beq s d = false := Bool.eq_false_iff.2 fun e => h (Nat.eq_of_beq_eq_true e)
    simp [this, h]

theorem Rel.put (h : Rel N w0 p0 Bs G st a w) {d : Option Nat} (hd : ∀ e, d = some e → e < N) {x : AV} {v : Value}
    (hx : RV w (reg w0 p0 Bs G st.obj) G st.obj x v) : Rel N w0 p0 Bs G (st.put d x) (a.put d v) w := by
  cases d with
  | none => exact h
  | some d =>
    refine ⟨?_, h.defers, fun s => ?_, h.objs, h.inj, h.bound, h.frame⟩
    · simp [Act.put, h.size]
    · rw [getD_put a d v s (by rw [h.size]; exact hd d rfl), env_put]
      split
      · exact hx
      · exact h.slots s

/-- The objects and the world change; the slots stay. -/
theorem Rel.upd (h : Rel N w0 p0 Bs G st a w) {w' : World} {G' : Gh} {obj' : Nat → AObj}
    (hos : w'.os = w.os) (htape : w'.tape = w.tape) (hout : w'.output = w.output) (hsize : w.heap.size ≤ w'.heap.size)
    (hblk : ∀ b, b < w.heap.size → (∀ n, ¬ blk G st.obj n b) → w'.heap[b]? = w.heap[b]?)
    (hnew : ∀ n b, blk G' obj' n b → b < w.heap.size → ∃ m, blk G st.obj m b)
    (names : ∀ n, st.obj n ≠ .none → obj' n ≠ .none)
    (rows : ∀ n e l, rowOf (obj' n) = some (e, l) → st.obj n ≠ .none → rowOf (st.obj n) = some (e, l) ∧ G'.hd n = G.hd n)
    (boxes : ∀ n ls, obj' n = .box ls → st.obj n ≠ .none → (∃ ls', st.obj n = .box ls') ∧ G'.bk n = G.bk n)
    (objs : Tr w (reg w0 p0 Bs G st.obj) G st.obj w' (reg w0 p0 Bs G' obj') G' obj' → ∀ n, RO w' (reg w0 p0 Bs G' obj') G' obj' n (obj' n))
    (inj : ∀ m n b, blk G' obj' m b → blk G' obj' n b → m = n)
    (bound : ∀ n b, blk G' obj' n b → b < w'.heap.size ∧ (Bs b ∨ w0.heap.size ≤ b)) :
    Rel N w0 p0 Bs G' { st with obj := obj' } a w' ∧ Tr w (reg w0 p0 Bs G st.obj) G st.obj w' (reg w0 p0 Bs G' obj') G' obj' := by
  have tr : Tr w (reg w0 p0 Bs G st.obj) G st.obj w' (reg w0 p0 Bs G' obj') G' obj' :=
    ⟨fun b hb hlt => ⟨⟨hb.1, fun n hn => by obtain ⟨m, hm⟩ := hnew n b hn hlt; exact hb.2 m hm⟩, hblk b hlt hb.2⟩, hsize, names, rows, boxes⟩
  refine ⟨⟨h.size, h.defers, fun s => RV.mono tr _ _ (h.slots s), objs tr, inj, bound, ?_⟩, tr⟩
  refine ⟨hos.trans h.frame.os, htape.trans h.frame.tape, hout.trans h.frame.output, Nat.le_trans h.frame.size hsize, fun b hb hn => ?_⟩
  rw [← h.frame.block b hb hn]
  refine hblk b (Nat.lt_of_lt_of_le hb h.frame.size) fun n hb' => ?_
  rcases (h.bound n b hb').2 with h1 | h1
  · exact hn h1
  · omega
end

end Go.Vx
