/-
  The table of types: what it says of the program's own types.
-/
import Derived.Test.YtgdfaamcmkfkcaaVxLeaf
set_option linter.unusedSimpArgs false
set_option linter.unusedVariables false
set_option linter.unnecessarySimpa false
namespace Go.Vx

def descL : Leaf → Option TypeDesc
  | .int k _ => some (.int k)
  | .bool _ => some .bool
  | .str _ => some .string
  | _ => none

/-- Fields that '==' goes through one by one: whole numbers, bools, strings, a cell each. -/
def EqFs (P : Program) : Nat → List Field → List Leaf → Prop
  | _, [], ls => ls = []
  | _, _ :: _, [] => False
  | k, f :: fs, l :: ls => f.offset = k ∧ f.name ≠ "_" ∧ (∃ d, descL l = some d ∧ P.underlying f.type = some d) ∧ EqFs P (k + 1) fs ls

def DescOk (P : Program) (Θ : Nat → Option TI) (t : Nat) (i : TI) (d : TypeDesc) : Prop :=
  match i.ty with
  | .int k => d = .int k
  | .bool => d = .bool
  | .str => d = .string
  | .sl e => d = .slice i.elem ∧ 0 < e.size ∧ ∃ te, Θ i.elem = some te ∧ te.ty = e
  | .arr n e => d = .array n i.elem ∧ ∃ te, Θ i.elem = some te ∧ te.ty = e
  | _ => ∃ fs, d = .struct fs ∧ (fs.toList.map fun f => (f.offset, f.type)) = i.flds ∧ (∀ f ∈ fs.toList, ∃ tf, Θ f.type = some tf ∧ tf.ty.size ≠ 0) ∧
      (i.eq = true → P.stoodInHeld t = false ∧ P.eqGuardType P.depth t = false ∧ EqFs P 0 fs.toList (zleaves i.ty))

structure TyOk (P : Program) (Θ : Nat → Option TI) (t : Nat) (i : TI) : Prop where
  info : ∃ info, P.info? t = some info ∧ info.size = i.ty.size ∧ info.zero = some (if i.ty.agg = true then .agg (zcells i.ty).toArray else (zcells i.ty).headD undef) ∧ info.bytes ≤ 65536
  desc : ∃ d, P.underlying t = some d ∧ DescOk P Θ t i d
  nofl : (i.flds = [] ∧ i.eq = false) ∨ i.ty = .unit ∨ ∃ a b, i.ty = .pair a b

def TabOk (P : Program) (Θ : Nat → Option TI) : Prop := ∀ t i, Θ t = some i → TyOk P Θ t i

section
variable {P : Program} {Θ : Nat → Option TI} {t : Nat} {i : TI} {w : World}

theorem TyOk.run_sizeOf (h : TyOk P Θ t i) : (sizeOf t).run P w = .ok i.ty.size w := by
  obtain ⟨info, h1, h2, _⟩ := h.info
  simp [sizeOf, typeInfo, h1, h2]

theorem TyOk.run_isAgg (h : TyOk P Θ t i) : (isAgg t).run P w = .ok i.ty.agg w := by
  obtain ⟨d, h1, h2⟩ := h.desc
  unfold isAgg
  simp only [Sem.run_bind, run_underlying h1, Result.andThen_ok]
  unfold DescOk at h2
  cases ht : i.ty with
  | int k => rw [ht] at h2; simp only at h2; subst h2; rfl
  | bool => rw [ht] at h2; simp only at h2; subst h2; rfl
  | str => rw [ht] at h2; simp only at h2; subst h2; rfl
  | sl e => rw [ht] at h2; simp only at h2; obtain ⟨rfl, _⟩ := h2; rfl
  | arr n e => rw [ht] at h2; simp only at h2; obtain ⟨rfl, _⟩ := h2; rfl
  | unit => rw [ht] at h2; simp only at h2; obtain ⟨fs, rfl, _⟩ := h2; rfl
  | pair a b => rw [ht] at h2; simp only at h2; obtain ⟨fs, rfl, _⟩ := h2; rfl

theorem TyOk.fld (h : TyOk P Θ t i) {f off ft : Nat} (hf : i.flds[f]? = some (off, ft)) :
    ∃ fs fd tf, P.underlying t = some (.struct fs) ∧ fs[f]? = some fd ∧ fd.offset = off ∧ fd.type = ft ∧ Θ ft = some tf ∧ tf.ty.size ≠ 0 := by
  obtain ⟨d, h1, h2⟩ := h.desc
  have key : ∀ fs : Array Field, d = .struct fs → (fs.toList.map fun f => (f.offset, f.type)) = i.flds → (∀ f ∈ fs.toList, ∃ tf, Θ f.type = some tf ∧ tf.ty.size ≠ 0) →
      ∃ fs fd tf, P.underlying t = some (.struct fs) ∧ fs[f]? = some fd ∧ fd.offset = off ∧ fd.type = ft ∧ Θ ft = some tf ∧ tf.ty.size ≠ 0 := by
    intro fs hd hm hz
    rw [← hm, List.getElem?_map] at hf
    cases hq : fs.toList[f]? with
    | none => rw [hq] at hf; cases hf
    | some fd =>
      rw [hq] at hf
      simp only [Option.map_some, Option.some.injEq, Prod.mk.injEq] at hf
      obtain ⟨tf, h5, h6⟩ := hz fd (List.mem_of_getElem? hq)
      exact ⟨fs, fd, tf, by rw [h1, hd], by simpa using hq, hf.1, hf.2, by rw [← hf.2]; exact h5, h6⟩
  rcases h.nofl with h3 | h3 | ⟨x, y, h3⟩
  · rw [h3.1] at hf; cases hf
  · unfold DescOk at h2; rw [h3] at h2; obtain ⟨fs, k1, k2, k3, _⟩ := h2; exact key fs k1 k2 k3
  · unfold DescOk at h2; rw [h3] at h2; obtain ⟨fs, k1, k2, k3, _⟩ := h2; exact key fs k1 k2 k3

theorem Ty.size_of_not_agg : ∀ t : Ty, t.agg = false → t.size = 1
  | .int _, _ => rfl
  | .bool, _ => rfl
  | .str, _ => rfl
  | .sl _, _ => rfl
  | .unit, h => by simp [Ty.agg] at h
  | .pair _ _, h => by simp [Ty.agg] at h
  | .arr _ _, h => by simp [Ty.agg] at h

theorem add_plain {ad : Addr} (h : ad.spot = none) (j : Nat) : ad.add j = ⟨ad.block, ad.off + j, none⟩ := by
  unfold Addr.add
  split
  · rename_i hz; subst hz; cases ad; simp_all
  · cases ad; simp_all

theorem TyOk.run_loadVar (h : TyOk P Θ t i) {ad : Addr} (hs : ad.spot = none) {cs : List Value} (hl : cs.length = i.ty.size)
    (hc : ∀ j v, cs[j]? = some v → w.cell? ⟨ad.block, ad.off + j, none⟩ = some v) :
    (loadVar t ad).run P w = .ok (if i.ty.agg = true then .agg cs.toArray else cs.headD undef) w := by
  unfold loadVar
  simp only [Sem.run_bind, h.run_isAgg, Result.andThen_ok]
  cases hg : i.ty.agg with
  | true =>
    simp only [if_true, Sem.run_bind, h.run_sizeOf, Result.andThen_ok]
    rw [← hl, run_loadCells_list w ad cs (fun j v hj => by rw [add_plain hs]; exact hc j v hj)]
    rfl
  | false =>
    have h1 := Ty.size_of_not_agg _ hg
    rw [h1] at hl
    match cs, hl, hc with
    | [v], _, hc =>
      have := hc 0 v rfl
      have e : (⟨ad.block, ad.off + 0, none⟩ : Addr) = ad := by cases ad; simp_all
      rw [e] at this
      simp [this]

theorem part_sound (h : TyOk P Θ t i) {cs : List Value} {off : Nat} (hl : off + i.ty.size ≤ cs.length) :
    (part t cs.toArray off).run P w = .ok (if i.ty.agg = true then .agg ((cs.drop off).take i.ty.size).toArray else ((cs.drop off).take i.ty.size).headD undef) w := by
  unfold part
  simp only [Sem.run_bind, h.run_isAgg, Result.andThen_ok]
  cases hg : i.ty.agg with
  | true =>
    simp only [if_true, Sem.run_bind, h.run_sizeOf, Result.andThen_ok, Sem.run_pure]
    congr 2
    apply Array.ext'
    simp only [List.extract_toArray, List.extract_eq_take_drop]
    congr 1
    omega
  | false =>
    have h1 := Ty.size_of_not_agg _ hg
    rw [h1] at hl ⊢
    have : off < cs.length := by omega
    simp only [if_false, Bool.false_eq_true]
    have e : cs.toArray[off]? = some cs[off] := by simp [this]
    simp only [e, Sem.run_pure]
    rw [List.drop_eq_getElem_cons this]
    rfl

end

/-! ### the check, by computation -/

def eqV : Value → Value → Bool
  | .int k a, .int k' b => decide (k = k') && a == b
  | .bool a, .bool b => a == b
  | .string a, .string b => a.data.toList == b.data.toList
  | .slice none 0 0, .slice none 0 0 => true
  | _, _ => false

def eqVs : List Value → List Value → Bool
  | [], [] => true
  | a :: as, b :: bs => eqV a b && eqVs as bs
  | _, _ => false

theorem eqV_eq {a b : Value} (h : eqV a b = true) : a = b := by
  unfold eqV at h
  split at h
  · simp only [Bool.and_eq_true, decide_eq_true_eq, beq_iff_eq] at h; obtain ⟨rfl, rfl⟩ := h; rfl
  · simp only [beq_iff_eq] at h; rw [h]
  · rename_i a b
    simp only [beq_iff_eq] at h
    obtain ⟨⟨a⟩⟩ := a
    obtain ⟨⟨b⟩⟩ := b
    simp only at h
    rw [h]
  · rfl
  · cases h

theorem eqVs_eq : ∀ {a b : List Value}, eqVs a b = true → a = b
  | [], [], _ => rfl
  | [], _ :: _, h => by simp [eqVs] at h
  | _ :: _, [], h => by simp [eqVs] at h
  | a :: as, b :: bs, h => by
    simp only [eqVs, Bool.and_eq_true] at h
    rw [eqV_eq h.1, eqVs_eq h.2]

def chkZero (t : Ty) (z : Option Value) : Bool :=
  match t.agg, z with
  | true, some (.agg cs) => eqVs cs.toList (zcells t)
  | false, some v => match zcells t with
    | [u] => eqV v u
    | _ => false
  | _, _ => false

theorem chkZero_ok {t : Ty} {z : Option Value} (h : chkZero t z = true) : z = some (if t.agg = true then .agg (zcells t).toArray else (zcells t).headD undef) := by
  unfold chkZero at h
  split at h
  · rename_i cs hg
    rw [hg]
    have := eqVs_eq h
    simp only [if_true]
    rw [← this]
  · rename_i v hg
    rw [hg]
    split at h
    · rename_i u hu
      rw [hu, eqV_eq h]; rfl
    · cases h
  · cases h

def eqD : Leaf → Option TypeDesc → Bool
  | .int k _, some (.int k') => decide (k' = k)
  | .bool _, some .bool => true
  | .str _, some .string => true
  | _, _ => false

def chkEqFs (P : Program) : Nat → List Field → List Leaf → Bool
  | _, [], [] => true
  | k, f :: fs, l :: ls => Nat.beq f.offset k && !(f.name == "_") && eqD l (P.underlying f.type) && chkEqFs P (k + 1) fs ls
  | _, _, _ => false

theorem eqD_ok {l : Leaf} {d : Option TypeDesc} (h : eqD l d = true) : ∃ e, descL l = some e ∧ d = some e := by
  unfold eqD at h
  split at h
  · rw [of_decide_eq_true h]; exact ⟨_, rfl, rfl⟩
  · exact ⟨_, rfl, rfl⟩
  · exact ⟨_, rfl, rfl⟩
  · cases h

theorem chkEqFs_ok {P : Program} : ∀ {k : Nat} {fs : List Field} {ls : List Leaf}, chkEqFs P k fs ls = true → EqFs P k fs ls
  | _, [], [], _ => rfl
  | _, [], _ :: _, h => by simp [chkEqFs] at h
  | _, _ :: _, [], h => by simp [chkEqFs] at h
  | k, f :: fs, l :: ls, h => by
    simp only [chkEqFs, Bool.and_eq_true, Bool.not_eq_true', Nat.beq_eq] at h
    obtain ⟨⟨⟨h1, h2⟩, h3⟩, h4⟩ := h
    obtain ⟨e, h5, h6⟩ := eqD_ok h3
    exact ⟨h1, by simpa using h2, ⟨e, h5, h6⟩, chkEqFs_ok h4⟩

def chkElem (Θ : Nat → Option TI) (t : Nat) (e : Ty) : Bool :=
  match Θ t with
  | some te => decide (te.ty = e)
  | none => false

theorem chkElem_ok {Θ : Nat → Option TI} {t : Nat} {e : Ty} (h : chkElem Θ t e = true) : ∃ te, Θ t = some te ∧ te.ty = e := by
  unfold chkElem at h
  split at h
  · rename_i te ht; exact ⟨te, ht, of_decide_eq_true h⟩
  · cases h

def chkFlds : List Field → List (Nat × Nat) → Bool
  | [], [] => true
  | f :: fs, q :: qs => Nat.beq f.offset q.1 && Nat.beq f.type q.2 && chkFlds fs qs
  | _, _ => false

theorem chkFlds_ok : ∀ {fs : List Field} {qs : List (Nat × Nat)}, chkFlds fs qs = true → (fs.map fun f => (f.offset, f.type)) = qs
  | [], [], _ => rfl
  | [], _ :: _, h => by simp [chkFlds] at h
  | _ :: _, [], h => by simp [chkFlds] at h
  | f :: fs, q :: qs, h => by
    simp only [chkFlds, Bool.and_eq_true, Nat.beq_eq] at h
    obtain ⟨⟨h1, h2⟩, h3⟩ := h
    rw [List.map_cons, chkFlds_ok h3, h1, h2]

def chkSizes (Θ : Nat → Option TI) : List Field → Bool
  | [] => true
  | f :: fs => (match Θ f.type with
    | some tf => !Nat.beq tf.ty.size 0
    | none => false) && chkSizes Θ fs

theorem chkSizes_ok {Θ : Nat → Option TI} : ∀ {fs : List Field}, chkSizes Θ fs = true → ∀ f ∈ fs, ∃ tf, Θ f.type = some tf ∧ tf.ty.size ≠ 0
  | [], _ => fun _ h => by cases h
  | f :: fs, h => by
    simp only [chkSizes, Bool.and_eq_true] at h
    intro g hg
    rcases List.mem_cons.1 hg with rfl | hg
    · have h1 := h.1
      split at h1
      · rename_i tf ht; exact ⟨tf, ht, fun e => by rw [e] at h1; simp at h1⟩
      · cases h1
    · exact chkSizes_ok h.2 g hg

def chkDesc (P : Program) (Θ : Nat → Option TI) (t : Nat) (i : TI) (d : TypeDesc) : Bool :=
  match i.ty, d with
  | .int k, .int k' => decide (k' = k)
  | .bool, .bool => true
  | .str, .string => true
  | .sl e, .slice x => Nat.beq x i.elem && Nat.blt 0 e.size && chkElem Θ i.elem e
  | .arr n e, .array m x => Nat.beq m n && Nat.beq x i.elem && chkElem Θ i.elem e
  | .unit, .struct fs => chkFlds fs.toList i.flds && chkSizes Θ fs.toList && !i.eq
  | .pair _ _, .struct fs => chkFlds fs.toList i.flds && chkSizes Θ fs.toList && (!i.eq || (!P.stoodInHeld t && !P.eqGuardType P.depth t && chkEqFs P 0 fs.toList (zleaves i.ty)))
  | _, _ => false

theorem chkDesc_ok {P : Program} {Θ : Nat → Option TI} {t : Nat} {i : TI} {d : TypeDesc} (h : chkDesc P Θ t i d = true) : DescOk P Θ t i d := by
  unfold chkDesc at h
  unfold DescOk
  split at h
  · rename_i k k' hi; rw [hi]; rw [of_decide_eq_true h]
  · rename_i hi; rw [hi]
  · rename_i hi; rw [hi]
  · rename_i e x hi
    rw [hi]
    simp only [Bool.and_eq_true, Nat.beq_eq] at h
    obtain ⟨⟨rfl, h2⟩, h3⟩ := h
    exact ⟨rfl, by simpa using h2, chkElem_ok h3⟩
  · rename_i n e m x hi
    rw [hi]
    simp only [Bool.and_eq_true, Nat.beq_eq] at h
    obtain ⟨⟨rfl, rfl⟩, h3⟩ := h
    exact ⟨rfl, chkElem_ok h3⟩
  · rename_i fs hi
    rw [hi]
    simp only [Bool.and_eq_true, Bool.not_eq_true'] at h
    exact ⟨fs, rfl, chkFlds_ok h.1.1, chkSizes_ok h.1.2, fun he => by rw [he] at h; simp at h⟩
  · rename_i a b fs hi
    rw [hi]
    simp only [Bool.and_eq_true, Bool.or_eq_true, Bool.not_eq_true'] at h
    refine ⟨fs, rfl, chkFlds_ok h.1.1, chkSizes_ok h.1.2, fun he => ?_⟩
    rcases h.2 with h2 | h2
    · rw [he] at h2; cases h2
    · rw [hi] at h2; exact ⟨h2.1.1, h2.1.2, chkEqFs_ok h2.2⟩
  · cases h

def isSt : Ty → Bool
  | .unit => true
  | .pair _ _ => true
  | _ => false

def noFl : List (Nat × Nat) → Bool
  | [] => true
  | _ => false

def chkTy (P : Program) (Θ : Nat → Option TI) (t : Nat) (i : TI) : Bool :=
  match P.info? t, P.underlying t with
  | some info, some d => Nat.beq info.size i.ty.size && chkZero i.ty info.zero && Nat.ble info.bytes 65536 && chkDesc P Θ t i d && ((noFl i.flds && !i.eq) || isSt i.ty)
  | _, _ => false

theorem chkTy_ok {P : Program} {Θ : Nat → Option TI} {t : Nat} {i : TI} (h : chkTy P Θ t i = true) : TyOk P Θ t i := by
  unfold chkTy at h
  split at h
  · rename_i info d h1 h2
    simp only [Bool.and_eq_true, Nat.beq_eq] at h
    obtain ⟨⟨⟨⟨h3, h4⟩, h5⟩, h6⟩, h7⟩ := h
    refine ⟨⟨info, h1, h3, chkZero_ok h4, Nat.le_of_ble_eq_true h5⟩, ⟨d, h2, chkDesc_ok h6⟩, ?_⟩
    rw [Bool.or_eq_true] at h7
    rcases h7 with h7 | h7
    · left
      rw [Bool.and_eq_true, Bool.not_eq_true'] at h7
      refine ⟨?_, h7.2⟩
      cases hf : i.flds with
      | nil => rfl
      | cons _ _ => rw [hf] at h7; cases h7.1
    · right; cases ht : i.ty with
      | unit => exact .inl rfl
      | pair a b => exact .inr ⟨a, b, rfl⟩
      | _ => rw [ht] at h7; cases h7
  · cases h

def assoc {α : Type} : List (Nat × α) → Nat → Option α
  | [], _ => none
  | (k, v) :: r, n => cond (Nat.beq k n) (some v) (assoc r n)

def chkTab (P : Program) (Θ : Nat → Option TI) : List (Nat × TI) → Bool
  | [] => true
  | (t, i) :: r => chkTy P Θ t i && chkTab P Θ r

theorem assoc_mem {α : Type} : ∀ {l : List (Nat × α)} {n : Nat} {v : α}, assoc l n = some v → (n, v) ∈ l
  | [], _, _, h => by cases h
  | (k, u) :: r, n, v, h => by
    simp only [assoc] at h
    cases hb : Nat.beq k n with
    | true =>
      rw [hb] at h
      simp only [cond_true, Option.some.injEq] at h
      have := Nat.eq_of_beq_eq_true hb
      subst this; subst h
      exact List.mem_cons_self ..
    | false =>
      rw [hb] at h
      exact List.mem_cons_of_mem _ (assoc_mem h)

theorem chkTab_ok {P : Program} {tab : List (Nat × TI)} (h : chkTab P (assoc tab) tab = true) : TabOk P (assoc tab) := by
  have go : ∀ (l : List (Nat × TI)), chkTab P (assoc tab) l = true → ∀ q ∈ l, TyOk P (assoc tab) q.1 q.2 := by
    intro l
    induction l with
    | nil => intro _ q hq; cases hq
    | cons x l ih =>
      intro h q hq
      simp only [chkTab, Bool.and_eq_true] at h
      rcases List.mem_cons.1 hq with rfl | hq
      · exact chkTy_ok h.1
      · exact ih h.2 q hq
  intro t i hi
  exact go tab h _ (assoc_mem hi)

end Go.Vx
