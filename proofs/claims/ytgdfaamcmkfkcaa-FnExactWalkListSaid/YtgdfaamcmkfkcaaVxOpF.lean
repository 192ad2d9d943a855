/-
  The operations that turn no object, the rest; all of them in one theorem.
-/
import Derived.Test.YtgdfaamcmkfkcaaVxOpE
set_option linter.unusedSimpArgs false
set_option linter.unusedVariables false
set_option linter.unnecessarySimpa false
namespace Go.Vx
section
variable {P : Program} {C : Cfg} {N : Nat} {w0 : World} {p0 Bs : Nat → Prop} {G : Gh} {st : St} {a : Act} {w : World} {p : Nat → Prop} {obj : Nat → AObj}

theorem bound_of {d : Int} {x : Option AV} {l : Int} {v : Option Value} (hb : boundAt d x = some l)
    (hx : ∀ y, x = some y → ∃ u, v = some u ∧ RV w p G obj y u) (hn : x = none → v = none) : (x = none ∧ v = none ∧ l = d) ∨ ∃ k, v = some (.int k l) := by
  unfold boundAt at hb
  split at hb
  · left; exact ⟨rfl, hn rfl, by injection hb with hb; exact hb.symm⟩
  · rename_i k i
    injection hb with hb
    subst hb
    obtain ⟨u, h1, h2⟩ := hx _ rfl
    obtain rfl := int_of h2
    exact .inr ⟨k, h1⟩
  · cases hb

theorem run_bounds {isSl : Bool} {n c : Nat} {lo hi : Option Value} {l h : Int}
    (hl : (lo = none ∧ l = 0) ∨ ∃ k, lo = some (.int k l)) (hh : (hi = none ∧ h = n) ∨ ∃ k, hi = some (.int k h))
    (h0 : 0 ≤ l) (h1 : l ≤ h) (h2 : h ≤ (n : Int)) (hc : n ≤ c) :
    (Instr.sliceBounds isSl n c lo hi none).run P w = .ok (l.toNat, h.toNat, c) w := by
  have hcap : (0 : Int) ≤ h ∧ h ≤ (c : Int) := by omega
  have hlo : (0 : Int) ≤ l ∧ l ≤ (h.toNat : Int) := by omega
  unfold Instr.sliceBounds
  rcases hh with ⟨rfl, rfl⟩ | ⟨k, rfl⟩ <;> rcases hl with ⟨rfl, rfl⟩ | ⟨k', rfl⟩ <;>
    simp_all [Instr.sliceBound, asIntOf]

theorem mapO_of (h : Rel N w0 p0 Bs G st a w) (x : Option Operand) : (∀ y, x.map (val st) = some y → ∃ u, x.map a.eval = some u ∧ RV w (reg w0 p0 Bs G st.obj) G st.obj y u) ∧
    (x.map (val st) = none → x.map a.eval = none) := by
  cases x with
  | none => simp
  | some x =>
    constructor
    · intro y hy
      simp only [Option.map_some, Option.some.injEq] at hy
      subst hy
      exact ⟨_, rfl, val_sound h x⟩
    · intro hy; cases hy

theorem sub_true {lo hi : Int} {n : Nat} (h : (decide (0 ≤ lo) && decide (lo ≤ hi) && decide (hi ≤ (n : Int))) = true) : 0 ≤ lo ∧ lo ≤ hi ∧ hi ≤ (n : Int) := by
  simp only [Bool.and_eq_true, decide_eq_true_eq] at h
  exact ⟨h.1.1, h.1.2, h.2⟩

theorem subL_some {α : Type} {xs ys : List α} {lo hi : Int} (h : subL xs lo hi = some ys) : (0 ≤ lo ∧ lo ≤ hi ∧ hi ≤ (xs.length : Int)) ∧ ys = (xs.take hi.toNat).drop lo.toNat := by
  unfold subL at h
  cases hc : (decide (0 ≤ lo) && decide (lo ≤ hi) && decide (hi ≤ (xs.length : Int))) with
  | false => rw [hc] at h; cases h
  | true => rw [hc] at h; exact ⟨sub_true hc, (Option.some.inj h).symm⟩

theorem subS_some {s t : ByteArray} {lo hi : Int} (h : subS s lo hi = some t) : (0 ≤ lo ∧ lo ≤ hi ∧ hi ≤ (s.size : Int)) ∧ t = s.extract lo.toNat hi.toNat := by
  unfold subS at h
  cases hc : (decide (0 ≤ lo) && decide (lo ≤ hi) && decide (hi ≤ (s.size : Int))) with
  | false => rw [hc] at h; cases h
  | true => rw [hc] at h; exact ⟨sub_true hc, (Option.some.inj h).symm⟩

theorem opSlice_sound (hT : TabOk P C.Θ) (h : Rel N w0 p0 Bs G st a w) {T : Nat} {x : AV} {lo hi : Option Operand} {v : AV} {u : Value}
    (hu : RV w (reg w0 p0 Bs G st.obj) G st.obj x u) (hv : (opSlice C st T x (lo.map (val st)) (hi.map (val st))).res v) :
    ∃ y, (Instr.sliceAt T u (lo.map a.eval) (hi.map a.eval) none).run P w = .ok y w ∧ RV w (reg w0 p0 Bs G st.obj) G st.obj v y := by
  obtain ⟨lo1, lo2⟩ := mapO_of h lo
  obtain ⟨hi1, hi2⟩ := mapO_of h hi
  unfold opSlice at hv
  split at hv
  · rename_i s
    split at hv
    · rename_i l hh hl he
      cases hc : tyIs C T isStrTy with
      | false => rw [hc] at hv; exact hv.elim
      | true =>
      rw [hc] at hv
      have hun := tyIs_str hT hc
      obtain ⟨t, ht, rfl⟩ := hv
      obtain ⟨⟨k1, k2, k3⟩, rfl⟩ := subS_some ht
      obtain rfl := str_of hu
      have b1 : (lo.map a.eval = none ∧ l = 0) ∨ ∃ k, lo.map a.eval = some (.int k l) := (bound_of hl lo1 lo2).imp (fun q => ⟨q.2.1, q.2.2⟩) id
      have b2 : (hi.map a.eval = none ∧ hh = _) ∨ ∃ k, hi.map a.eval = some (.int k hh) := (bound_of he hi1 hi2).imp (fun q => ⟨q.2.1, q.2.2⟩) id
      refine ⟨.string (s.extract l.toNat hh.toNat), ?_, rfl⟩
      simp [Instr.sliceAt, Instr.slice, run_underlying hun, run_bounds b1 b2 k1 k2 k3 (Nat.le_refl _)]
    · exact hv.elim
  · rename_i e xs
    split at hv
    · rename_i l hh hl he
      cases hc : isSl C T e.size with
      | false => rw [hc] at hv; exact hv.elim
      | true =>
      rw [hc] at hv
      obtain ⟨elem, e1, e2, e3⟩ := isSl_ok (w := w) hT hc
      obtain ⟨t, ht, rfl⟩ := hv
      obtain ⟨⟨k1, k2, k3⟩, rfl⟩ := subL_some ht
      obtain ⟨ao, c, ds, h1, h2, h3, h4⟩ := hu
      simp only [List.cons.injEq, and_true] at h1
      subst h1
      have b1 : (lo.map a.eval = none ∧ l = 0) ∨ ∃ k, lo.map a.eval = some (.int k l) := (bound_of hl lo1 lo2).imp (fun q => ⟨q.2.1, q.2.2⟩) id
      have b2 : (hi.map a.eval = none ∧ hh = _) ∨ ∃ k, hi.map a.eval = some (.int k hh) := (bound_of he hi1 hi2).imp (fun q => ⟨q.2.1, q.2.2⟩) id
      have hlen := h3.len
      refine ⟨.slice (if c = l.toNat then ao else ao.map (·.add (l.toNat * e.size))) (hh.toNat - l.toNat) (c - l.toNat), ?_, ?_⟩
      · simp [Instr.sliceAt, Instr.slice, run_underlying e1, e2, run_bounds b1 b2 k1 k2 k3 h2]
      · refine ⟨_, c - l.toNat, (ds.take (hh.toNat * e.size)).drop (l.toNat * e.size), ?_, ?_, ?_, Lies.sub h4 _ _ (a' := if c = l.toNat then ao else ao.map (·.add (l.toNat * e.size))) ?_⟩
        · congr 2
          simp only [List.length_drop, List.length_take]
          omega
        · simp only [List.length_drop, List.length_take]; omega
        · exact (h3.take (n := e.size) (fun x c hr => Rep.length e x c hr) hh.toNat (by omega)).drop (fun x c hr => Rep.length e x c hr) l.toNat (by simp only [List.length_take]; omega)
        · intro h5 h6
          have : l.toNat < xs.length := by
            rcases Nat.lt_or_ge l.toNat xs.length with h7 | h7
            · exact h7
            · have := Nat.mul_le_mul_right e.size h7
              omega
          rw [if_neg (by omega)]
    · exact hv.elim
  · rename_i n
    split at hv
    · rename_i tid e xs ho
      split at hv
      · rename_i l hh hl he
        cases hc : isSl C T e.size with
        | false => rw [hc] at hv; exact hv.elim
        | true =>
        rw [hc] at hv
        obtain ⟨elem, e1, e2, e3⟩ := isSl_ok (w := w) hT hc
        obtain ⟨hb, rfl⟩ := hv
        obtain ⟨k1, k2, k3⟩ := sub_true hb
        obtain ⟨v1, h1, _, h3, h4⟩ := hu
        simp only [List.cons.injEq, and_true] at h1
        subst h1
        rw [h4 e (List.length xs) (by rw [ho]; rfl)]
        have hO := h.objs n
        rw [ho] at hO
        obtain ⟨ds, j1, _⟩ := hO
        have hcap := (owns_lies (p := fun _ => True) j1 (fun _ _ => trivial)).1
        have b1 : (lo.map a.eval = none ∧ l = 0) ∨ ∃ k, lo.map a.eval = some (.int k l) := (bound_of hl lo1 lo2).imp (fun q => ⟨q.2.1, q.2.2⟩) id
        have b2 : (hi.map a.eval = none ∧ hh = _) ∨ ∃ k, hi.map a.eval = some (.int k hh) := (bound_of he hi1 hi2).imp (fun q => ⟨q.2.1, q.2.2⟩) id
        refine ⟨.slice (if (G.hd n).2 = l.toNat then (G.hd n).1 else (G.hd n).1.map (·.add (l.toNat * e.size))) (hh.toNat - l.toNat) ((G.hd n).2 - l.toNat), ?_, ⟨_, rfl, rfl, h3, fun e' l' hx => ?_⟩⟩
        · simp [Instr.sliceAt, Instr.slice, run_underlying e1, e2, run_bounds b1 b2 k1 k2 k3 hcap]
        · rw [ho] at hx
          simp only [rowOf, Option.some.injEq, Prod.mk.injEq] at hx
          obtain ⟨rfl, rfl⟩ := hx
          exact ⟨k1, k2, k3, rfl⟩
      · exact hv.elim
    · exact hv.elim
  · exact hv.elim

theorem opInt_sound {op : BinOp} {k : IntKind} {x y : Int} {v : AV} (hv : (opInt op k x y).res v) (t : TypeId) (o1 o2 : Operand) :
    ∃ z, (do eqGuard op t o1 o2 (.int k x) (.int k y); binOp op t (.int k x) (.int k y)).run P w = .ok z w ∧ RV w p G obj v z := by
  have hg : ∀ op, eqGuard op t o1 o2 (.int k x) (.int k y) = pure () := by
    intro op; cases op <;> simp [eqGuard]
  rw [hg]
  cases op <;> simp only [opInt] at hv <;> first
    | (obtain ⟨c, hc, rfl⟩ := hv
       unfold quoO at hc
       by_cases hy : y = 0
       · subst hy; simp at hc
       · have : (y == 0) = false := by simpa using hy
         rw [this] at hc
         simp only [cond_false, Option.some.injEq] at hc
         subst hc
         refine ⟨.int k (k.wrap (x.tdiv y)), ?_, rfl⟩
         simp [binOp, Op.intDiv, hy]; done)
    | (obtain ⟨c, hc, rfl⟩ := hv
       unfold remO at hc
       by_cases hy : y = 0
       · subst hy; simp at hc
       · have : (y == 0) = false := by simpa using hy
         rw [this] at hc
         simp only [cond_false, Option.some.injEq] at hc
         subst hc
         refine ⟨.int k (x.tmod y), ?_, rfl⟩
         simp [binOp, Op.intDiv, hy]; done)
    | (obtain rfl : v = _ := hv
       refine ⟨_, ?_, rfl⟩
       simp [binOp, Op.intArith, Op.intCmp, Op.intBits, bits]; done)
    | exact hv.elim

theorem opStr_sound {op : BinOp} {x y : ByteArray} {v : AV} (hv : (opStr op x y).res v) (t : TypeId) (o1 o2 : Operand) :
    ∃ z, (do eqGuard op t o1 o2 (.string x) (.string y); binOp op t (.string x) (.string y)).run P w = .ok z w ∧ RV w p G obj v z := by
  have hg : ∀ op, eqGuard op t o1 o2 (.string x) (.string y) = pure () := by
    intro op; cases op <;> simp [eqGuard]
  rw [hg]
  cases op <;> simp only [opStr] at hv <;> first
    | (obtain ⟨hb, rfl⟩ := hv
       have hb := of_decide_eq_true hb
       refine ⟨.string (x ++ y), ?_, rfl⟩
       have : ¬ ((x.size + y.size : Nat) : Int) > IntKind.i64.max := by
         simp [IntKind.max, IntKind.bits, IntKind.signed]; omega
       simp only [binOp, Op.stringOp, pure_bind]
       rw [if_neg this]; rfl)
    | (obtain rfl : v = _ := hv
       refine ⟨_, ?_, rfl⟩
       simp [binOp, Op.stringOp]; done)
    | exact hv.elim

theorem tyIs_bool (hT : TabOk P C.Θ) {T : Nat} (h : tyIs C T isBoolTy = true) : P.underlying T = some .bool := by
  unfold tyIs at h
  split at h
  · rename_i ti ht
    cases hs : ti.ty with
    | bool =>
      obtain ⟨d, h1, h2⟩ := (hT T ti ht).desc
      unfold DescOk at h2
      rw [hs] at h2
      simp only at h2
      rw [h1, h2]
    | _ => rw [hs] at h; cases h
  · cases h

theorem tyIs_sl (hT : TabOk P C.Θ) {T : Nat} (h : tyIs C T isSlTy = true) : ∃ e, P.underlying T = some (.slice e) := by
  unfold tyIs at h
  split at h
  · rename_i ti ht
    cases hs : ti.ty with
    | sl e =>
      obtain ⟨d, h1, h2⟩ := (hT T ti ht).desc
      unfold DescOk at h2
      rw [hs] at h2
      obtain ⟨rfl, _⟩ := h2
      exact ⟨_, h1⟩
    | _ => rw [hs] at h; cases h
  · cases h

theorem opBool_sound (hT : TabOk P C.Θ) {op : BinOp} {x y : Bool} {v : AV} {t : TypeId} (ht : tyIs C t isBoolTy = true)
    (hv : (opBool op x y).res v) (o1 o2 : Operand) :
    ∃ z, (do eqGuard op t o1 o2 (.bool x) (.bool y); binOp op t (.bool x) (.bool y)).run P w = .ok z w ∧ RV w p G obj v z := by
  have hg : ∀ op, eqGuard op t o1 o2 (.bool x) (.bool y) = pure () := by
    intro op; cases op <;> simp [eqGuard]
  rw [hg]
  have he := run_equalIn_bool (P := P) w 9999 t x y (tyIs_bool hT ht)
  cases op <;> first
    | (obtain rfl : v = _ := hv
       refine ⟨_, ?_, rfl⟩
       simp only [binOp, Op.equal, Op.maxDepth, pure_bind, Sem.run_bind, he, Result.andThen_ok, Sem.run_pure]; done)
    | exact hv.elim

theorem opUn_sound {op : UnOp} {x : AV} {v : AV} {u : Value} (hu : RV w p G obj x u) (hv : (opUn op x).res v) :
    ∃ z, (Op.unary op u).run P w = .ok z w ∧ RV w p G obj v z := by
  unfold opUn at hv
  split at hv
  · obtain rfl : v = _ := hv
    obtain rfl := bool_of hu
    exact ⟨_, rfl, rfl⟩
  · obtain rfl : v = _ := hv
    obtain rfl := int_of hu
    exact ⟨_, rfl, rfl⟩
  · exact hv.elim

theorem opExtract_sound {x : AV} {i : Nat} {v : AV} {u : Value} (hu : RV w p G obj x u) (hv : (opExtract x i).res v) :
    ∃ z, (Instr.extract u i).run P w = .ok z w ∧ RV w p G obj v z := by
  have go : ∀ (qs : List (Bool × List Leaf)) (ws : List Value) (i : Nat) (b : Bool) (ls : List Leaf), RT w p G obj qs ws → qs[i]? = some (b, ls) → ∃ z, ws[i]? = some z ∧ R1 w p G obj b ls z := by
    intro qs
    induction qs with
    | nil => intro ws i b ls _ h; cases h
    | cons q qs ih =>
      intro ws i b ls h hi
      obtain ⟨v, r, rfl, h1, h2⟩ := h
      cases i with
      | zero =>
        simp only [List.getElem?_cons_zero, Option.some.injEq] at hi
        subst hi
        exact ⟨v, rfl, h1⟩
      | succ i => exact ih r i b ls h2 hi
  unfold opExtract at hv
  split at hv
  · rename_i vs
    split at hv
    · rename_i b ls hi
      obtain rfl : v = _ := hv
      obtain ⟨ws, rfl, h2⟩ := hu
      obtain ⟨z, h3, h4⟩ := go vs ws i b ls h2 hi
      refine ⟨z, ?_, R1_mkAV h4⟩
      simp [Instr.extract, h3]
    · exact hv.elim
  · exact hv.elim

theorem cond_res {c : Bool} {e : Eff} {v : AV} (h : (cond c e .fail).res v) : c = true ∧ e.res v := by
  cases c with
  | true => exact ⟨rfl, h⟩
  | false => exact h.elim

theorem opLen_sound (hT : TabOk P C.Θ) {T : Nat} {env : Nat → AV} {x : AV} {v : AV} {u : Value}
    (ty : TypeId) (hu : RV w p G obj x u) (hv : (opLen C ⟨env, obj⟩ T x).res v) :
    ∃ z, (Builtin.len_ #[T] ty #[u]).run P w = .ok z w ∧ RV w p G obj v z := by
  have hsl : tyIs C T isSlTy = true → ∀ (ao : Option Addr) (n c : Nat), (Builtin.len_ #[T] ty #[.slice ao n c]).run P w = .ok (.int .i64 n) w := by
    intro ht ao n c
    obtain ⟨e, he⟩ := tyIs_sl hT ht
    simp [Builtin.len_, run_underlying he, goInt]
  unfold opLen at hv
  split at hv
  · rename_i s
    obtain ⟨hc, hv⟩ := cond_res hv
    obtain rfl : v = _ := hv
    obtain rfl := str_of hu
    have hun := tyIs_str hT hc
    exact ⟨.int .i64 s.size, by simp [Builtin.len_, run_underlying hun, goInt], rfl⟩
  · obtain ⟨hc, hv⟩ := cond_res hv
    obtain rfl : v = _ := hv
    obtain ⟨ao, c, ds, h1, _⟩ := hu
    simp only [List.cons.injEq, and_true] at h1
    subst h1
    exact ⟨_, hsl hc _ _ _, rfl⟩
  · obtain ⟨hc, hv⟩ := cond_res hv
    obtain rfl : v = _ := hv
    obtain rfl := nil_of hu
    exact ⟨_, hsl hc _ _ _, rfl⟩
  · rename_i n
    split at hv
    · rename_i tid e xs ho
      obtain ⟨hc, hv⟩ := cond_res hv
      obtain rfl : v = _ := hv
      obtain ⟨v1, h1, _, h3, h4⟩ := hu
      simp only [List.cons.injEq, and_true] at h1
      subst h1
      rw [h4 e (List.length xs) (by simp only at ho; rw [ho]; rfl)]
      exact ⟨_, hsl hc _ _ _, rfl⟩
    · rename_i tid d kk xs hh ho
      obtain ⟨hc, hv⟩ := cond_res hv
      obtain rfl : v = _ := hv
      obtain ⟨v1, h1, _, h3, h4⟩ := hu
      simp only [List.cons.injEq, and_true] at h1
      subst h1
      rw [h4 d.ty (List.length xs) (by simp only at ho; rw [ho]; rfl)]
      exact ⟨_, hsl hc _ _ _, rfl⟩
    · exact hv.elim
  · exact hv.elim

theorem okPtr_sound {x : AV} {v : AV} {u : Value} {env : Nat → AV} (hu : RV w p G obj x u)
    (hv : (okPtr ⟨env, obj⟩ x).res v) (o : Oper) (y : Operand) (ho : o.op = .nilCheck y) (ρ : Operand → Value) (hρ : ρ y = u) :
    ∃ z, (execOp ρ o).run P w = .ok (.value z) w ∧ RV w p G obj v z := by
  have hp : ∀ ad, u = .pointer (some ad) → (execOp ρ o).run P w = .ok (.value u) w := by
    intro ad hu
    unfold execOp
    simp only [ho, hρ, hu]
    rfl
  unfold okPtr at hv
  split at hv
  · rename_i n off
    split at hv
    · rename_i ls h5
      obtain rfl : v = _ := hv
      have hu' := hu
      obtain ⟨v1, h1, _, h3, h4⟩ := hu
      simp only [List.cons.injEq, and_true] at h1
      subst h1
      exact ⟨_, hp _ (h4 ls h5), hu'⟩
    · exact hv.elim
  · obtain rfl : v = _ := hv
    have hu' := hu
    obtain ⟨ad, ds, h1, _⟩ := hu
    simp only [List.cons.injEq, and_true] at h1
    exact ⟨_, hp _ h1, hu'⟩
  · obtain rfl : v = _ := hv
    have hu' := hu
    obtain ⟨vs, h1, _⟩ := hu
    simp only [List.cons.injEq, and_true] at h1
    refine ⟨u, ?_, hu'⟩
    unfold execOp
    simp only [ho, hρ, h1]
    rfl
  · exact hv.elim

theorem opMinMax_sound {b : Builtin} {x y : AV} {v : AV} {u1 u2 : Value} (hb : b = .min ∨ b = .max) (ts : Array TypeId) (ty : TypeId)
    (h1 : RV w p G obj x u1) (h2 : RV w p G obj y u2) (hv : (opMinMax b x y).res v) :
    ∃ z, (match b with | .min => Builtin.min_ ts ty #[u1, u2] | _ => Builtin.max_ ts ty #[u1, u2]).run P w = .ok z w ∧ RV w p G obj v z := by
  unfold opMinMax at hv
  split at hv
  · rename_i k a k' c
    obtain ⟨hc, hv⟩ := cond_res hv
    obtain rfl := of_decide_eq_true hc
    obtain rfl := int_of h1
    obtain rfl := int_of h2
    rcases hb with rfl | rfl
    · simp only [decide_true, cond_true] at hv
      obtain rfl : v = _ := hv
      refine ⟨_, ?_, rfl⟩
      simp [Builtin.min_, Builtin.min2]
    · simp only [decide_true, cond_true] at hv
      obtain rfl : v = _ := hv
      refine ⟨_, ?_, rfl⟩
      simp [Builtin.max_, Builtin.max2]
  · exact hv.elim

theorem capsOf_sound (h : Rel N w0 p0 Bs G st a w) : ∀ {xs : List Operand} {ns : List Nat}, capsOf st xs = some ns → capsR G st.obj ns (xs.map a.eval)
  | [], _, hc => by cases hc; rfl
  | x :: xs, _, hc => by
    simp only [capsOf] at hc
    split at hc
    · rename_i n ns hx hn
      cases hc
      have := val_sound h x
      rw [hx] at this
      obtain ⟨v1, h1, h2, h3, h4⟩ := this
      simp only [List.cons.injEq, and_true] at h1
      subst h1
      exact ⟨_, _, rfl, h2, h3, h4, capsOf_sound h hn⟩
    · cases hc

theorem eqL_sound {x y z : Leaf} {c d : List Value} {b : Bool} {dd : TypeDesc} {t : TypeId} {n : Nat} (h1 : RL w p G obj x c) (h2 : RL w p G obj y d) (hx : sameKind z x = true) (hy : sameKind z y = true)
    (hz : descL z = some dd) (hd : P.underlying t = some dd) (hb : eqL x y = some b) :
    ∃ u1 u2, c = [u1] ∧ d = [u2] ∧ (Op.equalIn (n + 1) t u1 u2).run P w = .ok b w := by
  cases z with
  | int k zz =>
    cases hz
    cases x <;> simp only [sameKind, Bool.false_eq_true] at hx
    cases y <;> simp only [sameKind, Bool.false_eq_true] at hy
    obtain rfl := of_decide_eq_true hx
    obtain rfl := of_decide_eq_true hy
    simp only [eqL, if_true, Option.some.injEq] at hb
    subst hb
    exact ⟨_, _, h1, h2, run_equalIn_int w n t _ _ _ _ hd⟩
  | bool zz =>
    cases hz
    cases x <;> simp only [sameKind, Bool.false_eq_true] at hx
    cases y <;> simp only [sameKind, Bool.false_eq_true] at hy
    simp only [eqL, Option.some.injEq] at hb
    subst hb
    exact ⟨_, _, h1, h2, run_equalIn_bool w n t _ _ hd⟩
  | str zz =>
    cases hz
    cases x <;> simp only [sameKind, Bool.false_eq_true] at hx
    cases y <;> simp only [sameKind, Bool.false_eq_true] at hy
    simp only [eqL, Option.some.injEq] at hb
    subst hb
    refine ⟨_, _, h1, h2, ?_⟩
    rw [run_equalIn_string w n t _ _ hd, beq_toListBytes]
  | _ => cases hz

/-- '==' of structs whose fields are one cell each. -/
theorem eqFs_sound : ∀ (fs : List Field) (k d : Nat) (zs xs ys : List Leaf) (cs ds pre1 pre2 : List Value) (b : Bool), EqFs P k fs zs → RLs w p G obj xs cs → RLs w p G obj ys ds →
    sameKinds zs xs = true → sameKinds zs ys = true → pre1.length = k → pre2.length = k → eqLs xs ys = some b →
    (Op.eqFields (d + 1) (pre1 ++ cs).toArray (pre2 ++ ds).toArray fs).run P w = .ok b w
  | [], k, d, zs, xs, ys, cs, ds, pre1, pre2, b, h0, _, _, h3, h4, _, _, h7 => by
    have h0 : zs = [] := h0
    subst h0
    cases xs <;> simp only [sameKinds, Bool.false_eq_true] at h3
    cases ys <;> simp only [sameKinds, Bool.false_eq_true] at h4
    cases h7
    simp [Op.eqFields]
  | f :: fs, k, d, zs, xs, ys, cs, ds, pre1, pre2, b, he, h1, h2, h3, h4, h5, h6, h7 => by
    match zs, xs, ys, he, h1, h2, h3, h4, h7 with
    | z :: zs, x :: xs, y :: ys, he, h1, h2, h3, h4, h7 =>
    obtain ⟨e1, e2, ⟨dd, e3, e4⟩, e5⟩ := he
    simp only [sameKinds, Bool.and_eq_true] at h3 h4
    obtain ⟨c1, c2, rfl, k1, k2⟩ := h1
    obtain ⟨d1, d2, rfl, j1, j2⟩ := h2
    have hb : ∃ b1 b2, eqL x y = some b1 ∧ eqLs xs ys = some b2 ∧ b = (b1 && b2) := by
      have e : ∀ (o1 o2 : Option Bool), (match o1, o2 with
          | some x, some y => some (x && y)
          | _, _ => none) = some b → ∃ b1 b2, o1 = some b1 ∧ o2 = some b2 ∧ b = (b1 && b2) := by
        intro o1 o2 h
        cases o1 <;> cases o2 <;> simp_all
      cases xs with
      | nil => cases ys with
        | nil => exact ⟨b, true, h7, rfl, by simp⟩
        | cons _ _ => exact e _ _ h7
      | cons _ _ => exact e _ _ h7
    obtain ⟨b1, b2, hb1, hb2, rfl⟩ := hb
    obtain ⟨u1, u2, rfl, rfl, hq⟩ := eqL_sound (n := d) k1 j1 h3.1 h4.1 e3 e4 hb1
    have hagg : (isAgg f.type).run P w = .ok false w := by
      unfold isAgg
      simp only [Sem.run_bind, run_underlying e4, Result.andThen_ok]
      cases z <;> cases e3 <;> rfl
    have hpart : ∀ (pre r : List Value) (v : Value), pre.length = k → (part f.type (pre ++ ([v] ++ r)).toArray f.offset).run P w = .ok v w := by
      intro pre r v hp
      unfold part
      simp only [Sem.run_bind, hagg, Result.andThen_ok, Bool.false_eq_true, if_false]
      have : (pre ++ ([v] ++ r)).toArray[f.offset]? = some v := by simp [e1, ← hp]
      simp only [this, Sem.run_pure]
    have ih := eqFs_sound fs (k + 1) d zs xs ys c2 d2 (pre1 ++ [u1]) (pre2 ++ [u2]) b2 e5 k2 j2 h3.2 h4.2 (by simp [h5]) (by simp [h6]) hb2
    rw [List.append_assoc, List.append_assoc] at ih
    rw [Op.eqFields]
    simp only [if_pos e2, Sem.run_bind, hpart pre1 c2 u1 h5, hpart pre2 d2 u2 h6, hq, Result.andThen_ok]
    cases b1
    · simp
    · simpa using ih

theorem opEqSt_sound (hT : TabOk P C.Θ) {op : BinOp} {t : TypeId} {x y : AV} {u1 u2 : Value} {v : AV} (h1 : RV w p G obj x u1) (h2 : RV w p G obj y u2)
    (hv : (opEqSt C op t x y).res v) (o1 o2 : Operand) :
    ∃ z, (do eqGuard op t o1 o2 u1 u2; binOp op t u1 u2).run P w = .ok z w ∧ RV w p G obj v z := by
  unfold opEqSt at hv
  split at hv
  · rename_i ti xs ys ht
    obtain ⟨hc, hv⟩ := cond_res hv
    simp only [Bool.and_eq_true] at hc
    obtain ⟨⟨c1, c2⟩, c3⟩ := hc
    have hty := hT t ti ht
    obtain ⟨cs, rfl, k1⟩ := h1
    obtain ⟨ds, rfl, k2⟩ := h2
    obtain ⟨d, e1, e2⟩ := hty.desc
    have key : ∃ fs, d = .struct fs ∧ P.stoodInHeld t = false ∧ P.eqGuardType P.depth t = false ∧ EqFs P 0 fs.toList (zleaves ti.ty) := by
      unfold DescOk at e2
      rcases hty.nofl with hq | hq | ⟨a', b', hq⟩
      · rw [hq.2] at c1; cases c1
      · rw [hq] at e2; obtain ⟨fs, q1, _, _, q4⟩ := e2; rw [hq]; exact ⟨fs, q1, q4 c1⟩
      · rw [hq] at e2; obtain ⟨fs, q1, _, _, q4⟩ := e2; rw [hq]; exact ⟨fs, q1, q4 c1⟩
    obtain ⟨fs, rfl, q1, q2, q3⟩ := key
    cases hb : eqLs xs ys with
    | none => rw [hb] at hv; exact hv.elim
    | some b =>
      rw [hb] at hv
      have hrun := eqFs_sound (P := P) (w := w) (p := p) (G := G) (obj := obj) fs.toList 0 9998 (zleaves ti.ty) xs ys cs ds [] [] b q3 k1 k2 c2 c3 rfl rfl hb
      simp only [List.nil_append] at hrun
      have hf : P.fieldsOf t = fs := by simp [Program.fieldsOf, e1]
      have heq : (Op.equal t (.agg cs.toArray) (.agg ds.toArray)).run P w = .ok b w := by
        unfold Op.equal Op.maxDepth
        rw [run_equalIn_struct (P := P) w 9999 t _ _ (by rw [hf]; exact e1) q1, hf]
        exact hrun
      have hg : (eqGuard op t o1 o2 (.agg cs.toArray) (.agg ds.toArray)).run P w = .ok () w := by
        cases op <;> simp [eqGuard, q2]
      cases op <;> simp only at hv <;> first
        | (obtain rfl : v = _ := hv
           refine ⟨_, ?_, rfl⟩
           simp only [Sem.run_bind, hg, Result.andThen_ok, binOp, heq, Sem.run_pure]; done)
        | exact hv.elim
  · exact hv.elim

/-! ### composite literals -/

theorem zip_foldl (new : List Value) : ∀ (off k : Nat) (cs : List Value), off + k + new.length ≤ cs.length →
    (new.zipIdx k).foldl (fun (c : Array Value) (x : Value × Nat) => c.setIfInBounds (off + x.2) x.1) cs.toArray = (cs.take (off + k) ++ new ++ cs.drop (off + k + new.length)).toArray := by
  induction new with
  | nil => intro off k cs h; simp
  | cons v new ih =>
    intro off k cs h
    simp only [List.length_cons] at h
    rw [List.zipIdx_cons, List.foldl_cons, List.setIfInBounds_toArray, ih off (k + 1) _ (by simp; omega)]
    congr 1
    have := list_seg_step cs (off + k) v new (by omega)
    rw [← Nat.add_assoc, this]
    simp [Nat.add_comm, Nat.add_left_comm]

theorem fill_one {place : Nat → Option (Nat × Nat)} {cs new : List Value} {i off size : Nat} {v : Value} {rest : List (Nat × Value)} (hp : place i = some (off, size)) (hv : v.cells = new.toArray)
    (hl : new.length = size) (hle : off + size ≤ cs.length) :
    Instr.fill place cs.toArray ((i, v) :: rest) = Instr.fill place (cs.take off ++ new ++ cs.drop (off + size)).toArray rest := by
  rw [Instr.fill]
  simp only [hp]
  have h1 : ¬ (v.cells.size ≠ size ∨ off + v.cells.size > cs.toArray.size) := by rw [hv]; simp; omega
  have h2 : (decide (v.cells.size ≠ size) || decide (off + v.cells.size > cs.toArray.size)) = false := by rw [hv]; simp; omega
  simp only [h2, Bool.false_eq_true, if_false]
  congr 1
  have := zip_foldl new off 0 cs (by omega)
  rw [hv, ← Array.foldl_toList]
  simp only [Array.toList_zipIdx, Nat.add_zero, hl] at this ⊢
  exact this

theorem fillSt_sound (hT : TabOk P C.Θ) (h : Rel N w0 p0 Bs G st a w) {T : Nat} {ti : TI} (ht : C.Θ T = some ti) {fs : Array Field} (hfs : (fs.toList.map fun f => (f.offset, f.type)) = ti.flds)
    {places : Array (Nat × Nat)} (hpl : ∀ (j : Nat) (f : Field) (tf : TI), fs.toList[j]? = some f → C.Θ f.type = some tf → places[j]? = some (f.offset, tf.ty.size)) :
    ∀ (parts : List (Nat × Operand)) (ls out : List Leaf) (cs : List Value), RLs w (reg w0 p0 Bs G st.obj) G st.obj ls cs → fillSt C T st parts ls = some out →
    ∃ ds, Instr.fill (places[·]?) cs.toArray (parts.map fun q => (q.1, a.eval q.2)) = some ds.toArray ∧ RLs w (reg w0 p0 Bs G st.obj) G st.obj out ds
  | [], ls, out, cs, h1, h2 => by
    cases h2
    exact ⟨cs, rfl, h1⟩
  | (i, x) :: r, ls, out, cs, h1, h2 => by
    simp only [fillSt, ht] at h2
    split at h2
    · rename_i off ft new hf hn
      split at h2
      · rename_i tf htf
        cases hc : Nat.beq (sizes new) tf.ty.size with
        | false => rw [hc] at h2; cases h2
        | true =>
        rw [hc] at h2
        simp only [cond_true] at h2
        split at h2
        · rename_i ls' hs
          obtain ⟨ns, k1, k2, _⟩ := AV.leaves_sound hn (val_sound h x)
          obtain ⟨k3, k4⟩ := spliceC_sound h1 k1 hs
          have hlen := RLs.length _ _ k1
          rw [Nat.eq_of_beq_eq_true hc] at hlen
          have hq : ∃ f, fs.toList[i]? = some f ∧ f.offset = off ∧ f.type = ft := by
            rw [← hfs, List.getElem?_map] at hf
            cases hq : fs.toList[i]? with
            | none => rw [hq] at hf; cases hf
            | some f =>
              rw [hq] at hf
              simp only [Option.map_some, Option.some.injEq, Prod.mk.injEq] at hf
              exact ⟨f, rfl, hf.1, hf.2⟩
          obtain ⟨f, q1, rfl, rfl⟩ := hq
          obtain ⟨ds, j1, j2⟩ := fillSt_sound hT h ht hfs hpl r ls' out _ k3 h2
          refine ⟨ds, ?_, j2⟩
          rw [List.map_cons, fill_one (hpl i f tf q1 htf) k2 hlen (by rw [← hlen]; exact k4), ← hlen]
          exact j1
        · cases h2
      · cases h2
    · cases h2

theorem TyOk.run_zero {t : Nat} {i : TI} (h : TyOk P C.Θ t i) : (zeroValue t).run P w = .ok (if i.ty.agg = true then .agg (zcells i.ty).toArray else (zcells i.ty).headD undef) w := by
  obtain ⟨info, h1, h2, h3, _⟩ := h.info
  simp [zeroValue, typeInfo, h1, h3]

theorem run_places (hT : TabOk P C.Θ) : ∀ (fs : List Field) (acc : Array (Nat × Nat)), (∀ f ∈ fs, ∃ tf, C.Θ f.type = some tf ∧ tf.ty.size ≠ 0) →
    ∃ pl : List (Nat × Nat), (fs.mapM (m := Sem) fun f => do pure (f.offset, ← sizeOf f.type)).run P w = .ok pl w ∧
      ∀ (j : Nat) (f : Field) (tf : TI), fs[j]? = some f → C.Θ f.type = some tf → pl[j]? = some (f.offset, tf.ty.size)
  | [], _, _ => ⟨[], by simp, fun j f tf hj => by cases hj⟩
  | f :: fs, acc, h => by
    obtain ⟨tf, h1, _⟩ := h f (List.mem_cons_self ..)
    obtain ⟨pl, h2, h3⟩ := run_places hT fs acc (fun g hg => h g (List.mem_cons_of_mem _ hg))
    refine ⟨(f.offset, tf.ty.size) :: pl, ?_, ?_⟩
    · simp only [List.mapM_cons, Sem.run_bind, (hT _ _ h1).run_sizeOf, Result.andThen_ok, Sem.run_pure, h2]
    · intro j g tg hj hg
      cases j with
      | zero =>
        simp only [List.getElem?_cons_zero, Option.some.injEq] at hj
        subst hj
        rw [h1] at hg
        obtain rfl := Option.some.inj hg
        rfl
      | succ j => exact h3 j g tg hj hg

theorem opBuild_sound (hT : TabOk P C.Θ) (h : Rel N w0 p0 Bs G st a w) {T : Nat} {parts : Array (Nat × Operand)} {v : AV}
    (hv : (opBuild C T st parts.toList).res v) :
    ∃ z, (Instr.build T (parts.map fun q => (q.1, a.eval q.2))).run P w = .ok z w ∧ RV w (reg w0 p0 Bs G st.obj) G st.obj v z := by
  unfold opBuild at hv
  split at hv
  · exact hv.elim
  · rename_i ti ht
    have hty := hT T ti ht
    have hz := hty.run_zero (w := w)
    obtain ⟨d, e1, e2⟩ := hty.desc
    unfold DescOk at e2
    have struct : ∀ (fs : Array Field), d = .struct fs → ti.ty.agg = true → (fs.toList.map fun f => (f.offset, f.type)) = ti.flds → (∀ f ∈ fs.toList, ∃ tf, C.Θ f.type = some tf ∧ tf.ty.size ≠ 0) →
        ∀ out, fillSt C T st parts.toList (zleaves ti.ty) = some out →
        ∃ z, (Instr.build T (parts.map fun q => (q.1, a.eval q.2))).run P w = .ok z w ∧ RV w (reg w0 p0 Bs G st.obj) G st.obj (.ag out) z := by
      intro fs hd hg hm hs out ho
      subst hd
      obtain ⟨pl, q1, q2⟩ := run_places (w := w) hT fs.toList #[] hs
      have q1' : (fs.mapM (m := Sem) fun f => do pure (f.offset, ← sizeOf f.type)).run P w = .ok pl.toArray w := by
        rw [Array.mapM_eq_mapM_toList]
        simp only [Sem.run_map, q1, Result.andThen_ok]
      obtain ⟨ds, j1, j2⟩ := fillSt_sound hT h ht hm (places := pl.toArray) (fun j f tf hj hf => by simpa using q2 j f tf hj hf) parts.toList _ out _ (zleaves_sound ti.ty) ho
      refine ⟨.agg ds.toArray, ?_, ⟨ds, rfl, j2⟩⟩
      unfold Instr.build
      simp only [Sem.run_bind, hz, Result.andThen_ok, hg, if_true, Sem.run_pure, run_underlying e1, q1', Value.cells, Array.toList_map, j1]
    split at hv
    · rename_i n e hq hp
      obtain rfl : v = _ := hv
      rw [hq] at e2
      obtain ⟨rfl, te, hte, he⟩ := e2
      have hse := (hT _ _ hte).run_sizeOf (w := w)
      have hp' : parts = #[] := by
        apply Array.ext'; rw [hp]
      subst hp'
      refine ⟨.agg (zcells ti.ty).toArray, ?_, ⟨zcells (.arr n e), by rw [hq], ?_⟩⟩
      · unfold Instr.build
        simp only [Sem.run_bind, hz, Result.andThen_ok, hq, Ty.agg, if_true, Sem.run_pure, run_underlying e1, hse, Value.cells]
        simp [Instr.fill]
      · exact RLs.single (Rep.zero _ _ (.arr n e))
    · rename_i hq hp
      obtain rfl : v = _ := hv
      rw [hq] at e2
      obtain ⟨fs, rfl, r2, r3, _⟩ := e2
      exact struct fs rfl (by rw [hq]; rfl) r2 r3 [] (by rw [hp, hq]; rfl)
    · rename_i x y ps hq
      rw [← hq] at hv
      rw [hq] at e2
      obtain ⟨fs, rfl, r2, r3, _⟩ := e2
      split at hv
      · rename_i ls hf
        obtain rfl : v = _ := hv
        exact struct fs rfl (by rw [hq]; rfl) r2 r3 ls hf
      · exact hv.elim
    · exact hv.elim

/-! ### conversions -/

theorem repL_u8 : ∀ (xs : List Int) (ds : List Value), RepL (Rep w p (.int .u8)) xs ds → ds = xs.map fun n => Value.int .u8 n
  | [], _, h => h
  | x :: xs, _, h => by
    obtain ⟨c1, c2, rfl, h1, h2⟩ := h
    have h1 : c1 = [.int .u8 x] := h1
    rw [h1, repL_u8 xs c2 h2]; rfl

theorem run_bytes : ∀ (xs : List Int) (s : ByteArray),
    (forIn (m := Sem) (xs.map fun n => Value.int .u8 n) s fun c r => match c with
      | .int .u8 n => pure (ForInStep.yield (r.push (UInt8.ofNat n.toNat)))
      | _ => do
        (stuck "bytesToString: byte expected" : Sem PUnit)
        pure (ForInStep.yield r)).run P w = .ok ⟨(s.data.toList ++ xs.map fun n => UInt8.ofNat n.toNat).toArray⟩ w
  | [], s => by
    simp only [List.map_nil, List.forIn_nil, Sem.run_pure, List.append_nil]
  | x :: xs, s => by
    simp only [List.map_cons, List.forIn_cons, pure_bind]
    rw [run_bytes xs]
    congr 2
    simp [ByteArray.push]

theorem opConv_sound (hT : TabOk P C.Θ) (h : Rel N w0 p0 Bs G st a w) {src dst : Nat} {x : AV} {v : AV} {u : Value}
    (hu : RV w (reg w0 p0 Bs G st.obj) G st.obj x u) (hv : (opConv C st src dst x).res v) :
    ∃ z, (convert src dst u).run P w = .ok z w ∧ RV w (reg w0 p0 Bs G st.obj) G st.obj v z := by
  unfold opConv at hv
  split at hv
  · rename_i tj ti hs hd
    obtain ⟨ds, e1, e2⟩ := (hT _ _ hs).desc
    obtain ⟨dd, f1, f2⟩ := (hT _ _ hd).desc
    unfold DescOk at e2 f2
    split at hv
    · rename_i k1 k k2 n h1 h2
      rw [h1] at e2; rw [h2] at f2
      simp only at e2 f2
      subst e2; subst f2
      obtain rfl : v = _ := hv
      obtain rfl := int_of hu
      refine ⟨_, ?_, rfl⟩
      simp [convert, run_underlying e1, run_underlying f1, Conv.intToInt]
    · rename_i s h1 h2
      rw [h1] at e2; rw [h2] at f2
      simp only at e2 f2
      subst e2; subst f2
      obtain rfl : v = _ := hv
      obtain rfl := str_of hu
      refine ⟨_, ?_, rfl⟩
      simp [convert, run_underlying e1, run_underlying f1]
    · rename_i n h1 h2
      rw [h1] at e2; rw [h2] at f2
      simp only at f2
      subst f2
      obtain ⟨rfl, _, te, hte, he⟩ := e2
      split at hv
      · rename_i tid xs ho
        obtain rfl : v = _ := hv
        obtain ⟨v1, k1, _, k3, k4⟩ := hu
        simp only [List.cons.injEq, and_true] at k1
        subst k1
        rw [k4 _ (List.length xs) (by rw [ho]; rfl)]
        have hun : P.underlying tj.elem = some (.int .u8) := by
          obtain ⟨d, q1, q2⟩ := (hT _ _ hte).desc
          unfold DescOk at q2
          rw [he] at q2
          simp only at q2
          rw [q1, q2]
        have hO := h.objs n
        rw [ho] at hO
        obtain ⟨ds, j1, j2⟩ := hO
        have hds := repL_u8 xs ds j2
        refine ⟨.string (bytesOf xs), ?_, rfl⟩
        have hconv : ∀ y, convert src dst y = convert src dst y := fun _ => rfl
        rcases j1.2 with ⟨j3, j4⟩ | ⟨g, cap, cur, j3, _, j5, j6, j7, j8, j9⟩
        · rw [j3]
          have hx : xs = [] := List.eq_nil_of_length_eq_zero j4
          subst hx
          simp [convert, run_underlying e1, run_underlying f1, run_underlying hun, Conv.bytesToString]
          rfl
        · have hl : (loadCells ⟨g, 0, none⟩ xs.length).run P w = .ok ds.toArray w := by
            have hlen : ds.length = xs.length := by rw [hds]; simp
            rw [← hlen]
            refine run_loadCells_list w _ ds fun j v hj => ?_
            have := j1.cells (g := g) (by rw [j3]; rfl) j v hj
            exact this
          rw [j3]
          simp only [convert, Sem.run_bind, run_underlying e1, run_underlying f1, Result.andThen_ok, run_underlying hun, Conv.bytesToString, hl]
          rw [hds, ← Array.forIn_toList, List.toList_toArray]
          have := run_bytes (P := P) (w := w) xs ByteArray.empty
          refine (congrArg (fun r => Result.andThen r fun a w' => Sem.run P (pure (Value.string a)) w') this).trans ?_
          simp [bytesOf]
      · exact hv.elim
    · exact hv.elim
  · exact hv.elim

end
end Go.Vx
