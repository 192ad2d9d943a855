/-
  A law's row: from a claim's arguments to the data, from the contract to what the claim asks.
-/
import Derived.Test.YtgdfaamcmkfkcaaVxTrod
import Derived.ProofKit
set_option linter.unusedSimpArgs false
set_option linter.unusedVariables false
set_option linter.unnecessarySimpa false
namespace Go.Vx
open Go.RowKit Go.ChangeShapes Go.WideShapes

def tyOf (Θ : Nat → Option TI) (t : Nat) : Ty := match Θ t with
  | some i => i.ty
  | none => .unit

def mkIns (Θ : Nat → Option TI) : Nat → List Nat → List (Nat × SSh)
  | _, [] => []
  | i, t :: ts => (i, .v (tyOf Θ t).agg [.val (tyOf Θ t)]) :: mkIns Θ (i + 1) ts

def WfHL : (cs : List Cm) → HL cs → Prop
  | [], _ => True
  | .val t :: cs, x => Wf t x.1 ∧ WfHL cs x.2
  | .own _ _ :: cs, x => WfHL cs x.2
  | .row _ _ :: cs, x => WfHL cs x.2
  | .box _ :: cs, x => WfHL cs x.2
  | .dp _ _ _ :: cs, x => WfHL cs x.2
  | .dlent _ _ :: cs, x => WfHL cs x.2

section
variable {H : Type} {enc : TypeId × Value → H} {P : Program} {Θ : Nat → Option TI} {W W' : World}

theorem okWide_sh {t : Nat} {i : TI} (h : TyOk P Θ t i) {r : Reach} {base : Nat} {v : Value} (hv : Value.okWide P W r base t v) : Sh i.ty.agg v v.cells.toList := by
  obtain ⟨d, hd, hdesc⟩ := h.desc
  unfold DescOk at hdesc
  have agg : (∃ cs, v = .agg cs) → Sh true v v.cells.toList := by
    rintro ⟨cs, rfl⟩
    show Value.agg cs = .agg (Value.cells (.agg cs)).toList.toArray
    simp [Value.cells]
  cases ht : i.ty with
  | int k =>
    rw [ht] at hdesc; simp only at hdesc; subst hdesc
    obtain ⟨n, rfl⟩ := okWide_int hd hv
    rfl
  | bool =>
    rw [ht] at hdesc; simp only at hdesc; subst hdesc
    obtain ⟨n, rfl⟩ := okWide_bool hd hv
    rfl
  | str =>
    rw [ht] at hdesc; simp only at hdesc; subst hdesc
    obtain ⟨n, rfl⟩ := okWide_string hd hv
    rfl
  | sl e =>
    rw [ht] at hdesc; simp only at hdesc
    obtain ⟨rfl, _⟩ := hdesc
    obtain ⟨a, l, c, rfl⟩ := okWide_slice hd hv
    rfl
  | arr n e =>
    rw [ht] at hdesc; simp only at hdesc
    obtain ⟨rfl, _⟩ := hdesc
    simp only [Value.okWide, hd] at hv
    obtain ⟨cs, h1, _⟩ := hv
    exact agg ⟨cs, h1⟩
  | unit =>
    rw [ht] at hdesc
    obtain ⟨fs, rfl, _⟩ := hdesc
    obtain ⟨cs, h1, _⟩ := okWide_struct hd hv
    exact agg ⟨cs, h1⟩
  | pair a b =>
    rw [ht] at hdesc
    obtain ⟨fs, rfl, _⟩ := hdesc
    obtain ⟨cs, h1, _⟩ := okWide_struct hd hv
    exact agg ⟨cs, h1⟩

theorem args_IS (hT : TabOk P Θ) (hTie : TieOk Θ) {base : Nat} {V : Nat → Value} : ∀ (ts : List Nat) (i : Nat) (vs : List Value) (ds : List (DataW H)) (ps : List MemPlace), (∀ t ∈ ts, (Θ t).isSome = true) →
    (∀ (j : Nat) t v, ts[j]? = some t → vs[j]? = some v → Value.okWide P W .any base t v) → DataW.TrodAll enc P W 0 (fun _ => true) true ts vs ds ps → (∀ j v, vs[j]? = some v → V (i + j) = v) →
    vs.length = ts.length ∧ ∃ x, IS W (fun b => b < W.heap.size) (mkIns Θ i ts) x V [] ∧ WfHL (saveC (mkIns Θ i ts)) x
  | [], _, [], [], _, _, _, _, _ => ⟨rfl, (), rfl, trivial⟩
  | [], _, _ :: _, _, _, _, _, h, _ => by cases h
  | [], _, [], _ :: _, _, _, _, h, _ => by cases h
  | _ :: _, _, [], _, _, _, _, h, _ => by cases h
  | _ :: _, _, _ :: _, [], _, _, _, h, _ => by cases h
  | t :: ts, i, v :: vs, d :: ds, ps, hk, hok, h, hV => by
    obtain ⟨p, q, h1, h2, rfl⟩ := h
    obtain ⟨ti, hti⟩ := Option.isSome_iff_exists.1 (hk t (List.mem_cons_self ..))
    obtain ⟨hl, x, x1, x2⟩ := args_IS hT hTie ts (i + 1) vs ds q (fun t ht => hk t (List.mem_cons_of_mem _ ht)) (fun j t v ht hv => hok (j + 1) t v (by simpa using ht) (by simpa using hv)) h2
      (fun j v hv => by rw [show i + 1 + j = i + (j + 1) by omega]; exact hV (j + 1) v (by simpa using hv))
    obtain ⟨fuel, hf⟩ := h1
    have hty : tyOf Θ t = ti.ty := by unfold tyOf; rw [hti]
    have hrep : ∃ y : (tyOf Θ t).den, Rep W (fun b => b < W.heap.size) (tyOf Θ t) y v.cells.toList ∧ Wf (tyOf Θ t) y := by
      rw [hty]; exact trod_rep hT hTie fuel t ti _ _ hti hf
    obtain ⟨y, r1, r2⟩ := hrep
    have hsh : Sh (tyOf Θ t).agg v v.cells.toList := by
      rw [hty]; exact okWide_sh (hT t ti hti) (hok 0 t v rfl rfl)
    have hv0 := hV 0 v rfl
    rw [Nat.add_zero] at hv0
    refine ⟨by simp [hl], ((y, x) : (tyOf Θ t).den × HL (saveC (mkIns Θ (i + 1) ts))), ?_, ?_⟩
    · show IS W (fun b => b < W.heap.size) ((i, .v (tyOf Θ t).agg [.val (tyOf Θ t)]) :: mkIns Θ (i + 1) ts) (y, x) V []
      exact ⟨v.cells.toList, [], [], rfl, by rw [hv0]; exact hsh, ⟨_, [], by simp, r1, rfl, rfl⟩, x1⟩
    · exact ⟨r2, x2⟩

theorem trodAll_below (hl : laidOutB P = true) (hb : Below W.heap.size W W') : ∀ (ts : List Nat) (vs : List Value) (ds : List (DataW H)) (ps : List MemPlace), (∀ t ∈ ts, P.readableRec t = true ∧ t < P.types.size) →
    DataW.TrodAll enc P W 0 (fun _ => true) true ts vs ds ps → (∀ p ∈ ps, p.block < W.heap.size) → DataW.TrodAll enc P W' 0 (fun b => decide (b < W.heap.size)) true ts vs ds ps
  | [], [], [], _, _, h, _ => h
  | [], _ :: _, _, _, _, h, _ => by cases h
  | [], [], _ :: _, _, _, h, _ => by cases h
  | _ :: _, [], _, _, _, h, _ => by cases h
  | _ :: _, _ :: _, [], _, _, h, _ => by cases h
  | t :: ts, v :: vs, d :: ds, ps, ht, h, hlt => by
    obtain ⟨p, q, h1, h2, rfl⟩ := h
    obtain ⟨k1, k2⟩ := ht t (List.mem_cons_self ..)
    exact ⟨p, q, Below.trod hl k1 k2 h1 hb fun x hx => hlt x (List.mem_append_left _ hx), trodAll_below hl hb ts vs ds q (fun t h => ht t (List.mem_cons_of_mem _ h)) h2 fun x hx => hlt x (List.mem_append_right _ hx), rfl⟩

theorem good_calls {k : Nat} {S : CSpec} (hg : Good P k S) {x : HL (saveC S.ins)} {y : Prods (saveC S.outs ++ iosC (saveC S.ins))} (hxy : S.call x = some y) {vs : List Value} (hlen : vs.length = S.ins.length)
    (hIS : IS W (fun b => b < W.heap.size) S.ins x (fun s => vs.getD s undef) []) :
    Calls P k vs.toArray W fun e W' => ∃ v V os' q, e = .returned v ∧ RetV S.outs v V ∧ IS W' q S.outs (fstHL (saveC S.outs) (iosC (saveC S.ins)) (toHL _ y)) V os' ∧ Below W.heap.size W W' := by
  refine (hg.con x y hxy W _ vs [] hlen hIS List.Pairwise.nil (fun o ho => by cases ho)).mono ?_
  rintro e W' ⟨v, V, os', q, os2, h1, h2, h3, _, _, _, hF⟩
  refine ⟨v, V, os', q, h1, h2, h3, hF.os, hF.tape, hF.output, hF.size, fun b hb => hF.block b hb fun h => ?_⟩
  obtain ⟨o, ho, _⟩ := h
  cases ho

/-- What a row of the template 'it returns true, the arguments read as before' asks behind the call. -/
theorem law_post {f : Func} {s : ChangeSpec} {args : Array Value} {ds : List (DataW H)} {ps : List MemPlace} {t : TypeId} (hvars : s.vars = []) (hW : DataW.Whole enc P f.params.toList s.vars false W args.toList ds [] ps)
    (hl : laidOutB P = true) (hp : ∀ t ∈ f.params.toList, P.readableRec t = true ∧ t < P.types.size) (hb : Below W.heap.size W W') (hr : f.resultTypes = #[t]) (ht : P.underlying t = some .bool)
    (hs : (s.fn H ds).results = [.lit (.bool true)] ∧ (s.fn H ds).args = ds ∧ (s.fn H ds).vars = []) : s.post enc P f false true false false W args (.bool true) W' := by
  obtain ⟨p, q, h1, h2, rfl, h4⟩ := hW
  have hq : q = [] := by
    rw [hvars] at h2
    exact h2
  subst hq
  have hlt := DataW.Whole.lt (show DataW.Whole enc P f.params.toList s.vars false W args.toList ds [] (p ++ []) from ⟨p, [], h1, h2, rfl, h4⟩)
  rw [List.append_nil] at hlt
  refine ⟨ds, [], p, [], p, [], ⟨p, [], h1, h2, by simp, by simpa using h4⟩, ?_, ?_, ?_, hb.frame _, fun h => by cases h⟩
  · rw [List.append_nil, hs.1, hr]
    exact trodAll_mk1 ⟨1, by simp [Value.cells, DataW.trod, ht]⟩
  · rw [List.append_nil, hs.2.1]
    exact trodAll_below hl hb _ _ _ _ hp h1 hlt
  · rw [List.append_nil, hs.2.2, hvars]
    rfl

theorem trodAll_len {spare : Nat → Bool} {held : Bool} {base : Nat} : ∀ (ts : List Nat) (vs : List Value) (ds : List (DataW H)) (ps : List MemPlace), DataW.TrodAll enc P W base spare held ts vs ds ps → ds.length = ts.length
  | [], [], [], _, _ => rfl
  | [], _ :: _, _, _, h => by cases h
  | [], [], _ :: _, _, h => by cases h
  | _ :: _, [], _, _, h => by cases h
  | _ :: _, _ :: _, [], _, h => by cases h
  | _ :: ts, _ :: vs, _ :: ds, _, h => by
    obtain ⟨p, q, _, h2, _⟩ := h
    rw [List.length_cons, List.length_cons, trodAll_len ts vs ds q h2]

theorem readable_of {ts : List Nat} (h : ts.all (fun t => P.readableRec t && Nat.blt t P.types.size) = true) : ∀ t ∈ ts, P.readableRec t = true ∧ t < P.types.size := by
  intro t ht
  have := List.all_eq_true.1 h t ht
  simp only [Bool.and_eq_true] at this
  exact ⟨this.1, by simpa using this.2⟩

theorem known_of {ts : List Nat} (h : ts.all (fun t => (Θ t).isSome) = true) : ∀ t ∈ ts, (Θ t).isSome = true := fun t ht => List.all_eq_true.1 h t ht

end
end Go.Vx
