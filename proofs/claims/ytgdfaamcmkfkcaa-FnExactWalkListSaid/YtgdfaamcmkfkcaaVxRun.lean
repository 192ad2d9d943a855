/-
  Rows of operations, control: what the reader answers is what the machine does.
-/
import Derived.Test.YtgdfaamcmkfkcaaVxSpec
set_option linter.unusedSimpArgs false
set_option linter.unusedVariables false
set_option linter.unnecessarySimpa false
namespace Go.Vx

def Keep (ks : List Nat) (a a' : Act) : Prop := ∀ i, i ∈ ks → a'.tmps.getD i undef = a.tmps.getD i undef

theorem Keep.refl (ks : List Nat) (a : Act) : Keep ks a a := fun _ _ => rfl
theorem Keep.trans {ks : List Nat} {a b c : Act} (h : Keep ks a b) (k : Keep ks b c) : Keep ks a c := fun i hi => (k i hi).trans (h i hi)

theorem Keep.put {ks : List Nat} {a : Act} {d : Option Nat} {v : Value} (hd : ∀ e, d = some e → e ∉ ks) : Keep ks a (a.put d v) := by
  intro i hi
  cases d with
  | none => rfl
  | some d =>
    have : d ≠ i := fun e => hd d rfl (e ▸ hi)
    simp only [Act.put, Array.getD_eq_getD_getElem?, Array.getElem?_setIfInBounds]
    rw [if_neg this]

section
variable {P : Program} {C : Cfg} {w0 : World} {p0 Bs : Nat → Prop} {G : Gh} {st : St} {a : Act} {w : World}

theorem Rel.relit {N : Nat} (h : Rel N w0 p0 Bs G st a w) {d : Nat} {x : AV} (hx : RV w (reg w0 p0 Bs G st.obj) G st.obj x (a.tmps.getD d undef)) : Rel N w0 p0 Bs G (st.put (some d) x) a w := by
  refine ⟨h.size, h.defers, fun s => ?_, h.objs, h.inj, h.bound, h.frame⟩
  rw [env_put]
  split
  · rename_i e; subst e; exact hx
  · exact h.slots s

theorem dstOk_spec {d : Option Nat} (h : dstOk C d = true) : (∀ e, d = some e → e < C.N) ∧ ∀ e, d = some e → e ∉ C.keep := by
  cases d with
  | none => exact ⟨fun _ h => (by cases h), fun _ h => (by cases h)⟩
  | some d =>
    simp only [dstOk, Bool.and_eq_true] at h
    refine ⟨fun e he => ?_, fun e he => ?_⟩
    · injection he with he; subst he; simpa using h.1
    · injection he with he; subst he; intro hm; have := List.all_eq_true.1 h.2 d hm; simp at this

theorem yielded_none {ops : Array Oper} {tmps : Array Value} {j : Nat} (h : (ops[j]?).bind (·.dst) = none) : yielded ops tmps j = none := by
  simp [yielded, h]

theorem yielded_at {ops : Array Oper} {tmps : Array Value} {j dj : Nat} (h : (ops[j]?).bind (·.dst) = some dj) : yielded ops tmps j = match tmps[dj]? with | some (.bool b) => some b | _ => none := by
  unfold yielded
  rw [h]
  simp only [Option.bind_some]
  cases tmps[dj]? with
  | none => rfl
  | some v => cases v <;> rfl

theorem runOne_sound (hT : TabOk P C.Θ) (hΓ : ∀ g S, C.Γ g = some S → Good P g S) (dr : Bool) (all : List Oper) (o : Oper) {R : Type} {k : St → Option R} {r : R} {Q : Exit → Act → World → Prop}
    (h : Rel C.N w0 p0 Bs G st a w) (hr : runOne C dr all o st k = some r) {K : Act → World → Prop}
    (hK : ∀ G' st' z w', Rel C.N w0 p0 Bs G' st' (a.put o.dst z) w' → Keep C.keep a (a.put o.dst z) → k st' = some r → K (a.put o.dst z) w') :
    if Region.wanted o (yielded all.toArray a.tmps) = true then o.wp P a w K Q else K (a.put o.dst undef) w := by
  unfold runOne at hr
  obtain ⟨hd, hr2⟩ := cond_some hr
  clear hr
  simp only [Bool.and_eq_true] at hd
  obtain ⟨hd1, hd2⟩ := dstOk_spec hd.1
  have skip : ∀ (G : Gh) (st : St), Rel C.N w0 p0 Bs G st a w → Region.wanted o (yielded all.toArray a.tmps) = false → k (st.put o.dst .un) = some r → if Region.wanted o (yielded all.toArray a.tmps) = true then o.wp P a w K Q else K (a.put o.dst undef) w := by
    intro G st h hw hr
    rw [if_neg (by rw [hw]; simp)]
    exact hK G _ _ w (h.put hd1 (x := .un) rfl) (Keep.put hd2) hr
  have take : ∀ (G : Gh) (st : St), Rel C.N w0 p0 Bs G st a w → Region.wanted o (yielded all.toArray a.tmps) = true → stepM C st o.dst o.op k = some r → if Region.wanted o (yielded all.toArray a.tmps) = true then o.wp P a w K Q else K (a.put o.dst undef) w := by
    intro G st h hw hr
    rw [if_pos hw]
    exact stepM_sound hT hΓ h o hd1 hr fun G' st' z w' k1 k2 => hK G' st' z w' k1 (Keep.put hd2) k2
  split at hr2
  · rename_i hg
    exact take G st h (by simp [Region.wanted, hg]) hr2
  · rename_i j want hg
    have hwant : ∀ y, Region.wanted o y = (y j == some want) := fun y => by simp [Region.wanted, hg]
    split at hr2
    · rename_i hj
      refine skip G st h ?_ hr2
      rw [hwant, yielded_none (by simpa using hj)]; rfl
    · rename_i dj hj
      have hy := yielded_at (tmps := a.tmps) (ops := all.toArray) (by simpa using hj)
      have hs := h.slots dj
      split at hr2
      · rename_i hun
        rw [hun] at hs
        have hs : a.tmps.getD dj undef = undef := hs
        refine skip G st h ?_ hr2
        rw [hwant, hy]
        simp only [Array.getD_eq_getD_getElem?] at hs
        cases ht : a.tmps[dj]? with
        | none => rfl
        | some v =>
          rw [ht] at hs
          simp only [Option.getD_some] at hs
          rw [hs]; rfl
      · rename_i b hb
        rw [hb] at hs
        have hs := bool_of hs
        have hyb : yielded all.toArray a.tmps j = some b := by
          rw [hy]
          simp only [Array.getD_eq_getD_getElem?] at hs
          cases ht : a.tmps[dj]? with
          | none => rw [ht] at hs; cases hs
          | some v =>
            rw [ht] at hs
            simp only [Option.getD_some] at hs
            rw [hs]
        have hlit : ∀ c, b = c → Rel C.N w0 p0 Bs G (st.put (some dj) (.sc (.bool c))) a w := fun c hc => h.relit (by
          subst hc
          show [a.tmps.getD dj undef] = [_]
          rw [hs])
        cases b with
        | true =>
          cases want with
          | true => exact take G _ (hlit true rfl) (by rw [hwant, hyb]; rfl) hr2
          | false => exact skip G _ (hlit true rfl) (by rw [hwant, hyb]; rfl) hr2
        | false =>
          cases want with
          | true => exact skip G _ (hlit false rfl) (by rw [hwant, hyb]; rfl) hr2
          | false => exact take G _ (hlit false rfl) (by rw [hwant, hyb]; rfl) hr2
      · cases hr2

theorem runSeq_sound (hT : TabOk P C.Θ) (hΓ : ∀ g S, C.Γ g = some S → Good P g S) (fl : Nat → Bool) (all : List Oper) {R : Type} {k : St → Option R} {r : R} {Q : Exit → Act → World → Prop} {a0 : Act}
    (hQ : ∀ G' st' a' w', Rel C.N w0 p0 Bs G' st' a' w' → Keep C.keep a0 a' → k st' = some r → Q .normal a' w') :
    ∀ (ops : List Oper) (i : Nat) (G : Gh) (st : St) (a : Act) (w : World), Rel C.N w0 p0 Bs G st a w → Keep C.keep a0 a → runSeq C fl all i ops st k = some r → wpList P all.toArray Q ops a w
  | [], i, G, st, a, w, h, hK, hr => hQ G st a w h hK hr
  | o :: ops, i, G, st, a, w, h, hK, hr => by
    have := runOne_sound hT hΓ (fl i) all o (Q := Q) h hr (K := wpList P all.toArray Q ops) fun G' st' z w' k1 k2 k3 => runSeq_sound hT hΓ fl all hQ ops (i + 1) G' st' _ w' k1 (hK.trans k2) k3
    unfold wpList
    split
    · rename_i hw; rw [if_pos hw] at this; exact .inl this
    · rename_i hw; rw [if_neg hw] at this; exact this

/-- What is asked of the check of a region that draws its order. -/
def AnyOk (P : Program) (C : Cfg) (any : List Oper → Bool) : Prop :=
  ∀ (id : Nat) (ops : Array Oper), any ops.toList = true → ∀ (w0 : World) (p0 Bs : Nat → Prop) (G : Gh) (st : St) (a : Act) (w : World) (R : Type) (k : St → Option R) (r : R) (Q : Exit → Act → World → Prop),
    Rel C.N w0 p0 Bs G st a w → runSeq C (flagF C.md ops.toList (masksFrom [] ops.toList)) ops.toList 0 ops.toList st k = some r → (∀ G' st' a' w', Rel C.N w0 p0 Bs G' st' a' w' → Keep C.keep a a' → k st' = some r → Q .normal a' w') → (Code.region id ops true).wp P Q a w

def exOf : Ex → Exit
  | .normal => .normal
  | .exit i => .exit i
  | .ret => .ret

theorem toHL_ofHL : ∀ (cs : List Cm) (x : HL cs), toHL cs (ofHL cs x) = x
  | [], _ => rfl
  | [_], _ => rfl
  | _ :: d :: r, x => by show (x.1, toHL (d :: r) (ofHL (d :: r) x.2)) = x; rw [toHL_ofHL]

theorem shOk_spec {N : Nat} : ∀ {sh : List (Nat × SSh)}, shOk N sh = true → shD 16 sh = true
  | [], _ => rfl
  | (s, .v agg cs) :: r, h => by
    simp only [shOk, Bool.and_eq_true] at h
    simp only [shD, Bool.and_eq_true]
    exact ⟨⟨h.1.1.1.2, h.1.2⟩, shOk_spec h.2⟩
  | (s, .ptr cs) :: r, h => by
    simp only [shOk, Bool.and_eq_true] at h
    simp only [shD, Bool.and_eq_true]
    refine ⟨⟨?_, h.1.2⟩, shOk_spec h.2⟩
    have := Nat.le_of_ble_eq_true h.1.1.1.2
    simp; omega

theorem Rel.resave (h : Rel C.N w0 p0 Bs G st a w) {sh : List (Nat × SSh)} (hsh : shOk C.N sh = true) {z : Prods (saveC sh)} (hs : saveP sh st = some z) :
    ∃ G', Rel C.N w0 p0 Bs G' (unsave sh z) a w := by
  unfold saveP at hs
  split at hs
  · cases hs
  · rename_i x tk hx
    obtain ⟨ha, hs2⟩ := cond_some hs
    obtain rfl := Option.some.inj hs2
    obtain ⟨nms, _, t2, t3, _⟩ := h.saved h.slots hx ha
    obtain ⟨G', k⟩ := build (N := C.N) h.size h.defers h.frame (shOk_spec hsh) t2 t3
    exact ⟨G', by unfold unsave; rw [toHL_ofHL]; exact k⟩

theorem exec_sound (hT : TabOk P C.Θ) (hΓ : ∀ g S, C.Γ g = some S → Good P g S) {any : List Oper → Bool} (hany : AnyOk P C any) :
    ∀ (c : Code) (bid : Nat) (R : Type) (K : Ex → St → Option R) (r : R) (Q : Exit → Act → World → Prop) (a0 : Act),
    (∀ e G' st' a' w', Rel C.N w0 p0 Bs G' st' a' w' → Keep C.keep a0 a' → K e st' = some r → Q (exOf e) a' w') →
    ∀ (G : Gh) (st : St) (a : Act) (w : World), Rel C.N w0 p0 Bs G st a w → Keep C.keep a0 a → exec C any c bid st K = some r → c.wp P Q a w := by
  intro c
  induction c with
  | skip =>
    intro bid R K r Q a0 hQ G st a w h hK hr
    exact wp_skip (hQ .normal G st a w h hK hr)
  | region id ops draw =>
    intro bid R K r Q a0 hQ G st a w h hK hr
    obtain ⟨hc, hr2⟩ := cond_some hr
    cases draw with
    | false => exact wp_region_list (runSeq_sound hT hΓ (fun _ => false) ops.toList (fun G' st' a' w' k1 k2 k3 => hQ .normal G' st' a' w' k1 k2 k3) ops.toList 0 G st a w h hK hr2)
    | true =>
      exact hany id ops (by simpa using hc) w0 p0 Bs G st a w R _ r Q h hr2 fun G' st' a' w' k1 k2 k3 => hQ .normal G' st' a' w' k1 (hK.trans k2) k3
  | seq x y ihx ihy =>
    intro bid R K r Q a0 hQ G st a w h hK hr
    refine wp_seq (ihx bid R _ r _ a0 ?_ G st a w h hK hr)
    intro e G' st' a' w' k1 k2 k3
    cases e with
    | normal => exact ihy bid R K r Q a0 hQ G' st' a' w' k1 k2 k3
    | exit i => exact hQ (.exit i) G' st' a' w' k1 k2 k3
    | ret => exact hQ .ret G' st' a' w' k1 k2 k3
  | cond c x y ihx ihy =>
    intro bid R K r Q a0 hQ G st a w h hK hr
    simp only [exec] at hr
    split at hr
    · rename_i b hb
      have hv := val_sound h c
      rw [hb] at hv
      have hv := bool_of hv
      have hlit : ∀ t, b = t → Rel C.N w0 p0 Bs G (lit st c t) a w := by
        intro t ht
        subst ht
        cases c with
        | tmp d =>
          refine h.relit ?_
          have hv : a.tmps.getD d undef = .bool b := hv
          show [a.tmps.getD d undef] = [_]
          rw [hv]
        | const _ => exact h
        | global _ => exact h
        | func _ => exact h
      cases b with
      | true => exact wp_cond_true hv (ihx bid R K r Q a0 hQ G _ a w (hlit true rfl) hK hr)
      | false => exact wp_cond_false hv (ihy bid R K r Q a0 hQ G _ a w (hlit false rfl) hK hr)
    · cases hr
  | block id c ih =>
    intro bid R K r Q a0 hQ G st a w h hK hr
    refine wp_block (ih id R _ r _ a0 ?_ G st a w h hK hr)
    intro e G' st' a' w' k1 k2 k3
    cases e with
    | normal => exact hQ .normal G' st' a' w' k1 k2 k3
    | exit i =>
      show (if i = id then Q .normal a' w' else Q (.exit i) a' w')
      by_cases hi : i = id
      · subst hi
        rw [if_pos rfl]
        simp only [Nat.beq_refl, cond_true] at k3
        exact hQ .normal G' st' a' w' k1 k2 k3
      · rw [if_neg hi]
        have : Nat.beq i id = false := Bool.eq_false_iff.2 fun e => hi (Nat.eq_of_beq_eq_true e)
        simp only [this, cond_false] at k3
        exact hQ (.exit i) G' st' a' w' k1 k2 k3
    | ret => exact hQ .ret G' st' a' w' k1 k2 k3
  | loop body ih =>
    intro bid R K r Q a0 hQ G st a w h hK hr
    simp only [exec] at hr
    split at hr
    · cases hr
    · rename_i sh hann
      obtain ⟨hsh, hr2⟩ := cond_some hr
      clear hr
      split at hr2
      · cases hr2
      · rename_i x hx
        generalize hstep : (fun (rec : Prods (saveC sh) → Option (Prods (saveC sh) ⊕ R)) (y : Prods (saveC sh)) => exec C any body bid (unsave sh y) fun e st' => match e with
          | .normal => match saveP sh st' with
            | some z => rec z
            | none => none
          | .exit i => cond (Nat.beq i bid) (match saveP sh st' with
            | some z => some (.inl z)
            | none => none) ((K (.exit i) st').map .inr)
          | .ret => (K .ret st').map .inr) = step at hr2
        generalize hcont : (fun (out : Prods (saveC sh) ⊕ R) => match out with
          | .inl y => K (.exit bid) (unsave sh y)
          | .inr r => some r) = cont at hr2
        obtain ⟨G1, h1⟩ := h.resave hsh hx
        refine wp_loop_ghost (fun n a w => ∃ y G, Rel C.N w0 p0 Bs G (unsave sh y) a w ∧ Keep C.keep a0 a ∧ (iter step n y).bind cont = some r) FUEL ⟨x, G1, h1, hK, hr2⟩ ?_
        rintro n a w ⟨y, G, h, hK, hit⟩
        cases n with
        | zero => cases hit
        | succ n =>
          cases hout : iter step (n + 1) y with
          | none => rw [hout] at hit; cases hit
          | some out =>
            rw [hout] at hit
            simp only [Option.bind_some] at hit
            have hex : step (iter step n) y = some out := hout
            rw [← hstep] at hex
            refine ih bid (Prods (saveC sh) ⊕ R) _ out _ a0 ?_ G (unsave sh y) a w h hK hex
            intro e G' st' a' w' k1 k2 k3
            cases e with
            | normal =>
              simp only at k3
              split at k3
              · rename_i z hz
                obtain ⟨G2, h2⟩ := k1.resave hsh hz
                refine ⟨n, Nat.lt_succ_self n, z, G2, h2, k2, ?_⟩
                rw [hstep] at k3
                rw [k3]; exact hit
              · cases k3
            | exit i =>
              show Q (.exit i) a' w'
              simp only at k3
              by_cases hi : i = bid
              · subst hi
                simp only [Nat.beq_refl, cond_true] at k3
                split at k3
                · rename_i z hz
                  obtain rfl := Option.some.inj k3
                  obtain ⟨G2, h2⟩ := k1.resave hsh hz
                  rw [← hcont] at hit
                  exact hQ (.exit i) G2 _ a' w' h2 k2 hit
                · cases k3
              · have : Nat.beq i bid = false := Bool.eq_false_iff.2 fun e => hi (Nat.eq_of_beq_eq_true e)
                simp only [this, cond_false] at k3
                cases hk : K (.exit i) st' with
                | none => rw [hk] at k3; cases k3
                | some r' =>
                  rw [hk] at k3
                  obtain rfl := Option.some.inj k3
                  rw [← hcont] at hit
                  obtain rfl := Option.some.inj hit
                  exact hQ (.exit i) G' st' a' w' k1 k2 hk
            | ret =>
              simp only at k3
              cases hk : K .ret st' with
              | none => rw [hk] at k3; cases k3
              | some r' =>
                rw [hk] at k3
                obtain rfl := Option.some.inj k3
                rw [← hcont] at hit
                obtain rfl := Option.some.inj hit
                exact hQ .ret G' st' a' w' k1 k2 hk
  | exit id =>
    intro bid R K r Q a0 hQ G st a w h hK hr
    exact wp_exit (hQ (.exit id) G st a w h hK hr)
  | ret =>
    intro bid R K r Q a0 hQ G st a w h hK hr
    exact wp_ret (hQ .ret G st a w h hK hr)
  | _ =>
    intros
    rename_i hr
    cases hr

end
end Go.Vx
