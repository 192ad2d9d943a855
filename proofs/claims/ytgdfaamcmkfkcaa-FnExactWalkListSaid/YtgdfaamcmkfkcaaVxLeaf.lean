/-
  Leaves and data: what a row of leaves reads as, and back.
-/
import Derived.Test.YtgdfaamcmkfkcaaVxRel
set_option linter.unusedSimpArgs false
set_option linter.unusedVariables false
set_option linter.unnecessarySimpa false
namespace Go.Vx
section
variable {w : World} {p : Nat → Prop} {G : Gh} {obj : Nat → AObj}

theorem RL.length : ∀ (l : Leaf) (cs : List Value), RL w p G obj l cs → cs.length = l.size
  | .undef, _, h => by obtain ⟨v, rfl, _⟩ := h; rfl
  | .int _ _, _, h => by have h : _ = _ := h; rw [h]; rfl
  | .bool _, _, h => by have h : _ = _ := h; rw [h]; rfl
  | .str _, _, h => by have h : _ = _ := h; rw [h]; rfl
  | .sl e xs, cs, h => Rep.length (.sl e) xs cs h
  | .nil, _, h => by have h : _ = _ := h; rw [h]; rfl
  | .arr n e xs, cs, h => Rep.length (.arr n e) xs cs h
  | .hdr _, _, h => by obtain ⟨v, rfl, _⟩ := h; rfl
  | .sub _ _ _, _, h => by obtain ⟨v, rfl, _⟩ := h; rfl
  | .box _ _, _, h => by obtain ⟨v, rfl, _⟩ := h; rfl
  | .belem _ _ _ _, _, h => by obtain ⟨v, rfl, _⟩ := h; rfl
  | .ro _ _, _, h => by obtain ⟨_, _, rfl, _⟩ := h; rfl
  | .row _ _ _, _, h => by obtain ⟨v, rfl, _⟩ := h; rfl
  | .fn _ _, _, h => by obtain ⟨v, rfl, _⟩ := h; rfl

theorem RL.one : ∀ (l : Leaf) (cs : List Value), RL w p G obj l cs → ∀ v ∈ cs, v.oneCell' = true
  | .undef, _, h => by obtain ⟨v, rfl, h⟩ := h; simpa using h
  | .int _ _, _, h => by have h : _ = _ := h; rw [h]; simp [Value.oneCell']
  | .bool _, _, h => by have h : _ = _ := h; rw [h]; simp [Value.oneCell']
  | .str _, _, h => by have h : _ = _ := h; rw [h]; simp [Value.oneCell']
  | .sl e xs, cs, h => Rep.one (.sl e) xs cs h
  | .nil, _, h => by have h : _ = _ := h; rw [h]; simp [Value.oneCell']
  | .arr n e xs, cs, h => Rep.one (.arr n e) xs cs h
  | .hdr _, _, h => by obtain ⟨v, rfl, h, _⟩ := h; simpa using h
  | .sub _ _ _, _, h => by obtain ⟨v, rfl, h, _⟩ := h; simpa using h
  | .box _ _, _, h => by obtain ⟨v, rfl, h, _⟩ := h; simpa using h
  | .belem _ _ _ _, _, h => by obtain ⟨v, rfl, h, _⟩ := h; simpa using h
  | .ro _ _, _, h => by obtain ⟨_, _, rfl, _⟩ := h; simp [Value.oneCell']
  | .row _ _ _, _, h => by obtain ⟨v, rfl, h, _⟩ := h; simpa using h
  | .fn _ _, _, h => by obtain ⟨v, rfl, _⟩ := h; simp [Value.oneCell']

theorem RLs.one : ∀ (ls : List Leaf) (cs : List Value), RLs w p G obj ls cs → ∀ v ∈ cs, v.oneCell' = true
  | [], _, h => by have h : _ = _ := h; rw [h]; simp
  | l :: ls, _, h => by
    obtain ⟨c1, c2, rfl, h1, h2⟩ := h
    intro v hv
    rcases List.mem_append.1 hv with hv | hv
    · exact RL.one l c1 h1 v hv
    · exact RLs.one ls c2 h2 v hv

theorem RLs.length : ∀ (ls : List Leaf) (cs : List Value), RLs w p G obj ls cs → cs.length = sizes ls
  | [], _, h => by have h : _ = _ := h; rw [h]; rfl
  | l :: ls, _, h => by
    obtain ⟨c1, c2, rfl, h1, h2⟩ := h
    rw [List.length_append, RL.length l c1 h1, RLs.length ls c2 h2]; rfl

theorem RLs.append : ∀ {ls ms : List Leaf} {cs ds : List Value}, RLs w p G obj ls cs → RLs w p G obj ms ds → RLs w p G obj (ls ++ ms) (cs ++ ds)
  | [], _, _, _, h, k => by have h : _ = _ := h; rw [h]; exact k
  | l :: ls, _, _, _, h, k => by
    obtain ⟨c1, c2, rfl, h1, h2⟩ := h
    exact ⟨c1, c2 ++ _, by simp, h1, h2.append k⟩

theorem RLs.split : ∀ {ls ms : List Leaf} {cs : List Value}, RLs w p G obj (ls ++ ms) cs → ∃ c1 c2, cs = c1 ++ c2 ∧ RLs w p G obj ls c1 ∧ RLs w p G obj ms c2
  | [], _, cs, h => ⟨[], cs, rfl, rfl, h⟩
  | l :: ls, ms, _, h => by
    obtain ⟨c1, c2, rfl, h1, h2⟩ := h
    obtain ⟨d1, d2, rfl, k1, k2⟩ := RLs.split (ls := ls) h2
    exact ⟨c1 ++ d1, d2, by simp, ⟨c1, d1, rfl, h1, k1⟩, k2⟩

theorem RLs.single {l : Leaf} {cs : List Value} (h : RL w p G obj l cs) : RLs w p G obj [l] cs := ⟨cs, [], by simp, h, rfl⟩

theorem RLs.of_single {l : Leaf} {cs : List Value} (h : RLs w p G obj [l] cs) : RL w p G obj l cs := by
  obtain ⟨c1, c2, rfl, h1, h2⟩ := h
  have h2 : _ = _ := h2
  rw [h2, List.append_nil]; exact h1

theorem leavesOf_sound : ∀ (t : Ty) (x : t.den) (cs : List Value), Rep w p t x cs → RLs w p G obj (leavesOf t x) cs
  | .int _, _, _, h => RLs.single (by exact h)
  | .bool, _, _, h => RLs.single (by exact h)
  | .str, _, _, h => RLs.single (by exact h)
  | .sl _, _, _, h => RLs.single (by exact h)
  | .unit, _, _, h => h
  | .pair a b, x, _, h => by
    obtain ⟨c1, c2, rfl, h1, h2⟩ := h
    exact (leavesOf_sound a x.1 c1 h1).append (leavesOf_sound b x.2 c2 h2)
  | .arr _ _, _, _, h => RLs.single (by exact h)

theorem zleaves_sound : ∀ t : Ty, RLs w p G obj (zleaves t) (zcells t)
  | .int _ => RLs.single rfl
  | .bool => RLs.single rfl
  | .str => RLs.single rfl
  | .sl _ => RLs.single rfl
  | .unit => rfl
  | .pair a b => (zleaves_sound a).append (zleaves_sound b)
  | .arr n e => RLs.single (Rep.zero w p (.arr n e))

theorem zcells_length (t : Ty) : (zcells t).length = t.size := Rep.length (w := default) (p := fun _ => False) t t.zero _ (Rep.zero _ _ t)
theorem zcells_one (t : Ty) : ∀ v ∈ zcells t, v.oneCell' = true := Rep.one (w := default) (p := fun _ => False) t t.zero _ (Rep.zero _ _ t)

theorem castL_some {e' e : Ty} {xs : List e'.den} {ys : List e.den} (h : castL e' e xs = some ys) : ∃ he : e' = e, he ▸ xs = ys := by
  unfold castL at h
  split at h
  · rename_i he; exact ⟨he, Option.some.inj h⟩
  · cases h

theorem ofLeaves_sound : ∀ (t : Ty) (ls : List Leaf) (cs : List Value) (x : t.den) (r : List Leaf), RLs w p G obj ls cs → ofLeaves t ls = some (x, r) →
    ∃ c1 c2, cs = c1 ++ c2 ∧ Rep w p t x c1 ∧ RLs w p G obj r c2 := by
  intro t
  induction t with
  | int k =>
    intro ls cs x r h ho
    match ls, h, ho with
    | .int k' y :: ls, h, ho =>
      simp only [ofLeaves] at ho
      split at ho
      · rename_i hk
        obtain ⟨c1, c2, rfl, h1, h2⟩ := h
        simp only [Option.some.injEq, Prod.mk.injEq] at ho
        obtain ⟨rfl, rfl⟩ := ho
        subst hk
        exact ⟨c1, c2, rfl, h1, h2⟩
      · cases ho
  | bool =>
    intro ls cs x r h ho
    match ls, h, ho with
    | .bool y :: ls, h, ho =>
      simp only [ofLeaves, Option.some.injEq, Prod.mk.injEq] at ho
      obtain ⟨rfl, rfl⟩ := ho
      obtain ⟨c1, c2, rfl, h1, h2⟩ := h
      exact ⟨c1, c2, rfl, h1, h2⟩
  | str =>
    intro ls cs x r h ho
    match ls, h, ho with
    | .str y :: ls, h, ho =>
      simp only [ofLeaves, Option.some.injEq, Prod.mk.injEq] at ho
      obtain ⟨rfl, rfl⟩ := ho
      obtain ⟨c1, c2, rfl, h1, h2⟩ := h
      exact ⟨c1, c2, rfl, h1, h2⟩
  | sl e _ =>
    intro ls cs x r h ho
    match ls, h, ho with
    | .nil :: ls, h, ho =>
      simp only [ofLeaves, Option.some.injEq, Prod.mk.injEq] at ho
      obtain ⟨rfl, rfl⟩ := ho
      obtain ⟨c1, c2, rfl, h1, h2⟩ := h
      exact ⟨c1, c2, rfl, ⟨none, 0, [], h1, Nat.le_refl _, rfl, .inl rfl⟩, h2⟩
    | .sl e' xs :: ls, h, ho =>
      simp only [ofLeaves] at ho
      split at ho
      · rename_i ys hc
        obtain ⟨he, hy⟩ := castL_some hc
        simp only [Option.some.injEq, Prod.mk.injEq] at ho
        obtain ⟨rfl, rfl⟩ := ho
        subst he
        subst hy
        obtain ⟨c1, c2, rfl, h1, h2⟩ := h
        exact ⟨c1, c2, rfl, h1, h2⟩
      · cases ho
  | unit =>
    intro ls cs x r h ho
    cases ls <;>
    · simp only [ofLeaves, Option.some.injEq, Prod.mk.injEq] at ho
      obtain ⟨_, rfl⟩ := ho
      exact ⟨[], cs, rfl, rfl, h⟩
  | pair a b iha ihb =>
    intro ls cs x r h ho
    have ho : (match ofLeaves a ls with
      | none => none
      | some (x, r1) => match ofLeaves b r1 with
        | none => none
        | some (y, r2) => some ((x, y), r2)) = some (x, r) := by cases ls <;> exact ho
    split at ho
    · cases ho
    · rename_i x1 r1 h1
      split at ho
      · cases ho
      · rename_i y r2 h2
        simp only [Option.some.injEq, Prod.mk.injEq] at ho
        obtain ⟨rfl, rfl⟩ := ho
        obtain ⟨c1, c2, rfl, k1, k2⟩ := iha ls cs x1 r1 h h1
        obtain ⟨d1, d2, rfl, k3, k4⟩ := ihb r1 c2 y r2 k2 h2
        exact ⟨c1 ++ d1, d2, by simp, ⟨c1, d1, rfl, k1, k3⟩, k4⟩
  | arr n e _ =>
    intro ls cs x r h ho
    match ls, h, ho with
    | .arr n' e' xs :: ls, h, ho =>
      simp only [ofLeaves] at ho
      split at ho
      · rename_i hn
        split at ho
        · rename_i ys hc
          obtain ⟨he, hy⟩ := castL_some hc
          simp only [Option.some.injEq, Prod.mk.injEq] at ho
          obtain ⟨rfl, rfl⟩ := ho
          subst he
          subst hy
          subst hn
          obtain ⟨c1, c2, rfl, h1, h2⟩ := h
          exact ⟨c1, c2, rfl, h1, h2⟩
        · cases ho
      · cases ho

theorem takeC_sound : ∀ (ls : List Leaf) (n : Nat) (cs : List Value) (x y : List Leaf), RLs w p G obj ls cs → takeC ls n = some (x, y) →
    ls = x ++ y ∧ ∃ c1 c2, cs = c1 ++ c2 ∧ c1.length = n ∧ RLs w p G obj x c1 ∧ RLs w p G obj y c2 := by
  intro ls
  induction ls with
  | nil =>
    intro n cs x y h ht
    cases n with
    | zero =>
      simp only [takeC, Option.some.injEq, Prod.mk.injEq] at ht
      obtain ⟨rfl, rfl⟩ := ht
      exact ⟨rfl, [], cs, rfl, rfl, rfl, h⟩
    | succ n => simp [takeC] at ht
  | cons l ls ih =>
    intro n cs x y h ht
    cases n with
    | zero =>
      simp only [takeC, Option.some.injEq, Prod.mk.injEq] at ht
      obtain ⟨rfl, rfl⟩ := ht
      exact ⟨rfl, [], cs, rfl, rfl, rfl, h⟩
    | succ n =>
      simp only [takeC] at ht
      cases hb : Nat.ble l.size (n + 1) with
      | false => rw [hb] at ht; simp at ht
      | true =>
        rw [hb] at ht
        simp only [cond_true] at ht
        split at ht
        · rename_i x' y' hq
          simp only [Option.some.injEq, Prod.mk.injEq] at ht
          obtain ⟨rfl, rfl⟩ := ht
          obtain ⟨c1, c2, rfl, h1, h2⟩ := h
          obtain ⟨rfl, d1, d2, rfl, k1, k2, k3⟩ := ih _ _ _ _ h2 hq
          refine ⟨rfl, c1 ++ d1, d2, by simp, ?_, ⟨c1, d1, rfl, h1, k2⟩, k3⟩
          have := Nat.le_of_ble_eq_true hb
          rw [List.length_append, RL.length l c1 h1, k1]; omega
        · cases ht

theorem midC_sound {ls : List Leaf} {off n : Nat} {m : List Leaf} {cs : List Value} (h : RLs w p G obj ls cs) (hm : midC ls off n = some m) :
    RLs w p G obj m ((cs.drop off).take n) ∧ off + n ≤ cs.length := by
  unfold midC at hm
  split at hm
  · cases hm
  · rename_i x y h1
    split at hm
    · cases hm
    · rename_i x2 y2 h2
      obtain rfl := Option.some.inj hm
      obtain ⟨_, c1, c2, rfl, k1, k2, k3⟩ := takeC_sound _ _ _ _ _ h h1
      obtain ⟨_, d1, d2, rfl, j1, j2, j3⟩ := takeC_sound _ _ _ _ _ k3 h2
      subst k1
      subst j1
      refine ⟨?_, by simp⟩
      rw [List.drop_left, List.take_left]
      exact j2

theorem spliceC_sound {ls new out : List Leaf} {off : Nat} {cs ds : List Value} (h : RLs w p G obj ls cs) (hn : RLs w p G obj new ds) (hm : spliceC ls off new = some out) :
    RLs w p G obj out (cs.take off ++ ds ++ cs.drop (off + ds.length)) ∧ off + ds.length ≤ cs.length := by
  unfold spliceC at hm
  split at hm
  · cases hm
  · rename_i x y h1
    split at hm
    · cases hm
    · rename_i x2 y2 h2
      obtain rfl := Option.some.inj hm
      obtain ⟨_, c1, c2, rfl, k1, k2, k3⟩ := takeC_sound _ _ _ _ _ h h1
      obtain ⟨_, d1, d2, rfl, j1, j2, j3⟩ := takeC_sound _ _ _ _ _ k3 h2
      have hl := RLs.length _ _ hn
      subst k1
      rw [hl, ← j1]
      refine ⟨?_, by simp⟩
      rw [List.take_left, ← List.append_assoc, ← List.length_append, List.drop_left]
      exact (k2.append hn).append j3

/-- The region p and the blocks of the rows that are shown. -/
def withSh (p : Nat → Prop) (G : Gh) (obj : Nat → AObj) (ns : List Nat) (b : Nat) : Prop := p b ∨ ∃ n, n ∈ ns ∧ blk G obj n b

theorem withSh_mono {ns ms : List Nat} (h : ∀ n ∈ ns, n ∈ ms) {b : Nat} (hb : withSh p G obj ns b) : withSh p G obj ms b := by
  rcases hb with hb | ⟨n, hn, hb⟩
  · exact .inl hb
  · exact .inr ⟨n, h n hn, hb⟩

theorem RL.wider {q : Nat → Prop} (hq : ∀ b, p b → q b) (l : Leaf) (cs : List Value) (h : RL w p G obj l cs) : RL w q G obj l cs :=
  RL.mono ⟨fun b hb _ => ⟨hq b hb, rfl⟩, Nat.le_refl _, fun _ h => h, fun _ _ _ h _ => ⟨h, rfl⟩, fun _ ls h _ => ⟨⟨ls, h⟩, rfl⟩⟩ l cs h
theorem RLs.wider {q : Nat → Prop} (hq : ∀ b, p b → q b) (l : List Leaf) (cs : List Value) (h : RLs w p G obj l cs) : RLs w q G obj l cs :=
  RLs.mono ⟨fun b hb _ => ⟨hq b hb, rfl⟩, Nat.le_refl _, fun _ h => h, fun _ _ _ h _ => ⟨h, rfl⟩, fun _ ls h _ => ⟨⟨ls, h⟩, rfl⟩⟩ l cs h

theorem owns_lies {tid sz : Nat} {a : Option Addr} {n c : Nat} {ds : List Value} (h : w.ownsRow 0 tid sz (.slice a n c) n ds) (hp : ∀ b, a.map (·.block) = some b → p b) :
    n ≤ c ∧ Lies w p a ds := by
  rcases h.2 with ⟨h1, h2⟩ | ⟨g, cap, cur, h1, _, h3, h4, _, h5, h6⟩
  · subst h2
    refine ⟨Nat.zero_le _, .inl ?_⟩
    exact List.eq_nil_of_length_eq_zero (by have := h.1; simpa using this)
  · simp only [Value.slice.injEq, true_and] at h1
    obtain ⟨rfl, rfl⟩ := h1
    refine ⟨h4, .inr ⟨⟨g, 0, none⟩, rfl, rfl, hp g rfl, fun j v hj => ?_⟩⟩
    have := h.cells (g := g) rfl j v hj
    have e : (⟨g, 0, none⟩ : Addr).add j = ⟨g, 0 + j, none⟩ := by unfold Addr.add; split <;> simp_all
    rwa [e] at this

theorem Lies.sub {a : Option Addr} {ds : List Value} (h : Lies w p a ds) (lo hi : Nat) {a' : Option Addr} (ha : lo < hi → lo < ds.length → a' = a.map (·.add lo)) : Lies w p a' ((ds.take hi).drop lo) := by
  by_cases hlt : lo < hi ∧ lo < ds.length
  · rcases h with h | ⟨ad, h1, h2, h3, h4⟩
    · subst h; simp at hlt
    · right
      have e : ad.add lo = ⟨ad.block, ad.off + lo, none⟩ := by
        unfold Addr.add
        split
        · rename_i hz; subst hz; cases ad; simp_all
        · simp
      refine ⟨ad.add lo, by rw [ha hlt.1 hlt.2, h1]; rfl, by rw [e], by rw [e]; exact h3, fun j v hj => ?_⟩
      rw [e]
      have hj' : ds[lo + j]? = some v := by
        rw [List.getElem?_drop, List.getElem?_take] at hj
        split at hj
        · exact hj
        · cases hj
      have := h4 _ _ hj'
      rwa [← Nat.add_assoc] at this
  · left
    apply List.eq_nil_of_length_eq_zero
    rw [List.length_drop, List.length_take]
    omega

theorem reify_sound (hO : ∀ n, RO w p G obj n (obj n)) : ∀ (l : Leaf) (cs : List Value), RL w p G obj l cs → RL w (withSh p G obj (shown [l])) G obj (reify obj l) cs := by
  intro l cs h
  have hw := RL.wider (q := withSh p G obj (shown [l])) (fun b hb => .inl hb) l cs h
  cases l with
  | hdr n =>
    obtain ⟨v, h1, h2, h3, h4⟩ := h
    simp only [reify]
    cases ho : obj n with
    | row tid e xs =>
      have hr := hO n
      rw [ho] at hr
      obtain ⟨ds, k1, k2⟩ := hr
      have hl := owns_lies (p := withSh p G obj (shown [.hdr n])) k1 (fun b hb => .inr ⟨n, by simp [shown], by simpa [blk, ho] using hb⟩)
      refine ⟨(G.hd n).1, (G.hd n).2, ds, ?_, hl.1, k2.mono fun x c _ hr => Rep.mono (fun b hb _ => ⟨.inl hb, rfl⟩) e x c hr, hl.2⟩
      rw [h1, h4 e xs.length (by rw [ho]; rfl)]
    | deep tid d k xs hh =>
      cases hh with
      | some q => exact ⟨v, h1, h2⟩
      | none =>
        have hr := hO n
        rw [ho] at hr
        obtain ⟨hn, ds, ds', k1, k2, k3⟩ := hr
        have k2 : ds' = ds := k2
        subst k2
        have hl := owns_lies (p := withSh p G obj (shown [.hdr n])) k1 (fun b hb => .inr ⟨n, by simp [shown], by simp only [blk, ho]; exact .inl hb⟩)
        have hp : ∀ b, p b → b < w.heap.size → withSh p G obj (shown [.hdr n]) b ∧ w.heap[b]? = w.heap[b]? := fun b hb _ => ⟨.inl hb, rfl⟩
        have hrep := ElsR.rep xs 0 ds' _ (fun b hb => show withSh p G obj (shown [.hdr n]) b from .inr ⟨n, by simp [shown], by simp only [blk, ho]; exact .inr hb⟩) (ElsR.keep hp xs 0 ds' _ (fun _ _ => rfl) k3)
        refine ⟨(G.hd n).1, (G.hd n).2, ds', ?_, hl.1, hrep, hl.2⟩
        rw [h1, h4 d.ty (List.length xs) (by rw [ho]; rfl)]
    | _ => exact ⟨v, h1, h2⟩
  | sub n lo hi =>
    obtain ⟨v, h1, h2, h3, h4⟩ := h
    simp only [reify]
    cases ho : obj n with
    | row tid e xs =>
      have hr := hO n
      rw [ho] at hr
      obtain ⟨ds, k1, k2⟩ := hr
      have hl := owns_lies (p := withSh p G obj (shown [.sub n lo hi])) k1 (fun b hb => .inr ⟨n, by simp [shown], by simpa [blk, ho] using hb⟩)
      obtain ⟨j1, j2, j3, j4⟩ := h4 e xs.length (by rw [ho]; rfl)
      have hlen := k2.len
      have hsub : ((ds.take (hi.toNat * e.size)).drop (lo.toNat * e.size)).length = ((xs.take hi.toNat).drop lo.toNat).length * e.size := by
        simp only [List.length_drop, List.length_take, hlen]
        have : hi.toNat ≤ xs.length := by omega
        rw [Nat.min_eq_left this, Nat.min_eq_left (Nat.mul_le_mul_right _ this), Nat.sub_mul]
      refine ⟨if (G.hd n).2 = lo.toNat then (G.hd n).1 else (G.hd n).1.map (·.add (lo.toNat * e.size)), (G.hd n).2 - lo.toNat, (ds.take (hi.toNat * e.size)).drop (lo.toNat * e.size), ?_, ?_, ?_, Lies.sub hl.2 _ _ ?_⟩
      · rw [h1, j4]
        congr 2
        simp only [List.length_drop, List.length_take]
        omega
      · simp only [List.length_drop, List.length_take]
        have := hl.1
        omega
      · have := (k2.take (n := e.size) (fun x c hr => Rep.length e x c hr) hi.toNat (by omega)).drop (fun x c hr => Rep.length e x c hr) lo.toNat (by simp only [List.length_take]; omega)
        exact this.mono fun x c _ hr => Rep.mono (fun b hb _ => ⟨.inl hb, rfl⟩) e x c hr
      · intro h5 h6
        have : lo.toNat < xs.length := by
          rcases Nat.lt_or_ge lo.toNat xs.length with h7 | h7
          · exact h7
          · have := Nat.mul_le_mul_right e.size h7
            omega
        have := hl.1
        rw [if_neg (by omega)]
    | _ => exact ⟨v, h1, h2⟩
  | _ => exact hw

theorem reify_map (hO : ∀ n, RO w p G obj n (obj n)) : ∀ (ls : List Leaf) (cs : List Value), RLs w p G obj ls cs → RLs w (withSh p G obj (shown ls)) G obj (ls.map (reify obj)) cs
  | [], _, h => h
  | l :: ls, _, h => by
    obtain ⟨c1, c2, rfl, h1, h2⟩ := h
    have hs : ∀ n, (n ∈ shown [l] → n ∈ shown (l :: ls)) ∧ (n ∈ shown ls → n ∈ shown (l :: ls)) := by
      intro n; cases l <;> simp_all [shown]
    exact ⟨c1, c2, rfl, RL.wider (fun b hb => withSh_mono (fun n hn => (hs n).1 hn) hb) _ _ (reify_sound hO l c1 h1),
      RLs.wider (fun b hb => withSh_mono (fun n hn => (hs n).2 hn) hb) _ _ (reify_map hO ls c2 h2)⟩

theorem AV.leaves_sound {x : AV} {ls : List Leaf} {v : Value} (hl : x.leaves = some ls) (h : RV w p G obj x v) :
    ∃ cs, RLs w p G obj ls cs ∧ v.cells = cs.toArray ∧ ((x.leaves = some [] ∨ True) ∧ ((∃ l, x = .sc l ∧ cs = [v]) ∨ (∃ ms, x = .ag ms ∧ v = .agg cs.toArray))) := by
  cases x with
  | sc l =>
    simp only [AV.leaves, Option.some.injEq] at hl
    subst hl
    have h : RL w p G obj l [v] := h
    have h1 := RL.one l _ h v (List.mem_cons_self ..)
    refine ⟨[v], RLs.single h, ?_, ⟨.inr trivial, .inl ⟨l, rfl, rfl⟩⟩⟩
    cases v <;> simp_all [Value.cells, Value.oneCell']
  | ag ms =>
    simp only [AV.leaves, Option.some.injEq] at hl
    subst hl
    obtain ⟨cs, rfl, h2⟩ := h
    exact ⟨cs, h2, rfl, ⟨.inr trivial, .inr ⟨ms, rfl, rfl⟩⟩⟩
  | _ => simp [AV.leaves] at hl

theorem mkAV_sound {agg : Bool} {ls : List Leaf} {cs : List Value} (h : RLs w p G obj ls cs) (h1 : agg = false → cs.length = 1) :
    RV w p G obj (mkAV agg ls) (if agg = true then .agg cs.toArray else cs.headD undef) := by
  cases agg with
  | true => exact ⟨cs, rfl, h⟩
  | false =>
    match ls, h with
    | [], _ => exact trivial
    | [l], h =>
      have hl := h1 rfl
      match cs, hl, h with
      | [v], _, h => exact RLs.of_single h
    | _ :: _ :: _, _ => exact trivial

theorem R1_mkAV {agg : Bool} {ls : List Leaf} {v : Value} : R1 w p G obj agg ls v → RV w p G obj (mkAV agg ls) v := by
  intro h
  cases agg with
  | true => exact h
  | false =>
    match ls, h with
    | [], _ => exact trivial
    | [l], h => exact h
    | _ :: _ :: _, _ => exact trivial

end
end Go.Vx
