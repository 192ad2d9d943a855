/-
  Rows within rows: what is taken out, put in, looked at. Data and cells; no machine yet.
-/
import Derived.Test.YtgdfaamcmkfkcaaVxSeq
set_option linter.unusedSimpArgs false
set_option linter.unusedVariables false
set_option linter.unnecessarySimpa false
namespace Go.Vx

theorem DRep.of_flat {w : World} {p : Nat → Prop} : ∀ (d : DTy) (x : d.ty.den) (c : List Value), d.ty.flat = true → Rep w p d.ty x c → DRep w d x c []
  | .int _, _, _, _, h => ⟨h, rfl⟩
  | .bool, _, _, _, h => ⟨h, rfl⟩
  | .str, _, _, _, h => ⟨h, rfl⟩
  | .sl _ _, _, _, hf, _ => by simp [Ty.flat] at hf
  | .unit, _, _, _, h => ⟨h, rfl⟩
  | .pair a b, _, _, hf, h => by
    simp only [Ty.flat, Bool.and_eq_true] at hf
    obtain ⟨c1, c2, h1, h2, h3⟩ := h
    exact ⟨c1, c2, [], [], h1, rfl, DRep.of_flat a _ _ hf.1 h2, DRep.of_flat b _ _ hf.2 h3⟩

theorem DRepL.of_flat {w : World} {p : Nat → Prop} {d : DTy} (hf : d.ty.flat = true) : ∀ (xs : List d.ty.den) (cs : List Value), RepL (Rep w p d.ty) xs cs → DRepL (DRep w d) xs cs []
  | [], _, h => ⟨h, rfl⟩
  | x :: xs, _, h => by
    obtain ⟨c1, c2, h1, h2, h3⟩ := h
    exact ⟨c1, c2, [], [], h1, rfl, DRep.of_flat d x c1 hf h2, DRepL.of_flat hf xs c2 h3⟩

theorem DRepL.flat_nil {w : World} {d : DTy} (hf : d.ty.flat = true) : ∀ (d : DTy) (x : d.ty.den) (c : List Value) (bs : List Nat), d.ty.flat = true → DRep w d x c bs → bs = []
  | .int _, _, _, _, _, h => h.2
  | .bool, _, _, _, _, h => h.2
  | .str, _, _, _, _, h => h.2
  | .sl _ _, _, _, _, hf, _ => by simp [Ty.flat] at hf
  | .unit, _, _, _, _, h => h.2
  | .pair a b, _, _, _, hf2, h => by
    simp only [Ty.flat, Bool.and_eq_true] at hf2
    obtain ⟨c1, c2, b1, b2, h1, rfl, h2, h3⟩ := h
    rw [DRepL.flat_nil hf a _ _ _ hf2.1 h2, DRepL.flat_nil hf b _ _ _ hf2.2 h3]; rfl

theorem DRepL.nil_flat {w : World} {d : DTy} (hf : d.ty.flat = true) : ∀ (xs : List d.ty.den) (cs : List Value) (bs : List Nat), DRepL (DRep w d) xs cs bs → bs = []
  | [], _, _, h => h.2
  | x :: xs, _, _, h => by
    obtain ⟨c1, c2, b1, b2, h1, rfl, h2, h3⟩ := h
    rw [DRepL.flat_nil hf d x c1 b1 hf h2, DRepL.nil_flat hf xs c2 b2 h3]; rfl

theorem ElsR_all {w : World} {p : Nat → Prop} {d : DTy} : ∀ (xs : List d.ty.den) (i : Nat) (cs : List Value) (bs : List Nat), ElsR w p d none i xs cs bs ↔ DRepL (DRep w d) xs cs bs
  | [], _, _, _ => Iff.rfl
  | x :: xs, i, cs, bs => by
    constructor
    · rintro ⟨c1, c2, b1, b2, h1, h2, h3, h4⟩
      exact ⟨c1, c2, b1, b2, h1, h2, h3, (ElsR_all xs (i + 1) c2 b2).1 h4⟩
    · rintro ⟨c1, c2, b1, b2, h1, h2, h3, h4⟩
      exact ⟨c1, c2, b1, b2, h1, h2, h3, (ElsR_all xs (i + 1) c2 b2).2 h4⟩

theorem ElsR_shared {w : World} {p : Nat → Prop} {d : DTy} : ∀ (xs : List d.ty.den) (i : Nat) (cs : List Value), RepL (Rep w p d.ty) xs cs → ElsR w p d (some 0) i xs cs []
  | [], _, _, h => ⟨h, rfl⟩
  | x :: xs, i, _, h => by
    obtain ⟨c1, c2, h1, h2, h3⟩ := h
    refine ⟨c1, c2, [], [], h1, rfl, ?_, ElsR_shared xs (i + 1) c2 h3⟩
    rw [show inK (some 0) i = false by unfold inK; exact decide_eq_false (by omega)]
    exact ⟨h2, rfl⟩

theorem ElsR_full {w : World} {p : Nat → Prop} {d : DTy} {z : Int} : ∀ (xs : List d.ty.den) (i : Nat) (cs : List Value) (bs : List Nat), ((i + xs.length : Nat) : Int) ≤ z → ElsR w p d (some z) i xs cs bs → ElsR w p d none i xs cs bs
  | [], _, _, _, _, h => h
  | x :: xs, i, _, _, hz, h => by
    obtain ⟨c1, c2, b1, b2, h1, h2, h3, h4⟩ := h
    rw [List.length_cons] at hz
    rw [show inK (some z) i = true by unfold inK; exact decide_eq_true (by omega)] at h3
    exact ⟨c1, c2, b1, b2, h1, h2, h3, ElsR_full xs (i + 1) c2 b2 (by omega) h4⟩

/-- The cells and blocks of one element; another one in its place. -/
theorem ElsR_at {w : World} {p : Nat → Prop} {d : DTy} {k : Option Int} : ∀ (xs : List d.ty.den) (i0 : Nat) (cs : List Value) (bs : List Nat), ElsR w p d k i0 xs cs bs → ∀ j (hj : j < xs.length),
    ∃ cs1 c cs2 bs1 b bs2, cs = cs1 ++ (c ++ cs2) ∧ bs = bs1 ++ (b ++ bs2) ∧ cs1.length = j * d.ty.size ∧ c.length = d.ty.size ∧ (match inK k (i0 + j) with | true => DRep w d xs[j] c b | false => Rep w p d.ty xs[j] c ∧ b = []) ∧
      ∀ (k' : Option Int) (y : d.ty.den) (c' : List Value) (b' : List Nat), (∀ i, i ≠ i0 + j → inK k' i = inK k i) → (match inK k' (i0 + j) with | true => DRep w d y c' b' | false => Rep w p d.ty y c' ∧ b' = []) →
        ElsR w p d k' i0 (xs.set j y) (cs1 ++ (c' ++ cs2)) (bs1 ++ (b' ++ bs2))
  | [], _, _, _, _, j, hj => by simp at hj
  | x :: xs, i0, _, _, h, 0, _ => by
    obtain ⟨c1, c2, b1, b2, rfl, rfl, h3, h4⟩ := h
    refine ⟨[], c1, c2, [], b1, b2, rfl, rfl, by simp, ?_, h3, fun k' y c' b' hk hy => ⟨c', c2, b', b2, rfl, rfl, hy, ?_⟩⟩
    · cases hk : inK k i0 with
      | true => rw [hk] at h3; exact DRep.length h3
      | false => rw [hk] at h3; exact Rep.length d.ty x c1 h3.1
    · have go : ∀ (xs : List d.ty.den) (i : Nat) (cs : List Value) (bs : List Nat), i0 < i → ElsR w p d k i xs cs bs → ElsR w p d k' i xs cs bs := by
        intro xs
        induction xs with
        | nil => intro i cs bs _ h; exact h
        | cons x xs ih =>
          intro i cs bs hi h
          obtain ⟨c1, c2, b1, b2, e1, e2, h5, h6⟩ := h
          exact ⟨c1, c2, b1, b2, e1, e2, by rw [hk i (by omega)]; exact h5, ih (i + 1) c2 b2 (by omega) h6⟩
      exact go xs (i0 + 1) c2 b2 (by omega) h4
  | x :: xs, i0, _, _, h, j + 1, hj => by
    obtain ⟨c1, c2, b1, b2, rfl, rfl, h3, h4⟩ := h
    obtain ⟨cs1, c, cs2, bs1, b, bs2, rfl, rfl, e3, e4, e5, e6⟩ := ElsR_at xs (i0 + 1) c2 b2 h4 j (by simpa using hj)
    have hc1 : c1.length = d.ty.size := by
      cases hk : inK k i0 with
      | true => rw [hk] at h3; exact DRep.length h3
      | false => rw [hk] at h3; exact Rep.length d.ty x c1 h3.1
    rw [show i0 + 1 + j = i0 + (j + 1) by omega] at e5 e6
    refine ⟨c1 ++ cs1, c, cs2, b1 ++ bs1, b, bs2, by simp, by simp, by rw [List.length_append, hc1, e3, Nat.succ_mul]; omega, e4, e5, fun k' y c' b' hk hy => ⟨c1, cs1 ++ (c' ++ cs2), b1, bs1 ++ (b' ++ bs2), by simp, by simp, ?_, e6 k' y c' b' hk hy⟩⟩
    rw [hk i0 (by omega)]; exact h3

/-- A slice within data: it is taken out, another one is put in. -/
theorem slAt_sound {w : World} : ∀ (d : DTy) (x : d.ty.den) (off : Nat) (r : SlAt d.ty.den), slAt d x off = some r → ∀ (c : List Value) (bs : List Nat), DRep w d x c bs →
    ∃ b1 b2 a cp ds bi, bs = b1 ++ ((ablk a ++ bi) ++ b2) ∧ c[off]? = some (.slice a (List.length r.ys) cp) ∧ w.ownsRow 0 r.tid r.e.ty.size (.slice a (List.length r.ys) cp) (List.length r.ys) ds ∧ DRepL (DRep w r.e) r.ys ds bi ∧
      ∀ (zs : List r.e.ty.den) (a' : Option Addr) (cp' : Nat) (dz : List Value) (bz : List Nat), w.ownsRow 0 r.tid r.e.ty.size (.slice a' (List.length zs) cp') (List.length zs) dz → DRepL (DRep w r.e) zs dz bz →
        DRep w d (r.set zs) (c.set off (.slice a' (List.length zs) cp')) (b1 ++ ((ablk a' ++ bz) ++ b2))
  | .sl tid e, xs, 0, r, h, c, bs, hr => by
    obtain rfl : ⟨tid, e, xs, fun ys => ys⟩ = r := Option.some.inj h
    obtain ⟨a, cp, ds, b2, rfl, h2, h3, rfl⟩ := hr
    exact ⟨[], [], a, cp, ds, b2, by simp, rfl, h2, h3, fun zs a' cp' dz bz hz hd => ⟨a', cp', dz, bz, rfl, hz, hd, by simp⟩⟩
  | .sl tid e, xs, _ + 1, r, h, c, bs, hr => by cases h
  | .pair a b, x, off, r, h, c, bs, hr => by
    obtain ⟨c1, c2, b1, b2, rfl, rfl, h1, h2⟩ := hr
    have hl := h1.length
    unfold slAt at h
    cases hlt : Nat.blt off a.ty.size with
    | true =>
      rw [hlt] at h
      simp only [cond_true] at h
      have hlt : off < a.ty.size := Nat.le_of_ble_eq_true hlt
      split at h
      · rename_i r' hr'
        obtain rfl := Option.some.inj h
        obtain ⟨x1, x2, ad, cp, ds, bi, e1, e2, e3, e4, e5⟩ := slAt_sound a x.1 off r' hr' c1 b1 h1
        refine ⟨x1, x2 ++ b2, ad, cp, ds, bi, by rw [e1]; simp, by rw [List.getElem?_append_left (by omega)]; exact e2, e3, e4, fun zs a' cp' dz bz hz hd => ?_⟩
        rw [List.set_append_left _ _ (by omega)]
        exact ⟨_, c2, _, b2, rfl, by simp, e5 zs a' cp' dz bz hz hd, h2⟩
      · cases h
    | false =>
      rw [hlt] at h
      simp only [cond_false] at h
      have hlt : ¬ off < a.ty.size := fun hk => by rw [show Nat.blt off a.ty.size = true from Nat.ble_eq_true_of_le hk] at hlt; cases hlt
      split at h
      · rename_i r' hr'
        obtain rfl := Option.some.inj h
        obtain ⟨x1, x2, ad, cp, ds, bi, e1, e2, e3, e4, e5⟩ := slAt_sound b x.2 (off - a.ty.size) r' hr' c2 b2 h2
        refine ⟨b1 ++ x1, x2, ad, cp, ds, bi, by rw [e1]; simp, by rw [List.getElem?_append_right (by omega), hl]; exact e2, e3, e4, fun zs a' cp' dz bz hz hd => ?_⟩
        rw [List.set_append_right _ _ (by omega), hl]
        exact ⟨c1, _, b1, _, rfl, by simp, h1, e5 zs a' cp' dz bz hz hd⟩
      · cases h
  | .int _, _, _, _, h, _, _, _ => by simp [slAt] at h
  | .bool, _, _, _, h, _, _, _ => by simp [slAt] at h
  | .str, _, _, _, h, _, _, _ => by simp [slAt] at h
  | .unit, _, _, _, h, _, _, _ => by simp [slAt] at h

section
variable {w : World} {p : Nat → Prop} {G : Gh} {obj : Nat → AObj}

/-- The blocks of a row, in order. -/
def blkL (G : Gh) (obj : Nat → AObj) (m : Nat) : List Nat := match obj m with
  | .row _ _ _ => ablk (G.hd m).1
  | .deep _ _ _ _ _ => ablk (G.hd m).1 ++ G.ex m
  | _ => []

theorem mem_ablk {a : Option Addr} {b : Nat} : b ∈ ablk a ↔ a.map (·.block) = some b := by simp [ablk]

theorem blkL_blk {m b : Nat} (h : b ∈ blkL G obj m) : blk G obj m b := by
  unfold blkL at h
  unfold blk
  split at h
  · rename_i ho; rw [ho]; exact mem_ablk.1 h
  · rename_i ho; rw [ho]
    rcases List.mem_append.1 h with h | h
    · exact .inl (mem_ablk.1 h)
    · exact .inr h
  · cases h

/-- A row that is alone: its cells, and what is behind them. -/
theorem rowD_sound {m tid : Nat} {e : DTy} {ys : List e.ty.den} (hO : RO w p G obj m (obj m)) (h : rowD tid e (obj m) = some ys) {cs : List Value} (hl : RL w p G obj (.hdr m) cs) :
    cs = [.slice (G.hd m).1 (List.length ys) (G.hd m).2] ∧ ∃ ds bi, w.ownsRow 0 tid e.ty.size (.slice (G.hd m).1 (List.length ys) (G.hd m).2) (List.length ys) ds ∧ DRepL (DRep w e) ys ds bi ∧ blkL G obj m = ablk (G.hd m).1 ++ bi ∧ (blkL G obj m).Nodup := by
  obtain ⟨v, k1, k2, k3, k4⟩ := hl
  unfold rowD at h
  split at h
  · rename_i t e' zs ho
    obtain ⟨hc, h2⟩ := cond_some h
    simp only [Bool.and_eq_true, Nat.beq_eq] at hc
    obtain ⟨rfl, hf⟩ := hc
    obtain ⟨he, hz⟩ := castL_some h2
    subst he
    subst hz
    rw [ho] at hO
    obtain ⟨ds, h1, h2⟩ := hO
    refine ⟨by rw [k1, k4 _ (List.length zs) (by rw [ho]; rfl)], ds, [], h1, DRepL.of_flat hf _ ds h2, by simp [blkL, ho], ?_⟩
    simp only [blkL, ho]
    cases (G.hd m).1 <;> simp [ablk]
  · rename_i t d' zs ho
    obtain ⟨hc, h2⟩ := cond_some h
    have := Nat.eq_of_beq_eq_true hc
    subst this
    obtain ⟨he, hz⟩ := castD_some h2
    subst he
    subst hz
    rw [ho] at hO
    obtain ⟨hn, ds, ds', h1, h2, h3⟩ := hO
    have h2 : ds' = ds := h2
    subst h2
    exact ⟨by rw [k1, k4 _ (List.length zs) (by rw [ho]; rfl)], ds', G.ex m, h1, (ElsR_all _ 0 _ _).1 h3, by simp [blkL, ho], by simp only [blkL, ho]; exact hn⟩
  · cases h

theorem ofD_sound (hO : ∀ n, RO w p G obj n (obj n)) : ∀ (d : DTy) (ls : List Leaf) (y : d.ty.den) (r : List Leaf) (ns : List Nat) (cs : List Value), RLs w p G obj ls cs → ofD d ls obj = some (y, r, ns) →
    ∃ c1 c2, cs = c1 ++ c2 ∧ DRep w d y c1 (ns.flatMap (blkL G obj)) ∧ RLs w p G obj r c2 ∧ (∀ m ∈ ns, (blkL G obj m).Nodup ∧ live (obj m) = true)
  | .int k, ls, y, r, ns, cs, hl, h => by
    rcases ls with _ | ⟨l, r'⟩
    · simp [ofD] at h
    cases l <;> try (simp [ofD] at h; done)
    rename_i k' x
    simp only [ofD] at h
    split at h
    · rename_i hk
      subst hk
      simp only [Option.some.injEq, Prod.mk.injEq] at h
      obtain ⟨rfl, rfl, rfl⟩ := h
      obtain ⟨c1, c2, rfl, h1, h2⟩ := hl
      exact ⟨c1, c2, rfl, ⟨h1, rfl⟩, h2, fun _ h => (by cases h)⟩
    · cases h
  | .bool, ls, y, r, ns, cs, hl, h => by
    rcases ls with _ | ⟨l, r'⟩
    · simp [ofD] at h
    cases l <;> try (simp [ofD] at h; done)
    simp only [ofD, Option.some.injEq, Prod.mk.injEq] at h
    obtain ⟨rfl, rfl, rfl⟩ := h
    obtain ⟨c1, c2, rfl, h1, h2⟩ := hl
    exact ⟨c1, c2, rfl, ⟨h1, rfl⟩, h2, fun _ h => (by cases h)⟩
  | .str, ls, y, r, ns, cs, hl, h => by
    rcases ls with _ | ⟨l, r'⟩
    · simp [ofD] at h
    cases l <;> try (simp [ofD] at h; done)
    simp only [ofD, Option.some.injEq, Prod.mk.injEq] at h
    obtain ⟨rfl, rfl, rfl⟩ := h
    obtain ⟨c1, c2, rfl, h1, h2⟩ := hl
    exact ⟨c1, c2, rfl, ⟨h1, rfl⟩, h2, fun _ h => (by cases h)⟩
  | .unit, ls, y, r, ns, cs, hl, h => by
    simp only [ofD, Option.some.injEq, Prod.mk.injEq] at h
    obtain ⟨_, rfl, rfl⟩ := h
    exact ⟨[], cs, rfl, ⟨rfl, rfl⟩, hl, fun _ h => (by cases h)⟩
  | .sl tid e, ls, y, r, ns, cs, hl, h => by
    rcases ls with _ | ⟨l, r'⟩
    · simp [ofD] at h
    cases l <;> try (simp [ofD] at h; done)
    · simp only [ofD, Option.some.injEq, Prod.mk.injEq] at h
      obtain ⟨rfl, rfl, rfl⟩ := h
      obtain ⟨c1, c2, rfl, h1, h2⟩ := hl
      have h1 : c1 = _ := h1
      subst h1
      exact ⟨_, c2, rfl, ⟨none, 0, [], [], rfl, ⟨by simp, .inl ⟨rfl, rfl⟩⟩, ⟨rfl, rfl⟩, rfl⟩, h2, fun _ h => (by cases h)⟩
    · rename_i m
      simp only [ofD] at h
      split at h
      · rename_i ys hy
        simp only [Option.some.injEq, Prod.mk.injEq] at h
        obtain ⟨rfl, rfl, rfl⟩ := h
        obtain ⟨c1, c2, rfl, h1, h2⟩ := hl
        obtain ⟨rfl, ds, bi, k1, k2, k3, k4⟩ := rowD_sound (hO m) hy h1
        refine ⟨_, c2, rfl, ⟨_, _, ds, bi, rfl, k1, k2, by simp [k3]⟩, h2, fun m' hm => ?_⟩
        simp only [List.mem_singleton] at hm
        subst hm
        refine ⟨k4, ?_⟩
        unfold rowD at hy
        cases ho : obj m' with
        | row _ _ _ => rfl
        | deep _ _ _ _ _ => rfl
        | none => rw [ho] at hy; cases hy
        | dead => rw [ho] at hy; cases hy
        | box _ => rw [ho] at hy; cases hy
      · cases h
  | .pair a b, ls, y, r, ns, cs, hl, h => by
    simp only [ofD] at h
    split at h
    · cases h
    · rename_i x1 r1 n1 h1
      split at h
      · cases h
      · rename_i x2 r2 n2 h2
        simp only [Option.some.injEq, Prod.mk.injEq] at h
        obtain ⟨rfl, rfl, rfl⟩ := h
        obtain ⟨c1, c2, rfl, k1, k2, k3⟩ := ofD_sound hO a ls x1 r1 n1 cs hl h1
        obtain ⟨d1, d2, rfl, j1, j2, j3⟩ := ofD_sound hO b r1 x2 r2 n2 c2 k2 h2
        refine ⟨c1 ++ d1, d2, by simp, ⟨c1, d1, _, _, rfl, by rw [List.flatMap_append], k1, j1⟩, j2, fun m hm => ?_⟩
        rcases List.mem_append.1 hm with hm | hm
        · exact k3 m hm
        · exact j3 m hm

theorem wholeD_sound (hO : ∀ n, RO w p G obj n (obj n)) {d : DTy} {ls : List Leaf} {y : d.ty.den} {ns : List Nat} {cs : List Value} (hl : RLs w p G obj ls cs) (h : wholeD d ls obj = some (y, ns)) :
    DRep w d y cs (ns.flatMap (blkL G obj)) ∧ (∀ m ∈ ns, (blkL G obj m).Nodup ∧ live (obj m) = true) := by
  unfold wholeD at h
  split at h
  · rename_i z ms hz
    simp only [Option.some.injEq, Prod.mk.injEq] at h
    obtain ⟨rfl, rfl⟩ := h
    obtain ⟨c1, c2, rfl, h1, h2, h3⟩ := ofD_sound hO d ls _ _ _ cs hl hz
    have h2 : c2 = [] := h2
    subst h2
    rw [List.append_nil]
    exact ⟨h1, h3⟩
  · cases h

/-- New leaves in the place of old ones. -/
theorem putD_sound (hO : ∀ n, RO w p G obj n (obj n)) : ∀ (d : DTy) (x : d.ty.den) (off : Nat) (ls : List Leaf) (y : d.ty.den) (ns : List Nat) (cs : List Value), RLs w p G obj ls cs → putD d x off ls obj = some (y, ns) →
    ∀ (c : List Value) (bs : List Nat), DRep w d x c bs → (∀ m ∈ ns, (blkL G obj m).Nodup ∧ live (obj m) = true) ∧ ∃ b1 bo b2, bs = b1 ++ (bo ++ b2) ∧ DRep w d y (c.take off ++ cs ++ c.drop (off + cs.length)) (b1 ++ (ns.flatMap (blkL G obj) ++ b2)) := by
  have base : ∀ (d : DTy) (ls : List Leaf) (y : d.ty.den) (ns : List Nat) (cs : List Value), RLs w p G obj ls cs → sizes ls = d.ty.size → wholeD d ls obj = some (y, ns) →
      ∀ (c : List Value) (bs : List Nat), c.length = d.ty.size → (∀ m ∈ ns, (blkL G obj m).Nodup ∧ live (obj m) = true) ∧ ∃ b1 bo b2, bs = b1 ++ (bo ++ b2) ∧ DRep w d y (c.take 0 ++ cs ++ c.drop (0 + cs.length)) (b1 ++ (ns.flatMap (blkL G obj) ++ b2)) := by
    intro d ls y ns cs hl hs h c bs hc
    obtain ⟨h1, h2⟩ := wholeD_sound hO hl h
    refine ⟨h2, [], bs, [], by simp, ?_⟩
    rw [List.take_zero, List.nil_append, Nat.zero_add, List.drop_of_length_le (by rw [h1.length, hc]; exact Nat.le_refl _), List.append_nil, List.append_nil, List.nil_append]
    exact h1
  intro d
  induction d with
  | pair a b iha ihb =>
    intro x off ls y ns cs hl h c bs hr
    unfold putD at h
    cases hw : (Nat.beq off 0 && Nat.beq (sizes ls) (a.ty.size + b.ty.size)) with
    | true =>
      rw [hw] at h
      simp only [cond_true] at h
      simp only [Bool.and_eq_true, Nat.beq_eq] at hw
      obtain ⟨rfl, hs⟩ := hw
      exact base (.pair a b) ls y ns cs hl hs h c bs hr.length
    | false =>
      rw [hw] at h
      simp only [cond_false] at h
      obtain ⟨c1, c2, b1, b2, rfl, rfl, h1, h2⟩ := hr
      have hl1 := h1.length
      cases hlt : Nat.blt off a.ty.size with
      | true =>
        rw [hlt] at h
        simp only [cond_true] at h
        have hlt : off < a.ty.size := Nat.le_of_ble_eq_true hlt
        split at h
        · rename_i y' ns' hp
          simp only [Option.some.injEq, Prod.mk.injEq] at h
          obtain ⟨rfl, rfl⟩ := h
          obtain ⟨k1, x1, bo, x2, rfl, k2⟩ := iha x.1 off ls y' ns' cs hl hp c1 b1 h1
          have hk := k2.length
          simp only [List.length_append, List.length_take, List.length_drop, hl1] at hk
          have hle : off + cs.length ≤ c1.length := by omega
          refine ⟨k1, x1, bo, x2 ++ b2, by simp, ?_⟩
          refine ⟨c1.take off ++ cs ++ c1.drop (off + cs.length), c2, x1 ++ (ns'.flatMap (blkL G obj) ++ x2), b2, ?_, by simp, k2, h2⟩
          rw [List.take_append_of_le_length (by omega), List.drop_append_of_le_length hle]
          simp
        · cases h
      | false =>
        rw [hlt] at h
        simp only [cond_false] at h
        have hlt : ¬ off < a.ty.size := fun hk => by rw [show Nat.blt off a.ty.size = true from Nat.ble_eq_true_of_le hk] at hlt; cases hlt
        split at h
        · rename_i y' ns' hp
          simp only [Option.some.injEq, Prod.mk.injEq] at h
          obtain ⟨rfl, rfl⟩ := h
          obtain ⟨k1, x1, bo, x2, rfl, k2⟩ := ihb x.2 (off - a.ty.size) ls y' ns' cs hl hp c2 b2 h2
          refine ⟨k1, b1 ++ x1, bo, x2, by simp, ?_⟩
          refine ⟨c1, c2.take (off - a.ty.size) ++ cs ++ c2.drop (off - a.ty.size + cs.length), b1, x1 ++ (ns'.flatMap (blkL G obj) ++ x2), ?_, by simp, h1, k2⟩
          rw [List.take_append, List.take_of_length_le (by omega), List.drop_append, List.drop_of_length_le (by omega), hl1]
          simp only [List.nil_append, List.append_assoc]
          rw [show off + cs.length - a.ty.size = off - a.ty.size + cs.length by omega]
        · cases h
  | sl tid e =>
    intro x off ls y ns cs hl h c bs hr
    obtain ⟨hw, h2⟩ := cond_some h
    simp only [Bool.and_eq_true, Nat.beq_eq] at hw
    obtain ⟨rfl, hs⟩ := hw
    exact base _ ls y ns cs hl hs h2 c bs hr.length
  | int k =>
    intro x off ls y ns cs hl h c bs hr
    obtain ⟨hw, h2⟩ := cond_some h
    simp only [Bool.and_eq_true, Nat.beq_eq] at hw
    obtain ⟨rfl, hs⟩ := hw
    exact base _ ls y ns cs hl hs h2 c bs hr.length
  | bool =>
    intro x off ls y ns cs hl h c bs hr
    obtain ⟨hw, h2⟩ := cond_some h
    simp only [Bool.and_eq_true, Nat.beq_eq] at hw
    obtain ⟨rfl, hs⟩ := hw
    exact base _ ls y ns cs hl hs h2 c bs hr.length
  | str =>
    intro x off ls y ns cs hl h c bs hr
    obtain ⟨hw, h2⟩ := cond_some h
    simp only [Bool.and_eq_true, Nat.beq_eq] at hw
    obtain ⟨rfl, hs⟩ := hw
    exact base _ ls y ns cs hl hs h2 c bs hr.length
  | unit =>
    intro x off ls y ns cs hl h c bs hr
    obtain ⟨hw, h2⟩ := cond_some h
    simp only [Bool.and_eq_true, Nat.beq_eq] at hw
    obtain ⟨rfl, hs⟩ := hw
    exact base _ ls y ns cs hl hs h2 c bs hr.length

end
end Go.Vx
