/-
  A store into a row whose elements' rows are its own.
-/
import Derived.Test.YtgdfaamcmkfkcaaVxGhost
set_option linter.unusedSimpArgs false
set_option linter.unusedVariables false
set_option linter.unnecessarySimpa false
namespace Go.Vx
section
variable {P : Program} {C : Cfg} {N : Nat} {w0 : World} {p0 Bs : Nat → Prop} {G : Gh} {st : St} {a : Act} {w : World}

theorem covers_hi : ∀ (d : DTy) (lo hi : Nat), d.ty.size ≤ lo → coversD d lo hi = true → d.ty.flat = true
  | .int _, _, _, _, _ => rfl
  | .bool, _, _, _, _ => rfl
  | .str, _, _, _, _ => rfl
  | .unit, _, _, _, _ => rfl
  | .sl _ _, lo, hi, h, hc => by
    simp only [coversD, Bool.and_eq_true, Nat.beq_eq] at hc
    simp only [DTy.ty, Ty.size] at h
    omega
  | .pair a b, lo, hi, h, hc => by
    simp only [coversD, Bool.and_eq_true] at hc
    simp only [DTy.ty, Ty.size] at h
    simp only [DTy.ty, Ty.flat, Bool.and_eq_true]
    exact ⟨covers_hi a lo hi (by omega) hc.1, covers_hi b _ _ (by omega) hc.2⟩

theorem covers_lo : ∀ (d : DTy) (lo : Nat), coversD d lo 0 = true → d.ty.flat = true
  | .int _, _, _ => rfl
  | .bool, _, _ => rfl
  | .str, _, _ => rfl
  | .unit, _, _ => rfl
  | .sl _ _, lo, hc => by simp [coversD] at hc
  | .pair a b, lo, hc => by
    simp only [coversD, Bool.and_eq_true, Nat.zero_sub] at hc
    simp only [DTy.ty, Ty.flat, Bool.and_eq_true]
    exact ⟨covers_lo a lo hc.1, covers_lo b _ hc.2⟩

theorem putD_len {obj : Nat → AObj} : ∀ (d : DTy) (x : d.ty.den) (off : Nat) (ls : List Leaf) (y : d.ty.den) (ns : List Nat), putD d x off ls obj = some (y, ns) → off + sizes ls ≤ d.ty.size := by
  intro d
  induction d with
  | pair a b iha ihb =>
    intro x off ls y ns h
    unfold putD at h
    cases hw : (Nat.beq off 0 && Nat.beq (sizes ls) (a.ty.size + b.ty.size)) with
    | true =>
      simp only [Bool.and_eq_true, Nat.beq_eq] at hw
      simp only [DTy.ty, Ty.size]
      omega
    | false =>
      rw [hw] at h
      simp only [cond_false] at h
      simp only [DTy.ty, Ty.size]
      cases hlt : Nat.blt off a.ty.size with
      | true =>
        rw [hlt] at h
        simp only [cond_true] at h
        split at h
        · rename_i y' ns' hp
          have := iha _ _ _ _ _ hp
          omega
        · cases h
      | false =>
        rw [hlt] at h
        simp only [cond_false] at h
        have hlt : ¬ off < a.ty.size := fun hk => by rw [show Nat.blt off a.ty.size = true from Nat.ble_eq_true_of_le hk] at hlt; cases hlt
        split at h
        · rename_i y' ns' hp
          have := ihb _ _ _ _ _ hp
          omega
        · cases h
  | sl tid e =>
    intro x off ls y ns h
    obtain ⟨hw, _⟩ := cond_some h
    simp only [Bool.and_eq_true, Nat.beq_eq] at hw
    omega
  | int k =>
    intro x off ls y ns h
    obtain ⟨hw, _⟩ := cond_some h
    simp only [Bool.and_eq_true, Nat.beq_eq] at hw
    omega
  | bool =>
    intro x off ls y ns h
    obtain ⟨hw, _⟩ := cond_some h
    simp only [Bool.and_eq_true, Nat.beq_eq] at hw
    omega
  | str =>
    intro x off ls y ns h
    obtain ⟨hw, _⟩ := cond_some h
    simp only [Bool.and_eq_true, Nat.beq_eq] at hw
    omega
  | unit =>
    intro x off ls y ns h
    obtain ⟨hw, _⟩ := cond_some h
    simp only [Bool.and_eq_true, Nat.beq_eq] at hw
    omega

/-- New leaves over all slices of data that is shared: what comes out is its own. -/
theorem putD_part {p : Nat → Prop} {obj : Nat → AObj} (hO : ∀ n, RO w p G obj n (obj n)) : ∀ (d : DTy) (x : d.ty.den) (off : Nat) (ls : List Leaf) (y : d.ty.den) (ns : List Nat) (cs : List Value), RLs w p G obj ls cs → putD d x off ls obj = some (y, ns) → coversD d off (off + sizes ls) = true →
    ∀ (c : List Value), Rep w p d.ty x c → (∀ m ∈ ns, (blkL G obj m).Nodup ∧ live (obj m) = true) ∧ DRep w d y (c.take off ++ cs ++ c.drop (off + cs.length)) (ns.flatMap (blkL G obj)) := by
  have base : ∀ (d : DTy) (ls : List Leaf) (y : d.ty.den) (ns : List Nat) (cs : List Value), RLs w p G obj ls cs → sizes ls = d.ty.size → wholeD d ls obj = some (y, ns) →
      ∀ (c : List Value), c.length = d.ty.size → (∀ m ∈ ns, (blkL G obj m).Nodup ∧ live (obj m) = true) ∧ DRep w d y (c.take 0 ++ cs ++ c.drop (0 + cs.length)) (ns.flatMap (blkL G obj)) := by
    intro d ls y ns cs hl hs h c hc
    obtain ⟨h1, h2⟩ := wholeD_sound hO hl h
    refine ⟨h2, ?_⟩
    rw [List.take_zero, List.nil_append, Nat.zero_add, List.drop_of_length_le (by rw [h1.length, hc]; exact Nat.le_refl _), List.append_nil]
    exact h1
  intro d
  induction d with
  | pair a b iha ihb =>
    intro x off ls y ns cs hl h hcov c hr
    unfold putD at h
    cases hw : (Nat.beq off 0 && Nat.beq (sizes ls) (a.ty.size + b.ty.size)) with
    | true =>
      rw [hw] at h
      simp only [cond_true] at h
      simp only [Bool.and_eq_true, Nat.beq_eq] at hw
      obtain ⟨rfl, hs⟩ := hw
      exact base (.pair a b) ls y ns cs hl hs h c (Rep.length _ _ _ hr)
    | false =>
      rw [hw] at h
      simp only [cond_false] at h
      obtain ⟨c1, c2, rfl, h1, h2⟩ := hr
      have hl1 := Rep.length _ _ _ h1
      simp only [coversD, Bool.and_eq_true] at hcov
      have hcl := RLs.length _ _ hl
      cases hlt : Nat.blt off a.ty.size with
      | true =>
        rw [hlt] at h
        simp only [cond_true] at h
        have hlt : off < a.ty.size := Nat.le_of_ble_eq_true hlt
        split at h
        · rename_i y' ns' hp
          simp only [Option.some.injEq, Prod.mk.injEq] at h
          obtain ⟨rfl, rfl⟩ := h
          obtain ⟨k1, k2⟩ := iha x.1 off ls y' ns' cs hl hp hcov.1 c1 h1
          have hle := putD_len a _ _ _ _ _ hp
          have hfb : b.ty.flat = true := covers_lo b (off - a.ty.size) (by
            have := hcov.2
            rwa [show off + sizes ls - a.ty.size = 0 by omega] at this)
          refine ⟨k1, c1.take off ++ cs ++ c1.drop (off + cs.length), c2, ns'.flatMap (blkL G obj), [], ?_, by simp, k2, DRep.of_flat b _ _ hfb h2⟩
          rw [List.take_append_of_le_length (by omega), List.drop_append_of_le_length (by omega)]
          simp
        · cases h
      | false =>
        rw [hlt] at h
        simp only [cond_false] at h
        have hlt : ¬ off < a.ty.size := fun hk => by rw [show Nat.blt off a.ty.size = true from Nat.ble_eq_true_of_le hk] at hlt; cases hlt
        split at h
        · rename_i y' ns' hp
          simp only [Option.some.injEq, Prod.mk.injEq] at h
          obtain ⟨rfl, rfl⟩ := h
          obtain ⟨k1, k2⟩ := ihb x.2 (off - a.ty.size) ls y' ns' cs hl hp (by
            have := hcov.2
            rwa [show off + sizes ls - a.ty.size = off - a.ty.size + sizes ls by omega] at this) c2 h2
          have hfa : a.ty.flat = true := covers_hi a off _ (by omega) hcov.1
          refine ⟨k1, c1, c2.take (off - a.ty.size) ++ cs ++ c2.drop (off - a.ty.size + cs.length), [], ns'.flatMap (blkL G obj), ?_, by simp, DRep.of_flat a _ _ hfa h1, k2⟩
          rw [List.take_append, List.take_of_length_le (by omega), List.drop_append, List.drop_of_length_le (by omega), hl1]
          simp only [List.nil_append, List.append_assoc]
          rw [show off + cs.length - a.ty.size = off - a.ty.size + cs.length by omega]
        · cases h
  | sl tid e =>
    intro x off ls y ns cs hl h hcov c hr
    obtain ⟨hw, h2⟩ := cond_some h
    simp only [Bool.and_eq_true, Nat.beq_eq] at hw
    obtain ⟨rfl, hs⟩ := hw
    exact base _ ls y ns cs hl hs h2 c (Rep.length _ _ _ hr)
  | int k =>
    intro x off ls y ns cs hl h hcov c hr
    obtain ⟨hw, h2⟩ := cond_some h
    simp only [Bool.and_eq_true, Nat.beq_eq] at hw
    obtain ⟨rfl, hs⟩ := hw
    exact base _ ls y ns cs hl hs h2 c (Rep.length _ _ _ hr)
  | bool =>
    intro x off ls y ns cs hl h hcov c hr
    obtain ⟨hw, h2⟩ := cond_some h
    simp only [Bool.and_eq_true, Nat.beq_eq] at hw
    obtain ⟨rfl, hs⟩ := hw
    exact base _ ls y ns cs hl hs h2 c (Rep.length _ _ _ hr)
  | str =>
    intro x off ls y ns cs hl h hcov c hr
    obtain ⟨hw, h2⟩ := cond_some h
    simp only [Bool.and_eq_true, Nat.beq_eq] at hw
    obtain ⟨rfl, hs⟩ := hw
    exact base _ ls y ns cs hl hs h2 c (Rep.length _ _ _ hr)
  | unit =>
    intro x off ls y ns cs hl h hcov c hr
    obtain ⟨hw, h2⟩ := cond_some h
    simp only [Bool.and_eq_true, Nat.beq_eq] at hw
    obtain ⟨rfl, hs⟩ := hw
    exact base _ ls y ns cs hl hs h2 c (Rep.length _ _ _ hr)

theorem distinct_mem : ∀ {n : Nat} {ns : List Nat}, ns.all (fun m => !Nat.beq m n) = true → n ∉ ns := by
  intro n ns h hm
  have := List.all_eq_true.1 h n hm
  simp at this

theorem flat_nodup {f : Nat → List Nat} (hinj : ∀ m m' b, b ∈ f m → b ∈ f m' → m = m') : ∀ (ns : List Nat), distinct ns = true → (∀ m ∈ ns, (f m).Nodup) → (ns.flatMap f).Nodup
  | [], _, _ => List.nodup_nil
  | n :: ns, h, hn => by
    simp only [distinct, Bool.and_eq_true] at h
    rw [List.flatMap_cons, List.nodup_append]
    refine ⟨hn n (List.mem_cons_self ..), flat_nodup hinj ns h.2 (fun m hm => hn m (List.mem_cons_of_mem _ hm)), fun x hx y hy e => ?_⟩
    subst e
    obtain ⟨m, hm, hy⟩ := List.mem_flatMap.1 hy
    have := hinj n m x hx hy
    subst this
    exact distinct_mem h.1 hm

/-- The row's own block, written. -/
theorem own_write {tid size l c b pos : Nat} {ds cs : List Value} (h : w.ownsRow 0 tid size (.slice (some ⟨b, 0, none⟩) l c) l ds) (hp : pos + cs.length ≤ ds.length) :
    ∃ cells : Array Value, w.heap[b]? = some (.cells cells tid (0, 0)) ∧ ds.length ≤ cells.size ∧
      (w.setRow b (cells.toList.take pos ++ cs ++ cells.toList.drop (pos + cs.length)).toArray).ownsRow 0 tid size (.slice (some ⟨b, 0, none⟩) l c) l (ds.take pos ++ cs ++ ds.drop (pos + cs.length)) := by
  have hdl := h.1
  rcases h.2 with ⟨h3, h4⟩ | ⟨g, cap, cur, q3, _, q4, q5, q6, q7, q8⟩
  · cases h3
  · simp only [Value.slice.injEq, Option.some.injEq, Addr.mk.injEq, and_true, true_and] at q3
    obtain ⟨rfl, rfl⟩ := q3
    have hcl : ds.length ≤ cur.toList.length := by rw [← q8, List.length_take]; exact Nat.min_le_right _ _
    have hle : ds.length ≤ cur.size := by rwa [Array.length_toList] at hcl
    have hcells := set_cells (full := cur.toList) (cs := cs) (k := pos) (off := 0) (size := cs.length) (L := ds.length) (by omega) hp hcl
    simp only [Nat.add_zero, List.take_zero, List.nil_append, Nat.zero_add] at hcells
    rw [List.drop_of_length_le (l := (cur.toList.drop pos).take cs.length) (by rw [List.length_take]; omega), List.append_nil] at hcells
    rw [hdl, q8, ← hdl] at hcells
    refine ⟨cur, q4, hle, ?_, .inr ⟨b, c, (cur.toList.take pos ++ cs ++ cur.toList.drop (pos + cs.length)).toArray, rfl, Nat.zero_le _, setRow_heap w b cur _ tid _ q4, q5, q6, ?_, ?_⟩⟩
    · simp only [List.length_append, List.length_take, List.length_drop]
      omega
    · simp only [List.size_toArray, List.length_append, List.length_take, List.length_drop]
      rw [← q7]
      simp only [Array.length_toList] at *
      omega
    · rw [← hdl]; exact hcells

theorem splice_mid {cs1 c cs2 cs : List Value} {off : Nat} (h : off + cs.length ≤ c.length) :
    (cs1 ++ (c ++ cs2)).take (cs1.length + off) ++ cs ++ (cs1 ++ (c ++ cs2)).drop (cs1.length + off + cs.length) = cs1 ++ ((c.take off ++ cs ++ c.drop (off + cs.length)) ++ cs2) := by
  rw [List.take_length_add_append, Nat.add_assoc, List.drop_length_add_append, List.take_append_of_le_length (by omega), List.drop_append_of_le_length h]
  simp

/-- What a store into a deep row leaves. -/
theorem store_step (h : Rel N w0 p0 Bs G st a w) {n tid : Nat} {d : DTy} {kk kk' : Option Int} {xs xs' : List d.ty.den} {hole : Option (Int × Nat × Nat)} (ho : st.obj n = .deep tid d kk xs hole) (hlx : List.length xs' = List.length xs)
    {b pos : Nat} (hb : (G.hd n).1 = some ⟨b, 0, none⟩) {ns : List Nat} (hns : ∀ m ∈ ns, (blkL G st.obj m).Nodup ∧ live (st.obj m) = true) (hdi : distinct ns = true) (hnn : n ∉ ns)
    {cs ds ds2 x bo y : List _} (hex : G.ex n = x ++ (bo ++ y)) (hown : w.ownsRow 0 tid d.ty.size (.slice (G.hd n).1 (List.length xs) (G.hd n).2) (List.length xs) ds) (hpos : pos + cs.length ≤ ds.length)
    (hd2 : ds2 = ds.take pos ++ cs ++ ds.drop (pos + cs.length)) (hel : ElsR w (reg w0 p0 Bs G st.obj) d kk' 0 xs' ds2 (x ++ (ns.flatMap (blkL G st.obj) ++ y))) :
    ∃ cells : Array Value, ∃ G', w.heap[b]? = some (.cells cells tid (0, 0)) ∧ ds.length ≤ cells.size ∧
      Rel N w0 p0 Bs G' { st with obj := setO (killO st.obj ns) n (.deep tid d kk' xs' none) } a (w.setRow b (cells.toList.take pos ++ cs ++ cells.toList.drop (pos + cs.length)).toArray) := by
  rw [hb] at hown
  obtain ⟨cells, j1, j2, j3⟩ := own_write hown hpos
  rw [← hd2] at j3
  have hO := h.objs n
  rw [ho] at hO
  have hn := hO.1
  have hN : (ns.flatMap (blkL G st.obj)).Nodup := flat_nodup (fun m m' z h1 h2 => h.inj m m' z (blkL_blk h1) (blkL_blk h2)) ns hdi fun m hm => (hns m hm).1
  have hold : ∀ z, z ∈ ablk (G.hd n).1 ++ x ++ y → blk G st.obj n z := by
    intro z hz
    refine (blk_deep ho z).2 ?_
    rw [hex]
    simp only [List.mem_append] at hz ⊢
    rcases hz with (hz | hz) | hz
    · exact .inl hz
    · exact .inr (.inl hz)
    · exact .inr (.inr (.inr hz))
  have hnew : (ablk (G.hd n).1 ++ (x ++ (ns.flatMap (blkL G st.obj) ++ y))).Nodup := by
    rw [hex, ← List.append_assoc] at hn
    rw [← List.append_assoc]
    refine nodup_ins (nodup_del hn) hN fun z hz hz2 => ?_
    obtain ⟨m, hm, hz⟩ := List.mem_flatMap.1 hz
    have := h.inj m n z (blkL_blk hz) (hold z hz2)
    exact hnn (this ▸ hm)
  let G' : Gh := { G with ex := fun m => if m = n then x ++ (ns.flatMap (blkL G st.obj) ++ y) else G.ex m }
  have hen : G'.ex n = x ++ (ns.flatMap (blkL G st.obj) ++ y) := by simp [G']
  have hbn : ∀ z, blk G' (setO (killO st.obj ns) n (.deep tid d kk' xs' none)) n z ↔ z ∈ ablk (G.hd n).1 ++ (x ++ (ns.flatMap (blkL G st.obj) ++ y)) := fun z => by
    rw [blk_deep (setO_same _ _ _), hen]
  have hbb : b ∈ ablk (G.hd n).1 := by rw [hb]; simp [ablk]
  refine ⟨cells, G', j1, j2, (h.step (w' := w.setRow b _) (G' := G') (obj' := setO (killO st.obj ns) n (.deep tid d kk' xs' none)) (n := n) rfl rfl rfl (by simp) ?_ ?_ (by rw [setO_same]; simp) ?_ ?_ ?_).1⟩
  · intro b' _ hne _
    exact setRow_other w _ b' _ fun e' => hne ((hbn b').2 (e' ▸ List.mem_append_left _ hbb))
  · intro m hm
    rw [setO_other _ _ hm]
    rcases killO_cases ns st.obj m with ⟨_, k5⟩ | ⟨k5, k6⟩
    · exact .inl ⟨k5, rfl, rfl, by simp [G', hm]⟩
    · refine .inr ⟨fun e => ?_, k6⟩
      have := (hns m k5).2
      rw [e] at this
      cases this
  · intro _
    refine ⟨fun e' l' hq => ?_, fun ls' hq => by (rw [setO_same] at hq; cases hq)⟩
    rw [setO_same] at hq
    refine ⟨?_, rfl⟩
    rw [ho]
    simp only [rowOf, Option.some.injEq, Prod.mk.injEq] at hq ⊢
    exact ⟨hq.1, by omega⟩
  · intro z hz
    have hz := (hbn z).1 hz
    have : (∃ m0, blk G st.obj m0 z ∧ (m0 = n ∨ setO (killO st.obj ns) n (.deep tid d kk' xs' none) m0 = .dead)) := by
      by_cases hq : z ∈ ns.flatMap (blkL G st.obj)
      · obtain ⟨m, hm, hq⟩ := List.mem_flatMap.1 hq
        refine ⟨m, blkL_blk hq, .inr ?_⟩
        rw [setO_other _ _ (show m ≠ n from fun e => hnn (e ▸ hm))]
        rcases killO_cases ns st.obj m with ⟨k5, _⟩ | ⟨_, k6⟩
        · exact absurd hm k5
        · exact k6
      · refine ⟨n, hold z ?_, .inl rfl⟩
        simp only [List.mem_append] at hz ⊢
        rcases hz with hz | hz | hz | hz
        · exact .inl (.inl hz)
        · exact .inl (.inr hz)
        · exact absurd hz hq
        · exact .inr hz
    obtain ⟨m0, k1, k2⟩ := this
    exact ⟨by simpa using (h.bound m0 z k1).1, .inr ⟨m0, k1, k2⟩⟩
  · intro tr
    rw [setO_same]
    refine ⟨by rw [hen]; exact hnew, ds2, ds2, ?_, rfl, ?_⟩
    · rw [hlx]
      show World.ownsRow _ _ _ _ (.slice (G.hd n).1 _ (G.hd n).2) _ _
      rw [hb]; exact j3
    · rw [hen]
      refine ElsR.keep tr.reg xs' 0 ds2 _ (fun z hz => setRow_other w _ z _ fun e' => ?_) hel
      exact (List.nodup_append.1 hnew).2.2 b hbb z hz e'.symm

theorem storeD_sound (h : Rel N w0 p0 Bs G st a w) {n tid : Nat} {d : DTy} {kk : Option Int} {xs : List d.ty.den} {hole : Option (Int × Nat × Nat)} (ho : st.obj n = .deep tid d kk xs hole) {i : Int} {off : Nat} {ls : List Leaf} {cs : List Value}
    (hl : RLs w (reg w0 p0 Bs G st.obj) G st.obj ls cs) (hle : off + sizes ls ≤ d.ty.size) {b : Nat} (hb : (G.hd n).1 = some ⟨b, 0, none⟩) {R : Type} {k : St → Option R} {r : R} (hk : storeD st n tid d kk xs hole i off ls k = some r) :
    ∃ cells : Array Value, ∃ G' st', w.heap[b]? = some (.cells cells tid (0, 0)) ∧ i.toNat * d.ty.size + off + cs.length ≤ cells.size ∧ k st' = some r ∧
      Rel N w0 p0 Bs G' st' a (w.setRow b (cells.toList.take (i.toNat * d.ty.size + off) ++ cs ++ cells.toList.drop (i.toNat * d.ty.size + off + cs.length)).toArray) := by
  unfold storeD at hk
  cases hix : idx xs i with
  | none => rw [hix] at hk; cases hk
  | some x =>
    rw [hix] at hk
    simp only [Option.bind_some] at hk
    obtain ⟨hi0, hi1⟩ := idx_some hix
    obtain ⟨hi2, rfl⟩ := List.getElem?_eq_some_iff.1 hi1
    have hcl := RLs.length _ _ hl
    split at hk
    · rename_i y ns hp
      obtain ⟨hc, hk2⟩ := cond_some hk
      simp only [Bool.and_eq_true] at hc
      have hnn := distinct_mem hc.2
      have hO := h.objs n
      rw [ho] at hO
      obtain ⟨hn, ds, ds', h1, h2, h3⟩ := hO
      have hdl := h1.1
      have hil : (i.toNat + 1) * d.ty.size ≤ List.length xs * d.ty.size := Nat.mul_le_mul_right _ hi2
      have hmul : (i.toNat + 1) * d.ty.size = i.toNat * d.ty.size + d.ty.size := Nat.succ_mul _ _
      obtain ⟨cs1, c, cs2, bs1, bb, bs2, hds', hex, f3, f4, f5, f6⟩ := ElsR_at xs 0 ds' (G.ex n) h3 i.toNat hi2
      have hmid := splice_mid (cs1 := cs1) (c := c) (cs2 := cs2) (cs := cs) (off := off) (by omega)
      rw [← hds', f3] at hmid
      split at hk2
      · -- all of it its own
        have h2 : ds' = ds := h2
        subst h2
        have f5 : DRep w d xs[i.toNat] c bb := f5
        obtain ⟨k1, b1, bo, b2, rfl, k2⟩ := putD_sound h.objs d _ off ls y ns cs hl hp c bb f5
        have hnew := f6 none y _ _ (fun _ _ => rfl) k2
        rw [← hmid, show bs1 ++ (b1 ++ (ns.flatMap (blkL G st.obj) ++ b2) ++ bs2) = (bs1 ++ b1) ++ (ns.flatMap (blkL G st.obj) ++ (b2 ++ bs2)) by simp] at hnew
        obtain ⟨cells, G', j1, j2, j3⟩ := store_step h ho (xs' := xs.set i.toNat y) (by simp) hb k1 hc.1 hnn (x := bs1 ++ b1) (bo := bo) (y := b2 ++ bs2) (by rw [hex]; simp) h1 (by omega) rfl hnew
        exact ⟨cells, G', _, j1, by omega, hk2, j3⟩
      · -- the first ones
        rename_i z
        obtain ⟨hcov, hk3⟩ := cond_some hk2
        obtain ⟨hiz, hk4⟩ := cond_some hk3
        have hiz : i = z := by simpa using hiz
        subst hiz
        have h2 : ds' = ds := h2
        subst h2
        rw [show inK (some i) (0 + i.toNat) = false by unfold inK; exact decide_eq_false (by omega)] at f5
        obtain ⟨f5, rfl⟩ := f5
        obtain ⟨k1, k2⟩ := putD_part h.objs d _ off ls y ns cs hl hp hcov c f5
        have hnew := f6 (some (i + 1)) y (c.take off ++ cs ++ c.drop (off + cs.length)) (ns.flatMap (blkL G st.obj)) (fun j hj => by
          unfold inK
          by_cases e : (j : Int) < i
          · simp only [e, decide_true]; exact decide_eq_true (by omega)
          · simp only [e, decide_false]; exact decide_eq_false (by omega)) (by
          rw [show inK (some (i + 1)) (0 + i.toNat) = true by unfold inK; exact decide_eq_true (by omega)]
          exact k2)
        rw [← hmid] at hnew
        obtain ⟨cells, G', j1, j2, j3⟩ := store_step h ho (xs' := xs.set i.toNat y) (by simp) hb k1 hc.1 hnn (x := bs1) (bo := []) (y := bs2) (by rw [hex]) h1 (by omega) rfl hnew
        exact ⟨cells, G', _, j1, by omega, hk4, j3⟩
      · -- the hole is filled
        rename_i i0 off0 m
        obtain ⟨hq, hk3⟩ := cond_some hk2
        obtain ⟨hiz, hk4⟩ := cond_some hk3
        have hiz : i = i0 := by simpa using hiz
        subst hiz
        simp only [Bool.and_eq_true, Nat.beq_eq] at hq
        obtain ⟨⟨rfl, hs1⟩, _⟩ := hq
        obtain ⟨_, v, e1, e2, e3⟩ := h2
        have f5 : DRep w d xs[i.toNat] c bb := f5
        obtain ⟨k1, b1, bo, b2, rfl, k2⟩ := putD_sound h.objs d _ off ls y ns cs hl hp c bb f5
        have hnew := f6 none y _ _ (fun _ _ => rfl) k2
        have hd2 : ds'.take (i.toNat * d.ty.size + off) ++ cs ++ ds'.drop (i.toNat * d.ty.size + off + cs.length) = ds.take (i.toNat * d.ty.size + off) ++ cs ++ ds.drop (i.toNat * d.ty.size + off + cs.length) := by
          rw [e3, List.take_set_of_le (Nat.le_refl _), List.drop_set_of_lt (by omega)]
        rw [← hmid, hd2, show bs1 ++ (b1 ++ (ns.flatMap (blkL G st.obj) ++ b2) ++ bs2) = (bs1 ++ b1) ++ (ns.flatMap (blkL G st.obj) ++ (b2 ++ bs2)) by simp] at hnew
        obtain ⟨cells, G', j1, j2, j3⟩ := store_step h ho (xs' := xs.set i.toNat y) (by simp) hb k1 hc.1 hnn (x := bs1 ++ b1) (bo := bo) (y := b2 ++ bs2) (by rw [hex]; simp) h1 (by omega) rfl hnew
        exact ⟨cells, G', _, j1, by omega, hk4, j3⟩
      · cases hk2
    · cases hk

theorem stepSt_sound (hT : TabOk P C.Θ) (h : Rel N w0 p0 Bs G st a w) {T : Nat} {x v : AV} {u z : Value} (hu : RV w (reg w0 p0 Bs G st.obj) G st.obj x u) (hz : RV w (reg w0 p0 Bs G st.obj) G st.obj v z)
    {R : Type} {k : St → Option R} {r : R} {other : Option R} {Q : Prop} (hother : other = some r → Q)
    (hq : ∀ G' st' w', (Instr.storeAt T u z).run P w = .ok () w' → Rel N w0 p0 Bs G' st' a w' → k st' = some r → Q) (hk : stepSt C st T x v k other = some r) : Q := by
  unfold stepSt at hk
  split at hk
  · rename_i n i off
    split at hk
    · rename_i tid d kk xs hole ho
      split at hk
      · rename_i ti ls ht hl
        obtain ⟨hc, hk2⟩ := cond_some hk
        simp only [Bool.and_eq_true, Nat.beq_eq] at hc
        obtain ⟨cs, k1, k2, _⟩ := AV.leaves_sound hl hz
        have hlen := RLs.length _ _ k1
        have hone := RLs.one _ _ k1
        obtain ⟨v1, h1, _, h3, h4⟩ := hu
        simp only [List.cons.injEq, and_true] at h1
        subst h1
        obtain ⟨j1, j2, b, j3, j4⟩ := h4 d.ty (List.length xs) (by rw [ho]; rfl)
        obtain ⟨cells, G', st', m1, m2, m3, m4⟩ := storeD_sound h ho k1 (Nat.le_of_ble_eq_true hc.2) j3 hk2
        rw [j4] at hq
        exact hq G' st' _ (run_storeVar (hT T ti ht) m1 k2 (by omega) m2 hone) m4 m3
      · cases hk
    · exact hother hk
  · exact hother hk

end
end Go.Vx
