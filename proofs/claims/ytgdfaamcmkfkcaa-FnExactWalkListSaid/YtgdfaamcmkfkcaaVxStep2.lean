/-
  New variables and rows, append, copy.
-/
import Derived.Test.YtgdfaamcmkfkcaaVxStep
set_option linter.unusedSimpArgs false
set_option linter.unusedVariables false
set_option linter.unnecessarySimpa false
namespace Go.Vx
section
variable {P : Program} {C : Cfg} {N : Nat} {w0 : World} {p0 Bs : Nat → Prop} {G : Gh} {st : St} {a : Act} {w : World}

theorem opBox_sound (h : Rel N w0 p0 Bs G st a w) {d sz : Nat} (hd : d < N) {ls : List Leaf} {cs : List Value} (hx : RLs w (reg w0 p0 Bs G st.obj) G st.obj ls cs) (tid : Nat)
    {R : Type} {k : St → Option R} {r : R} (hk : opBox st d sz ls k = some r) :
    cs.length = sz ∧ ∃ G' st', Rel N w0 p0 Bs G' st' (a.put (some d) (.pointer (some ⟨w.heap.size, 0, none⟩))) (w.alloc (.cells cs.toArray tid)) ∧ k st' = some r := by
  unfold opBox at hk
  obtain ⟨hs, hk⟩ := cond_some hk
  have hl := RLs.length _ _ hx
  refine ⟨by rw [hl, Nat.eq_of_beq_eq_true hs], ?_⟩
  split at hk
  · rename_i ho
    obtain ⟨G', h1, h2⟩ := h.newBox ho hx tid
    refine ⟨G', _, h1.put (d := some d) (fun e he => by injection he with he; rw [← he]; exact hd) (x := .sc (.box (d * 16) 0)) ?_, hk⟩
    refine ⟨_, rfl, rfl, ?_, fun ls' _ => by rw [h2]⟩
    simp [setO_same]
  · cases hk

theorem opNewRow_sound (h : Rel N w0 p0 Bs G st a w) {d : Nat} (hd : d < N) {w' : World} {obj1 : Nat → AObj} (h1 : ∀ m, obj1 m = st.obj m ∨ (st.obj m ≠ .none ∧ obj1 m = .dead))
    {tid : Nat} {e : Ty} {xs : List e.den} {ad : Option Addr} {c : Nat} {ds : List Value}
    (hown : w'.ownsRow 0 tid e.size (.slice ad xs.length c) xs.length ds) {row : Option Nat} (hg : w.grownBy w' row)
    (hrow : ∀ b, row = some b → ∃ m0, blk G st.obj m0 b ∧ obj1 m0 = .dead)
    (hnew : ∀ b, ad.map (·.block) = some b → w.heap.size ≤ b ∨ row = some b)
    (hrep : ∀ w2 p2, (∀ b, reg w0 p0 Bs G st.obj b → b < w.heap.size → p2 b ∧ w2.heap[b]? = w.heap[b]?) → (∀ b, (∃ m0, blk G st.obj m0 b ∧ obj1 m0 = .dead) → row ≠ some b → b < w.heap.size → p2 b ∧ w2.heap[b]? = w.heap[b]?) → RepL (Rep w2 p2 e) xs ds)
    {R : Type} {k : St → Option R} {r : R} (hk : opNewRow st obj1 d tid e xs k = some r) :
    ∃ G' st', Rel N w0 p0 Bs G' st' (a.put (some d) (.slice ad xs.length c)) w' ∧ k st' = some r := by
  unfold opNewRow at hk
  split at hk
  · rename_i ho
    obtain ⟨G', h2, h3⟩ := h.newRow ho h1 hown hg hrow hnew hrep
    refine ⟨G', _, h2.put (d := some d) (fun e he => by injection he with he; rw [← he]; exact hd) (x := .sc (.hdr (d * 16))) ?_, hk⟩
    refine ⟨_, rfl, rfl, by simp [setO_same], fun e' l' hx => ?_⟩
    have hx : rowOf (setO obj1 (d * 16) (.row tid e xs) (d * 16)) = _ := hx
    rw [setO_same] at hx
    simp only [rowOf, Option.some.injEq, Prod.mk.injEq] at hx
    rw [h3, ← hx.2]
  · cases hk

theorem elemOf_ok (hT : TabOk P C.Θ) {T tid : Nat} {e : Ty} (h : elemOf C T = some (tid, e)) :
    P.underlying T = some (.slice tid) ∧ ∃ te, C.Θ tid = some te ∧ te.ty = e ∧ TyOk P C.Θ tid te ∧ 0 < e.size := by
  unfold elemOf at h
  split at h
  · rename_i ti ht
    split at h
    · rename_i e' te he hte
      cases hc : decide (te.ty = e') with
      | false => rw [hc] at h; cases h
      | true =>
        rw [hc] at h
        simp only [cond_true, Option.some.injEq, Prod.mk.injEq] at h
        obtain ⟨rfl, rfl⟩ := h
        obtain ⟨d, h1, h2⟩ := (hT T ti ht).desc
        unfold DescOk at h2
        rw [he] at h2
        obtain ⟨rfl, h3, _⟩ := h2
        exact ⟨h1, te, hte, of_decide_eq_true hc, hT _ _ hte, h3⟩
    · cases h
  · cases h

theorem zero_cells {t : Nat} {i : TI} (h : TyOk P C.Θ t i) : ∃ info z, P.info? t = some info ∧ info.size = i.ty.size ∧ info.zero = some z ∧ z.cells = (zcells i.ty).toArray ∧ info.bytes ≤ 65536 := by
  obtain ⟨info, h1, h2, h3, h4⟩ := h.info
  refine ⟨info, _, h1, h2, h3, ?_, h4⟩
  cases hg : i.ty.agg with
  | true => rfl
  | false =>
    have hl := zcells_length i.ty
    have h1 := zcells_one i.ty
    rw [Ty.size_of_not_agg _ hg] at hl
    match hz : zcells i.ty, hl with
    | [v], _ =>
      have := h1 v (by rw [hz]; exact List.mem_cons_self ..)
      simp only [Bool.false_eq_true, if_false, List.headD_cons]
      cases v <;> simp_all [Value.cells, Value.oneCell']

theorem flatten_get (zs : List Value) : ∀ (n j : Nat), j < n * zs.length → (List.replicate n zs).flatten[j]? = zs[j % zs.length]?
  | 0, j, h => by omega
  | n + 1, j, h => by
    rw [List.replicate_succ, List.flatten_cons]
    rw [Nat.succ_mul] at h
    by_cases hj : j < zs.length
    · rw [List.getElem?_append_left hj, Nat.mod_eq_of_lt hj]
    · rw [List.getElem?_append_right (by omega), flatten_get zs n _ (by omega)]
      congr 1
      exact (Nat.mod_eq_sub_mod (by omega)).symm

theorem made_flat (zs : List Value) (n : Nat) : (madeCells zs.toArray (n * zs.length)).toList = (List.replicate n zs).flatten := by
  apply List.ext_getElem?
  intro j
  have hlen : (List.replicate n zs).flatten.length = n * zs.length := by simp [List.length_flatten]
  by_cases hj : j < n * zs.length
  · rw [flatten_get zs n j hj]
    have hpos : 0 < zs.length := by
      rcases Nat.eq_zero_or_pos zs.length with h | h
      · rw [h] at hj; omega
      · exact h
    have hm : j % zs.length < zs.length := Nat.mod_lt _ hpos
    simp [madeCells, hj, hm, getElem!_pos]
  · rw [List.getElem?_eq_none (by simp [madeCells]; omega), List.getElem?_eq_none (by rw [hlen]; omega)]

theorem makeSlice_sound (hT : TabOk P C.Θ) (h : Rel N w0 p0 Bs G st a w) {T d tid : Nat} (hd : d < N) {e : Ty} (he : elemOf C T = some (tid, e)) {n : Int} (h0 : 0 ≤ n) (hn : n ≤ (LIM : Int))
    {R : Type} {k : St → Option R} {r : R} (hk : opNewRow st st.obj d tid e (List.replicate n.toNat e.zero) k = some r) :
    ∃ G' st' w' z, (Instr.makeSlice T (.int .i64 n) (.int .i64 n)).run P w = .ok z w' ∧ Rel N w0 p0 Bs G' st' (a.put (some d) z) w' ∧ k st' = some r := by
  obtain ⟨e1, te, _, rfl, e4, e5⟩ := elemOf_ok hT he
  obtain ⟨info, z, i1, i2, i3, i4, i5⟩ := zero_cells e4
  obtain ⟨m, rfl⟩ := Int.eq_ofNat_of_zero_le h0
  have hm : m ≤ LIM := by omega
  have hL : LIM = 1073741824 := rfl
  have hmb : info.bytes * m ≤ 65536 * 1073741824 := Nat.mul_le_mul i5 (by omega)
  obtain ⟨w', k1, k2, k3⟩ := run_make_full (P := P) w 0 T tid info z te.ty.size e1 i1 i3 i2 .i64 .i64 m (by omega) (by simp only [maxLen]; omega) (Nat.zero_le _)
  rw [Int.toNat_natCast] at hk
  have hlen : (List.replicate m te.ty.zero).length = m := by simp
  have hds : (madeCells z.cells (m * te.ty.size)).toList = (List.replicate m (zcells te.ty)).flatten := by
    rw [i4, ← zcells_length]; exact made_flat _ _
  rw [hds] at k2
  obtain ⟨G', st', q1, q2⟩ := opNewRow_sound (w' := w') h hd (obj1 := st.obj) (fun m => .inl rfl) (tid := tid) (e := te.ty) (xs := List.replicate m te.ty.zero) (ad := some ⟨w.heap.size, 0, none⟩) (c := m)
    (ds := (List.replicate m (zcells te.ty)).flatten) (by rw [hlen]; exact k2) (row := none) k3 (fun b hb => by cases hb)
    (fun b hb => by simp only [Option.map_some, Option.some.injEq] at hb; exact .inl (by omega)) (fun w2 p2 _ _ => RepL.replicate (Rep.zero w2 p2 te.ty) m) hk
  rw [hlen] at q1
  exact ⟨G', st', w', _, k1, q1, q2⟩

/-- Where the cells of what 'append' or 'copy' reads lie. -/
theorem srcOf_sound (h : Rel N w0 p0 Bs G st a w) {e : Ty} {x : AV} {u : Value} (hu : RV w (reg w0 p0 Bs G st.obj) G st.obj x u) {ys : List e.den} (hs : srcOf st e x = some ys) :
    ∃ ad n c ds, u = .slice ad n c ∧ n = ys.length ∧ RepL (Rep w (reg w0 p0 Bs G st.obj) e) ys ds ∧ Lies w (fun _ => True) ad ds ∧ ∀ v ∈ ds, v.oneCell' = true := by
  have one : ∀ {e : Ty} {ys : List e.den} {ds : List Value} {p : Nat → Prop}, RepL (Rep w p e) ys ds → ∀ v ∈ ds, v.oneCell' = true := fun h => RepL.one h
  have lt : ∀ {p : Nat → Prop} {ad : Option Addr} {ds : List Value}, Lies w p ad ds → Lies w (fun _ => True) ad ds := fun hl => hl.mono fun b _ _ => ⟨trivial, rfl⟩
  unfold srcOf at hs
  split at hs
  · obtain rfl := nil_of hu
    cases hs
    exact ⟨none, 0, 0, [], rfl, rfl, rfl, .inl rfl, by simp⟩
  · rename_i e' zs
    obtain ⟨he, hy⟩ := castL_some hs
    subst he
    subst hy
    obtain ⟨ad, c, ds, h1, h2, h3, h4⟩ := hu
    simp only [List.cons.injEq, and_true] at h1
    exact ⟨ad, _, c, ds, h1, rfl, h3, lt h4, one h3⟩
  · rename_i n
    split at hs
    · rename_i tid e' zs ho
      obtain ⟨he, hy⟩ := castL_some hs
      subst he
      subst hy
      obtain ⟨v1, h1, _, _, h4⟩ := hu
      simp only [List.cons.injEq, and_true] at h1
      subst h1
      have hO := h.objs n
      rw [ho] at hO
      obtain ⟨ds, q1, q2⟩ := hO
      exact ⟨_, _, _, ds, h4 _ (List.length zs) (by rw [ho]; rfl), rfl, q2, (owns_lies q1 fun _ _ => trivial).2, one q2⟩
    · cases hs
  · rename_i n lo hi
    split at hs
    · rename_i tid e' zs ho
      obtain ⟨he, hy⟩ := castL_some hs
      subst he
      subst hy
      obtain ⟨v1, h1, _, _, h4⟩ := hu
      simp only [List.cons.injEq, and_true] at h1
      subst h1
      obtain ⟨j1, j2, j3, j4⟩ := h4 _ (List.length zs) (by rw [ho]; rfl)
      have hO := h.objs n
      rw [ho] at hO
      obtain ⟨ds, q1, q2⟩ := hO
      have hq := owns_lies (p := fun _ => True) q1 fun _ _ => trivial
      have hlen := q2.len
      have hr := (q2.take (n := e'.size) (fun x c hr => Rep.length e' x c hr) hi.toNat (by omega)).drop (fun x c hr => Rep.length e' x c hr) lo.toNat (by simp only [List.length_take]; omega)
      refine ⟨_, _, _, _, j4, ?_, hr, Lies.sub hq.2 _ _ ?_, one hr⟩
      · simp only [List.length_drop, List.length_take]; omega
      · intro h5 h6
        have : lo.toNat < zs.length := by
          rcases Nat.lt_or_ge lo.toNat zs.length with h7 | h7
          · exact h7
          · have := Nat.mul_le_mul_right e'.size h7
            omega
        rw [if_neg (by omega)]
    · cases hs
  · cases hs

theorem dstOf_sound (h : Rel N w0 p0 Bs G st a w) {tid : Nat} {e : Ty} {x : AV} {u : Value} (hu : RV w (reg w0 p0 Bs G st.obj) G st.obj x u) {xs : List e.den} {n : Option Nat} (hs : dstOf st tid e x = some (xs, n)) :
    ∃ ds, w.ownsRow 0 tid e.size u xs.length ds ∧ RepL (Rep w (reg w0 p0 Bs G st.obj) e) xs ds ∧
      ((n = none ∧ u.ownBlock = none) ∨ ∃ m, n = some m ∧ st.obj m ≠ .none ∧ ∀ b, u.ownBlock = some b → blk G st.obj m b) := by
  unfold dstOf at hs
  split at hs
  · obtain rfl := nil_of hu
    cases hs
    exact ⟨[], World.ownsRow_nil _ _ _ _, rfl, .inl ⟨rfl, rfl⟩⟩
  · rename_i m
    split at hs
    · rename_i tid' e' zs ho
      obtain ⟨hc, hs2⟩ := cond_some hs
      clear hs
      have hc := Nat.eq_of_beq_eq_true hc
      subst hc
      split at hs2
      · rename_i ys hcast
        cases hs2
        obtain ⟨he, hy⟩ := castL_some hcast
        subst he
        subst hy
        obtain ⟨v1, h1, _, h3, h4⟩ := hu
        simp only [List.cons.injEq, and_true] at h1
        subst h1
        have hO := h.objs m
        rw [ho] at hO
        obtain ⟨ds, q1, q2⟩ := hO
        rw [h4 _ (List.length zs) (by rw [ho]; rfl)]
        refine ⟨ds, q1, q2, .inr ⟨m, rfl, h3, ?_⟩⟩
        intro b hb
        simp only [blk, ho]
        cases hd : (G.hd m).1 <;> (rw [hd] at hb; simpa [Value.ownBlock] using hb)
      · cases hs2
    · cases hs
  · rename_i m lo hi
    split at hs
    · rename_i tid' e' zs ho
      obtain ⟨hc, hs2⟩ := cond_some hs
      clear hs
      simp only [Bool.and_eq_true, Nat.beq_eq, decide_eq_true_eq] at hc
      obtain ⟨rfl, rfl⟩ := hc
      split at hs2
      · rename_i ys hcast
        cases hs2
        obtain ⟨he, hy⟩ := castL_some hcast
        subst he
        subst hy
        obtain ⟨v1, h1, _, h3, h4⟩ := hu
        simp only [List.cons.injEq, and_true] at h1
        subst h1
        obtain ⟨j1, j2, j3, j4⟩ := h4 _ (List.length zs) (by rw [ho]; rfl)
        have hO := h.objs m
        rw [ho] at hO
        obtain ⟨ds, q1, q2⟩ := hO
        have hadd : ((G.hd m).1.map fun x => x.add ((0 : Int).toNat * e'.size)) = (G.hd m).1 := by
          cases hd : (G.hd m).1 with
          | none => rfl
          | some ad => simp [Addr.add]
        rw [hadd, ite_self] at j4
        simp only [Int.toNat_zero, Nat.sub_zero] at j4
        rw [j4]
        have hlen := q2.len
        have hr := q2.take (n := e'.size) (fun x c hr => Rep.length e' x c hr) hi.toNat (by omega)
        have hlt : (zs.take hi.toNat).length = hi.toNat := by rw [List.length_take]; omega
        refine ⟨ds.take (hi.toNat * e'.size), ?_, hr, .inr ⟨m, rfl, h3, ?_⟩⟩
        · rw [hlt]
          have hle : hi.toNat * e'.size ≤ zs.length * e'.size := Nat.mul_le_mul_right _ (by omega)
          refine ⟨by rw [List.length_take, hlen]; omega, ?_⟩
          rcases q1.2 with ⟨q3, q4⟩ | ⟨g, cap, cur, q3, q4, q5, q6, q7, q8, q9⟩
          · left
            simp only [Value.slice.injEq] at q3
            obtain ⟨r1, _, r3⟩ := q3
            have : hi.toNat = 0 := by omega
            rw [r1, r3, this]
            exact ⟨rfl, rfl⟩
          · right
            simp only [Value.slice.injEq, true_and] at q3
            obtain ⟨r1, r3⟩ := q3
            refine ⟨g, cap, cur, by rw [r1, r3], q4, q5, by omega, q7, q8, ?_⟩
            rw [← q9, List.take_take, Nat.min_eq_left hle]
        · intro b hb
          simp only [blk, ho]
          cases hd : (G.hd m).1 <;> (rw [hd] at hb; simpa [Value.ownBlock] using hb)
      · cases hs2
    · cases hs
  · cases hs

theorem killOpt_cases (obj : Nat → AObj) (n : Option Nat) (hn : ∀ m, n = some m → obj m ≠ .none) (m : Nat) : killOpt obj n m = obj m ∨ (obj m ≠ .none ∧ killOpt obj n m = .dead) := by
  cases n with
  | none => exact .inl rfl
  | some x =>
    by_cases h : m = x
    · subst h
      exact .inr ⟨hn m rfl, by simp [killOpt, setO_same]⟩
    · exact .inl (by simp [killOpt, setO_other _ _ h])

theorem run_append_nothing {T ty tid : Nat} {info : TypeInfo} (ht : P.underlying T = some (.slice tid)) (hi : P.info? tid = some info) {u : Value} {n : Nat} {xs : List Value} {sz : Nat} (hown : w.ownsRow 0 tid sz u n xs) (c : Nat) :
    (Builtin.append_ #[T, T] ty #[u, .slice none 0 c]).run P w = .ok u w := by
  rcases hown.2 with ⟨rfl, rfl⟩ | ⟨g, cap, cur, rfl, _, _, hnc, _⟩
  · simp [Builtin.append_, run_underlying ht, sizeOf, typeInfo, hi, Builtin.lenOf, Builtin.firstCells]
  · simp [Builtin.append_, run_underlying ht, sizeOf, typeInfo, hi, Builtin.lenOf, Builtin.firstCells, hnc, storeCells]

theorem run_append_block (t ty e : TypeId) (i : TypeInfo) (z : Value) (size bytes : Nat) (ht : P.underlying t = some (.slice e)) (hi : P.info? e = some i) (hz : i.zero = some z)
    (hsize : i.size = size) (hby : i.bytes = bytes) (hzs : z.cells.size = size) (hsz : 0 < size)
    (v : Value) (n : Nat) (xs : List Value) (hown : w.ownsRow 0 e size v n xs)
    (a : Addr) (m c : Nat) (news : List Value) (hl : news.length = m * size) (hnews : ∀ j u, news[j]? = some u → w.cell? (a.add j) = some u) (h1 : ∀ u ∈ news, u.oneCell' = true)
    (h63 : n + m ≤ maxLen) (hbytes : (n + m) * bytes ≤ 140737488355328) :
    ∃ v' w', (Builtin.append_ #[t, t] ty #[v, .slice (some a) m c]).run P w = .ok v' w' ∧ w'.ownsRow 0 e size v' (n + m) (xs ++ news) ∧ w.grownBy w' v.ownBlock ∧
      ∀ b, v'.ownBlock = some b → w.heap.size ≤ b ∨ v.ownBlock = some b := by
  rcases hown.2 with ⟨rfl, rfl⟩ | ⟨g, cap, cur, rfl, hbg, hg, hnc, hcm, hcs, htake⟩
  · have hx : xs = [] := List.eq_nil_of_length_eq_zero (by simpa using hown.1)
    subst hx
    obtain ⟨v', w', r1, r2, r3, _⟩ := run_append_own (P := P) w w.heap.size t ty e i z size bytes ht hi hz hsize hby hzs hsz (.slice none 0 0) 0 [] (World.ownsRow_nil _ _ _ _) a m c news hl hnews h1 h63 hbytes (Nat.le_refl _)
    refine ⟨v', w', r1, ⟨r2.1, ?_⟩, r3, fun b hb => .inl (r2.lt b hb).1⟩
    rcases r2.2 with k | ⟨g, cap, cur, k1, k2, k3⟩
    · exact .inl k
    · exact .inr ⟨g, cap, cur, k1, Nat.zero_le _, k3⟩
  · by_cases hroom : n + m ≤ cap
    · obtain ⟨w', r1, r2, r3⟩ := run_append_fits (P := P) w 0 t ty e i size ht hi hsize g n cap xs hown a m c news hl hnews h1 hroom
      exact ⟨_, w', r1, r2, r3, fun b hb => .inr hb⟩
    · subst hsize
      subst hby
      have holds : ∀ j u, xs[j]? = some u → w.cell? ((⟨g, 0, none⟩ : Addr).add j) = some u := hown.cells (g := g) rfl
      have hsmall : n + m ≤ 9223372036854775807 := by simp only [maxLen] at h63; omega
      have hr := run_append_grow (P := P) w t ty e i z ht hi hz ⟨g, 0, none⟩ n cap xs hown.1 holds a m c news hl hnews (by omega) (by omega) (growslice_fits (by omega) hbytes)
      have hge := grownCap_ge w (n + m) cap e
      have hcm2 : grownCap w (n + m) cap e ≤ maxLen := grownCap_le_maxLen w (n + m) cap e h63
      have hlen : (xs ++ news).length = (n + m) * i.size := by rw [List.length_append, hown.1, hl, Nat.add_mul]
      refine ⟨_, _, hr, ⟨hlen, .inr ⟨w.heap.size, _, _, rfl, Nat.zero_le _, heap_alloc_new w.drew _, hge, hcm2, ?_, ?_⟩⟩, ⟨rfl, rfl, rfl, by simp, fun k hk _ => Go.RowKit.Below.heap_alloc w.drew _ k hk⟩, fun b hb => ?_⟩
      · simp only [Array.size_append, List.size_toArray, size_zeroCells, hzs, hown.1, hl, ← Nat.add_mul]
        congr 1
        omega
      · simp only [Array.toList_append, List.append_assoc]
        rw [← List.append_assoc, ← hlen]
        exact List.take_left
      · simp only [Value.ownBlock, Option.some.injEq] at hb
        exact .inl (by omega)

theorem append_sound (hT : TabOk P C.Θ) (h : Rel N w0 p0 Bs G st a w) {T d : Nat} (hd : d < N) {x y : AV} {u v : Value} (hu : RV w (reg w0 p0 Bs G st.obj) G st.obj x u) (hv : RV w (reg w0 p0 Bs G st.obj) G st.obj y v)
    (ty : TypeId) {R : Type} {k : St → Option R} {r : R} (hk : opAppend C st T d x y k = some r) :
    ∃ G' st' w' z, (Builtin.append_ #[T, T] ty #[u, v]).run P w = .ok z w' ∧ Rel N w0 p0 Bs G' st' (a.put (some d) z) w' ∧ k st' = some r := by
  unfold opAppend at hk
  split at hk
  · cases hk
  · rename_i tid e he
    obtain ⟨e1, te, _, rfl, e4, e5⟩ := elemOf_ok hT he
    split at hk
    · rename_i xs n ys hx hy
      obtain ⟨hle, hk⟩ := cond_some hk
      have hle := of_decide_eq_true hle
      obtain ⟨ds, q1, q2, q3⟩ := dstOf_sound h hu hx
      obtain ⟨ad, m, c, es, rfl, rfl, s2, s3, s4⟩ := srcOf_sound h hv hy
      obtain ⟨info, z, i1, i2, i3, i4, i5⟩ := zero_cells e4
      have hlen := s2.len
      have hxy : (xs ++ ys).length = xs.length + ys.length := List.length_append
      have hnone : ∀ m, n = some m → st.obj m ≠ .none := by
        intro m hm
        rcases q3 with ⟨q4, _⟩ | ⟨m', q4, q5, _⟩
        · rw [q4] at hm; cases hm
        · rw [q4] at hm; cases hm; exact q5
      have hzl : z.cells.size = te.ty.size := by rw [i4]; simp [zcells_length]
      -- what the machine does
      have run : ∃ z' w', (Builtin.append_ #[T, T] ty #[u, .slice ad ys.length c]).run P w = .ok z' w' ∧ w'.ownsRow 0 tid te.ty.size z' (xs.length + ys.length) (ds ++ es) ∧ w.grownBy w' u.ownBlock ∧
          ∀ b, z'.ownBlock = some b → w.heap.size ≤ b ∨ u.ownBlock = some b := by
        rcases s3 with s5 | ⟨ad', rfl, s6, _, s8⟩
        · subst s5
          have hys : ys = [] := by
            apply List.eq_nil_of_length_eq_zero
            simp only [List.length_nil] at hlen
            rcases Nat.mul_eq_zero.1 hlen.symm with h0 | h0
            · exact h0
            · omega
          subst hys
          cases ad with
          | none =>
            exact ⟨u, w, run_append_nothing e1 i1 q1 c, by simpa using q1, ⟨rfl, rfl, rfl, Nat.le_refl _, fun _ _ _ => rfl⟩, fun b hb => .inr hb⟩
          | some ad' =>
            obtain ⟨v', w', r1, r2, r3, r4⟩ := run_append_block (P := P) (w := w) T ty tid info z te.ty.size info.bytes e1 i1 i3 i2 rfl hzl e5 u xs.length ds q1 ad' 0 c [] (by simp) (by simp) (by simp)
              (by simp only [maxLen, LIM] at *; omega) (by have := Nat.mul_le_mul (show xs.length + 0 ≤ 1073741824 by simp only [LIM] at hle; omega) i5; omega)
            exact ⟨v', w', by simpa using r1, by simpa using r2, r3, r4⟩
        · obtain ⟨v', w', r1, r2, r3, r4⟩ := run_append_block (P := P) (w := w) T ty tid info z te.ty.size info.bytes e1 i1 i3 i2 rfl hzl e5 u xs.length ds q1 ad' ys.length c es hlen
            (fun j v hj => by rw [add_plain s6]; exact s8 j v hj) s4
            (by simp only [maxLen, LIM] at *; omega) (by have := Nat.mul_le_mul (show xs.length + ys.length ≤ 1073741824 by simp only [LIM] at hle; omega) i5; omega)
          exact ⟨v', w', r1, r2, r3, r4⟩
      obtain ⟨z', w', r1, r2, r3, r6⟩ := run
      have hz' : ∃ ad' c', z' = .slice ad' (xs ++ ys).length c' := by
        rw [hxy]
        rcases r2.2 with ⟨r4, r5⟩ | ⟨g, cap, cur, r4, _⟩
        · exact ⟨none, 0, by rw [r4, r5]⟩
        · exact ⟨_, _, r4⟩
      obtain ⟨ad', c', rfl⟩ := hz'
      rw [← hxy] at r2
      have hfin := opNewRow_sound h hd (obj1 := killOpt st.obj n) (killOpt_cases st.obj n hnone) r2 r3 ?_ ?_ ?_ hk
      · obtain ⟨G', st', t1, t2⟩ := hfin
        exact ⟨G', st', w', _, r1, t1, t2⟩
      · intro b hb
        rcases q3 with ⟨_, q5⟩ | ⟨m', q4, q5, q6⟩
        · rw [q5] at hb; cases hb
        · refine ⟨m', q6 b hb, ?_⟩
          rw [q4]; simp [killOpt, setO_same]
      · intro b hb
        exact r6 b (by cases ad' with
          | none => cases hb
          | some x => simpa [Value.ownBlock] using hb)
      · intro w2 p2 h1 _
        exact (q2.mono fun x c _ hr => Rep.mono h1 te.ty x c hr).append (s2.mono fun x c _ hr => Rep.mono h1 te.ty x c hr)
    · cases hk

end
end Go.Vx
