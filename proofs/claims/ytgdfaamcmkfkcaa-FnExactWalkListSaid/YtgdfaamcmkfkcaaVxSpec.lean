/-
  One operation, with what goes beside it.
-/
import Derived.Test.YtgdfaamcmkfkcaaVxMake
set_option linter.unusedSimpArgs false
set_option linter.unusedVariables false
set_option linter.unnecessarySimpa false
namespace Go.Vx
section
variable {P : Program} {C : Cfg} {N : Nat} {w0 : World} {p0 Bs : Nat → Prop} {G : Gh} {st : St} {a : Act} {w : World}

theorem DRepL.zeros (w : World) (d : DTy) : ∀ n, DRepL (DRep w d) (List.replicate n d.ty.zero) (List.replicate n (zcells d.ty)).flatten []
  | 0 => ⟨rfl, rfl⟩
  | n + 1 => by
    rw [List.replicate_succ, List.replicate_succ, List.flatten_cons]
    exact ⟨_, _, [], [], rfl, rfl, DRep.zero w d, DRepL.zeros w d n⟩

/-- 'append' of two rows. -/
theorem run_append_rows {T tid : Nat} {te : TI} (e1 : P.underlying T = some (.slice tid)) (e4 : TyOk P C.Θ tid te) (e5 : 0 < te.ty.size) {u : Value} {lx ly : Nat} {ds es : List Value} {ad : Option Addr} (c : Nat)
    (q1 : w.ownsRow 0 tid te.ty.size u lx ds) (hlen : es.length = ly * te.ty.size) (s3 : Lies w (fun _ => True) ad es) (s4 : ∀ v ∈ es, v.oneCell' = true) (hle : lx + ly ≤ LIM) (ty : TypeId) :
    ∃ z' w', (Builtin.append_ #[T, T] ty #[u, .slice ad ly c]).run P w = .ok z' w' ∧ w'.ownsRow 0 tid te.ty.size z' (lx + ly) (ds ++ es) ∧ w.grownBy w' u.ownBlock ∧
          ∀ b, z'.ownBlock = some b → w.heap.size ≤ b ∨ u.ownBlock = some b := by
  obtain ⟨info, z, i1, i2, i3, i4, i5⟩ := zero_cells e4
  have hzl : z.cells.size = te.ty.size := by rw [i4]; simp [zcells_length]
  rcases s3 with s5 | ⟨ad', rfl, s6, _, s8⟩
  · subst s5
    have hys : ly = 0 := by
      simp only [List.length_nil] at hlen
      rcases Nat.mul_eq_zero.1 hlen.symm with h0 | h0
      · exact h0
      · omega
    subst hys
    cases ad with
    | none =>
      exact ⟨u, w, run_append_nothing e1 i1 q1 c, by simpa using q1, ⟨rfl, rfl, rfl, Nat.le_refl _, fun _ _ _ => rfl⟩, fun b hb => .inr hb⟩
    | some ad' =>
      obtain ⟨v', w', r1, r2, r3, r4⟩ := run_append_block (P := P) (w := w) T ty tid info z te.ty.size info.bytes e1 i1 i3 i2 rfl hzl e5 u lx ds q1 ad' 0 c [] (by simp) (by simp) (by simp)
        (by simp only [maxLen, LIM] at *; omega) (by have := Nat.mul_le_mul (show lx + 0 ≤ 1073741824 by simp only [LIM] at hle; omega) i5; omega)
      exact ⟨v', w', by simpa using r1, by simpa using r2, r3, r4⟩
  · obtain ⟨v', w', r1, r2, r3, r4⟩ := run_append_block (P := P) (w := w) T ty tid info z te.ty.size info.bytes e1 i1 i3 i2 rfl hzl e5 u lx ds q1 ad' ly c es hlen
      (fun j v hj => by rw [add_plain s6]; exact s8 j v hj) s4
      (by simp only [maxLen, LIM] at *; omega) (by have := Nat.mul_le_mul (show lx + ly ≤ 1073741824 by simp only [LIM] at hle; omega) i5; omega)
    exact ⟨v', w', r1, r2, r3, r4⟩

/-- A row alone, of a name. -/
theorem rowDeep_sound (h : Rel N w0 p0 Bs G st a w) {m tid : Nat} {e : DTy} {ys : List e.ty.den} (hr : rowDeep tid e (st.obj m) = some ys) {u : Value} (hu : RV w (reg w0 p0 Bs G st.obj) G st.obj (.sc (.hdr m)) u) :
    u = .slice (G.hd m).1 (List.length ys) (G.hd m).2 ∧ ∃ ds, w.ownsRow 0 tid e.ty.size (.slice (G.hd m).1 (List.length ys) (G.hd m).2) (List.length ys) ds ∧ DRepL (DRep w e) ys ds (G.ex m) ∧ (ablk (G.hd m).1 ++ G.ex m).Nodup ∧ ∀ b, b ∈ ablk (G.hd m).1 ++ G.ex m → blk G st.obj m b := by
  unfold rowDeep at hr
  split at hr
  · rename_i t d' zs ho
    obtain ⟨hc, h2⟩ := cond_some hr
    have := Nat.eq_of_beq_eq_true hc
    subst this
    obtain ⟨he, hz⟩ := castD_some h2
    subst he
    subst hz
    obtain ⟨v, k1, k2, k3, k4⟩ := hu
    simp only [List.cons.injEq, and_true] at k1
    subst k1
    have hO := h.objs m
    rw [ho] at hO
    obtain ⟨hn, ds, ds', h1, h2, h3⟩ := hO
    have h2 : ds' = ds := h2
    subst h2
    exact ⟨k4 _ _ (by rw [ho]; rfl), ds', h1, (ElsR_all _ 0 _ _).1 h3, hn, fun b hb => (blk_deep ho b).2 hb⟩
  · cases hr

theorem rowDeep_ne {tid : Nat} {e : DTy} {o : AObj} {ys : List e.ty.den} (h : rowDeep tid e o = some ys) : o ≠ .none := by
  intro ho; rw [ho] at h; simp [rowDeep] at h

theorem makeD_sound (hT : TabOk P C.Θ) (h : Rel N w0 p0 Bs G st a w) (o : Oper) {dd : DTy} {d : Nat} (hdst : o.dst = some d) (hd : d < N) {R : Type} {k : St → Option R} {r : R}
    (hk : makeD C st dd d o.op k = some r) {next : Act → World → Prop} {Q : Exit → Act → World → Prop}
    (hnext : ∀ G' st' z w', Rel N w0 p0 Bs G' st' (a.put o.dst z) w' → k st' = some r → next (a.put o.dst z) w') : o.wp P a w next Q := by
  have hval := fun x => val_sound h x
  unfold makeD at hk
  split at hk
  · rename_i T l c ho
    split at hk
    · rename_i tid e n he hln
      obtain ⟨hs, hk2⟩ := cond_some hk
      obtain ⟨hc, hk3⟩ := cond_some hk2
      simp only [Bool.and_eq_true, decide_eq_true_eq] at hs hc
      obtain ⟨hs1, rfl⟩ := hs
      have hlv := hval l
      rw [hln] at hlv
      have hlv := int_of hlv
      have hcv : a.eval c = .int .i64 n := by rw [← sameOpnd_eq hs1 a]; exact hlv
      split at hk3
      · rename_i hnone
        obtain ⟨e1, te, _, e3, e4, e5⟩ := elemOf_ok hT he
        obtain ⟨info, z, i1, i2, i3, i4, i5⟩ := zero_cells e4
        rw [e3] at i2 i4
        obtain ⟨m, rfl⟩ := Int.eq_ofNat_of_zero_le hc.1
        have hm : m ≤ LIM := by omega
        have hL : LIM = 1073741824 := rfl
        have hmb : info.bytes * m ≤ 65536 * 1073741824 := Nat.mul_le_mul i5 (by omega)
        obtain ⟨w', k1, k2, k3⟩ := run_make_full (P := P) w 0 T tid info z dd.ty.size e1 i1 i3 i2 .i64 .i64 m (by omega) (by simp only [maxLen]; omega) (Nat.zero_le _)
        rw [Int.toNat_natCast] at hk3
        have hlen : List.length (List.replicate m dd.ty.zero) = m := by simp
        have hds : (madeCells z.cells (m * dd.ty.size)).toList = (List.replicate m (zcells dd.ty)).flatten := by
          rw [i4, ← zcells_length]; exact made_flat _ _
        rw [hds] at k2
        obtain ⟨G', q1⟩ := h.newDeep (w' := w') hd hnone (obj1 := st.obj) (fun m => .inl rfl) (tid := tid) (e := dd) (xs := List.replicate m dd.ty.zero) (ad := some ⟨w.heap.size, 0, none⟩) (c := m)
          (ds := (List.replicate m (zcells dd.ty)).flatten) (ex := []) (by rw [hlen]; exact k2) (row := none) k3 (fun b hb => by cases hb)
          (fun b hb => by simp only [Option.map_some, Option.some.injEq] at hb; exact .inl (by omega)) (fun b hb => by cases hb) List.nodup_nil (DRepL.zeros w dd m)
        rw [hlen] at q1
        refine opWp o (z := _) (w' := w') ?_ (hnext G' _ _ w' (by rw [hdst]; exact q1) hk3)
        unfold execOp
        simp only [ho, hlv, hcv]
        exact run_value2 k1
      · cases hk3
    · cases hk
  · rename_i T n parts ho
    split at hk
    · rename_i tid e x he hp
      split at hk
      · rename_i ls hls
        split at hk
        · rename_i y ns hw
          obtain ⟨hc, hk2⟩ := cond_some hk
          simp only [Bool.and_eq_true, Nat.beq_eq, decide_eq_true_eq] at hc
          obtain ⟨⟨⟨rfl, hsz⟩, rfl⟩, hdi⟩ := hc
          have hsz := Nat.le_of_ble_eq_true hsz
          split at hk2
          · rename_i hnone
            obtain ⟨e1, te, _, e3, e4, e5⟩ := elemOf_ok hT he
            obtain ⟨info, z, i1, i2, i3, i4, i5⟩ := zero_cells e4
            have hrs := e4.run_sizeOf (w := w)
            rw [e3] at i4 hrs
            obtain ⟨cs, k1, k2, _⟩ := AV.leaves_sound hls (hval x)
            obtain ⟨m1, m2⟩ := wholeD_sound h.objs k1 hw
            have hcl := m1.length
            have hN : (ns.flatMap (blkL G st.obj)).Nodup := flat_nodup (fun m m' z h1 h2 => h.inj m m' z (blkL_blk h1) (blkL_blk h2)) ns hdi fun m hm => (m2 m hm).1
            have hz2 : (zeroValue tid).run P w = .ok z w := by simp [zeroValue, typeInfo, i1, i3]
            have hmade : (Array.range (1 * dd.ty.size)).map ((zcells dd.ty).toArray[· % (zcells dd.ty).toArray.size]!) = (zcells dd.ty).toArray := by
              apply Array.ext'
              have := made_flat (zcells dd.ty) 1
              rw [zcells_length] at this
              simp only [List.replicate_one, List.flatten_cons, List.flatten_nil, List.append_nil] at this
              exact this
            have hpa : parts = #[(0, x)] := by apply Array.ext'; rw [hp]
            have run : (Instr.buildSlice T 1 (parts.map fun q => (q.1, a.eval q.2))).run P w = .ok (.slice (some ⟨w.heap.size, 0, none⟩) 1 1) (w.alloc (.cells cs.toArray tid)) := by
              unfold Instr.buildSlice
              have hlt : ¬ (1 * dd.ty.size > 2 ^ 24) := by omega
              have h0 : ¬ (1 * dd.ty.size = 0) := by omega
              simp only [Sem.run_bind, run_underlying e1, Result.andThen_ok, hrs, if_neg hlt, if_neg h0, hz2, Sem.run_pure, i4]
              rw [hmade, hpa]
              simp only [List.map_toArray, List.map_cons, List.map_nil]
              rw [fill_one (off := 0) (size := dd.ty.size) (by simp) k2 hcl (by rw [zcells_length]; omega)]
              rw [List.take_zero, List.nil_append, List.drop_of_length_le (by rw [zcells_length]; omega), List.append_nil]
              rfl
            have hown := World.ownsRow_lit (base := 0) (e := tid) (size := dd.ty.size) w cs.toArray 1 (Nat.zero_le _) (by simp only [maxLen]; omega) (by simpa using hcl)
            obtain ⟨G', q1⟩ := h.newDeep (w' := w.alloc (.cells cs.toArray tid)) hd hnone (obj1 := killO st.obj ns) (fun m => by
                rcases killO_cases ns st.obj m with ⟨_, k5⟩ | ⟨k5, k6⟩
                · exact .inl k5
                · refine .inr ⟨fun e => ?_, k6⟩
                  have := (m2 m k5).2
                  rw [e] at this
                  cases this) (tid := tid) (e := dd) (xs := [y]) (ad := some ⟨w.heap.size, 0, none⟩) (c := 1)
              (ds := cs) (ex := ns.flatMap (blkL G st.obj)) (by simpa using hown) (row := none) (World.grownBy_alloc w _ none) (fun b hb => by cases hb)
              (fun b hb => by simp only [Option.map_some, Option.some.injEq] at hb; exact .inl (by omega)) (fun b hb => by
                obtain ⟨m, hm, hb⟩ := List.mem_flatMap.1 hb
                refine ⟨⟨m, blkL_blk hb, ?_⟩, by simp⟩
                rcases killO_cases ns st.obj m with ⟨k5, _⟩ | ⟨_, k6⟩
                · exact absurd hm k5
                · exact k6) hN ⟨cs, [], _, [], by simp, by simp, m1, rfl, rfl⟩
            refine opWp o (z := _) (w' := _) ?_ (hnext G' _ _ _ (by rw [hdst]; exact q1) hk2)
            unfold execOp
            simp only [ho]
            exact run_value2 run
          · cases hk2
        · cases hk
      · cases hk
    · cases hk
  · rename_i cc ho
    obtain ⟨callee, args, argTypes⟩ := cc
    split at hk
    · rename_i s x T T' hcal hargs hts
      have hcal : callee = .builtin .append := hcal
      subst hcal
      obtain ⟨hb, hk2⟩ := cond_some hk
      have hb := Nat.eq_of_beq_eq_true hb
      subst hb
      have h1 : args = #[s, x] := by apply Array.ext'; exact hargs
      have h2 : argTypes = #[T, T] := by apply Array.ext'; exact hts
      have fin : ∀ {G' st' z w'}, (Builtin.append_ #[T, T] o.type #[a.eval s, a.eval x]).run P w = .ok z w' → Rel N w0 p0 Bs G' st' (a.put (some d) z) w' → k st' = some r → o.wp P a w next Q := by
        intro G' st' z w' j1 j2 j3
        refine opWp o (z := z) (w' := w') ?_ (hnext G' st' z w' (by rw [hdst]; exact j2) j3)
        unfold execOp
        simp only [ho, resolve, h1, h2, invoke, builtin, pure_bind, List.map_toArray, List.map_cons, List.map_nil]
        exact run_value2 j1
      split at hk2
      · rename_i tid e m he hx
        obtain ⟨hde, hk3⟩ := cond_some hk2
        have hde := of_decide_eq_true hde
        subst hde
        obtain ⟨e1, te, _, e3, e4, e5⟩ := elemOf_ok hT he
        have hxv := hval x
        rw [hx] at hxv
        split at hk3
        · rename_i ys hm hs
          obtain ⟨hle, hk4⟩ := cond_some hk3
          have hle := of_decide_eq_true hle
          split at hk4
          · rename_i hnone
            obtain ⟨hxe, es, y1, y2, y3, y4⟩ := rowDeep_sound h hm hxv
            have hsv := hval s
            rw [hs] at hsv
            have hse := nil_of hsv
            have hrun := run_append_rows (P := P) (C := C) (w := w) e1 e4 (by rw [e3]; exact e5) (G.hd m).2 (u := .slice none 0 0) (lx := 0) (ly := List.length ys) (ds := []) (es := es) (ad := (G.hd m).1)
              (World.ownsRow_nil _ _ _ _) (by rw [e3]; exact y1.1) (ownsRow_lies (p := fun _ => True) y1 (fun _ _ => trivial)).1 (RepL.one (ElsR.rep (k := none) (p := fun _ => True) ys 0 es (G.ex m) (fun _ _ => trivial) ((ElsR_all ys 0 es _).2 y2))) (by omega) o.type
            obtain ⟨z', w', r1, r2, r3, r4⟩ := hrun
            rw [e3] at r2
            rw [← hse, ← hxe] at r1
            have hz' : ∃ ad' c', z' = .slice ad' (List.length ys) c' := by
              rcases r2.2 with ⟨r5, r6⟩ | ⟨g, cap, cur, r5, _⟩
              · exact ⟨none, 0, by rw [r5]; congr 1; omega⟩
              · exact ⟨_, _, by rw [r5]; congr 1; omega⟩
            obtain ⟨ad', c', rfl⟩ := hz'
            rw [Nat.zero_add, List.nil_append] at r2
            obtain ⟨G', q1⟩ := h.newDeep (w' := w') hd hnone (obj1 := setO st.obj m .dead) (fun m' => by
                by_cases e : m' = m
                · subst e; exact .inr ⟨rowDeep_ne hm, setO_same _ _ _⟩
                · exact .inl (setO_other _ _ e)) (tid := tid) (e := dd) (xs := ys) (ad := ad') (c := c') (ds := es) (ex := G.ex m) r2 (row := none) (by simpa [Value.ownBlock] using r3) (fun b hb => by cases hb)
              (fun b hb => by
                rcases r4 b (by cases ad' with
                  | none => cases hb
                  | some x => simpa [Value.ownBlock] using hb) with k | k
                · exact .inl k
                · simp [Value.ownBlock] at k) (fun b hb => ⟨⟨m, y4 b (List.mem_append_right _ hb), setO_same _ _ _⟩, by simp⟩) (List.nodup_append.1 y3).2.1 y2
            exact fin r1 q1 hk4
          · cases hk4
        · rename_i ys n hm hs
          split at hk3
          · rename_i xs hn
            obtain ⟨hmn, hk4⟩ := cond_some hk3
            have hmn : m ≠ n := fun e => by rw [e] at hmn; simp at hmn
            obtain ⟨hle, hk5⟩ := cond_some hk4
            have hle := of_decide_eq_true hle
            split at hk5
            · rename_i hnone
              obtain ⟨hxe, es, y1, y2, y3, y4⟩ := rowDeep_sound h hm hxv
              have hsv := hval s
              rw [hs] at hsv
              obtain ⟨hse, ds, x1, x2, x3, x4⟩ := rowDeep_sound h hn hsv
              have hrun := run_append_rows (P := P) (C := C) (w := w) e1 e4 (by rw [e3]; exact e5) (G.hd m).2 (u := .slice (G.hd n).1 (List.length xs) (G.hd n).2) (lx := List.length xs) (ly := List.length ys) (ds := ds) (es := es) (ad := (G.hd m).1)
                (by rw [e3]; exact x1) (by rw [e3]; exact y1.1) (ownsRow_lies (p := fun _ => True) y1 (fun _ _ => trivial)).1 (RepL.one (ElsR.rep (k := none) (p := fun _ => True) ys 0 es (G.ex m) (fun _ _ => trivial) ((ElsR_all ys 0 es _).2 y2))) hle o.type
              obtain ⟨z', w', r1, r2, r3, r4⟩ := hrun
              rw [e3] at r2
              rw [← hse, ← hxe] at r1
              have hxy : List.length (xs ++ ys) = List.length xs + List.length ys := List.length_append
              have hz' : ∃ ad' c', z' = .slice ad' (List.length (xs ++ ys)) c' := by
                rw [hxy]
                rcases r2.2 with ⟨r5, r6⟩ | ⟨g, cap, cur, r5, _⟩
                · exact ⟨none, 0, by rw [r5]; congr 1; omega⟩
                · exact ⟨_, _, r5⟩
              obtain ⟨ad', c', rfl⟩ := hz'
              rw [← hxy] at r2
              have hob : ∀ b, (Value.slice (G.hd n).1 (List.length xs) (G.hd n).2).ownBlock = some b → b ∈ ablk (G.hd n).1 := fun b hb => by
                cases hh : (G.hd n).1 with
                | none => rw [hh] at hb; simp [Value.ownBlock] at hb
                | some q => rw [hh] at hb; simpa [Value.ownBlock, ablk, eq_comm] using hb
              have o1 : ∀ m', m' ≠ n → m' ≠ m → setO (setO st.obj m .dead) n .dead m' = st.obj m' := fun m' h1 h2 => by rw [setO_other _ _ h1, setO_other _ _ h2]
              have on : setO (setO st.obj m .dead) n .dead n = .dead := setO_same _ _ _
              have om : setO (setO st.obj m .dead) n .dead m = .dead := by rw [setO_other _ _ hmn, setO_same]
              obtain ⟨G', q1⟩ := h.newDeep (w' := w') hd hnone (obj1 := setO (setO st.obj m .dead) n .dead) (fun m' => by
                  by_cases e : m' = n
                  · subst e; exact .inr ⟨rowDeep_ne hn, on⟩
                  · by_cases e2 : m' = m
                    · subst e2; exact .inr ⟨rowDeep_ne hm, om⟩
                    · exact .inl (o1 m' e e2)) (tid := tid) (e := dd) (xs := xs ++ ys) (ad := ad') (c := c') (ds := ds ++ es) (ex := G.ex n ++ G.ex m) r2 (row := (Value.slice (G.hd n).1 (List.length xs) (G.hd n).2).ownBlock) r3
                (fun b hb => ⟨n, x4 b (List.mem_append_left _ (hob b hb)), on⟩)
                (fun b hb => r4 b (by cases ad' with
                    | none => cases hb
                    | some x => simpa [Value.ownBlock] using hb)) (fun b hb => by
                  rcases List.mem_append.1 hb with hb | hb
                  · exact ⟨⟨n, x4 b (List.mem_append_right _ hb), on⟩, fun e => (List.nodup_append.1 x3).2.2 b (hob b e) b hb rfl⟩
                  · exact ⟨⟨m, y4 b (List.mem_append_right _ hb), om⟩, fun e => hmn (h.inj m n b (y4 b (List.mem_append_right _ hb)) (x4 b (List.mem_append_left _ (hob b e))))⟩)
                (by
                  rw [List.nodup_append]
                  refine ⟨(List.nodup_append.1 x3).2.1, (List.nodup_append.1 y3).2.1, fun u hu v hv e => ?_⟩
                  subst e
                  exact hmn (h.inj m n u (y4 u (List.mem_append_right _ hv)) (x4 u (List.mem_append_right _ hu)))) (x2.append y2)
              exact fin r1 q1 hk5
            · cases hk5
          · cases hk3
        · cases hk3
      · cases hk2
    · cases hk
  · cases hk

theorem stepS_sound (hT : TabOk P C.Θ) (hΓ : ∀ g S, C.Γ g = some S → Good P g S) (h : Rel N w0 p0 Bs G st a w) (o : Oper) {d : Nat} (hdst : o.dst = some d) (hd : d < N) (sp : Sp) {R : Type} {k : St → Option R} {r : R}
    (hk : stepS C sp st d o.op k = some r) {next : Act → World → Prop} {Q : Exit → Act → World → Prop}
    (hnext : ∀ G' st' z w', Rel N w0 p0 Bs G' st' (a.put o.dst z) w' → k st' = some r → next (a.put o.dst z) w') : o.wp P a w next Q := by
  have hd' : ∀ e, o.dst = some e → e < N := fun e he => by rw [hdst] at he; injection he with he; rw [← he]; exact hd
  cases sp with
  | plain => exact stepOp_sound hT hΓ h o hd' (by rw [hdst]; exact hk) hnext
  | deep dd => exact makeD_sound hT h o hdst hd hk hnext
  | opn =>
    simp only [stepS] at hk
    split at hk
    · rename_i T p ho
      obtain ⟨G', st', y, k1, k2, k3⟩ := loadOpn_sound hT h hd (val_sound h p) hk
      refine opWp o (z := y) (w' := w) ?_ (hnext G' st' y w (by rw [hdst]; exact k2) k3)
      unfold execOp
      simp only [ho]
      exact run_value2 k1
    · cases hk
  | peek =>
    simp only [stepS] at hk
    split at hk
    · rename_i T p ho
      obtain ⟨G', st', y, k1, k2, k3⟩ := loadPeek_sound hT h hd (val_sound h p) hk
      refine opWp o (z := y) (w' := w) ?_ (hnext G' st' y w (by rw [hdst]; exact k2) k3)
      unfold execOp
      simp only [ho]
      exact run_value2 k1
    · cases hk

theorem stepM_sound (hT : TabOk P C.Θ) (hΓ : ∀ g S, C.Γ g = some S → Good P g S) (h : Rel N w0 p0 Bs G st a w) (o : Oper) (hd : ∀ e, o.dst = some e → e < N) {R : Type} {k : St → Option R} {r : R}
    (hk : stepM C st o.dst o.op k = some r) {next : Act → World → Prop} {Q : Exit → Act → World → Prop}
    (hnext : ∀ G' st' z w', Rel N w0 p0 Bs G' st' (a.put o.dst z) w' → k st' = some r → next (a.put o.dst z) w') : o.wp P a w next Q := by
  unfold stepM at hk
  split at hk
  · rename_i hdst
    split at hk
    · rename_i T p v ho
      refine stepSt_sound hT h (val_sound h p) (val_sound h v) (fun hother => ?_) (fun G' st' w' k1 k2 k3 => ?_) hk
      · exact stepOp_sound hT hΓ h o hd (by rw [hdst]; exact hother) hnext
      · unfold Oper.wp
        have : (execOp a.eval o).run P w = .ok .skip w' := by
          unfold execOp; simp only [ho, Sem.run_bind, k1, Result.andThen_ok, Sem.run_pure]
        rw [this]
        show next (a.put o.dst undef) w'
        refine hnext G' st' undef w' ?_ k3
        rw [hdst]; exact k2
    · exact stepOp_sound hT hΓ h o hd (by rw [hdst]; exact hk) hnext
  · rename_i dd hdst
    split at hk
    · exact stepOp_sound hT hΓ h o hd (by rw [hdst]; exact hk) hnext
    · rename_i m hm
      obtain ⟨G1, st1, h1, k1⟩ := ghosts_sound m.pre h hk
      refine stepS_sound hT hΓ h1 o hdst (hd dd hdst) m.sp k1 fun G2 st2 z w2 h2 k2 => ?_
      obtain ⟨G3, st3, h3, k3⟩ := ghosts_sound m.post h2 k2
      exact hnext G3 st3 z w2 h3 k3

end
end Go.Vx
