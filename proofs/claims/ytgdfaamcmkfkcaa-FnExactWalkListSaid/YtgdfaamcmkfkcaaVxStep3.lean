/-
  Slice literals, copy; then one operation, whatever it is but a call.
-/
import Derived.Test.YtgdfaamcmkfkcaaVxStep2
set_option linter.unusedSimpArgs false
set_option linter.unusedVariables false
set_option linter.unnecessarySimpa false
namespace Go.Vx
section
variable {P : Program} {C : Cfg} {N : Nat} {w0 : World} {p0 Bs : Nat → Prop} {G : Gh} {st : St} {a : Act} {w : World}

theorem allRows_ne {obj : Nat → AObj} : ∀ {ns : List Nat}, allRows obj ns = true → ∀ m ∈ ns, obj m ≠ .none
  | [], _, m, hm => by cases hm
  | x :: ns, h, m, hm => by
    simp only [allRows] at h
    split at h
    · rename_i hx
      rcases List.mem_cons.1 hm with rfl | hm
      · rw [hx]; simp
      · exact allRows_ne h m hm
    · rename_i hx
      rcases List.mem_cons.1 hm with rfl | hm
      · rw [hx]; simp
      · exact allRows_ne h m hm
    · cases h

theorem kill_h1 {obj : Nat → AObj} {ns : List Nat} (h : allRows obj ns = true) (m : Nat) : killO obj ns m = obj m ∨ (obj m ≠ .none ∧ killO obj ns m = .dead) := by
  rcases killO_cases ns obj m with ⟨_, k⟩ | ⟨k1, k2⟩
  · exact .inl k
  · exact .inr ⟨allRows_ne h m k1, k2⟩

theorem fillL_sound (h : Rel N w0 p0 Bs G st a w) {e : Ty} : ∀ (parts : List (Nat × Operand)) (q : Nat → Prop) (_hq : ∀ b, withSh (reg w0 p0 Bs G st.obj) G st.obj (shownAll st parts) b → q b) (xs ys : List e.den) (cs : List Value),
    RepL (Rep w q e) xs cs → fillL st e parts xs = some ys →
    ∃ ds, Instr.fill (fun i => some (i * e.size, e.size)) cs.toArray (parts.map fun x => (x.1, a.eval x.2)) = some ds.toArray ∧ RepL (Rep w q e) ys ds ∧ ys.length = xs.length
  | [], q, hq, xs, ys, cs, h1, h2 => by
    cases h2
    exact ⟨cs, rfl, h1, rfl⟩
  | (i, x) :: r, q, hq, xs, ys, cs, h1, h2 => by
    simp only [fillL] at h2
    split at h2
    · cases h2
    · rename_i ls hl
      split at h2
      · rename_i y hy
        obtain ⟨hi, h2⟩ := cond_some h2
        have hi : i < xs.length := by simpa [Nat.blt_eq] using hi
        obtain ⟨ns, k1, k2, _⟩ := AV.leaves_sound hl (val_sound h x)
        have hsub : ∀ b, withSh (reg w0 p0 Bs G st.obj) G st.obj (shown ls) b → q b := fun b hb => hq b (withSh_mono (fun n hn => by simp only [shownAll, hl, List.mem_append]; exact .inl hn) hb)
        have hsub2 : ∀ b, withSh (reg w0 p0 Bs G st.obj) G st.obj (shownAll st r) b → q b := fun b hb => hq b (withSh_mono (fun n hn => by simp only [shownAll, hl, List.mem_append]; exact .inr hn) hb)
        obtain ⟨c1, c2, e1, e2, e3⟩ := ofLeaves_sound e _ _ _ _ (reify_map h.objs ls ns k1) hy
        have e3 : c2 = [] := e3
        rw [e3, List.append_nil] at e1
        subst e1
        have hrep : Rep w q e y ns := Rep.mono (fun b hb _ => ⟨hsub b hb, rfl⟩) e y ns e2
        have hlen := Rep.length e y ns hrep
        have hcl := h1.len
        have hmul : (i + 1) * e.size ≤ xs.length * e.size := Nat.mul_le_mul_right _ hi
        rw [Nat.succ_mul] at hmul
        have hset := h1.set (n := e.size) (fun x c hr => Rep.length e x c hr) i hi hrep
        obtain ⟨ds, j1, j2, j3⟩ := fillL_sound h r q hsub2 _ ys _ hset h2
        refine ⟨ds, ?_, j2, by rw [j3]; simp⟩
        rw [List.map_cons, fill_one (off := i * e.size) (size := e.size) rfl k2 hlen (by omega)]
        exact j1
      · cases h2

theorem buildSlice_sound (hT : TabOk P C.Θ) (h : Rel N w0 p0 Bs G st a w) {T d tid n : Nat} (hd : d < N) {e : Ty} (he : elemOf C T = some (tid, e)) {parts : Array (Nat × Operand)}
    (hn : n * e.size ≤ 16777216) (hall : allRows st.obj (shownAll st parts.toList) = true) {xs : List e.den} (hf : fillL st e parts.toList (List.replicate n e.zero) = some xs)
    {R : Type} {k : St → Option R} {r : R} (hk : opNewRow st (killO st.obj (shownAll st parts.toList)) d tid e xs k = some r) :
    ∃ G' st' w' z, (Instr.buildSlice T n (parts.map fun q => (q.1, a.eval q.2))).run P w = .ok z w' ∧ Rel N w0 p0 Bs G' st' (a.put (some d) z) w' ∧ k st' = some r := by
  obtain ⟨e1, te, _, rfl, e4, e5⟩ := elemOf_ok hT he
  obtain ⟨info, z, i1, i2, i3, i4, i5⟩ := zero_cells e4
  have hz := e4.run_zero (w := w)
  have hrepl : RepL (Rep w (withSh (reg w0 p0 Bs G st.obj) G st.obj (shownAll st parts.toList)) te.ty) (List.replicate n te.ty.zero) (List.replicate n (zcells te.ty)).flatten := RepL.replicate (Rep.zero _ _ te.ty) n
  obtain ⟨ds, j1, j2, j3⟩ := fillL_sound h parts.toList _ (fun b hb => hb) _ xs _ hrepl hf
  rw [List.length_replicate] at j3
  have hlen := j2.len
  have hmade : (Array.range (n * te.ty.size)).map ((zcells te.ty).toArray[· % (zcells te.ty).toArray.size]!) = (List.replicate n (zcells te.ty)).flatten.toArray := by
    apply Array.ext'
    have := made_flat (zcells te.ty) n
    rw [zcells_length] at this
    rw [List.toList_toArray]
    exact this
  have run : (Instr.buildSlice T n (parts.map fun q => (q.1, a.eval q.2))).run P w = .ok (.slice (some ⟨w.heap.size, 0, none⟩) n n) (w.alloc (.cells ds.toArray tid)) := by
    unfold Instr.buildSlice
    have hlt : ¬ (n * te.ty.size > 2 ^ 24) := by omega
    have hz2 : (zeroValue tid).run P w = .ok z w := by simp [zeroValue, typeInfo, i1, i3]
    by_cases h0 : n * te.ty.size = 0
    · have hn0 : n = 0 := by
        rcases Nat.mul_eq_zero.1 h0 with h | h
        · exact h
        · omega
      subst hn0
      simp only [List.replicate_zero, List.flatten_nil] at j1
      have hlt0 : ¬ ((0 : Nat) > 2 ^ 24) := by omega
      simp only [Sem.run_bind, run_underlying e1, Result.andThen_ok, e4.run_sizeOf, Nat.zero_mul, if_neg hlt0, if_true, Sem.run_pure, Array.toList_map, pure_bind]
      have : (Array.map (fun x => (#[] : Array Value)[x % (#[] : Array Value).size]!) (Array.range 0)) = ([] : List Value).toArray := by simp
      rw [this, j1]
      rfl
    · simp only [Sem.run_bind, run_underlying e1, Result.andThen_ok, e4.run_sizeOf, if_neg hlt, if_neg h0, hz2, Sem.run_pure, Array.toList_map, i4]
      rw [hmade, j1]
      rfl
  refine ?_
  have hfin := opNewRow_sound (w' := w.alloc (.cells ds.toArray tid)) h hd (obj1 := killO st.obj (shownAll st parts.toList)) (kill_h1 hall) (tid := tid) (e := te.ty) (xs := xs) (ad := some ⟨w.heap.size, 0, none⟩) (c := n) (ds := ds) ?_ (row := none)
    (World.grownBy_alloc w _ none) (fun b hb => by cases hb) (fun b hb => by simp only [Option.map_some, Option.some.injEq] at hb; exact .inl (by omega)) ?_ hk
  · obtain ⟨G', st', q1, q2⟩ := hfin
    rw [j3] at q1
    exact ⟨G', st', _, _, run, q1, q2⟩
  · rw [j3]
    have := World.ownsRow_lit (base := 0) (e := tid) (size := te.ty.size) w ds.toArray n (Nat.zero_le _) (by
      simp only [maxLen]
      have := Nat.le_mul_of_pos_right n e5
      omega) (by simpa [j3] using hlen)
    simpa using this
  · intro w2 p2 h1 h2
    refine j2.mono fun x c _ hr => Rep.mono ?_ te.ty x c hr
    intro b hb hlt
    rcases hb with hb | ⟨m, hm, hb⟩
    · exact h1 b hb hlt
    · refine h2 b ⟨m, hb, ?_⟩ (by simp) hlt
      rcases killO_cases (shownAll st parts.toList) st.obj m with ⟨k1, _⟩ | ⟨_, k2⟩
      · exact absurd hm k1
      · exact k2

/-- A row's block is written, no header turns. -/
theorem Rel.rowed (h : Rel N w0 p0 Bs G st a w) {n tid : Nat} {e : Ty} {xs ys : List e.den} (ho : st.obj n = .row tid e xs) (hl : ys.length = xs.length) {g cap : Nat} (hd : G.hd n = (some ⟨g, 0, none⟩, cap))
    {cur : Array Value} (hcur : w.heap[g]? = some (.cells cur tid (0, 0))) (X : List Value) (hX : X.length = cur.size) (hrep : RepL (Rep w (reg w0 p0 Bs G st.obj) e) ys (X.take (xs.length * e.size))) :
    Rel N w0 p0 Bs G { st with obj := setO st.obj n (.row tid e ys) } a (w.setRow g X.toArray) := by
  have hbo : blk G st.obj n g := by simp [blk, ho, hd]
  have hbn : ∀ b, blk G (setO st.obj n (.row tid e ys)) n b ↔ b = g := fun b => by simp [blk, setO_same, hd, eq_comm]
  refine (h.step (w' := w.setRow g X.toArray) (G' := G) (obj' := setO st.obj n (.row tid e ys)) (n := n) rfl rfl rfl (by simp) ?_ ?_ (by rw [setO_same]; simp) ?_ ?_ ?_).1
  · intro b _ hne _
    exact setRow_other w _ b _ fun e => hne ((hbn b).2 e)
  · intro m hm
    exact .inl ⟨setO_other _ _ hm, rfl, rfl, rfl⟩
  · intro _
    refine ⟨fun e' l' hq => ?_, fun ls' hq => by (rw [setO_same] at hq; cases hq)⟩
    rw [setO_same] at hq
    simp only [rowOf, Option.some.injEq, Prod.mk.injEq] at hq
    obtain ⟨rfl, rfl⟩ := hq
    exact ⟨by rw [ho]; simp [rowOf, hl], rfl⟩
  · intro b hq
    obtain rfl := (hbn b).1 hq
    exact ⟨by simpa using (h.bound n _ hbo).1, .inr ⟨n, hbo, .inl rfl⟩⟩
  · intro tr
    rw [setO_same]
    have hO := h.objs n
    rw [ho] at hO
    obtain ⟨ds, q1, q2⟩ := hO
    rcases q1.2 with ⟨q3, _⟩ | ⟨g', cap', cur', q3, q4, q5, q6, q7, q8, q9⟩
    · rw [hd] at q3; cases q3
    · rw [hd] at q3
      simp only [Value.slice.injEq, Option.some.injEq, Addr.mk.injEq, and_true, true_and] at q3
      obtain ⟨rfl, rfl⟩ := q3
      rw [hcur] at q5
      injection q5 with q5
      injection q5 with q5
      subst q5
      refine ⟨X.take (xs.length * e.size), ⟨?_, .inr ⟨g, cap, X.toArray, by rw [hd], Nat.zero_le _, setRow_heap w g cur _ tid _ hcur, by rw [hl]; exact q6, q7, by simp [hX, q8], ?_⟩⟩, hrep.mono fun x c _ hr => Rep.mono tr.reg e x c hr⟩
      · rw [List.length_take, hX, q8, hl]
        have := Nat.mul_le_mul_right e.size q6
        omega
      · rw [hl]

theorem copy_sound (hT : TabOk P C.Θ) (h : Rel N w0 p0 Bs G st a w) {T T' : Nat} {d : Option Nat} (hd : ∀ e, d = some e → e < N) {x y : AV} {u v : Value} (hu : RV w (reg w0 p0 Bs G st.obj) G st.obj x u) (hv : RV w (reg w0 p0 Bs G st.obj) G st.obj y v)
    (ty : TypeId) {R : Type} {k : St → Option R} {r : R} (hk : opCopy C st T d x y k = some r) (ts : Array TypeId) (hts : ts[0]? = some T) :
    ∃ G' st' w' z, (Builtin.copy_ ts ty #[u, v]).run P w = .ok z w' ∧ Rel N w0 p0 Bs G' st' (a.put d z) w' ∧ k st' = some r := by
  unfold opCopy at hk
  split at hk
  · rename_i tid e n he
    obtain ⟨e1, te, _, rfl, e4, e5⟩ := elemOf_ok hT he
    split at hk
    · rename_i xs o ys hx hy
      obtain ⟨_, hk⟩ := cond_some hk
      obtain ⟨ad, m, c, es, rfl, rfl, s2, s3, s4⟩ := srcOf_sound h hv hy
      have ho : st.obj n = .row tid te.ty xs := by
        simp only [dstOf] at hx
        split at hx
        · rename_i tid' e' zs ho
          obtain ⟨hc, hx2⟩ := cond_some hx
          have hc := Nat.eq_of_beq_eq_true hc
          subst hc
          split at hx2
          · rename_i ys' hcast
            cases hx2
            obtain ⟨he, hy⟩ := castL_some hcast
            subst he
            subst hy
            exact ho
          · cases hx2
        · cases hx
      obtain ⟨v1, h1, _, h3, h4⟩ := hu
      simp only [List.cons.injEq, and_true] at h1
      subst h1
      have hu := h4 _ (List.length xs) (by rw [ho]; rfl)
      have hO := h.objs n
      rw [ho] at hO
      obtain ⟨ds, q1, q2⟩ := hO
      have hlen := s2.len
      have hdl := q2.len
      have hput : ∀ (G' : Gh) (st' : St) (w' : World) (i : Nat), i = Nat.min (List.length ys) (List.length xs) → Rel N w0 p0 Bs G' st' a w' → Rel N w0 p0 Bs G' (st'.put d (.sc (.int .i64 (Nat.min (List.length ys) (List.length xs))))) (a.put d (goInt i)) w' := by
        intro G' st' w' i hi hr
        refine hr.put hd ?_
        rw [hi]; rfl
      have hrow : ∀ (b : Nat), RepL (Rep w (reg w0 p0 Bs G st.obj) te.ty) (ys.take xs.length ++ xs.drop ys.length) (es.take (xs.length * te.ty.size) ++ ds.drop (ys.length * te.ty.size)) := by
        intro _
        by_cases hle : ys.length ≤ xs.length
        · have k2 := q2.drop (n := te.ty.size) (fun x c hr => Rep.length te.ty x c hr) ys.length hle
          have h5 : es.length ≤ xs.length * te.ty.size := by rw [hlen]; exact Nat.mul_le_mul_right _ hle
          rw [List.take_of_length_le hle, List.take_of_length_le h5]
          exact s2.append k2
        · have k1 := s2.take (n := te.ty.size) (fun x c hr => Rep.length te.ty x c hr) xs.length (by omega)
          have h5 : ds.length ≤ ys.length * te.ty.size := by rw [hdl]; exact Nat.mul_le_mul_right _ (by omega)
          rw [List.drop_eq_nil_of_le (by omega : xs.length ≤ ys.length), List.drop_eq_nil_of_le h5, List.append_nil, List.append_nil]
          exact k1
      have hyl : (ys.take xs.length ++ xs.drop ys.length).length = xs.length := by
        simp only [List.length_append, List.length_take, List.length_drop]; omega
      rcases q1.2 with ⟨q3, q4⟩ | ⟨g, cap, cur, q3, _, q5, q6, q7, q8, q9⟩
      · -- nothing to write into
        have hx0 : xs = [] := List.eq_nil_of_length_eq_zero q4
        subst hx0
        have hrun : (Builtin.copy_ ts ty #[u, .slice ad ys.length c]).run P w = .ok (goInt 0) w := by
          rw [hu, q3]
          have hl : ∀ (x : Addr), (loadCells x 0).run P w = .ok #[] w := fun x => by simpa using run_loadCells_list (P := P) w x [] (by simp)
          cases ad <;> simp [Builtin.copy_, hts, run_underlying e1, Builtin.lenOf, Builtin.firstCells, e4.run_sizeOf, hl]
        have hsame : setO st.obj n (.row tid te.ty (ys.take (List.length ([] : List te.ty.den)) ++ ([] : List te.ty.den).drop ys.length)) = st.obj := by
          funext m
          by_cases hm : m = n
          · subst hm; rw [setO_same, ho]; simp
          · rw [setO_other _ _ hm]
        rw [hsame] at hk
        exact ⟨G, _, w, goInt 0, hrun, hput G st w 0 (by simp [Nat.min_def]) h, hk⟩
      · simp only [Value.slice.injEq, true_and] at q3
        have hhd : G.hd n = (some ⟨g, 0, none⟩, cap) := by rw [← q3.1, ← q3.2]
        let cs := es.take (xs.length * te.ty.size)
        have hcl : cs.length = Nat.min ys.length xs.length * te.ty.size := by
          show (es.take (xs.length * te.ty.size)).length = _
          rw [List.length_take, hlen]
          show min _ _ = min _ _ * _
          rw [Nat.mul_min_mul_right, Nat.min_comm]
        have hfc : (Builtin.firstCells te.ty.size (Nat.min ys.length xs.length) (.slice ad ys.length c)).run P w = .ok cs.toArray w := by
          cases ad with
          | none =>
            have : es = [] := by
              rcases s3 with s5 | ⟨_, s5, _⟩
              · exact s5
              · cases s5
            have hcs : cs = [] := by show es.take _ = []; rw [this]; simp
            rw [hcs]; rfl
          | some ad' =>
            simp only [Builtin.firstCells]
            rw [← hcl]
            refine run_loadCells_list w ad' cs fun j v hj => ?_
            rcases s3 with s5 | ⟨ad2, s5, s6, _, s8⟩
            · have hcs : cs = [] := by show es.take _ = []; rw [s5]; simp
              rw [hcs] at hj; cases hj
            · cases s5
              rw [add_plain s6]
              refine s8 j v ?_
              have hj : (es.take (xs.length * te.ty.size))[j]? = some v := hj
              rw [List.getElem?_take] at hj
              split at hj
              · exact hj
              · cases hj
        have hone : ∀ v ∈ cs, v.oneCell' = true := fun v hv => s4 v (List.mem_of_mem_take hv)
        have hcur : cs.length ≤ cur.size := by
          rw [hcl, q8]
          exact Nat.mul_le_mul_right _ (Nat.le_trans (Nat.min_le_right _ _) q6)
        have hst := run_storeCells_at P g 0 tid cs 0 cur w q5 (by simpa using hcur) hone
        simp only [Nat.add_zero, List.take_zero, List.nil_append, Nat.zero_add] at hst
        have hrun : (Builtin.copy_ ts ty #[u, .slice ad ys.length c]).run P w = .ok (goInt (Nat.min ys.length xs.length)) (w.setRow g (cs ++ cur.toList.drop cs.length).toArray) := by
          rw [hu, q3.1, q3.2]
          simp only [Builtin.copy_, hts, Sem.run_bind, run_underlying e1, Result.andThen_ok, Builtin.lenOf, Sem.run_pure, e4.run_sizeOf]
          simp only [List.getElem?_toArray, List.getElem?_cons_zero, List.getElem?_cons_succ, Sem.run_bind, run_underlying e1, Result.andThen_ok, Builtin.lenOf, Sem.run_pure, e4.run_sizeOf, hfc, hst]
        refine ⟨G, _, _, _, hrun, hput G _ _ _ rfl (h.rowed (ys := ys.take xs.length ++ xs.drop ys.length) ho hyl hhd q5 (cs ++ cur.toList.drop cs.length) (by simp; omega) ?_), hk⟩
        have htk : (cs ++ cur.toList.drop cs.length).take (xs.length * te.ty.size) = es.take (xs.length * te.ty.size) ++ ds.drop (ys.length * te.ty.size) := by
          have hcl2 : cs.length ≤ xs.length * te.ty.size := by rw [hcl]; exact Nat.mul_le_mul_right _ (Nat.min_le_right _ _)
          rw [List.take_append, List.take_of_length_le hcl2, ← List.drop_take, q9]
          congr 1
          by_cases hle : ys.length ≤ xs.length
          · rw [hcl]; congr 1; rw [show Nat.min ys.length xs.length = ys.length from Nat.min_eq_left hle]
          · have h6 : ds.length ≤ ys.length * te.ty.size := by rw [hdl]; exact Nat.mul_le_mul_right _ (by omega)
            rw [List.drop_eq_nil_of_le h6, List.drop_eq_nil_of_le]
            rw [hcl, show Nat.min ys.length xs.length = xs.length from Nat.min_eq_right (by omega), hdl]
            exact Nat.le_refl _
        rw [htk]
        exact hrow 0
    · cases hk
  · cases hk

end
end Go.Vx
