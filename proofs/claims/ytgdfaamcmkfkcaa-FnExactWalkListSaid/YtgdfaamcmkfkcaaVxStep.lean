/-
  Stores, new variables and rows, append, copy: one by one.
-/
import Derived.Test.YtgdfaamcmkfkcaaVxMem
set_option linter.unusedSimpArgs false
set_option linter.unusedVariables false
set_option linter.unnecessarySimpa false
namespace Go.Vx
section
variable {P : Program} {C : Cfg} {N : Nat} {w0 : World} {p0 Bs : Nat → Prop} {G : Gh} {st : St} {a : Act} {w : World}

theorem cond_some {R : Type} {c : Bool} {x : Option R} {r : R} (h : cond c x none = some r) : c = true ∧ x = some r := by
  cases c with
  | true => exact ⟨rfl, h⟩
  | false => cases h

theorem run_storeVar {T : Nat} {ti : TI} (hT : TyOk P C.Θ T ti) {b off : Nat} {cur : Array Value} {tid : Nat} (hb : w.heap[b]? = some (.cells cur tid (0, 0))) {z : Value} {cs : List Value}
    (hz : z.cells = cs.toArray) (hl : cs.length = ti.ty.size) (hle : off + cs.length ≤ cur.size) (h1 : ∀ v ∈ cs, v.oneCell' = true) :
    (Instr.storeAt T (.pointer (some ⟨b, off, none⟩)) z).run P w = .ok () (w.setRow b (cur.toList.take off ++ cs ++ cur.toList.drop (off + cs.length)).toArray) := by
  have hs := run_storeCells_at P b off tid cs 0 cur w hb (by simpa using hle) h1
  have hne : ¬ (z.cells.size ≠ ti.ty.size) := by rw [hz]; simpa using hl
  simp only [Instr.storeAt, Instr.sureAddr, pure_bind, storeVar, Sem.run_bind, hT.run_sizeOf, Result.andThen_ok, if_neg hne]
  rw [hz]
  simpa using hs

theorem set_cells {full cs : List Value} {k off size L : Nat} (h1 : off + cs.length ≤ size) (h2 : k + size ≤ L) (h3 : L ≤ full.length) :
    (full.take (k + off) ++ cs ++ full.drop (k + off + cs.length)).take L =
      (full.take L).take k ++ (((full.drop k).take size).take off ++ cs ++ ((full.drop k).take size).drop (off + cs.length)) ++ (full.take L).drop (k + size) := by
  have hs : ((full.drop k).take size).length = size := by simp only [List.length_take, List.length_drop]; omega
  have a1 : full.take (k + off) = full.take k ++ ((full.drop k).take size).take off := by
    rw [List.take_add, List.take_take, Nat.min_eq_left (by omega)]
  have a2 : full.drop (k + off + cs.length) = ((full.drop k).take size).drop (off + cs.length) ++ full.drop (k + size) := by
    have : full.drop (k + off + cs.length) = ((full.drop k).take size ++ (full.drop k).drop size).drop (off + cs.length) := by
      rw [List.take_append_drop, List.drop_drop]; congr 1; omega
    rw [this, List.drop_append_of_le_length (by omega), List.drop_drop]
  have a3 : full.take k = (full.take L).take k := by rw [List.take_take, Nat.min_eq_left (by omega)]
  have a4 : (full.drop (k + size)).take (L - (k + size)) = (full.take L).drop (k + size) := by rw [List.drop_take]
  have hl : (full.take k ++ (((full.drop k).take size).take off ++ cs ++ ((full.drop k).take size).drop (off + cs.length))).length = k + size := by
    simp only [List.length_append, List.length_take, List.length_drop]; omega
  rw [a1, a2]
  have : full.take k ++ ((full.drop k).take size).take off ++ cs ++ (((full.drop k).take size).drop (off + cs.length) ++ full.drop (k + size)) =
      (full.take k ++ (((full.drop k).take size).take off ++ cs ++ ((full.drop k).take size).drop (off + cs.length))) ++ full.drop (k + size) := by
    simp only [List.append_assoc]
  rw [this, List.take_append, hl, List.take_of_length_le (by omega), a4, ← a3]

/-- What was shown is data from now on: its blocks belong to nobody. -/
theorem shown_reg (h : Rel N w0 p0 Bs G st a w) {w' : World} {G' : Gh} {obj' : Nat → AObj} {ns : List Nat} (hdead : ∀ m ∈ ns, obj' m = .dead)
    (tr : Tr w (reg w0 p0 Bs G st.obj) G st.obj w' (reg w0 p0 Bs G' obj') G' obj')
    (hno : ∀ m ∈ ns, ∀ b, blk G st.obj m b → w'.heap[b]? = w.heap[b]?) (hclash : ∀ m ∈ ns, ∀ b, blk G st.obj m b → ∀ n, blk G' obj' n b → blk G st.obj n b) :
    ∀ b, withSh (reg w0 p0 Bs G st.obj) G st.obj ns b → b < w.heap.size → reg w0 p0 Bs G' obj' b ∧ w'.heap[b]? = w.heap[b]? := by
  intro b hb hlt
  rcases hb with hb | ⟨m, hm, hb⟩
  · exact tr.reg b hb hlt
  · refine ⟨⟨?_, fun n hn => ?_⟩, hno m hm b hb⟩
    · rcases (h.bound m b hb).2 with k | k
      · exact .inr (.inl k)
      · exact .inr (.inr k)
    · have := h.inj m n b hb (hclash m hm b hb n hn)
      subst this
      simp [blk, hdead m hm] at hn

theorem opStore_sound (hT : TabOk P C.Θ) (h : Rel N w0 p0 Bs G st a w) {T : Nat} {x v : AV} {u z : Value} (hu : RV w (reg w0 p0 Bs G st.obj) G st.obj x u) (hz : RV w (reg w0 p0 Bs G st.obj) G st.obj v z)
    {R : Type} {k : St → Option R} {r : R} (hk : opStore C st T x v k = some r) :
    ∃ G' st' w', (Instr.storeAt T u z).run P w = .ok () w' ∧ Rel N w0 p0 Bs G' st' a w' ∧ k st' = some r := by
  unfold opStore at hk
  split at hk
  · rename_i ti ls ht hl
    have hty := hT T ti ht
    obtain ⟨hsz, hk⟩ := cond_some hk
    have hsz := Nat.eq_of_beq_eq_true hsz
    obtain ⟨cs, k1, k2, _⟩ := AV.leaves_sound hl hz
    have hlen := RLs.length _ _ k1
    have hone := RLs.one _ _ k1
    split at hk
    · rename_i n off _
      split at hk
      · rename_i old ho
        split at hk
        · rename_i new hsp
          obtain ⟨v1, h1, _, h3, h4⟩ := hu
          simp only [List.cons.injEq, and_true] at h1
          subst h1
          rw [h4 old ho]
          have hO := h.objs n
          rw [ho] at hO
          obtain ⟨cur, tid, j1, j2⟩ := hO
          obtain ⟨j3, j4⟩ := spliceC_sound j2 k1 hsp
          refine ⟨G, _, _, run_storeVar hty j1 k2 (by omega) (by simpa using j4) hone, h.boxed ho j1 j3, hk⟩
        · cases hk
      · cases hk
    · rename_i n i off _
      split at hk
      · rename_i tid e xs ho
        obtain ⟨hsh, hk⟩ := cond_some hk
        cases hix : idx xs i with
        | none => rw [hix] at hk; cases hk
        | some y0 =>
          rw [hix] at hk
          simp only [Option.bind_some] at hk
          obtain ⟨hi0, hi1⟩ := idx_some hix
          obtain ⟨hi2, rfl⟩ := List.getElem?_eq_some_iff.1 hi1
          split at hk
          · rename_i nl hsp
            split at hk
            · rename_i y hy
              obtain ⟨v1, h1, _, h3, h4⟩ := hu
              simp only [List.cons.injEq, and_true] at h1
              subst h1
              obtain ⟨j1, j2, b, j3, j4⟩ := h4 e (List.length xs) (by rw [ho]; rfl)
              rw [j4]
              have hO := h.objs n
              rw [ho] at hO
              have hO' := hO
              obtain ⟨ds, q1, q2⟩ := hO
              obtain ⟨cells, m1, m2, m3⟩ := row_lies hO' hi2 j3
              -- the whole cells of the element, spliced
              have hre := reify_map h.objs ls cs k1
              have hlv := RLs.wider (q := withSh (reg w0 p0 Bs G st.obj) G st.obj (shown ls)) (fun b hb => .inl hb) _ _ (leavesOf_sound (G := G) (obj := st.obj) e _ _ m3)
              obtain ⟨s1, s2⟩ := spliceC_sound hlv hre hsp
              obtain ⟨c1, c2, s3, s4, s5⟩ := ofLeaves_sound e _ _ _ _ s1 hy
              have s5 : c2 = [] := s5
              rw [s5, List.append_nil] at s3
              rw [← s3] at s4
              have hmul : (i.toNat + 1) * e.size = i.toNat * e.size + e.size := Nat.succ_mul _ _
              have hel : ((cells.toList.drop (i.toNat * e.size)).take e.size).length = e.size := by
                simp only [List.length_take, List.length_drop, Array.length_toList]; omega
              rw [hel] at s2
              refine ⟨G, _, _, run_storeVar hty m1 k2 (by omega) (by omega) hone, ?_, hk⟩
              have hbo : blk G st.obj n b := by simp [blk, ho, j3]
              have hbn : ∀ o' : AObj, (∃ t' ys, o' = .row t' e ys) → ∀ b', blk G (setO (killO st.obj (shown ls)) n o') n b' ↔ b' = b := by
                rintro _ ⟨t', ys, rfl⟩ b'; simp [blk, setO_same, j3, eq_comm]
              have hnsh : n ∉ shown ls := by
                simp only [Bool.and_eq_true, Bool.not_eq_true', List.contains_eq_mem, decide_eq_false_iff_not] at hsh
                exact hsh.1
              refine (h.step (w' := w.setRow b _) (G' := G) (obj' := setO (killO st.obj (shown ls)) n (.row tid e (xs.set i.toNat y))) (n := n) rfl rfl rfl (by simp) ?_ ?_ (by rw [setO_same]; simp) ?_ ?_ ?_).1
              · intro b' _ hne _
                refine setRow_other w _ b' _ fun e' => hne ?_
                exact (hbn _ ⟨_, _, rfl⟩ _).2 e'
              · intro m hm
                rw [setO_other _ _ hm]
                rcases killO_cases (shown ls) st.obj m with ⟨_, k5⟩ | ⟨k5, k6⟩
                · exact .inl ⟨k5, rfl, rfl, rfl⟩
                · refine .inr ⟨?_, k6⟩
                  have hall : ∀ (ns : List Nat), allRows st.obj ns = true → ∀ m ∈ ns, st.obj m ≠ .none := by
                    intro ns
                    induction ns with
                    | nil => intro _ m hm; cases hm
                    | cons x ns ih =>
                      intro hr m hm
                      simp only [allRows] at hr
                      split at hr
                      · rename_i hx
                        rcases List.mem_cons.1 hm with rfl | hm
                        · rw [hx]; simp
                        · exact ih hr m hm
                      · rename_i hx
                        rcases List.mem_cons.1 hm with rfl | hm
                        · rw [hx]; simp
                        · exact ih hr m hm
                      · cases hr
                  simp only [Bool.and_eq_true] at hsh
                  exact hall _ hsh.2 m k5
              · intro _
                refine ⟨fun e' l' hq => ?_, fun ls' hq => by (rw [setO_same] at hq; cases hq)⟩
                rw [setO_same] at hq
                simp only [rowOf, List.length_set, Option.some.injEq, Prod.mk.injEq] at hq
                obtain ⟨rfl, rfl⟩ := hq
                exact ⟨by rw [ho]; rfl, rfl⟩
              · intro b' hq
                obtain rfl := (hbn _ ⟨_, _, rfl⟩ _).1 hq
                exact ⟨by simpa using (h.bound n _ hbo).1, .inr ⟨n, hbo, .inl rfl⟩⟩
              · intro tr
                rw [setO_same]
                rcases q1.2 with ⟨_, q3⟩ | ⟨g, cap, cur, q3, _, q4, q5, q6, q7, q8⟩
                · omega
                · have q3' : g = b ∧ cap = (G.hd n).2 := by
                    rw [j3] at q3
                    simp only [Value.slice.injEq, Option.some.injEq, Addr.mk.injEq, and_true, true_and] at q3
                    exact ⟨q3.1.symm, q3.2.symm⟩
                  obtain ⟨rfl, rfl⟩ := q3'
                  rw [m1] at q4
                  injection q4 with q4
                  injection q4 with q4
                  subst q4
                  have hdl := q2.len
                  have hil : (i.toNat + 1) * e.size ≤ xs.length * e.size := Nat.mul_le_mul_right _ hi2
                  have hcl : List.length xs * e.size ≤ cells.toList.length := by rw [Array.length_toList (xs := cells), q7]; exact Nat.mul_le_mul_right _ q5
                  have hcells := set_cells (full := cells.toList) (cs := cs) (k := i.toNat * e.size) (off := off) (size := e.size) (L := xs.length * e.size) s2 (by omega) hcl
                  rw [q8] at hcells
                  refine ⟨ds.take (i.toNat * e.size) ++ (((cells.toList.drop (i.toNat * e.size)).take e.size).take off ++ cs ++ ((cells.toList.drop (i.toNat * e.size)).take e.size).drop (off + cs.length)) ++ ds.drop (i.toNat * e.size + e.size),
                    ⟨?_, .inr ⟨g, (G.hd n).2, (cells.toList.take (i.toNat * e.size + off) ++ cs ++ cells.toList.drop (i.toNat * e.size + off + cs.length)).toArray, by rw [j3], Nat.zero_le _, setRow_heap w g cells _ tid _ m1, ?_, q6, ?_, ?_⟩⟩, ?_⟩
                  · simp only [List.length_append, List.length_take, List.length_drop, List.length_set, hdl, Array.length_toList] at hcl ⊢
                    omega
                  · rw [List.length_set]; exact q5
                  · simp only [List.size_toArray, List.length_append, List.length_take, List.length_drop, Array.length_toList] at hcl ⊢
                    rw [← q7]
                    omega
                  · rw [List.length_set]; exact hcells
                  · have hold : RepL (Rep (w.setRow g (cells.toList.take (i.toNat * e.size + off) ++ cs ++ cells.toList.drop (i.toNat * e.size + off + cs.length)).toArray) (reg w0 p0 Bs G (setO (killO st.obj (shown ls)) n (.row tid e (xs.set i.toNat y)))) e) xs ds := q2.mono fun x c _ hr => Rep.mono tr.reg e x c hr
                    refine hold.set (n := e.size) (fun x c hr => Rep.length e x c hr) i.toNat hi2 ?_
                    refine Rep.mono (shown_reg h (ns := shown ls) ?_ tr ?_ ?_) e y _ s4
                    · intro m hm
                      have : m ≠ n := fun e' => hnsh (e' ▸ hm)
                      rw [setO_other _ _ this]
                      rcases killO_cases (shown ls) st.obj m with ⟨k5, _⟩ | ⟨_, k6⟩
                      · exact absurd hm k5
                      · exact k6
                    · intro m hm b' hb'
                      refine setRow_other w _ b' _ fun e' => ?_
                      subst e'
                      have := h.inj m n _ hb' hbo
                      exact hnsh (this ▸ hm)
                    · intro m hm b' hb' n' hn'
                      by_cases e' : n' = n
                      · subst e'
                        rw [(hbn _ ⟨_, _, rfl⟩ _).1 hn']; exact hbo
                      · simp only [blk, setO_other _ _ e'] at hn'
                        rcases killO_cases (shown ls) st.obj n' with ⟨_, k5⟩ | ⟨_, k6⟩
                        · rw [k5] at hn'; exact hn'
                        · rw [k6] at hn'; cases hn'
            · cases hk
          · cases hk
      · cases hk
    · rename_i n off sz i _
      split at hk
      · rename_i old ho hsh0
        split at hk
        · rename_i pre m e xs post htk
          obtain ⟨hc, hk⟩ := cond_some hk
          simp only [Bool.and_eq_true, Nat.beq_eq] at hc
          obtain ⟨⟨hc1, hc2⟩, hc3⟩ := hc
          obtain ⟨hi0, hi1⟩ := inb_true hc3
          split at hk
          · rename_i y hy
            obtain ⟨v1, h1, _, h3, h4⟩ := hu
            simp only [List.cons.injEq, and_true] at h1
            subst h1
            rw [h4 old ho]
            have hO := h.objs n
            rw [ho] at hO
            obtain ⟨cur, tid, j1, j2⟩ := hO
            obtain ⟨_, c1, c2, t1, t2, t3, t4⟩ := takeC_sound _ _ _ _ _ j2 htk
            obtain ⟨d1, d2, rfl, t5, t6⟩ := t4
            have t5 : Rep w _ (.arr m e) xs d1 := t5
            have hd1 := t5.2.len
            have hi2 : i.toNat < xs.length := by omega
            have hmul : (i.toNat + 1) * e.size = i.toNat * e.size + e.size := Nat.succ_mul _ _
            have hmul2 : (i.toNat + 1) * e.size ≤ xs.length * e.size := Nat.mul_le_mul_right _ hi2
            have hcl : cs.length = e.size := by rw [hlen, hsz, ← hc2, ← hc1]
            have hcur : cur.size = off + (d1.length + d2.length) := by
              have := congrArg List.length t1
              rw [Array.length_toList] at this
              rw [this]; simp [t2]
            obtain ⟨e1, e2, s3, s4, s5⟩ := ofLeaves_sound e _ _ _ _ k1 hy
            have s5 : e2 = [] := s5
            rw [s5, List.append_nil] at s3
            rw [← s3] at s4
            have hset := RepL.set (n := e.size) t5.2 (fun x c hr => Rep.length e x c hr) i.toNat hi2 s4
            have hnew : RLs w (reg w0 p0 Bs G st.obj) G st.obj (pre ++ .arr m e (xs.set i.toNat y) :: post) (c1 ++ ((d1.take (i.toNat * e.size) ++ cs ++ d1.drop (i.toNat * e.size + e.size)) ++ d2)) :=
              t3.append ⟨_, _, rfl, ⟨by rw [List.length_set]; exact t5.1, hset⟩, t6⟩
            have hw := run_storeVar (P := P) (C := C) (w := w) hty (off := off + i.toNat * sz) j1 k2 (by omega) (by rw [← hc1]; omega) hone
            have hcells : cur.toList.take (off + i.toNat * sz) ++ cs ++ cur.toList.drop (off + i.toNat * sz + cs.length) = c1 ++ ((d1.take (i.toNat * e.size) ++ cs ++ d1.drop (i.toNat * e.size + e.size)) ++ d2) := by
              rw [t1, ← hc1, hcl, ← t2]
              rw [List.take_length_add_append, show c1.length + i.toNat * e.size + e.size = c1.length + (i.toNat * e.size + e.size) by omega, List.drop_length_add_append,
                List.take_append_of_le_length (by omega), List.drop_append_of_le_length (by omega)]
              simp
            rw [hcells] at hw
            exact ⟨G, _, _, hw, h.boxed ho j1 hnew, hk⟩
          · cases hk
        · cases hk
      · cases hk
    · cases hk
  · cases hk

end
end Go.Vx
