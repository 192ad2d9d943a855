/-
  Rows with rows of their own: made, looked at, taken apart.
-/
import Derived.Test.YtgdfaamcmkfkcaaVxPut
set_option linter.unusedSimpArgs false
set_option linter.unusedVariables false
set_option linter.unnecessarySimpa false
namespace Go.Vx
section
variable {P : Program} {C : Cfg} {N : Nat} {w0 : World} {p0 Bs : Nat → Prop} {G : Gh} {st : St} {a : Act} {w : World}

theorem nodup_out {x y M : List Nat} (h : (x ++ (M ++ y)).Nodup) : M.Nodup ∧ (x ++ y).Nodup ∧ ∀ z ∈ M, z ∉ x ++ y := by
  have hp : (x ++ (M ++ y)).Perm (M ++ (x ++ y)) := by
    rw [← List.append_assoc, ← List.append_assoc]
    exact List.Perm.append_right y List.perm_append_comm
  rw [hp.nodup_iff, List.nodup_append] at h
  exact ⟨h.1, h.2.1, fun z hz hz2 => h.2.2 z hz z hz2 rfl⟩

theorem own_cells {tid size l c b : Nat} {ds : List Value} (h : w.ownsRow 0 tid size (.slice (some ⟨b, 0, none⟩) l c) l ds) :
    ∃ cells : Array Value, w.heap[b]? = some (.cells cells tid (0, 0)) ∧ ds.length ≤ cells.size ∧ cells.toList.take ds.length = ds := by
  have hdl := h.1
  rcases h.2 with ⟨h3, h4⟩ | ⟨g, cap, cur, q3, _, q4, q5, q6, q7, q8⟩
  · cases h3
  · simp only [Value.slice.injEq, Option.some.injEq, Addr.mk.injEq, and_true, true_and] at q3
    obtain ⟨rfl, rfl⟩ := q3
    have hcl : ds.length ≤ cur.toList.length := by rw [← q8, List.length_take]; exact Nat.min_le_right _ _
    exact ⟨cur, q4, by rwa [Array.length_toList] at hcl, by rw [hdl]; exact q8⟩

theorem part_cells {full ds : List Value} (h : full.take ds.length = ds) {pos k : Nat} (hle : pos + k ≤ ds.length) : (full.drop pos).take k = (ds.drop pos).take k := by
  have : ds.drop pos = (full.drop pos).take (ds.length - pos) := by
    conv => lhs; rw [← h]
    rw [List.drop_take]
  rw [this, List.take_take, Nat.min_eq_left (by omega)]

theorem mid_elem {cs1 c cs2 : List Value} {pos n : Nat} (h : cs1.length = pos) (hc : c.length = n) (off k : Nat) (hk : off + k ≤ n) : ((cs1 ++ (c ++ cs2)).drop (pos + off)).take k = (c.drop off).take k := by
  subst h
  rw [List.drop_length_add_append, List.drop_append_of_le_length (by omega), List.take_append_of_le_length (by rw [List.length_drop]; omega)]

theorem loadPeek_sound (hT : TabOk P C.Θ) (h : Rel N w0 p0 Bs G st a w) {T dst : Nat} (hd : dst < N) {x : AV} {u : Value} (hu : RV w (reg w0 p0 Bs G st.obj) G st.obj x u) {R : Type} {k : St → Option R} {r : R} (hk : loadPeek C st T dst x k = some r) :
    ∃ G' st' y, (Instr.loadAt T u).run P w = .ok y w ∧ Rel N w0 p0 Bs G' st' (a.put (some dst) y) w ∧ k st' = some r := by
  unfold loadPeek at hk
  split at hk
  · rename_i ti n i off ht
    have hty := hT T ti ht
    split at hk
    · rename_i tid d z xs ho
      obtain ⟨hle, hk2⟩ := cond_some hk
      have hle := Nat.le_of_ble_eq_true hle
      cases hix : idx xs i with
      | none => rw [hix] at hk2; cases hk2
      | some e0 =>
        rw [hix] at hk2
        simp only [Option.bind_some] at hk2
        obtain ⟨hi0, hi1⟩ := idx_some hix
        obtain ⟨hi2, rfl⟩ := List.getElem?_eq_some_iff.1 hi1
        obtain ⟨hz, hk3⟩ := cond_some hk2
        have hz := of_decide_eq_true hz
        split at hk3
        · rename_i m hm
          obtain ⟨v1, h1, _, h3, h4⟩ := hu
          simp only [List.cons.injEq, and_true] at h1
          subst h1
          obtain ⟨j1, j2, b, j3, j4⟩ := h4 d.ty (List.length xs) (by rw [ho]; rfl)
          have hO := h.objs n
          rw [ho] at hO
          obtain ⟨hn, ds, ds', g1, g2, g3⟩ := hO
          have g2 : ds' = ds := g2
          subst g2
          obtain ⟨cs1, c, cs2, bs1, bb, bs2, hds', hex, f3, f4, f5, f6⟩ := ElsR_at xs 0 ds' (G.ex n) g3 i.toNat hi2
          rw [show inK (some z) (0 + i.toNat) = false by unfold inK; exact decide_eq_false (by omega)] at f5
          rw [j3] at g1
          obtain ⟨cells, k1, k2, k3⟩ := own_cells g1
          have hdl : ds'.length = i.toNat * d.ty.size + (d.ty.size + cs2.length) := by rw [hds']; simp [f3, f4]
          have hld := load_cells (w := w) hty (off := i.toNat * d.ty.size + off) k1 (by omega)
          rw [part_cells k3 (by omega), hds', mid_elem f3 f4 off ti.ty.size hle] at hld
          refine ⟨G, _, _, by rw [j4]; simp only [Instr.loadAt, Instr.sureAddr, pure_bind]; exact hld, ?_, hk3⟩
          refine h.put (d := some dst) (fun e he => by injection he with he; rw [← he]; exact hd) ?_
          obtain ⟨k4, k5⟩ := midC_sound (G := G) (obj := st.obj) (leavesOf_sound d.ty _ _ f5.1) hm
          refine mkAV_sound k4 ?_
          intro hg
          rw [Ty.size_of_not_agg _ hg] at k5 ⊢
          simp only [List.length_take, List.length_drop]; omega
        · cases hk3
    · cases hk
  · cases hk

theorem isSlTy_size {t : Ty} (h : isSlTy t = true) : t.size = 1 ∧ t.agg = false := by
  cases t <;> first | (cases h; done) | exact ⟨rfl, rfl⟩

theorem objD_rowOf {tid : Nat} {e : DTy} {ys : List e.ty.den} : rowOf (objD tid e ys) = some (e.ty, List.length ys) := by
  unfold objD
  cases e.ty.flat <;> rfl

theorem objD_ne {tid : Nat} {e : DTy} {ys : List e.ty.den} : objD tid e ys ≠ .none ∧ ∀ ls, objD tid e ys ≠ .box ls := by
  unfold objD
  cases e.ty.flat <;> simp

theorem loadOpn_sound (hT : TabOk P C.Θ) (h : Rel N w0 p0 Bs G st a w) {T dst : Nat} (hd : dst < N) {x : AV} {u : Value} (hu : RV w (reg w0 p0 Bs G st.obj) G st.obj x u) {R : Type} {k : St → Option R} {r : R} (hk : loadOpn C st T dst x k = some r) :
    ∃ G' st' y, (Instr.loadAt T u).run P w = .ok y w ∧ Rel N w0 p0 Bs G' st' (a.put (some dst) y) w ∧ k st' = some r := by
  unfold loadOpn at hk
  split at hk
  · rename_i ti n i off ht
    have hty := hT T ti ht
    split at hk
    · rename_i tid d xs ho
      obtain ⟨hc, hk2⟩ := cond_some hk
      simp only [Bool.and_eq_true] at hc
      obtain ⟨⟨hsl, hlt⟩, hdn⟩ := hc
      have hlt : off < d.ty.size := Nat.le_of_ble_eq_true hlt
      have hdn : dst * 16 ≠ n := fun e => by rw [e] at hdn; simp at hdn
      obtain ⟨hs1, hs2⟩ := isSlTy_size hsl
      cases hix : idx xs i with
      | none => rw [hix] at hk2; cases hk2
      | some e0 =>
        rw [hix] at hk2
        simp only [Option.bind_some] at hk2
        obtain ⟨hi0, hi1⟩ := idx_some hix
        obtain ⟨hi2, rfl⟩ := List.getElem?_eq_some_iff.1 hi1
        split at hk2
        · rename_i q hq
          split at hk2
          · rename_i hnone
            obtain ⟨v1, h1, _, h3, h4⟩ := hu
            simp only [List.cons.injEq, and_true] at h1
            subst h1
            obtain ⟨j1, j2, b, j3, j4⟩ := h4 d.ty (List.length xs) (by rw [ho]; rfl)
            have hO := h.objs n
            rw [ho] at hO
            obtain ⟨hn, ds, ds', g1, g2, g3⟩ := hO
            have g2 : ds' = ds := g2
            subst g2
            obtain ⟨cs1, c, cs2, bs1, bb, bs2, hds', hex, f3, f4, f5, f6⟩ := ElsR_at xs 0 ds' (G.ex n) g3 i.toNat hi2
            have f5 : DRep w d xs[i.toNat] c bb := f5
            obtain ⟨b1, b2, ad, cp, es, bi, rfl, m2, m3, m4, m5⟩ := slAt_sound d _ off q hq c bb f5
            have g1' := g1
            rw [j3] at g1'
            obtain ⟨cells, k1, k2, k3⟩ := own_cells g1'
            have hdl : ds'.length = i.toNat * d.ty.size + (d.ty.size + cs2.length) := by rw [hds']; simp [f3, f4]
            have hld := load_cells (w := w) hty (off := i.toNat * d.ty.size + off) k1 (by omega)
            have hone : (c.drop off).take 1 = [.slice ad (List.length q.ys) cp] := by
              obtain ⟨q1, q2⟩ := List.getElem?_eq_some_iff.1 m2
              rw [List.drop_eq_getElem_cons q1, q2]; rfl
            rw [part_cells k3 (by omega), hds', mid_elem f3 f4 off ti.ty.size (by omega), hs2, hs1, hone] at hld
            simp only [Bool.false_eq_true, if_false, List.headD_cons] at hld
            -- the new state
            let D := dst * 16
            let ex' := (bs1 ++ b1) ++ (b2 ++ bs2)
            let G' : Gh := { G with hd := fun m => if m = D then (ad, cp) else G.hd m, ex := fun m => if m = D then bi else if m = n then ex' else G.ex m }
            let obj' := setO (setO st.obj n (.deep tid d none (xs.set i.toNat (q.set [])) (some (i, off, D)))) D (objD q.tid q.e q.ys)
            have on : obj' n = .deep tid d none (xs.set i.toNat (q.set [])) (some (i, off, D)) := by simp only [obj']; rw [setO_other _ _ (Ne.symm hdn), setO_same]
            have oD : obj' D = objD q.tid q.e q.ys := by simp only [obj']; rw [setO_same]
            have oo : ∀ m, m ≠ D → m ≠ n → obj' m = st.obj m := fun m h1 h2 => by simp only [obj']; rw [setO_other _ _ h1, setO_other _ _ h2]
            have hhn : G'.hd n = G.hd n := by simp only [G']; rw [if_neg (Ne.symm hdn)]
            have hhD : G'.hd D = (ad, cp) := by simp [G']
            have hen : G'.ex n = ex' := by show (if n = dst * 16 then bi else if n = n then ex' else G.ex n) = ex'; rw [if_neg (Ne.symm hdn)]; simp
            have heD : G'.ex D = bi := by simp [G']
            have hho : ∀ m, m ≠ D → G'.hd m = G.hd m := fun m h1 => by simp [G', h1]
            have heo : ∀ m, m ≠ D → m ≠ n → G'.ex m = G.ex m := fun m h1 h2 => by simp [G', h1, h2]
            have hex' : G.ex n = (bs1 ++ b1) ++ ((ablk ad ++ bi) ++ (b2 ++ bs2)) := by rw [hex]; simp
            rw [hex', ← List.append_assoc] at hn
            obtain ⟨hn1, hn2, hn3⟩ := nodup_out hn
            have bn : ∀ z, blk G' obj' n z ↔ z ∈ ablk (G.hd n).1 ++ ex' := fun z => by rw [blk_deep on, hhn, hen]
            have bD : ∀ z, blk G' obj' D z ↔ z ∈ ablk ad ++ bi := fun z => by
              cases hf : q.e.ty.flat with
              | true =>
                have : bi = [] := DRepL.nil_flat hf q.ys es bi m4
                have hr : obj' D = .row q.tid q.e.ty q.ys := by rw [oD]; unfold objD; rw [hf]
                rw [blk_row hr, hhD, this, List.append_nil, mem_ablk]
              | false =>
                have hr : obj' D = .deep q.tid q.e none q.ys none := by rw [oD]; unfold objD; rw [hf]
                rw [blk_deep hr, hhD, heD]
            have bo : ∀ m, m ≠ D → m ≠ n → ∀ z, blk G' obj' m z ↔ blk G st.obj m z := fun m h1 h2 z => by
              unfold blk
              rw [oo m h1 h2, hho m h1, heo m h1 h2]
            have toN : ∀ z, z ∈ ablk ad ++ bi ∨ z ∈ ablk (G.hd n).1 ++ ex' → blk G st.obj n z := fun z hz => by
              rw [blk_deep ho, hex']
              simp only [ex', List.mem_append] at hz ⊢
              rcases hz with (hz | hz) | hz | (hz | hz) | hz | hz <;> simp [hz]
            have hold : ∀ m z, blk G' obj' m z → ∃ m0, blk G st.obj m0 z ∧ ((m0 = n ∧ (m = D ∨ m = n)) ∨ (m0 = m ∧ m ≠ D ∧ m ≠ n)) := fun m z hz => by
              by_cases e1 : m = D
              · subst e1; exact ⟨n, toN z (.inl ((bD z).1 hz)), .inl ⟨rfl, .inl rfl⟩⟩
              · by_cases e2 : m = n
                · subst e2; exact ⟨m, toN z (.inr ((bn z).1 hz)), .inl ⟨rfl, .inr rfl⟩⟩
                · exact ⟨m, (bo m e1 e2 z).1 hz, .inr ⟨rfl, e1, e2⟩⟩
            have hdis : ∀ z, blk G' obj' D z → ¬ blk G' obj' n z := fun z h1 h2 => by
              refine hn3 z ((bD z).1 h1) ?_
              have := (bn z).1 h2
              simp only [ex', List.mem_append] at this ⊢
              rcases this with k | (k | k) | k | k <;> simp [k]
            have hhole : ds'.set (i.toNat * d.ty.size + off) (.slice none 0 0) = cs1 ++ (c.set off (.slice none 0 0) ++ cs2) := by
              rw [hds', List.set_append_right _ _ (by omega), f3, Nat.add_sub_cancel_left, List.set_append_left _ _ (by omega)]
            have hnew := f6 none (q.set []) _ _ (fun _ _ => rfl) (m5 [] none 0 [] [] ⟨by simp, .inl ⟨rfl, rfl⟩⟩ ⟨rfl, rfl⟩)
            have hxe : bs1 ++ (b1 ++ (ablk none ++ [] ++ b2) ++ bs2) = ex' := by simp [ablk, ex']
            simp only [List.length_nil] at hnew
            rw [hxe, ← hhole] at hnew
            have hupd := h.upd (w' := w) (G' := G') (obj' := obj') rfl rfl rfl (Nat.le_refl _) (fun _ _ _ => rfl) ?_ ?_ ?_ ?_ ?_ ?_ ?_
            · refine ⟨G', _, .slice ad (List.length q.ys) cp, by rw [j4]; simp only [Instr.loadAt, Instr.sureAddr, pure_bind]; exact hld, ?_, hk2⟩
              refine hupd.1.put (d := some dst) (fun e he => by injection he with he; rw [← he]; exact hd) (x := .sc (.hdr (dst * 16))) ?_
              refine ⟨_, rfl, rfl, by show obj' D ≠ _; rw [oD]; exact objD_ne.1, fun e' l' hx => ?_⟩
              have hx : rowOf (obj' D) = _ := hx
              rw [oD, objD_rowOf] at hx
              simp only [Option.some.injEq, Prod.mk.injEq] at hx
              show _ = Value.slice (G'.hd D).1 _ (G'.hd D).2
              rw [hhD, ← hx.2]
            · intro m z hz _
              obtain ⟨m0, k, _⟩ := hold m z hz
              exact ⟨m0, k⟩
            · intro m hm
              by_cases e1 : m = D
              · subst e1; rw [oD]; exact objD_ne.1
              · by_cases e2 : m = n
                · subst e2; rw [on]; simp
                · rw [oo m e1 e2]; exact hm
            · intro m e l hx hne
              by_cases e1 : m = D
              · subst e1; exact absurd hnone hne
              · by_cases e2 : m = n
                · subst e2
                  rw [on] at hx
                  refine ⟨?_, hhn⟩
                  rw [ho]
                  simpa [rowOf] using hx
                · exact ⟨by rw [← oo m e1 e2]; exact hx, hho m e1⟩
            · intro m ls hx hne
              by_cases e1 : m = D
              · subst e1; exact absurd hnone hne
              · by_cases e2 : m = n
                · subst e2
                  rw [on] at hx
                  cases hx
                · exact ⟨⟨ls, by rw [← oo m e1 e2]; exact hx⟩, rfl⟩
            · intro tr m
              by_cases e1 : m = D
              · subst e1
                rw [oD]
                cases hf : q.e.ty.flat with
                | true =>
                  have : bi = [] := DRepL.nil_flat hf q.ys es bi m4
                  subst this
                  show RO _ _ _ _ _ (match q.e.ty.flat with | true => _ | false => _)
                  rw [hf]
                  exact ⟨es, by rw [hhD]; exact m3, ElsR.rep (k := none) q.ys 0 es [] (fun _ hb => by cases hb) ((ElsR_all q.ys 0 es []).2 m4)⟩
                | false =>
                  show RO _ _ _ _ _ (match q.e.ty.flat with | true => _ | false => _)
                  rw [hf]
                  exact ⟨by rw [hhD, heD]; exact hn1, es, es, by rw [hhD]; exact m3, rfl, by rw [heD]; exact (ElsR_all q.ys 0 es bi).2 m4⟩
              · by_cases e2 : m = n
                · subst e2
                  rw [on]
                  refine ⟨?_, ds', _, by rw [hhn]; simpa using g1, ⟨hi0, .slice ad (List.length q.ys) cp, ?_, ?_, rfl⟩, ?_⟩
                  · rw [hhn, hen]
                    simp only [ex']
                    rw [← List.append_assoc]; exact hn2
                  · rw [hds', List.getElem?_append_right (by omega), f3, Nat.add_sub_cancel_left, List.getElem?_append_left (by omega)]; exact m2
                  · refine ⟨_, rfl, rfl, by rw [oD]; exact objD_ne.1, fun e' l' hx => ?_⟩
                    rw [oD, objD_rowOf] at hx
                    simp only [Option.some.injEq, Prod.mk.injEq] at hx
                    rw [hhD, ← hx.2]
                  · rw [hen]
                    exact ElsR.keep tr.reg _ 0 _ _ (fun _ _ => rfl) hnew
                · rw [oo m e1 e2]
                  exact RO.kept tr rfl (hho m e1) rfl (heo m e1 e2) (fun _ _ => rfl) (h.objs m)
            · intro m m' z h1 h2
              obtain ⟨m0, k1, k2⟩ := hold m z h1
              obtain ⟨m1, k3, k4⟩ := hold m' z h2
              have := h.inj m0 m1 z k1 k3
              subst this
              rcases k2 with ⟨rfl, k2⟩ | ⟨rfl, k2⟩ <;> rcases k4 with ⟨k4, k5⟩ | ⟨k4, k5⟩
              · rcases k2 with rfl | rfl <;> rcases k5 with k5 | k5
                · exact k5.symm
                · subst k5; exact absurd h2 (hdis z h1)
                · subst k5; exact absurd h1 (hdis z h2)
                · exact k5.symm
              · exact absurd k4.symm k5.2
              · exact absurd k4 k2.2
              · exact k4
            · intro m z hz
              obtain ⟨m0, k, _⟩ := hold m z hz
              exact h.bound m0 z k
          · cases hk2
        · cases hk2
    · cases hk
  · cases hk

/-- A new row with rows of its own. -/
theorem Rel.newDeep (h : Rel N w0 p0 Bs G st a w) {d : Nat} (hd : d < N) (ho : st.obj (d * 16) = .none) {w' : World} {obj1 : Nat → AObj} (h1 : ∀ m, obj1 m = st.obj m ∨ (st.obj m ≠ .none ∧ obj1 m = .dead))
    {tid : Nat} {e : DTy} {xs : List e.ty.den} {ad : Option Addr} {c : Nat} {ds : List Value} {ex : List Nat}
    (hown : w'.ownsRow 0 tid e.ty.size (.slice ad (List.length xs) c) (List.length xs) ds) {row : Option Nat} (hg : w.grownBy w' row)
    (hrow : ∀ b, row = some b → ∃ m0, blk G st.obj m0 b ∧ obj1 m0 = .dead)
    (hnew : ∀ b, ad.map (·.block) = some b → w.heap.size ≤ b ∨ row = some b)
    (hex : ∀ b ∈ ex, (∃ m0, blk G st.obj m0 b ∧ obj1 m0 = .dead) ∧ row ≠ some b) (hnd : ex.Nodup) (hel : DRepL (DRep w e) xs ds ex) :
    ∃ G', Rel N w0 p0 Bs G' ({ st with obj := setO obj1 (d * 16) (.deep tid e none xs none) }.put (some d) (.sc (.hdr (d * 16)))) (a.put (some d) (.slice ad (List.length xs) c)) w' := by
  have hlt : ∀ b, ad.map (·.block) = some b → b < w'.heap.size := by
    intro b hq
    have := hown.lt b
    cases ad with
    | none => cases hq
    | some ad =>
      simp only [Option.map_some, Option.some.injEq] at hq
      exact (this (by simp [Value.ownBlock, hq])).2
  obtain ⟨G', q1, q2⟩ := h.newObj ho h1 (w' := w') (o := .deep tid e none xs none) (ad := ad) (c := c) (ex := ex) (by simp) (fun G2 g1 g2 b hb => by
      rw [blk_deep (setO_same _ _ _), g1, g2, List.mem_append, mem_ablk] at hb
      exact hb) hg hrow (fun b hb => ⟨hlt b hb, hnew b hb⟩) (fun b hb => (hex b hb).1) (fun G2 obj2 w2 p2 g1 g2 e2 k1 _ k3 => by
      subst e2
      refine ⟨?_, ds, ds, by rw [g1]; exact hown, rfl, ?_⟩
      · rw [g1, g2, List.nodup_append]
        refine ⟨ablk_nodup _, hnd, fun x hx y hy exy => ?_⟩
        subst exy
        obtain ⟨⟨m0, j1, _⟩, j2⟩ := hex x hy
        rcases hnew x (mem_ablk.1 hx) with j3 | j3
        · have := (h.bound m0 x j1).1; omega
        · exact j2 j3
      · rw [g2]
        refine (ElsR_all xs 0 ds ex).2 (hel.mono fun x c b hb hr => DRep.keep e x c b (fun z hz => k3 z (hb z hz) (hex z (hb z hz)).2) hr))
  refine ⟨G', q1.put (d := some d) (fun e he => by injection he with he; rw [← he]; exact hd) ?_⟩
  refine ⟨_, rfl, rfl, by simp [setO_same], fun e' l' hx => ?_⟩
  have hx : rowOf (setO obj1 (d * 16) (.deep tid e none xs none) (d * 16)) = _ := hx
  rw [setO_same] at hx
  simp only [rowOf, Option.some.injEq, Prod.mk.injEq] at hx
  rw [q2, ← hx.2]

end
end Go.Vx
