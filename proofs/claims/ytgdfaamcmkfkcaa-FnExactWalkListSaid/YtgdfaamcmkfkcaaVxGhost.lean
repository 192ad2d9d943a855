/-
  What turns nothing in memory: rows within rows, read another way.
-/
import Derived.Test.YtgdfaamcmkfkcaaVxDeep
set_option linter.unusedSimpArgs false
set_option linter.unusedVariables false
set_option linter.unnecessarySimpa false
namespace Go.Vx
section
variable {P : Program} {C : Cfg} {N : Nat} {w0 : World} {p0 Bs : Nat → Prop} {G : Gh} {st : St} {a : Act} {w : World}

theorem nodup_ins {x y M : List Nat} (h : (x ++ y).Nodup) (hM : M.Nodup) (hd : ∀ z ∈ M, z ∉ x ++ y) : (x ++ (M ++ y)).Nodup := by
  have hp : (x ++ (M ++ y)).Perm (M ++ (x ++ y)) := by
    rw [← List.append_assoc, ← List.append_assoc]
    exact List.Perm.append_right y List.perm_append_comm
  rw [hp.nodup_iff, List.nodup_append]
  exact ⟨hM, h, fun a ha b hb e => hd a ha (e ▸ hb)⟩

theorem nodup_del {x y M : List Nat} (h : (x ++ (M ++ y)).Nodup) : (x ++ y).Nodup := by
  have hp : (x ++ (M ++ y)).Perm (M ++ (x ++ y)) := by
    rw [← List.append_assoc, ← List.append_assoc]
    exact List.Perm.append_right y List.perm_append_comm
  rw [hp.nodup_iff, List.nodup_append] at h
  exact h.2.1

theorem ablk_nodup (a : Option Addr) : (ablk a).Nodup := by cases a <;> simp [ablk]

theorem DRepL.nil_len {α : Type} {R : α → List Value → List Nat → Prop} {xs : List α} {cs : List Value} {bs : List Nat} (h : DRepL R xs cs bs) (hl : List.length xs = 0) : xs = [] ∧ cs = [] ∧ bs = [] := by
  cases xs with
  | nil => exact ⟨rfl, h.1, h.2⟩
  | cons x xs => simp at hl

theorem rowD_live {tid : Nat} {e : DTy} {o : AObj} {ys : List e.ty.den} (h : rowD tid e o = some ys) : o ≠ .none := by
  intro ho; rw [ho] at h; simp [rowD] at h

theorem blk_row {n tid : Nat} {e : Ty} {xs : List e.den} {obj : Nat → AObj} {G : Gh} (ho : obj n = .row tid e xs) (b : Nat) : blk G obj n b ↔ (G.hd n).1.map (·.block) = some b := by
  simp only [blk, ho]

theorem blk_deep {n tid : Nat} {d : DTy} {k : Option Int} {xs : List d.ty.den} {hh : Option (Int × Nat × Nat)} {obj : Nat → AObj} {G : Gh} (ho : obj n = .deep tid d k xs hh) (b : Nat) : blk G obj n b ↔ b ∈ ablk (G.hd n).1 ++ G.ex n := by
  simp only [blk, ho, List.mem_append, mem_ablk]

/-- An object is read another way; it may take over what others held, who die. -/
theorem Rel.reread (h : Rel N w0 p0 Bs G st a w) {n : Nat} {obj1 : Nat → AObj} {o : AObj} {ex : List Nat}
    (h1 : ∀ m, m ≠ n → obj1 m = st.obj m ∨ (st.obj m ≠ .none ∧ obj1 m = .dead))
    (hne : st.obj n ≠ .none) (ho : o ≠ .none) (hro : rowOf o = rowOf (st.obj n)) (hbx : ∀ ls, o ≠ .box ls)
    (hb : ∀ b, blk { G with ex := fun m => if m = n then ex else G.ex m } (setO obj1 n o) n b → ∃ m0, blk G st.obj m0 b ∧ (m0 = n ∨ obj1 m0 = .dead))
    (hRO : ∀ (p' : Nat → Prop) obj2, (∀ b, reg w0 p0 Bs G st.obj b → p' b) → (∀ b, blk G st.obj n b → ¬ blk { G with ex := fun m => if m = n then ex else G.ex m } (setO obj1 n o) n b → p' b) → (∀ m cs, RL w (reg w0 p0 Bs G st.obj) G st.obj (.hdr m) cs → RL w p' { G with ex := fun m => if m = n then ex else G.ex m } obj2 (.hdr m) cs) → RO w p' { G with ex := fun m => if m = n then ex else G.ex m } obj2 n o) :
    ∃ G', Rel N w0 p0 Bs G' { st with obj := setO obj1 n o } a w := by
  refine ⟨{ G with ex := fun m => if m = n then ex else G.ex m }, (h.step (w' := w) (G' := { G with ex := fun m => if m = n then ex else G.ex m }) (obj' := setO obj1 n o) (n := n) rfl rfl rfl (Nat.le_refl _) (fun _ _ _ _ => rfl) ?_ (by rw [setO_same]; exact ho) ?_ ?_ ?_).1⟩
  · intro m hm
    rw [setO_other _ _ hm]
    rcases h1 m hm with k | k
    · exact .inl ⟨k, rfl, rfl, by simp [hm]⟩
    · exact .inr k
  · intro _
    rw [setO_same]
    exact ⟨fun e l hq => ⟨by rw [← hro]; exact hq, rfl⟩, fun ls hq => absurd hq (hbx ls)⟩
  · intro b hq
    obtain ⟨m0, k1, k2⟩ := hb b hq
    refine ⟨(h.bound m0 b k1).1, .inr ⟨m0, k1, ?_⟩⟩
    rcases k2 with k2 | k2
    · exact .inl k2
    · by_cases e : m0 = n
      · exact .inl e
      · exact .inr (by rw [setO_other _ _ e]; exact k2)
  · intro tr
    rw [setO_same]
    refine hRO _ _ (fun b hr => ?_) (fun b hb hnb => ?_) (fun m cs hl => RL.mono tr (.hdr m) cs hl)
    · refine ⟨hr.1, fun m hm => ?_⟩
      by_cases e : m = n
      · subst e
        obtain ⟨m0, k1, _⟩ := hb b hm
        exact hr.2 m0 k1
      · simp only [blk, setO_other _ _ e] at hm
        rcases h1 m e with k | ⟨_, k⟩
        · rw [k] at hm
          exact hr.2 m (by simpa [blk, e] using hm)
        · rw [k] at hm; exact hm
    · refine ⟨?_, fun m hm => ?_⟩
      · rcases (h.bound n b hb).2 with k | k
        · exact .inr (.inl k)
        · exact .inr (.inr k)
      · by_cases e : m = n
        · subst e; exact hnb hm
        · simp only [blk, setO_other _ _ e] at hm
          rcases h1 m e with k | ⟨_, k⟩
          · rw [k] at hm
            exact e (h.inj m n b (by simpa [blk, e] using hm) hb)
          · rw [k] at hm; exact hm

theorem ghost_sound (h : Rel N w0 p0 Bs G st a w) {g : Gst} {R : Type} {k : St → Option R} {r : R} (hk : ghost st g k = some r) : ∃ G' st', Rel N w0 p0 Bs G' st' a w ∧ k st' = some r := by
  cases g with
  | freeze n =>
    simp only [ghost] at hk
    split at hk
    · rename_i tid d kk xs ho
      have hO := h.objs n
      rw [ho] at hO
      obtain ⟨hn, ds, ds', h1, h2, h3⟩ := hO
      have h2 : ds' = ds := h2
      subst h2
      obtain ⟨G', hG⟩ := h.reread (n := n) (obj1 := st.obj) (o := .row tid d.ty xs) (ex := G.ex n) (fun m _ => .inl rfl) (by rw [ho]; simp) (by simp) (by rw [ho]; rfl) (by simp) (fun b hb => by
          rw [blk_row (setO_same _ _ _)] at hb
          exact ⟨n, (blk_deep ho b).2 (List.mem_append_left _ (mem_ablk.2 hb)), .inl rfl⟩) (fun p' obj2 hp hq _ => by
          refine ⟨ds', h1, ElsR.rep xs 0 ds' (G.ex n) (fun b hb => hq b ((blk_deep ho b).2 (List.mem_append_right _ hb)) fun hb2 => ?_) (ElsR.keep (fun b hb _ => ⟨hp b hb, rfl⟩) xs 0 ds' _ (fun _ _ => rfl) h3)⟩
          rw [blk_row (setO_same _ _ _)] at hb2
          exact (List.nodup_append.1 hn).2.2 b (mem_ablk.2 hb2) b hb rfl)
      exact ⟨G', _, hG, hk⟩
    · cases hk
  | part n d =>
    simp only [ghost] at hk
    split at hk
    · rename_i tid e xs ho
      split at hk
      · rename_i ys hc
        obtain ⟨he, hz⟩ := castL_some hc
        subst he
        have hz : xs = ys := hz
        subst hz
        have hO := h.objs n
        rw [ho] at hO
        obtain ⟨ds, h1, h3⟩ := hO
        obtain ⟨G', hG⟩ := h.reread (n := n) (obj1 := st.obj) (o := .deep tid d (some 0) xs none) (ex := []) (fun m _ => .inl rfl) (by rw [ho]; simp) (by simp) (by rw [ho]; rfl) (by simp) (fun b hb => by
            rw [blk_deep (setO_same _ _ _)] at hb
            simp only [if_true, List.append_nil] at hb
            exact ⟨n, (blk_row ho b).2 (mem_ablk.1 hb), .inl rfl⟩) (fun p' obj2 hp hq _ => by
            refine ⟨by simpa using ablk_nodup _, ds, ds, h1, rfl, ?_⟩
            simp only [if_true]
            exact ElsR_shared xs 0 ds (h3.mono fun x c _ hr => Rep.mono (fun b hb _ => ⟨hp b hb, rfl⟩) d.ty x c hr))
        exact ⟨G', _, hG, hk⟩
      · cases hk
    · cases hk
  | full n =>
    simp only [ghost] at hk
    split at hk
    · rename_i tid d z xs ho
      obtain ⟨hz, hk2⟩ := cond_some hk
      have hO := h.objs n
      rw [ho] at hO
      obtain ⟨hn, ds, ds', h1, h2, h3⟩ := hO
      have h2 : ds' = ds := h2
      subst h2
      obtain ⟨G', hG⟩ := h.reread (n := n) (obj1 := st.obj) (o := .deep tid d none xs none) (ex := G.ex n) (fun m _ => .inl rfl) (by rw [ho]; simp) (by simp) (by rw [ho]; rfl) (by simp) (fun b hb => by
          rw [blk_deep (setO_same _ _ _)] at hb
          simp only [if_true] at hb
          exact ⟨n, (blk_deep ho b).2 hb, .inl rfl⟩) (fun p' obj2 hp hq _ => by
          refine ⟨by simpa using hn, ds', ds', h1, rfl, ?_⟩
          simp only [if_true]
          exact ElsR_full xs 0 ds' _ (by simpa using of_decide_eq_true hz) (ElsR.keep (fun b hb _ => ⟨hp b hb, rfl⟩) xs 0 ds' _ (fun _ _ => rfl) h3))
      exact ⟨G', _, hG, hk2⟩
    · cases hk
  | close n =>
    simp only [ghost] at hk
    split at hk
    · rename_i tid d xs i off m ho
      cases hix : idx xs i with
      | none => rw [hix] at hk; cases hk
      | some x =>
        rw [hix] at hk
        simp only [Option.bind_some] at hk
        obtain ⟨hi0, hi1⟩ := idx_some hix
        obtain ⟨hi2, rfl⟩ := List.getElem?_eq_some_iff.1 hi1
        split at hk
        · rename_i q hsl
          split at hk
          · rename_i ys hys
            obtain ⟨hmn, hk2⟩ := cond_some hk
            have hmn : m ≠ n := fun e => by subst e; simp at hmn
            have hO := h.objs n
            rw [ho] at hO
            obtain ⟨hn, ds, ds', h1, ⟨_, v, e1, e2, e3⟩, h3⟩ := hO
            obtain ⟨cs1, c, cs2, bs1, b, bs2, rfl, hex, f3, f4, f5, f6⟩ := ElsR_at xs 0 ds' (G.ex n) h3 i.toNat hi2
            have f5 : DRep w d xs[i.toNat] c b := f5
            obtain ⟨b1, b2, a0, cp, dq, bi, rfl, g2, g3, g4, g5⟩ := slAt_sound d _ off q hsl c b f5
            obtain ⟨hv, dz, bz, j1, j2, j3, j4⟩ := rowD_sound (h.objs m) hys e2
            simp only [List.cons.injEq, and_true] at hv
            have hoff : off < c.length := (List.getElem?_eq_some_iff.1 g2).1
            have hlen : i.toNat * d.ty.size + off < (cs1 ++ (c ++ cs2)).length := by simp only [List.length_append]; omega
            have hcell : (cs1 ++ (c ++ cs2))[i.toNat * d.ty.size + off]? = some (.slice none 0 0) := by
              rw [e3] at hlen ⊢
              rw [List.getElem?_set_self (by simpa using hlen)]
            rw [List.getElem?_append_right (by omega), f3, Nat.add_sub_cancel_left, List.getElem?_append_left hoff, g2] at hcell
            simp only [Option.some.injEq, Value.slice.injEq] at hcell
            obtain ⟨rfl, hl0, _⟩ := hcell
            obtain ⟨_, _, rfl⟩ := DRepL.nil_len g4 hl0
            have hnew := f6 none (q.set ys) _ _ (fun _ _ => rfl) (g5 ys (G.hd m).1 (G.hd m).2 dz bz j1 j2)
            have hds : cs1 ++ (c.set off (.slice (G.hd m).1 (List.length ys) (G.hd m).2) ++ cs2) = ds := by
              have k1 : cs1 ++ (c.set off (.slice (G.hd m).1 (List.length ys) (G.hd m).2) ++ cs2) = (cs1 ++ (c ++ cs2)).set (i.toNat * d.ty.size + off) (.slice (G.hd m).1 (List.length ys) (G.hd m).2) := by
                rw [List.set_append_right _ _ (by omega), f3, Nat.add_sub_cancel_left, List.set_append_left _ _ hoff]
              rw [k1, e3, List.set_set, ← hv]
              obtain ⟨q1, q2⟩ := List.getElem?_eq_some_iff.1 e1
              rw [← q2, List.set_getElem_self]
            rw [hds, ← j3] at hnew
            have hex' : G.ex n = (bs1 ++ b1) ++ (b2 ++ bs2) := by rw [hex]; simp [ablk]
            have hx2 : bs1 ++ (b1 ++ (blkL G st.obj m ++ b2) ++ bs2) = (bs1 ++ b1) ++ (blkL G st.obj m ++ (b2 ++ bs2)) := by simp
            rw [hx2] at hnew
            obtain ⟨G', hG⟩ := h.reread (n := n) (obj1 := setO st.obj m .dead) (o := .deep tid d none (xs.set i.toNat (q.set ys)) none) (ex := (bs1 ++ b1) ++ (blkL G st.obj m ++ (b2 ++ bs2))) (fun m' _ => by
                by_cases e : m' = m
                · subst e; exact .inr ⟨rowD_live hys, setO_same _ _ _⟩
                · exact .inl (setO_other _ _ e)) (by rw [ho]; simp) (by simp) (by rw [ho]; simp [rowOf]) (by simp) (fun z hz => by
                rw [blk_deep (setO_same _ _ _)] at hz
                simp only [if_true, List.mem_append] at hz
                have : z ∈ ablk (G.hd n).1 ++ G.ex n ∨ z ∈ blkL G st.obj m := by
                  rw [hex']; simp only [List.mem_append]
                  rcases hz with hz | (hz | hz) | hz | hz | hz
                  · exact .inl (.inl hz)
                  · exact .inl (.inr (.inl (.inl hz)))
                  · exact .inl (.inr (.inl (.inr hz)))
                  · exact .inr hz
                  · exact .inl (.inr (.inr (.inl hz)))
                  · exact .inl (.inr (.inr (.inr hz)))
                rcases this with k | k
                · exact ⟨n, (blk_deep ho z).2 k, .inl rfl⟩
                · exact ⟨m, blkL_blk k, .inr (setO_same _ _ _)⟩) (fun p' obj2 hp hq _ => by
                refine ⟨?_, ds, ds, by simpa using h1, rfl, ?_⟩
                · simp only [if_true]
                  rw [hex', ← List.append_assoc] at hn
                  rw [← List.append_assoc]
                  refine nodup_ins hn j4 fun z hz hz2 => ?_
                  rw [List.append_assoc, ← hex'] at hz2
                  exact hmn (h.inj m n z (blkL_blk hz) ((blk_deep ho z).2 hz2))
                · simp only [if_true]
                  exact ElsR.keep (fun b hb _ => ⟨hp b hb, rfl⟩) _ 0 ds _ (fun _ _ => rfl) hnew)
            exact ⟨G', _, hG, hk2⟩
          · cases hk
        · cases hk
    · cases hk

theorem ghosts_sound {R : Type} {k : St → Option R} {r : R} : ∀ (gs : List Gst) {G : Gh} {st : St} (h : Rel N w0 p0 Bs G st a w) (hk : ghosts gs st k = some r), ∃ G' st', Rel N w0 p0 Bs G' st' a w ∧ k st' = some r
  | [], G, st, h, hk => ⟨G, st, h, hk⟩
  | g :: gs, G, st, h, hk => by
    obtain ⟨G1, st1, h1, k1⟩ := ghost_sound h (g := g) hk
    exact ghosts_sound gs h1 k1

end
end Go.Vx
