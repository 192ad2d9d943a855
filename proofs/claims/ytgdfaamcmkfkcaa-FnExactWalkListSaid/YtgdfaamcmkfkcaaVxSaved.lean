/-
  Saving a state and building it anew.
-/
import Derived.Test.YtgdfaamcmkfkcaaVxBuild
set_option linter.unusedSimpArgs false
set_option linter.unusedVariables false
set_option linter.unnecessarySimpa false
namespace Go.Vx
section
variable {N : Nat} {w0 : World} {p0 Bs : Nat → Prop} {G : Gh} {st : St} {a : Act} {w : World}

theorem blk_live {G : Gh} {obj : Nat → AObj} {n b : Nat} (h : blk G obj n b) : live (obj n) = true := by
  unfold blk at h
  cases ho : obj n with
  | box _ => rfl
  | row _ _ _ => rfl
  | deep _ _ _ _ _ => rfl
  | none => rw [ho] at h; cases h
  | dead => rw [ho] at h; cases h

theorem allRows_row {obj : Nat → AObj} : ∀ {ns : List Nat}, allRows obj ns = true → ∀ m ∈ ns, live (obj m) = true
  | [], _, _, hm => by cases hm
  | n :: ns, h, m, hm => by
    simp only [allRows] at h
    split at h
    · rename_i t e xs hx
      rcases List.mem_cons.1 hm with rfl | hm
      · rw [hx]; rfl
      · exact allRows_row h m hm
    · rename_i hx
      rcases List.mem_cons.1 hm with rfl | hm
      · rw [hx]; rfl
      · exact allRows_row h m hm
    · cases h

theorem ownAt_some {G : Gh} {obj0 : Nat → AObj} {T : List (Option Nat)} {tk : Tk} (hI : TkI obj0 (T.filterMap id) tk) {z : Option Nat} (hz : z ∈ T) {b : Nat} (hb : (ownAt G obj0 z).blk b) :
    ∃ n, z = some n ∧ n ∈ T.filterMap id ∧ blk G obj0 n b := by
  cases z with
  | none => cases hb
  | some n =>
    have hn : n ∈ T.filterMap id := List.mem_filterMap.2 ⟨some n, hz, rfl⟩
    refine ⟨n, rfl, hn, ?_⟩
    rw [← ownAt_blk (hI.taken n hn).1]; exact hb

theorem owns_ok {obj0 : Nat → AObj} (hinj : ∀ m n b, blk G obj0 m b → blk G obj0 n b → m = n) {T : List (Option Nat)} {tk : Tk} (hI : TkI obj0 (T.filterMap id) tk) :
    OwnsOk (T.map (ownAt G obj0)) := by
  unfold OwnsOk
  rw [List.pairwise_map]
  have h := hI.nodup
  rw [List.Nodup, List.pairwise_filterMap] at h
  refine h.imp_of_mem ?_
  intro x y hx hy hxy b h1 h2
  obtain ⟨n, rfl, _, h3⟩ := ownAt_some hI hx h1
  obtain ⟨m, rfl, _, h4⟩ := ownAt_some hI hy h2
  exact hxy n rfl m rfl (hinj n m b h3 h4)

/-- What holds of the owners that are handed over. -/
structure Given (w0 : World) (p0 Bs : Nat → Prop) (w : World) (q : Nat → Prop) (os : List Own) : Prop where
  ok : OwnsOk os
  out : ∀ o ∈ os, ∀ b, o.blk b → ¬ q b ∧ b < w.heap.size ∧ (Bs b ∨ w0.heap.size ≤ b)
  reg : ∀ b, q b → p0 b ∨ Bs b ∨ w0.heap.size ≤ b

theorem Rel.given (h : Rel N w0 p0 Bs G st a w) {nms : List (Option Nat)} {tk : Tk} (hI : TkI st.obj (nms.filterMap id) tk) (ha : allRows tk.obj tk.sh = true) :
    Given w0 p0 Bs w (withSh (Vx.reg w0 p0 Bs G st.obj) G st.obj tk.sh) (nms.map (ownAt G st.obj)) := by
  refine ⟨owns_ok h.inj hI, fun o ho b hb => ?_, fun b hb => ?_⟩
  · obtain ⟨z, hz, rfl⟩ := List.mem_map.1 ho
    obtain ⟨n, rfl, hn, h3⟩ := ownAt_some hI hz hb
    refine ⟨fun hq => ?_, h.bound n b h3⟩
    rcases hq with hq | ⟨m, hm, hmb⟩
    · exact hq.2 n h3
    · have := h.inj m n b hmb h3
      subst this
      have hx := allRows_row ha m hm
      rw [(hI.taken m hn).2] at hx; cases hx
  · rcases hb with hb | ⟨m, _, hmb⟩
    · exact hb.1
    · exact .inr (h.bound m b hmb).2

theorem Rel.saved (h : Rel N w0 p0 Bs G st a w) {env : Nat → AV} {V : Nat → Value} (hV : ∀ s, RV w (reg w0 p0 Bs G st.obj) G st.obj (env s) (V s)) {sh : List (Nat × SSh)} {x : HL (saveC sh)} {tk : Tk}
    (hs : save sh env ⟨st.obj, [], []⟩ = some (x, tk)) (ha : allRows tk.obj tk.sh = true) :
    ∃ nms, TkI st.obj (nms.filterMap id) tk ∧ IS w (withSh (reg w0 p0 Bs G st.obj) G st.obj tk.sh) sh x V (nms.map (ownAt G st.obj)) ∧
      Given w0 p0 Bs w (withSh (reg w0 p0 Bs G st.obj) G st.obj tk.sh) (nms.map (ownAt G st.obj)) ∧ (allV sh = true → lents (saveC sh) nms = tk.ios.reverse.map some) := by
  obtain ⟨nms, h1, h2, _, h4⟩ := save_sound (p := reg w0 p0 Bs G st.obj) (G := G) h.objs (withSh (reg w0 p0 Bs G st.obj) G st.obj tk.sh) hV sh [] ⟨st.obj, [], []⟩ x tk (TkI.start st.obj [] []) hs (fun b hb => hb)
  rw [List.nil_append] at h1
  refine ⟨nms, h1, h2, h.given h1 ha, fun hv => ?_⟩
  obtain ⟨ln, k1, k2⟩ := h4 hv
  rw [k2, k1]; simp

theorem pair_eq {os : List Own} (h : OwnsOk os) {E : List Ent} (hE : E.map (·.o) = os) {e e' : Ent} (he : e ∈ E) (he' : e' ∈ E) {b : Nat} (h1 : e.o.blk b) (h2 : e'.o.blk b) : e.n = e'.n := by
  subst hE
  unfold OwnsOk at h
  rw [List.pairwise_map] at h
  induction E with
  | nil => cases he
  | cons x E ih =>
    rw [List.pairwise_cons] at h
    rcases List.mem_cons.1 he with k1 | k1 <;> rcases List.mem_cons.1 he' with k2 | k2
    · rw [k1, k2]
    · subst k1; exact absurd h2 (h.1 e' k2 b h1)
    · subst k2; exact absurd h1 (h.1 e k1 b h2)
    · exact ih k1 k2 h.2

theorem loopN_sep : ∀ s s' n, s ≠ s' → loopN s ≤ n → n < loopN s + 16 → loopN s' ≤ n → n < loopN s' + 16 → False := by
  intro s s' n hne h1 h2 h3 h4
  unfold loopN at h1 h2 h3 h4
  omega

theorem build {os : List Own} {q : Nat → Prop} (hsize : a.tmps.size = N) (hdef : a.defers = []) (hfr : Fr w0 Bs w) {sh : List (Nat × SSh)} {x : HL (saveC sh)} (hd : shD 16 sh = true)
    (hIS : IS w q sh x (fun s => a.tmps.getD s undef) os) (hg : Given w0 p0 Bs w q os) : ∃ G, Rel N w0 p0 Bs G (restore loopN sh x emptySt) a w := by
  obtain ⟨E, e1, e2, e3, e4, e5, e6, e7⟩ := restore_sound loopN_sep emptySt sh x os hd hIS
  obtain ⟨G, g1, _⟩ := exists_gh E ⟨fun _ => (none, 0), fun _ => 0, fun _ => []⟩ emptySt.obj e5 e3
  rw [← e1] at g1
  have hnone : ∀ n, n ∉ E.map (·.n) → (restore loopN sh x emptySt).obj n = .none := fun n hn => by rw [e1, setE_other E _ n hn]; rfl
  have hent : ∀ n b, blk G (restore loopN sh x emptySt).obj n b → ∃ e ∈ E, e.n = n ∧ e.o.blk b := by
    intro n b hb
    by_cases hn : n ∈ E.map (·.n)
    · obtain ⟨e, he, rfl⟩ := List.mem_map.1 hn
      exact ⟨e, he, rfl, by rw [← (g1 e he).blk (e3 e he)]; exact hb⟩
    · simp only [blk, hnone n hn] at hb
  have hmem : ∀ e ∈ E, e.o ∈ os := fun e he => e2 ▸ List.mem_map_of_mem he
  have hreg : ∀ b, q b → reg w0 p0 Bs G (restore loopN sh x emptySt).obj b := by
    intro b hb
    refine ⟨hg.reg b hb, fun n hn => ?_⟩
    obtain ⟨e, he, _, h2⟩ := hent n b hn
    exact (hg.out _ (hmem e he) b h2).1 hb
  obtain ⟨k1, k2⟩ := e6 G _ _ hreg g1
  refine ⟨G, hsize, hdef, fun s => ?_, fun n => ?_, fun m n b h1 h2 => ?_, fun n b hb => ?_, hfr⟩
  · by_cases hs : ∃ z ∈ sh, z.1 = s
    · obtain ⟨z, hz, rfl⟩ := hs
      exact k2 z hz
    · rw [e7 s fun z hz e => hs ⟨z, hz, e⟩]; trivial
  · by_cases hn : n ∈ E.map (·.n)
    · obtain ⟨e, he, rfl⟩ := List.mem_map.1 hn
      rw [(g1 e he).1]
      exact k1 e he
    · rw [hnone n hn]; trivial
  · obtain ⟨e, he, rfl, h3⟩ := hent m b h1
    obtain ⟨e', he', rfl, h4⟩ := hent n b h2
    exact pair_eq hg.ok e2 he he' h3 h4
  · obtain ⟨e, he, rfl, h3⟩ := hent n b hb
    exact (hg.out _ (hmem e he) b h3).2

end
end Go.Vx
