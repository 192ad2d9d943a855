/-
  The reader in use: one function after the other.
-/
import Derived.Test.YtgdfaamcmkfkcaaVxDraw4
set_option linter.unusedSimpArgs false
set_option linter.unusedVariables false
set_option linter.unnecessarySimpa false
namespace Go.Vx

/-- So many steps down for a function that calls itself; closed to the kernel's eyes. -/
noncomputable def RF : Nat := Classical.choose (⟨100, rfl⟩ : ∃ n : Nat, n = 100)
theorem RF_eq : RF = 100 := Classical.choose_spec (⟨100, rfl⟩ : ∃ n : Nat, n = 100)

structure Ctx (P : Program) (tab : List (Nat × TI)) : Prop where
  mixed : P.follows .mixedOrders = true
  types : TabOk P (assoc tab)

def goodAll (P : Program) : List (Nat × CSpec) → Prop
  | [] => True
  | q :: r => Good P q.1 q.2 ∧ goodAll P r

theorem goodAll_assoc {P : Program} : ∀ {l : List (Nat × CSpec)}, goodAll P l → ∀ g S, assoc l g = some S → Good P g S
  | [], _, _, _, h => by cases h
  | (k, T) :: r, h, g, S, hg => by
    simp only [assoc] at hg
    cases hb : Nat.beq k g with
    | true =>
      rw [hb] at hg
      obtain rfl := Option.some.inj hg
      obtain rfl := Nat.eq_of_beq_eq_true hb
      exact h.1
    | false =>
      rw [hb] at hg
      exact goodAll_assoc h.2 g S hg

def cfgOf (tab : List (Nat × TI)) (l : List (Nat × CSpec)) (ann : List (Nat × List (Nat × SSh))) (md : List (Nat × Md)) (f : Func) (S : CSpec) : Cfg :=
  ⟨assoc tab, assoc l, assoc ann, f.ntmps, keepOf S.ins, assoc md⟩

theorem good_of {P : Program} {tab : List (Nat × TI)} (h : Ctx P tab) {l : List (Nat × CSpec)} (hl : goodAll P l) {ann : List (Nat × List (Nat × SSh))} {md : List (Nat × Md)} {k : Nat} {f : Func} {S : CSpec} (hf : P.funcs[k]? = some f)
    (hc : ((!(f.name == "runtime.NumGoroutine")) && f.body.isSome && specOk S && Nat.ble S.ins.length f.ntmps) = true) (hr : ∀ x, runBody (cfgOf tab l ann md f S) (anyB (assoc md)) S f x = S.call x) : Good P k S := by
  simp only [Bool.and_eq_true, Bool.not_eq_true'] at hc
  obtain ⟨⟨⟨h1, h2⟩, h3⟩, h4⟩ := hc
  have hΓ := goodAll_assoc hl
  refine ⟨h3, ?_, ?_⟩
  · exact contract_of (C := cfgOf tab l ann md f S) h.types hΓ (anyOk h.mixed h.types hΓ) hf h2 h3 rfl rfl (Nat.le_of_ble_eq_true h4) fun x y hxy => (hr x).trans hxy
  · obtain ⟨c, hc⟩ := Option.isSome_iff_exists.1 h2
    exact ⟨f, c, hf, h1, hc⟩

theorem good_none {P : Program} {k : Nat} {f : Func} {S : CSpec} (hf : P.funcs[k]? = some f) (hc : ((!(f.name == "runtime.NumGoroutine")) && f.body.isSome && specOk S) = true) (hr : ∀ x, S.call x = none) : Good P k S := by
  simp only [Bool.and_eq_true, Bool.not_eq_true'] at hc
  obtain ⟨⟨h1, h2⟩, h3⟩ := hc
  obtain ⟨c, hc⟩ := Option.isSome_iff_exists.1 h2
  exact ⟨h3, fun x y hxy => (by rw [hr x] at hxy; cases hxy), ⟨f, c, hf, h1, hc⟩⟩

end Go.Vx
