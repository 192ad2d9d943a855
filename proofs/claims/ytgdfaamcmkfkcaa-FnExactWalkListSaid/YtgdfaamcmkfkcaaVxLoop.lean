/-
  Loops over lists, as they read. Plain lists, no program.
-/
import Derived.Test.YtgdfaamcmkfkcaaVxGen
set_option linter.unusedSimpArgs false
set_option linter.unusedVariables false
set_option linter.unnecessarySimpa false
namespace Go.Vx

def foldE {γ σ β : Type} (step : Nat → γ → σ → σ ⊕ β) : Nat → List γ → σ → σ ⊕ β
  | _, [], a => .inl a
  | k, x :: xs, a => match step k x a with
    | .inl a' => foldE step (k + 1) xs a'
    | .inr b => .inr b

theorem iter_foldE_at {α β γ σ : Type} {f : (α → Option β) → α → Option β} (xs : List γ) (S : Nat → σ → α) (I : Nat → σ → Prop) (step : Nat → γ → σ → σ ⊕ β) (fin : σ → β)
    (hs : ∀ k (hk : k < xs.length) a, I k a → ∀ rec, f rec (S k a) = (match step k xs[k] a with | .inl a' => rec (S (k + 1) a') | .inr b => some b))
    (hI : ∀ k (hk : k < xs.length) a a', I k a → step k xs[k] a = .inl a' → I (k + 1) a')
    (he : ∀ a rec, I xs.length a → f rec (S xs.length a) = some (fin a)) :
    ∀ (d k fuel : Nat) (a : σ), xs.length - k = d → k ≤ xs.length → d < fuel → I k a → iter f fuel (S k a) = some (match foldE step k (xs.drop k) a with | .inl a => fin a | .inr b => b)
  | 0, k, fuel, a, hd, hk, hf, h => by
    obtain ⟨n, rfl⟩ : ∃ n, fuel = n + 1 := ⟨fuel - 1, by omega⟩
    have : k = xs.length := by omega
    subst this
    rw [List.drop_length]
    exact he a _ h
  | d + 1, k, fuel, a, hd, hk, hf, h => by
    obtain ⟨n, rfl⟩ : ∃ n, fuel = n + 1 := ⟨fuel - 1, by omega⟩
    have hlt : k < xs.length := by omega
    show f (iter f n) (S k a) = _
    rw [hs k hlt a h, List.drop_eq_getElem_cons hlt, foldE]
    cases hst : step k xs[k] a with
    | inl a' => exact iter_foldE_at xs S I step fin hs hI he d (k + 1) n a' (by omega) (by omega) (by omega) (hI k hlt a a' h hst)
    | inr b => rfl

theorem iter_foldE {α β γ σ : Type} {f : (α → Option β) → α → Option β} (xs : List γ) (S : Nat → σ → α) (I : Nat → σ → Prop) (step : Nat → γ → σ → σ ⊕ β) (fin : σ → β)
    (hs : ∀ k (hk : k < xs.length) a, I k a → ∀ rec, f rec (S k a) = (match step k xs[k] a with | .inl a' => rec (S (k + 1) a') | .inr b => some b))
    (hI : ∀ k (hk : k < xs.length) a a', I k a → step k xs[k] a = .inl a' → I (k + 1) a')
    (he : ∀ a rec, I xs.length a → f rec (S xs.length a) = some (fin a)) {a0 : σ} (h0 : I 0 a0) {x0 : α} (hx : x0 = S 0 a0) (hl : xs.length < 4611686018427387904) :
    iter f FUEL x0 = some (match foldE step 0 xs a0 with | .inl a => fin a | .inr b => b) := by
  have := iter_foldE_at xs S I step fin hs hI he xs.length 0 FUEL a0 (by omega) (by omega) (by rw [FUEL_eq]; omega) h0
  rw [hx, this, List.drop_zero]

def allI {γ : Type} (p : Nat → γ → Bool) : Nat → List γ → Bool
  | _, [] => true
  | k, x :: xs => p k x && allI p (k + 1) xs

theorem foldE_all {γ β : Type} (p : Nat → γ → Bool) (b : β) : ∀ (xs : List γ) (k : Nat), foldE (fun k x (_ : Unit) => cond (p k x) (.inl ()) (.inr b)) k xs () = cond (allI p k xs) (.inl ()) (.inr b)
  | [], _ => rfl
  | x :: xs, k => by
    rw [foldE, allI]
    cases p k x with
    | true => simp only [cond_true, Bool.true_and]; exact foldE_all p b xs (k + 1)
    | false => rfl

theorem allI_all {γ : Type} (p : γ → Bool) : ∀ (xs : List γ) (k : Nat), allI (fun _ => p) k xs = xs.all p
  | [], _ => rfl
  | x :: xs, k => by rw [allI, allI_all p xs, List.all_cons]

theorem allI_true {γ : Type} {p : Nat → γ → Bool} : ∀ {xs : List γ} {k : Nat}, allI p k xs = true ↔ ∀ j (hj : j < xs.length), p (k + j) xs[j] = true
  | [], k => by simp [allI]
  | x :: xs, k => by
    rw [allI, Bool.and_eq_true, allI_true]
    constructor
    · rintro ⟨h1, h2⟩ j hj
      cases j with
      | zero => exact h1
      | succ j => have := h2 j (by simpa using hj); rwa [show k + 1 + j = k + (j + 1) by omega] at this
    · intro h
      exact ⟨h 0 (by simp), fun j hj => by have := h (j + 1) (by simpa using hj); rwa [show k + (j + 1) = k + 1 + j by omega] at this⟩

theorem allI_congr {γ : Type} {p q : Nat → γ → Bool} {xs : List γ} {k : Nat} (h : ∀ j (hj : j < xs.length), p (k + j) xs[j] = q (k + j) xs[j]) : allI p k xs = allI q k xs := by
  rw [Bool.eq_iff_iff, allI_true, allI_true]
  constructor
  · intro h2 j hj; rw [← h j hj]; exact h2 j hj
  · intro h2 j hj; rw [h j hj]; exact h2 j hj

/-- A loop that goes on while all is well. -/
theorem iter_all {α β γ : Type} {f : (α → Option β) → α → Option β} (xs : List γ) (S : Nat → α) (p : Nat → γ → Bool) (fin b : β)
    (hs : ∀ k (hk : k < xs.length) rec, f rec (S k) = cond (p k xs[k]) (rec (S (k + 1))) (some b))
    (he : ∀ rec, f rec (S xs.length) = some fin) {x0 : α} (hx : x0 = S 0) (hl : xs.length < 4611686018427387904) :
    iter f FUEL x0 = some (cond (allI p 0 xs) fin b) := by
  rw [iter_foldE (β := β) xs (fun k (_ : Unit) => S k) (fun _ _ => True) (fun k x _ => cond (p k x) (.inl ()) (.inr b)) (fun _ => fin) (fun k hk _ _ rec => by
      rw [hs k hk rec]; cases p k xs[k] <;> rfl) (fun _ _ _ _ _ _ => trivial) (fun _ rec _ => he rec) (a0 := ()) trivial hx hl, foldE_all]
  cases allI p 0 xs <;> rfl

/-- A search. -/
def findI {γ β : Type} (q : Nat → γ → Option β) : Nat → List γ → Option β
  | _, [] => none
  | k, x :: xs => match q k x with
    | some b => some b
    | none => findI q (k + 1) xs

theorem foldE_find {γ β : Type} (q : Nat → γ → Option β) : ∀ (xs : List γ) (k : Nat), foldE (fun k x (_ : Unit) => match q k x with | none => .inl () | some b => .inr b) k xs () = (match findI q k xs with | none => .inl () | some b => .inr b)
  | [], _ => rfl
  | x :: xs, k => by
    rw [foldE, findI]
    cases q k x with
    | none => exact foldE_find q xs (k + 1)
    | some b => rfl

theorem iter_find {α β γ : Type} {f : (α → Option β) → α → Option β} (xs : List γ) (S : Nat → α) (q : Nat → γ → Option β) (fin : β)
    (hs : ∀ k (hk : k < xs.length) rec, f rec (S k) = (match q k xs[k] with | none => rec (S (k + 1)) | some b => some b))
    (he : ∀ rec, f rec (S xs.length) = some fin) {x0 : α} (hx : x0 = S 0) (hl : xs.length < 4611686018427387904) :
    iter f FUEL x0 = some ((findI q 0 xs).getD fin) := by
  rw [iter_foldE (β := β) xs (fun k (_ : Unit) => S k) (fun _ _ => True) (fun k x _ => match q k x with | none => .inl () | some b => .inr b) (fun _ => fin) (fun k hk _ _ rec => by
      rw [hs k hk rec]; cases q k xs[k] <;> rfl) (fun _ _ _ _ _ _ => trivial) (fun _ rec _ => he rec) (a0 := ()) trivial hx hl, foldE_find]
  cases findI q 0 xs <;> rfl

theorem findI_none {γ β : Type} {q : Nat → γ → Option β} : ∀ {xs : List γ} {k : Nat}, findI q k xs = none ↔ ∀ j (hj : j < xs.length), q (k + j) xs[j] = none
  | [], k => by simp [findI]
  | x :: xs, k => by
    rw [findI]
    constructor
    · intro h j hj
      cases hq : q k x with
      | some b => rw [hq] at h; cases h
      | none =>
        rw [hq] at h
        cases j with
        | zero => exact hq
        | succ j => have := findI_none.1 h j (by simpa using hj); rwa [show k + 1 + j = k + (j + 1) by omega] at this
    · intro h
      have h0 : q k x = none := h 0 (by simp)
      rw [h0]
      exact findI_none.2 fun j hj => by have := h (j + 1) (by simpa using hj); rwa [show k + (j + 1) = k + 1 + j by omega] at this

theorem findI_some {γ β : Type} {q : Nat → γ → Option β} {b : β} : ∀ {xs : List γ} {k : Nat}, findI q k xs = some b → ∃ j, ∃ hj : j < xs.length, q (k + j) xs[j] = some b
  | [], k, h => by cases h
  | x :: xs, k, h => by
    rw [findI] at h
    cases hq : q k x with
    | some b' =>
      rw [hq] at h
      obtain rfl := Option.some.inj h
      exact ⟨0, by simp, hq⟩
    | none =>
      rw [hq] at h
      obtain ⟨j, hj, h⟩ := findI_some h
      exact ⟨j + 1, by simpa using hj, by rw [← h, show k + 1 + j = k + (j + 1) by omega]; rfl⟩

/-- A loop with what holds in each round. -/
theorem iter_goE_at {α β σ : Type} {f : (α → Option β) → α → Option β} (n : Nat) (S : Nat → σ → α) (I : Nat → σ → Prop) (E : β → Prop) (fin : σ → β)
    (hs : ∀ k a, k < n → I k a → (∃ a', I (k + 1) a' ∧ ∀ rec, f rec (S k a) = rec (S (k + 1) a')) ∨ (∃ b, E b ∧ ∀ rec, f rec (S k a) = some b))
    (he : ∀ a rec, I n a → f rec (S n a) = some (fin a)) :
    ∀ (d k fuel : Nat) (a : σ), n - k = d → k ≤ n → d < fuel → I k a → (∃ a2, I n a2 ∧ iter f fuel (S k a) = some (fin a2)) ∨ (∃ b, E b ∧ iter f fuel (S k a) = some b)
  | 0, k, fuel, a, hd, hk, hf, h => by
    obtain ⟨m, rfl⟩ : ∃ m, fuel = m + 1 := ⟨fuel - 1, by omega⟩
    have : k = n := by omega
    subst this
    exact .inl ⟨a, h, he a _ h⟩
  | d + 1, k, fuel, a, hd, hk, hf, h => by
    obtain ⟨m, rfl⟩ : ∃ m, fuel = m + 1 := ⟨fuel - 1, by omega⟩
    rcases hs k a (by omega) h with ⟨a', h1, h2⟩ | ⟨b, h1, h2⟩
    · have := iter_goE_at n S I E fin hs he d (k + 1) m a' (by omega) (by omega) (by omega) h1
      rw [show iter f (m + 1) (S k a) = iter f m (S (k + 1) a') from h2 (iter f m)]
      exact this
    · exact .inr ⟨b, h1, h2 _⟩

theorem iter_goE {α β σ : Type} {f : (α → Option β) → α → Option β} (n : Nat) (S : Nat → σ → α) (I : Nat → σ → Prop) (E : β → Prop) (fin : σ → β)
    (hs : ∀ k a, k < n → I k a → (∃ a', I (k + 1) a' ∧ ∀ rec, f rec (S k a) = rec (S (k + 1) a')) ∨ (∃ b, E b ∧ ∀ rec, f rec (S k a) = some b))
    (he : ∀ a rec, I n a → f rec (S n a) = some (fin a)) {a0 : σ} (h0 : I 0 a0) {x0 : α} (hx : x0 = S 0 a0) (hl : n < 4611686018427387904) :
    (∃ a, I n a ∧ iter f FUEL x0 = some (fin a)) ∨ (∃ b, E b ∧ iter f FUEL x0 = some b) := by
  rw [hx]
  exact iter_goE_at n S I E fin hs he n 0 FUEL a0 (by omega) (by omega) (by rw [FUEL_eq]; omega) h0

theorem iter_go {α β σ : Type} {f : (α → Option β) → α → Option β} (n : Nat) (S : Nat → σ → α) (I : Nat → σ → Prop) (fin : σ → β)
    (hs : ∀ k a, k < n → I k a → ∃ a', I (k + 1) a' ∧ ∀ rec, f rec (S k a) = rec (S (k + 1) a'))
    (he : ∀ a rec, I n a → f rec (S n a) = some (fin a)) {a0 : σ} (h0 : I 0 a0) {x0 : α} (hx : x0 = S 0 a0) (hl : n < 4611686018427387904) :
    ∃ a, I n a ∧ iter f FUEL x0 = some (fin a) := by
  rcases iter_goE n S I (fun _ => False) fin (fun k a hk h => .inl (hs k a hk h)) he h0 hx hl with h | ⟨_, h, _⟩
  · exact h
  · exact h.elim

/-! ### steps -/

theorem idx_nat {α : Type} {xs : List α} {i : Int} (h0 : 0 ≤ i) (h : i.toNat < xs.length) : idx xs i = some xs[i.toNat] := by
  unfold idx
  rw [decide_eq_true h0, cond_true, getElem?_pos xs _ h]

theorem lt_true {k n : Nat} (h : k < n) : decide ((k : Int) < (n : Int)) = true := decide_eq_true (by omega)
theorem lt_false (n : Nat) : decide ((n : Int) < (n : Int)) = false := by simp
theorem wrap_succ {k : Nat} (h : k < 4611686018427387904) : IntKind.i64.wrap ((k : Int) + 1) = ((k + 1 : Nat) : Int) := by
  rw [wrap_id (by omega) (by omega)]; rfl

def byt (s : ByteArray) : List UInt8 := s.data.toList
theorem byt_len (s : ByteArray) : (byt s).length = s.size := by unfold byt; rw [Array.length_toList]; rfl
theorem idxB_get {s : ByteArray} {k : Nat} (h : k < (byt s).length) : idxB s (k : Int) = some (((byt s)[k].toNat : Nat) : Int) := by
  have hs : k < s.size := by rw [← byt_len]; exact h
  unfold idxB
  rw [show decide ((0 : Int) ≤ (k : Int)) = true by simp]
  simp only [cond_true, Int.toNat_natCast]
  rw [getElem?_pos s k hs]
  rfl

theorem less_total : ∀ a b : List UInt8, (Op.bytesLess a b || a == b) = !Op.bytesLess b a
  | [], [] => rfl
  | [], _ :: _ => rfl
  | _ :: _, [] => rfl
  | x :: xs, y :: ys => by
    have ih := less_total xs ys
    simp only [Op.bytesLess, List.cons_beq_cons]
    by_cases h1 : x < y
    · have h2 : ¬ y < x := by rw [UInt8.lt_iff_toNat_lt] at h1 ⊢; omega
      have h3 : ¬ y = x := by intro e; subst e; rw [UInt8.lt_iff_toNat_lt] at h1; omega
      simp [h1, h2, h3]
    · by_cases h2 : x = y
      · subst h2; simp [h1, ih]
      · have h3 : y < x := by
          rw [UInt8.lt_iff_toNat_lt] at h1 ⊢
          have : x.toNat ≠ y.toNat := fun e => h2 (UInt8.toNat_inj.1 e)
          omega
        simp [h1, h2, h3]

end Go.Vx
