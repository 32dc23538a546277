/- What is proved: division of bits by bits: it is linear, it keeps an even number of ones where the divisor has one, and what it leaves nothing of spans more than the divisor's check. Conditions: those that each theorem names. -/
import Derived.Laws.BitsLemmas
namespace Go.Proofs.YthjhjjhecokcdaaDoor.CycMath

/-- The divisor g, of n bits, laid at place i. -/
def laid (g : Nat → Bool) (n i p : Nat) : Bool := decide (i ≤ p) && decide (p < i + n) && g (p - i)
/-- One step of the division, at place i. -/
def step (g : Nat → Bool) (n i : Nat) (B : Nat → Bool) : Nat → Bool := fun p => B p ^^ (B i && laid g n i p)
/-- c steps, from place i on. -/
def run (g : Nat → Bool) (n : Nat) : Nat → Nat → (Nat → Bool) → Nat → Bool
  | 0, _, B => B
  | c + 1, i, B => run g n c (i + 1) (step g n i B)
def add (A B : Nat → Bool) : Nat → Bool := fun p => A p ^^ B p
theorem step_add (g : Nat → Bool) (n i : Nat) (A B : Nat → Bool) : step g n i (add A B) = add (step g n i A) (step g n i B) := by
  funext p
  simp only [step, add]
  generalize laid g n i p = x
  generalize A p = a; generalize B p = b; generalize A i = c; generalize B i = d
  revert x a b c d; decide
theorem run_add (g : Nat → Bool) (n c : Nat) : ∀ (i : Nat) (A B : Nat → Bool), run g n c i (add A B) = add (run g n c i A) (run g n c i B) := by
  induction c with
  | zero => intro i A B; rfl
  | succ c ih => intro i A B; simp only [run]; rw [step_add, ih]
theorem step_no {g : Nat → Bool} {n i : Nat} {B : Nat → Bool} (h : B i = false) : step g n i B = B := by
  funext p; simp [step, h]
/-- Where the places that are stepped over hold nothing, nothing is turned. -/
theorem run_low (g : Nat → Bool) (n c : Nat) : ∀ (i : Nat) (B : Nat → Bool), (∀ p, i ≤ p → p < i + c → B p = false) → run g n c i B = B := by
  induction c with
  | zero => intro i B _; rfl
  | succ c ih =>
    intro i B h
    simp only [run]
    rw [step_no (h i (Nat.le_refl _) (by omega))]
    exact ih (i + 1) B fun p h1 h2 => h p (by omega) (by omega)
theorem laid_out {g : Nat → Bool} {n i p : Nat} (h : p < i ∨ i + n ≤ p) : laid g n i p = false := by
  unfold laid
  rcases h with h | h
  · rw [decide_eq_false (by omega : ¬ i ≤ p)]; rfl
  · rw [decide_eq_false (by omega : ¬ p < i + n), Bool.and_false]; rfl
theorem laid_in {g : Nat → Bool} {n i p : Nat} (h1 : i ≤ p) (h2 : p < i + n) : laid g n i p = g (p - i) := by
  unfold laid
  rw [decide_eq_true h1, decide_eq_true h2]; rfl
/-- What lies ahead of the place stays. -/
theorem run_ahead (g : Nat → Bool) (n c : Nat) : ∀ (i : Nat) (B : Nat → Bool) (p : Nat), p < i → run g n c i B p = B p := by
  induction c with
  | zero => intro i B p _; rfl
  | succ c ih =>
    intro i B p h
    simp only [run]
    rw [ih (i + 1) _ p (by omega)]
    simp only [step]
    rw [laid_out (.inl h), Bool.and_false, Bool.xor_false]
/-- What is stepped over is nothing behind. -/
theorem run_clear (g : Nat → Bool) (n c : Nat) (hn : 0 < n) (hg : g 0 = true) : ∀ (i : Nat) (B : Nat → Bool) (p : Nat), i ≤ p → p < i + c → run g n c i B p = false := by
  induction c with
  | zero => intro i B p h1 h2; omega
  | succ c ih =>
    intro i B p h1 h2
    simp only [run]
    rcases Nat.eq_or_lt_of_le h1 with rfl | h
    · rw [run_ahead g n c (i + 1) _ i (by omega)]
      simp only [step]
      rw [laid_in (Nat.le_refl _) (by omega), Nat.sub_self, hg, Bool.and_true, Bool.xor_self]
    · exact ih (i + 1) _ p h (by omega)
/-- What the division leaves nothing of is nothing, or has two ones as far apart as the divisor's ends. -/
theorem run_spans (g : Nat → Bool) (n : Nat) (hn : 0 < n) (hg : g (n - 1) = true) (c : Nat) : ∀ (i : Nat) (B : Nat → Bool), (∀ p, i ≤ p → p < i + c + n - 1 → run g n c i B p = false) →
    (∀ p, i ≤ p → p < i + c + n - 1 → B p = false) ∨ ∃ p q, i ≤ p ∧ p + n - 1 ≤ q ∧ q < i + c + n - 1 ∧ B p = true ∧ B q = true := by
  induction c with
  | zero => intro i B h; exact .inl h
  | succ c ih =>
    intro i B h
    simp only [run] at h
    have h' := ih (i + 1) (step g n i B) fun p h1 h2 => h p (by omega) (by omega)
    cases hb : B i with
    | false =>
      rw [step_no hb] at h'
      rcases h' with h' | ⟨p, q, h1, h2, h3, h4, h5⟩
      · refine .inl fun p h1 h2 => ?_
        rcases Nat.eq_or_lt_of_le h1 with rfl | h3
        · exact hb
        · exact h' p h3 (by omega)
      · exact .inr ⟨p, q, by omega, h2, by omega, h4, h5⟩
    | true =>
      rcases h' with h' | ⟨p, q, h1, h2, h3, h4, h5⟩
      · by_cases h1 : n = 1
        · exact .inr ⟨i, i, Nat.le_refl _, by omega, by omega, hb, hb⟩
        · have := h' (i + n - 1) (by omega) (by omega)
          simp only [step, hb, Bool.true_and] at this
          rw [laid_in (by omega) (by omega), show i + n - 1 - i = n - 1 by omega, hg] at this
          refine .inr ⟨i, i + n - 1, Nat.le_refl _, by omega, by omega, hb, ?_⟩
          cases e : B (i + n - 1) with
          | true => rfl
          | false => rw [e] at this; cases this
      · refine .inr ⟨i, q, Nat.le_refl _, by omega, by omega, hb, ?_⟩
        simp only [step] at h5
        rwa [laid_out (.inr (by omega)), Bool.and_false, Bool.xor_false] at h5
/-! ### How many ones, even or odd -/
def par (B : Nat → Bool) : Nat → Bool
  | 0 => false
  | n + 1 => par B n ^^ B n
theorem par_congr {A B : Nat → Bool} {n : Nat} (h : ∀ p, p < n → A p = B p) : par A n = par B n := by
  induction n with
  | zero => rfl
  | succ n ih => simp only [par]; rw [ih fun p hp => h p (by omega), h n (by omega)]
theorem par_add (A B : Nat → Bool) (n : Nat) : par (add A B) n = (par A n ^^ par B n) := by
  induction n with
  | zero => rfl
  | succ n ih =>
    simp only [par, ih, add]
    generalize par A n = a; generalize par B n = b; generalize A n = c; generalize B n = d
    revert a b c d; decide
theorem par_zero {B : Nat → Bool} {n : Nat} (h : ∀ p, p < n → B p = false) : par B n = false := by
  induction n with
  | zero => rfl
  | succ n ih => simp only [par]; rw [ih fun p hp => h p (by omega), h n (by omega)]; rfl
theorem par_laid (g : Nat → Bool) (n i : Nat) : ∀ m, m ≤ n → par (laid g n i) (i + m) = par g m := by
  intro m
  induction m with
  | zero => intro _; exact par_zero fun p hp => laid_out (.inl hp)
  | succ m ih =>
    intro h
    rw [← Nat.add_assoc]
    simp only [par]
    rw [ih (by omega), laid_in (by omega) (by omega), show i + m - i = m by omega]
theorem par_past {B : Nat → Bool} {m : Nat} : ∀ k, (∀ p, m ≤ p → p < m + k → B p = false) → par B (m + k) = par B m := by
  intro k
  induction k with
  | zero => intro _; rfl
  | succ k ih =>
    intro h
    rw [← Nat.add_assoc]
    simp only [par]
    rw [ih fun p h1 h2 => h p h1 (by omega), h (m + k) (by omega) (by omega), Bool.xor_false]
theorem par_step (g : Nat → Bool) (n i N : Nat) (h : i + n ≤ N) (hg : par g n = false) (B : Nat → Bool) : par (step g n i B) N = par B N := by
  cases hb : B i with
  | false => rw [step_no hb]
  | true =>
    have e : step g n i B = add B (laid g n i) := by funext p; simp [step, add, hb]
    rw [e, par_add]
    obtain ⟨k, rfl⟩ : ∃ k, N = i + n + k := ⟨N - (i + n), by omega⟩
    rw [show par (laid g n i) (i + n + k) = false from (par_past k fun p h1 h2 => laid_out (.inr h1)).trans ((par_laid g n i n (Nat.le_refl _)).trans hg), Bool.xor_false]
theorem par_run (g : Nat → Bool) (n : Nat) (hg : par g n = false) (c : Nat) : ∀ (i N : Nat) (B : Nat → Bool), i + c + n ≤ N + 1 → par (run g n c i B) N = par B N := by
  induction c with
  | zero => intro i N B _; rfl
  | succ c ih => intro i N B h; simp only [run]; rw [ih (i + 1) N _ (by omega), par_step g n i N (by omega) hg]
end Go.Proofs.YthjhjjhecokcdaaDoor.CycMath
