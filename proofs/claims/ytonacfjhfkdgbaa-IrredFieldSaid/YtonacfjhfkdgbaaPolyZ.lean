/- What is proved: plain laws of formal power series with whole numbers as coefficients (products by rows, their ring laws, congruence by a number, degrees), with no program in sight. Conditions: those that each theorem names. -/
import Init
namespace Go.Proofs.Ytonacfjhfkdgbaa.PolyZ

/-! ### Series -/
abbrev Ser := Nat → Int
def sh (f : Ser) : Ser := fun n => f (n + 1)
def conv (f g : Ser) : Nat → Int
  | 0 => f 0 * g 0
  | n + 1 => f 0 * g (n + 1) + conv (sh f) g n
theorem conv_zero (f g : Ser) : conv f g 0 = f 0 * g 0 := by simp [conv]
theorem conv_succ (f g : Ser) (n : Nat) : conv f g (n + 1) = f 0 * g (n + 1) + conv (sh f) g n := by simp [conv]
theorem conv_addl (f f' g : Ser) (n : Nat) : conv (fun i => f i + f' i) g n = conv f g n + conv f' g n := by
  induction n generalizing f f' with
  | zero => simp only [conv_zero]; grind
  | succ n ih =>
    simp only [conv_succ]
    have := ih (sh f) (sh f')
    show (f 0 + f' 0) * g (n + 1) + conv (fun i => sh f i + sh f' i) g n = _
    rw [this]; grind
theorem conv_addr (f g g' : Ser) (n : Nat) : conv f (fun i => g i + g' i) n = conv f g n + conv f g' n := by
  induction n generalizing f with
  | zero => simp only [conv_zero]; grind
  | succ n ih => simp only [conv_succ]; rw [ih]; grind
theorem conv_sml (a : Int) (f g : Ser) (n : Nat) : conv (fun i => a * f i) g n = a * conv f g n := by
  induction n generalizing f with
  | zero => simp only [conv_zero]; grind
  | succ n ih =>
    simp only [conv_succ]
    show (a * f 0) * g (n + 1) + conv (fun i => a * sh f i) g n = _
    rw [ih (sh f)]; grind
theorem conv_smr (a : Int) (f g : Ser) (n : Nat) : conv f (fun i => a * g i) n = a * conv f g n := by
  induction n generalizing f with
  | zero => simp only [conv_zero]; grind
  | succ n ih => simp only [conv_succ]; rw [ih]; grind
theorem conv_last (f g : Ser) (n : Nat) : conv f g (n + 1) = conv f (sh g) n + f (n + 1) * g 0 := by
  induction n generalizing f with
  | zero => simp only [conv_succ, conv_zero]; simp only [sh]
  | succ n ih =>
    rw [conv_succ f g, ih (sh f), conv_succ f (sh g)]
    simp only [sh]; grind
theorem conv_comm (f g : Ser) (n : Nat) : conv f g n = conv g f n := by
  induction n generalizing f g with
  | zero => simp only [conv_zero]; grind
  | succ n ih => rw [conv_succ, conv_last g f, ih]; grind
theorem conv_assoc (f g h : Ser) (n : Nat) : conv (conv f g) h n = conv f (conv g h) n := by
  induction n generalizing f with
  | zero => simp only [conv_zero]; grind
  | succ n ih =>
    rw [conv_succ (conv f g), conv_succ f]
    have e : sh (conv f g) = fun i => f 0 * sh g i + conv (sh f) g i := by funext i; exact conv_succ f g i
    rw [e, conv_addl, ih, conv_sml, conv_zero, conv_succ g]
    grind

/-! ### Congruence by p -/
def Cg (p : Int) (f g : Ser) : Prop := ∃ h : Ser, ∀ n, f n = g n + p * h n
theorem Cg.refl (p : Int) (f : Ser) : Cg p f f := ⟨fun _ => 0, fun n => by grind⟩
theorem Cg.symm {p : Int} {f g : Ser} (h : Cg p f g) : Cg p g f := by
  obtain ⟨t, ht⟩ := h; exact ⟨fun n => - t n, fun n => by have := ht n; grind⟩
theorem Cg.trans {p : Int} {f g h : Ser} (a : Cg p f g) (b : Cg p g h) : Cg p f h := by
  obtain ⟨t, ht⟩ := a; obtain ⟨s, hs⟩ := b; exact ⟨fun n => t n + s n, fun n => by have := ht n; have := hs n; grind⟩
theorem Cg.of_eq {p : Int} {f g : Ser} (h : ∀ n, f n = g n) : Cg p f g := ⟨fun _ => 0, fun n => by rw [h n]; grind⟩
theorem Cg.of_mod {p : Int} {f g : Ser} (h : ∀ n, f n % p = g n % p) : Cg p f g := by
  refine ⟨fun n => f n / p - g n / p, fun n => ?_⟩
  have h1 := Int.mul_ediv_add_emod (f n) p
  have h2 := Int.mul_ediv_add_emod (g n) p
  have := h n; grind
theorem Cg.mod {p : Int} {f g : Ser} (h : Cg p f g) (n : Nat) : f n % p = g n % p := by
  obtain ⟨t, ht⟩ := h; rw [ht n, Int.add_mul_emod_self_left]
theorem Cg.add {p : Int} {f f' g g' : Ser} (a : Cg p f f') (b : Cg p g g') : Cg p (fun n => f n + g n) (fun n => f' n + g' n) := by
  obtain ⟨t, ht⟩ := a; obtain ⟨s, hs⟩ := b; exact ⟨fun n => t n + s n, fun n => by have := ht n; have := hs n; grind⟩
theorem Cg.sub {p : Int} {f f' g g' : Ser} (a : Cg p f f') (b : Cg p g g') : Cg p (fun n => f n - g n) (fun n => f' n - g' n) := by
  obtain ⟨t, ht⟩ := a; obtain ⟨s, hs⟩ := b; exact ⟨fun n => t n - s n, fun n => by have := ht n; have := hs n; grind⟩
theorem Cg.mul {p : Int} {f f' g g' : Ser} (a : Cg p f f') (b : Cg p g g') : Cg p (conv f g) (conv f' g') := by
  obtain ⟨t, ht⟩ := a; obtain ⟨s, hs⟩ := b
  have e1 : f = fun n => f' n + p * t n := funext ht
  have e2 : g = fun n => g' n + p * s n := funext hs
  refine ⟨fun n => conv t g n + conv f' s n, fun n => ?_⟩
  have h1 : conv f g n = conv f' g n + p * conv t g n := by rw [e1, conv_addl, conv_sml]
  have h2 : conv f' g n = conv f' g' n + p * conv f' s n := by rw [e2, conv_addr, conv_smr]
  show _ = _ + p * (conv t g n + conv f' s n)
  rw [h1, h2]; grind
def Z : Ser := fun _ => 0
def one : Ser := fun n => if n = 0 then 1 else 0
theorem conv_Z (g : Ser) (n : Nat) : conv Z g n = 0 := by
  induction n with
  | zero => simp only [conv_zero, Z]; grind
  | succ n ih =>
    rw [conv_succ]
    have : sh Z = Z := rfl
    rw [this, ih]; simp [Z]
theorem conv_one (g : Ser) (n : Nat) : conv one g n = g n := by
  cases n with
  | zero => simp [conv_zero, one]
  | succ n =>
    rw [conv_succ]
    have : sh one = Z := by funext i; simp [sh, one, Z]
    rw [this, conv_Z]; simp [one]

/-! ### Degrees: 'Dg p d f': from place d on the coefficients are 0 by p -/
def Dg (p : Int) (d : Nat) (f : Ser) : Prop := ∀ n, d ≤ n → f n % p = 0
theorem Dg.mono {p : Int} {d e : Nat} {f : Ser} (h : Dg p d f) (hd : d ≤ e) : Dg p e f := fun n hn => h n (Nat.le_trans hd hn)
theorem Dg.cg {p : Int} {d : Nat} {f g : Ser} (h : Dg p d f) (c : Cg p g f) : Dg p d g := fun n hn => by rw [c.mod]; exact h n hn
theorem Dg.zero {p : Int} {f : Ser} (h : Dg p 0 f) : Cg p f Z := Cg.of_mod fun n => by rw [h n (Nat.zero_le _)]; simp [Z]
theorem emod_mul_zero {p a : Int} (b : Int) (h : b % p = 0) : (a * b) % p = 0 := by
  rw [Int.mul_emod, h]; simp
theorem conv_top {p : Int} : ∀ (a b : Nat) (f g : Ser), Dg p (a + 1) f → Dg p (b + 1) g → conv f g (a + b) % p = (f a * g b) % p
  | 0, 0, f, g, hf, hg => by simp [conv_zero]
  | 0, b + 1, f, g, hf, hg => by
    rw [Nat.zero_add, conv_succ]
    have hz : Cg p (sh f) Z := Dg.zero (fun n _ => hf (n + 1) (by omega))
    have : Cg p (conv (sh f) g) Z := (hz.mul (Cg.refl p g)).trans (Cg.of_eq fun n => by rw [conv_Z]; rfl)
    have := this.mod b
    rw [Int.add_emod, this]; simp [Z]
  | a + 1, b, f, g, hf, hg => by
    have e : a + 1 + b = (a + b) + 1 := by omega
    rw [e, conv_succ, Int.add_emod, emod_mul_zero _ (hg (a + b + 1) (by omega)), conv_top a b (sh f) g (fun n hn => hf (n + 1) (by omega)) hg]
    simp [sh]
theorem Dg.mul {p : Int} : ∀ (a : Nat) {b : Nat} {f g : Ser}, Dg p (a + 1) f → Dg p b g → Dg p (a + b) (conv f g)
  | 0, b, f, g, hf, hg => by
    intro n hn
    have hz : Cg p (sh f) Z := Dg.zero (fun n _ => hf (n + 1) (by omega))
    cases n with
    | zero => rw [conv_zero]; exact emod_mul_zero _ (hg 0 (by omega))
    | succ n =>
      have : Cg p (conv (sh f) g) Z := (hz.mul (Cg.refl p g)).trans (Cg.of_eq fun n => by rw [conv_Z]; rfl)
      have := this.mod n
      rw [conv_succ, Int.add_emod, this, emod_mul_zero _ (hg (n + 1) (by omega))]; simp [Z]
  | a + 1, b, f, g, hf, hg => by
    intro n hn
    cases n with
    | zero => omega
    | succ n =>
      have h1 := Dg.mul a (f := sh f) (g := g) (fun n hn => hf (n + 1) (by omega)) hg n (by omega)
      rw [conv_succ, Int.add_emod, h1, emod_mul_zero _ (hg (n + 1) (by omega))]; simp

/-! ### Divisibility by p -/
def Dv (p : Int) (c f : Ser) : Prop := ∃ q : Ser, (∃ d, Dg p d q) ∧ Cg p f (conv q c)
theorem Dg.add {p : Int} {d : Nat} {f g : Ser} (a : Dg p d f) (b : Dg p d g) : Dg p d (fun n => f n + g n) := fun n hn => by
  show (f n + g n) % p = 0
  rw [Int.add_emod, a n hn, b n hn]; simp
theorem Dg.sub {p : Int} {d : Nat} {f g : Ser} (a : Dg p d f) (b : Dg p d g) : Dg p d (fun n => f n - g n) := fun n hn => by
  show (f n - g n) % p = 0
  rw [Int.sub_emod, a n hn, b n hn]; simp
theorem Dv.add {p : Int} {c f g : Ser} (a : Dv p c f) (b : Dv p c g) : Dv p c (fun n => f n + g n) := by
  obtain ⟨q, ⟨d, hd⟩, hq⟩ := a; obtain ⟨s, ⟨e, he⟩, hs⟩ := b
  refine ⟨fun n => q n + s n, ⟨d + e, (hd.mono (by omega)).add (he.mono (by omega))⟩, ?_⟩
  exact (hq.add hs).trans (Cg.of_eq fun n => (conv_addl q s c n).symm)
theorem Dv.cg {p : Int} {c f g : Ser} (a : Dv p c f) (h : Cg p g f) : Dv p c g := by
  obtain ⟨q, hd, hq⟩ := a; exact ⟨q, hd, h.trans hq⟩
theorem Dv.mul {p : Int} {c f g : Ser} (a : Dv p c g) (hf : ∃ d, Dg p d f) : Dv p c (conv f g) := by
  obtain ⟨q, ⟨d, hd⟩, hq⟩ := a; obtain ⟨e, he⟩ := hf
  exact ⟨conv f q, ⟨_, Dg.mul e (he.mono (by omega)) hd⟩, ((Cg.refl p f).mul hq).trans (Cg.of_eq fun n => (conv_assoc f q c n).symm)⟩
theorem Dv.self (p : Int) (c : Ser) : Dv p c c := ⟨one, ⟨1, fun n hn => by simp only [one]; rw [if_neg (by omega)]; simp⟩, Cg.of_eq fun n => (conv_one c n).symm⟩
theorem Dv.trans {p : Int} {a b c : Ser} (h : Dv p a b) (h' : Dv p b c) : Dv p a c := by
  obtain ⟨q, hd, hq⟩ := h'
  exact (h.mul hd).cg hq
/-- The least bound of a degree. -/
theorem Dg.least {p : Int} {d : Nat} {f : Ser} (h : Dg p d f) (hz : ¬ Dg p 0 f) : ∃ e, Dg p (e + 1) f ∧ f e % p ≠ 0 := by
  induction d with
  | zero => exact absurd h hz
  | succ d ih =>
    by_cases hd : f d % p = 0
    · refine ih (fun n hn => ?_)
      rcases Nat.eq_or_lt_of_le hn with rfl | h2
      · exact hd
      · exact h n h2
    · exact ⟨d, h, hd⟩
/-- By a prime (said by the product of two), what c divides and is of less degree is 0. -/
theorem Dv.small {p : Int} (hp : ∀ x y : Int, (x * y) % p = 0 → x % p = 0 ∨ y % p = 0) {c r : Ser} {d : Nat} (hc : c d % p ≠ 0) (hcd : Dg p (d + 1) c) (h : Dv p c r) (hr : Dg p d r) : Dg p 0 r := by
  obtain ⟨q, ⟨e, he⟩, hq⟩ := h
  by_cases hz : Dg p 0 q
  · have : Cg p r Z := hq.trans (((Dg.zero hz).mul (Cg.refl p c)).trans (Cg.of_eq fun n => by rw [conv_Z]; rfl))
    exact fun n _ => by rw [this.mod]; simp [Z]
  · obtain ⟨a, ha, hna⟩ := he.least hz
    have h1 := conv_top a d q c ha hcd
    have h2 := hr (a + d) (by omega)
    rw [hq.mod, h1] at h2
    rcases hp _ _ h2 with h3 | h3
    · exact absurd h3 hna
    · exact absurd h3 hc
end Go.Proofs.Ytonacfjhfkdgbaa.PolyZ
