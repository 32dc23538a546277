/- What is proved: the bytes with the product by 0x11d are a commutative ring without divisors of zero (told of natural numbers below 256); and what xor of Go's integers comes to. Conditions: those that each theorem names. -/
import Derived.Laws.BitsLemmas
namespace Go.Proofs.YtjbiiciippclcaaDoor.GF

/-! ### xor of Go's integers -/
theorem xor_nat (k : IntKind) (j : Nat) (hj : j ≤ k.bits) (hk : ∀ n : Int, 0 ≤ n → n < 2 ^ j → k.wrap n = n) (a b : Nat) (ha : a < 2 ^ j) (hb : b < 2 ^ j) :
    bits .xor k a b = ((a ^^^ b : Nat) : Int) := by
  have hp : 2 ^ j ≤ 2 ^ k.bits := Nat.pow_le_pow_right (by decide) hj
  have ha' : a % 2 ^ k.bits = a := Nat.mod_eq_of_lt (Nat.lt_of_lt_of_le ha hp)
  have hb' : b % 2 ^ k.bits = b := Nat.mod_eq_of_lt (Nat.lt_of_lt_of_le hb hp)
  have cast : ∀ n : Nat, n < 2 ^ j → ((n : Nat) : Int) < 2 ^ j := fun n h => by exact_mod_cast h
  simp only [bits, BitVec.ofInt_natCast, BitVec.toNat_xor, BitVec.toNat_ofNat, ha', hb']
  exact hk _ (Int.natCast_nonneg _) (cast _ (Nat.xor_lt_two_pow ha hb))
theorem xor8 (a b : Nat) (ha : a < 256) (hb : b < 256) : bits .xor .u8 a b = ((a ^^^ b : Nat) : Int) := xor_nat .u8 8 (by decide) wraps_u8 a b ha hb
theorem wraps_u32 (n : Int) (h₀ : 0 ≤ n) (h₁ : n < 2 ^ 32) : IntKind.u32.wrap n = n := by rw [IntKind.wrap_u32]; omega
theorem xor32 (a b : Nat) (ha : a < 4294967296) (hb : b < 4294967296) : bits .xor .u32 a b = ((a ^^^ b : Nat) : Int) := xor_nat .u32 32 (by decide) wraps_u32 a b ha hb
theorem wraps_i64 (n : Int) (h₀ : 0 ≤ n) (h₁ : n < 2 ^ 62) : IntKind.i64.wrap n = n := by rw [IntKind.wrap_i64]; omega
theorem xor64 (a b : Nat) (ha : a < 4611686018427387904) (hb : b < 4611686018427387904) : bits .xor .i64 a b = ((a ^^^ b : Nat) : Int) := xor_nat .i64 62 (by decide) wraps_i64 a b ha hb

/-! ### The product -/
def xt (x : Nat) : Nat := if 255 < 2 * x then (2 * x) ^^^ 285 else 2 * x
theorem xt_tab : (List.range 256).all (fun x => decide (xt x < 256) && (List.range 256).all fun y => xt (x ^^^ y) == (xt x ^^^ xt y)) = true := by decide +kernel
theorem xt_both (x : Nat) (hx : x < 256) : xt x < 256 ∧ ∀ y, y < 256 → xt (x ^^^ y) = xt x ^^^ xt y := by
  have h := List.all_eq_true.1 xt_tab x (List.mem_range.2 hx)
  rw [Bool.and_eq_true, decide_eq_true_iff] at h
  refine ⟨h.1, fun y hy => ?_⟩
  exact beq_iff_eq.1 (List.all_eq_true.1 h.2 y (List.mem_range.2 hy))
theorem xt_lt (x : Nat) (hx : x < 256) : xt x < 256 := (xt_both x hx).1
theorem xt_xor (x y : Nat) (hx : x < 256) (hy : y < 256) : xt (x ^^^ y) = xt x ^^^ xt y := (xt_both x hx).2 y hy
theorem xt_zero : xt 0 = 0 := rfl
theorem xor_lt {a b : Nat} (ha : a < 256) (hb : b < 256) : a ^^^ b < 256 := Nat.xor_lt_two_pow (n := 8) ha hb
def gmk : Nat → Nat → Nat → Nat
  | 0, _, _ => 0
  | n + 1, a, b => (if b % 2 = 1 then a else 0) ^^^ gmk n (xt a) (b / 2)
theorem gmk_lt (n a b : Nat) (ha : a < 256) : gmk n a b < 256 := by
  induction n generalizing a b with
  | zero => simp [gmk]
  | succ n ih =>
    simp only [gmk]
    refine xor_lt ?_ (ih _ _ (xt_lt a ha))
    split <;> omega
theorem xor4 (a b c d : Nat) : (a ^^^ b) ^^^ (c ^^^ d) = (a ^^^ c) ^^^ (b ^^^ d) := by
  rw [Nat.xor_assoc, Nat.xor_assoc, ← Nat.xor_assoc b, Nat.xor_comm b c, Nat.xor_assoc c]
theorem gmk_left (n a a' b : Nat) (ha : a < 256) (ha' : a' < 256) : gmk n (a ^^^ a') b = gmk n a b ^^^ gmk n a' b := by
  induction n generalizing a a' b with
  | zero => simp [gmk]
  | succ n ih =>
    simp only [gmk]
    rw [xt_xor _ _ ha ha', ih _ _ _ (xt_lt a ha) (xt_lt a' ha'), xor4]
    congr 1
    split <;> simp
theorem gmk_right (n a b b' : Nat) : gmk n a (b ^^^ b') = gmk n a b ^^^ gmk n a b' := by
  induction n generalizing a b b' with
  | zero => simp [gmk]
  | succ n ih =>
    simp only [gmk]
    rw [Nat.xor_div_two, ih, xor4]
    congr 1
    have h := @Nat.xor_mod_two_eq_one b b'
    by_cases h1 : b % 2 = 1 <;> by_cases h2 : b' % 2 = 1
    · rw [if_neg (by rw [h]; simp [h1, h2]), if_pos h1, if_pos h2, Nat.xor_self]
    · rw [if_pos (by rw [h]; simp [h1, h2]), if_pos h1, if_neg h2, Nat.xor_zero]
    · rw [if_pos (by rw [h]; simp [h1, h2]), if_neg h1, if_pos h2, Nat.zero_xor]
    · rw [if_neg (by rw [h]; simp [h1, h2]), if_neg h1, if_neg h2, Nat.zero_xor]
def gm (a b : Nat) : Nat := gmk 8 a b
theorem gm_lt (a b : Nat) (ha : a < 256) : gm a b < 256 := gmk_lt 8 a b ha
theorem gm_left (a a' b : Nat) (ha : a < 256) (ha' : a' < 256) : gm (a ^^^ a') b = gm a b ^^^ gm a' b := gmk_left 8 a a' b ha ha'
theorem gm_right (a b b' : Nat) : gm a (b ^^^ b') = gm a b ^^^ gm a b' := gmk_right 8 a b b'
theorem gmk_zero (n b : Nat) : gmk n 0 b = 0 := by
  induction n generalizing b with
  | zero => rfl
  | succ n ih => simp only [gmk, xt_zero, ih]; split <;> rfl
theorem gm_zero (b : Nat) : gm 0 b = 0 := gmk_zero 8 b
theorem gmk_zero' (n a : Nat) : gmk n a 0 = 0 := by
  induction n generalizing a with
  | zero => rfl
  | succ n ih => simp [gmk, ih]
theorem gm_zero' (a : Nat) : gm a 0 = 0 := gmk_zero' 8 a
/-- Two functions that keep xor and are alike at the powers of two are alike. -/
theorem lin_ext {f g : Nat → Nat} (hf : ∀ x y, x < 256 → y < 256 → f (x ^^^ y) = f x ^^^ f y) (hg : ∀ x y, x < 256 → y < 256 → g (x ^^^ y) = g x ^^^ g y)
    (h : ∀ i, i < 8 → f (2 ^ i) = g (2 ^ i)) : ∀ x, x < 256 → f x = g x := by
  have f0 : f 0 = 0 := by have := hf 0 0 (by omega) (by omega); simpa using this
  have g0 : g 0 = 0 := by have := hg 0 0 (by omega) (by omega); simpa using this
  have hx : ∀ n, n < 8 → ∀ y, y < 2 ^ n → 2 ^ n ^^^ y = 2 ^ n + y := by decide +kernel
  have hn : ∀ n, n ≤ 8 → ∀ x, x < 2 ^ n → f x = g x := by
    intro n
    induction n with
    | zero => intro _ x hx; obtain rfl : x = 0 := by omega
              rw [f0, g0]
    | succ n ih =>
      intro hn x hxx
      by_cases hl : x < 2 ^ n
      · exact ih (by omega) x hl
      · have hp : 2 ^ n ≤ 128 := by have := Nat.pow_le_pow_right (show 0 < 2 by decide) (show n ≤ 7 by omega); simpa using this
        have hy : x - 2 ^ n < 2 ^ n := by rw [Nat.pow_succ] at hxx; omega
        have e : x = 2 ^ n ^^^ (x - 2 ^ n) := by rw [hx n (by omega) _ hy]; omega
        rw [e, hf _ _ (by omega) (by omega), hg _ _ (by omega) (by omega), h n (by omega), ih (by omega) _ hy]
  exact hn 8 (Nat.le_refl _)
theorem p2_lt (i : Nat) (hi : i < 8) : 2 ^ i < 256 := by
  have := Nat.pow_le_pow_right (show 0 < 2 by decide) (show i ≤ 7 by omega)
  omega
theorem assoc_tab : ∀ i, i < 8 → ∀ j, j < 8 → ∀ l, l < 8 → gm (gm (2 ^ i) (2 ^ j)) (2 ^ l) = gm (2 ^ i) (gm (2 ^ j) (2 ^ l)) := by decide +kernel
theorem comm_tab : ∀ i, i < 8 → ∀ j, j < 8 → gm (2 ^ i) (2 ^ j) = gm (2 ^ j) (2 ^ i) := by decide +kernel
theorem gm_comm (a b : Nat) (ha : a < 256) (hb : b < 256) : gm a b = gm b a := by
  refine lin_ext (f := fun a => gm a b) (g := fun a => gm b a) (fun x y hx hy => gm_left x y b hx hy) (fun x y _ _ => gm_right b x y) (fun i hi => ?_) a ha
  refine lin_ext (f := fun b => gm (2 ^ i) b) (g := fun b => gm b (2 ^ i)) (fun x y _ _ => gm_right _ x y) (fun x y hx hy => gm_left x y _ hx hy) (fun j hj => ?_) b hb
  exact comm_tab i hi j hj
theorem gm_assoc (a b c : Nat) (ha : a < 256) (hb : b < 256) (hc : c < 256) : gm (gm a b) c = gm a (gm b c) := by
  refine lin_ext (f := fun a => gm (gm a b) c) (g := fun a => gm a (gm b c)) (fun x y hx hy => ?_) (fun x y hx hy => gm_left x y _ hx hy) (fun i hi => ?_) a ha
  · show gm (gm (x ^^^ y) b) c = _
    rw [gm_left x y b hx hy, gm_left _ _ c (gm_lt x b hx) (gm_lt y b hy)]
  have hi' := p2_lt i hi
  refine lin_ext (f := fun b => gm (gm (2 ^ i) b) c) (g := fun b => gm (2 ^ i) (gm b c)) (fun x y hx hy => ?_) (fun x y hx hy => ?_) (fun j hj => ?_) b hb
  · show gm (gm (2 ^ i) (x ^^^ y)) c = _
    rw [gm_right, gm_left _ _ c (gm_lt _ _ hi') (gm_lt _ _ hi')]
  · show gm (2 ^ i) (gm (x ^^^ y) c) = _
    rw [gm_left x y c hx hy, gm_right]
  refine lin_ext (f := fun c => gm (gm (2 ^ i) (2 ^ j)) c) (g := fun c => gm (2 ^ i) (gm (2 ^ j) c)) (fun x y _ _ => gm_right _ x y) (fun x y _ _ => ?_) (fun l hl => ?_) c hc
  · show gm (2 ^ i) (gm (2 ^ j) (x ^^^ y)) = _
    rw [gm_right, gm_right]
  · exact assoc_tab i hi j hj l hl
theorem one_tab : ∀ a, a < 256 → gm a 1 = a := by decide +kernel
theorem gm_one (a : Nat) (ha : a < 256) : gm a 1 = a := one_tab a ha
theorem one_gm (a : Nat) (ha : a < 256) : gm 1 a = a := by rw [gm_comm 1 a (by omega) ha]; exact gm_one a ha
/-- The power 254. -/
def gi (a : Nat) : Nat := let b := gm a a; let c := gm b b; let d := gm c c; let e := gm d d; let f := gm e e; let g := gm f f; let h := gm g g; gm b (gm c (gm d (gm e (gm f (gm g h)))))
theorem gi_tab : ∀ a, a < 256 → gi a < 256 ∧ (a ≠ 0 → gm a (gi a) = 1) := by decide +kernel
theorem gi_lt (a : Nat) (ha : a < 256) : gi a < 256 := (gi_tab a ha).1
theorem gm_gi (a : Nat) (ha : a < 256) (h0 : a ≠ 0) : gm a (gi a) = 1 := (gi_tab a ha).2 h0
theorem gm_ne (a b : Nat) (ha : a < 256) (hb : b < 256) (a0 : a ≠ 0) (b0 : b ≠ 0) : gm a b ≠ 0 := by
  intro h
  have e := gm_assoc (gi a) a b (gi_lt a ha) ha hb
  rw [h, gm_zero', gm_comm (gi a) a (gi_lt a ha) ha, gm_gi a ha a0, one_gm b hb] at e
  exact b0 e
theorem gm_cancel (a b c : Nat) (ha : a < 256) (hb : b < 256) (hc : c < 256) (a0 : a ≠ 0) (h : gm a b = gm a c) : b = c := by
  have e1 := gm_assoc (gi a) a b (gi_lt a ha) ha hb
  have e2 := gm_assoc (gi a) a c (gi_lt a ha) ha hc
  rw [h, ← e2, gm_comm (gi a) a (gi_lt a ha) ha, gm_gi a ha a0, one_gm b hb, one_gm c hc] at e1
  exact e1
theorem xor_eq_zero {a b : Nat} : a ^^^ b = 0 ↔ a = b := by
  constructor
  · intro h
    have : a ^^^ b ^^^ b = 0 ^^^ b := by rw [h]
    rwa [Nat.xor_assoc, Nat.xor_self, Nat.xor_zero, Nat.zero_xor] at this
  · rintro rfl; exact Nat.xor_self a

/-! ### A sum's check: the round of a CRC is one to one -/
def rd32 (x : Nat) : Nat := if x % 2 = 1 then (x / 2) ^^^ 2197175160 else x / 2
theorem rd32_lt (x : Nat) (hx : x < 4294967296) : rd32 x < 4294967296 := by
  unfold rd32
  split
  · exact Nat.xor_lt_two_pow (n := 32) (by omega) (by decide)
  · omega
theorem top31 (x : Nat) (hx : x < 2147483648) : x.testBit 31 = false := Nat.testBit_lt_two_pow (by simpa using hx)
theorem rd32_inj (x y : Nat) (hx : x < 4294967296) (hy : y < 4294967296) (h : rd32 x = rd32 y) : x = y := by
  unfold rd32 at h
  have tc : (2197175160 : Nat).testBit 31 = true := by decide
  have tx := top31 (x / 2) (by omega)
  have ty := top31 (y / 2) (by omega)
  by_cases h1 : x % 2 = 1 <;> by_cases h2 : y % 2 = 1
  · rw [if_pos h1, if_pos h2] at h
    have : x / 2 = y / 2 := by
      have e : x / 2 ^^^ 2197175160 ^^^ 2197175160 = y / 2 ^^^ 2197175160 ^^^ 2197175160 := by rw [h]
      rwa [Nat.xor_assoc, Nat.xor_assoc, Nat.xor_self, Nat.xor_zero, Nat.xor_zero] at e
    omega
  · rw [if_pos h1, if_neg h2] at h
    have := congrArg (fun z : Nat => z.testBit 31) h
    simp only [Nat.testBit_xor, tc, tx, ty] at this
    cases this
  · rw [if_neg h1, if_pos h2] at h
    have := congrArg (fun z : Nat => z.testBit 31) h
    simp only [Nat.testBit_xor, tc, tx, ty] at this
    cases this
  · rw [if_neg h1, if_neg h2] at h
    omega
end Go.Proofs.YtjbiiciippclcaaDoor.GF
