/- What is proved: what the program's inverses, checks, products, quotients and common divisors of polynomials over a prime field come to (towards the plain statement behind the law IrredField). Conditions: those that each theorem names. -/
import Derived.Test.YtonacfjhfkdgbaaPureIrredFieldB
namespace Go.Proofs.Ytonacfjhfkdgbaa.Pure
open Go.RowKit Go.Proofs.Ytonacfjhfkdgbaa.PIrredField Go.Proofs.YtonacfjhfkdgbaaW.PrintWords Go.Proofs.YtonacfjhfkdgbaaW.PrintLast Go.Proofs.Ytonacfjhfkdgbaa.PolyZ

/-! ### Whole numbers -/
theorem gcd_loop (y : Nat) : ∀ x : Nat, x ≤ 1000000 → y ≤ 1000000 → Ev (fun k => euclid_gcd.l0 k (x : Int) (y : Int)) (Nat.gcd x y : Int) := by
  induction y using Nat.strongRecOn with
  | ind y ih =>
    intro x hx hy
    by_cases h : y = 0
    · subst h
      refine Ev.succ ((Ev.const _).eq fun k => ?_)
      simp only [euclid_gcd.l0]
      rw [if_pos (by omega), w64 (-(x : Int)) (by omega) (by omega), Nat.gcd_zero_right]
      unfold mx
      by_cases h2 : (x : Int) < -(x : Int)
      · omega
      · rw [if_neg h2]
    · have hlt := Nat.mod_lt x (Nat.pos_of_ne_zero h)
      have e : Nat.gcd x y = Nat.gcd y (x % y) := by rw [Nat.gcd_comm, Nat.gcd_rec, Nat.gcd_comm]
      rw [e]
      refine Ev.succ ((ih (x % y) hlt y hy (by omega)).eq fun k => ?_)
      simp only [euclid_gcd.l0]
      rw [if_neg (by omega), ← Int.ofNat_tmod]
theorem inv_loop (c : Int) (m : Nat) (hm : 0 < m) (hm2 : m ≤ 1000) (y : Nat) : ∀ (x : Nat) (s t A B : Int), Nat.gcd x y = 1 → x ≤ 1000 → y ≤ 1000 → (∃ z, s * c = x + m * z) → (∃ z, t * c = y + m * z) → -A ≤ s → s ≤ A → -B ≤ t → t ≤ B → A * y + B * x ≤ m →
    ∃ r, Ev (fun k => euclid_inverse.l0 k (x : Int) (m : Int) s t (y : Int)) r ∧ 0 ≤ r ∧ r < m ∧ (c * r) % m = 1 % m := by
  induction y using Nat.strongRecOn with
  | ind y ih =>
    intro x s t A B hg hx hy hs ht hA1 hA2 hB1 hB2 hAB
    by_cases h : y = 0
    · subst h
      rw [Nat.gcd_zero_right] at hg
      subst hg
      have h1 := Int.emod_nonneg s (show (m : Int) ≠ 0 by omega)
      have h2 := Int.emod_lt_of_pos s (show (0 : Int) < m by omega)
      refine ⟨s % m, Ev.succ ((Ev.const _).eq fun k => ?_), h1, h2, ?_⟩
      · simp only [euclid_inverse.l0]
        rw [if_pos (by omega)]
        unfold euclid_mod.f
        rw [if_neg (by omega)]
        have h3 : Int.tmod s m = s % m ∨ Int.tmod s m = s % m - m := by
          rw [Int.tmod_eq_emod]
          by_cases h0 : 0 ≤ s ∨ (m : Int) ∣ s
          · left; rw [if_pos h0]; omega
          · right; rw [if_neg h0]; omega
        rcases h3 with h3 | h3
        · rw [h3, w64 (s % m + m) (by omega) (by omega), tmod_pos (by omega), Int.add_emod_right, Int.emod_emod]; rfl
        · rw [h3, w64e (s % m - m + m) (s % m) (by omega) (by omega) (by omega), tmod_pos h1, Int.emod_emod]; rfl
      · obtain ⟨z, hz⟩ := hs
        rw [Int.mul_emod, Int.emod_emod, ← Int.mul_emod, Int.mul_comm, hz, Int.add_mul_emod_self_left]; rfl
    · have hyp : 0 < y := Nat.pos_of_ne_zero h
      have hlt := Nat.mod_lt x hyp
      obtain ⟨q, hq⟩ : ∃ q : Nat, q = x / y := ⟨_, rfl⟩
      have hdm := Nat.div_add_mod x y
      rw [← hq] at hdm
      have hA0 : 0 ≤ A := by omega
      have hB0 : 0 ≤ B := by omega
      have hqx : (q : Int) * y ≤ x := by have : q * y ≤ x := by rw [Nat.mul_comm]; omega
                                         exact_mod_cast this
      have hq0 : (0 : Int) ≤ q := by omega
      have hqy : (q : Int) ≤ q * y := by
        have := Int.mul_le_mul_of_nonneg_left (show (1 : Int) ≤ y by omega) hq0
        omega
      have h1 : A ≤ A * y := by
        have := Int.mul_le_mul_of_nonneg_left (show (1 : Int) ≤ y by omega) hA0
        omega
      have h2 : 0 ≤ B * x := Int.mul_nonneg hB0 (by omega)
      have h3 : B * q ≤ B * x := Int.mul_le_mul_of_nonneg_left (by omega) hB0
      have h4 : 0 ≤ A * y := Int.mul_nonneg hA0 (by omega)
      have h5 : (q : Int) * t ≤ q * B := Int.mul_le_mul_of_nonneg_left hB2 hq0
      have h6 : (q : Int) * (-B) ≤ q * t := Int.mul_le_mul_of_nonneg_left hB1 hq0
      have h7 : (q : Int) * (-B) = -(B * q) := by grind
      have h8 : (q : Int) * B = B * q := by grind
      have hxy : ((x % y : Nat) : Int) = x - q * y := by
        have : (y : Int) * q + ((x % y : Nat) : Int) = x := by exact_mod_cast hdm
        grind
      obtain ⟨r, r1, r2⟩ := ih (x % y) hlt y t (s - q * t) B (A + B * q) (by rw [Nat.gcd_comm, ← Nat.gcd_rec, Nat.gcd_comm]; exact hg) hy (by omega) ht (by
          obtain ⟨z1, e1⟩ := hs; obtain ⟨z2, e2⟩ := ht
          exact ⟨z1 - q * z2, by rw [hxy]; grind⟩) hB1 hB2 (by omega) (by omega) (by
          have : B * ((x % y : Nat) : Int) + (A + B * q) * y = A * y + B * x := by rw [hxy]; grind
          omega)
      refine ⟨r, Ev.succ (r1.eq fun k => ?_), r2⟩
      simp only [euclid_inverse.l0]
      have e1 : Int.tdiv (x : Int) (y : Int) = (q : Int) := by rw [hq]; rfl
      rw [if_neg (by omega), e1, w64 (q : Int) (by omega) (by omega), w64 ((q : Int) * t) (by omega) (by omega), w64 (s - q * t) (by omega) (by omega), w64 ((q : Int) * y) (by omega) (by omega), w64e ((x : Int) - q * y) ((x % y : Nat) : Int) hxy.symm (by omega) (by omega)]
/-- The rest of a division by a small positive number. -/
theorem within_some (a m : Int) (h1 : 0 < m) (h2 : m ≤ 1000000) : wholekeep_Within.f a m = some (a % m) := by
  unfold wholekeep_Within.f wholeref_Rest.f
  rw [if_neg (by omega)]
  have e := Int.emod_nonneg a (show m ≠ 0 by omega)
  have e2 := Int.emod_lt_of_pos a h1
  by_cases h : Int.tmod a m < 0
  · rw [if_pos h]
    have h3 : Int.tmod a m = a % m - m := by
      rw [Int.tmod_eq_emod]
      by_cases h0 : 0 ≤ a ∨ m ∣ a
      · rw [Int.tmod_eq_emod, if_pos h0] at h; omega
      · rw [if_neg h0]; omega
    have h4 : wrap64 (Int.tmod a m + m) = a % m := by
      rw [h3]; unfold wrap64; omega
    rw [h4]; rfl
  · rw [if_neg h]
    have h3 : Int.tmod a m = a % m := by
      rw [Int.tmod_eq_emod] at h ⊢
      by_cases h0 : 0 ≤ a ∨ m ∣ a
      · rw [if_pos h0]; omega
      · rw [if_neg h0] at h; omega
    rw [h3]; rfl

def plist : List Int := [2, 3, 5, 7, 11, 13, 17, 19, 23, 29, 31, 37, 41, 43, 47, 53, 59, 61, 67, 71, 73, 79, 83, 89, 97, 101, 103, 107, 109, 113, 127, 131, 137, 139, 149, 151, 157, 163, 167, 173, 179, 181, 191, 193, 197, 199, 211, 223, 227, 229, 233, 239, 241, 251, 257, 263, 269, 271, 277, 281, 283, 293, 307, 311, 313, 317, 331, 337, 347, 349, 353, 359, 367, 373, 379, 383, 389, 397, 401, 409, 419, 421, 431, 433, 439, 443, 449, 457, 461, 463, 467, 479, 487, 491, 499, 503, 509, 521, 523, 541, 547, 557, 563, 569, 571, 577, 587, 593, 599, 601, 607, 613, 617, 619, 631, 641, 643, 647, 653, 659, 661, 673, 677, 683, 691, 701, 709, 719, 727, 733, 739, 743, 751, 757, 761, 769, 773, 787, 797, 809, 811, 821, 823, 827, 829, 839, 853, 857, 859, 863, 877, 881, 883, 887, 907, 911, 919, 929, 937, 941, 947, 953, 967, 971, 977, 983, 991, 997]

/-! ### The primes up to 997 -/
def plB (p : Int) : Bool := decide (1 < p) && decide (p ≤ 997) && (List.range p.toNat).all (fun c => c == 0 || Nat.gcd c p.toNat == 1)
theorem plB_all : plist.all plB = true := by decide +kernel
def pfB (p : Int) : Bool := poly_Field.f 1000 p == some 0
theorem pfB_all : plist.all pfB = true := by decide +kernel
theorem pl_pos {p : Int} (hp : p ∈ plist) : 1 < p ∧ p ≤ 997 := by
  have h := List.all_eq_true.1 plB_all p hp
  unfold plB at h
  simp only [Bool.and_eq_true, decide_eq_true_eq] at h
  exact h.1
theorem pl_gcd {p : Int} (hp : p ∈ plist) {c : Nat} (h0 : 0 < c) (h1 : (c : Int) < p) : Nat.gcd c p.toNat = 1 := by
  have h := List.all_eq_true.1 plB_all p hp
  unfold plB at h
  simp only [Bool.and_eq_true, decide_eq_true_eq] at h
  have := List.all_eq_true.1 h.2 c (List.mem_range.2 (by omega))
  simp only [Bool.or_eq_true, beq_iff_eq] at this
  omega
theorem pl_field {p : Int} (hp : p ∈ plist) : Ev (fun k => poly_Field.f k p) 0 := by
  have h := List.all_eq_true.1 pfB_all p hp
  unfold pfB at h
  exact Ev.of (K := 1000) (poly_Field.mono p) (eq_of_beq h)
theorem pl_inv {p : Int} (hp : p ∈ plist) {c : Int} (h0 : 0 < c) (h1 : c < p) : ∃ r, Ev (fun k => rest_Inverse.f k c p) (r, 0) ∧ 0 ≤ r ∧ r < p ∧ (c * r) % p = 1 % p := by
  obtain ⟨hp1, hp2⟩ := pl_pos hp
  obtain ⟨a, rfl⟩ := Int.eq_ofNat_of_zero_le (show 0 ≤ c by omega)
  obtain ⟨m, rfl⟩ := Int.eq_ofNat_of_zero_le (show 0 ≤ p by omega)
  have hg := pl_gcd hp (c := a) (by omega) h1
  rw [Int.toNat_natCast] at hg
  obtain ⟨r, r1, r2, r3, r4⟩ := inv_loop (a : Int) m (by omega) (by omega) m a 1 0 1 0 hg (by omega) (by omega) ⟨0, by omega⟩ ⟨-1, by omega⟩ (by omega) (by omega) (by omega) (by omega) (by omega)
  refine ⟨r, ?_, r2, r3, r4⟩
  have hG := gcd_loop m a (by omega) (by omega)
  rw [hg] at hG
  have hof : rest_Of.f (a : Int) (m : Int) = some ((a : Int), 0) := by
    unfold rest_Of.f
    have e : Int.tmod (a : Int) (m : Int) = (a : Int) := by rw [tmod_pos (by omega), Int.emod_eq_of_lt (by omega) h1]
    rw [if_neg (by omega), if_neg (by omega), if_neg (by omega), e, w64 ((a : Int) + m) (by omega) (by omega), tmod_pos (by omega), Int.add_emod_right, Int.emod_eq_of_lt (by omega) h1]
  have hin1 : euclid_in.f (a : Int) = some true := by unfold euclid_in.f; rw [if_pos (by omega)]; simp; omega
  have hin2 : euclid_in.f (m : Int) = some true := by unfold euclid_in.f; rw [if_pos (by omega)]; simp; omega
  have hgcd : Ev (fun k => euclid_Gcd.f k (a : Int) (m : Int)) ((1 : Int), 0) := by
    refine (Ev.bind (G := fun x _ => some (x, 0)) hG (Ev.const _)).eq fun k => ?_
    unfold euclid_Gcd.f
    rw [hin1, hin2]
    rfl
  have hmx : mx (m : Int) (wrap64 (-(m : Int))) = (m : Int) := by
    rw [w64 (-(m : Int)) (by omega) (by omega)]; unfold mx; rw [if_neg (by omega)]
  have hinv : Ev (fun k => euclid_inverse.f k (a : Int) (m : Int)) r := by
    refine r1.eq fun k => ?_
    unfold euclid_inverse.f euclid_mod.f
    have e : Int.tmod (a : Int) (m : Int) = (a : Int) := by rw [tmod_pos (by omega), Int.emod_eq_of_lt (by omega) h1]
    rw [if_neg (by omega), e, w64 ((a : Int) + m) (by omega) (by omega), tmod_pos (by omega), Int.add_emod_right, Int.emod_eq_of_lt (by omega) h1]
    rfl
  have hB : ∃ y, Ev (fun k => euclid_Bezout.f k (a : Int) (m : Int)) (r, y, 1, 0) := by
    refine ⟨wrap64 (Int.tdiv (wrap64 (1 - (wrap64 (r * (a : Int))))) (m : Int)), ?_⟩
    unfold euclid_Bezout.f
    refine Ev.bind hgcd ?_
    refine Ev.eq (Ev.bind (G := fun t118 _ => some (t118, wrap64 (Int.tdiv (wrap64 (1 - (wrap64 (t118 * (a : Int))))) (m : Int)), 1, 0)) hinv (Ev.const _)) fun k => ?_
    show (if (0 : Int) = 0 then _ else _) = _
    rw [if_pos rfl, if_neg (by omega), if_neg (by decide), hmx]
    rw [Int.tdiv_one, Int.tdiv_one, w64 (a : Int) (by omega) (by omega), w64 (m : Int) (by omega) (by omega)]
  obtain ⟨y, hB⟩ := hB
  unfold rest_Inverse.f
  rw [hof]
  refine (Ev.bind (G := fun bt121 _ => if bt121.2.2.1 = 1 then some (bt121.1, 0) else some (0, 4)) hB ((Ev.const _).eq fun k => if_pos rfl)).eq fun k => ?_
  rfl
theorem pl_dom {p : Int} (hp : p ∈ plist) (x y : Int) (h : (x * y) % p = 0) : x % p = 0 ∨ y % p = 0 := by
  obtain ⟨hp1, hp2⟩ := pl_pos hp
  by_cases hx : x % p = 0
  · exact .inl hx
  · right
    have h0 := Int.emod_nonneg x (show p ≠ 0 by omega)
    have h1 := Int.emod_lt_of_pos x (show 0 < p by omega)
    obtain ⟨r, _, _, _, hr⟩ := pl_inv hp (c := x % p) (by omega) h1
    have e1 := Int.mul_ediv_add_emod x p
    have e2 := Int.mul_ediv_add_emod (x % p * r) p
    have e3 := Int.mul_ediv_add_emod (x * y) p
    rw [hr, Int.emod_eq_of_lt (show (0 : Int) ≤ 1 by omega) hp1] at e2
    rw [h] at e3
    have : y = p * (r * (x * y / p) - r * (x / p) * y - (x % p * r / p) * y) := by grind
    rw [this]; exact Int.mul_emod_right _ _

/-! ### Checks -/
def Good (p : Int) (l : List Int) : Prop := In p l ∧ TL l ∧ l.length ≤ 40
theorem in_mem {p : Int} {l : List Int} (h : In p l) : ∀ x ∈ l, 0 ≤ x ∧ x < p := by
  intro x hx
  obtain ⟨i, hi, rfl⟩ := List.getElem_of_mem hx
  have := h i
  simpa [cf, List.getD, hi] using this
theorem check_ok {p : Int} (hp : p ∈ plist) {l : List Int} (h : Good p l) : Ev (fun k => poly_Check.f k p l) 0 := by
  refine (Ev.bind (G := fun e _ => some (poly_Check.g e p l)) (pl_field hp) (b := 0) ((Ev.const _).eq fun k => ?_)).eq fun k => rfl
  unfold poly_Check.g
  rw [if_pos rfl, if_neg (by have := h.2.2; omega), if_neg, if_neg]
  · rintro ⟨h1, h2⟩
    rcases h.2.1 with h3 | h3
    · rw [h3] at h1; simp at h1
    · rw [rd_cf] at h2
      have e : ((l.length : Int) - 1).toNat = l.length - 1 := by omega
      rw [e] at h2
      exact h3 h2
  · unfold poly_Check.bad
    intro hb
    obtain ⟨x, hx, hx2⟩ := List.any_eq_true.1 hb
    have := in_mem h.1 x hx
    simp only [Bool.or_eq_true, decide_eq_true_eq] at hx2
    omega
theorem checks_ok {p : Int} (hp : p ∈ plist) {f g : List Int} (hf : Good p f) (hg : Good p g) : Ev (fun k => poly_checks.f k p f g) 0 := by
  refine (Ev.bind (G := fun t k => if t = 0 then (poly_Check.f k p g).bind fun t175 => some t175 else some t) (check_ok hp hf) (b := 0) ((Ev.bind (G := fun t _ => some t) (check_ok hp hg) (Ev.const _)).eq fun k => ?_)).eq fun k => rfl
  rfl

/-! ### Dividing -/
theorem div_spec {p : Int} (hp : p ∈ plist) {f g : List Int} (hf : In p f) (hg : In p g) (hfl : f.length < 1000) (hgl : g.length < 1000) (hg0 : g ≠ []) (htl : TL g) :
    ∃ qq rr, Ev (fun k => poly_Divided.f k p f g) (qq, rr) ∧ In p rr ∧ TL rr ∧ rr.length < g.length ∧ ∃ u, (∃ d, Dg p d u) ∧ Cg p (cf f) (fun n => conv u (cf g) n + cf rr n) := by
  obtain ⟨hp1, hp2⟩ := pl_pos hp
  have hglen : 0 < g.length := List.length_pos_iff.2 hg0
  have htop : cf g (g.length - 1) ≠ 0 := by
    rcases htl with h | h
    · exact absurd h hg0
    · exact h
  have hb := hg (g.length - 1)
  obtain ⟨inv, i1, i2, i3, i4⟩ := pl_inv hp (c := cf g (g.length - 1)) (by omega) hb.2
  obtain ⟨T, hT⟩ : ∃ T : Nat, T = f.length + 1 - g.length := ⟨_, rfl⟩
  obtain ⟨qq, rr, k1, k2, k3, k4, u, k5, k6⟩ := div_outer (by omega) (by omega) g hg hglen hgl inv ⟨i2, i3⟩ i4 T f (List.replicate T 0) hf (by simp) (by simp; omega) (by omega) (by omega) (fun n hn => cf_out (by omega))
  refine ⟨qq, rr, ?_, k2, k3, k4, u, ⟨T, k5⟩, k6⟩
  have hmx : mx (wrap64 ((wrap64 ((f.length : Int) - (g.length : Int))) + 1)) 0 = (T : Int) := by
    rw [w64 ((f.length : Int) - g.length) (by omega) (by omega), w64 ((f.length : Int) - g.length + 1) (by omega) (by omega)]
    unfold mx
    split <;> omega
  unfold poly_Divided.f
  rw [clone_some (by omega), hmx, w64e ((g.length : Int) - 1) ((g.length - 1 : Nat) : Int) (by omega) (by omega) (by omega)]
  refine (Ev.bind (G := fun bt141 k => poly_Divided.l0 k p g f bt141.1 (List.replicate T 0) ((T : Int) - 1)) i1 k1).eq fun k => ?_
  simp only [Option.bind_some]
  rw [if_pos (by omega), if_pos (by omega), rd_cf, Int.toNat_natCast]
  congr 1
  funext bt
  rw [if_pos (by omega), Int.toNat_natCast, if_pos (by omega), List.length_replicate, w64 ((T : Int) - 1) (by omega) (by omega)]

/-! ### Products -/
theorem prod_inner {p : Int} (hp0 : 0 < p) (hp : p ≤ 1000) (g : List Int) (hg : In p g) (hgl : g.length < 1000) (a : Int) (ha : 0 ≤ a ∧ a < p) (ff : List Int) (nn : Int) (j : Nat) (m : Nat) :
    ∀ (i : Nat) (r : List Int), i + m = g.length → In p r → j + g.length ≤ r.length → r.length < 10000 →
    ∃ r', r'.length = r.length ∧ (∀ n, cf r' n = if j + i ≤ n ∧ n < j + g.length then (cf r n + a * cf g (n - j)) % p else cf r n) ∧
      ∀ R, Ev (fun k => poly_Product.l0 k p g r' ff nn ((j + 1 : Nat) : Int)) R → Ev (fun k => poly_Product.l1 k p g r (j : Int) a ff nn (j : Int) g (g.length : Int) (i : Int)) R := by
  induction m with
  | zero =>
    intro i r hi hr hlen hl
    refine ⟨r, rfl, fun n => by rw [if_neg (by omega)], fun R h => Ev.succ (h.eq fun k => ?_)⟩
    simp only [poly_Product.l1]
    rw [if_neg (by omega), w64e ((j : Int) + 1) ((j + 1 : Nat) : Int) (by omega) (by omega) (by omega)]
  | succ m ih =>
    intro i r hi hr hlen hl
    have hpc := in_mul hp ha (hg i)
    have hrb := hr (j + i)
    obtain ⟨v, hvd⟩ : ∃ v, v = (cf r (j + i) + a * cf g i) % p := ⟨_, rfl⟩
    have hv : 0 ≤ v ∧ v < p := by rw [hvd]; exact ⟨Int.emod_nonneg _ (by omega), Int.emod_lt_of_pos _ hp0⟩
    obtain ⟨r', h1, h2, h3⟩ := ih (i + 1) (r.set (j + i) v) (by omega) (fun n => by rw [cf_set]; split; exact hv; exact hr n) (by simp; omega) (by simpa using hl)
    refine ⟨r', by simpa using h1, fun n => ?_, fun R h => Ev.succ ((h3 R h).eq fun k => ?_)⟩
    · rw [h2, cf_set]
      by_cases e : n = j + i
      · subst e
        rw [if_neg (by omega), if_pos ⟨rfl, by omega⟩, if_pos (by omega), Nat.add_sub_cancel_left, hvd]
      · by_cases e2 : j + (i + 1) ≤ n ∧ n < j + g.length
        · rw [if_pos e2, if_neg (by omega), if_pos (by omega)]
        · rw [if_neg e2, if_neg (by omega), if_neg (by omega)]
    · simp only [poly_Product.l1]
      rw [w64e ((j : Int) + (i : Int)) ((j + i : Nat) : Int) (by omega) (by omega) (by omega), w64e ((i : Int) + 1) ((i + 1 : Nat) : Int) (by omega) (by omega) (by omega)]
      rw [if_pos (by omega), if_pos (by omega), if_pos (by omega), if_pos (by omega), if_pos (by omega), if_neg (by omega)]
      simp only [rd_cf, Int.toNat_natCast]
      generalize hx : a * cf g i = x at *
      rw [w64 x (by omega) (by omega), w64 _ (by omega) (by omega), tmod_pos (by omega), ← hvd]
theorem prod_outer {p : Int} (hp0 : 0 < p) (hp : p ≤ 1000) (f g : List Int) (hf : In p f) (hg : In p g) (hfl : f.length < 1000) (hgl : g.length < 1000) (m : Nat) :
    ∀ (i : Nat) (r : List Int), i + m = f.length → In p r → f.length + g.length ≤ r.length + 1 → r.length < 10000 → Cg p (cf r) (conv (fun n => if n < i then cf f n else 0) (cf g)) →
    ∃ t, Ev (fun k => poly_Product.l0 k p g r f (f.length : Int) (i : Int)) t ∧ In p t ∧ TL t ∧ t.length ≤ r.length ∧ Cg p (cf t) (conv (cf f) (cf g)) := by
  induction m with
  | zero =>
    intro i r hi hr hlen hl hc
    obtain ⟨t, t1, t2, t3, t4⟩ := trim_spec r (by omega)
    refine ⟨t, Ev.succ ((Ev.bind (G := fun y _ => some y) t1 (Ev.const t)).eq fun k => ?_), fun n => by rw [t2]; exact hr n, t3, t4, (Cg.of_eq t2).trans ?_⟩
    · simp only [poly_Product.l0]
      rw [if_neg (by omega)]
    · have e : (fun n => if n < i then cf f n else 0) = cf f := by
        funext n
        by_cases h : n < i
        · rw [if_pos h]
        · rw [if_neg h, cf_out (by omega)]
      rwa [e] at hc
  | succ m ih =>
    intro i r hi hr hlen hl hc
    obtain ⟨r', h1, h2, h3⟩ := prod_inner hp0 hp g hg hgl (cf f i) (hf i) f (f.length : Int) i g.length 0 r (by omega) hr (by omega) hl
    have hr' : In p r' := fun n => by
      rw [h2]; split
      · exact ⟨Int.emod_nonneg _ (by omega), Int.emod_lt_of_pos _ hp0⟩
      · exact hr n
    obtain ⟨t, t1, t2, t3, t4, t5⟩ := ih (i + 1) r' (by omega) hr' (by omega) (by omega) (by
      have e : (fun n => if n < i + 1 then cf f n else 0) = fun n => (if n < i then cf f n else 0) + (if n = i then cf f i else 0) := by
        funext n
        by_cases h : n < i
        · rw [if_pos h, if_pos (by omega), if_neg (by omega)]; simp
        · by_cases h5 : n = i
          · subst h5; simp
          · rw [if_neg h, if_neg (by omega), if_neg h5]; simp
      rw [e]
      refine Cg.trans ?_ (Cg.of_eq fun n => (conv_addl _ _ _ n).symm)
      refine Cg.trans ?_ (hc.add (Cg.refl p _))
      refine Cg.of_mod fun n => ?_
      rw [h2, conv_mono]
      by_cases h5 : i ≤ n
      · rw [if_pos h5]
        by_cases h6 : n < i + g.length
        · rw [if_pos (by omega), Int.emod_emod]
        · rw [if_neg (by omega), cf_out (l := g) (show g.length ≤ n - i by omega)]; simp
      · rw [if_neg h5, if_neg (by omega)]; simp)
    refine ⟨t, Ev.succ ((h3 t t1).eq fun k => ?_), t2, t3, by omega, t5⟩
    simp only [poly_Product.l0]
    rw [if_pos (by omega), if_pos (by omega), if_pos (by omega), rd_cf, Int.toNat_natCast]
    rfl
theorem prod_spec {p : Int} (hp : p ∈ plist) {f g : List Int} (hf : In p f) (hg : In p g) (hfl : f.length < 1000) (hgl : g.length < 1000) :
    ∃ t, Ev (fun k => poly_Product.f k p f g) t ∧ In p t ∧ TL t ∧ t.length ≤ f.length + g.length - 1 ∧ Cg p (cf t) (conv (cf f) (cf g)) := by
  obtain ⟨hp1, hp2⟩ := pl_pos hp
  have hnil : ∀ h : List Int, h = [] → cf h = Z := fun h e => by subst e; funext n; rfl
  by_cases h0 : f = [] ∨ g = []
  · refine ⟨[], Ev.eq (F := fun k => poly_Product.j0 k p f g true) (Ev.succ ((Ev.const _).eq fun k => ?_)) fun k => ?_, fun n => ?_, .inl rfl, by simp, ?_⟩
    · simp only [poly_Product.j0]; rfl
    · unfold poly_Product.f
      rcases h0 with h0 | h0
      · subst h0; rfl
      · subst h0; split <;> rfl
    · show 0 ≤ (0 : Int) ∧ (0 : Int) < p
      omega
    · refine Cg.of_eq fun n => ?_
      rcases h0 with h0 | h0
      · rw [hnil f h0, conv_Z]; rfl
      · rw [hnil g h0, conv_comm, conv_Z]; rfl
  · have hf0 : 0 < f.length := List.length_pos_iff.2 (fun e => h0 (.inl e))
    have hg0 : 0 < g.length := List.length_pos_iff.2 (fun e => h0 (.inr e))
    obtain ⟨L, hL⟩ : ∃ L : Nat, L = f.length + g.length - 1 := ⟨_, rfl⟩
    obtain ⟨t, t1, t2, t3, t4, t5⟩ := prod_outer (by omega) (by omega) f g hf hg hfl hgl f.length 0 (List.replicate L 0) (by omega) (fun n => by rw [cf_rep]; omega) (by rw [List.length_replicate]; omega) (by rw [List.length_replicate]; omega) (Cg.of_eq fun n => by
      rw [cf_rep]
      have : (fun n => if n < 0 then cf f n else 0) = Z := by funext n; simp [Z]
      rw [this, conv_Z])
    refine ⟨t, Ev.eq (F := fun k => poly_Product.j0 k p f g false) (Ev.succ (t1.eq fun k => ?_)) fun k => ?_, t2, t3, by rw [List.length_replicate] at t4; omega, t5⟩
    · simp only [poly_Product.j0]
      rw [if_neg (by decide), w64 ((f.length : Int) + g.length) (by omega) (by omega), w64e ((f.length : Int) + g.length - 1) (L : Int) (by omega) (by omega) (by omega), if_pos (by omega), Int.toNat_natCast, if_pos (by omega)]
      rfl
    · unfold poly_Product.f
      have e : ((g.length : Int) == 0) = false := beq_eq_false_iff_ne.2 (by omega)
      rw [if_neg (by omega), e]

theorem Dg_cf' {p : Int} (l : List Int) : ∃ d, Dg p d (cf l) := ⟨_, Dg_cf p l⟩
theorem cf_nil : cf [] = Z := by funext n; rfl
theorem one_mod {p : Int} (hp : 1 < p) : (1 : Int) % p = 1 := Int.emod_eq_of_lt (by omega) hp
theorem cf_one : cf [1] = one := by
  funext n
  cases n with
  | zero => rfl
  | succ n => simp [cf, one]
theorem cf_single (c : Int) : cf [c] = fun i => if i = 0 then c else 0 := by
  funext n
  cases n with
  | zero => rfl
  | succ n => simp [cf]
theorem cf_single_conv (c : Int) (f : Ser) (n : Nat) : conv f (cf [c]) n = c * f n := by
  rw [cf_single, conv_comm, conv_mono]; simp
theorem sing_ok {p c : Int} (h : 0 ≤ c ∧ c < p) : In p [c] := fun n => by
  cases n with
  | zero => exact h
  | succ n => show 0 ≤ (0 : Int) ∧ (0 : Int) < p; omega

/-! ### The greatest common divisor -/
theorem gcd_spec {p : Int} (hp : p ∈ plist) (m : Nat) : ∀ f g : List Int, g.length = m → In p f → In p g → TL f → TL g → f.length < 900 → g.length < 900 → (f ≠ [] ∨ g ≠ []) →
    ∃ c, Ev (fun k => poly_Gcd.l0 k p f g) (c, 0) ∧ In p c ∧ c ≠ [] ∧ cf c (c.length - 1) = 1 ∧ Dv p (cf c) (cf f) ∧ Dv p (cf c) (cf g) ∧ (g = [] → c.length = f.length) := by
  obtain ⟨hp1, hp2⟩ := pl_pos hp
  induction m using Nat.strongRecOn with
  | ind m ih =>
    intro f g hgm hf hg tf tg hfl hgl hne
    by_cases hg0 : g = []
    · subst hg0
      have hf0 : f ≠ [] := by rcases hne with h | h; exact h; exact absurd rfl h
      have hfp : 0 < f.length := List.length_pos_iff.2 hf0
      have htop : cf f (f.length - 1) ≠ 0 := by rcases tf with h | h; exact absurd h hf0; exact h
      have hb := hf (f.length - 1)
      obtain ⟨inv, i1, i2, i3, i4⟩ := pl_inv hp (c := cf f (f.length - 1)) (by omega) hb.2
      obtain ⟨t, t1, t2, t3, t4, t5⟩ := prod_spec hp hf (sing_ok ⟨i2, i3⟩) (by omega) (by simp)
      have t5' : Cg p (cf t) (fun n => inv * cf f n) := t5.trans (Cg.of_eq fun n => cf_single_conv inv (cf f) n)
      have htop1 : cf t (f.length - 1) = 1 := by
        have := t5'.mod (f.length - 1)
        rw [Int.emod_eq_of_lt (t2 _).1 (t2 _).2, Int.mul_comm, i4, one_mod hp1] at this
        exact this
      have htl : t.length = f.length := by
        rw [List.length_singleton] at t4
        by_cases h : f.length - 1 < t.length
        · omega
        · rw [cf_out (by omega)] at htop1; omega
      refine ⟨t, Ev.succ ?_, t2, ?_, ?_, ?_, ?_, fun _ => htl⟩
      · refine (Ev.bind (G := fun bt239 k => (poly_Product.f k p f [bt239.1]).bind fun t244 => some (t244, 0)) i1 (Ev.bind (G := fun t244 _ => some (t244, 0)) t1 (Ev.const _))).eq fun k => ?_
        simp only [poly_Gcd.l0]
        rw [if_neg (by simp), if_neg (by omega), w64e ((f.length : Int) - 1) ((f.length - 1 : Nat) : Int) (by omega) (by omega) (by omega), if_pos (by omega), if_pos (by omega), rd_cf, Int.toNat_natCast]
      · intro h; rw [h] at htl; simp at htl; omega
      · rw [htl]; exact htop1
      · refine ⟨cf [cf f (f.length - 1)], Dg_cf' _, ?_⟩
        refine Cg.trans ?_ (Cg.of_eq fun n => by rw [conv_comm, cf_single_conv] : Cg p (fun n => cf f (f.length - 1) * cf t n) _)
        refine Cg.of_mod fun n => ?_
        rw [Int.mul_emod, t5'.mod, ← Int.mul_emod]
        have e1 := Int.mul_ediv_add_emod (cf f (f.length - 1) * inv) p
        rw [i4, one_mod hp1] at e1
        have : cf f (f.length - 1) * (inv * cf f n) = cf f n + p * (cf f (f.length - 1) * inv / p * cf f n) := by grind
        rw [this, Int.add_mul_emod_self_left]
      · rw [cf_nil]
        exact ⟨Z, ⟨0, fun n _ => by simp [Z]⟩, Cg.of_eq fun n => by rw [conv_Z]; rfl⟩
    · obtain ⟨qq, rr, k1, k2, k3, k4, u, k5, k6⟩ := div_spec hp hf hg (by omega) (by omega) hg0 tg
      obtain ⟨c, c1, c2, c3, c4, c5, c6, _⟩ := ih rr.length (by omega) g rr rfl hg k2 tg k3 hgl (by omega) (.inl hg0)
      have hgp : 0 < g.length := List.length_pos_iff.2 hg0
      refine ⟨c, Ev.succ ((Ev.bind (G := fun bt232 k => poly_Gcd.l0 k p g bt232.2) k1 c1).eq fun k => ?_), c2, c3, c4, ((c5.mul k5).add c6).cg k6, c5, fun h => absurd h hg0⟩
      simp only [poly_Gcd.l0]
      rw [if_pos (by omega)]
end Go.Proofs.Ytonacfjhfkdgbaa.Pure
