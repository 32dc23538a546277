/- What is proved: which polynomials the program takes for irreducible, and which one it finds first (towards the plain statement behind the law IrredField). Conditions: those that each theorem names. -/
import Derived.Test.YtonacfjhfkdgbaaPureIrredFieldC
namespace Go.Proofs.Ytonacfjhfkdgbaa.Pure
open Go.RowKit Go.Proofs.Ytonacfjhfkdgbaa.PIrredField Go.Proofs.YtonacfjhfkdgbaaW.PrintWords Go.Proofs.YtonacfjhfkdgbaaW.PrintLast Go.Proofs.Ytonacfjhfkdgbaa.PolyZ

/-! ### Remainders by monic polynomials of degree 1 and 2 -/
def h1 (p m0 : Int) : List Int → Int
  | [] => 0
  | a :: f => (a - h1 p m0 f * m0) % p
def h2 (p m0 m1 : Int) : List Int → Int × Int
  | [] => (0, 0)
  | a :: f => let r := h2 p m0 m1 f; ((a - r.2 * m0) % p, (r.1 - r.2 * m1) % p)
def cons (a : Int) (f : Ser) : Ser
  | 0 => a
  | n + 1 => f n
theorem cf_cons (a : Int) (f : List Int) : cf (a :: f) = cons a (cf f) := by
  funext n
  cases n with
  | zero => rfl
  | succ n => rfl
theorem conv_cons (a : Int) (u m : Ser) (n : Nat) : conv (cons a u) m n = a * m n + cons 0 (conv u m) n := by
  cases n with
  | zero => simp [conv_zero, cons]
  | succ n => rw [conv_succ]; rfl
theorem cg_cons {p : Int} {f g : Ser} (a : Int) (h : Cg p f g) : Cg p (cons a f) (cons a g) := by
  obtain ⟨t, ht⟩ := h
  refine ⟨cons 0 t, fun n => ?_⟩
  cases n with
  | zero => show a = a + p * 0; omega
  | succ n => exact ht n
theorem dg_cons {p : Int} {d : Nat} {f : Ser} (a : Int) (h : Dg p d f) : Dg p (d + 1) (cons a f) := fun n hn => by
  cases n with
  | zero => omega
  | succ n => exact h n (by omega)
theorem h1_in {p : Int} (hp : 0 < p) (m0 : Int) (f : List Int) : 0 ≤ h1 p m0 f ∧ h1 p m0 f < p := by
  cases f with
  | nil => simp only [h1]; omega
  | cons a f => simp only [h1]; exact ⟨Int.emod_nonneg _ (by omega), Int.emod_lt_of_pos _ hp⟩
theorem h2_in {p : Int} (hp : 0 < p) (m0 m1 : Int) (f : List Int) : (0 ≤ (h2 p m0 m1 f).1 ∧ (h2 p m0 m1 f).1 < p) ∧ (0 ≤ (h2 p m0 m1 f).2 ∧ (h2 p m0 m1 f).2 < p) := by
  cases f with
  | nil => simp only [h2]; omega
  | cons a f => simp only [h2]; exact ⟨⟨Int.emod_nonneg _ (by omega), Int.emod_lt_of_pos _ hp⟩, ⟨Int.emod_nonneg _ (by omega), Int.emod_lt_of_pos _ hp⟩⟩
theorem h1_spec (p m0 : Int) (f : List Int) : ∃ u, (∃ d, Dg p d u) ∧ Cg p (cf f) (fun n => conv u (cf [m0, 1]) n + cf [h1 p m0 f] n) := by
  induction f with
  | nil => exact ⟨Z, ⟨0, fun n _ => by simp [Z]⟩, Cg.of_eq fun n => by rw [conv_Z]; cases n <;> rfl⟩
  | cons a f ih =>
    obtain ⟨u, ⟨d, hd⟩, hu⟩ := ih
    refine ⟨cons (h1 p m0 f) u, ⟨_, dg_cons _ hd⟩, ?_⟩
    rw [cf_cons]
    refine (cg_cons a hu).trans (Cg.of_mod fun n => ?_)
    rw [conv_cons]
    rcases n with _ | _ | n
    · show a % p = (h1 p m0 f * m0 + 0 + (a - h1 p m0 f * m0) % p) % p
      rw [Int.add_emod_emod]
      congr 1; omega
    · show (conv u (cf [m0, 1]) 0 + h1 p m0 f) % p = (h1 p m0 f * 1 + conv u (cf [m0, 1]) 0 + 0) % p
      congr 1; omega
    · show (conv u (cf [m0, 1]) (n + 1) + 0) % p = (h1 p m0 f * 0 + conv u (cf [m0, 1]) (n + 1) + 0) % p
      congr 1; omega
theorem h2_spec (p m0 m1 : Int) (f : List Int) : ∃ u, (∃ d, Dg p d u) ∧ Cg p (cf f) (fun n => conv u (cf [m0, m1, 1]) n + cf [(h2 p m0 m1 f).1, (h2 p m0 m1 f).2] n) := by
  induction f with
  | nil => exact ⟨Z, ⟨0, fun n _ => by simp [Z]⟩, Cg.of_eq fun n => by rw [conv_Z]; rcases n with _ | _ | n <;> rfl⟩
  | cons a f ih =>
    obtain ⟨u, ⟨d, hd⟩, hu⟩ := ih
    refine ⟨cons (h2 p m0 m1 f).2 u, ⟨_, dg_cons _ hd⟩, ?_⟩
    rw [cf_cons]
    refine (cg_cons a hu).trans (Cg.of_mod fun n => ?_)
    rw [conv_cons]
    rcases n with _ | _ | _ | n
    · show a % p = ((h2 p m0 m1 f).2 * m0 + 0 + (a - (h2 p m0 m1 f).2 * m0) % p) % p
      rw [Int.add_emod_emod]
      congr 1; omega
    · show (conv u (cf [m0, m1, 1]) 0 + (h2 p m0 m1 f).1) % p = ((h2 p m0 m1 f).2 * m1 + conv u (cf [m0, m1, 1]) 0 + ((h2 p m0 m1 f).1 - (h2 p m0 m1 f).2 * m1) % p) % p
      rw [Int.add_emod_emod]
      congr 1; omega
    · show (conv u (cf [m0, m1, 1]) 1 + (h2 p m0 m1 f).2) % p = ((h2 p m0 m1 f).2 * 1 + conv u (cf [m0, m1, 1]) 1 + 0) % p
      congr 1; omega
    · show (conv u (cf [m0, m1, 1]) (n + 2) + 0) % p = ((h2 p m0 m1 f).2 * 0 + conv u (cf [m0, m1, 1]) (n + 2) + 0) % p
      congr 1; omega
/-- Two remainders by the same monic polynomial are the same. -/
theorem rem_uniq {p : Int} (hp : p ∈ plist) {f m : Ser} {d : Nat} (hm : m d = 1) (hmd : Dg p (d + 1) m) {u u' : Ser} (hu : ∃ d, Dg p d u) (hu' : ∃ d, Dg p d u') {r r' : List Int} (hr : In p r) (hr' : In p r') (hl : r.length ≤ d) (hl' : r'.length ≤ d)
    (h : Cg p f (fun n => conv u m n + cf r n)) (h' : Cg p f (fun n => conv u' m n + cf r' n)) : ∀ n, cf r n = cf r' n := by
  obtain ⟨hp1, hp2⟩ := pl_pos hp
  obtain ⟨e, he⟩ := hu
  obtain ⟨e', he'⟩ := hu'
  have hd : Dv p m (fun n => cf r n - cf r' n) := by
    refine ⟨fun n => u' n - u n, ⟨e + e', (he'.mono (by omega)).sub (he.mono (by omega))⟩, ?_⟩
    refine Cg.of_mod fun n => ?_
    have e1 := h.symm.trans h'
    obtain ⟨t, ht⟩ := e1
    have e2 : conv u m n + cf r n = conv u' m n + cf r' n + p * t n := ht n
    have e3 : conv (fun n => u' n - u n) m n = conv u' m n - conv u m n := by
      have := conv_addl u' (fun i => (-1) * u i) m n
      rw [conv_sml] at this
      have e4 : (fun n => u' n - u n) = (fun i => u' i + (-1) * u i) := by funext i; omega
      rw [e4, this]; omega
    rw [e3]
    have e5 : cf r n - cf r' n = conv u' m n - conv u m n + p * t n := by omega
    rw [e5, Int.add_mul_emod_self_left]
  have hz := hd.small (pl_dom hp) (d := d) (by rw [hm, one_mod hp1]; decide) hmd (((Dg_cf p r).mono hl).sub ((Dg_cf p r').mono hl'))
  intro n
  have h5 := hz n (Nat.zero_le n)
  have h6 := Int.emod_eq_emod_iff_emod_sub_eq_zero.2 h5
  rwa [Int.emod_eq_of_lt (hr n).1 (hr n).2, Int.emod_eq_of_lt (hr' n).1 (hr' n).2] at h6
theorem mon1_top (p m0 : Int) : Dg p 2 (cf [m0, 1]) := Dg_cf p [m0, 1]
theorem mon2_top (p m0 m1 : Int) : Dg p 3 (cf [m0, m1, 1]) := Dg_cf p [m0, m1, 1]
theorem in_pair {p a b : Int} (ha : 0 ≤ a ∧ a < p) (hb : 0 ≤ b ∧ b < p) : In p [a, b] := fun n => by
  rcases n with _ | _ | n
  · exact ha
  · exact hb
  · show 0 ≤ (0 : Int) ∧ (0 : Int) < p; omega
theorem in_three {p a b c : Int} (ha : 0 ≤ a ∧ a < p) (hb : 0 ≤ b ∧ b < p) (hc : 0 ≤ c ∧ c < p) : In p [a, b, c] := fun n => by
  rcases n with _ | _ | _ | n
  · exact ha
  · exact hb
  · exact hc
  · show 0 ≤ (0 : Int) ∧ (0 : Int) < p; omega
theorem nil_of_zero {l : List Int} (h : TL l) (hz : ∀ n, cf l n = 0) : l = [] := List.eq_nil_of_length_eq_zero (Nat.le_zero.1 (h.len (d := 0) fun n _ => hz n))
theorem div1 {p : Int} (hp : p ∈ plist) {f : List Int} (hf : In p f) (hfl : f.length < 1000) {m0 : Int} (h0 : 0 ≤ m0 ∧ m0 < p) :
    ∃ qq rr, Ev (fun k => poly_Divided.f k p f [m0, 1]) (qq, rr) ∧ (rr = [] ↔ h1 p m0 f = 0) := by
  obtain ⟨hp1, hp2⟩ := pl_pos hp
  obtain ⟨qq, rr, k1, k2, k3, k4, u, k5, k6⟩ := div_spec hp hf (in_pair h0 ⟨by omega, hp1⟩) hfl (by simp) (by simp) (.inr (by show (1 : Int) ≠ 0; decide))
  obtain ⟨u', v1, v2⟩ := h1_spec p m0 f
  have e := rem_uniq hp (m := cf [m0, 1]) (d := 1) rfl (mon1_top p m0) k5 v1 k2 (sing_ok (h1_in (by omega) m0 f)) (by simp at k4; omega) (by simp) k6 v2
  refine ⟨qq, rr, k1, fun h => ?_, fun h => nil_of_zero k3 fun n => ?_⟩
  · subst h; exact (e 0).symm
  · rw [e, h]; cases n <;> rfl
theorem div2 {p : Int} (hp : p ∈ plist) {f : List Int} (hf : In p f) (hfl : f.length < 1000) {m0 m1 : Int} (h0 : 0 ≤ m0 ∧ m0 < p) (hm1 : 0 ≤ m1 ∧ m1 < p) :
    ∃ qq rr, Ev (fun k => poly_Divided.f k p f [m0, m1, 1]) (qq, rr) ∧ (rr = [] ↔ h2 p m0 m1 f = (0, 0)) := by
  obtain ⟨hp1, hp2⟩ := pl_pos hp
  obtain ⟨qq, rr, k1, k2, k3, k4, u, k5, k6⟩ := div_spec hp hf (in_three h0 hm1 ⟨by omega, hp1⟩) hfl (by simp) (by simp) (.inr (by show (1 : Int) ≠ 0; decide))
  obtain ⟨u', v1, v2⟩ := h2_spec p m0 m1 f
  have hi := h2_in (show 0 < p by omega) m0 m1 f
  have e := rem_uniq hp (m := cf [m0, m1, 1]) (d := 2) rfl (mon2_top p m0 m1) k5 v1 k2 (in_pair hi.1 hi.2) (by simp at k4; omega) (by simp) k6 v2
  refine ⟨qq, rr, k1, fun h => ?_, fun h => nil_of_zero k3 fun n => ?_⟩
  · subst h; exact Prod.ext (e 0).symm (e 1).symm
  · rw [e, h]; rcases n with _ | _ | n <;> rfl

/-! ### The monic ones, by their numbers -/
theorem mon1 {p : Int} (hp : p ∈ plist) (j : Nat) (hj : (j : Int) < p) : Ev (fun k => irred_monic.f k p 1 (j : Int)) [(j : Int), 1] := by
  obtain ⟨hp1, hp2⟩ := pl_pos hp
  refine Ev.eq (F := fun k => irred_monic.l0 k p (j : Int) [0, 1] 1 0) (Ev.succ (Ev.succ ((Ev.const _).eq fun k => ?_))) fun k => ?_
  · simp only [irred_monic.l0]
    rw [if_pos (by decide), if_neg (by omega), if_pos (by decide), if_pos (by decide), w64e (0 + 1) 1 (by omega) (by omega) (by omega), if_neg (by decide), tmod_pos (by omega), Int.emod_eq_of_lt (by omega) hj]
    rfl
  · unfold irred_monic.f
    rw [w64e (1 + 1) 2 (by omega) (by omega) (by omega)]
    rfl
theorem mon2 {p : Int} (hp : p ∈ plist) (j : Nat) (hj : (j : Int) < p * p) : Ev (fun k => irred_monic.f k p 2 (j : Int)) [(j : Int) % p, (j : Int) / p, 1] := by
  obtain ⟨hp1, hp2⟩ := pl_pos hp
  have hd : (j : Int) / p < p := Int.ediv_lt_of_lt_mul (by omega) hj
  have hd0 : 0 ≤ (j : Int) / p := Int.ediv_nonneg (by omega) (by omega)
  refine Ev.eq (F := fun k => irred_monic.l0 k p (j : Int) [0, 0, 1] 2 0) (Ev.succ (Ev.succ (Ev.succ ((Ev.const _).eq fun k => ?_)))) fun k => ?_
  · simp only [irred_monic.l0]
    have e1 : Int.tdiv (j : Int) p = (j : Int) / p := Int.tdiv_eq_ediv_of_nonneg (by omega)
    rw [if_pos (by decide), if_neg (by omega), if_pos (by decide), if_pos (by decide), w64e (0 + 1) 1 (by omega) (by omega) (by omega), if_pos (by decide), if_neg (by omega), if_pos (by decide), e1, w64 ((j : Int) / p) (by omega) (by omega), tmod_pos hd0, Int.emod_eq_of_lt hd0 hd, tmod_pos (by omega), w64e (1 + 1) 2 (by omega) (by omega) (by omega)]
    rfl
  · unfold irred_monic.f
    rw [w64e (2 + 1) 3 (by omega) (by omega) (by omega)]
    rfl
theorem pow1 {p : Int} (hp : p ∈ plist) : Ev (fun k => irred_power.f k p 1) p := by
  obtain ⟨hp1, hp2⟩ := pl_pos hp
  unfold irred_power.f
  refine Ev.succ (Ev.succ ((Ev.const _).eq fun k => ?_))
  simp only [irred_power.l0]
  rw [if_pos (by decide), w64e (1 * p) p (by omega) (by omega) (by omega), if_neg (by omega), w64e (0 + 1) 1 (by omega) (by omega) (by omega), if_neg (by decide)]
theorem pow2 {p : Int} (hp : p ∈ plist) : Ev (fun k => irred_power.f k p 2) (p * p) := by
  obtain ⟨hp1, hp2⟩ := pl_pos hp
  have h1 : p * p ≤ p * 1000 := Int.mul_le_mul_of_nonneg_left (by omega) (by omega)
  have h2 : 0 ≤ p * p := Int.mul_nonneg (by omega) (by omega)
  have h3 : p * p ≤ 1000000 := by omega
  unfold irred_power.f
  refine Ev.succ (Ev.succ (Ev.succ ((Ev.const _).eq fun k => ?_)))
  simp only [irred_power.l0]
  rw [if_pos (by decide), w64e (1 * p) p (by omega) (by omega) (by omega), if_neg (by omega), w64e (0 + 1) 1 (by omega) (by omega) (by omega), if_pos (by decide), w64 (p * p) (by omega) (by omega), if_neg (by omega), w64e (1 + 1) 2 (by omega) (by omega) (by omega), if_neg (by decide)]

/-! ### Is it irreducible? -/
def t1 (p : Int) (f : List Int) (N : Nat) : Bool := (List.range N).all fun j => h1 p (j : Int) f != 0
def t2 (p : Int) (f : List Int) (N : Nat) : Bool := (List.range N).all fun j => h2 p ((j : Int) % p) ((j : Int) / p) f != (0, 0)
def isB (p : Int) (f : List Int) : Bool := t1 p f p.toNat && (decide (f.length < 5) || t2 p f (p * p).toNat)
theorem is_loop {p : Int} (f : List Int) (d : Int) (N : Nat) (hN : N ≤ 1000000) (hd : wrap64 (d + 1) = d + 1) (mon : Nat → List Int) (bad : Nat → Bool) (hm : ∀ j, j < N → Ev (fun k => irred_monic.f k p d (j : Int)) (mon j)) (hb : ∀ j, j < N → ∃ qq rr, Ev (fun k => poly_Divided.f k p f (mon j)) (qq, rr) ∧ (rr = [] ↔ bad j = true)) (R : Bool) (m : Nat) :
    ∀ j : Nat, j + m = N → ((∀ i, j ≤ i → i < N → bad i = false) → Ev (fun k => irred_is.l0 k p f (d + 1)) R) → ((∃ i, j ≤ i ∧ i < N ∧ bad i = true) → R = false) → Ev (fun k => irred_is.l1 k p f d (N : Int) (j : Int)) R := by
  induction m with
  | zero =>
    intro j hj h1 h2
    refine Ev.succ ((h1 fun i h3 h4 => by omega).eq fun k => ?_)
    simp only [irred_is.l1]
    rw [if_neg (by omega), hd]
  | succ m ih =>
    intro j hj g1 g2
    obtain ⟨qq, rr, k1, k2⟩ := hb j (by omega)
    cases hbj : bad j with
    | true =>
      have hr := k2.2 hbj
      obtain rfl := g2 ⟨j, Nat.le_refl j, by omega, hbj⟩
      refine Ev.succ (Ev.eq (Ev.bind (G := fun t158 k => (poly_Divided.f k p f t158).bind fun bt161 => if (bt161.2.length : Int) = 0 then some false else irred_is.l1 k p f d (N : Int) (wrap64 ((j : Int) + 1))) (hm j (by omega)) (Ev.bind (G := fun bt161 k => if (bt161.2.length : Int) = 0 then some false else irred_is.l1 k p f d (N : Int) (wrap64 ((j : Int) + 1))) k1 ((Ev.const false).eq fun k => if_pos (by rw [hr]; rfl)))) fun k => ?_)
      simp only [irred_is.l1]
      rw [if_pos (by omega)]
    | false =>
      have hr : rr ≠ [] := fun h => by rw [k2.1 h] at hbj; cases hbj
      have hlen : 0 < rr.length := List.length_pos_iff.2 hr
      have hnext := ih (j + 1) (by omega) (fun h => g1 fun i h3 h4 => by
        rcases Nat.eq_or_lt_of_le h3 with rfl | h5
        · exact hbj
        · exact h i (by omega) h4) (fun ⟨i, h3, h4, h5⟩ => g2 ⟨i, by omega, h4, h5⟩)
      refine Ev.succ (Ev.eq (Ev.bind (G := fun t158 k => (poly_Divided.f k p f t158).bind fun bt161 => if (bt161.2.length : Int) = 0 then some false else irred_is.l1 k p f d (N : Int) (wrap64 ((j : Int) + 1))) (hm j (by omega)) (Ev.bind (G := fun bt161 k => if (bt161.2.length : Int) = 0 then some false else irred_is.l1 k p f d (N : Int) (wrap64 ((j : Int) + 1))) k1 (hnext.eq fun k => ?_))) fun k => ?_)
      · show (if (rr.length : Int) = 0 then _ else _) = _
        rw [if_neg (by omega), w64e ((j : Int) + 1) ((j + 1 : Nat) : Int) (by omega) (by omega) (by omega)]
      · simp only [irred_is.l1]
        rw [if_pos (by omega)]
theorem is_spec {p : Int} (hp : p ∈ plist) {f : List Int} (hf : In p f) (hl : 3 ≤ f.length ∧ f.length ≤ 6) : Ev (fun k => irred_is.f k p f) (isB p f) := by
  obtain ⟨hp1, hp2⟩ := pl_pos hp
  have hpp1 : p * p ≤ p * 1000 := Int.mul_le_mul_of_nonneg_left (by omega) (by omega)
  have hpp0 : 0 ≤ p * p := Int.mul_nonneg (by omega) (by omega)
  have hpp : p * p ≤ 1000000 := by omega
  have ep : ((p.toNat : Nat) : Int) = p := Int.toNat_of_nonneg (by omega)
  have epp : (((p * p).toNat : Nat) : Int) = p * p := Int.toNat_of_nonneg hpp0
  have L1 := is_loop (p := p) f 1 p.toNat (by omega) (w64 _ (by omega) (by omega)) (fun j => [(j : Int), 1]) (fun j => h1 p (j : Int) f == 0) (fun j hj => mon1 hp j (by omega)) (fun j hj => by
    obtain ⟨qq, rr, k1, k2⟩ := div1 hp hf (by omega) (m0 := (j : Int)) ⟨by omega, by omega⟩
    exact ⟨qq, rr, k1, by rw [k2]; simp⟩) (isB p f) p.toNat 0 (by omega)
  have L2 := is_loop (p := p) f 2 (p * p).toNat (by omega) (w64 _ (by omega) (by omega)) (fun j => [(j : Int) % p, (j : Int) / p, 1]) (fun j => h2 p ((j : Int) % p) ((j : Int) / p) f == (0, 0)) (fun j hj => mon2 hp j (by omega)) (fun j hj => by
    obtain ⟨qq, rr, k1, k2⟩ := div2 hp hf (by omega) (m0 := (j : Int) % p) (m1 := (j : Int) / p) ⟨Int.emod_nonneg _ (by omega), Int.emod_lt_of_pos _ (by omega)⟩ ⟨Int.ediv_nonneg (by omega) (by omega), Int.ediv_lt_of_lt_mul (by omega) (by omega)⟩
    exact ⟨qq, rr, k1, by rw [k2]; simp⟩) (isB p f) (p * p).toNat 0 (by omega)
  rw [ep] at L1
  rw [epp] at L2
  have hstop : ∀ R, (R = true) → Ev (fun k => irred_is.l0 k p f (1 + 1 + 1)) R := fun R hR => by
    subst hR
    refine Ev.succ ((Ev.const _).eq fun k => ?_)
    simp only [irred_is.l0]
    rw [w64e (2 * (1 + 1 + 1)) 6 (by omega) (by omega) (by omega), w64 ((f.length : Int) - 1) (by omega) (by omega), if_neg (by omega)]
  have hA : ∀ N : Nat, (∀ i : Nat, 0 ≤ i → i < N → (h1 p (i : Int) f == 0) = false) → t1 p f N = true := fun N h => List.all_eq_true.2 fun j hj => by
    have := h j (Nat.zero_le _) (List.mem_range.1 hj)
    simpa using this
  have hA' : ∀ N : Nat, (∃ i : Nat, 0 ≤ i ∧ i < N ∧ (h1 p (i : Int) f == 0) = true) → t1 p f N = false := fun N ⟨i, _, h3, h4⟩ => by
    cases h : t1 p f N with
    | false => rfl
    | true =>
      have := List.all_eq_true.1 h i (List.mem_range.2 h3)
      simp at this h4; exact absurd h4 this
  have hB : ∀ N : Nat, (∀ i : Nat, 0 ≤ i → i < N → (h2 p ((i : Int) % p) ((i : Int) / p) f == (0, 0)) = false) → t2 p f N = true := fun N h => List.all_eq_true.2 fun j hj => by
    have := h j (Nat.zero_le _) (List.mem_range.1 hj)
    unfold bne; rw [this]; rfl
  have hB' : ∀ N : Nat, (∃ i : Nat, 0 ≤ i ∧ i < N ∧ (h2 p ((i : Int) % p) ((i : Int) / p) f == (0, 0)) = true) → t2 p f N = false := fun N ⟨i, _, h3, h4⟩ => by
    cases h : t2 p f N with
    | false => rfl
    | true =>
      have := List.all_eq_true.1 h i (List.mem_range.2 h3)
      unfold bne at this; rw [h4] at this; cases this
  unfold irred_is.f
  refine Ev.eq (F := fun k => irred_is.l0 k p f 1) (Ev.succ ((Ev.bind (G := fun t157 k => irred_is.l1 k p f 1 t157 0) (pow1 hp) (L1 (fun h => ?_) (fun h => ?_))).eq fun k => ?_)) fun k => if_neg (by omega)
  · by_cases h5 : f.length < 5
    · refine Ev.succ ((Ev.const _).eq fun k => ?_)
      simp only [irred_is.l0]
      rw [w64e (2 * (1 + 1)) 4 (by omega) (by omega) (by omega), w64 ((f.length : Int) - 1) (by omega) (by omega), if_neg (by omega)]
      unfold isB
      rw [hA _ h]; simp [h5]
    · refine Ev.succ ((Ev.bind (G := fun t157 k => irred_is.l1 k p f 2 t157 0) (pow2 hp) (L2 (fun g => ?_) (fun g => ?_))).eq fun k => ?_)
      · refine hstop _ ?_
        unfold isB
        rw [hA _ h, hB _ g]; simp
      · unfold isB
        rw [hB' _ g]; simp [h5]
      · simp only [irred_is.l0]
        rw [w64e (2 * (1 + 1)) 4 (by omega) (by omega) (by omega), w64 ((f.length : Int) - 1) (by omega) (by omega), if_pos (by omega)]
        rfl
  · unfold isB
    rw [hA' _ h]; rfl
  · simp only [irred_is.l0]
    rw [w64e (2 * 1) 2 (by omega) (by omega) (by omega), w64 ((f.length : Int) - 1) (by omega) (by omega), if_pos (by omega)]
end Go.Proofs.Ytonacfjhfkdgbaa.Pure
