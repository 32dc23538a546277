/- What is proved: a code row that is made up out of as many of its bytes as there were at first, one place being left out, is the row (for up to six bytes and nine places). Conditions: those that each theorem names. -/
import Derived.Test.YtjbiiciippclcaaDoorRowEv
namespace Go.Proofs.YtjbiiciippclcaaDoor.Pure
open Go.RowKit Go.Proofs.YtjbiiciippclcaaDoor.PPieceLong Go.Proofs.YtjbiiciippclcaaDoorW.PrintWords Go.Proofs.YtjbiiciippclcaaDoorW.PrintLast Go.Proofs.YtjbiiciippclcaaDoor.GF
set_option linter.unusedVariables false

/-! ### Sums by xor -/
def xs (f : Nat → Nat) : Nat → Nat
  | 0 => 0
  | n + 1 => xs f n ^^^ f n
theorem xs_lt {f : Nat → Nat} (h : ∀ i, f i < 256) (n : Nat) : xs f n < 256 := by
  induction n with
  | zero => simp [xs]
  | succ n ih => exact xor_lt ih (h n)
theorem xs_congr {f g : Nat → Nat} {n : Nat} (h : ∀ i, i < n → f i = g i) : xs f n = xs g n := by
  induction n with
  | zero => rfl
  | succ n ih => simp only [xs]; rw [ih fun i hi => h i (by omega), h n (by omega)]
theorem xs_xor (f g : Nat → Nat) (n : Nat) : xs (fun i => f i ^^^ g i) n = xs f n ^^^ xs g n := by
  induction n with
  | zero => simp [xs]
  | succ n ih => simp only [xs]; rw [ih, xor4]
theorem xs_zero (n : Nat) : xs (fun _ => 0) n = 0 := by
  induction n with
  | zero => rfl
  | succ n ih => simp only [xs]; rw [ih]; rfl
theorem xs_swap (f : Nat → Nat → Nat) (n m : Nat) : xs (fun i => xs (fun j => f i j) m) n = xs (fun j => xs (fun i => f i j) n) m := by
  induction n with
  | zero => simp only [xs]; rw [xs_zero]
  | succ n ih => simp only [xs]; rw [ih, ← xs_xor]
theorem gm_xs {f : Nat → Nat} (a : Nat) (n : Nat) : gm a (xs f n) = xs (fun i => gm a (f i)) n := by
  induction n with
  | zero => exact gm_zero' a
  | succ n ih => simp only [xs]; rw [gm_right, ih]
theorem xs_gm {f : Nat → Nat} (h : ∀ i, f i < 256) (a : Nat) (n : Nat) : gm (xs f n) a = xs (fun i => gm (f i) a) n := by
  induction n with
  | zero => exact gm_zero a
  | succ n ih => simp only [xs]; rw [gm_left _ _ _ (xs_lt h n) (h n), ih]
/-! ### A row is linear in its bytes -/
def L (p : List Nat) (i x : Nat) : Nat := tm p i x 1 p.length
theorem L_lt (p : List Nat) (i x : Nat) : L p i x < 256 := tm_lt p i x 1 _ (by omega)
theorem tm_one (p : List Nat) (hp : Bytes p) (i x t j : Nat) (hx : x < 256) (ht : t < 256) : tm p i x t j = gm t (tm p i x 1 j) := by
  induction j with
  | zero => exact (gm_one t ht).symm
  | succ j ih =>
    simp only [tm]
    split
    · exact ih
    · rw [ih, gm_assoc _ _ _ ht (tm_lt p i x 1 j (by omega)) (fac_lt p hp i x j hx)]
theorem rs_xs (p b : List Nat) (hp : Bytes p) (hb : Bytes b) (x : Nat) (hx : x < 256) (n : Nat) : rs p b x n = xs (fun i => gm (b.getD i 0) (L p i x)) n := by
  induction n with
  | zero => rfl
  | succ n ih => simp only [rs, xs]; rw [ih, tm_one p hp n x _ _ hx (hb n)]; rfl
theorem mended (p q b c : List Nat) (hp : Bytes p) (hq : Bytes q) (hb : Bytes b) (hc : Bytes c) (k : Nat) (hpk : p.length = k) (hqk : q.length = k) (x : Nat) (hx : x < 256)
    (he : ∀ j, j < k → c.getD j 0 = rs p b (q.getD j 0) k) (hL : ∀ i, i < k → xs (fun j => gm (L p i (q.getD j 0)) (L q j x)) k = L p i x) : rs q c x k = rs p b x k := by
  rw [rs_xs q c hq hc x hx, rs_xs p b hp hb x hx]
  have h1 : xs (fun j => gm (c.getD j 0) (L q j x)) k = xs (fun j => xs (fun i => gm (b.getD i 0) (gm (L p i (q.getD j 0)) (L q j x))) k) k := by
    refine xs_congr fun j hj => ?_
    rw [he j hj, rs_xs p b hp hb _ (hq j), xs_gm (fun i => gm_lt _ _ (hb i))]
    exact xs_congr fun i _ => gm_assoc _ _ _ (hb i) (L_lt p i _) (L_lt q j x)
  rw [h1, xs_swap]
  refine xs_congr fun i hi => ?_
  rw [← gm_xs, hL i hi]
/-! ### The places -/
def lostP (k z : Nat) : List Nat := (List.range (k + 1)).filter fun j => j != z
def lawB (k : Nat) : Bool := (List.range (k + 1)).all fun z => (List.range k).all fun i => (List.range 10).all fun x => xs (fun j => gm (L (List.range k) i ((lostP k z).getD j 0)) (L (lostP k z) j x)) k == L (List.range k) i x
theorem law_tab : (List.range 7).all lawB = true := by decide +kernel
theorem law_at (k z i x : Nat) (hk : k ≤ 6) (hz : z ≤ k) (hi : i < k) (hx : x < 10) : xs (fun j => gm (L (List.range k) i ((lostP k z).getD j 0)) (L (lostP k z) j x)) k = L (List.range k) i x := by
  have h := List.all_eq_true.1 law_tab k (List.mem_range.2 (by omega))
  have h1 := List.all_eq_true.1 h z (List.mem_range.2 (by omega))
  have h2 := List.all_eq_true.1 h1 i (List.mem_range.2 hi)
  exact beq_iff_eq.1 (List.all_eq_true.1 h2 x (List.mem_range.2 hx))
def unitB (k : Nat) : Bool := (List.range k).all fun i => (List.range k).all fun x => L (List.range k) i x == if i = x then 1 else 0
theorem unit_tab : (List.range 11).all unitB = true := by decide +kernel
theorem unit_at (k i x : Nat) (hk : k ≤ 10) (hi : i < k) (hx : x < k) : L (List.range k) i x = if i = x then 1 else 0 := by
  have h := List.all_eq_true.1 unit_tab k (List.mem_range.2 (by omega))
  exact beq_iff_eq.1 (List.all_eq_true.1 (List.all_eq_true.1 h i (List.mem_range.2 hi)) x (List.mem_range.2 hx))
def lostLenB (k : Nat) : Bool := (List.range (k + 1)).all fun z => (lostP k z).length == k
theorem lostLen_tab : (List.range 11).all lostLenB = true := by decide +kernel
theorem lostP_length (k z : Nat) (hk : k ≤ 10) (hz : z ≤ k) : (lostP k z).length = k := by
  have h := List.all_eq_true.1 lostLen_tab k (List.mem_range.2 (by omega))
  exact beq_iff_eq.1 (List.all_eq_true.1 h z (List.mem_range.2 (by omega)))
theorem range_bytes (k : Nat) (hk : k ≤ 256) : Bytes (List.range k) := Bytes.of fun a ha => by have := List.mem_range.1 ha; omega
theorem lostP_bytes (k z : Nat) (hk : k < 256) : Bytes (lostP k z) := Bytes.of fun a ha => by
  have := List.mem_range.1 (List.mem_filter.1 ha).1; omega
theorem xs_one {f : Nat → Nat} {k x : Nat} (hx : x < k) (h : ∀ i, i < k → i ≠ x → f i = 0) : xs f k = f x := by
  induction k with
  | zero => omega
  | succ k ih =>
    simp only [xs]
    by_cases e : k = x
    · subst e
      rw [show xs f k = 0 from (xs_congr (g := fun _ => 0) fun i hi => h i (by omega) (by omega)).trans (xs_zero k), Nat.zero_xor]
    · rw [ih (by omega) fun i hi => h i (by omega), h k (by omega) e, Nat.xor_zero]
/-- The first bytes of a row are the data. -/
theorem row_data (b : List Nat) (hb : Bytes b) (k x : Nat) (hk : k ≤ 10) (hx : x < k) : rs (List.range k) b x k = b.getD x 0 := by
  rw [rs_xs _ b (range_bytes k (by omega)) hb x (by omega), xs_one hx]
  · rw [unit_at k x x hk hx hx, if_pos rfl]; exact gm_one _ (hb x)
  · intro i hi hne
    rw [unit_at k i x hk hi hx, if_neg hne]; exact gm_zero' _
/-- A row is made up out of k of its bytes, place z being left out. -/
theorem row_mended (b : List Nat) (hb : Bytes b) (k z n : Nat) (hk : k ≤ 6) (hz : z ≤ k) (hn : n ≤ 10) (c : List Nat) (hc : Bytes c)
    (he : ∀ j, j < k → c.getD j 0 = rs (List.range k) b ((lostP k z).getD j 0) k) : row (lostP k z) c n = row (List.range k) b n := by
  have hq := lostP_length k z (by omega) hz
  unfold row
  rw [hq, List.length_range]
  refine List.map_congr_left fun x hx => ?_
  have hxn := List.mem_range.1 hx
  exact mended _ _ b c (range_bytes k (by omega)) (lostP_bytes k z (by omega)) hb hc k (List.length_range) hq x (by omega) he fun i hi => law_at k z i x hk hz hi (by omega)
end Go.Proofs.YtjbiiciippclcaaDoor.Pure
