/- What is proved: what the program's product of bytes, its inverse and its code row come to, told of natural numbers. Conditions: those that each theorem names. -/
import Derived.Test.YtjbiiciippclcaaDoorPPieceLongx5
import Derived.Test.YtjbiiciippclcaaDoorGF
namespace Go.Proofs.YtjbiiciippclcaaDoor.Pure
open Go.RowKit Go.Proofs.YtjbiiciippclcaaDoor.PPieceLong Go.Proofs.YtjbiiciippclcaaDoorW.PrintWords Go.Proofs.YtjbiiciippclcaaDoorW.PrintLast Go.Proofs.YtjbiiciippclcaaDoor.GF
set_option linter.unusedVariables false

theorem w64 {i : Int} (h0 : 0 ≤ i) (h : i < 4611686018427387904) : wrap64 i = i := by unfold wrap64; omega
theorem w64s {j : Nat} (h : j < 4611686018427387903) : wrap64 ((j : Int) + 1) = ((j + 1 : Nat) : Int) := by unfold wrap64; omega
theorem w64d {x : Nat} (h : x < 256) : wrap64 ((x : Int) * 2) = ((2 * x : Nat) : Int) := by unfold wrap64; omega
theorem x64 (a b : Nat) (ha : a < 256) (hb : b < 256) : bits .xor .i64 (a : Int) (b : Int) = ((a ^^^ b : Nat) : Int) := xor64 _ _ (by omega) (by omega)
theorem x64m (a b : Nat) (ha : a < 256) (hb : b < 256) : bits .xor .i64 (a : Int) (b : Int) % 256 = ((a ^^^ b : Nat) : Int) := by
  have h := xor_lt ha hb
  rw [x64 a b ha hb]; omega
theorem x285 (a : Nat) (ha : a < 512) : bits .xor .i64 (a : Int) 285 = ((a ^^^ 285 : Nat) : Int) := xor64 _ 285 (by omega) (by omega)
theorem and1_8 (x : Nat) (hx : x < 256) : bits .and .u8 (x : Int) 1 = ((x % 2 : Nat) : Int) := by
  have h := bits_mask .u8 8 (by decide) wraps_u8 1 (by decide) (x : Int) (by omega) (by omega)
  simpa using h
/-! ### Lists of natural numbers as Go's -/
def ints (l : List Nat) : List Int := l.map fun (a : Nat) => (a : Int)
theorem ints_length (l : List Nat) : (ints l).length = l.length := by simp [ints]
theorem rd_ints (l : List Nat) (i : Nat) : rd (ints l) (i : Int) = ((l.getD i 0 : Nat) : Int) := by
  unfold rd ints
  rw [Int.toNat_natCast, List.getD_eq_getElem?_getD, List.getD_eq_getElem?_getD, List.getElem?_map]
  cases l[i]? <;> rfl
theorem ints_set (l : List Nat) (i v : Nat) : (ints l).set i (v : Int) = ints (l.set i v) := by simp [ints, List.map_set]
theorem ints_rep (n : Nat) : List.replicate n (0 : Int) = ints (List.replicate n 0) := by simp [ints]
theorem ints_append (l m : List Nat) : ints l ++ ints m = ints (l ++ m) := by simp [ints]
theorem getD_set (l : List Nat) (i j v : Nat) : (l.set i v).getD j 0 = if j = i ∧ i < l.length then v else l.getD j 0 := by
  rw [List.getD_eq_getElem?_getD, List.getD_eq_getElem?_getD, List.getElem?_set]
  by_cases h : i = j
  · subst h
    by_cases h2 : i < l.length
    · simp [h2]
    · simp [h2]
  · rw [if_neg h, if_neg (by omega)]
theorem nat_ext {l m : List Nat} (h : l.length = m.length) (e : ∀ n, n < l.length → l.getD n 0 = m.getD n 0) : l = m := by
  apply List.ext_getElem h
  intro n h1 h2
  have := e n h1
  simpa [List.getD, h1, h2] using this
/-! ### The product, the inverse -/
theorem mul_l0 (n : Nat) : ∀ b x out : Nat, b < 2 ^ n → b < 256 → x < 256 → out < 256 → Ev (fun k => field_Mul.l0 k (b : Int) (x : Int) (out : Int)) ((out ^^^ gmk n x b : Nat) : Int) := by
  induction n with
  | zero =>
    intro b x out hb _ _ ho
    obtain rfl : b = 0 := by omega
    refine Ev.step (f := fun _ => some (out : Int)) (fun k => ?_) (by simpa [gmk] using Ev.now (out : Int))
    simp only [field_Mul.l0]
    rw [if_neg (by omega), show (out : Int) % 256 = out by omega]
  | succ n ih =>
    intro b x out hb hb2 hx ho
    by_cases h0 : b = 0
    · subst h0
      refine Ev.step (f := fun _ => some (out : Int)) (fun k => ?_) (by simpa [gmk, gmk_zero'] using Ev.now (out : Int))
      simp only [field_Mul.l0]
      rw [if_neg (by omega), show (out : Int) % 256 = out by omega]
    · have ex : wrap64 ((x : Int) * 2) = ((2 * x : Nat) : Int) := by rw [w64 (by omega) (by omega)]; omega
      have eb : (b : Int) / 2 = ((b / 2 : Nat) : Int) := by omega
      have hxt := xt_lt x hx
      have hox : out ^^^ x < 256 := xor_lt ho hx
      have hb' : b / 2 < 2 ^ n := by rw [Nat.pow_succ] at hb; omega
      have hgo : ∀ o : Nat, o < 256 → Ev (fun k => field_Mul.l0 k ((b / 2 : Nat) : Int) (xt x : Int) (o : Int)) ((o ^^^ gmk n (xt x) (b / 2) : Nat) : Int) := fun o h => ih _ _ _ hb' (by omega) hxt h
      have hxe : (if (((2 * x : Nat) : Int) > 255) then ((((2 * x) ^^^ 285 : Nat) : Int)) else ((2 * x : Nat) : Int)) = (xt x : Int) := by
        unfold xt
        by_cases h : 255 < 2 * x
        · rw [if_pos (by omega), if_pos h]
        · rw [if_neg (by omega), if_neg h]
      by_cases h1 : b % 2 = 1
      · refine Ev.step (f := fun k => field_Mul.l0 k ((b / 2 : Nat) : Int) (xt x : Int) ((out ^^^ x : Nat) : Int)) (fun k => ?_) ?_
        · simp only [field_Mul.l0]
          rw [if_pos (by omega), and1_8 b hb2, if_pos (by omega), w64d hx, x285 _ (by omega), x64 _ _ ho hx, eb, ← hxe]
          split <;> rfl
        · have := hgo _ hox
          simp only [gmk]
          rw [if_pos h1, ← Nat.xor_assoc]
          exact this
      · refine Ev.step (f := fun k => field_Mul.l0 k ((b / 2 : Nat) : Int) (xt x : Int) (out : Int)) (fun k => ?_) ?_
        · simp only [field_Mul.l0]
          rw [if_pos (by omega), and1_8 b hb2, if_neg (by omega), w64d hx, x285 _ (by omega), eb, ← hxe]
          split <;> rfl
        · have := hgo _ ho
          simp only [gmk]
          rw [if_neg h1, Nat.zero_xor]
          exact this
theorem mul_ev (a b : Nat) (ha : a < 256) (hb : b < 256) : Ev (fun k => field_Mul.f k (a : Int) (b : Int)) ((gm a b : Nat) : Int) := by
  refine Ev.congr (f := fun k => field_Mul.l0 k (b : Int) (a : Int) ((0 : Nat) : Int)) (fun k => ?_) ?_
  · show field_Mul.l0 k b (wrap64 a) 0 = _
    rw [w64 (by omega) (by omega)]; rfl
  · have := mul_l0 8 b a 0 (by simpa using hb) hb ha (by omega)
    rwa [Nat.zero_xor] at this
def invB (a : Nat) : Bool := match field_Inv.f 20 (a : Int) with | some v => decide (v.1 = (gi a : Int)) && decide (v.2 = if a = 0 then 5 else 0) | none => false
theorem inv_tab : (List.range 256).all invB = true := by decide +kernel
theorem inv_of (a : Nat) (h : invB a = true) : field_Inv.f 20 (a : Int) = some ((gi a : Int), if a = 0 then 5 else 0) := by
  unfold invB at h
  cases e : field_Inv.f 20 (a : Int) with
  | none => rw [e] at h; cases h
  | some v => rw [e] at h; simp only [Bool.and_eq_true, decide_eq_true_iff] at h; rw [← h.1, ← h.2]
theorem inv_ev (a : Nat) (ha : a < 256) : Ev (fun k => field_Inv.f k (a : Int)) ((gi a : Int), if a = 0 then 5 else 0) :=
  Ev.of (field_Inv.mono _) (k := 20) (inv_of a (List.all_eq_true.1 inv_tab a (List.mem_range.2 ha)))
/-! ### The row -/
def fac (p : List Nat) (i x j : Nat) : Nat := gm (x ^^^ p.getD j 0) (gi (p.getD i 0 ^^^ p.getD j 0))
/-- A term: t times the factors of the places ahead of j but i. -/
def tm (p : List Nat) (i x t : Nat) : Nat → Nat
  | 0 => t
  | j + 1 => if j = i then tm p i x t j else gm (tm p i x t j) (fac p i x j)
/-- The sum of the terms ahead of i. -/
def rs (p b : List Nat) (x : Nat) : Nat → Nat
  | 0 => 0
  | i + 1 => rs p b x i ^^^ tm p i x (b.getD i 0) p.length
def row (p b : List Nat) (n : Nat) : List Nat := (List.range n).map fun x => rs p b x p.length
def Bytes (l : List Nat) : Prop := ∀ i, l.getD i 0 < 256
theorem Bytes.nil : Bytes [] := fun i => by simp
theorem Bytes.of {l : List Nat} (h : ∀ a, a ∈ l → a < 256) : Bytes l := by
  intro i
  rw [List.getD_eq_getElem?_getD]
  rcases Nat.lt_or_ge i l.length with h1 | h1
  · rw [List.getElem?_eq_getElem h1]; exact h _ (List.getElem_mem h1)
  · rw [List.getElem?_eq_none h1]; decide
theorem Bytes.mem {l : List Nat} (h : Bytes l) : ∀ a, a ∈ l → a < 256 := by
  intro a ha
  obtain ⟨i, hi, rfl⟩ := List.mem_iff_getElem.1 ha
  have := h i
  rwa [List.getD_eq_getElem?_getD, List.getElem?_eq_getElem hi] at this
theorem fac_lt (p : List Nat) (hp : Bytes p) (i x j : Nat) (hx : x < 256) : fac p i x j < 256 := gm_lt _ _ (xor_lt hx (hp j))
theorem tm_lt (p : List Nat) (i x t j : Nat) (ht : t < 256) : tm p i x t j < 256 := by
  induction j with
  | zero => exact ht
  | succ j ih => simp only [tm]; split; exact ih; exact gm_lt _ _ ih
theorem rs_lt (p b : List Nat) (hb : Bytes b) (x i : Nat) : rs p b x i < 256 := by
  induction i with
  | zero => simp [rs]
  | succ i ih => exact xor_lt ih (tm_lt p i x _ _ (hb i))
theorem row_length (p b : List Nat) (n : Nat) : (row p b n).length = n := by simp [row]
theorem row_getD (p b : List Nat) (n x : Nat) (hx : x < n) : (row p b n).getD x 0 = rs p b x p.length := by simp [row, List.getD, hx]
theorem row_bytes (p b : List Nat) (hb : Bytes b) (n : Nat) : Bytes (row p b n) := by
  apply Bytes.of
  intro a ha
  simp only [row, List.mem_map] at ha
  obtain ⟨x, _, rfl⟩ := ha
  exact rs_lt p b hb x _
/-- What is written when x places are done, and i terms of place x. -/
def Good (p b : List Nat) (n : Nat) (o : List Nat) (x i : Nat) : Prop := o.length = n ∧ ∀ y, y < n → o.getD y 0 = if y < x then rs p b y p.length else if y = x then rs p b x i else 0
theorem row_l2 (p b : List Nat) (hp : Bytes p) (hb : Bytes b) (hl : b.length = p.length) (hbig : p.length < 1000) (n : Nat) (hn : n ≤ 256) (r : List Int) (o : List Nat) (ho : o.length = n) (x i : Nat) (hx : x < n) (hi : i < p.length) (hox : o.getD x 0 < 256)
    (next : Ev (fun k => reed_Row.l1 k (ints p) (ints b) (ints (o.set x (o.getD x 0 ^^^ tm p i x (b.getD i 0) p.length))) (x : Int) (n : Int) (x : Int) (ints p) (p.length : Int) ((i + 1 : Nat) : Int)) r) :
    ∀ d j, p.length - j = d → j ≤ p.length → Ev (fun k => reed_Row.l2 k (ints p) (ints b) (ints o) (x : Int) (i : Int) ((p.getD i 0 : Nat) : Int) ((tm p i x (b.getD i 0) j : Nat) : Int) (n : Int) (x : Int) (ints p) (p.length : Int) (i : Int) (ints p) (p.length : Int) (j : Int)) r := by
  intro d
  induction d with
  | zero =>
    intro j hd hj
    obtain rfl : j = p.length := by omega
    refine Ev.step (fun k => ?_) next
    have ht := tm_lt p i x (b.getD i 0) p.length (hb i)
    simp only [reed_Row.l2]
    rw [if_neg (by omega), if_pos (by omega), if_pos (by rw [ints_length, ho]; omega), rd_ints, xor8 _ _ hox ht, Int.toNat_natCast, ints_set, w64s (by omega)]
  | succ d ih =>
    intro j hd hj
    have hjl : j < p.length := by omega
    have hnext := ih (j + 1) (by omega) (by omega)
    have hjj : j < 4611686018427387903 := by omega
    by_cases hji : j = i
    · refine Ev.step (fun k => ?_) (by have e : tm p i x (b.getD i 0) (j + 1) = tm p i x (b.getD i 0) j := by simp only [tm]; rw [if_pos hji]
                                       rw [e] at hnext; exact hnext)
      simp only [reed_Row.l2]
      rw [if_pos (by omega), if_pos (by omega), if_pos (by rw [ints_length]; omega), if_pos (by omega), w64s hjj]
    · have ht := tm_lt p i x (b.getD i 0) j (hb i)
      have hpi := hp i; have hpj := hp j
      have hx1 : p.getD i 0 ^^^ p.getD j 0 < 256 := xor_lt hpi hpj
      have hx2 : x ^^^ p.getD j 0 < 256 := xor_lt (by omega) hpj
      have hgi := gi_lt _ hx1
      have A1 := inv_ev _ hx1
      have A2 := mul_ev _ _ hx2 hgi
      have A3 := mul_ev _ _ ht (fac_lt p hp i x j (by omega))
      have e : tm p i x (b.getD i 0) (j + 1) = gm (tm p i x (b.getD i 0) j) (fac p i x j) := by simp only [tm]; rw [if_neg hji]
      rw [e] at hnext
      refine Ev.step (fun k => ?_) (Ev.bind A1 (f := fun k bt => (field_Mul.f k ((x ^^^ p.getD j 0 : Nat) : Int) bt.1).bind fun t => (field_Mul.f k ((tm p i x (b.getD i 0) j : Nat) : Int) t).bind fun t118 => reed_Row.l2 k (ints p) (ints b) (ints o) (x : Int) (i : Int) ((p.getD i 0 : Nat) : Int) t118 (n : Int) (x : Int) (ints p) (p.length : Int) (i : Int) (ints p) (p.length : Int) ((j + 1 : Nat) : Int)) (Ev.bind A2 (f := fun k t => (field_Mul.f k ((tm p i x (b.getD i 0) j : Nat) : Int) t).bind fun t118 => reed_Row.l2 k (ints p) (ints b) (ints o) (x : Int) (i : Int) ((p.getD i 0 : Nat) : Int) t118 (n : Int) (x : Int) (ints p) (p.length : Int) (i : Int) (ints p) (p.length : Int) ((j + 1 : Nat) : Int)) (Ev.bind A3 (f := fun k t118 => reed_Row.l2 k (ints p) (ints b) (ints o) (x : Int) (i : Int) ((p.getD i 0 : Nat) : Int) t118 (n : Int) (x : Int) (ints p) (p.length : Int) (i : Int) (ints p) (p.length : Int) ((j + 1 : Nat) : Int)) hnext)))
      simp only [reed_Row.l2]
      rw [if_pos (by omega), if_pos (by omega), if_pos (by rw [ints_length]; omega), if_neg (by omega), w64s hjj, rd_ints, x64m _ _ hpi hpj, x64m _ _ (by omega) hpj]
theorem row_l1 (p b : List Nat) (hp : Bytes p) (hb : Bytes b) (hl : b.length = p.length) (hbig : p.length < 1000) (n : Nat) (hn : n ≤ 256) (r : List Int) (x : Nat) (hx : x < n)
    (next : ∀ o, Good p b n o (x + 1) 0 → Ev (fun k => reed_Row.l0 k (ints p) (ints b) (ints o) (n : Int) ((x + 1 : Nat) : Int)) r) :
    ∀ d i o, p.length - i = d → i ≤ p.length → Good p b n o x i → Ev (fun k => reed_Row.l1 k (ints p) (ints b) (ints o) (x : Int) (n : Int) (x : Int) (ints p) (p.length : Int) (i : Int)) r := by
  intro d
  induction d with
  | zero =>
    intro i o hd hi hg
    obtain rfl : i = p.length := by omega
    refine Ev.step (fun k => ?_) (next o ⟨hg.1, fun y hy => ?_⟩)
    · simp only [reed_Row.l1]
      rw [if_neg (by omega), w64s (by omega)]
    · rw [hg.2 y hy]
      by_cases h : y < x
      · rw [if_pos h, if_pos (by omega)]
      · by_cases h2 : y = x
        · subst h2; rw [if_neg h, if_pos rfl, if_pos (by omega)]
        · rw [if_neg h, if_neg h2, if_neg (by omega)]
          split
          · rfl
          · rfl
  | succ d ih =>
    intro i o hd hi hg
    have hil : i < p.length := by omega
    have hox : o.getD x 0 = rs p b x i := by rw [hg.2 x hx, if_neg (by omega), if_pos rfl]
    have hlt : o.getD x 0 < 256 := by rw [hox]; exact rs_lt p b hb x i
    have hn' := ih (i + 1) (o.set x (o.getD x 0 ^^^ tm p i x (b.getD i 0) p.length)) (by omega) (by omega) ⟨by rw [List.length_set]; exact hg.1, fun y hy => by
      rw [getD_set]
      by_cases h : y = x
      · subst h
        rw [if_pos ⟨rfl, by rw [hg.1]; exact hx⟩, if_neg (by omega), if_pos rfl, hox]; rfl
      · rw [if_neg (by omega), hg.2 y hy, if_neg h, if_neg h]⟩
    have h2 := row_l2 p b hp hb hl hbig n hn r o hg.1 x i hx hil hlt hn' (p.length - 0) 0 rfl (by omega)
    refine Ev.step (fun k => ?_) h2
    simp only [reed_Row.l1]
    rw [if_pos (by omega), if_pos (by omega), if_pos (by rw [ints_length]; omega), if_pos (by rw [ints_length]; omega), rd_ints, rd_ints, ints_length]
    rfl
theorem row_l0 (p b : List Nat) (hp : Bytes p) (hb : Bytes b) (hl : b.length = p.length) (hbig : p.length < 1000) (n : Nat) (hn : n ≤ 256) : ∀ d x o, n - x = d → x ≤ n → Good p b n o x 0 → Ev (fun k => reed_Row.l0 k (ints p) (ints b) (ints o) (n : Int) (x : Int)) (ints (row p b n)) := by
  intro d
  induction d with
  | zero =>
    intro x o hd hx hg
    obtain rfl : x = n := by omega
    refine Ev.step (f := fun _ => some (ints (row p b x))) (fun k => ?_) (Ev.now _)
    simp only [reed_Row.l0]
    rw [if_neg (by omega)]
    congr 2
    refine nat_ext (by rw [hg.1, row_length]) (fun y hy => ?_)
    rw [hg.1] at hy
    rw [hg.2 y hy, if_pos hy, row_getD p b x y hy]
  | succ d ih =>
    intro x o hd hx hg
    have h1 := row_l1 p b hp hb hl hbig n hn (ints (row p b n)) x (by omega) (fun o' ho' => ih (x + 1) o' (by omega) (by omega) ho') (p.length - 0) 0 o rfl (by omega) hg
    refine Ev.step (fun k => ?_) h1
    simp only [reed_Row.l0]
    rw [if_pos (by omega), ints_length]
    rfl
theorem row_ev (p b : List Nat) (hp : Bytes p) (hb : Bytes b) (hl : b.length = p.length) (hbig : p.length < 1000) (n : Nat) (hn : n ≤ 256) : Ev (fun k => reed_Row.f k (ints p) (ints b) (n : Int)) (ints (row p b n)) := by
  have h := row_l0 p b hp hb hl hbig n hn (n - 0) 0 (List.replicate n 0) rfl (by omega) ⟨by simp, fun y hy => by
    rw [List.getD_eq_getElem?_getD, List.getElem?_replicate, if_pos hy, if_neg (by omega)]
    split
    · rfl
    · rfl⟩
  refine Ev.congr (fun k => ?_) h
  unfold reed_Row.f
  rw [if_pos (by omega), if_pos (by omega), Option.bind_some, Int.toNat_natCast, ints_rep, ints_length, List.length_replicate]
  rfl
end Go.Proofs.YtjbiiciippclcaaDoor.Pure
