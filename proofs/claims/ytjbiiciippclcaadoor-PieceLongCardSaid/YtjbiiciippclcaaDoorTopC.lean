/- What is proved: what the program's splitting of a text comes to: the sealed columns of code rows. Conditions: those that each theorem names. -/
import Derived.Test.YtjbiiciippclcaaDoorTopB
namespace Go.Proofs.YtjbiiciippclcaaDoor.Pure
open Go.RowKit Go.Proofs.YtjbiiciippclcaaDoor.PPieceLong Go.Proofs.YtjbiiciippclcaaDoorW.PrintWords Go.Proofs.YtjbiiciippclcaaDoorW.PrintLast Go.Proofs.YtjbiiciippclcaaDoorW.PrintMore Go.Proofs.YtjbiiciippclcaaDoor.GF
set_option linter.unusedVariables false

theorem getD_setG {α : Type} (l : List α) (i j : Nat) (v d : α) : (l.set i v).getD j d = if j = i ∧ i < l.length then v else l.getD j d := by
  rw [List.getD_eq_getElem?_getD, List.getD_eq_getElem?_getD, List.getElem?_set]
  by_cases h : i = j
  · subst h
    by_cases h2 : i < l.length
    · simp [h2]
    · simp [h2]
  · rw [if_neg h, if_neg (by omega)]
theorem extG {α : Type} (d : α) {l m : List α} (h : l.length = m.length) (e : ∀ n, n < l.length → l.getD n d = m.getD n d) : l = m := by
  apply List.ext_getElem h
  intro n h1 h2
  have := e n h1
  simpa [List.getD, h1, h2] using this
theorem getD_map_range {α : Type} (f : Nat → α) (n j : Nat) (d : α) (h : j < n) : ((List.range n).map f).getD j d = f j := by simp [List.getD, h]
theorem getD_rep {α : Type} (n j : Nat) (v : α) : (List.replicate n v).getD j v = v := by
  rw [List.getD_eq_getElem?_getD, List.getElem?_replicate]; split <;> rfl
theorem w64ji {j m i : Nat} (hj : j ≤ 1000) (hm : m ≤ 1000) (hi : i ≤ 1000) : wrap64 (wrap64 ((j : Int) * (m : Int)) + (i : Int)) = ((j * m + i : Nat) : Int) := by
  have h : j * m ≤ 1000 * 1000 := Nat.mul_le_mul hj hm
  rw [show (j : Int) * (m : Int) = ((j * m : Nat) : Int) from (Int.natCast_mul j m).symm]
  generalize j * m = q at h ⊢
  rw [w64 (i := (q : Int)) (by omega) (by omega), w64 (i := (q : Int) + (i : Int)) (by omega) (by omega)]
  rfl
theorem getD_out {α : Type} (l : List α) (j : Nat) (d : α) (h : l.length ≤ j) : l.getD j d = d := by simp [List.getD, List.getElem?_eq_none h]
/-! ### A row out of data -/
theorem put_l0 (b : List Nat) (hb : Bytes b) (hl : b.length ≤ 20) (n : Nat) (hn : n ≤ 20) : ∀ d i : Nat, b.length - i = d → i ≤ b.length →
    Ev (fun k => reed_Put.l0 k (ints b) (n : Int) (ints (List.range i)) (b.length : Int) (i : Int)) (ints (row (List.range b.length) b n), 0) := by
  intro d
  induction d with
  | zero =>
    intro i hd hi
    obtain rfl : i = b.length := by omega
    have h := row_ev (List.range b.length) b (range_bytes _ (by omega)) hb (by simp) (by simp; omega) n (by omega)
    refine Ev.step (fun k => ?_) (Ev.bind h (f := fun _ t => some (t, 0)) (Ev.now _))
    simp only [reed_Put.l0]
    rw [if_neg (by omega)]
  | succ d ih =>
    intro i hd hi
    refine Ev.step (fun k => ?_) (ih (i + 1) (by omega) (by omega))
    simp only [reed_Put.l0]
    rw [if_pos (by omega), if_pos (by rw [ints_length, List.length_range]; omega), w64s (by omega), show [(i : Int)] = ints [i] from rfl, ints_append, List.range_succ]
theorem put_ev (b : List Nat) (hb : Bytes b) (h1 : 1 ≤ b.length) (n : Nat) (hbn : b.length ≤ n) (hn : n ≤ 20) : Ev (fun k => reed_Put.f k (ints b) (n : Int)) (ints (row (List.range b.length) b n), 0) := by
  have h := put_l0 b hb (by omega) n hn (b.length - 0) 0 rfl (by omega)
  refine Ev.congr (f := fun k => reed_Put.j0 k (ints b) (n : Int) false) (fun k => ?_) (Ev.step (fun k => ?_) h)
  · unfold reed_Put.f
    rw [ints_length, if_neg (by omega), decide_eq_false (by omega)]
  · simp only [reed_Put.j0]
    rw [if_neg (by simp), ints_length, if_neg (by omega), if_neg (by omega)]
    rfl
/-! ### The columns -/
def dat (t : List Nat) (k m i : Nat) : List Nat := (List.range k).map fun j => t.getD (j * m + i) 0
def rowOf (t : List Nat) (k m n i : Nat) : List Nat := row (List.range k) (dat t k m i) n
def part (t : List Nat) (k m n j i : Nat) : List Nat := (List.range i).map fun i' => (rowOf t k m n i').getD j 0
def pcL (t : List Nat) (k m n j : Nat) : List Nat := sld t.length (part t k m n j m)
def pcs (t : List Nat) (k m n : Nat) : List ByteArray := (List.range n).map fun j => str (pcL t k m n j)
theorem dat_length (t : List Nat) (k m i : Nat) : (dat t k m i).length = k := by simp [dat]
theorem dat_bytes (t : List Nat) (ht : Bytes t) (k m i : Nat) : Bytes (dat t k m i) := Bytes.of fun a ha => by
  obtain ⟨j, _, rfl⟩ := List.mem_map.1 ha
  exact ht _
theorem rowOf_length (t : List Nat) (k m n i : Nat) : (rowOf t k m n i).length = n := row_length _ _ _
theorem rowOf_bytes (t : List Nat) (ht : Bytes t) (k m n i : Nat) : Bytes (rowOf t k m n i) := row_bytes _ _ (dat_bytes t ht k m i) n
theorem part_bytes (t : List Nat) (ht : Bytes t) (k m n j i : Nat) : Bytes (part t k m n j i) := Bytes.of fun a ha => by
  obtain ⟨i', _, rfl⟩ := List.mem_map.1 ha
  exact rowOf_bytes t ht k m n i' j
theorem part_length (t : List Nat) (k m n j i : Nat) : (part t k m n j i).length = i := by simp [part]
theorem pcL_bytes (t : List Nat) (ht : Bytes t) (k m n j : Nat) : Bytes (pcL t k m n j) := sld_bytes _ _ (part_bytes t ht k m n j m)
theorem pcL_length (t : List Nat) (k m n j : Nat) : (pcL t k m n j).length = m + 5 := by rw [pcL, sld_length, part_length]
theorem split_l3 (t : List Nat) (ht : Bytes t) (hT : t.length ≤ 60) (k m n : Nat) (hk : 1 ≤ k) (hkn : k ≤ n) (hn : n ≤ 10) (hm : m ≤ 60) (x89 : List (List Int)) (hl : x89.length = n) (hx : ∀ j, j < n → rd_L2 x89 (j : Int) = ints (part t k m n j m)) :
    ∀ d q : Nat, ∀ o : List ByteArray, n - q = d → q ≤ n → o.length = n → (∀ j, j < q → o.getD j ByteArray.empty = str (pcL t k m n j)) →
    Ev (fun f => piece_Split.l3 f (str t) o x89 (n : Int) (q : Int)) (pcs t k m n, 0) := by
  intro d
  induction d with
  | zero =>
    intro q o hd hq ho hj
    obtain rfl : q = n := by omega
    refine Ev.step (f := fun _ => some (pcs t k m q, 0)) (fun f => ?_) (Ev.now _)
    simp only [piece_Split.l3]
    rw [if_neg (by omega)]
    congr 2
    refine extG ByteArray.empty (by rw [ho, pcs]; simp) fun j h => ?_
    rw [ho] at h
    rw [hj j h, pcs, getD_map_range _ _ _ _ h]
  | succ d ih =>
    intro q o hd hq ho hj
    have hs := sealed_ev t.length (part t k m n q m) (part_bytes t ht k m n q m) (by rw [part_length]; omega)
    have h1 := ih (q + 1) (o.set q (str (pcL t k m n q))) (by omega) (by omega) (by rw [List.length_set]; exact ho) (fun j h => by
      rw [getD_setG]
      by_cases e : j = q
      · subst e; rw [if_pos ⟨rfl, by omega⟩]
      · rw [if_neg (by omega)]; exact hj j (by omega))
    refine Ev.step (fun f => ?_) (Ev.bind hs (f := fun f t158 => piece_Split.l3 f (str t) (o.set q t158) x89 (n : Int) ((q + 1 : Nat) : Int)) h1)
    simp only [piece_Split.l3]
    rw [if_pos (by omega), if_pos (by omega), if_pos (by omega), str_size, hx q (by omega), Int.toNat_natCast, w64s (by omega)]
    congr 1
    funext t158
    rw [if_pos (by omega)]
theorem split_l2 (t : List Nat) (ht : Bytes t) (hT : t.length ≤ 60) (k m n : Nat) (hk : 1 ≤ k) (hkn : k ≤ n) (hn : n ≤ 10) (hm : m ≤ 60) (r : List ByteArray × Int) (i : Nat) (hi : i < m)
    (next : ∀ x9 : List (List Int), x9.length = n → (∀ j, j < n → rd_L2 x9 (j : Int) = ints (part t k m n j (i + 1))) → Ev (fun f => piece_Split.l0 f (str t) (k : Int) (n : Int) (m : Int) x9 (m : Int) ((i + 1 : Nat) : Int)) r) :
    ∀ d q : Nat, ∀ x9 : List (List Int), n - q = d → q ≤ n → x9.length = n → (∀ j, j < n → rd_L2 x9 (j : Int) = ints (part t k m n j (if j < q then i + 1 else i))) →
    Ev (fun f => piece_Split.l2 f (str t) (k : Int) (n : Int) (m : Int) x9 (m : Int) (i : Int) (ints (rowOf t k m n i)) (n : Int) (q : Int)) r := by
  intro d
  induction d with
  | zero =>
    intro q x9 hd hq hl hx
    obtain rfl : q = n := by omega
    refine Ev.step (fun f => ?_) (next x9 hl fun j hj => by rw [hx j hj, if_pos hj])
    simp only [piece_Split.l2]
    rw [if_neg (by omega), w64s (by omega)]
  | succ d ih =>
    intro q x9 hd hq hl hx
    have hq2 : q < n := by omega
    have hxq := hx q hq2
    rw [if_neg (by omega)] at hxq
    have hps : part t k m n q (i + 1) = part t k m n q i ++ [(rowOf t k m n i).getD q 0] := by simp only [part]; rw [List.range_succ, List.map_append]; rfl
    have h1 := ih (q + 1) (x9.set q (ints (part t k m n q (i + 1)))) (by omega) (by omega) (by rw [List.length_set]; exact hl) (fun j hj => by
      unfold rd_L2
      rw [Int.toNat_natCast, getD_setG]
      by_cases e : j = q
      · subst e; rw [if_pos ⟨rfl, by omega⟩, if_pos (by omega)]
      · rw [if_neg (by omega)]
        have := hx j hj
        unfold rd_L2 at this
        rw [Int.toNat_natCast] at this
        rw [this]
        by_cases e2 : j < q
        · rw [if_pos e2, if_pos (by omega)]
        · rw [if_neg e2, if_neg (by omega)])
    refine Ev.step (fun f => ?_) h1
    simp only [piece_Split.l2]
    rw [if_pos (by omega), if_pos (by omega), if_pos (by rw [ints_length, rowOf_length]; omega), if_pos (by omega), hxq, if_pos (by rw [ints_length, part_length]; omega), rd_ints, show [(((rowOf t k m n i).getD q 0 : Nat) : Int)] = ints [(rowOf t k m n i).getD q 0] from rfl, ints_append, ← hps, Int.toNat_natCast, w64s (by omega)]
theorem split_l1 (t : List Nat) (ht : Bytes t) (hT : t.length ≤ 60) (k m n : Nat) (hk : 1 ≤ k) (hkn : k ≤ n) (hn : n ≤ 10) (hm : m ≤ 60) (r : List ByteArray × Int) (i : Nat) (hi : i < m) (x9 : List (List Int))
    (next : Ev (fun f => piece_Split.l2 f (str t) (k : Int) (n : Int) (m : Int) x9 (m : Int) (i : Int) (ints (rowOf t k m n i)) (n : Int) ((0 : Nat) : Int)) r) :
    ∀ d q : Nat, ∀ o : List Nat, k - q = d → q ≤ k → o.length = k → (∀ j, j < k → o.getD j 0 = if j < q then t.getD (j * m + i) 0 else 0) →
    Ev (fun f => piece_Split.l1 f (str t) (k : Int) (n : Int) (m : Int) x9 (i : Int) (ints o) (m : Int) (i : Int) (k : Int) (q : Int)) r := by
  intro d
  induction d with
  | zero =>
    intro q o hd hq hl hx
    obtain rfl : q = k := by omega
    have ho : o = dat t q m i := extG 0 (by rw [hl, dat_length]) fun j hj => by
      rw [hl] at hj
      rw [hx j hj, if_pos hj, dat, getD_map_range _ _ _ _ hj]
    have hp := put_ev o (by rw [ho]; exact dat_bytes t ht q m i) (by omega) n (by omega) (by omega)
    refine Ev.step (fun f => ?_) (Ev.bind hp (f := fun f bt144 => piece_Split.l2 f (str t) (q : Int) (n : Int) (m : Int) x9 (m : Int) (i : Int) bt144.1 (bt144.1.length : Int) 0) ?_)
    · simp only [piece_Split.l1]
      rw [if_neg (by omega)]
    · show Ev (fun f => piece_Split.l2 f (str t) (q : Int) (n : Int) (m : Int) x9 (m : Int) (i : Int) (ints (row (List.range o.length) o n)) ((ints (row (List.range o.length) o n)).length : Int) 0) r
      rw [hl, ho, ints_length, row_length]
      exact next
  | succ d ih =>
    intro q o hd hq hl hx
    have hq2 : q < k := by omega
    by_cases hat : q * m + i < t.length
    · have h1 := ih (q + 1) (o.set q (t.getD (q * m + i) 0)) (by omega) (by omega) (by rw [List.length_set]; exact hl) (fun j hj => by
        rw [getD_set]
        by_cases e : j = q
        · subst e; rw [if_pos ⟨rfl, by omega⟩, if_pos (by omega)]
        · rw [if_neg (by omega), hx j hj]
          by_cases e2 : j < q
          · rw [if_pos e2, if_pos (by omega)]
          · rw [if_neg e2, if_neg (by omega)])
      refine Ev.step (fun f => ?_) h1
      simp only [piece_Split.l1]
      rw [w64ji (j := q) (m := m) (i := i) (by omega) (by omega) (by omega), if_pos (by omega), if_pos (by rw [str_size]; exact_mod_cast hat), if_pos (Int.natCast_nonneg _), if_pos (by omega), if_pos (by rw [ints_length, hl]; omega), bt_str t ht, Int.toNat_natCast, ints_set, w64s (by omega)]
    · have h0 : t.getD (q * m + i) 0 = 0 := getD_out _ _ _ (by omega)
      have h1 := ih (q + 1) o (by omega) (by omega) hl (fun j hj => by
        rw [hx j hj]
        by_cases e : j = q
        · subst e; rw [if_neg (by omega), if_pos (by omega), h0]
        · by_cases e2 : j < q
          · rw [if_pos e2, if_pos (by omega)]
          · rw [if_neg e2, if_neg (by omega)])
      refine Ev.step (fun f => ?_) h1
      simp only [piece_Split.l1]
      rw [w64ji (j := q) (m := m) (i := i) (by omega) (by omega) (by omega), if_pos (by omega), if_neg (by rw [str_size]; exact_mod_cast hat), w64s (by omega)]
theorem split_l0 (t : List Nat) (ht : Bytes t) (hT : t.length ≤ 60) (k m n : Nat) (hk : 1 ≤ k) (hkn : k ≤ n) (hn : n ≤ 10) (hm : m ≤ 60) : ∀ d i : Nat, ∀ x9 : List (List Int), m - i = d → i ≤ m → x9.length = n → (∀ j, j < n → rd_L2 x9 (j : Int) = ints (part t k m n j i)) →
    Ev (fun f => piece_Split.l0 f (str t) (k : Int) (n : Int) (m : Int) x9 (m : Int) (i : Int)) (pcs t k m n, 0) := by
  intro d
  induction d with
  | zero =>
    intro i x9 hd hi hl hx
    obtain rfl : i = m := by omega
    have h := split_l3 t ht hT k i n hk hkn hn hm x9 hl hx (n - 0) 0 (List.replicate n (⟨#[]⟩ : ByteArray)) rfl (by omega) (by simp) (fun j h => by omega)
    refine Ev.step (fun f => ?_) h
    simp only [piece_Split.l0]
    rw [if_neg (by omega), if_pos (by omega), if_pos (by omega), Int.toNat_natCast, hl]
    rfl
  | succ d ih =>
    intro i x9 hd hi hl hx
    have h2 := split_l2 t ht hT k m n hk hkn hn hm (pcs t k m n, 0) i (by omega) (fun x9' hl' hx' => ih (i + 1) x9' (by omega) (by omega) hl' hx') (n - 0) 0 x9 rfl (by omega) hl (fun j hj => by rw [hx j hj, if_neg (by omega)])
    have h1 := split_l1 t ht hT k m n hk hkn hn hm (pcs t k m n, 0) i (by omega) x9 h2 (k - 0) 0 (List.replicate k 0) rfl (by omega) (by simp) (fun j hj => by rw [getD_rep, if_neg (by omega)])
    refine Ev.step (fun f => ?_) h1
    simp only [piece_Split.l0]
    rw [if_pos (by omega), if_pos (by omega), if_pos (by omega), Int.toNat_natCast, ints_rep]
    rfl
theorem right_some (k n : Nat) (hk : 1 ≤ k) (hkn : k ≤ n) (hn : n ≤ 10) : piece_right.f (k : Int) (n : Int) = some true := by
  unfold piece_right.f
  rw [if_pos (by omega), if_pos (by omega), decide_eq_true (by omega)]
theorem psize_le (n k : Nat) (hk : 1 ≤ k) (hn : n ≤ 60) : psize n k ≤ 60 := by
  unfold psize
  have : (n + k - 1) / k < 61 := (Nat.div_lt_iff_lt_mul (by omega)).2 (by
    have : 61 * 1 ≤ 61 * k := Nat.mul_le_mul_left _ hk
    omega)
  omega
theorem split_ev (t : List Nat) (ht : Bytes t) (hT : t.length ≤ 60) (k n : Nat) (hk : 1 ≤ k) (hkn : k ≤ n) (hn : n ≤ 10) :
    Ev (fun f => piece_Split.f f (str t) (k : Int) (n : Int)) (pcs t k (psize t.length k) n, 0) := by
  have hm := psize_le t.length k hk hT
  have h := split_l0 t ht hT k (psize t.length k) n hk hkn hn hm (psize t.length k - 0) 0 (List.replicate n []) rfl (by omega) (by simp) (fun j hj => by
    unfold rd_L2
    rw [Int.toNat_natCast, getD_rep]; rfl)
  refine Ev.congr (fun f => ?_) h
  unfold piece_Split.f
  rw [right_some k n hk hkn hn, Option.bind_some, if_pos rfl, if_neg (by rw [str_size]; omega), str_size, size_some _ k (by omega) hk (by omega), Option.bind_some, if_pos (by omega), if_pos (by omega), Int.toNat_natCast]
  rfl
/-- A text that is too long. -/
theorem split_long (t : List Nat) (hT : 60 < t.length) (k n : Nat) (hk : 1 ≤ k) (hkn : k ≤ n) (hn : n ≤ 10) (f : Nat) : piece_Split.f f (str t) (k : Int) (n : Int) = some ([], 2) := by
  unfold piece_Split.f
  rw [right_some k n hk hkn hn, Option.bind_some, if_pos rfl, if_pos (by rw [str_size]; omega)]
end Go.Proofs.YtjbiiciippclcaaDoor.Pure
