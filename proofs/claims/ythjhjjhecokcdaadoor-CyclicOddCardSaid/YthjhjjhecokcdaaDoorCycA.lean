/- What is proved: what the program's cyclic checks come to, told of bits. Conditions: those that each theorem names. -/
import Derived.Test.YthjhjjhecokcdaaDoorStrs
import Derived.Test.YthjhjjhecokcdaaDoorCycMath
namespace Go.Proofs.YthjhjjhecokcdaaDoor.Pure
open Go.RowKit Go.Proofs.YthjhjjhecokcdaaDoor.PCyc Go.Proofs.YthjhjjhecokcdaaDoorW.PrintWords Go.Proofs.YthjhjjhecokcdaaDoorW.PrintLast Go.Proofs.YthjhjjhecokcdaaDoorW.PrintMore Go.Proofs.YthjhjjhecokcdaaDoor.CycMath
set_option linter.unusedVariables false

/-! ### Strings of bits -/
def bit (b : Bool) : Nat := if b then 49 else 48
def B (l : List Bool) : ByteArray := str (l.map bit)
theorem bit_lt (b : Bool) : bit b < 256 := by cases b <;> decide
theorem bits_bytes (l : List Bool) : Bytes (l.map bit) := Bytes.of fun a ha => by
  obtain ⟨b, _, rfl⟩ := List.mem_map.1 ha
  exact bit_lt b
theorem B_size (l : List Bool) : (B l).size = l.length := by rw [B, str_size, List.length_map]
theorem getD_bits (l : List Bool) (i : Nat) (h : i < l.length) : (l.map bit).getD i 0 = bit (l.getD i false) := by simp [List.getD, h]
theorem bt_B (l : List Bool) (i : Nat) (h : i < l.length) : bt (B l) (i : Int) = ((bit (l.getD i false) : Nat) : Int) := by rw [B, bt_str _ (bits_bytes l), getD_bits l i h]
theorem B_append (l m : List Bool) : B l ++ B m = B (l ++ m) := by rw [B, B, str_append, ← List.map_append]; rfl
theorem B_toList (l : List Bool) : (B l).toList = (l.map bit).map UInt8.ofNat := str_toList _
theorem B_data (l : List Bool) : (B l).data.toList = (l.map bit).map UInt8.ofNat := str_data _
theorem bit_inj {a b : Bool} (h : bit a = bit b) : a = b := by revert h; cases a <;> cases b <;> decide
theorem map_bit_inj {l m : List Bool} (h : l.map bit = m.map bit) : l = m := by
  induction l generalizing m with
  | nil => cases m with
    | nil => rfl
    | cons _ _ => simp at h
  | cons a l ih => cases m with
    | nil => simp at h
    | cons b m =>
      simp only [List.map_cons, List.cons.injEq] at h
      rw [bit_inj h.1, ih h.2]
theorem B_inj {l m : List Bool} (h : (B l).toList = (B m).toList) : l = m := map_bit_inj (str_inj (bits_bytes l) (bits_bytes m) h)
theorem B_drop (l : List Bool) (i : Nat) : str ((l.map bit).drop i) = B (l.drop i) := by rw [← List.map_drop]; rfl
theorem B_take (l : List Bool) (i : Nat) : str ((l.map bit).take i) = B (l.take i) := by rw [← List.map_take]; rfl
theorem eq48 (b : Bool) : (((bit b : Nat) : Int) = 48) ↔ b = false := by cases b <;> decide
theorem eq49 (b : Bool) : (((bit b : Nat) : Int) = 49) ↔ b = true := by cases b <;> decide
theorem bits_ext {l m : List Bool} (h : l.length = m.length) (e : ∀ n, n < l.length → l.getD n false = m.getD n false) : l = m := by
  apply List.ext_getElem h
  intro n h1 h2
  have := e n h1
  simpa [List.getD, h1, h2] using this
theorem getD_setB (l : List Bool) (i j : Nat) (v : Bool) : (l.set i v).getD j false = if j = i ∧ i < l.length then v else l.getD j false := by
  rw [List.getD_eq_getElem?_getD, List.getD_eq_getElem?_getD, List.getElem?_set]
  by_cases h : i = j
  · subst h
    by_cases h2 : i < l.length
    · simp [h2]
    · simp [h2]
  · rw [if_neg h, if_neg (by omega)]
def fn (l : List Bool) : Nat → Bool := fun p => l.getD p false
theorem fn_out (l : List Bool) (p : Nat) (h : l.length ≤ p) : fn l p = false := by simp [fn, List.getD, List.getElem?_eq_none h]
def ofFn (F : Nat → Bool) (n : Nat) : List Bool := (List.range n).map F
theorem ofFn_length (F : Nat → Bool) (n : Nat) : (ofFn F n).length = n := by simp [ofFn]
theorem fn_ofFn (F : Nat → Bool) (n p : Nat) (h : p < n) : fn (ofFn F n) p = F p := by simp [fn, ofFn, List.getD, h]
theorem set_bits (l : List Bool) (i : Nat) (v : Bool) : (l.map bit).set i (bit v) = (l.set i v).map bit := by simp [List.map_set]
theorem xor_bit (x y : Bool) : bits .xor .u8 ((bit x : Nat) : Int) (bits .xor .u8 ((bit y : Nat) : Int) 48) = ((bit (x ^^ y) : Nat) : Int) := by
  cases x <;> cases y <;> decide
theorem xor_one (x : Bool) : bits .xor .u8 ((bit x : Nat) : Int) 1 = ((bit (!x) : Nat) : Int) := by cases x <;> decide
/-! ### Which strings are bits -/
theorem dropAll {α : Type} (p : α → Bool) (l : List α) (h : ∀ a, a ∈ l → p a = true) : l.dropWhile p = [] := by
  induction l with
  | nil => rfl
  | cons a l ih => rw [List.dropWhile_cons, if_pos (h a List.mem_cons_self)]; exact ih fun b hb => h b (List.mem_cons_of_mem _ hb)
theorem isBits_B (l : List Bool) (hl : l.length < 1000000) : cyclic_isBits.f (B l) = some true := by
  have hc : ((⟨#[48, 49]⟩ : ByteArray).data.toList.all fun b => decide (b.toNat < 128)) = true := by decide
  have ht : trimF (B l) (⟨#[48, 49]⟩ : ByteArray) = ⟨#[]⟩ := by
    have h0 : ∀ a, a ∈ (B l).data.toList → ([48, 49] : List UInt8).contains a = true := by
      intro a ha
      rw [B_data, List.map_map] at ha
      obtain ⟨b, _, rfl⟩ := List.mem_map.1 ha
      cases b <;> decide
    have h1 : Lib.trimS (B l).data.toList [48, 49] = [] := by
      unfold Lib.trimS Lib.trimRightS Lib.trimLeftS
      rw [dropAll _ (B l).data.toList.reverse (fun a ha => h0 a (List.mem_reverse.1 ha))]
      rfl
    unfold trimF
    show ByteArray.mk (Lib.trimS (B l).data.toList [48, 49]).toArray = _
    rw [h1]
  unfold cyclic_isBits.f strings_Trim.f
  rw [if_pos ⟨by rw [B_size]; omega, by decide, hc⟩, Option.bind_some, ht, Lib.toList_data]
  rfl
/-- A divisor: two to seventeen bits, the first and the last are ones. -/
structure Div (g : List Bool) : Prop where
  two : 2 ≤ g.length
  most : g.length ≤ 17
  first : g.getD 0 false = true
  last : g.getD (g.length - 1) false = true
theorem check_B (g : List Bool) (hg : Div g) : Ev (fun k => cyclic_Check.f k (B g)) 0 := by
  have h2 := hg.two; have hm := hg.most
  refine Ev.congr (f := fun k => cyclic_Check.j0 k (B g) false) (fun k => ?_) (Ev.step (f := fun _ => some 0) (fun k => ?_) (Ev.now _))
  · unfold cyclic_Check.f
    rw [B_size, if_neg (by omega), decide_eq_false (by omega)]
  · simp only [cyclic_Check.j0]
    have e0 : bt (B g) 0 = 49 := by have := bt_B g 0 (by omega); rw [hg.first] at this; exact this
    rw [if_neg (by simp), isBits_B g (by omega), Option.bind_some, if_pos rfl, if_pos (by rw [B_size]; omega), if_pos e0, B_size, w64 (i := (g.length : Int) - 1) (by omega) (by omega), show ((g.length : Int) - 1) = ((g.length - 1 : Nat) : Int) by omega, if_pos (by omega), if_pos (by omega), bt_B g _ (by omega), hg.last, if_pos (by decide)]
/-! ### The rest -/
theorem w64p {a b : Nat} (ha : a < 1000000) (hb : b < 1000000) : wrap64 ((a : Int) + (b : Int)) = ((a + b : Nat) : Int) := by unfold wrap64; omega
theorem w64n {i : Int} (h0 : -1000000 ≤ i) (h : i < 4611686018427387904) : wrap64 i = i := by unfold wrap64; omega
theorem step_fn (g b o : List Bool) (i : Nat) (hi : i + g.length ≤ b.length) (ho : o.length = b.length) (hb : fn b i = true)
    (h : ∀ p, p < b.length → fn o p = (fn b p ^^ (decide (i ≤ p) && decide (p < i + g.length) && fn g (p - i)))) : fn o = CycMath.step (fn g) g.length i (fn b) := by
  funext p
  rcases Nat.lt_or_ge p b.length with hp | hp
  · rw [h p hp]; simp only [CycMath.step, hb, Bool.true_and, laid]
  · rw [fn_out o p (by omega)]
    simp only [CycMath.step]
    rw [fn_out b p hp, laid_out (.inr (by omega)), Bool.and_false]
    rfl
theorem rem_l1 (g b : List Bool) (hgl : g.length ≤ 17) (hbl : b.length ≤ 1000) (i : Nat) (hi : i + g.length ≤ b.length) (r : ByteArray) 
    (next : ∀ o : List Bool, o.length = b.length → (∀ p, p < b.length → fn o p = (fn b p ^^ (decide (i ≤ p) && decide (p < i + g.length) && fn g (p - i)))) → Ev (fun k => cyclic_remainder.l0 k (B g) (ints (o.map bit)) ((i + 1 : Nat) : Int)) r) :
    ∀ d q : Nat, ∀ o : List Bool, g.length - q = d → q ≤ g.length → o.length = b.length → (∀ p, p < b.length → fn o p = (fn b p ^^ (decide (i ≤ p) && decide (p < i + q) && fn g (p - i)))) →
    Ev (fun k => cyclic_remainder.l1 k (B g) (ints (o.map bit)) (i : Int) (g.length : Int) (q : Int)) r := by
  intro d
  induction d with
  | zero =>
    intro q o hd hq ho hx
    obtain rfl : q = g.length := by omega
    refine Ev.step (fun k => ?_) (next o ho hx)
    simp only [cyclic_remainder.l1]
    rw [if_neg (by omega), w64s (by omega)]
  | succ d ih =>
    intro q o hd hq ho hx
    have hq2 : q < g.length := by omega
    have hoq : o.getD (i + q) false = fn b (i + q) := by
      have := hx (i + q) (by omega)
      unfold fn at this ⊢
      rw [this, decide_eq_false (by omega : ¬ i + q < i + q), Bool.and_false]
      simp
    have h1 := ih (q + 1) (o.set (i + q) (fn b (i + q) ^^ g.getD q false)) (by omega) (by omega) (by rw [List.length_set]; exact ho) (fun p hp => by
      unfold fn
      rw [getD_setB]
      by_cases e : p = i + q
      · subst e
        rw [if_pos ⟨rfl, by omega⟩, decide_eq_true (by omega : i ≤ i + q), decide_eq_true (by omega : i + q < i + (q + 1)), show i + q - i = q by omega]
        rfl
      · rw [if_neg (by omega)]
        have := hx p hp
        unfold fn at this
        rw [this]
        congr 2
        congr 1
        rw [decide_eq_decide]
        omega)
    refine Ev.step (fun k => ?_) h1
    simp only [cyclic_remainder.l1]
    rw [if_pos (by omega), w64p (a := i) (b := q) (by omega) (by omega), if_pos (by omega), if_pos (by rw [ints_length, List.length_map]; omega), if_pos (by omega), if_pos (by rw [B_size]; omega), rd_ints, getD_bits o _ (by omega), hoq, bt_B g q hq2, xor_bit, Int.toNat_natCast, ints_set, set_bits, w64s (by omega)]
theorem rem_l0 (g : List Bool) (hg : Div g) (N : Nat) (hN : N ≤ 1000) (hgN : g.length ≤ N + 1) : ∀ c i : Nat, ∀ b : List Bool, b.length = N → i + c = N + 1 - g.length →
    Ev (fun k => cyclic_remainder.l0 k (B g) (ints (b.map bit)) (i : Int)) (B ((ofFn (run (fn g) g.length c i (fn b)) N).drop (N + 1 - g.length))) := by
  have h2 := hg.two; have hm := hg.most
  intro c
  induction c with
  | zero =>
    intro i b hb hi
    have e : ofFn (run (fn g) g.length 0 i (fn b)) N = b := bits_ext (by rw [ofFn_length, hb]) fun p hp => by
      rw [ofFn_length] at hp
      exact fn_ofFn (fn b) N p hp
    rw [e]
    refine Ev.step (f := fun _ => some (B (b.drop (N + 1 - g.length)))) (fun k => ?_) (Ev.now _)
    simp only [cyclic_remainder.l0]
    rw [B_size, w64p (a := i) (b := g.length) (by omega) (by omega), ints_length, List.length_map, hb, if_neg (by omega), w64n (i := (N : Int) - (g.length : Int)) (by omega) (by omega), w64 (i := (N : Int) - (g.length : Int) + 1) (by omega) (by omega), show (N : Int) - (g.length : Int) + 1 = ((N + 1 - g.length : Nat) : Int) by omega, if_pos (by omega), if_pos (by omega), Int.toNat_natCast]
    rw [show (ints (b.map bit)).drop (N + 1 - g.length) = ints ((b.map bit).drop (N + 1 - g.length)) by simp [ints, List.map_drop], ← B_drop]
    rfl
  | succ c ih =>
    intro i b hb hi
    cases hbi : fn b i with
    | false =>
      have h1 := ih (i + 1) b hb (by omega)
      simp only [run]
      rw [step_no hbi]
      refine Ev.step (fun k => ?_) h1
      simp only [cyclic_remainder.l0]
      rw [B_size, w64p (a := i) (b := g.length) (by omega) (by omega), ints_length, List.length_map, hb, if_pos (by omega), if_pos (by omega), if_pos (by omega), rd_ints, getD_bits b i (by omega), if_pos ((eq48 (b.getD i false)).2 hbi), w64s (by omega)]
    | true =>
      have h1 := rem_l1 g b hm (by omega) i (by omega) (B ((ofFn (run (fn g) g.length (c + 1) i (fn b)) N).drop (N + 1 - g.length))) (fun o ho hx => by
        have e := step_fn g b o i (by omega) ho hbi hx
        have := ih (i + 1) o (by omega) (by omega)
        rw [e] at this
        exact this) (g.length - 0) 0 b rfl (by omega) rfl (fun p hp => by rw [Nat.add_zero]; by_cases h : i ≤ p; rw [decide_eq_false (by omega : ¬ p < i)]; simp; rw [decide_eq_false h]; simp)
      refine Ev.step (fun k => ?_) h1
      simp only [cyclic_remainder.l0]
      rw [B_size, w64p (a := i) (b := g.length) (by omega) (by omega), ints_length, List.length_map, hb, if_pos (by omega), if_pos (by omega), if_pos (by omega), rd_ints, getD_bits b i (by omega), if_neg (by rw [eq48]; show ¬ fn b i = false; rw [hbi]; simp)]
      rfl
/-- What is left of a word. -/
def remF (g w : List Bool) : Nat → Bool := run (fn g) g.length (w.length + 1 - g.length) 0 (fn w)
def rem (g w : List Bool) : List Bool := (ofFn (remF g w) w.length).drop (w.length + 1 - g.length)
theorem rem_ev (g w : List Bool) (hg : Div g) (hw : w.length ≤ 1000) (hgw : g.length ≤ w.length + 1) : Ev (fun k => cyclic_remainder.f k (B w) (B g)) (B (rem g w)) := by
  have h := rem_l0 g hg w.length hw hgw (w.length + 1 - g.length) 0 w rfl (by omega)
  refine Ev.congr (fun k => ?_) h
  unfold cyclic_remainder.f
  rw [if_pos (by rw [B_size]; omega), show bytesOf (B w) = ints (w.map bit) from bytesOf_str _ (bits_bytes w)]
  rfl
theorem rem_length (g w : List Bool) : (rem g w).length = w.length - (w.length + 1 - g.length) := by rw [rem, List.length_drop, ofFn_length]
theorem fn_rem (g w : List Bool) (p : Nat) (h : w.length + 1 - g.length + p < w.length) : fn (rem g w) p = remF g w (w.length + 1 - g.length + p) := by
  unfold rem
  have := fn_ofFn (remF g w) w.length _ h
  unfold fn at this ⊢
  rw [List.getD_eq_getElem?_getD, List.getElem?_drop, ← List.getD_eq_getElem?_getD]
  exact this
/-! ### Words with their check -/
def zeros (n : Nat) : List Bool := List.replicate n false
def enc (g s : List Bool) : List Bool := s ++ rem g (s ++ zeros (g.length - 1))
theorem enc_length (g s : List Bool) (hg : Div g) : (enc g s).length = s.length + (g.length - 1) := by
  have h2 := hg.two
  rw [enc, List.length_append, rem_length, List.length_append]
  simp [zeros]
  omega
theorem rep0 (n : Nat) : repF (⟨#[48]⟩ : ByteArray) n = B (zeros n) := by
  apply ByteArray.ext
  apply Array.toList_inj.1
  rw [B_data]
  show Lib.repeatL [48] n = _
  induction n with
  | zero => rfl
  | succ n ih =>
    rw [zeros, List.replicate_succ, List.map_cons, List.map_cons]
    show ([48] : List UInt8) ++ Lib.repeatL [48] n = _
    rw [ih]; rfl
theorem put_B (g s : List Bool) (hg : Div g) (hs : s.length ≤ 200) : Ev (fun k => cyclic_Put.f k (B s) (B g)) (B (enc g s), 0) := by
  have h2 := hg.two; have hm := hg.most
  have hl : (s ++ zeros (g.length - 1)).length = s.length + (g.length - 1) := by simp [zeros]
  have hr := rem_ev g (s ++ zeros (g.length - 1)) hg (by omega) (by omega)
  have hrl := rem_length g (s ++ zeros (g.length - 1))
  refine Ev.congr (fun k => ?_) (Ev.bind (check_B g hg) (f := fun k t113 => if t113 = 0 then (cyclic_remainder.f k (B (s ++ zeros (g.length - 1))) (B g)).bind fun t116 => (if (B s).size + t116.size ≤ 9223372036854775807 then (some (B s ++ t116, (0 : Int))) else none) else some ((⟨#[]⟩ : ByteArray), t113)) (Ev.congr (fun k => if_pos rfl) (Ev.bind hr (f := fun _ t116 => if (B s).size + t116.size ≤ 9223372036854775807 then (some (B s ++ t116, (0 : Int))) else none) (Ev.congr (f := fun _ => some (B (enc g s), 0)) (fun k => ?_) (Ev.now _)))))
  · unfold cyclic_Put.f
    congr 1
    funext t113
    by_cases h0 : t113 = 0
    · rw [if_pos h0, if_pos h0, if_neg (by rw [B_size]; omega), isBits_B s (by omega), Option.bind_some, if_pos rfl, B_size, w64 (i := (g.length : Int) - 1) (by omega) (by omega), show (g.length : Int) - 1 = ((g.length - 1 : Nat) : Int) by omega]
      unfold strings_Repeat.f
      rw [if_pos ⟨by omega, by omega, by show 1 * _ ≤ _; omega⟩, Option.bind_some, Int.toNat_natCast, rep0, if_pos (by rw [B_size, B_size]; simp [zeros]; omega), B_append]
    · rw [if_neg h0, if_neg h0]
  · show (if _ then _ else _) = _
    rw [if_pos (by rw [B_size, B_size]; omega), B_append]
    rfl
/-- Is there a one? -/
theorem contains_B (l : List Bool) : strings_Contains.f (B l) (⟨#[49]⟩ : ByteArray) = some (l.any id) := by
  unfold strings_Contains.f
  rw [if_pos (by rfl)]
  congr 1
  show decide (0 ≤ Lib.indexByte (B l).data.toList 49) = _
  rw [B_data]
  induction l with
  | nil => rfl
  | cons b l ih =>
    simp only [List.map_cons, List.any_cons, Lib.indexByte]
    cases b with
    | true => rfl
    | false =>
      rw [if_neg (by decide)]
      rw [← ih]
      have hge := Lib.indexByte_ge (List.map UInt8.ofNat (List.map bit l)) 49
      generalize Lib.indexByte (List.map UInt8.ofNat (List.map bit l)) 49 = x at hge ⊢
      by_cases hx : x = -1
      · subst hx; rfl
      · rw [if_neg (by simpa using hx), decide_eq_true (by omega : 0 ≤ x + 1), decide_eq_true (by omega : 0 ≤ x)]
        rfl
theorem count_B (l : List Bool) : strings_Count.f (B l) (⟨#[49]⟩ : ByteArray) = some ((l.count true : Nat) : Int) := by
  unfold strings_Count.f
  rw [if_pos (by rfl)]
  congr 2
  show (B l).data.toList.count 49 = _
  rw [B_data]
  induction l with
  | nil => rfl
  | cons b l ih =>
    simp only [List.map_cons]
    rw [List.count_cons, List.count_cons, ih]
    cases b <;> rfl
theorem get_B (g w : List Bool) (hg : Div g) (hw : w.length ≤ 216) (hgw : g.length ≤ w.length + 1) :
    Ev (fun k => cyclic_Get.f k (B w) (B g)) (if (rem g w).any id = true then ((⟨#[]⟩ : ByteArray), 8) else (B (w.take (w.length + 1 - g.length)), 0)) := by
  have h2 := hg.two; have hm := hg.most
  have hr := rem_ev g w hg (by omega) hgw
  refine Ev.congr (fun k => ?_) (Ev.bind (check_B g hg) (f := fun k t143 => if t143 = 0 then (cyclic_remainder.f k (B w) (B g)).bind fun t145 => ((strings_Contains.f t145 (⟨#[49]⟩ : ByteArray)).bind fun t146 => (if t146 = true then (some ((⟨#[]⟩ : ByteArray), (8 : Int))) else some (B (w.take (w.length + 1 - g.length)), (0 : Int)))) else some ((⟨#[]⟩ : ByteArray), t143)) (Ev.congr (fun k => if_pos rfl) (Ev.bind hr (f := fun _ t145 => (strings_Contains.f t145 (⟨#[49]⟩ : ByteArray)).bind fun t146 => (if t146 = true then (some ((⟨#[]⟩ : ByteArray), (8 : Int))) else some (B (w.take (w.length + 1 - g.length)), (0 : Int)))) (Ev.congr (f := fun _ => some (if (rem g w).any id = true then ((⟨#[]⟩ : ByteArray), (8 : Int)) else (B (w.take (w.length + 1 - g.length)), 0))) (fun k => ?_) (Ev.now _)))))
  · unfold cyclic_Get.f
    congr 1
    funext t143
    by_cases h0 : t143 = 0
    · rw [if_pos h0, if_pos h0, if_neg (by rw [B_size]; omega), isBits_B w (by omega), Option.bind_some, if_pos rfl, B_size, B_size, w64 (i := (g.length : Int) - 1) (by omega) (by omega), if_neg (by omega), w64n (i := (w.length : Int) - (g.length : Int)) (by omega) (by omega), w64 (i := (w.length : Int) - (g.length : Int) + 1) (by omega) (by omega), show (w.length : Int) - (g.length : Int) + 1 = ((w.length + 1 - g.length : Nat) : Int) by omega]
      congr 1
      funext t145
      congr 1
      funext t146
      rw [if_pos (show (0 : Int) ≤ ((w.length + 1 - g.length : Nat) : Int) by omega), if_pos (show ((w.length + 1 - g.length : Nat) : Int) ≤ (w.length : Int) by omega), Int.toNat_natCast, B, str_extract, List.drop_zero, B_take]
    · rw [if_neg h0, if_neg h0]
  · show (strings_Contains.f _ _).bind _ = _
    rw [contains_B, Option.bind_some]
    split <;> rfl
/-! ### Codes -/
/-- Nothing is left of the word. -/
def Code (g w : List Bool) : Prop := ∀ p, p < w.length → remF g w p = false
theorem rem_any (g w : List Bool) (hg : Div g) (hgw : g.length ≤ w.length + 1) : (rem g w).any id = false ↔ Code g w := by
  have h2 := hg.two
  constructor
  · intro h p hp
    by_cases hlt : p < w.length + 1 - g.length
    · exact run_clear (fn g) g.length _ (by omega) hg.first 0 (fn w) p (by omega) (by omega)
    · have e := fn_rem g w (p - (w.length + 1 - g.length)) (by omega)
      rw [show w.length + 1 - g.length + (p - (w.length + 1 - g.length)) = p by omega] at e
      rw [← e]
      have hl : p - (w.length + 1 - g.length) < (rem g w).length := by rw [rem_length]; omega
      have hm := List.any_eq_false.1 h ((rem g w)[p - (w.length + 1 - g.length)]) (List.getElem_mem hl)
      have : fn (rem g w) (p - (w.length + 1 - g.length)) = (rem g w)[p - (w.length + 1 - g.length)] := by simp [fn, List.getD, hl]
      rw [this]; simpa using hm
  · intro h
    refine List.any_eq_false.2 fun x hx => ?_
    obtain ⟨i, hi, rfl⟩ := List.mem_iff_getElem.1 hx
    have hi' := hi
    rw [rem_length] at hi'
    have e := fn_rem g w i (by omega)
    have : fn (rem g w) i = (rem g w)[i] := by simp [fn, List.getD, hi]
    rw [this] at e
    rw [e, h _ (by omega)]; simp
def xorL (a b : List Bool) : List Bool := ofFn (fun p => fn a p ^^ fn b p) a.length
theorem fn_xorL (a b : List Bool) (h : b.length ≤ a.length) : fn (xorL a b) = add (fn a) (fn b) := by
  funext p
  rcases Nat.lt_or_ge p a.length with hp | hp
  · unfold xorL; rw [fn_ofFn _ _ _ hp]; rfl
  · rw [fn_out _ _ (by rw [xorL, ofFn_length]; exact hp)]
    simp only [add]
    rw [fn_out a p hp, fn_out b p (by omega)]; rfl
theorem fn_append (a b : List Bool) (p : Nat) : fn (a ++ b) p = if p < a.length then fn a p else fn b (p - a.length) := by
  unfold fn
  rw [List.getD_eq_getElem?_getD, List.getD_eq_getElem?_getD, List.getD_eq_getElem?_getD]
  by_cases h : p < a.length
  · rw [if_pos h, List.getElem?_append_left h]
  · rw [if_neg h, List.getElem?_append_right (by omega)]
theorem fn_zeros (n p : Nat) : fn (zeros n) p = false := by
  unfold fn zeros
  rw [List.getD_eq_getElem?_getD, List.getElem?_replicate]; split <;> rfl
/-- The word ahead of its check, as a word. -/
theorem fn_pad (s : List Bool) (n : Nat) : fn (s ++ zeros n) = fn s := by
  funext p
  rw [fn_append, fn_zeros]
  split
  · rfl
  · rw [fn_out s p (by omega)]
theorem fn_enc (g s : List Bool) (hg : Div g) : fn (enc g s) = add (fn s) (fun p => decide (s.length ≤ p) && (decide (p < s.length + (g.length - 1)) && run (fn g) g.length s.length 0 (fn s) p)) := by
  have h2 := hg.two
  have hl : (s ++ zeros (g.length - 1)).length = s.length + (g.length - 1) := by simp [zeros]
  funext p
  simp only [add]
  rw [enc, fn_append]
  by_cases h : p < s.length
  · rw [if_pos h, decide_eq_false (by omega : ¬ s.length ≤ p)]; simp
  · rw [if_neg h, decide_eq_true (by omega : s.length ≤ p), fn_out s p (by omega)]
    by_cases h3 : p < s.length + (g.length - 1)
    · have e := fn_rem g (s ++ zeros (g.length - 1)) (p - s.length) (by rw [hl]; omega)
      rw [e, decide_eq_true h3, hl, remF, hl, fn_pad, show s.length + (g.length - 1) + 1 - g.length = s.length by omega, show s.length + (p - s.length) = p by omega]
      simp
    · rw [decide_eq_false h3, fn_out _ _ (by rw [rem_length, hl]; omega)]; rfl
theorem code_enc (g s : List Bool) (hg : Div g) : Code g (enc g s) := by
  have h2 := hg.two
  intro p hp
  have hel := enc_length g s hg
  unfold remF
  rw [hel, show s.length + (g.length - 1) + 1 - g.length = s.length by omega, fn_enc g s hg, run_add]
  simp only [add]
  rw [run_low _ _ _ 0 (fun p => decide (s.length ≤ p) && (decide (p < s.length + (g.length - 1)) && run (fn g) g.length s.length 0 (fn s) p)) (fun q _ hq => by rw [decide_eq_false (by omega : ¬ s.length ≤ q)]; rfl)]
  by_cases h : p < s.length
  · rw [run_clear (fn g) g.length s.length (by omega) hg.first 0 (fn s) p (by omega) (by omega)]
    show (false ^^ (decide (s.length ≤ p) && _)) = false
    rw [decide_eq_false (by omega : ¬ s.length ≤ p)]; rfl
  · show (run (fn g) g.length s.length 0 (fn s) p ^^ (decide (s.length ≤ p) && (decide (p < s.length + (g.length - 1)) && run (fn g) g.length s.length 0 (fn s) p))) = false
    rw [decide_eq_true (by omega : s.length ≤ p), decide_eq_true (by omega : p < s.length + (g.length - 1))]
    simp
/-! ### Turning bits -/
theorem turn_ev (a b : List Bool) (at_ : Nat) (ha : a.length ≤ 1000) (hb : at_ + b.length ≤ a.length) :
    Ev (fun k => wholekeep_turn.f k (B a) (B b) (at_ : Int)) (B (xorL a (zeros at_ ++ b))) := by
  have key : ∀ d q : Nat, ∀ o : List Bool, b.length - q = d → q ≤ b.length → o.length = a.length → (∀ p, p < a.length → fn o p = (fn a p ^^ (decide (p < at_ + q) && fn (zeros at_ ++ b) p))) →
      Ev (fun k => wholekeep_turn.l0 k (B b) (at_ : Int) (ints (o.map bit)) (b.length : Int) (q : Int)) (B (xorL a (zeros at_ ++ b))) := by
    intro d
    induction d with
    | zero =>
      intro q o hd hq ho hx
      obtain rfl : q = b.length := by omega
      have e : o = xorL a (zeros at_ ++ b) := bits_ext (by rw [ho, xorL, ofFn_length]) fun p hp => by
        rw [ho] at hp
        have h1 := hx p hp
        have h2 := fn_xorL a (zeros at_ ++ b) (by simp [zeros]; omega)
        show fn o p = fn (xorL a (zeros at_ ++ b)) p
        rw [h1, h2]
        simp only [add]
        by_cases h : p < at_ + b.length
        · rw [decide_eq_true h]; rfl
        · rw [fn_out (zeros at_ ++ b) p (by simp [zeros]; omega)]; simp
      rw [← e]
      refine Ev.step (f := fun _ => some (B o)) (fun k => ?_) (Ev.now _)
      simp only [wholekeep_turn.l0]
      rw [if_neg (by omega)]
      rfl
    | succ d ih =>
      intro q o hd hq ho hx
      have hq2 : q < b.length := by omega
      have hzb : fn (zeros at_ ++ b) (at_ + q) = b.getD q false := by
        rw [fn_append, if_neg (by simp [zeros])]
        simp [zeros, fn]
      have hoq : o.getD (at_ + q) false = fn a (at_ + q) := by
        have := hx (at_ + q) (by omega)
        unfold fn at this ⊢
        rw [this, decide_eq_false (by omega : ¬ at_ + q < at_ + q)]
        simp
      have hrest : ∀ p, p ≠ at_ + q → (decide (p < at_ + (q + 1)) : Bool) = decide (p < at_ + q) := fun p h => by rw [decide_eq_decide]; omega
      cases hbq : b.getD q false with
      | true =>
        have h1 := ih (q + 1) (o.set (at_ + q) (!(fn a (at_ + q)))) (by omega) (by omega) (by rw [List.length_set]; exact ho) (fun p hp => by
          unfold fn
          rw [getD_setB]
          by_cases e : p = at_ + q
          · subst e
            rw [if_pos ⟨rfl, by omega⟩, decide_eq_true (by omega : at_ + q < at_ + (q + 1))]
            have := hzb
            unfold fn at this
            rw [this, hbq]
            simp
          · rw [if_neg (by omega), hrest p e]
            exact hx p hp)
        refine Ev.step (fun k => ?_) h1
        simp only [wholekeep_turn.l0]
        rw [if_pos (by omega), if_pos (by omega), if_pos (by rw [B_size]; omega), bt_B b q hq2, if_pos ((eq49 _).2 hbq), w64p (a := at_) (b := q) (by omega) (by omega), if_pos (by omega), if_pos (by rw [ints_length, List.length_map]; omega), rd_ints, getD_bits o _ (by omega), hoq, xor_one, Int.toNat_natCast, ints_set, set_bits, w64s (by omega)]
      | false =>
        have h1 := ih (q + 1) o (by omega) (by omega) ho (fun p hp => by
          rw [hx p hp]
          by_cases e : p = at_ + q
          · subst e; rw [hzb, hbq]; simp
          · rw [hrest p e])
        refine Ev.step (fun k => ?_) h1
        simp only [wholekeep_turn.l0]
        rw [if_pos (by omega), if_pos (by omega), if_pos (by rw [B_size]; omega), bt_B b q hq2, if_neg (by rw [eq49, hbq]; simp), w64s (by omega)]
  have h := key (b.length - 0) 0 a rfl (by omega) rfl (fun p hp => by
    by_cases h : p < at_
    · rw [fn_append, if_pos (by simpa [zeros] using h), fn_zeros]; simp
    · rw [decide_eq_false (by omega : ¬ p < at_ + 0)]; simp)
  refine Ev.congr (fun k => ?_) h
  unfold wholekeep_turn.f
  rw [if_pos (by rw [B_size]; omega), B_size, show bytesOf (B a) = ints (a.map bit) from bytesOf_str _ (bits_bytes a)]
  rfl
/-! ### Bits of numbers -/
theorem enc_bit (x : Int) (h0 : 0 ≤ x) (h1 : x ≤ 255) : ∃ b, Utf8.encode ((48 + (Int.tmod x 2)) % 256) = B [b] := by
  have h : Int.tmod x 2 = 0 ∨ Int.tmod x 2 = 1 := by
    rw [Int.tmod_eq_emod_of_nonneg h0]; omega
  rcases h with h | h
  · exact ⟨false, by rw [h]; rfl⟩
  · exact ⟨true, by rw [h]; rfl⟩
theorem bitsOf_ev (l : List Int) (hl : ∀ x ∈ l, (Lit.int .u8 x).wf = true) (m : Nat) (hm : m ≤ 1000000) (most : Int) (e : mn (l.length : Int) most = (m : Int)) (hml : m ≤ l.length) :
    ∃ b : List Bool, b.length = m ∧ Ev (fun k => wholekeep_bitsOf.f k l most) (B b) := by
  have key : ∀ d i : Nat, ∀ o : List Bool, m - i = d → i ≤ m → o.length = i → ∃ b : List Bool, b.length = m ∧ Ev (fun k => wholekeep_bitsOf.l0 k (B o) (l.take m) (m : Int) (i : Int)) (B b) := by
    intro d
    induction d with
    | zero =>
      intro i o hd hi ho
      obtain rfl : i = m := by omega
      refine ⟨o, ho, Ev.step (f := fun _ => some (B o)) (fun k => ?_) (Ev.now _)⟩
      simp only [wholekeep_bitsOf.l0]
      rw [if_neg (by omega)]
    | succ d ih =>
      intro i o hd hi ho
      have hil : i < (l.take m).length := by rw [List.length_take]; omega
      have hx : rd (l.take m) (i : Int) ∈ l := by
        unfold rd
        rw [Int.toNat_natCast, List.getD_eq_getElem?_getD, List.getElem?_eq_getElem hil]
        exact List.mem_of_mem_take (List.getElem_mem hil)
      have hb8 : 0 ≤ rd (l.take m) (i : Int) ∧ rd (l.take m) (i : Int) ≤ 255 := by
        have h := hl _ hx
        simp [Lit.wf, IntKind.min, IntKind.max, IntKind.signed, IntKind.bits] at h
        omega
      obtain ⟨c, hc⟩ := enc_bit _ hb8.1 hb8.2
      obtain ⟨b, hbl, hb⟩ := ih (i + 1) (o ++ [c]) (by omega) (by omega) (by simp [ho])
      refine ⟨b, hbl, Ev.step (fun k => ?_) hb⟩
      simp only [wholekeep_bitsOf.l0]
      rw [if_pos (by omega), if_pos (by omega), if_pos (by omega), hc, if_pos (by rw [B_size, B_size]; simp; omega), B_append, w64s (by omega)]
  obtain ⟨b, hbl, hb⟩ := key (m - 0) 0 [] rfl (by omega) rfl
  refine ⟨b, hbl, Ev.congr (fun k => ?_) hb⟩
  unfold wholekeep_bitsOf.f
  rw [e, if_pos (by omega), if_pos (by omega), Int.toNat_natCast, show ((l.take m).length : Int) = (m : Int) by rw [List.length_take]; omega]
  rfl
theorem mn_nat (a b : Nat) : mn (a : Int) (b : Int) = ((min a b : Nat) : Int) := by unfold mn; split <;> omega
theorem bitsOf_nat (l : List Int) (hl : ∀ x ∈ l, (Lit.int .u8 x).wf = true) (n : Nat) (hn : n ≤ 1000000) : ∃ b : List Bool, b.length = min l.length n ∧ Ev (fun k => wholekeep_bitsOf.f k l (n : Int)) (B b) :=
  bitsOf_ev l hl (min l.length n) (by omega) (n : Int) (mn_nat _ _) (by omega)
theorem byOf_ev (l : List Int) (hl : ∀ x ∈ l, (Lit.int .u8 x).wf = true) : ∃ g : List Bool, Div g ∧ Ev (fun k => wholekeep_byOf.f k l) (B g) := by
  obtain ⟨b, hbl, hb⟩ := bitsOf_nat l hl 15 (by omega)
  refine ⟨[true] ++ b ++ [true], ⟨by simp, by simp; omega, rfl, ?_⟩, ?_⟩
  · simp [List.getD]
  · refine Ev.bind hb (f := fun _ t121 => if 1 + t121.size ≤ 9223372036854775807 then (if ((⟨#[49]⟩ : ByteArray) ++ t121).size + 1 ≤ 9223372036854775807 then (some (((⟨#[49]⟩ : ByteArray) ++ t121) ++ (⟨#[49]⟩ : ByteArray))) else (none)) else (none)) (Ev.congr (f := fun _ => some (B ([true] ++ b ++ [true]))) (fun k => ?_) (Ev.now _))
    rw [if_pos (by rw [B_size]; omega), show (⟨#[49]⟩ : ByteArray) = B [true] from rfl, B_append, if_pos (by rw [B_size]; simp; omega), B_append]
theorem cyclics_at : (wholekeep_cyclics.f 60).getD false = true := by decide +kernel
theorem cyclics_ev : Ev (fun k => wholekeep_cyclics.f k) true := by
  refine Ev.of wholekeep_cyclics.mono (k := 60) ?_
  cases e : wholekeep_cyclics.f 60 with
  | none => have := cyclics_at; rw [e] at this; cases this
  | some b => have := cyclics_at; rw [e] at this; exact congrArg some this
end Go.Proofs.YthjhjjhecokcdaaDoor.Pure
