/- What is proved: what the program's checksum and its sealing of a piece come to, told of lists of natural numbers; one byte that is another changes the checksum. Conditions: those that each theorem names. -/
import Derived.Test.YtjbiiciippclcaaDoorRowLaw
import Derived.Lib.Strings
namespace Go.Proofs.YtjbiiciippclcaaDoor.Pure
open Go.RowKit Go.Proofs.YtjbiiciippclcaaDoor.PPieceLong Go.Proofs.YtjbiiciippclcaaDoorW.PrintWords Go.Proofs.YtjbiiciippclcaaDoorW.PrintLast Go.Proofs.YtjbiiciippclcaaDoorW.PrintMore Go.Proofs.YtjbiiciippclcaaDoor.GF

/-! ### Strings as lists -/
def str (l : List Nat) : ByteArray := strOfNums (ints l)
def nats (s : ByteArray) : List Nat := s.data.toList.map fun b => b.toNat
theorem nats_bytes (s : ByteArray) : Bytes (nats s) := Bytes.of fun a ha => by
  obtain ⟨b, _, rfl⟩ := List.mem_map.1 ha
  exact b.toNat_lt
theorem str_data (l : List Nat) : (str l).data.toList = l.map UInt8.ofNat := by
  simp [str, strOfNums, ints, List.map_map, Function.comp_def]
theorem str_nats (s : ByteArray) : str (nats s) = s := by
  apply ByteArray.ext
  apply Array.toList_inj.1
  rw [str_data, nats, List.map_map]
  have : (UInt8.ofNat ∘ fun b : UInt8 => b.toNat) = id := by funext b; simp
  rw [this, List.map_id]
theorem nats_str (l : List Nat) (h : Bytes l) : nats (str l) = l := by
  rw [nats, str_data, List.map_map]
  conv => rhs; rw [← List.map_id l]
  refine List.map_congr_left fun a ha => ?_
  have := h.mem a ha
  simp; omega
theorem size_data (s : ByteArray) : s.size = s.data.toList.length := by rw [Array.length_toList]; rfl
theorem nats_length (s : ByteArray) : (nats s).length = s.size := by rw [size_data]; simp [nats]
theorem str_size (l : List Nat) : (str l).size = l.length := by rw [size_data, str_data, List.length_map]
theorem bt_str (l : List Nat) (h : Bytes l) (i : Nat) : bt (str l) (i : Int) = ((l.getD i 0 : Nat) : Int) := by
  rw [← rd_bytesOf]
  have : bytesOf (str l) = ints l := by
    conv => rhs; rw [← nats_str l h]
    simp [bytesOf, ints, nats, List.map_map, Function.comp_def]
  rw [this, rd_ints]
theorem bt_str0 (l : List Nat) (h : Bytes l) : bt (str l) 0 = ((l.getD 0 0 : Nat) : Int) := bt_str l h 0
theorem bytesOf_str (l : List Nat) (h : Bytes l) : bytesOf (str l) = ints l := by
  conv => rhs; rw [← nats_str l h]
  simp [bytesOf, ints, nats, List.map_map, Function.comp_def]
theorem str_append (l m : List Nat) : str l ++ str m = str (l ++ m) := by
  apply ByteArray.ext
  apply Array.toList_inj.1
  rw [str_data, ByteArray.data_append, Array.toList_append, str_data, str_data, List.map_append]
theorem str_extract (l : List Nat) (a b : Nat) : (str l).extract a b = str ((l.take b).drop a) := by
  apply ByteArray.ext
  apply Array.toList_inj.1
  rw [str_data, ByteArray.data_extract, Array.toList_extract, str_data, List.extract_eq_take_drop]
  rw [List.map_drop, List.map_take, List.drop_take]
theorem str_toList (l : List Nat) : (str l).toList = l.map UInt8.ofNat := by rw [Lib.toList_data]; exact str_data l
theorem str_inj {l m : List Nat} (hl : Bytes l) (hm : Bytes m) (h : (str l).toList = (str m).toList) : l = m := by
  rw [str_toList, str_toList, ← str_data, ← str_data] at h
  have := nats_str l hl
  rw [nats, h] at this
  exact this.symm.trans (nats_str m hm)
theorem Bytes.append {l m : List Nat} (hl : Bytes l) (hm : Bytes m) : Bytes (l ++ m) := Bytes.of fun a ha => by
  rcases List.mem_append.1 ha with h | h
  · exact hl.mem a h
  · exact hm.mem a h
theorem Bytes.take {l : List Nat} (hl : Bytes l) (n : Nat) : Bytes (l.take n) := Bytes.of fun a ha => hl.mem a (List.mem_of_mem_take ha)
theorem Bytes.drop {l : List Nat} (hl : Bytes l) (n : Nat) : Bytes (l.drop n) := Bytes.of fun a ha => hl.mem a (List.mem_of_mem_drop ha)
theorem Bytes.set {l : List Nat} (hl : Bytes l) (i v : Nat) (hv : v < 256) : Bytes (l.set i v) := fun j => by
  rw [getD_set]; split; exact hv; exact hl j
/-! ### The checksum -/
theorem and1_32 (x : Nat) (hx : x < 4294967296) : bits .and .u32 (x : Int) 1 = ((x % 2 : Nat) : Int) := by
  have h := bits_mask .u32 32 (by decide) wraps_u32 1 (by decide) (x : Int) (by omega) (by omega)
  simpa using h
theorem x32c (x : Nat) (hx : x < 4294967296) : bits .xor .u32 (x : Int) 2197175160 = ((x ^^^ 2197175160 : Nat) : Int) := xor32 x 2197175160 hx (by decide)
theorem x32n (x : Nat) (hx : x < 4294967296) : bits .xor .u32 4294967295 (x : Int) = ((4294967295 ^^^ x : Nat) : Int) := xor32 4294967295 x (by decide) hx
def it32 : Nat → Nat → Nat
  | 0, x => x
  | n + 1, x => it32 n (rd32 x)
theorem it32_lt (n x : Nat) (hx : x < 4294967296) : it32 n x < 4294967296 := by
  induction n generalizing x with
  | zero => exact hx
  | succ n ih => exact ih _ (rd32_lt x hx)
theorem it32_inj (n x y : Nat) (hx : x < 4294967296) (hy : y < 4294967296) (h : it32 n x = it32 n y) : x = y := by
  induction n generalizing x y with
  | zero => exact h
  | succ n ih => exact rd32_inj x y hx hy (ih _ _ (rd32_lt x hx) (rd32_lt y hy) h)
def crcS (x : Nat) (l : List Nat) : Nat := l.foldl (fun x a => it32 8 (x ^^^ a)) x
def crc (l : List Nat) : Nat := 4294967295 ^^^ crcS 4294967295 l
theorem xor32_lt {a b : Nat} (ha : a < 4294967296) (hb : b < 4294967296) : a ^^^ b < 4294967296 := Nat.xor_lt_two_pow (n := 32) ha hb
theorem crcS_lt (l : List Nat) (hl : ∀ a, a ∈ l → a < 256) (x : Nat) (hx : x < 4294967296) : crcS x l < 4294967296 := by
  induction l generalizing x with
  | nil => exact hx
  | cons a l ih =>
    have ha := hl a List.mem_cons_self
    exact ih (fun b hb => hl b (List.mem_cons_of_mem _ hb)) _ (it32_lt 8 _ (xor32_lt hx (by omega)))
theorem xor_cancel_left {a b c : Nat} (h : a ^^^ b = a ^^^ c) : b = c := by
  have e : a ^^^ (a ^^^ b) = a ^^^ (a ^^^ c) := by rw [h]
  rwa [← Nat.xor_assoc, ← Nat.xor_assoc, Nat.xor_self, Nat.zero_xor, Nat.zero_xor] at e
theorem crcS_inj (l : List Nat) (hl : ∀ a, a ∈ l → a < 256) (x y : Nat) (hx : x < 4294967296) (hy : y < 4294967296) (h : crcS x l = crcS y l) : x = y := by
  induction l generalizing x y with
  | nil => exact h
  | cons a l ih =>
    have ha := hl a List.mem_cons_self
    have h1 := ih (fun b hb => hl b (List.mem_cons_of_mem _ hb)) _ _ (it32_lt 8 _ (xor32_lt hx (by omega))) (it32_lt 8 _ (xor32_lt hy (by omega))) h
    have h2 := it32_inj 8 _ _ (xor32_lt hx (by omega)) (xor32_lt hy (by omega)) h1
    rw [Nat.xor_comm x, Nat.xor_comm y] at h2
    exact xor_cancel_left h2
/-- One byte that is another changes the checksum. -/
theorem crcS_set (l : List Nat) (hl : ∀ a, a ∈ l → a < 256) (i v : Nat) (hv : v < 256) (hi : i < l.length) (hne : v ≠ l.getD i 0) (x : Nat) (hx : x < 4294967296) : crcS x (l.set i v) ≠ crcS x l := by
  induction l generalizing i x with
  | nil => simp at hi
  | cons a l ih =>
    have ha := hl a List.mem_cons_self
    have hl' : ∀ b, b ∈ l → b < 256 := fun b hb => hl b (List.mem_cons_of_mem _ hb)
    cases i with
    | zero =>
      intro h
      have h1 := crcS_inj l hl' _ _ (it32_lt 8 _ (xor32_lt hx (by omega))) (it32_lt 8 _ (xor32_lt hx (by omega))) h
      have h2 := it32_inj 8 _ _ (xor32_lt hx (by omega)) (xor32_lt hx (by omega)) h1
      exact hne (xor_cancel_left h2)
    | succ i =>
      exact ih hl' i (by simpa using hi) (by simpa using hne) _ (it32_lt 8 _ (xor32_lt hx (by omega)))
theorem crc_lt (l : List Nat) (hl : Bytes l) : crc l < 4294967296 := xor32_lt (by omega) (crcS_lt l hl.mem _ (by omega))
theorem crc_set (l : List Nat) (hl : Bytes l) (i v : Nat) (hv : v < 256) (hi : i < l.length) (hne : v ≠ l.getD i 0) : crc (l.set i v) ≠ crc l := fun h =>
  crcS_set l hl.mem i v hv hi hne _ (by omega) (xor_cancel_left h)
theorem sum_l1 (s : ByteArray) (r : Int) (n : Int) (i : Nat) : ∀ d j x : Nat, d + j = 8 → x < 4294967296 → Ev (fun k => piece_Sum.l0 k s ((it32 d x : Nat) : Int) n (wrap64 ((i : Int) + 1))) r → Ev (fun k => piece_Sum.l1 k s (x : Int) n (i : Int) (j : Int)) r := by
  intro d
  induction d with
  | zero =>
    intro j x hj hx h
    refine Ev.step (fun k => ?_) h
    simp only [piece_Sum.l1]
    rw [if_neg (by omega)]; rfl
  | succ d ih =>
    intro j x hj hx h
    have h1 := ih (j + 1) (rd32 x) (by omega) (rd32_lt x hx) h
    have hj64 : j < 4611686018427387903 := by omega
    refine Ev.step (fun k => ?_) h1
    simp only [piece_Sum.l1]
    rw [if_pos (by omega), and1_32 x hx]
    by_cases h2 : x % 2 = 1
    · rw [if_pos (by omega), show (x : Int) / 2 = ((x / 2 : Nat) : Int) by omega, x32c (x / 2) (by omega), w64s hj64]
      rw [show rd32 x = (x / 2) ^^^ 2197175160 by unfold rd32; rw [if_pos h2]]
    · rw [if_neg (by omega), show (x : Int) / 2 = ((x / 2 : Nat) : Int) by omega, w64s hj64]
      rw [show rd32 x = x / 2 by unfold rd32; rw [if_neg h2]]
theorem sum_l0 (l : List Nat) (hl : Bytes l) (hn : l.length < 4611686018427387000) : ∀ d i x : Nat, l.length - i = d → i ≤ l.length → x < 4294967296 →
    Ev (fun k => piece_Sum.l0 k (str l) (x : Int) (l.length : Int) (i : Int)) ((4294967295 ^^^ crcS x (l.drop i) : Nat) : Int) := by
  intro d
  induction d with
  | zero =>
    intro i x hd hi hx
    have hli : l.drop i = [] := List.drop_eq_nil_iff.2 (by omega)
    refine Ev.step (f := fun _ => some ((4294967295 ^^^ x : Nat) : Int)) (fun k => ?_) (by rw [hli]; exact Ev.now _)
    simp only [piece_Sum.l0]
    rw [if_neg (by omega)]
    rw [x32n x hx]
  | succ d ih =>
    intro i x hd hi hx
    have hil : i < l.length := by omega
    have hb := hl i
    have hxb : x ^^^ l.getD i 0 < 4294967296 := xor32_lt hx (by omega)
    have h1 := ih (i + 1) (it32 8 (x ^^^ l.getD i 0)) (by omega) (by omega) (it32_lt 8 _ hxb)
    have hds : l.drop i = l.getD i 0 :: l.drop (i + 1) := by
      rw [List.drop_eq_getElem_cons hil]; simp [List.getD, hil]
    have hi64 : i < 4611686018427387903 := by omega
    have h2 := sum_l1 (str l) ((4294967295 ^^^ crcS x (l.drop i) : Nat) : Int) (l.length : Int) i 8 0 (x ^^^ l.getD i 0) rfl hxb (by
      rw [hds, w64s hi64]; exact h1)
    refine Ev.step (fun k => ?_) h2
    simp only [piece_Sum.l0]
    rw [if_pos (by omega), if_pos (by omega), if_pos (by rw [str_size]; omega), bt_str l hl, show ((l.getD i 0 : Nat) : Int) % 4294967296 = ((l.getD i 0 : Nat) : Int) by omega, xor32 _ _ hx (by omega)]
    rfl
theorem sum_ev (l : List Nat) (hl : Bytes l) (hn : l.length < 4611686018427387000) : Ev (fun k => piece_Sum.f k (str l)) ((crc l : Nat) : Int) := by
  have h := sum_l0 l hl hn (l.length - 0) 0 4294967295 rfl (by omega) (by omega)
  refine Ev.congr (fun k => ?_) h
  unfold piece_Sum.f
  rw [str_size]; rfl
/-! ### A piece -/
def str4 (c : Nat) : List Nat := [c % 256, c / 256 % 256, c / 65536 % 256, c / 16777216 % 256]
theorem str4_bytes (c : Nat) : Bytes (str4 c) := Bytes.of fun a ha => by
  simp only [str4, List.mem_cons, List.not_mem_nil, or_false] at ha
  omega
theorem str4_ints (c : Nat) : [((c : Nat) : Int) % 256, ((c : Nat) : Int) / 256 % 256, ((c : Nat) : Int) / 65536 % 256, ((c : Nat) : Int) / 16777216 % 256] = ints (str4 c) := by
  simp [str4, ints]
theorem str4_inj {c d : Nat} (hc : c < 4294967296) (hd : d < 4294967296) (h : str4 c = str4 d) : c = d := by
  simp only [str4, List.cons.injEq, and_true] at h
  omega
def sld (len : Nat) (part : List Nat) : List Nat := ([len % 256] ++ part) ++ str4 (crc ([len % 256] ++ part))
theorem head_bytes (len : Nat) (part : List Nat) (hp : Bytes part) : Bytes ([len % 256] ++ part) := Bytes.append (Bytes.of fun a ha => by simp at ha; omega) hp
theorem sld_bytes (len : Nat) (part : List Nat) (hp : Bytes part) : Bytes (sld len part) := Bytes.append (head_bytes len part hp) (str4_bytes _)
theorem sld_length (len : Nat) (part : List Nat) : (sld len part).length = part.length + 5 := by simp [sld, str4]
theorem sealed_ev (len : Nat) (part : List Nat) (hp : Bytes part) (hn : part.length < 1000000) : Ev (fun k => piece_sealed.f k (len : Int) (ints part)) (str (sld len part)) := by
  have hb := head_bytes len part hp
  have hs := sum_ev _ hb (by simp; omega)
  have e : ([((len : Nat) : Int) % 256] : List Int) ++ ints part = ints ([len % 256] ++ part) := by simp [ints]
  refine Ev.congr (fun k => ?_) (Ev.bind hs (f := fun _ t => if (str ([len % 256] ++ part)).size + (strOfNums [t % 256, t / 256 % 256, t / 65536 % 256, t / 16777216 % 256]).size ≤ 9223372036854775807 then some (str ([len % 256] ++ part) ++ strOfNums [t % 256, t / 256 % 256, t / 65536 % 256, t / 16777216 % 256]) else none) (Ev.congr (f := fun _ => some (str (sld len part))) (fun k => ?_) (Ev.now _)))
  · unfold piece_sealed.f
    rw [Option.bind_some, if_pos (by rw [ints_length]; simp; omega), Option.bind_some, e]
    rfl
  · show (if _ then _ else _) = _
    rw [str4_ints]
    show (if (str _).size + (str _).size ≤ _ then some (str _ ++ str _) else none) = _
    rw [if_pos (by rw [str_size, str_size]; simp [str4]; omega), str_append]
    rfl
/-! ### The size of a part -/
def psize (n k : Nat) : Nat := (n + k - 1) / k
theorem size_some (n k : Nat) (hn : n < 1000) (hk : 1 ≤ k) (hk2 : k < 1000) : piece_size.f (n : Int) (k : Int) = some ((psize n k : Nat) : Int) := by
  unfold piece_size.f psize
  rw [if_neg (by omega), w64 (i := (n : Int) + k) (by omega) (by omega), w64 (i := (n : Int) + k - 1) (by omega) (by omega), show ((n : Int) + k - 1) = ((n + k - 1 : Nat) : Int) by omega, Int.tdiv_eq_ediv_of_nonneg (by omega)]
  have h : (n + k - 1) / k ≤ n + k - 1 := Nat.div_le_self _ _
  rw [show (((n + k - 1 : Nat) : Int) / (k : Int)) = (((n + k - 1) / k : Nat) : Int) from (Int.natCast_ediv _ _).symm]
  generalize (n + k - 1) / k = q at h ⊢
  rw [w64 (i := (q : Int)) (by omega) (by omega)]
end Go.Proofs.YtjbiiciippclcaaDoor.Pure
