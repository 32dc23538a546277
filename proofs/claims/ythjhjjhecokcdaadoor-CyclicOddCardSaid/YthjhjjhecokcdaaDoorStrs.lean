/- What is proved: Go's strings and slices of bytes as lists of natural numbers; xor of bytes. Conditions: those that each theorem names. -/
import Derived.Test.YthjhjjhecokcdaaDoorPCycx3
import Derived.Laws.BitsLemmas
import Derived.Lib.Strings
namespace Go.Proofs.YthjhjjhecokcdaaDoor.Pure
open Go.RowKit Go.Proofs.YthjhjjhecokcdaaDoor.PCyc Go.Proofs.YthjhjjhecokcdaaDoorW.PrintWords Go.Proofs.YthjhjjhecokcdaaDoorW.PrintLast Go.Proofs.YthjhjjhecokcdaaDoorW.PrintMore
set_option linter.unusedVariables false

/-! ### xor of Go's integers -/
theorem xor_nat (k : IntKind) (j : Nat) (hj : j ≤ k.bits) (hk : ∀ n : Int, 0 ≤ n → n < 2 ^ j → k.wrap n = n) (a b : Nat) (ha : a < 2 ^ j) (hb : b < 2 ^ j) :
    bits .xor k a b = ((a ^^^ b : Nat) : Int) := by
  have hp : 2 ^ j ≤ 2 ^ k.bits := Nat.pow_le_pow_right (by decide) hj
  have ha' : a % 2 ^ k.bits = a := Nat.mod_eq_of_lt (Nat.lt_of_lt_of_le ha hp)
  have hb' : b % 2 ^ k.bits = b := Nat.mod_eq_of_lt (Nat.lt_of_lt_of_le hb hp)
  have cast : ∀ n : Nat, n < 2 ^ j → ((n : Nat) : Int) < 2 ^ j := fun n h => by exact_mod_cast h
  simp only [bits, BitVec.ofInt_natCast, BitVec.toNat_xor, BitVec.toNat_ofNat, ha', hb']
  exact hk _ (Int.natCast_nonneg _) (cast _ (Nat.xor_lt_two_pow ha hb))
theorem xor8 (a b : Nat) (ha : a < 256) (hb : b < 256) : bits .xor .u8 a b = ((a ^^^ b : Nat) : Int) := xor_nat .u8 8 (by decide) wraps_u8 a b ha hb
theorem w64 {i : Int} (h0 : 0 ≤ i) (h : i < 4611686018427387904) : wrap64 i = i := by unfold wrap64; omega
theorem w64s {j : Nat} (h : j < 4611686018427387903) : wrap64 ((j : Int) + 1) = ((j + 1 : Nat) : Int) := by unfold wrap64; omega
/-! ### Lists of natural numbers as Go's -/
def ints (l : List Nat) : List Int := l.map fun (a : Nat) => (a : Int)
theorem ints_length (l : List Nat) : (ints l).length = l.length := by simp [ints]
theorem rd_ints (l : List Nat) (i : Nat) : rd (ints l) (i : Int) = ((l.getD i 0 : Nat) : Int) := by
  unfold rd ints
  rw [Int.toNat_natCast, List.getD_eq_getElem?_getD, List.getD_eq_getElem?_getD, List.getElem?_map]
  cases l[i]? <;> rfl
theorem ints_set (l : List Nat) (i v : Nat) : (ints l).set i (v : Int) = ints (l.set i v) := by simp [ints, List.map_set]
theorem ints_rep (n : Nat) : List.replicate n (0 : Int) = ints (List.replicate n 0) := by simp [ints]
theorem ints_append (l m : List Nat) : ints l ++ ints m = ints (l ++ m) := by simp [ints]
theorem getD_set (l : List Nat) (i j v : Nat) : (l.set i v).getD j 0 = if j = i ∧ i < l.length then v else l.getD j 0 := by
  rw [List.getD_eq_getElem?_getD, List.getD_eq_getElem?_getD, List.getElem?_set]
  by_cases h : i = j
  · subst h
    by_cases h2 : i < l.length
    · simp [h2]
    · simp [h2]
  · rw [if_neg h, if_neg (by omega)]
theorem nat_ext {l m : List Nat} (h : l.length = m.length) (e : ∀ n, n < l.length → l.getD n 0 = m.getD n 0) : l = m := by
  apply List.ext_getElem h
  intro n h1 h2
  have := e n h1
  simpa [List.getD, h1, h2] using this
def Bytes (l : List Nat) : Prop := ∀ i, l.getD i 0 < 256
theorem Bytes.nil : Bytes [] := fun i => by simp
theorem Bytes.of {l : List Nat} (h : ∀ a, a ∈ l → a < 256) : Bytes l := by
  intro i
  rw [List.getD_eq_getElem?_getD]
  rcases Nat.lt_or_ge i l.length with h1 | h1
  · rw [List.getElem?_eq_getElem h1]; exact h _ (List.getElem_mem h1)
  · rw [List.getElem?_eq_none h1]; decide
theorem Bytes.mem {l : List Nat} (h : Bytes l) : ∀ a, a ∈ l → a < 256 := by
  intro a ha
  obtain ⟨i, hi, rfl⟩ := List.mem_iff_getElem.1 ha
  have := h i
  rwa [List.getD_eq_getElem?_getD, List.getElem?_eq_getElem hi] at this
/-! ### Strings as lists -/
def str (l : List Nat) : ByteArray := strOfNums (ints l)
def nats (s : ByteArray) : List Nat := s.data.toList.map fun b => b.toNat
theorem nats_bytes (s : ByteArray) : Bytes (nats s) := Bytes.of fun a ha => by
  obtain ⟨b, _, rfl⟩ := List.mem_map.1 ha
  exact b.toNat_lt
theorem str_data (l : List Nat) : (str l).data.toList = l.map UInt8.ofNat := by
  simp [str, strOfNums, ints, List.map_map, Function.comp_def]
theorem str_nats (s : ByteArray) : str (nats s) = s := by
  apply ByteArray.ext
  apply Array.toList_inj.1
  rw [str_data, nats, List.map_map]
  have : (UInt8.ofNat ∘ fun b : UInt8 => b.toNat) = id := by funext b; simp
  rw [this, List.map_id]
theorem nats_str (l : List Nat) (h : Bytes l) : nats (str l) = l := by
  rw [nats, str_data, List.map_map]
  conv => rhs; rw [← List.map_id l]
  refine List.map_congr_left fun a ha => ?_
  have := h.mem a ha
  simp; omega
theorem size_data (s : ByteArray) : s.size = s.data.toList.length := by rw [Array.length_toList]; rfl
theorem nats_length (s : ByteArray) : (nats s).length = s.size := by rw [size_data]; simp [nats]
theorem str_size (l : List Nat) : (str l).size = l.length := by rw [size_data, str_data, List.length_map]
theorem bt_str (l : List Nat) (h : Bytes l) (i : Nat) : bt (str l) (i : Int) = ((l.getD i 0 : Nat) : Int) := by
  rw [← rd_bytesOf]
  have : bytesOf (str l) = ints l := by
    conv => rhs; rw [← nats_str l h]
    simp [bytesOf, ints, nats, List.map_map, Function.comp_def]
  rw [this, rd_ints]
theorem bt_str0 (l : List Nat) (h : Bytes l) : bt (str l) 0 = ((l.getD 0 0 : Nat) : Int) := bt_str l h 0
theorem bytesOf_str (l : List Nat) (h : Bytes l) : bytesOf (str l) = ints l := by
  conv => rhs; rw [← nats_str l h]
  simp [bytesOf, ints, nats, List.map_map, Function.comp_def]
theorem str_append (l m : List Nat) : str l ++ str m = str (l ++ m) := by
  apply ByteArray.ext
  apply Array.toList_inj.1
  rw [str_data, ByteArray.data_append, Array.toList_append, str_data, str_data, List.map_append]
theorem str_extract (l : List Nat) (a b : Nat) : (str l).extract a b = str ((l.take b).drop a) := by
  apply ByteArray.ext
  apply Array.toList_inj.1
  rw [str_data, ByteArray.data_extract, Array.toList_extract, str_data, List.extract_eq_take_drop]
  rw [List.map_drop, List.map_take, List.drop_take]
theorem str_toList (l : List Nat) : (str l).toList = l.map UInt8.ofNat := by rw [Lib.toList_data]; exact str_data l
theorem str_inj {l m : List Nat} (hl : Bytes l) (hm : Bytes m) (h : (str l).toList = (str m).toList) : l = m := by
  rw [str_toList, str_toList, ← str_data, ← str_data] at h
  have := nats_str l hl
  rw [nats, h] at this
  exact this.symm.trans (nats_str m hm)
theorem Bytes.append {l m : List Nat} (hl : Bytes l) (hm : Bytes m) : Bytes (l ++ m) := Bytes.of fun a ha => by
  rcases List.mem_append.1 ha with h | h
  · exact hl.mem a h
  · exact hm.mem a h
theorem Bytes.take {l : List Nat} (hl : Bytes l) (n : Nat) : Bytes (l.take n) := Bytes.of fun a ha => hl.mem a (List.mem_of_mem_take ha)
theorem Bytes.drop {l : List Nat} (hl : Bytes l) (n : Nat) : Bytes (l.drop n) := Bytes.of fun a ha => hl.mem a (List.mem_of_mem_drop ha)
theorem Bytes.set {l : List Nat} (hl : Bytes l) (i v : Nat) (hv : v < 256) : Bytes (l.set i v) := fun j => by
  rw [getD_set]; split; exact hv; exact hl j
end Go.Proofs.YthjhjjhecokcdaaDoor.Pure
