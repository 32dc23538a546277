/- What is proved: for every prime p up to 997 and every n from 1 to 6 the numbers of irreducible polynomials that the program counts, each times its degree d, for all d that divide n, add up to p^n (the plain statement behind the law IrredMany). Conditions: none beyond the law's own. -/
import Derived.Test.YtonacfjhfkdgbaaPIrredManyx7
namespace Go.Proofs.Ytonacfjhfkdgbaa.Pure
open Go.RowKit Go.Proofs.Ytonacfjhfkdgbaa.PIrredMany Go.Proofs.YtonacfjhfkdgbaaW.PrintWords Go.Proofs.YtonacfjhfkdgbaaW.PrintLast

/-- The rest of a division by a small positive number. -/
theorem within_some (a m : Int) (h1 : 0 < m) (h2 : m ≤ 1000000) : wholekeep_Within.f a m = some (a % m) := by
  unfold wholekeep_Within.f wholeref_Rest.f
  rw [if_neg (by omega)]
  have e := Int.emod_nonneg a (show m ≠ 0 by omega)
  have e2 := Int.emod_lt_of_pos a h1
  by_cases h : Int.tmod a m < 0
  · rw [if_pos h]
    have h3 : Int.tmod a m = a % m - m := by
      rw [Int.tmod_eq_emod]
      by_cases h0 : 0 ≤ a ∨ m ∣ a
      · rw [Int.tmod_eq_emod, if_pos h0] at h; omega
      · rw [if_neg h0]; omega
    have h4 : wrap64 (Int.tmod a m + m) = a % m := by
      rw [h3]; unfold wrap64; omega
    rw [h4]; rfl
  · rw [if_neg h]
    have h3 : Int.tmod a m = a % m := by
      rw [Int.tmod_eq_emod] at h ⊢
      by_cases h0 : 0 ≤ a ∨ m ∣ a
      · rw [if_pos h0]; omega
      · rw [if_neg h0] at h; omega
    rw [h3]; rfl

def plist : List Int := [2, 3, 5, 7, 11, 13, 17, 19, 23, 29, 31, 37, 41, 43, 47, 53, 59, 61, 67, 71, 73, 79, 83, 89, 97, 101, 103, 107, 109, 113, 127, 131, 137, 139, 149, 151, 157, 163, 167, 173, 179, 181, 191, 193, 197, 199, 211, 223, 227, 229, 233, 239, 241, 251, 257, 263, 269, 271, 277, 281, 283, 293, 307, 311, 313, 317, 331, 337, 347, 349, 353, 359, 367, 373, 379, 383, 389, 397, 401, 409, 419, 421, 431, 433, 439, 443, 449, 457, 461, 463, 467, 479, 487, 491, 499, 503, 509, 521, 523, 541, 547, 557, 563, 569, 571, 577, 587, 593, 599, 601, 607, 613, 617, 619, 631, 641, 643, 647, 653, 659, 661, 673, 677, 683, 691, 701, 709, 719, 727, 733, 739, 743, 751, 757, 761, 769, 773, 787, 797, 809, 811, 821, 823, 827, 829, 839, 853, 857, 859, 863, 877, 881, 883, 887, 907, 911, 919, 929, 937, 941, 947, 953, 967, 971, 977, 983, 991, 997]
def fieldB (r : Nat) : Bool := match wholekeep_fieldOf.l0 1100 (r : Int) with | some p => plist.contains p | none => false
theorem field_tab : (List.range 998).all fieldB = true := by decide +kernel
def bodyB (p : Int) (j : Nat) : Bool := match irred_Count.f 1100 p (wrap64 (1 + (j : Int))) with
  | some bt => if bt.2 = 0 then (wholekeep_IrredMany.l0 1100 (wrap64 (1 + (j : Int))) p 0 1 1 == some true) else bt.2 == 2
  | none => false
def rowB (p : Int) : Bool := (List.range 6).all (bodyB p)
theorem body_0 : ((plist.drop 0).take 28).all rowB = true := by decide +kernel
theorem body_1 : ((plist.drop 28).take 28).all rowB = true := by decide +kernel
theorem body_2 : ((plist.drop 56).take 28).all rowB = true := by decide +kernel
theorem body_3 : ((plist.drop 84).take 28).all rowB = true := by decide +kernel
theorem body_4 : ((plist.drop 112).take 28).all rowB = true := by decide +kernel
theorem body_5 : ((plist.drop 140).take 28).all rowB = true := by decide +kernel
theorem body_all (p : Int) (hp : p ∈ plist) : rowB p = true := by
  have e : plist = (plist.drop 0).take 28 ++ (plist.drop 28).take 28 ++ (plist.drop 56).take 28 ++ (plist.drop 84).take 28 ++ (plist.drop 112).take 28 ++ (plist.drop 140).take 28 := by decide +kernel
  rw [e] at hp
  simp only [List.mem_append] at hp
  rcases hp with ((((h | h) | h) | h) | h) | h
  · exact List.all_eq_true.1 body_0 p h
  · exact List.all_eq_true.1 body_1 p h
  · exact List.all_eq_true.1 body_2 p h
  · exact List.all_eq_true.1 body_3 p h
  · exact List.all_eq_true.1 body_4 p h
  · exact List.all_eq_true.1 body_5 p h
theorem first_count : irred_Count.f 1101 2 3 = some (2, 0) := by decide +kernel
theorem polys_true : wholekeep_polys.f 1101 = some true := by decide +kernel

theorem IrredMany : wholekeep_IrredMany.Pure := by
  intro a0 a1 _ _
  refine ⟨1101, ?_⟩
  have hr0 := Int.emod_nonneg a0 (show (998 : Int) ≠ 0 by omega)
  have hr1 := Int.emod_lt_of_pos a0 (show (0 : Int) < 998 by omega)
  obtain ⟨r, hr⟩ := Int.eq_ofNat_of_zero_le hr0
  have hj0 := Int.emod_nonneg a1 (show (6 : Int) ≠ 0 by omega)
  have hj1 := Int.emod_lt_of_pos a1 (show (0 : Int) < 6 by omega)
  obtain ⟨j, hj⟩ := Int.eq_ofNat_of_zero_le hj0
  have hf : fieldB r = true := List.all_eq_true.1 field_tab r (List.mem_range.2 (by omega))
  unfold fieldB at hf
  cases hp : wholekeep_fieldOf.l0 1100 (r : Int) with
  | none => rw [hp] at hf; cases hf
  | some p =>
    rw [hp] at hf
    have hmem : p ∈ plist := by simpa using hf
    have hb : bodyB p j = true := List.all_eq_true.1 (body_all p hmem) j (List.mem_range.2 (by omega))
    have hfo : wholekeep_fieldOf.f 1100 a0 = some p := by
      unfold wholekeep_fieldOf.f
      rw [within_some a0 998 (by omega) (by omega), hr]
      exact hp
    have hw : wholekeep_Within.f a1 6 = some (j : Int) := by rw [within_some a1 6 (by omega) (by omega), hj]
    unfold wholekeep_IrredMany.f
    rw [first_count]
    simp only [Option.bind_some, if_true]
    rw [polys_true]
    simp only [Option.bind_some, Bool.not_true]
    show wholekeep_IrredMany.j0 (1100 + 1) a0 a1 false = some true
    simp only [wholekeep_IrredMany.j0]
    rw [if_neg (by decide), hfo]
    simp only [Option.bind_some]
    rw [hw]
    simp only [Option.bind_some]
    unfold bodyB at hb
    cases hc : irred_Count.f 1100 p (wrap64 (1 + (j : Int))) with
    | none => rw [hc] at hb; cases hb
    | some bt =>
      rw [hc] at hb
      simp only [Option.bind_some]
      by_cases h2 : bt.2 = 0
      · simp only [if_pos h2] at hb ⊢
        simpa using hb
      · simp only [if_neg h2] at hb ⊢
        rw [hb]

end Go.Proofs.Ytonacfjhfkdgbaa.Pure
