/- What is proved: for every n from 1 to 30 the Farey row of the program has neighbours with cross difference 1, each three stand as they should, and their number is one more than the sum of Phi (the plain statement behind the law FracFarey), by the kernel's reckoning over all 30 rows. Conditions: none beyond the law's own. -/
import Derived.Test.YtonacfjhfkdgbaaPureFracFareyB
import Derived.Test.YtonacfjhfkdgbaaPureFracFareyC
import Derived.Test.YtonacfjhfkdgbaaPureFracFareyD
namespace Go.Proofs.Ytonacfjhfkdgbaa.Pure
open Go.RowKit Go.Proofs.Ytonacfjhfkdgbaa.PFracFarey Go.Proofs.YtonacfjhfkdgbaaW.PrintWords Go.Proofs.YtonacfjhfkdgbaaW.PrintLast

theorem body_all (j : Nat) (hj : j < 30) : bodyB j = true := by
  by_cases h : j < 12
  · exact List.all_eq_true.1 body_low j (List.mem_range.2 h)
  · obtain ⟨i, rfl⟩ := Nat.exists_eq_add_of_le (Nat.le_of_not_lt h)
    rcases i with _ | _ | _ | _ | _ | _ | _ | _ | _ | _ | _ | _ | _ | _ | _ | _ | _ | _ | i
    · exact body_12
    · exact body_13
    · exact body_14
    · exact body_15
    · exact body_16
    · exact body_17
    · exact body_18
    · exact body_19
    · exact body_20
    · exact body_21
    · exact body_22
    · exact body_23
    · exact body_24
    · exact body_25
    · exact body_26
    · exact body_27
    · exact body_28
    · exact body_29
    · omega

theorem tail_a (t y : Int) (a0 : Int) (k : Nat) (hw : wholekeep_Within.f a0 30 = some t) (hy : wrap64 (1 + t) = y) (hb : okB k y (frac_Farey.f k y) = true) : wholekeep_FracFarey.j0 (k + 1) a0 false = some true := by
  simp only [wholekeep_FracFarey.j0]
  rw [if_neg (by decide), hw]
  simp only [Option.bind_some]
  rw [hy]
  cases hd : frac_Farey.f k y with
  | none => rw [hd] at hb; cases hb
  | some bs =>
    rw [hd] at hb
    simp only [okB, Bool.and_eq_true, decide_eq_true_eq, beq_iff_eq] at hb
    simp only [Option.bind_some]
    rw [if_pos hb.1]
    exact hb.2
theorem tail_b (a0 : Int) (k : Nat) (body : ∀ j : Nat, j < 30 → okB k (wrap64 (1 + (j : Int))) (frac_Farey.f k (wrap64 (1 + (j : Int)))) = true) : wholekeep_FracFarey.j0 (k + 1) a0 false = some true := by
  have hj0 := Int.emod_nonneg a0 (show (30 : Int) ≠ 0 by omega)
  have hj1 := Int.emod_lt_of_pos a0 (show (0 : Int) < 30 by omega)
  obtain ⟨j, hj⟩ := Int.eq_ofNat_of_zero_le hj0
  have hw : wholekeep_Within.f a0 30 = some (j : Int) := by rw [within_some a0 30 (by omega) (by omega), hj]
  exact tail_a (j : Int) _ a0 k hw rfl (body j (by omega))
theorem tail_some (a0 : Int) : wholekeep_FracFarey.j0 (1099 + 1) a0 false = some true := tail_b a0 1099 body_all
theorem head_some (k k1 : Nat) (hk : k = k1 + 1) (a0 : Int) (h3 : frac_Farey.f k 3 = some (row3, 0)) (h17 : api_Fraction_17.f k row3 row3 = some true) (ht : wholekeep_FracFarey.j0 (k1 + 1) a0 false = some true) : wholekeep_FracFarey.f k a0 = some true := by
  unfold wholekeep_FracFarey.f
  rw [h3]
  simp only [Option.bind_some]
  rw [if_pos trivial]
  show (api_Fraction_17.f k row3 row3).bind _ = _
  rw [h17]
  simp only [Option.bind_some, Bool.not_true]
  rw [hk]
  exact ht

theorem FracFarey : wholekeep_FracFarey.Pure := by
  intro a0 _
  exact ⟨1100, head_some 1100 1099 rfl a0 row3_is row3_eq (tail_some a0)⟩

end Go.Proofs.Ytonacfjhfkdgbaa.Pure
