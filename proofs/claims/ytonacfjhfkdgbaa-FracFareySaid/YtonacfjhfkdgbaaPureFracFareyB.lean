/- What is proved: some of the 30 rows of the law FracFarey, by the kernel's reckoning. Conditions: none. -/
import Derived.Test.YtonacfjhfkdgbaaPureFracFareyA
namespace Go.Proofs.Ytonacfjhfkdgbaa.Pure
open Go.RowKit Go.Proofs.Ytonacfjhfkdgbaa.PFracFarey Go.Proofs.YtonacfjhfkdgbaaW.PrintWords Go.Proofs.YtonacfjhfkdgbaaW.PrintLast

theorem row3_is : frac_Farey.f 1100 3 = some (row3, 0) := by decide +kernel
theorem row3_eq : api_Fraction_17.f 1100 row3 row3 = some true := by decide +kernel
theorem body_low : (List.range 12).all bodyB = true := by decide +kernel
theorem body_12 : bodyB 12 = true := by decide +kernel
theorem body_13 : bodyB 13 = true := by decide +kernel
theorem body_14 : bodyB 14 = true := by decide +kernel
theorem body_15 : bodyB 15 = true := by decide +kernel
theorem body_16 : bodyB 16 = true := by decide +kernel
theorem body_17 : bodyB 17 = true := by decide +kernel
theorem body_18 : bodyB 18 = true := by decide +kernel
theorem body_19 : bodyB 19 = true := by decide +kernel
theorem body_20 : bodyB 20 = true := by decide +kernel
theorem body_21 : bodyB 21 = true := by decide +kernel
end Go.Proofs.Ytonacfjhfkdgbaa.Pure
