/- What is proved: some of the 30 rows of the law FracFarey, by the kernel's reckoning. Conditions: none. -/
import Derived.Test.YtonacfjhfkdgbaaPureFracFareyA
namespace Go.Proofs.Ytonacfjhfkdgbaa.Pure
open Go.RowKit Go.Proofs.Ytonacfjhfkdgbaa.PFracFarey Go.Proofs.YtonacfjhfkdgbaaW.PrintWords Go.Proofs.YtonacfjhfkdgbaaW.PrintLast

theorem body_22 : bodyB 22 = true := by decide +kernel
theorem body_23 : bodyB 23 = true := by decide +kernel
theorem body_24 : bodyB 24 = true := by decide +kernel
theorem body_25 : bodyB 25 = true := by decide +kernel
theorem body_26 : bodyB 26 = true := by decide +kernel
end Go.Proofs.Ytonacfjhfkdgbaa.Pure
