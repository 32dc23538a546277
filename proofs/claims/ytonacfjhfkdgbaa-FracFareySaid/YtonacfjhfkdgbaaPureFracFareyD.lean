/- What is proved: some of the 30 rows of the law FracFarey, by the kernel's reckoning. Conditions: none. -/
import Derived.Test.YtonacfjhfkdgbaaPureFracFareyA
namespace Go.Proofs.Ytonacfjhfkdgbaa.Pure
open Go.RowKit Go.Proofs.Ytonacfjhfkdgbaa.PFracFarey Go.Proofs.YtonacfjhfkdgbaaW.PrintWords Go.Proofs.YtonacfjhfkdgbaaW.PrintLast

theorem body_27 : bodyB 27 = true := by decide +kernel
theorem body_28 : bodyB 28 = true := by decide +kernel
theorem body_29 : bodyB 29 = true := by decide +kernel
end Go.Proofs.Ytonacfjhfkdgbaa.Pure
