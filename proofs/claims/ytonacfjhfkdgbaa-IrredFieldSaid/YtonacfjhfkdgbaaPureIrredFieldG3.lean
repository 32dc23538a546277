/- What is proved: rows 3 of the table of first irreducible polynomials, by the kernel's reckoning (for the law IrredField). Conditions: none. -/
import Derived.Test.YtonacfjhfkdgbaaPureIrredFieldF
namespace Go.Proofs.Ytonacfjhfkdgbaa.Pure
def tab3 : List Row := [
  ⟨673, 2, 5, [5, 0, 1]⟩,
  ⟨677, 2, 2, [2, 0, 1]⟩,
  ⟨683, 2, 1, [1, 0, 1]⟩,
  ⟨691, 2, 1, [1, 0, 1]⟩,
  ⟨701, 2, 2, [2, 0, 1]⟩,
  ⟨709, 2, 2, [2, 0, 1]⟩,
  ⟨719, 2, 1, [1, 0, 1]⟩,
  ⟨727, 2, 1, [1, 0, 1]⟩,
  ⟨733, 2, 2, [2, 0, 1]⟩,
  ⟨739, 2, 1, [1, 0, 1]⟩,
  ⟨743, 2, 1, [1, 0, 1]⟩,
  ⟨751, 2, 1, [1, 0, 1]⟩,
  ⟨757, 2, 2, [2, 0, 1]⟩,
  ⟨761, 2, 3, [3, 0, 1]⟩,
  ⟨769, 2, 7, [7, 0, 1]⟩,
  ⟨773, 2, 2, [2, 0, 1]⟩,
  ⟨787, 2, 1, [1, 0, 1]⟩,
  ⟨797, 2, 2, [2, 0, 1]⟩,
  ⟨809, 2, 3, [3, 0, 1]⟩,
  ⟨811, 2, 1, [1, 0, 1]⟩,
  ⟨821, 2, 2, [2, 0, 1]⟩,
  ⟨823, 2, 1, [1, 0, 1]⟩,
  ⟨827, 2, 1, [1, 0, 1]⟩,
  ⟨829, 2, 2, [2, 0, 1]⟩,
  ⟨839, 2, 1, [1, 0, 1]⟩]
theorem tab3_ok : tab3.all rowAll = true := by decide +kernel
end Go.Proofs.Ytonacfjhfkdgbaa.Pure
