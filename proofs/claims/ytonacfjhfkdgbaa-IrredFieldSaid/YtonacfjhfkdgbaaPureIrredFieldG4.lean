/- What is proved: rows 4 of the table of first irreducible polynomials, by the kernel's reckoning (for the law IrredField). Conditions: none. -/
import Derived.Test.YtonacfjhfkdgbaaPureIrredFieldF
namespace Go.Proofs.Ytonacfjhfkdgbaa.Pure
def tab4 : List Row := [
  ⟨853, 2, 2, [2, 0, 1]⟩,
  ⟨857, 2, 3, [3, 0, 1]⟩,
  ⟨859, 2, 1, [1, 0, 1]⟩,
  ⟨863, 2, 1, [1, 0, 1]⟩,
  ⟨877, 2, 2, [2, 0, 1]⟩,
  ⟨881, 2, 3, [3, 0, 1]⟩,
  ⟨883, 2, 1, [1, 0, 1]⟩,
  ⟨887, 2, 1, [1, 0, 1]⟩,
  ⟨907, 2, 1, [1, 0, 1]⟩,
  ⟨911, 2, 1, [1, 0, 1]⟩,
  ⟨919, 2, 1, [1, 0, 1]⟩,
  ⟨929, 2, 3, [3, 0, 1]⟩,
  ⟨937, 2, 5, [5, 0, 1]⟩,
  ⟨941, 2, 2, [2, 0, 1]⟩,
  ⟨947, 2, 1, [1, 0, 1]⟩,
  ⟨953, 2, 3, [3, 0, 1]⟩,
  ⟨967, 2, 1, [1, 0, 1]⟩,
  ⟨971, 2, 1, [1, 0, 1]⟩,
  ⟨977, 2, 3, [3, 0, 1]⟩,
  ⟨983, 2, 1, [1, 0, 1]⟩,
  ⟨991, 2, 1, [1, 0, 1]⟩,
  ⟨997, 2, 2, [2, 0, 1]⟩]
theorem tab4_ok : tab4.all rowAll = true := by decide +kernel
end Go.Proofs.Ytonacfjhfkdgbaa.Pure
