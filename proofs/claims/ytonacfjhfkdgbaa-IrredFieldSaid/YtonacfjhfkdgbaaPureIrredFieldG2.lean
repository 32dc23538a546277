/- What is proved: rows 2 of the table of first irreducible polynomials, by the kernel's reckoning (for the law IrredField). Conditions: none. -/
import Derived.Test.YtonacfjhfkdgbaaPureIrredFieldF
namespace Go.Proofs.Ytonacfjhfkdgbaa.Pure
def tab2 : List Row := [
  ⟨461, 2, 2, [2, 0, 1]⟩,
  ⟨463, 2, 1, [1, 0, 1]⟩,
  ⟨467, 2, 1, [1, 0, 1]⟩,
  ⟨479, 2, 1, [1, 0, 1]⟩,
  ⟨487, 2, 1, [1, 0, 1]⟩,
  ⟨491, 2, 1, [1, 0, 1]⟩,
  ⟨499, 2, 1, [1, 0, 1]⟩,
  ⟨503, 2, 1, [1, 0, 1]⟩,
  ⟨509, 2, 2, [2, 0, 1]⟩,
  ⟨521, 2, 3, [3, 0, 1]⟩,
  ⟨523, 2, 1, [1, 0, 1]⟩,
  ⟨541, 2, 2, [2, 0, 1]⟩,
  ⟨547, 2, 1, [1, 0, 1]⟩,
  ⟨557, 2, 2, [2, 0, 1]⟩,
  ⟨563, 2, 1, [1, 0, 1]⟩,
  ⟨569, 2, 3, [3, 0, 1]⟩,
  ⟨571, 2, 1, [1, 0, 1]⟩,
  ⟨577, 2, 5, [5, 0, 1]⟩,
  ⟨587, 2, 1, [1, 0, 1]⟩,
  ⟨593, 2, 3, [3, 0, 1]⟩,
  ⟨599, 2, 1, [1, 0, 1]⟩,
  ⟨601, 2, 7, [7, 0, 1]⟩,
  ⟨607, 2, 1, [1, 0, 1]⟩,
  ⟨613, 2, 2, [2, 0, 1]⟩,
  ⟨617, 2, 3, [3, 0, 1]⟩,
  ⟨619, 2, 1, [1, 0, 1]⟩,
  ⟨631, 2, 1, [1, 0, 1]⟩,
  ⟨641, 2, 3, [3, 0, 1]⟩,
  ⟨643, 2, 1, [1, 0, 1]⟩,
  ⟨647, 2, 1, [1, 0, 1]⟩,
  ⟨653, 2, 2, [2, 0, 1]⟩,
  ⟨659, 2, 1, [1, 0, 1]⟩,
  ⟨661, 2, 2, [2, 0, 1]⟩]
theorem tab2_ok : tab2.all rowAll = true := by decide +kernel
end Go.Proofs.Ytonacfjhfkdgbaa.Pure
