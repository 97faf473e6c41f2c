/- HearSmall: towns of three rows, part 5. -/
import Derived.Test.YtkfbbjiniapooaaGreatZSTd
import Derived.KernelRfl
namespace Go.Proofs.YtkfbbjiniapooaaGreat.Sm
open Go.PL
theorem Ya (m : Nat) : Ab (m + 1) 12 = Ab m 13 := by kernel_rfl
theorem XL (m : Nat) : Ab (m + 1) 13 = Ab m 14 := by kernel_rfl
theorem XU (m : Nat) : Ab (m + 1) 14 = Ab m 15 := by kernel_rfl
theorem XZ (m : Nat) : Ab (m + 1) 15 = Ab m 16 := by kernel_rfl
theorem Lv : Ab 18 12 = Ab 17 13 := Ya 17
theorem LB : Ab 17 13 = Ab 16 14 := XL 16
theorem OV : Ab 16 14 = Ab 15 15 := XU 15
theorem JH : Ab 15 15 = Ab 14 16 := XZ 14
end Go.Proofs.YtkfbbjiniapooaaGreat.Sm
