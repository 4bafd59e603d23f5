import Derived.Test.YtkamgngihebpoaaGreatDoorAwG07
/- The law DenoteGreedy: 8 letters; by the kernel. -/
noncomputable section
namespace Go.Aw.C07
open Go Go.Aw Go.Proofs

theorem g_8_0 (x y : Int) : gTrue x y 8 0 = true := by kernel_rfl
theorem g_8_1 (x y : Int) : gTrue x y 8 1 = true := by kernel_rfl
theorem g_8_2 (x y : Int) : gTrue x y 8 2 = true := by kernel_rfl
theorem g_8_3 (x y : Int) : gTrue x y 8 3 = true := by kernel_rfl

end Go.Aw.C07
