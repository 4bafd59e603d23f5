import Derived.Test.YtkamgngihebpoaaGreatDoorAwG07
/- The law DenoteGreedy: 1 letters; by the kernel. -/
noncomputable section
namespace Go.Aw.C07
open Go Go.Aw Go.Proofs

theorem g_1_0 (x y : Int) : gTrue x y 1 0 = true := by kernel_rfl
theorem g_1_1 (x y : Int) : gTrue x y 1 1 = true := by kernel_rfl
theorem g_1_2 (x y : Int) : gTrue x y 1 2 = true := by kernel_rfl
theorem g_1_3 (x y : Int) : gTrue x y 1 3 = true := by kernel_rfl

end Go.Aw.C07
