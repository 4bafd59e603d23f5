import Derived.Test.YtkamgngihebpoaaGreatDoorAwG07
/- The law DenoteGreedy: 0 letters; by the kernel. -/
noncomputable section
namespace Go.Aw.C07
open Go Go.Aw Go.Proofs

theorem g_0_0 (x y : Int) : gTrue x y 0 0 = true := by kernel_rfl
theorem g_0_1 (x y : Int) : gTrue x y 0 1 = true := by kernel_rfl
theorem g_0_2 (x y : Int) : gTrue x y 0 2 = true := by kernel_rfl
theorem g_0_3 (x y : Int) : gTrue x y 0 3 = true := by kernel_rfl

end Go.Aw.C07
