import Derived.Test.YtkamgngihebpoaaGreatDoorAwG07
/- The law DenoteGreedy: 2 letters; by the kernel. -/
noncomputable section
namespace Go.Aw.C07
open Go Go.Aw Go.Proofs

theorem g_2_0 (x y : Int) : gTrue x y 2 0 = true := by kernel_rfl
theorem g_2_1 (x y : Int) : gTrue x y 2 1 = true := by kernel_rfl
theorem g_2_2 (x y : Int) : gTrue x y 2 2 = true := by kernel_rfl
theorem g_2_3 (x y : Int) : gTrue x y 2 3 = true := by kernel_rfl

end Go.Aw.C07
