import Derived.Test.YtkamgngihebpoaaGreatDoorAwG07
/- The law DenoteGreedy: 3 letters; by the kernel. -/
noncomputable section
namespace Go.Aw.C07
open Go Go.Aw Go.Proofs

theorem g_3_0 (x y : Int) : gTrue x y 3 0 = true := by kernel_rfl
theorem g_3_1 (x y : Int) : gTrue x y 3 1 = true := by kernel_rfl
theorem g_3_2 (x y : Int) : gTrue x y 3 2 = true := by kernel_rfl
theorem g_3_3 (x y : Int) : gTrue x y 3 3 = true := by kernel_rfl

end Go.Aw.C07
