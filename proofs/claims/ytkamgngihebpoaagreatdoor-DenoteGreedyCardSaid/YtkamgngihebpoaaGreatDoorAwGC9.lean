import Derived.Test.YtkamgngihebpoaaGreatDoorAwG07
/- The law DenoteGreedy: 9 letters; by the kernel. -/
noncomputable section
namespace Go.Aw.C07
open Go Go.Aw Go.Proofs

theorem g_9_0 (x y : Int) : gTrue x y 9 0 = true := by kernel_rfl
theorem g_9_1 (x y : Int) : gTrue x y 9 1 = true := by kernel_rfl
theorem g_9_2 (x y : Int) : gTrue x y 9 2 = true := by kernel_rfl
theorem g_9_3 (x y : Int) : gTrue x y 9 3 = true := by kernel_rfl

end Go.Aw.C07
