import Derived.Test.YtkamgngihebpoaaGreatDoorAwG07
/- The law DenoteGreedy: 5 letters; by the kernel. -/
noncomputable section
namespace Go.Aw.C07
open Go Go.Aw Go.Proofs

theorem g_5_0 (x y : Int) : gTrue x y 5 0 = true := by kernel_rfl
theorem g_5_1 (x y : Int) : gTrue x y 5 1 = true := by kernel_rfl
theorem g_5_2 (x y : Int) : gTrue x y 5 2 = true := by kernel_rfl
theorem g_5_3 (x y : Int) : gTrue x y 5 3 = true := by kernel_rfl

end Go.Aw.C07
