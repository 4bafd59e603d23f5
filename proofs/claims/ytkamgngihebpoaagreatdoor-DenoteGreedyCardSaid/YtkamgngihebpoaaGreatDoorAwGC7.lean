import Derived.Test.YtkamgngihebpoaaGreatDoorAwG07
/- The law DenoteGreedy: 7 letters; by the kernel. -/
noncomputable section
namespace Go.Aw.C07
open Go Go.Aw Go.Proofs

theorem g_7_0 (x y : Int) : gTrue x y 7 0 = true := by kernel_rfl
theorem g_7_1 (x y : Int) : gTrue x y 7 1 = true := by kernel_rfl
theorem g_7_2 (x y : Int) : gTrue x y 7 2 = true := by kernel_rfl
theorem g_7_3 (x y : Int) : gTrue x y 7 3 = true := by kernel_rfl

end Go.Aw.C07
