import Derived.Test.YtkamgngihebpoaaGreatDoorAwG07
/- The law DenoteGreedy: 4 letters; by the kernel. -/
noncomputable section
namespace Go.Aw.C07
open Go Go.Aw Go.Proofs

theorem g_4_0 (x y : Int) : gTrue x y 4 0 = true := by kernel_rfl
theorem g_4_1 (x y : Int) : gTrue x y 4 1 = true := by kernel_rfl
theorem g_4_2 (x y : Int) : gTrue x y 4 2 = true := by kernel_rfl
theorem g_4_3 (x y : Int) : gTrue x y 4 3 = true := by kernel_rfl

end Go.Aw.C07
