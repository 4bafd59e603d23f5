import Derived.Test.YtkamgngihebpoaaGreatDoorAwG07
/- The law DenoteGreedy: 6 letters; by the kernel. -/
noncomputable section
namespace Go.Aw.C07
open Go Go.Aw Go.Proofs

theorem g_6_0 (x y : Int) : gTrue x y 6 0 = true := by kernel_rfl
theorem g_6_1 (x y : Int) : gTrue x y 6 1 = true := by kernel_rfl
theorem g_6_2 (x y : Int) : gTrue x y 6 2 = true := by kernel_rfl
theorem g_6_3 (x y : Int) : gTrue x y 6 3 = true := by kernel_rfl

end Go.Aw.C07
