import Derived.Test.YtkamgngihebpoaaGreatDoorAwG07
/- The law DenoteGreedy: 10 letters; by the kernel. -/
noncomputable section
namespace Go.Aw.C07
open Go Go.Aw Go.Proofs

theorem g_10_0 (x y : Int) : gTrue x y 10 0 = true := by kernel_rfl
theorem g_10_1 (x y : Int) : gTrue x y 10 1 = true := by kernel_rfl
theorem g_10_2 (x y : Int) : gTrue x y 10 2 = true := by kernel_rfl
theorem g_10_3 (x y : Int) : gTrue x y 10 3 = true := by kernel_rfl

end Go.Aw.C07
