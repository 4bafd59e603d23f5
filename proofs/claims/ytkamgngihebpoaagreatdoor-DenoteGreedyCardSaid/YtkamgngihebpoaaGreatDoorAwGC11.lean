import Derived.Test.YtkamgngihebpoaaGreatDoorAwG07
/- The law DenoteGreedy: 11 letters; by the kernel. -/
noncomputable section
namespace Go.Aw.C07
open Go Go.Aw Go.Proofs

theorem g_11_0 (x y : Int) : gTrue x y 11 0 = true := by kernel_rfl
theorem g_11_1 (x y : Int) : gTrue x y 11 1 = true := by kernel_rfl
theorem g_11_2 (x y : Int) : gTrue x y 11 2 = true := by kernel_rfl
theorem g_11_3 (x y : Int) : gTrue x y 11 3 = true := by kernel_rfl

end Go.Aw.C07
