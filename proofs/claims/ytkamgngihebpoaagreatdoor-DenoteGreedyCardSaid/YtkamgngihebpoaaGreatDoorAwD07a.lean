import Derived.Test.YtkamgngihebpoaaGreatDoorAwG07
import Derived.Test.YtkamgngihebpoaaGreatDoorAwRunT
/- The law DenoteGreedy: its walk, up to the runs of the kernel. -/
noncomputable section
namespace Go.Aw.C07
open Go Go.Aw Go.Proofs

theorem ex_call : ACalls Γu Tryz.prog 12 [] .empty (EvPostF (.ret (.bool true), .empty)) := known_true flatΓ tok mixed tb0_ok 20000 (args := []) rfl ex_run .empty

theorem p7_body : p7.body = .seq (.region p7_0) (.seq (.region p7_1) (.seq (.seq (.region p7_2) (.cond (.t 24) (.seq (.region p7_3) .ret) .skip)) (.seq (.region p7_4) (.seq (.region p7_5) (seqTail 5 p7.body))))) := rfl

theorem greedy_walk (x y n m : Int) (hx : x.tmod 12 = n) (hy : y.tmod 4 = m) (hn : 0 ≤ n ∧ n < 12) (hm : 0 ≤ m ∧ m < 4) (h : gTrue x y n m = true) :
    ACalls Γu Tryz.prog 7 [.int .u8 x, .int .u8 y] .empty fun e _ => e = .ret (.bool true) := by
  refine acalls_of_aw tok mixed h7 ?_
  have hrest := aw_of_restTrue (F := p7) (t := gFrame x y n m) (H := .empty) tok mixed tb1_ok 20000 h
  rw [p7_body]
  generalize seqTail 5 p7.body = rest at hrest ⊢
  generalize fnQ Γu p7 (fun e _ => e = .ret (.bool true)) = Q at hrest ⊢
  refine Is.out ?_
  apply Is.seq
  apply Is.region
  apply Is.step (.bool false, .empty) rfl rfl
  apply Is.fin
  apply Is.seq
  apply Is.region
  apply Is.call (.bool true) ex_call
  apply Is.step (.bool true, .empty) rfl rfl
  apply Is.fin
  apply Is.seq
  apply Is.seq
  apply Is.region
  apply Is.step (.bool true, .empty) rfl rfl
  apply Is.step (.bool false, .empty) rfl rfl
  apply Is.fin
  apply Is.condF rfl
  apply Is.skip
  apply Is.seq
  apply Is.region
  apply Is.step (.int .u8 x, .empty) rfl rfl
  apply Is.step (.int .u8 n, .empty) (by show some (AVal.int .u8 (x.tmod 12), AHeap.empty) = _; rw [hx]) rfl
  apply Is.step (.int .i64 n, .empty) (by show some (AVal.int .i64 (IntKind.i64.wrap n), AHeap.empty) = _; rw [IntWalk.i64_in n ⟨by omega, by omega⟩]) rfl
  apply Is.step (.int .i64 n, .empty) rfl rfl
  apply Is.fin
  apply Is.seq
  apply Is.region
  apply Is.step (.int .u8 y, .empty) rfl rfl
  apply Is.step (.int .u8 m, .empty) (by show some (AVal.int .u8 (y.tmod 4), AHeap.empty) = _; rw [hy]) rfl
  apply Is.step (.int .i64 m, .empty) (by show some (AVal.int .i64 (IntKind.i64.wrap m), AHeap.empty) = _; rw [IntWalk.i64_in m ⟨by omega, by omega⟩]) rfl
  apply Is.step (.int .i64 m, .empty) rfl rfl
  apply Is.fin
  have fin : ∀ fr : Fr, fr = ⟨gFrame x y n m, []⟩ → Is (aw Γu Tryz.prog rest Q fr .empty) := by
    rintro _ rfl
    exact ⟨hrest⟩
  apply fin
  kernel_rfl

end Go.Aw.C07
