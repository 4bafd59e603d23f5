import Derived.Test.YtkamgngihebpoaaGreatDoorHoXC07
import Derived.Test.YtkamgngihebpoaaGreatDoorHoRunT
import Derived.Lib.LaidU8
import GoSem.PinnedTables
import Derived.Test.YtkamgngihebpoaaGreatDoorRows
import Derived.Lay
import Derived.MakeChecks
import Derived.SevenTiedAt
import Derived.LaidOnce
import Derived.Deep.DeepHandedRow
import Derived.Deep.DeepWitnessRowRef
import Derived.Test.YtkamgngihebpoaaGreatDoorCards
import Derived.Test.YtkamgngihebpoaaGreatDoorTie
/- The world ahead of a law's call holds the two tables of unicode/utf8. -/
set_option linter.all false
noncomputable section
namespace Go.Aw.C07
open Go Go.Aw Go.Proofs Go.Lib

theorem first_eq : Go.Pinned.utf8First = firstData := by kernel_rfl
theorem accept_eq : (YtkamgngihebpoaaGreatDoor.Rows.laid_unicode_utf8_acceptRanges : DataW Unit) = acceptData := by kernel_rfl
theorem first_vals : u8s utf8First = firstTab.map fun z => .int .u8 z := by kernel_rfl
theorem acc_vals : (List.range 16).all (fun i => decide ((u8s utf8Acc)[2 * i]?.map (fun v => match v with | .int .u8 z => z | _ => -1) = some (accLo i : Int) ∧ (u8s utf8Acc)[2 * i + 1]?.map (fun v => match v with | .int .u8 z => z | _ => -1) = some (accHi i : Int))) = true := by kernel_rfl

theorem g0n : Tryz.prog.globalNamed "unicode/utf8.first" = some 0 := by kernel_rfl
theorem g1n : Tryz.prog.globalNamed "unicode/utf8.acceptRanges" = some 1 := by kernel_rfl
theorem g0t : (Tryz.prog.globals[0]?).map (·.type) = some 217 := by kernel_rfl
theorem g1t : (Tryz.prog.globals[1]?).map (·.type) = some 220 := by kernel_rfl
theorem u217 : Tryz.prog.underlying 217 = some (.array 256 5) := by kernel_rfl
theorem u220 : Tryz.prog.underlying 220 = some (.array 16 219) := by kernel_rfl
theorem u5 : Tryz.prog.underlying 5 = some (.int .u8) := by kernel_rfl
theorem c5 : Tryz.prog.cellsOf 5 = 1 := by kernel_rfl
theorem c217 : Tryz.prog.cellsOf 217 = 256 := by kernel_rfl
theorem c219 : Tryz.prog.cellsOf 219 = 2 := by kernel_rfl

theorem first_cell {W : World} (h : VarReads Tryz.prog W "unicode/utf8.first" firstData) (off : Nat) (z : Int) (hz : firstTab[off]? = some z) : W.cell? ⟨0, off, none⟩ = some (.int .u8 z) := by
  obtain ⟨g, t, cs, fuel, p, hg, hty, hvar, hd⟩ := h
  obtain rfl := Option.some.inj (g0n.symm.trans hg)
  obtain rfl := Option.some.inj (g0t.symm.trans hty)
  have hcs := cells_of_tab u217 u5 c5 c217 hd
  rw [World.var?_cell hg hvar off, ← Array.getElem?_toList, hcs, List.getElem?_map, hz]
  rfl

theorem u219 : ∃ fs, Tryz.prog.underlying 219 = some (.struct fs) ∧ fs.size = 2 ∧ ∀ (i : Nat) (f : Field), fs[i]? = some f → Tryz.prog.underlying f.type = some (.int .u8) ∧ f.offset = i ∧ Tryz.prog.cellsOf f.type = 1 := by
  have h : (match Tryz.prog.underlying 219 with
    | some (.struct fs) => decide (fs.size = 2) && (match fs[0]?, fs[1]? with
      | some f, some f' => decide (f.type = 5) && decide (f.offset = 0) && decide (f'.type = 5) && decide (f'.offset = 1)
      | _, _ => false)
    | _ => false) = true := by kernel_rfl
  split at h
  · rename_i fs hfs
    simp only [Bool.and_eq_true, decide_eq_true_eq] at h
    obtain ⟨h1, h2⟩ := h
    refine ⟨fs, hfs, h1, fun i f hf => ?_⟩
    split at h2
    · rename_i f0 f1 e0 e1
      simp only [Bool.and_eq_true, decide_eq_true_eq] at h2
      obtain ⟨⟨⟨k1, k2⟩, k3⟩, k4⟩ := h2
      match i, hf with
      | 0, hf => rw [e0] at hf; cases hf; rw [k1, k2]; exact ⟨u5, rfl, c5⟩
      | 1, hf => rw [e1] at hf; cases hf; rw [k3, k4]; exact ⟨u5, rfl, c5⟩
      | i + 2, hf => have := (Array.getElem?_eq_some_iff.1 hf).1; omega
    · cases h2
  · cases h

theorem acc_cell {W : World} (h : VarReads Tryz.prog W "unicode/utf8.acceptRanges" acceptData) (i : Nat) (hi : i < 16) : W.cell? ⟨1, 2 * i, none⟩ = some (.int .u8 (accLo i)) ∧ W.cell? ⟨1, 2 * i + 1, none⟩ = some (.int .u8 (accHi i)) := by
  obtain ⟨g, t, cs, fuel, p, hg, hty, hvar, hd⟩ := h
  obtain rfl := Option.some.inj (g1n.symm.trans hg)
  obtain rfl := Option.some.inj (g1t.symm.trans hty)
  obtain ⟨fuel', d, q, hdi, he⟩ := array_elem u220 hd i hi
  simp only [List.getElem?_map, List.getElem?_range hi, Option.map_some, Option.some.injEq] at hdi
  subst hdi
  rw [c219] at he
  obtain ⟨fs, hfs, hsz, hall⟩ := u219
  have hcs := ints_of_struct hfs hall (by rw [c219, hsz]) he
  have e0 := congrArg (·[0]?) hcs
  have e1 := congrArg (·[1]?) hcs
  simp only [List.getElem?_take, List.getElem?_drop] at e0 e1
  constructor
  · rw [World.var?_cell hg hvar (2 * i), ← Array.getElem?_toList]
    simpa [Nat.mul_comm] using e0
  · rw [World.var?_cell hg hvar (2 * i + 1), ← Array.getElem?_toList]
    simpa [Nat.mul_comm] using e1

theorem start {W : World} (h1 : VarReads Tryz.prog W "unicode/utf8.first" firstData) (h2 : VarReads Tryz.prog W "unicode/utf8.acceptRanges" acceptData) : WRel Γu (gh0 (rhoOf Γu)) .empty W := by
  refine WRel.init (fun cb off c hc => ?_) (fun gi cs hg i c hi => by unfold rhoOf; rw [hg]; exact hi)
  unfold rhoOf at hc
  split at hc
  · rename_i cs hg
    unfold Γu at hg
    split at hg
    · cases hg
      rw [first_vals, List.getElem?_map] at hc
      obtain ⟨z, hz, rfl⟩ := Option.map_eq_some_iff.1 hc
      exact ⟨_, first_cell h1 off z hz, rfl⟩
    · cases hg
      have hlen : off < 32 := by
        have := (List.getElem?_eq_some_iff.1 hc).1
        have hl : (u8s utf8Acc).length = 32 := by kernel_rfl
        omega
      have hall := List.all_eq_true.1 acc_vals (off / 2) (List.mem_range.2 (by omega))
      simp only [decide_eq_true_eq] at hall
      have hcell := acc_cell h2 (off / 2) (by omega)
      have hk : ∃ z, c = .int .u8 z := by
        simp only [u8s, List.getElem?_map] at hc
        obtain ⟨n, _, rfl⟩ := Option.map_eq_some_iff.1 hc
        exact ⟨_, rfl⟩
      obtain ⟨z, rfl⟩ := hk
      rcases Nat.mod_two_eq_zero_or_one off with hm | hm
      · have e : 2 * (off / 2) = off := by omega
        rw [e] at hall hcell
        rw [hc] at hall
        have := hall.1
        simp only [Option.map_some, Option.some.injEq] at this
        subst this
        exact ⟨_, hcell.1, rfl⟩
      · have e : 2 * (off / 2) + 1 = off := by omega
        rw [e] at hall hcell
        rw [hc] at hall
        have := hall.2
        simp only [Option.map_some, Option.some.injEq] at this
        subst this
        exact ⟨_, hcell.2, rfl⟩
    · cases hg
  · cases hc

end Go.Aw.C07

/- The world of the witness, for each law of the seat; and what the list of variables gives. -/
namespace Go.Aw.C07
open Go Go.Aw Go.Proofs Go.Lib Go.ChangeShapes Go.WideShapes Go.ChangeAt Go.RowKit
open Go.Proofs.YtkamgngihebpoaaGreatDoor

def laid0 : List (String × DataW Unit) := Rows.denoteGreedyRow.laid

theorem u3 : Tryz.prog.underlying 3 = some (.int .i64) := by kernel_rfl
theorem u27 : Tryz.prog.underlying 27 = some (.slice 5) := by kernel_rfl
theorem u4 : Tryz.prog.underlying 4 = some .bool := by kernel_rfl
theorem own : ownKnob Tryz.prog.godebug = none := by kernel_rfl
theorem fits (os : Os) : (World.holding Tryz.prog os ⟨#[], #[], []⟩).layFits Tryz.prog laid0 [] = true := by kernel_rfl
theorem ifaces (os : Os) : (World.holding Tryz.prog os ⟨#[], #[], []⟩).layIfaces Tryz.prog laid0 (World.laidAll Tryz.prog os laid0) = true := by kernel_rfl
theorem laid_met (os : Os) (args : Array Value) : laidMet Tryz.prog laid0 ((World.laidAll Tryz.prog os laid0).forCall (fun _ _ => 0) ⟨#[], args, []⟩).memory :=
  laidMet_laidAll args (fits os) (ifaces os)
theorem no_handles : (laid0.all fun x => x.2.handleName?.isNone) = true := by kernel_rfl

theorem wrel {W : World} (hL : laidMetH Tryz.prog laid0 W) : WRel Γu (gh0 (rhoOf Γu)) .empty W := by
  rw [MakeChecks.laidMetH_plain _ _ _ no_handles] at hL
  refine start ?_ ?_
  · rw [← first_eq]
    exact laidMet.reads hL (n := "unicode/utf8.first") (.tail _ (.tail _ (.tail _ (.tail _ (.tail _ (.tail _ (.head _)))))))
  · rw [← accept_eq]
    exact laidMet.reads hL (n := "unicode/utf8.acceptRanges") (.tail _ (.tail _ (.tail _ (.head _))))

end Go.Aw.C07
