import Derived.Test.YtkamgngihebpoaaGreatDoorAwD07a
import Derived.Test.YtkamgngihebpoaaGreatDoorAwS07
import Derived.Test.YtkamgngihebpoaaGreatDoorAwGC0
import Derived.Test.YtkamgngihebpoaaGreatDoorAwGC1
import Derived.Test.YtkamgngihebpoaaGreatDoorAwGC2
import Derived.Test.YtkamgngihebpoaaGreatDoorAwGC3
import Derived.Test.YtkamgngihebpoaaGreatDoorAwGC4
import Derived.Test.YtkamgngihebpoaaGreatDoorAwGC5
import Derived.Test.YtkamgngihebpoaaGreatDoorAwGC6
import Derived.Test.YtkamgngihebpoaaGreatDoorAwGC7
import Derived.Test.YtkamgngihebpoaaGreatDoorAwGC8
import Derived.Test.YtkamgngihebpoaaGreatDoorAwGC9
import Derived.Test.YtkamgngihebpoaaGreatDoorAwGC10
import Derived.Test.YtkamgngihebpoaaGreatDoorAwGC11
/- PROVED: the law DenoteGreedy of chapter 07 answers true, for every input, and leaves its arguments as they were. Conditions: none beyond the given row's (the listed variables hold what the program's text lays: the card ties them). -/
noncomputable section
namespace Go.Aw.C07
open Go Go.Aw Go.Proofs Go.Lib Go.ChangeShapes Go.WideShapes Go.ChangeAt Go.RowKit
open Go.Proofs.YtkamgngihebpoaaGreatDoor

theorem greedy_all (x y : Int) (hx : 0 ≤ x) (hy : 0 ≤ y) : ACalls Γu Tryz.prog 7 [.int .u8 x, .int .u8 y] .empty fun e _ => e = .ret (.bool true) := by
  obtain ⟨n, hn⟩ : ∃ n, x.tmod 12 = n := ⟨_, rfl⟩
  obtain ⟨m, hm⟩ : ∃ m, y.tmod 4 = m := ⟨_, rfl⟩
  have bn : 0 ≤ n ∧ n < 12 := by rw [Int.tmod_eq_emod_of_nonneg hx] at hn; omega
  have bm : 0 ≤ m ∧ m < 4 := by rw [Int.tmod_eq_emod_of_nonneg hy] at hm; omega
  refine greedy_walk x y n m hn hm bn bm ?_
  have cn : n = 0 ∨ n = 1 ∨ n = 2 ∨ n = 3 ∨ n = 4 ∨ n = 5 ∨ n = 6 ∨ n = 7 ∨ n = 8 ∨ n = 9 ∨ n = 10 ∨ n = 11 := by omega
  have cm : m = 0 ∨ m = 1 ∨ m = 2 ∨ m = 3 := by omega
  clear hn hm bn bm
  rcases cn with rfl | rfl | rfl | rfl | rfl | rfl | rfl | rfl | rfl | rfl | rfl | rfl
  · rcases cm with rfl | rfl | rfl | rfl
    · exact g_0_0 x y
    · exact g_0_1 x y
    · exact g_0_2 x y
    · exact g_0_3 x y
  · rcases cm with rfl | rfl | rfl | rfl
    · exact g_1_0 x y
    · exact g_1_1 x y
    · exact g_1_2 x y
    · exact g_1_3 x y
  · rcases cm with rfl | rfl | rfl | rfl
    · exact g_2_0 x y
    · exact g_2_1 x y
    · exact g_2_2 x y
    · exact g_2_3 x y
  · rcases cm with rfl | rfl | rfl | rfl
    · exact g_3_0 x y
    · exact g_3_1 x y
    · exact g_3_2 x y
    · exact g_3_3 x y
  · rcases cm with rfl | rfl | rfl | rfl
    · exact g_4_0 x y
    · exact g_4_1 x y
    · exact g_4_2 x y
    · exact g_4_3 x y
  · rcases cm with rfl | rfl | rfl | rfl
    · exact g_5_0 x y
    · exact g_5_1 x y
    · exact g_5_2 x y
    · exact g_5_3 x y
  · rcases cm with rfl | rfl | rfl | rfl
    · exact g_6_0 x y
    · exact g_6_1 x y
    · exact g_6_2 x y
    · exact g_6_3 x y
  · rcases cm with rfl | rfl | rfl | rfl
    · exact g_7_0 x y
    · exact g_7_1 x y
    · exact g_7_2 x y
    · exact g_7_3 x y
  · rcases cm with rfl | rfl | rfl | rfl
    · exact g_8_0 x y
    · exact g_8_1 x y
    · exact g_8_2 x y
    · exact g_8_3 x y
  · rcases cm with rfl | rfl | rfl | rfl
    · exact g_9_0 x y
    · exact g_9_1 x y
    · exact g_9_2 x y
    · exact g_9_3 x y
  · rcases cm with rfl | rfl | rfl | rfl
    · exact g_10_0 x y
    · exact g_10_1 x y
    · exact g_10_2 x y
    · exact g_10_3 x y
  · rcases cm with rfl | rfl | rfl | rfl
    · exact g_11_0 x y
    · exact g_11_1 x y
    · exact g_11_2 x y
    · exact g_11_3 x y

set_option maxRecDepth 100000 in
theorem contract (H : Type) (enc : TypeId × Value → H) (W : World) (base : Nat) (args : Array Value) (ds gs : List (DataW H)) (before : List MemPlace)
    (hval : ∀ (j : Nat) t v, Tryz.f7.params[j]? = some t → args[j]? = some v → Value.okWide Tryz.prog W .any base t v)
    (hW : DataW.Whole enc Tryz.prog Tryz.f7.params.toList Rows.denoteGreedySpec.vars false W args.toList ds gs before) (hL : laidMetH Tryz.prog laid0 W) :
    Calls Tryz.prog 7 args W fun e W' => ∃ v, e = .returned v ∧ Rows.denoteGreedySpec.post enc Tryz.prog Tryz.f7 false true false false W args v W' := by
  have hW' := hW
  obtain ⟨p, q, hA0, hV, rfl, hfz, hnd⟩ := hW
  have hA : DataW.TrodAll enc Tryz.prog W 0 (fun _ => true) true Tryz.f7.params.toList args.toList ds p := hA0
  rw [Tryz.params7] at hA hval
  obtain ⟨v0, vs0, d0, ds0, p0, q0, hargs, rfl, rfl, h0, r0⟩ := trodAll_cons hA
  obtain ⟨v1, vs1, d1, ds1, p1, q1, hargs1, rfl, rfl, h1, r1⟩ := trodAll_cons r0
  obtain ⟨rfl, rfl, rfl⟩ := trodAll_nil r1
  subst hargs1
  obtain rfl : args = #[v0, v1] := by cases args; simp_all
  obtain ⟨rfl, rfl⟩ := trodVars_none hV
  obtain ⟨x, rfl, rfl, rfl, wx⟩ := open_int u5 (hval 0 5 v0 rfl rfl) h0
  obtain ⟨y, rfl, rfl, rfl, wy⟩ := open_int u5 (hval 1 5 v1 rfl rfl) h1
  clear hA0
  simp only [List.append_nil] at hW'
  have bx : 0 ≤ x ∧ x ≤ 255 := by simpa [Lit.wf, IntKind.min, IntKind.max, IntKind.signed, IntKind.bits] using wx
  have by' : 0 ≤ y ∧ y ≤ 255 := by simpa [Lit.wf, IntKind.min, IntKind.max, IntKind.signed, IntKind.bits] using wy
  refine ((greedy_all x y bx.1 by'.1).2 _ W #[.int .u8 x, .int .u8 y] (wrel hL) ⟨_, _, rfl, rfl, _, _, rfl, rfl, rfl⟩).mono ?_
  rintro e W' ⟨ae, g', H', he, hw', hE, rfl⟩
  obtain ⟨cv, rfl, hcv⟩ := he
  cases hcv
  exact ⟨_, rfl, post_own (pa := []) (pv := []) hW' (fun _ _ _ => trodAll_cons_mk (shut_bool u4 _) trodAll_mk0) (fun _ _ => trodAll_cons_mk (shut_int u5 wx) (trodAll_cons_mk (shut_int u5 wy) trodAll_mk0)) (fun _ _ => rfl) rfl
    (World.keptBut_mono (fun _ h => h.elim) hE.kept) (fun a ha => World.frozen?_congr (hE.same _ ha)) (ok_one (by kernel_rfl) rfl (okWide_bool_mk u4 _))⟩

set_option maxRecDepth 100000 in
theorem reads (os : Os) {H : Type} (enc : TypeId × Value → H) : ∃ places, DataW.whole enc Tryz.prog ((World.laidAll Tryz.prog os laid0).forCall (fun _ _ => 0) ⟨#[], #[.int .u8 0, .int .u8 0], []⟩).memory Tryz.f7.params.toList Rows.denoteGreedySpec.vars false #[Value.int .u8 0, .int .u8 0].toList 8 = some ([.lit (.int .u8 0), .lit (.int .u8 0)], [], places) :=
  ⟨[], by kernel_rfl⟩

set_option maxRecDepth 100000 in
theorem lifted (os : Os) (started : os.Started) (H : Type) (enc : TypeId × Value → H) (F : Stop.Interp) :
    ReturnsInHanded {} Tryz.checked os 7 .any ((OpenSpec.ofChange Rows.denoteGreedySpec).preRow enc Tryz.prog Tryz.f7 Rows.denoteGreedyRow.domain false Rows.denoteGreedyRow.laid) (((OpenSpec.ofChange Rows.denoteGreedySpec).at F).post enc Tryz.prog Tryz.f7 false true false false) := by
  obtain ⟨places, hx⟩ := reads os enc
  refine returnsInHanded_of_row (C := Tryz.checked) (s := OpenSpec.ofChange Rows.denoteGreedySpec) own started (by kernel_rfl) Tryz.func7
    (witness_row_atRef (enc := enc) (C := Tryz.checked) false (World.laidAll Tryz.prog os laid0) #[.int .u8 0, .int .u8 0] (World.laidAll_os _ _ _) (by kernel_rfl) (by kernel_rfl) (by kernel_rfl)
      (OpenSpec.preRow_of_cond 8 hx (by kernel_rfl) (fun k hk => by cases hk) (by kernel_rfl) (laid_met os _))) ?_
  intro W base args ds gs before hval hW _ _ _ hL _ _
  exact contract H enc W base args ds gs before hval hW hL

theorem said : Rows.DenoteGreedySaid :=
  OpenClaim.holds_of_cond 7 Tryz.f7 rfl rfl rfl rfl rfl rfl rfl ⟨rfl, rfl, rfl, rfl, rfl⟩ rfl rfl rfl rfl rfl (by kernel_rfl) Tryz.func7 (by kernel_rfl)
    (of_decide_eq_true (by kernel_rfl)) (by unfold Func.isWrapper; first | (rw [if_pos (by decide +kernel)]; kernel_rfl) | (rw [if_neg (by decide +kernel)]; exact ⟨rfl, rfl⟩))
    (fun os started H enc _ F => by rw [OpenClaim.pre_eq_preRow]; exact lifted os started H enc F)

theorem plain (f : FuncId) (fn : Func) (hf : Tryz.pinned.checked.prog.funcNamed "waxwork/waxworklaw07.DenoteGreedy" = some f) (hfn : Tryz.pinned.checked.prog.funcs[f]? = some fn) :
    true = Tryz.pinned.checked.prog.looks [] ∧ ∀ (j : Nat) t, fn.params[j]? = some t → Tryz.pinned.checked.prog.wantsStandIn t = false := by
  obtain rfl : f = 7 := Option.some.inj ((show Tryz.prog.funcNamed "waxwork/waxworklaw07.DenoteGreedy" = some 7 by kernel_rfl).symm.trans hf) |>.symm
  obtain rfl : fn = Tryz.f7 := (Option.some.inj (Tryz.func7.symm.trans hfn)).symm
  refine ⟨by kernel_rfl, fun j t ht => ?_⟩
  rw [Tryz.params7] at ht
  obtain rfl : t = 5 := by simpa using Array.mem_of_getElem? ht
  exact (show Tryz.prog.wantsStandIn 5 = false by kernel_rfl)

end Go.Aw.C07
namespace Go.Proofs.YtkamgngihebpoaaGreatDoor
open Go.Aw.C07

/-- THE CARD. -/
theorem denoteGreedy_card : Rows.DenoteGreedyCardSaid :=
  Claim7.holds_tied_plain_at .later [] _ _ _ _ said (fun _ h => by cases h) (by kernel_rfl) (fun _ h => by cases h) denoteGreedy_row_tie rfl ⟨rfl, rfl⟩ (by kernel_rfl) rfl plain (by kernel_rfl)

#print axioms denoteGreedy_card
end Go.Proofs.YtkamgngihebpoaaGreatDoor
