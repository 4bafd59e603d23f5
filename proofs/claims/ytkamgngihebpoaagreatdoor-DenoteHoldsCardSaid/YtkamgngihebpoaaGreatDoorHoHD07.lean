import Derived.Test.YtkamgngihebpoaaGreatDoorHoH07
import Derived.Test.YtkamgngihebpoaaGreatDoorHoS07
/- PROVED: the law DenoteHolds of chapter 07 answers true, for every input, and leaves its arguments as they were. Conditions: none beyond the given row's (the listed variables hold what the program's text lays: the card ties them). -/
set_option linter.all false
noncomputable section
namespace Go.Aw.C07
open Go Go.Aw Go.Proofs Go.Lib Go.ChangeShapes Go.WideShapes Go.ChangeAt Go.RowKit
open Go.Proofs.YtkamgngihebpoaaGreatDoor

/-- Every byte that the world holds may be read. -/
def rhoW (W : World) (cb off : Nat) : Option AVal := match W.cell? ⟨cb, off, none⟩ with
  | some (.int .u8 z) => some (.int .u8 z)
  | _ => none

theorem wrelW {W : World} (hL : laidMetH Tryz.prog laid0 W) : WRel Γu (gh0 (rhoW W)) .empty W := by
  have h := wrel hL
  refine WRel.init (fun cb off c hc => ?_) (fun gi cs hg i c hi => ?_)
  · unfold rhoW at hc
    split at hc
    · rename_i z hz
      cases hc
      exact ⟨_, hz, rfl⟩
    · cases hc
  · obtain ⟨v, hv, hr⟩ := h.ro gi i c (h.glob gi cs hg i c hi)
    have hint : ∃ z, c = .int .u8 z := by
      unfold Γu at hg
      split at hg
      · cases hg
        simp only [u8s, List.getElem?_map] at hi
        obtain ⟨x, _, rfl⟩ := Option.map_eq_some_iff.1 hi
        exact ⟨_, rfl⟩
      · cases hg
        simp only [u8s, List.getElem?_map] at hi
        obtain ⟨x, _, rfl⟩ := Option.map_eq_some_iff.1 hi
        exact ⟨_, rfl⟩
      · cases hg
    obtain ⟨z, rfl⟩ := hint
    cases hr
    unfold rhoW
    rw [hv]

set_option maxRecDepth 100000 in
theorem contract (H : Type) (enc : TypeId × Value → H) (W : World) (base : Nat) (args : Array Value) (ds gs : List (DataW H)) (before : List MemPlace)
    (hval : ∀ (j : Nat) t v, Tryz.f11.params[j]? = some t → args[j]? = some v → Value.okWide Tryz.prog W .any base t v)
    (hW : DataW.Whole enc Tryz.prog Tryz.f11.params.toList Rows.denoteHoldsSpec.vars false W args.toList ds gs before) (hL : laidMetH Tryz.prog laid0 W) :
    Calls Tryz.prog 11 args W fun e W' => ∃ v, e = .returned v ∧ Rows.denoteHoldsSpec.post enc Tryz.prog Tryz.f11 false true false false W args v W' := by
  have hW' := hW
  obtain ⟨p, q, hA0, hV, rfl, hfz, hnd⟩ := hW
  have hA : DataW.TrodAll enc Tryz.prog W 0 (fun _ => true) true Tryz.f11.params.toList args.toList ds p := hA0
  rw [Tryz.params11] at hA hval
  obtain ⟨v0, vs0, d0, ds0, p0, q0, hargs, rfl, rfl, h0, r0⟩ := trodAll_cons hA
  obtain ⟨v1, vs1, d1, ds1, p1, q1, hargs1, rfl, rfl, h1, r1⟩ := trodAll_cons r0
  obtain ⟨v2, vs2, d2, ds2, p2, q2, hargs2, rfl, rfl, h2, r2⟩ := trodAll_cons r1
  obtain ⟨rfl, rfl, rfl⟩ := trodAll_nil r2
  subst hargs2
  subst hargs1
  obtain rfl : args = #[v0, v1, v2] := by cases args; simp_all
  obtain ⟨rfl, rfl⟩ := trodVars_none hV
  obtain ⟨y, rfl, rfl, rfl, wy⟩ := open_int u5 (hval 1 5 v1 rfl rfl) h1
  obtain ⟨kd, rfl, rfl, rfl, wk⟩ := open_int u3 (hval 2 3 v2 rfl rfl) h2
  obtain ⟨a0, len0, cap0, rfl⟩ := okWide_slice u27 (hval 0 27 v0 rfl rfl)
  obtain ⟨fuel, hf⟩ := h0
  clear hA0
  simp only [List.append_nil] at hW'
  have by' : 0 ≤ y ∧ y ≤ 255 := by simpa [Lit.wf, IntKind.min, IntKind.max, IntKind.signed, IntKind.bits] using wy
  have fin : ∀ (l : List Int), (∀ z ∈ l, 0 ≤ z ∧ z ≤ 255) → VRel (gh0 (rhoW W)) (.rs (bytesV l) 1 l.length) (.slice a0 len0 cap0) →
      (∀ (W' : World), (∀ i, i < W.heap.size → W'.heap[i]? = W.heap[i]?) → ∀ sp : Nat → Bool, (∀ p ∈ p0, sp p.block = true) → DataW.Trod enc Tryz.prog W' 0 sp true 27 (.slice a0 len0 cap0) d0 p0) →
      Calls Tryz.prog 11 #[Value.slice a0 len0 cap0, Value.int IntKind.u8 y, Value.int IntKind.i64 kd] W fun e W' =>
        ∃ v, e = .returned v ∧ Rows.denoteHoldsSpec.post enc Tryz.prog Tryz.f11 false true false false W #[Value.slice a0 len0 cap0, Value.int IntKind.u8 y, Value.int IntKind.i64 kd] v W' := by
    intro l hl hv hread
    refine ((holds_walk l hl y kd by').2 _ W #[Value.slice a0 len0 cap0, .int .u8 y, .int .i64 kd] (wrelW hL) ⟨_, _, rfl, hv, _, _, rfl, rfl, _, _, rfl, rfl, rfl⟩).mono ?_
    rintro e W' ⟨ae, g', H', he, hw', hE, rfl⟩
    obtain ⟨cv, rfl, hcv⟩ := he
    cases hcv
    exact ⟨_, rfl, post_own (pa := p0) (pv := []) hW' (fun _ _ _ => trodAll_cons_mk (shut_bool u4 _) trodAll_mk0)
      (fun sp hsp => by
        have := trodAll_cons_mk (hread W' hE.same sp hsp) (trodAll_cons_mk (shut_int u5 wy) (trodAll_cons_mk (shut_int u3 wk) (trodAll_mk0 (enc := enc) (P := Tryz.prog) (w := W') (base := 0) (spare := sp) (held := true))))
        rw [show p0 ++ ([] ++ ([] ++ [])) = p0 by simp] at this
        exact this) (fun _ _ => rfl) (by simp)
      (World.keptBut_mono (fun _ h => h.elim) hE.kept) (fun a ha => World.frozen?_congr (hE.same _ ha)) (ok_one (by kernel_rfl) rfl (okWide_bool_mk u4 _))⟩
  rcases open_ints u27 u5 c5 hf with ⟨hcs, hx⟩ | ⟨a, len, cap, zs, hcs, hb, hle, hmax, hzl, hx, hcell, hwf⟩
  · -- nil
    simp [Value.cells] at hcs
    obtain ⟨rfl, rfl, rfl⟩ := hcs
    simp only [Prod.mk.injEq] at hx
    obtain ⟨rfl, rfl⟩ := hx
    refine fin [] (by simp) ⟨none, 0, rfl, Nat.le_refl _, fun _ => rfl, fun h => absurd h (by simp)⟩ fun W' _ sp _ => shut_slice_nil u27
  · simp [Value.cells] at hcs
    obtain ⟨rfl, rfl, rfl⟩ := hcs
    simp only [Prod.mk.injEq] at hx
    obtain ⟨rfl, rfl⟩ := hx
    simp only [if_true] at hzl
    have hbnd : ∀ z ∈ zs, 0 ≤ z ∧ z ≤ 255 := fun z hz => by
      have := hwf z hz
      simpa [Lit.wf, IntKind.min, IntKind.max, IntKind.signed, IntKind.bits] using this
    have hcell' : ∀ i, i < zs.length → a = ⟨a.block, a.off, none⟩ ∧ W.cell? ⟨a.block, a.off + i, none⟩ = some (.int .u8 (zs.getD i 0)) := by
      intro i hi
      have h := hcell i hi
      have h0 := hcell 0 (by omega)
      rw [show a.add 0 = a by simp [Addr.add]] at h0
      obtain ⟨ab, ao, asp⟩ := a
      obtain rfl := Go.Proofs.cell_spot h0
      rw [add_plain] at h
      exact ⟨rfl, h⟩
    refine fin (zs.take len0) (fun z hz => hbnd z (List.mem_of_mem_take hz)) ⟨some a, cap0, ?_, ?_, (fun h => by cases h), (fun hlt => ⟨a.block, a.off, ?_, ?_⟩)⟩ fun W' hsame sp hsp => ?_
    · simp; omega
    · simp; omega
    · have hlen : 0 < zs.length := by simp at hlt; omega
      rw [(hcell' 0 hlen).1]
    · intro i c hc
      simp only [bytesV, List.getElem?_map] at hc
      obtain ⟨z, hz, rfl⟩ := Option.map_eq_some_iff.1 hc
      have hi : i < zs.length := by
        have := (List.getElem?_eq_some_iff.1 hz).1
        simp at this; omega
      have hzz : zs.getD i 0 = z := by
        rw [List.getElem?_take] at hz
        split at hz
        · simp [List.getD, hz]
        · cases hz
      show rhoW W a.block (a.off + i) = _
      unfold rhoW
      rw [(hcell' i hi).2, hzz]
    · have hz2 : zs.length = (if sp a.block then cap0 else len0) := by
        cases hs : sp a.block with
        | true => simpa using hzl
        | false =>
          rcases Nat.eq_zero_or_pos zs.length with h0 | h0
          · simp; omega
          · have := hsp (.cell a.block (a.off + 0)) (by
              unfold MemPlace.row
              exact List.mem_map.2 ⟨0, List.mem_range.2 h0, rfl⟩)
            rw [show (MemPlace.cell a.block (a.off + 0)).block = a.block from rfl] at this
            rw [this] at hs; cases hs
      refine ⟨2, ?_⟩
      have := shut_ints (enc := enc) (w := W') (base := 0) (spare := sp) (held := true) (a := a) (len := len0) (cap := cap0) (zs := zs) 0 u27 u5 c5 (Nat.zero_le _) hle hmax hz2 (fun i hi => by
        have hlt : a.block < W.heap.size := by
          have h1 := (hcell' i hi).2
          unfold World.cell? at h1
          rcases Nat.lt_or_ge a.block W.heap.size with h | h
          · exact h
          · simp only at h1; rw [Array.getElem?_eq_none h] at h1; cases h1
        rw [World.cell?_congr (w := W) (by rw [show (a.add i).block = a.block from by unfold Addr.add; split <;> rfl]; exact hsame _ hlt)]
        exact hcell i hi) hwf
      simpa [Value.cells] using this

set_option maxRecDepth 100000 in
theorem reads (os : Os) {H : Type} (enc : TypeId × Value → H) : ∃ places, DataW.whole enc Tryz.prog ((World.laidAll Tryz.prog os laid0).forCall (fun _ _ => 0) ⟨#[], #[.slice none 0 0, .int .u8 0, .int .i64 0], []⟩).memory Tryz.f11.params.toList Rows.denoteHoldsSpec.vars false #[Value.slice none 0 0, .int .u8 0, .int .i64 0].toList 8 = some ([.nil, .lit (.int .u8 0), .lit (.int .i64 0)], [], places) :=
  ⟨[], by kernel_rfl⟩

set_option maxRecDepth 100000 in
theorem lifted (os : Os) (started : os.Started) (H : Type) (enc : TypeId × Value → H) (F : Stop.Interp) :
    ReturnsInHanded {} Tryz.checked os 11 .any ((OpenSpec.ofChange Rows.denoteHoldsSpec).preRow enc Tryz.prog Tryz.f11 Rows.denoteHoldsRow.domain false Rows.denoteHoldsRow.laid) (((OpenSpec.ofChange Rows.denoteHoldsSpec).at F).post enc Tryz.prog Tryz.f11 false true false false) := by
  obtain ⟨places, hx⟩ := reads os enc
  refine returnsInHanded_of_row (C := Tryz.checked) (s := OpenSpec.ofChange Rows.denoteHoldsSpec) own started (by kernel_rfl) Tryz.func11
    (witness_row_atRef (enc := enc) (C := Tryz.checked) false (World.laidAll Tryz.prog os laid0) #[.slice none 0 0, .int .u8 0, .int .i64 0] (World.laidAll_os _ _ _) (by kernel_rfl) (by kernel_rfl) (by kernel_rfl)
      (OpenSpec.preRow_of_cond 8 hx (by kernel_rfl) (fun k hk => by cases hk) (by kernel_rfl) (laid_met os _))) ?_
  intro W base args ds gs before hval hW _ _ _ hL _ _
  exact contract H enc W base args ds gs before hval hW hL

theorem said : Rows.DenoteHoldsSaid :=
  OpenClaim.holds_of_cond 11 Tryz.f11 rfl rfl rfl rfl rfl rfl rfl ⟨rfl, rfl, rfl, rfl, rfl⟩ rfl rfl rfl rfl rfl (by kernel_rfl) Tryz.func11 (by kernel_rfl)
    (of_decide_eq_true (by kernel_rfl)) (by unfold Func.isWrapper; first | (rw [if_pos (by decide +kernel)]; kernel_rfl) | (rw [if_neg (by decide +kernel)]; exact ⟨rfl, rfl⟩))
    (fun os started H enc _ F => by rw [OpenClaim.pre_eq_preRow]; exact lifted os started H enc F)

theorem plain (f : FuncId) (fn : Func) (hf : Tryz.pinned.checked.prog.funcNamed "waxwork/waxworklaw07.DenoteHolds" = some f) (hfn : Tryz.pinned.checked.prog.funcs[f]? = some fn) :
    true = Tryz.pinned.checked.prog.looks [] ∧ ∀ (j : Nat) t, fn.params[j]? = some t → Tryz.pinned.checked.prog.wantsStandIn t = false := by
  obtain rfl : f = 11 := Option.some.inj ((show Tryz.prog.funcNamed "waxwork/waxworklaw07.DenoteHolds" = some 11 by kernel_rfl).symm.trans hf) |>.symm
  obtain rfl : fn = Tryz.f11 := (Option.some.inj (Tryz.func11.symm.trans hfn)).symm
  refine ⟨by kernel_rfl, fun j t ht => ?_⟩
  rw [Tryz.params11] at ht
  have hm : t ∈ [27, 5, 3] := by simpa using Array.mem_of_getElem? ht
  have hall : ([27, 5, 3].all fun u => !Tryz.prog.wantsStandIn u) = true := by kernel_rfl
  exact (show Tryz.prog.wantsStandIn t = false by simpa using List.all_eq_true.1 hall t hm)

end Go.Aw.C07
namespace Go.Proofs.YtkamgngihebpoaaGreatDoor
open Go.Aw.C07

/-- THE CARD. -/
theorem denoteHolds_card : Rows.DenoteHoldsCardSaid :=
  Claim7.holds_tied_plain_at .later [] _ _ _ _ said (fun _ h => by cases h) (by kernel_rfl) (fun _ h => by cases h) denoteHolds_row_tie rfl ⟨rfl, rfl⟩ (by kernel_rfl) rfl plain (by kernel_rfl)

#print axioms denoteHolds_card
end Go.Proofs.YtkamgngihebpoaaGreatDoor
