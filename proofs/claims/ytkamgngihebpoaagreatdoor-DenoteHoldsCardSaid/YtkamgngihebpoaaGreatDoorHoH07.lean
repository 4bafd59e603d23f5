import Derived.Test.YtkamgngihebpoaaGreatDoorHoR07
/- The law DenoteHolds: its walk. -/
set_option linter.all false
noncomputable section
namespace Go.Aw.C07
open Go Go.Aw Go.Proofs

theorem ex_run : retTrue (evFT Γu tb0 (toRun (evC Γu tb0 20000)) 12 [] .empty) = true := by kernel_rfl

theorem ex_pure : Pure Γu Tryz.prog 12 [] (.bool true) := by
  intro H
  have := known_true flatΓ tok mixed tb0_ok 20000 (args := []) rfl ex_run H
  obtain ⟨n, t⟩ := H
  exact this

set_option maxRecDepth 100000 in
set_option maxHeartbeats 4000000 in
theorem holds_walk (l : List Int) (hl : ∀ z ∈ l, 0 ≤ z ∧ z ≤ 255) (a kind : Int) (ha : 0 ≤ a ∧ a ≤ 255) :
    ACalls Γu Tryz.prog 11 [.rs (bytesV l) 1 l.length, .int .u8 a, .int .i64 kind] .empty fun e _ => e = .ret (.bool true) := by
  refine acalls_of_aw tok mixed h11 ?_
  refine Is.out ?_
  generalize hQ : fnQ Γu p11 _ = Q
  simp only [p11, p11_0, p11_1, p11_2, p11_4, AFun.start, List.length, List.replicate, List.cons_append, List.nil_append, Nat.reduceSub, Nat.reduceAdd]
  repeat (first
    | with_reducible apply Is.seq | with_reducible apply Is.region | with_reducible apply Is.block | with_reducible apply Is.fin | with_reducible apply Is.nil
    | (with_reducible refine Is.op (by with_unfolding_all rfl) (by with_unfolding_all rfl) ?_; simp only [Fr.put, List.set, AArg.ev, lget])
    | with_reducible refine Is.condT (by with_unfolding_all rfl) ?_ | with_reducible refine Is.condF (by with_unfolding_all rfl) ?_
    | (with_reducible refine Is.opT (by with_unfolding_all rfl) (by with_unfolding_all rfl) (by with_unfolding_all rfl) ?_; simp only [Fr.put, List.set, AArg.ev, lget])
    | (with_reducible refine Is.opF (by with_unfolding_all rfl) ?_; simp only [Fr.put, List.set, AArg.ev, lget])
    | (with_reducible refine Is.pureE (ex_pure) (by with_unfolding_all rfl) ?_; simp only [Fr.put, List.set, AArg.ev, lget])
    | (with_reducible refine Is.pureTE (ex_pure) (by with_unfolding_all rfl) (by with_unfolding_all rfl) ?_; simp only [Fr.put, List.set, AArg.ev, lget])
    | with_reducible apply Is.skip | with_reducible apply Is.skip' | with_reducible apply Is.ret | with_reducible apply Is.exit | with_reducible apply Is.sqN | with_reducible apply Is.sqR | with_reducible apply Is.sqX | with_reducible apply Is.bkN | with_reducible apply Is.bkR | with_reducible apply Is.bkX | with_reducible refine Is.bkY rfl ?_)
  have ht := text_calls l hl 10 (by omega) .empty
  refine Is.kp (v := .str (textV (l.take 10))) ht fun n hn => ?_
  clear ht hn
  obtain ⟨s, hs⟩ : ∃ s, textV (l.take 10) = s := ⟨_, rfl⟩
  have hlen : s.length ≤ 20 := by
    have h1 := textV_len (l.take 10)
    have h2 : (l.take 10).length ≤ 10 := by simp; omega
    rw [hs] at h1; omega
  rw [hs]
  simp only [Fr.put, List.set, AArg.ev, lget]
  refine Is.op rfl rfl ?_
  simp only [Fr.put, List.set, AArg.ev, lget]
  with_reducible apply Is.fin
  with_reducible apply Is.seq
  with_reducible apply Is.region
  simp only [p11_5]
  refine Is.op rfl rfl ?_
  simp only [Fr.put, List.set, AArg.ev, lget]
  refine Is.op (v := .int .i64 a) (H' := AHeap.empty.at n) (by
    show some (AVal.int .i64 (IntKind.i64.wrap a), AHeap.empty.at n) = _
    rw [i64_fit (by omega) (by unfold limit; omega)]) rfl ?_
  simp only [Fr.put, List.set, AArg.ev, lget]
  refine Is.op rfl rfl ?_
  simp only [Fr.put, List.set, AArg.ev, lget]
  refine Is.op (v := .int .i64 (s.length : Nat)) (H' := AHeap.empty.at n) rfl rfl ?_
  simp only [Fr.put, List.set, AArg.ev, lget]
  refine Is.op (v := .int .i64 (s.length + 1 : Nat)) (H' := AHeap.empty.at n) (by
    show some (AVal.int .i64 (IntKind.i64.wrap ((s.length : Nat) + 1)), AHeap.empty.at n) = _
    rw [i64_fit (by omega) (by unfold limit; omega)]
    rfl) rfl ?_
  simp only [Fr.put, List.set, AArg.ev, lget]
  obtain ⟨k, hk⟩ : ∃ k, a.tmod ((s.length + 1 : Nat) : Int) = k := ⟨_, rfl⟩
  have hkb : 0 ≤ k ∧ k ≤ s.length := by
    rw [Int.tmod_eq_emod_of_nonneg ha.1] at hk
    have h1 := Int.emod_nonneg a (show ((s.length + 1 : Nat) : Int) ≠ 0 by omega)
    have h2 := Int.emod_lt_of_pos a (show (0 : Int) < ((s.length + 1 : Nat) : Int) by omega)
    omega
  refine Is.op (v := .int .i64 k) (H' := AHeap.empty.at n) (by
    have hz : (((s.length + 1 : Nat) : Int) == 0) = false := by
      cases hc : (((s.length + 1 : Nat) : Int) == 0) with
      | false => rfl
      | true => have := eq_of_beq hc; omega
    show asn (ibin .rem .i64 a ((s.length + 1 : Nat) : Int)) (AHeap.empty.at n) = _
    simp only [ibin, hz, cond_false, hk]
    rfl) rfl ?_
  simp only [Fr.put, List.set, AArg.ev, lget]
  refine Is.op rfl rfl ?_
  simp only [Fr.put, List.set, AArg.ev, lget]
  with_reducible apply Is.fin
  with_reducible apply Is.seq
  with_reducible apply Is.region
  -- the law
  have hP := placeV_eq s (by omega) k
  have hPm := placeV_eq s (by omega) (-1)
  have hPp := placeV_eq s (by omega) ((s.length + 1 : Nat) : Int)
  have loopP : ∀ p0 : Bool, p0 = (k == 0 || k == (s.length : Nat)) → (p0 || startsV s k (s.length + 1) 0) = placeV s k := by
    intro p0 hp0
    rw [hp0, hP]
    have h0 : (k == 0) = true → (startsV s k (s.length + 1) 0 || (s.length : Int) == k) = true := by
      intro h
      rw [← hP]
      unfold placeV
      rw [h, Bool.or_true]
    have hc : (k == ((s.length : Nat) : Int)) = ((s.length : Int) == k) := by
      cases h1 : (k == ((s.length : Nat) : Int)) <;> cases h2 : ((s.length : Int) == k) <;> simp at h1 h2 <;> first | rfl | omega
    rw [hc]
    cases h1 : (k == 0) with
    | true =>
      have := h0 h1
      simp only [Bool.true_or]
      exact this.symm
    | false => cases startsV s k (s.length + 1) 0 <;> cases ((s.length : Int) == k) <;> rfl
  -- ahead of the loop
  have body : ∀ (p0 : Bool) (x11 y27 y28 y29 y30 y31 y32 y33 y36 y37 y38 y39 y40 y41 y42 y43 y44 y34 y35 : AVal) (q0 : p0 = (k == 0 || k == (s.length : Nat))), Is (aw Γu Tryz.prog (.region p11_7) (seqQ (seqQ Q (aw Γu Tryz.prog (.seq (.region p11_11) (.seq (.region p11_12) (.seq (.region p11_13) (.seq (.region p11_14) .ret)))) Q)) (aw Γu Tryz.prog (.block 0 (.loop (.seq (.region p11_8) (.seq (.cond (.t 37) .skip (.exit 0)) (.block 1 (.seq (.region p11_9) (.region p11_10))))))) (seqQ Q (aw Γu Tryz.prog (.seq (.region p11_11) (.seq (.region p11_12) (.seq (.region p11_13) (.seq (.region p11_14) .ret)))) Q))))
      ⟨(.rs (bytesV l) 1 l.length :: .int .u8 a :: .int .i64 kind :: .tup [] :: .tup [] :: .tup [] :: .bool false :: .bool true :: .str s :: .int .i64 k :: .bool p0 :: x11 :: .tup [] :: .tup [] :: .tup [] :: .bool true :: .bool true :: .bool false :: .rs (bytesV l) 1 l.length :: .str s :: .int .u8 a :: .int .i64 a :: .str s :: .int .i64 (s.length : Nat) :: .int .i64 (s.length + 1 : Nat) :: .int .i64 k :: .int .i64 k :: y27 :: y28 :: y29 :: y30 :: y31 :: y32 :: y33 :: y34 :: y35 :: y36 :: y37 :: y38 :: y39 :: y40 :: y41 :: y42 :: y43 :: y44 :: .tup [] :: .tup [] :: .tup [] :: .tup [] :: .tup [] :: .tup [] :: .tup [] :: .tup [] :: .tup [] :: .tup [] :: .tup [] :: .tup [] :: .tup [] :: .tup [] :: .tup [] :: .tup [] :: .tup [] :: .tup [] :: .tup [] :: .tup [] :: .tup [] :: .tup [] :: .tup [] :: .tup [] :: .tup [] :: .tup [] :: .tup [] :: .tup [] :: .tup [] :: .tup [] :: .tup [] :: .tup [] :: .tup [] :: .tup [] :: .tup [] :: .tup [] :: .tup [] :: .tup [] :: .tup [] :: .tup [] :: .tup [] :: .tup [] :: .tup [] :: .tup [] :: .tup [] :: .tup [] :: .tup [] :: .tup [] :: .tup [] :: .tup [] :: .tup [] :: .tup [] :: .tup [] :: .tup [] :: .tup [] :: .tup [] :: .tup [] :: .tup [] :: .tup [] :: .tup [] :: .tup [] :: .tup [] :: .tup [] :: .tup [] :: .tup [] :: .tup [] :: .tup [] :: .tup [] :: .tup [] :: .tup [] :: .tup [] :: .tup [] :: .tup [] :: .tup [] :: []), []⟩ (AHeap.empty.at n)) := by
    intro p0 x11 y27 y28 y29 y30 y31 y32 y33 y36 y37 y38 y39 y40 y41 y42 y43 y44 y34 y35 q0
    with_reducible apply Is.region
    simp only [p11_7]
    refine Is.op rfl rfl ?_
    simp only [Fr.put, List.set, AArg.ev, lget]
    refine Is.op rfl rfl ?_
    simp only [Fr.put, List.set, AArg.ev, lget, AHeap.at_next]
    with_reducible apply Is.fin
    with_reducible apply Is.block
    refine Is.loop (fun kk fr H1 => ∃ pos fuel p x11 y27 y28 y29 y30 y31 y32 y33 y36 y37 y38 y39 y40 y41 y42 y43 y44, fr = ⟨(.rs (bytesV l) 1 l.length :: .int .u8 a :: .int .i64 kind :: .tup [] :: .tup [] :: .tup [] :: .bool false :: .bool true :: .str s :: .int .i64 k :: .bool p :: x11 :: .tup [] :: .tup [] :: .tup [] :: .bool true :: .bool true :: .bool false :: .rs (bytesV l) 1 l.length :: .str s :: .int .u8 a :: .int .i64 a :: .str s :: .int .i64 (s.length : Nat) :: .int .i64 (s.length + 1 : Nat) :: .int .i64 k :: .int .i64 k :: y27 :: y28 :: y29 :: y30 :: y31 :: y32 :: y33 :: .str s :: .ptr n 0 :: y36 :: y37 :: y38 :: y39 :: y40 :: y41 :: y42 :: y43 :: y44 :: .tup [] :: .tup [] :: .tup [] :: .tup [] :: .tup [] :: .tup [] :: .tup [] :: .tup [] :: .tup [] :: .tup [] :: .tup [] :: .tup [] :: .tup [] :: .tup [] :: .tup [] :: .tup [] :: .tup [] :: .tup [] :: .tup [] :: .tup [] :: .tup [] :: .tup [] :: .tup [] :: .tup [] :: .tup [] :: .tup [] :: .tup [] :: .tup [] :: .tup [] :: .tup [] :: .tup [] :: .tup [] :: .tup [] :: .tup [] :: .tup [] :: .tup [] :: .tup [] :: .tup [] :: .tup [] :: .tup [] :: .tup [] :: .tup [] :: .tup [] :: .tup [] :: .tup [] :: .tup [] :: .tup [] :: .tup [] :: .tup [] :: .tup [] :: .tup [] :: .tup [] :: .tup [] :: .tup [] :: .tup [] :: .tup [] :: .tup [] :: .tup [] :: .tup [] :: .tup [] :: .tup [] :: .tup [] :: .tup [] :: .tup [] :: .tup [] :: .tup [] :: .tup [] :: .tup [] :: .tup [] :: .tup [] :: .tup [] :: .tup [] :: .tup [] :: .tup [] :: []), []⟩ ∧ H1.get n = some (.siter s pos) ∧
      kk = s.length - pos + 1 ∧ s.length - pos < fuel ∧ (p || startsV s k fuel pos) = placeV s k) (s.length - 0 + 1) ?_ ?_
    · exact ⟨0, s.length + 1, p0, _, _, _, _, _, _, _, _, _, _, _, _, _, _, _, _, _, rfl, by rw [AHeap.get_new, if_pos (AHeap.at_next _ _).symm], rfl, by omega, loopP p0 q0⟩
    rintro kk fr H1 ⟨pos, fuel, p, x11, y27, y28, y29, y30, y31, y32, y33, y36, y37, y38, y39, y40, y41, y42, y43, y44, rfl, hI, rfl, hfu, hsc⟩
    obtain ⟨fuel, rfl⟩ : ∃ f', fuel = f' + 1 := ⟨fuel - 1, by omega⟩
    with_reducible apply Is.seq
    with_reducible apply Is.region
    simp only [p11_8]
    by_cases hp : pos < s.length
    · -- there is a rune
      obtain ⟨rr, hrr⟩ : ∃ rr, (Utf8.decode ⟨s.toArray⟩ pos).1 = rr := ⟨_, rfl⟩
      obtain ⟨w, hw⟩ : ∃ w, (Utf8.decode ⟨s.toArray⟩ pos).2 = w := ⟨_, rfl⟩
      have hw1 : 1 ≤ w := by rw [← hw]; exact decode_wide _ _
      rw [startsV_lt hp, hw] at hsc
      have hblt : Nat.blt pos s.length = true := Nat.blt_eq.mpr hp
      have hnxt : ∀ t, lget t 35 = .ptr n 0 → astep Γu t H1 (.nxt (.t 35)) = some (.tup [.bool true, .int .i64 pos, .int .i32 rr], H1.put n (.siter s (pos + w))) := by
        intro t ht
        simp only [astep, AArg.ev, ht, hI, hblt, cond_true, hrr, hw]
        rfl
      refine Is.op (hnxt _ rfl) rfl ?_
      simp only [Fr.put, List.set, AArg.ev, lget]
      have g2I : (H1.put n (.siter s (pos + w))).get n = some (.siter s (pos + w)) := by rw [AHeap.get_put, if_pos rfl]
      generalize H1.put n (.siter s (pos + w)) = H2 at g2I ⊢
      have fin : ∀ (p' : Bool), p' = (p || (pos : Int) == k) → (p' || startsV s k fuel (pos + w)) = placeV s k := by
        intro p' hp'
        rw [hp', ← hsc, Bool.or_assoc]
      rcases Bool.eq_false_or_eq_true p with rfl | rfl <;> rcases Bool.eq_false_or_eq_true ((pos : Int) == k) with e9 | e9
      all_goals repeat (first
        | with_reducible apply Is.seq | with_reducible apply Is.region | with_reducible apply Is.block | with_reducible apply Is.fin | with_reducible apply Is.nil
        | (with_reducible refine Is.op (by with_unfolding_all rfl) (by with_unfolding_all rfl) ?_; simp only [Fr.put, List.set, AArg.ev, lget, e9])
        | (with_reducible refine Is.opT (by with_unfolding_all rfl) (by with_unfolding_all rfl) (by with_unfolding_all rfl) ?_; simp only [Fr.put, List.set, AArg.ev, lget, e9])
        | (with_reducible refine Is.opF (by with_unfolding_all rfl) ?_; simp only [Fr.put, List.set, AArg.ev, lget, e9])
        | with_reducible refine Is.condT (by with_unfolding_all rfl) ?_
        | with_reducible apply Is.skip | with_reducible apply Is.bkN | with_reducible apply Is.sqN
        | simp only [p11_9] | simp only [p11_10])
      all_goals exact ⟨⟨_, by omega, pos + w, fuel, _, _, _, _, _, _, _, _, _, _, _, _, _, _, _, _, _, _, rfl, g2I, rfl, by omega, fin _ (by rw [e9]; rfl)⟩⟩
    · -- there is none
      rw [startsV_ge hp, Bool.or_false] at hsc
      have hblt : Nat.blt pos s.length = false := by
        cases hc : Nat.blt pos s.length with
        | false => rfl
        | true => exact absurd (Nat.blt_eq.mp hc) hp
      have hnxt : ∀ t, lget t 35 = .ptr n 0 → astep Γu t H1 (.nxt (.t 35)) = some (.tup [.bool false], H1) := by
        intro t ht
        simp only [astep, AArg.ev, ht, hI, hblt, cond_false]
      refine Is.op (hnxt _ rfl) rfl ?_
      simp only [Fr.put, List.set, AArg.ev, lget]
      refine Is.op rfl rfl ?_
      simp only [Fr.put, List.set, AArg.ev, lget]
      with_reducible apply Is.fin
      with_reducible apply Is.seq
      with_reducible refine Is.condF (by with_unfolding_all rfl) ?_
      repeat (first | with_reducible apply Is.exit | with_reducible apply Is.sqX | with_reducible apply Is.bkX | with_reducible apply Is.sqN)
      clear hnxt hI hblt hfu
      -- what holds
      have hM : placeV s (-1) = false := by
        rw [hPm]
        cases h1 : startsV s (-1) (s.length + 1) 0 with
        | true => have := starts_range s (-1) _ _ h1; omega
        | false => cases h2 : ((s.length : Int) == -1) <;> simp at h2 ⊢ <;> omega
      have hN : placeV s ((s.length + 1 : Nat) : Int) = false := by
        rw [hPp]
        cases h1 : startsV s ((s.length + 1 : Nat) : Int) (s.length + 1) 0 with
        | true => have := starts_range s _ _ _ h1; omega
        | false => cases h2 : ((s.length : Int) == ((s.length + 1 : Nat) : Int)) <;> simp at h2 ⊢ <;> omega
      have hpl0 : (k == 0) = true → placeV s k = true := fun h => by unfold placeV; rw [h, Bool.or_true]
      have hplN : (k == (s.length : Nat)) = true → placeV s k = true := fun h => by
        rw [hP]
        have : ((s.length : Int) == k) = true := by have := eq_of_beq h; rw [this]; exact beq_self_eq_true _
        rw [this, Bool.or_true]
      have eA : (holdsV 2 s k == (k == 0)) = true := by
        unfold holdsV
        rw [if_pos rfl]
        cases h1 : (k == 0) with
        | true => rw [hpl0 h1]; rfl
        | false => cases placeV s k <;> rfl
      have eB : (holdsV 3 s k == (k == (s.length : Nat))) = true := by
        unfold holdsV
        rw [if_neg (by omega), if_pos rfl]
        cases h1 : (k == ((s.length : Nat) : Int)) with
        | true => rw [hplN h1]; rfl
        | false => cases placeV s k <;> rfl
      have eM : holdsV kind s (-1) = false := by unfold holdsV; rw [hM]; rfl
      have eN : holdsV kind s ((s.length + 1 : Nat) : Int) = false := by unfold holdsV; rw [hN]; rfl
      have h4 : holdsV 4 s k = (placeV s k && edgeV s k) := by unfold holdsV; rw [if_neg (by omega), if_neg (by omega), if_pos rfl]
      have h5 : holdsV 5 s k = (placeV s k && !edgeV s k) := by unfold holdsV; rw [if_neg (by omega), if_neg (by omega), if_neg (by omega), if_pos rfl]
      have hkn : (kind ≥ 2) → (kind ≤ 5) → True := fun _ _ => trivial
      have hK : ¬ (kind ≥ 2 ∧ kind ≤ 5) → holdsV kind s k = false := fun h => by
        unfold holdsV
        rw [if_neg (by omega), if_neg (by omega), if_neg (by omega), if_neg (by omega), Bool.and_false]
      have hlw : IntKind.i64.wrap (((s.length : Nat) : Int) + 1) = ((s.length + 1 : Nat) : Int) := by rw [i64_fit (by omega) (by unfold limit; omega)]; rfl
      rw [← hsc] at h4 h5
      clear hsc hP hPm hPp loopP hpl0 hplN hM hN
      have cases3 : ∃ b4 b5 : Bool, holdsV 4 s k = b4 ∧ holdsV 5 s k = b5 ∧ ((p = false ∧ b4 = false ∧ b5 = false) ∨ (p = true ∧ b4 = true ∧ b5 = false) ∨ (p = true ∧ b4 = false ∧ b5 = true)) := by
        refine ⟨_, _, h4, h5, ?_⟩
        cases p <;> cases edgeV s k <;> simp
      obtain ⟨b4, b5, e4, e5, hc3⟩ := cases3
      clear h4 h5
      rcases hc3 with ⟨rfl, rfl, rfl⟩ | ⟨rfl, rfl, rfl⟩ | ⟨rfl, rfl, rfl⟩
      all_goals rcases Bool.eq_false_or_eq_true (decide (kind ≥ 2)) with e6 | e6 <;> rcases Bool.eq_false_or_eq_true (decide (kind ≤ 5)) with e7 | e7 <;> try (exfalso; simp at e6 e7; omega)
      all_goals first
        | (have eK : holdsV kind s k = false := hK (by simp at e6 e7; omega))
        | (have eK : True := trivial)
      all_goals simp only [p11_11, p11_12, p11_13, p11_14]
      all_goals repeat (first
    | with_reducible apply Is.seq | with_reducible apply Is.region | with_reducible apply Is.block | with_reducible apply Is.fin | with_reducible apply Is.nil
    | (with_reducible refine Is.op (by with_unfolding_all rfl) (by with_unfolding_all rfl) ?_; simp only [Fr.put, List.set, AArg.ev, lget, e4, e5, e6, e7, eA, eB, eK, eM, eN, hlw, i64v])
    | with_reducible refine Is.condT (by with_unfolding_all rfl) ?_ | with_reducible refine Is.condF (by with_unfolding_all rfl) ?_
    | (with_reducible refine Is.opT (by with_unfolding_all rfl) (by with_unfolding_all rfl) (by with_unfolding_all rfl) ?_; simp only [Fr.put, List.set, AArg.ev, lget, e4, e5, e6, e7, eA, eB, eK, eM, eN, hlw, i64v])
    | (with_reducible refine Is.opF (by with_unfolding_all rfl) ?_; simp only [Fr.put, List.set, AArg.ev, lget, e4, e5, e6, e7, eA, eB, eK, eM, eN, hlw, i64v])
    | (with_reducible refine Is.pureE (holds_pure _ _ _) (by with_unfolding_all rfl) ?_; simp only [Fr.put, List.set, AArg.ev, lget, e4, e5, e6, e7, eA, eB, eK, eM, eN, hlw, i64v])
    | (with_reducible refine Is.pureTE (holds_pure _ _ _) (by with_unfolding_all rfl) (by with_unfolding_all rfl) ?_; simp only [Fr.put, List.set, AArg.ev, lget, e4, e5, e6, e7, eA, eB, eK, eM, eN, hlw, i64v])
    | with_reducible apply Is.skip | with_reducible apply Is.skip' | with_reducible apply Is.ret | with_reducible apply Is.exit | with_reducible apply Is.sqN | with_reducible apply Is.sqR | with_reducible apply Is.sqX | with_reducible apply Is.bkN | with_reducible apply Is.bkR | with_reducible apply Is.bkX | with_reducible refine Is.bkY rfl ?_)

      all_goals subst hQ
      all_goals exact ⟨⟨rfl, _, rfl, by rfl⟩⟩

  simp only [p11_6]
  rcases Bool.eq_false_or_eq_true (k == 0) with e1 | e1 <;> rcases Bool.eq_false_or_eq_true (k == (s.length : Nat)) with e2 | e2
  all_goals repeat (first
    | with_reducible apply Is.seq | with_reducible apply Is.region | with_reducible apply Is.block | with_reducible apply Is.fin | with_reducible apply Is.nil
    | (with_reducible refine Is.op (by with_unfolding_all rfl) (by with_unfolding_all rfl) ?_; simp only [Fr.put, List.set, AArg.ev, lget, e1, e2])
    | with_reducible refine Is.condT (by with_unfolding_all rfl) ?_ | with_reducible refine Is.condF (by with_unfolding_all rfl) ?_
    | (with_reducible refine Is.opT (by with_unfolding_all rfl) (by with_unfolding_all rfl) (by with_unfolding_all rfl) ?_; simp only [Fr.put, List.set, AArg.ev, lget, e1, e2])
    | (with_reducible refine Is.opF (by with_unfolding_all rfl) ?_; simp only [Fr.put, List.set, AArg.ev, lget, e1, e2])
    | with_reducible apply Is.skip | with_reducible apply Is.skip' | with_reducible apply Is.ret | with_reducible apply Is.exit | with_reducible apply Is.sqN | with_reducible apply Is.sqR | with_reducible apply Is.sqX | with_reducible apply Is.bkN | with_reducible apply Is.bkR | with_reducible apply Is.bkX | with_reducible refine Is.bkY rfl ?_)
  all_goals exact ⟨(body _ _ _ _ _ _ _ _ _ _ _ _ _ _ _ _ _ _ _ _ (by rw [e1, e2]; rfl)).out⟩

end Go.Aw.C07
