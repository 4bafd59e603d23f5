import Derived.Test.YtkamgngihebpoaaGreatDoorHoXC07
import Derived.Test.YtkamgngihebpoaaGreatDoorHoRunT
import Derived.Shelf.Unicode.DecodeAny
/- The runes of a text: functions without loops. -/
set_option linter.all false
noncomputable section
namespace Go.Aw.C07
open Go Go.Aw Go.Proofs Go.Shelf

def wordV (r : Int) : Bool := (decide (r ≥ 48) && decide (r ≤ 57)) || (decide (r ≥ 65) && decide (r ≤ 90)) || (decide (r ≥ 97) && decide (r ≤ 122)) || r == 95
def runeLenV (r : Int) : Int := if r < 0 then -1 else if r ≤ 127 then 1 else if r ≤ 2047 then 2 else if 55296 ≤ r ∧ r ≤ 57343 then -1 else if r ≤ 65535 then 3 else if r ≤ 1114111 then 4 else -1

theorem word_pure (r : Int) : Pure Γu Tryz.prog 67 [.int .i32 r] (.bool (wordV r)) := by
  refine pure_of flatΓ rfl rfl (acalls_of_aw tok mixed h67 ?_)
  unfold wordV
  rcases Bool.eq_false_or_eq_true (decide (r ≥ 48)) with e1 | e1 <;> try (exfalso; simp at e1; omega)
  all_goals rcases Bool.eq_false_or_eq_true (decide (r ≤ 57)) with e2 | e2 <;> try (exfalso; simp at e1 e2; omega)
  all_goals rcases Bool.eq_false_or_eq_true (decide (r ≥ 65)) with e3 | e3 <;> try (exfalso; simp at e1 e2 e3; omega)
  all_goals rcases Bool.eq_false_or_eq_true (decide (r ≤ 90)) with e4 | e4 <;> try (exfalso; simp at e1 e2 e3 e4; omega)
  all_goals rcases Bool.eq_false_or_eq_true (decide (r ≥ 97)) with e5 | e5 <;> try (exfalso; simp at e1 e2 e3 e4 e5; omega)
  all_goals rcases Bool.eq_false_or_eq_true (decide (r ≤ 122)) with e6 | e6 <;> try (exfalso; simp at e1 e2 e3 e4 e5 e6; omega)
  all_goals rcases Bool.eq_false_or_eq_true (r == 95) with e7 | e7 <;> try (exfalso; simp at e1 e2 e3 e4 e5 e6 e7; omega)
  all_goals refine Is.out ?_
  all_goals generalize hQ : fnQ Γu p67 _ = Q
  all_goals simp only [p67, p67_0, p67_1, p67_2, p67_3, p67_4, p67_5, p67_6, AFun.start, List.length, List.replicate, List.cons_append, List.nil_append, Nat.reduceSub, Nat.reduceAdd]
  all_goals repeat (first
    | with_reducible apply Is.seq | with_reducible apply Is.region | with_reducible apply Is.block | with_reducible apply Is.fin | with_reducible apply Is.nil
    | (with_reducible refine Is.op (by with_unfolding_all rfl) (by with_unfolding_all rfl) ?_; simp only [Fr.put, List.set, AArg.ev, lget, e1, e2, e3, e4, e5, e6, e7])
    | with_reducible refine Is.condT (by with_unfolding_all rfl) ?_ | with_reducible refine Is.condF (by with_unfolding_all rfl) ?_
    | (with_reducible refine Is.opT (by with_unfolding_all rfl) (by with_unfolding_all rfl) (by with_unfolding_all rfl) ?_; simp only [Fr.put, List.set, AArg.ev, lget, e1, e2, e3, e4, e5, e6, e7])
    | (with_reducible refine Is.opF (by with_unfolding_all rfl) ?_; simp only [Fr.put, List.set, AArg.ev, lget, e1, e2, e3, e4, e5, e6, e7])
    | with_reducible apply Is.skip | with_reducible apply Is.skip' | with_reducible apply Is.ret | with_reducible apply Is.exit | with_reducible apply Is.sqN | with_reducible apply Is.sqR | with_reducible apply Is.sqX | with_reducible apply Is.bkN | with_reducible apply Is.bkR | with_reducible apply Is.bkX | with_reducible refine Is.bkY rfl ?_)
  all_goals subst hQ
  all_goals exact ⟨⟨rfl, _, rfl, by simp [resVal, lget, AArg.ev, e1, e2, e3, e4, e5, e6, e7]⟩⟩

theorem runeLen_pure (r : Int) : Pure Γu Tryz.prog 137 [.int .i32 r] (.int .i64 (runeLenV r)) := by
  refine pure_of flatΓ rfl rfl (acalls_of_aw tok mixed h137 ?_)
  rcases Bool.eq_false_or_eq_true (decide (r < 0)) with e1 | e1 <;> try (exfalso; simp at e1; omega)
  all_goals rcases Bool.eq_false_or_eq_true (decide (r ≤ 127)) with e2 | e2 <;> try (exfalso; simp at e1 e2; omega)
  all_goals rcases Bool.eq_false_or_eq_true (decide (r ≤ 2047)) with e3 | e3 <;> try (exfalso; simp at e1 e2 e3; omega)
  all_goals rcases Bool.eq_false_or_eq_true (decide (55296 ≤ r)) with e4 | e4 <;> try (exfalso; simp at e1 e2 e3 e4; omega)
  all_goals rcases Bool.eq_false_or_eq_true (decide (r ≤ 57343)) with e5 | e5 <;> try (exfalso; simp at e1 e2 e3 e4 e5; omega)
  all_goals rcases Bool.eq_false_or_eq_true (decide (r ≤ 65535)) with e6 | e6 <;> try (exfalso; simp at e1 e2 e3 e4 e5 e6; omega)
  all_goals rcases Bool.eq_false_or_eq_true (decide (r ≤ 1114111)) with e7 | e7 <;> try (exfalso; simp at e1 e2 e3 e4 e5 e6 e7; omega)
  all_goals refine Is.out ?_
  all_goals generalize hQ : fnQ Γu p137 _ = Q
  all_goals simp only [p137, p137_0, p137_1, p137_2, p137_3, p137_4, p137_5, p137_6, p137_7, p137_8, p137_9, p137_10, p137_11, p137_12, p137_13, AFun.start, List.length, List.replicate, List.cons_append, List.nil_append, Nat.reduceSub, Nat.reduceAdd]
  all_goals repeat (first
    | with_reducible apply Is.seq | with_reducible apply Is.region | with_reducible apply Is.block | with_reducible apply Is.fin | with_reducible apply Is.nil
    | (with_reducible refine Is.op (by with_unfolding_all rfl) (by with_unfolding_all rfl) ?_; simp only [Fr.put, List.set, AArg.ev, lget, e1, e2, e3, e4, e5, e6, e7])
    | with_reducible refine Is.condT (by with_unfolding_all rfl) ?_ | with_reducible refine Is.condF (by with_unfolding_all rfl) ?_
    | (with_reducible refine Is.opT (by with_unfolding_all rfl) (by with_unfolding_all rfl) (by with_unfolding_all rfl) ?_; simp only [Fr.put, List.set, AArg.ev, lget, e1, e2, e3, e4, e5, e6, e7])
    | (with_reducible refine Is.opF (by with_unfolding_all rfl) ?_; simp only [Fr.put, List.set, AArg.ev, lget, e1, e2, e3, e4, e5, e6, e7])
    | with_reducible apply Is.skip | with_reducible apply Is.skip' | with_reducible apply Is.ret | with_reducible apply Is.exit | with_reducible apply Is.sqN | with_reducible apply Is.sqR | with_reducible apply Is.sqX | with_reducible apply Is.bkN | with_reducible apply Is.bkR | with_reducible apply Is.bkX | with_reducible refine Is.bkY rfl ?_)
  all_goals subst hQ
  all_goals exact ⟨⟨rfl, _, rfl, by simp only [resVal, lget, AArg.ev, runeLenV]; congr 3; simp at *; repeat (first | rfl | split | omega)⟩⟩

def laysDec_ren : Ren where
  f := fun x => match x with
    | 197 => 136
    | 260 => 159
    | n => n
  t := fun x => match x with
    | 105 => 172
    | 119 => 217
    | 46 => 111
    | 139 => 220
    | 138 => 219
    | n => n
  g := fun x => match x with
    | 3 => 0
    | 4 => 1
    | n => n
theorem laysDec : Lays.n197 Tryz.prog laysDec_ren :=
{ mixed := Eq.refl true, f197 := Eq.trans Tryz.func136 (congrArg some (Eq.refl (Body.n197 laysDec_ren))),
  f260 := Eq.trans Tryz.func159 (congrArg some (Eq.refl (Body.n260 laysDec_ren))), t0 := Tryz.underlying0,
  a0 := Tryz.isAgg0, z0 := Tryz.sizeOf0, v0 := Tryz.zeroValue0, t3 := Tryz.underlying3, a3 := Tryz.isAgg3,
  z3 := Tryz.sizeOf3, v3 := Tryz.zeroValue3, t4 := Tryz.underlying4, a4 := Tryz.isAgg4, z4 := Tryz.sizeOf4,
  v4 := Tryz.zeroValue4, t5 := Tryz.underlying5, a5 := Tryz.isAgg5, z5 := Tryz.sizeOf5, v5 := Tryz.zeroValue5,
  t9 := Tryz.underlying9, a9 := Tryz.isAgg9, z9 := Tryz.sizeOf9, v9 := Tryz.zeroValue9, t21 := Tryz.underlying21,
  a21 := Tryz.isAgg21, z21 := Tryz.sizeOf21, v21 := Tryz.zeroValue21, t46 := Tryz.underlying111, a46 := Tryz.isAgg111,
  z46 := Tryz.sizeOf111, v46 := Tryz.zeroValue111, t105 := Tryz.underlying172, a105 := Tryz.isAgg172,
  z105 := Tryz.sizeOf172, v105 := Tryz.zeroValue172, t119 := Tryz.underlying217, a119 := Tryz.isAgg217,
  z119 := Tryz.sizeOf217, t138 := Tryz.underlying219, a138 := Tryz.isAgg219, z138 := Tryz.sizeOf219,
  v138 := Tryz.zeroValue219, t139 := Tryz.underlying220, a139 := Tryz.isAgg220, z139 := Tryz.sizeOf220,
  v139 := Tryz.zeroValue220, g3 := by kernel_rfl, g4 := by kernel_rfl }

theorem tabs_first : (List.range 256).all (fun i => match (u8s utf8First)[i]? with
    | some (.int .u8 z) => decide (z = (Lib.firstT i : Int))
    | _ => false) = true := by kernel_rfl
theorem tabs_acc : (List.range 16).all (fun i => (match (u8s utf8Acc)[2 * i]? with
    | some (.int .u8 z) => decide (z = (Lib.accLo i : Int))
    | _ => false) && (match (u8s utf8Acc)[2 * i + 1]? with
    | some (.int .u8 z) => decide (z = (Lib.accHi i : Int))
    | _ => false)) = true := by kernel_rfl

theorem tabs {g : Gh} {H : AHeap} {w : World} (hw : WRel Γu g H w) : Lib.Utf8Tabs 0 1 w := by
  have cell : ∀ gi cs i z, Γu gi = some cs → cs[i]? = some (.int .u8 z) → w.cell? ⟨gi, i, none⟩ = some (.int .u8 z) := by
    intro gi cs i z hg hc
    obtain ⟨v, h1, h2⟩ := hw.ro gi i _ (hw.glob gi cs hg i _ hc)
    cases h2
    exact h1
  refine ⟨fun c hc => ?_, fun i hi => ?_⟩
  · have := List.all_eq_true.1 tabs_first c (List.mem_range.2 hc)
    split at this
    · rename_i z hz
      simp only [decide_eq_true_eq] at this
      subst this
      exact cell 0 _ c _ rfl hz
    · cases this
  · have := List.all_eq_true.1 tabs_acc i (List.mem_range.2 hi)
    rw [Bool.and_eq_true] at this
    obtain ⟨h1, h2⟩ := this
    constructor
    · split at h1
      · rename_i z hz
        simp only [decide_eq_true_eq] at h1
        subst h1
        exact cell 1 _ _ _ rfl hz
      · cases h1
    · split at h2
      · rename_i z hz
        simp only [decide_eq_true_eq] at h2
        subst h2
        exact cell 1 _ _ _ rfl hz
      · cases h2

theorem dec_pure (s : List UInt8) : Pure Γu Tryz.prog 136 [.str s] (.tup [.int .i32 (Lib.decodeGo ⟨s.toArray⟩).1, .int .i64 (Lib.decodeGo ⟨s.toArray⟩).2]) := by
  refine pure_of_calls h136.ok fun g H w vs hw hv => ?_
  obtain ⟨v, vs', h1, hv1, hv2⟩ := hv
  cases hv1
  cases hv2
  obtain rfl : vs = #[.string ⟨s.toArray⟩] := by apply Array.toList_inj.1; exact h1
  refine Calls.mono (show Calls Tryz.prog (laysDec_ren.f 197) _ w _ from Any.utf8_DecodeRuneInString laysDec ⟨s.toArray⟩ w (tabs hw)) ?_
  rintro e w' ⟨he, hb⟩
  exact ⟨⟨_, he, _, rfl, _, _, rfl, rfl, _, _, rfl, rfl, rfl⟩, hb.block, hb.size, hb.os, hb.output⟩

def sizeV (s : List UInt8) (r : Int) : Int := if r = 65533 then ((Lib.decodeGo ⟨s.toArray⟩).2 : Int) else runeLenV r

theorem size_pure (s : List UInt8) (r : Int) : Pure Γu Tryz.prog 116 [.str s, .int .i32 r] (.int .i64 (sizeV s r)) := by
  refine pure_of flatΓ rfl rfl (acalls_of_aw tok mixed h116 ?_)
  rcases Bool.eq_false_or_eq_true (r == 65533) with e1 | e1 <;> try (exfalso; simp at e1; omega)
  all_goals refine Is.out ?_
  all_goals generalize hQ : fnQ Γu p116 _ = Q
  all_goals simp only [p116, p116_0, p116_1, p116_2, p116_3, p116_4, AFun.start, List.length, List.replicate, List.cons_append, List.nil_append, Nat.reduceSub, Nat.reduceAdd]
  all_goals repeat (first
    | with_reducible apply Is.seq | with_reducible apply Is.region | with_reducible apply Is.block | with_reducible apply Is.fin | with_reducible apply Is.nil
    | (with_reducible refine Is.op (by with_unfolding_all rfl) (by with_unfolding_all rfl) ?_; simp only [Fr.put, List.set, AArg.ev, lget, e1])
    | with_reducible refine Is.condT (by with_unfolding_all rfl) ?_ | with_reducible refine Is.condF (by with_unfolding_all rfl) ?_
    | (with_reducible refine Is.opT (by with_unfolding_all rfl) (by with_unfolding_all rfl) (by with_unfolding_all rfl) ?_; simp only [Fr.put, List.set, AArg.ev, lget, e1])
    | (with_reducible refine Is.opF (by with_unfolding_all rfl) ?_; simp only [Fr.put, List.set, AArg.ev, lget, e1])
    | (with_reducible refine Is.pureE (dec_pure s) (by with_unfolding_all rfl) ?_; simp only [Fr.put, List.set, AArg.ev, lget, e1])
    | (with_reducible refine Is.pureTE (dec_pure s) (by with_unfolding_all rfl) (by with_unfolding_all rfl) ?_; simp only [Fr.put, List.set, AArg.ev, lget, e1])
    | (with_reducible refine Is.pureE (runeLen_pure r) (by with_unfolding_all rfl) ?_; simp only [Fr.put, List.set, AArg.ev, lget, e1])
    | (with_reducible refine Is.pureTE (runeLen_pure r) (by with_unfolding_all rfl) (by with_unfolding_all rfl) ?_; simp only [Fr.put, List.set, AArg.ev, lget, e1])
    | with_reducible apply Is.skip | with_reducible apply Is.skip' | with_reducible apply Is.ret | with_reducible apply Is.exit | with_reducible apply Is.sqN | with_reducible apply Is.sqR | with_reducible apply Is.sqX | with_reducible apply Is.bkN | with_reducible apply Is.bkR | with_reducible apply Is.bkX | with_reducible refine Is.bkY rfl ?_)
  all_goals subst hQ
  all_goals exact ⟨⟨rfl, _, rfl, by simp only [resVal, lget, AArg.ev, sizeV]; simp at e1; simp [e1]⟩⟩

end Go.Aw.C07

/- The runes of a text: the loop. -/
namespace Go.Aw.C07
open Go Go.Aw Go.Proofs

theorem ahead1 (at' r a z : Int) (b : Nat) (H : AHeap) (hb : H.get b = some (.cells [.int .i64 at'])) (hlt : b < H.next) :
    ACalls Γu Tryz.prog 84 [.agg [.int .i32 r, .int .i64 a, .int .i64 z], .ptr b 0] H (Kp H (.bool (IntKind.i64.wrap (a + z) == at'))) := by
  have hne : b ≠ H.next := by omega
  refine acalls_forget (R := fun e H' => e = .ret (.bool (IntKind.i64.wrap (a + z) == at')) ∧ H' = H.new (.cells [.int .i32 r, .int .i64 a, .int .i64 z])) (acalls_of_aw tok mixed h84 ?_) ?_
  · refine Is.out ?_
    generalize hQ : fnQ Γu p84 _ = Q
    simp only [p84, p84_0, p84_1, AFun.start, List.length, List.replicate, List.cons_append, List.nil_append, Nat.reduceSub, Nat.reduceAdd]
    repeat (first
      | with_reducible apply Is.seq | with_reducible apply Is.region | with_reducible apply Is.block | with_reducible apply Is.fin | with_reducible apply Is.nil
      | (with_reducible refine Is.op (by with_unfolding_all rfl) (by with_unfolding_all rfl) ?_; simp only [Fr.put, List.set, AArg.ev, lget])
      | (with_reducible refine Is.op (by with_unfolding_all (simp only [astep, AArg.ev, lget, rdc, AHeap.get_new, hb, if_neg hne, if_true]; rfl)) (by with_unfolding_all rfl) ?_; simp only [Fr.put, List.set, AArg.ev, lget])
      | with_reducible apply Is.ret | with_reducible apply Is.sqR | with_reducible apply Is.bkR)
    subst hQ
    exact ⟨⟨rfl, _, rfl, rfl, rfl⟩⟩
  · rintro e H' ⟨rfl, rfl⟩
    exact ⟨rfl, by rw [AHeap.new_next]; omega, fun b o h1 h2 => by rw [AHeap.get_new_lt _ _ h1]; exact h2⟩

theorem at1 (at' r a z : Int) (b : Nat) (H : AHeap) (hb : H.get b = some (.cells [.int .i64 at'])) (hlt : b < H.next) :
    ACalls Γu Tryz.prog 96 [.agg [.int .i32 r, .int .i64 a, .int .i64 z], .ptr b 0] H (Kp H (.bool (a == at'))) := by
  have hne : b ≠ H.next := by omega
  refine acalls_forget (R := fun e H' => e = .ret (.bool (a == at')) ∧ H' = H.new (.cells [.int .i32 r, .int .i64 a, .int .i64 z])) (acalls_of_aw tok mixed h96 ?_) ?_
  · refine Is.out ?_
    generalize hQ : fnQ Γu p96 _ = Q
    simp only [p96, p96_0, p96_1, AFun.start, List.length, List.replicate, List.cons_append, List.nil_append, Nat.reduceSub, Nat.reduceAdd]
    repeat (first
      | with_reducible apply Is.seq | with_reducible apply Is.region | with_reducible apply Is.block | with_reducible apply Is.fin | with_reducible apply Is.nil
      | (with_reducible refine Is.op (by with_unfolding_all rfl) (by with_unfolding_all rfl) ?_; simp only [Fr.put, List.set, AArg.ev, lget])
      | (with_reducible refine Is.op (by with_unfolding_all (simp only [astep, AArg.ev, lget, rdc, AHeap.get_new, hb, if_neg hne, if_true]; rfl)) (by with_unfolding_all rfl) ?_; simp only [Fr.put, List.set, AArg.ev, lget])
      | with_reducible apply Is.ret | with_reducible apply Is.sqR | with_reducible apply Is.bkR)
    subst hQ
    exact ⟨⟨rfl, _, rfl, rfl, rfl⟩⟩
  · rintro e H' ⟨rfl, rfl⟩
    exact ⟨rfl, by rw [AHeap.new_next]; omega, fun b o h1 h2 => by rw [AHeap.get_new_lt _ _ h1]; exact h2⟩

/-- The first rune that is so, from a place on, by at most so many. -/
def scan (s : List UInt8) (pred : Int → Int → Int → Bool) : Nat → Nat → Option (Int × Int × Int)
  | 0, _ => none
  | f + 1, pos => if pos < s.length then
      (if pred (Utf8.decode ⟨s.toArray⟩ pos).1 pos (sizeV (s.drop pos) (Utf8.decode ⟨s.toArray⟩ pos).1) then some (((Utf8.decode ⟨s.toArray⟩ pos).1 : Int), (pos : Int), sizeV (s.drop pos) (Utf8.decode ⟨s.toArray⟩ pos).1)
        else scan s pred f (pos + (Utf8.decode ⟨s.toArray⟩ pos).2))
    else none

theorem scan_lt {s : List UInt8} {pred : Int → Int → Int → Bool} {f pos : Nat} (h : pos < s.length) : scan s pred (f + 1) pos =
    if pred (Utf8.decode ⟨s.toArray⟩ pos).1 pos (sizeV (s.drop pos) (Utf8.decode ⟨s.toArray⟩ pos).1) then some (((Utf8.decode ⟨s.toArray⟩ pos).1 : Int), (pos : Int), sizeV (s.drop pos) (Utf8.decode ⟨s.toArray⟩ pos).1)
    else scan s pred f (pos + (Utf8.decode ⟨s.toArray⟩ pos).2) := by
  rw [scan, if_pos h]

theorem scan_ge {s : List UInt8} {pred : Int → Int → Int → Bool} {f pos : Nat} (h : ¬ pos < s.length) : scan s pred (f + 1) pos = none := by
  rw [scan, if_neg h]

def foundV : Option (Int × Int × Int) → AVal
  | some (r, a, z) => .tup [.agg [.int .i32 r, .int .i64 a, .int .i64 z], .bool true]
  | none => .tup [.agg [.int .i32 0, .int .i64 0, .int .i64 0], .bool false]

theorem aslice_from (s : List UInt8) (pos : Nat) (h : pos ≤ s.length) : aslice (.str s) (some (.int .i64 pos)) none = some (.str (s.drop pos)) := by
  have : abounds (some (.int .i64 pos)) none s.length s.length = some (pos, s.length) := by
    have h2 : (0 : Int) ≤ pos ∧ (pos : Int) ≤ s.length := ⟨by omega, by omega⟩
    simp only [abounds, abHi, abLo, asInt64, Option.bind_some, if_pos h2, Option.map_some, Int.toNat_natCast]
  simp only [aslice, this, Option.map_some]
  rw [List.take_of_length_le (by simp)]

theorem decode_wide (s : ByteArray) (i : Nat) : 1 ≤ (Utf8.decode s i).2 := by
  rw [Lib.decode_at]
  unfold Lib.decodeN
  repeat' split
  all_goals simp

theorem find_calls (s : List UInt8) (at' : Int) (f b : Nat) (pred : Int → Int → Int → Bool) (H : AHeap) (hb : H.get b = some (.cells [.int .i64 at'])) (hlt : b < H.next)
    (hcl : ∀ r a z H1, H1.get b = some (.cells [.int .i64 at']) → b < H1.next → ACalls Γu Tryz.prog f [.agg [.int .i32 r, .int .i64 a, .int .i64 z], .ptr b 0] H1 (Kp H1 (.bool (pred r a z)))) :
    ACalls Γu Tryz.prog 83 [.str s, .fn f [.ptr b 0]] H (Kp H (foundV (scan s pred (s.length + 1) 0))) := by
  refine acalls_forget (R := fun e H' => e = .ret (foundV (scan s pred (s.length + 1) 0)) ∧ H.next ≤ H'.next ∧ ∀ b o, b < H.next → H.get b = some o → H'.get b = some o) (acalls_of_aw tok mixed h83 ?_) (fun e H' h => h)
  refine Is.out ?_
  generalize hQ : fnQ Γu p83 _ = Q
  simp only [p83, p83_0, p83_1, AFun.start, List.length, List.replicate, List.cons_append, List.nil_append, Nat.reduceSub, Nat.reduceAdd]
  repeat (first
      | with_reducible apply Is.seq | with_reducible apply Is.region | with_reducible apply Is.block | with_reducible apply Is.fin | with_reducible apply Is.nil
      | (with_reducible refine Is.op (by with_unfolding_all rfl) (by with_unfolding_all rfl) ?_; simp only [Fr.put, List.set, AArg.ev, lget]))
  obtain ⟨n0, hn0⟩ : ∃ n0, H.next = n0 := ⟨_, rfl⟩
  simp only [AHeap.new_next, hn0] at hlt hQ ⊢
  refine Is.loop (fun k fr H1 => ∃ pos fuel x2 x3 x6 x7 x8 x11 x12 x13 x14 x15 x16 x17 x18 x19 x20 x21 x22 x23 x24 x25 x26 x27,
    fr = ⟨[.str s, .fn f [.ptr b 0], x2, x3, .ptr n0 0, .bool false, x6, x7, x8, .str s, .ptr (n0 + 1) 0, x11, x12, x13, x14, x15, x16, x17, x18, x19, x20, x21, x22, x23, x24, x25, x26, x27], []⟩ ∧
    H1.get n0 = some (.cells [.int .i32 0, .int .i64 0, .int .i64 0]) ∧ H1.get (n0 + 1) = some (.siter s pos) ∧ (∀ b' o, b' < n0 → H.get b' = some o → H1.get b' = some o) ∧ n0 + 2 ≤ H1.next ∧
    k = s.length - pos + 1 ∧ s.length - pos < fuel ∧ scan s pred (s.length + 1) 0 = scan s pred fuel pos) (s.length - 0 + 1) ?_ ?_
  · refine ⟨0, s.length + 1, _, _, _, _, _, _, _, _, _, _, _, _, _, _, _, _, _, _, _, _, _, _, rfl, ?_, ?_, ?_, ?_, rfl, by omega, rfl⟩
    · rw [AHeap.get_new_lt _ _ (by rw [AHeap.new_next]; omega), AHeap.get_new, if_pos hn0.symm]
    · rw [AHeap.get_new, if_pos (by rw [AHeap.new_next]; omega)]
    · intro b' o h1 h2
      rw [AHeap.get_new_lt _ _ (by rw [AHeap.new_next]; omega), AHeap.get_new_lt _ _ (by omega)]
      exact h2
    · rw [AHeap.new_next, AHeap.new_next]; omega
  rintro k fr H1 ⟨pos, fuel, x2, x3, x6, x7, x8, x11, x12, x13, x14, x15, x16, x17, x18, x19, x20, x21, x22, x23, x24, x25, x26, x27, rfl, hF, hI, hK, hN, rfl, hfu, hsc⟩
  have hbb := hK b _ hlt hb
  with_reducible apply Is.seq
  with_reducible apply Is.region
  simp only [p83_2]
  by_cases hp : pos < s.length
  · -- there is a rune
    obtain ⟨fuel, rfl⟩ : ∃ f', fuel = f' + 1 := ⟨fuel - 1, by omega⟩
    obtain ⟨rr, hrr⟩ : ∃ rr, (Utf8.decode ⟨s.toArray⟩ pos).1 = rr := ⟨_, rfl⟩
    obtain ⟨w, hw⟩ : ∃ w, (Utf8.decode ⟨s.toArray⟩ pos).2 = w := ⟨_, rfl⟩
    have hw1 : 1 ≤ w := by rw [← hw]; exact decode_wide _ _
    rw [scan_lt hp, hrr, hw] at hsc
    have hblt : Nat.blt pos s.length = true := Nat.blt_eq.mpr hp
    have hnxt : ∀ t, lget t 10 = .ptr (n0 + 1) 0 → astep Γu t H1 (.nxt (.t 10)) = some (.tup [.bool true, .int .i64 pos, .int .i32 rr], H1.put (n0 + 1) (.siter s (pos + w))) := by
      intro t ht
      simp only [astep, AArg.ev, ht, hI, hblt, cond_true, hrr, hw]
      rfl
    refine Is.op (hnxt _ rfl) rfl ?_
    simp only [Fr.put, List.set, AArg.ev, lget]
    obtain ⟨H2, hH2⟩ : ∃ H2, H1.put (n0 + 1) (.siter s (pos + w)) = H2 := ⟨_, rfl⟩
    have g2F : H2.get n0 = some (.cells [.int .i32 0, .int .i64 0, .int .i64 0]) := by rw [← hH2, AHeap.get_put, if_neg (by omega)]; exact hF
    have g2I : H2.get (n0 + 1) = some (.siter s (pos + w)) := by rw [← hH2, AHeap.get_put, if_pos rfl]
    have g2K : ∀ b' o, b' < n0 → H.get b' = some o → H2.get b' = some o := fun b' o h1 h2 => by rw [← hH2, AHeap.get_put, if_neg (by omega)]; exact hK b' o h1 h2
    have g2N : H2.next = H1.next := by rw [← hH2]; exact AHeap.put_next _ _ _
    rw [hH2]
    repeat (first
      | with_reducible apply Is.seq | with_reducible apply Is.region | with_reducible apply Is.block | with_reducible apply Is.fin | with_reducible apply Is.nil
      | (with_reducible refine Is.op (by with_unfolding_all rfl) (by with_unfolding_all rfl) ?_; simp only [Fr.put, List.set, AArg.ev, lget])
      | with_reducible refine Is.condT (by with_unfolding_all rfl) ?_
      | with_reducible apply Is.skip
      | simp only [p83_3] | simp only [p83_4])
    refine Is.op (v := .str (s.drop pos)) (H' := H2) (by simp only [astep, AArg.ev, lget, isStr, cond_true, Option.map_some, Option.map_none]; rw [aslice_from s pos (by omega)]; rfl) rfl ?_
    simp only [Fr.put, List.set, AArg.ev, lget]
    refine Is.op rfl rfl ?_
    simp only [Fr.put, List.set, AArg.ev, lget]
    refine Is.pureE (size_pure (s.drop pos) rr) rfl ?_
    simp only [Fr.put, List.set, AArg.ev, lget]
    obtain ⟨z, hz⟩ : ∃ z, sizeV (s.drop pos) rr = z := ⟨_, rfl⟩
    rw [hz] at hsc ⊢
    refine Is.op (v := .agg [.int .i32 rr, .int .i64 pos, .int .i64 z]) (H' := H2) rfl rfl ?_
    simp only [Fr.put, List.set, AArg.ev, lget]
    refine Is.op rfl rfl ?_
    simp only [Fr.put, List.set, AArg.ev, lget]
    obtain ⟨H3, hH3⟩ : ∃ H3, H2.new (.cells [.int .i32 0, .int .i64 0, .int .i64 0]) = H3 := ⟨_, rfl⟩
    have g3N : H3.next = H1.next + 1 := by rw [← hH3, AHeap.new_next, g2N]
    have g3F : H3.get n0 = some (.cells [.int .i32 0, .int .i64 0, .int .i64 0]) := by rw [← hH3, AHeap.get_new_lt _ _ (by omega)]; exact g2F
    have g3I : H3.get (n0 + 1) = some (.siter s (pos + w)) := by rw [← hH3, AHeap.get_new_lt _ _ (by omega)]; exact g2I
    have g3K : ∀ b' o, b' < n0 → H.get b' = some o → H3.get b' = some o := fun b' o h1 h2 => by rw [← hH3, AHeap.get_new_lt _ _ (by omega)]; exact g2K b' o h1 h2
    have g3X : H3.get H1.next = some (.cells [.int .i32 0, .int .i64 0, .int .i64 0]) := by rw [← hH3, AHeap.get_new, if_pos g2N.symm]
    rw [hH3, g2N]
    refine Is.op (v := .tup []) (H' := H3.put H1.next (.cells [.int .i32 rr, .int .i64 pos, .int .i64 z])) (by
      simp only [astep, AArg.ev, lget, acells]
      rw [wrc3 g3X]
      rfl) rfl ?_
    simp only [Fr.put, List.set, AArg.ev, lget]
    obtain ⟨H4, hH4⟩ : ∃ H4, H3.put H1.next (.cells [.int .i32 rr, .int .i64 pos, .int .i64 z]) = H4 := ⟨_, rfl⟩
    have g4N : H4.next = H1.next + 1 := by rw [← hH4, AHeap.put_next, g3N]
    have g4F : H4.get n0 = some (.cells [.int .i32 0, .int .i64 0, .int .i64 0]) := by rw [← hH4, AHeap.get_put, if_neg (by omega)]; exact g3F
    have g4I : H4.get (n0 + 1) = some (.siter s (pos + w)) := by rw [← hH4, AHeap.get_put, if_neg (by omega)]; exact g3I
    have g4K : ∀ b' o, b' < n0 → H.get b' = some o → H4.get b' = some o := fun b' o h1 h2 => by rw [← hH4, AHeap.get_put, if_neg (by omega)]; exact g3K b' o h1 h2
    have g4X : H4.get H1.next = some (.cells [.int .i32 rr, .int .i64 pos, .int .i64 z]) := by rw [← hH4, AHeap.get_put, if_pos rfl]
    rw [hH4]
    with_reducible apply Is.fin
    with_reducible apply Is.seq
    with_reducible apply Is.region
    simp only [p83_5]
    refine Is.op rfl rfl ?_
    simp only [Fr.put, List.set, AArg.ev, lget]
    refine Is.op (v := .agg [.int .i32 rr, .int .i64 pos, .int .i64 z]) (H' := H4) (by simp only [astep, AArg.ev, lget]; rw [rdc3 g4X]; rfl) rfl ?_
    simp only [Fr.put, List.set, AArg.ev, lget]
    refine Is.kpv rfl (hcl rr pos z H4 (g4K b _ hlt hb) (by omega)) fun n hn => ?_
    simp only [Fr.put, List.set, AArg.ev, lget]
    with_reducible apply Is.fin
    cases hpr : pred rr pos z with
    | true =>
      rw [hpr, if_pos rfl] at hsc
      with_reducible refine Is.condT (by with_unfolding_all rfl) ?_
      with_reducible apply Is.seq
      with_reducible apply Is.region
      simp only [p83_6]
      refine Is.op (v := .agg [.int .i32 rr, .int .i64 pos, .int .i64 z]) (H' := H4.at n) (by simp only [astep, AArg.ev, lget]; rw [rdc3 (by rw [AHeap.at_get]; exact g4X)]; rfl) rfl ?_
      simp only [Fr.put, List.set, AArg.ev, lget]
      refine Is.op (v := .tup []) (H' := (H4.at n).put n0 (.cells [.int .i32 rr, .int .i64 pos, .int .i64 z])) (by
        simp only [astep, AArg.ev, lget, acells]
        rw [wrc3 (by rw [AHeap.at_get]; exact g4F)]
        rfl) rfl ?_
      simp only [Fr.put, List.set, AArg.ev, lget]
      refine Is.op rfl rfl ?_
      simp only [Fr.put, List.set, AArg.ev, lget]
      repeat (first | with_reducible apply Is.fin | with_reducible apply Is.ret | with_reducible apply Is.sqR | with_reducible apply Is.bkR)
      subst hQ
      refine ⟨⟨rfl, [.agg [.int .i32 rr, .int .i64 pos, .int .i64 z], .bool true], ?_, ?_⟩⟩
      · simp only [p83, evRess, astep, AArg.ev, lget]
        rw [rdc3 (p := .int .i32 rr) (q := .int .i64 pos) (r := .int .i64 z) (by rw [AHeap.get_put, if_pos rfl])]
        rfl
      · rw [hsc]
        refine ⟨rfl, by rw [AHeap.put_next, AHeap.at_next]; omega, fun b' o h1 h2 => ?_⟩
        rw [AHeap.get_put, if_neg (by omega), AHeap.at_get]
        exact g4K b' o h1 h2
    | false =>
      rw [hpr, if_neg (by simp)] at hsc
      with_reducible refine Is.condF (by with_unfolding_all rfl) ?_
      repeat (first | with_reducible apply Is.skip' | with_reducible apply Is.sqN | with_reducible apply Is.bkN)
      refine ⟨_, ?_, pos + w, fuel, _, _, _, _, _, _, _, _, _, _, _, _, _, _, _, _, _, _, _, _, _, _, rfl, ?_, ?_, ?_, ?_, rfl, by omega, hsc⟩
      · omega
      · rw [AHeap.at_get]; exact g4F
      · rw [AHeap.at_get]; exact g4I
      · intro b' o h1 h2; rw [AHeap.at_get]; exact g4K b' o h1 h2
      · rw [AHeap.at_next]; omega
  · -- there is none
    obtain ⟨fuel, rfl⟩ : ∃ f', fuel = f' + 1 := ⟨fuel - 1, by omega⟩
    rw [scan_ge hp] at hsc
    have hblt : Nat.blt pos s.length = false := by
      cases hc : Nat.blt pos s.length with
      | false => rfl
      | true => exact absurd (Nat.blt_eq.mp hc) hp
    have hnxt : ∀ t, lget t 10 = .ptr (n0 + 1) 0 → astep Γu t H1 (.nxt (.t 10)) = some (.tup [.bool false], H1) := by
      intro t ht
      simp only [astep, AArg.ev, ht, hI, hblt, cond_false]
    refine Is.op (hnxt _ rfl) rfl ?_
    simp only [Fr.put, List.set, AArg.ev, lget]
    refine Is.op rfl rfl ?_
    simp only [Fr.put, List.set, AArg.ev, lget]
    with_reducible apply Is.fin
    with_reducible apply Is.seq
    with_reducible refine Is.condF (by with_unfolding_all rfl) ?_
    repeat (first | with_reducible apply Is.exit | with_reducible apply Is.sqX | with_reducible apply Is.bkX | with_reducible apply Is.sqN | with_reducible apply Is.seq | with_reducible apply Is.region)
    simp only [p83_7]
    refine Is.op (v := .agg [.int .i32 0, .int .i64 0, .int .i64 0]) (H' := H1) rfl rfl ?_
    simp only [Fr.put, List.set, AArg.ev, lget]
    refine Is.op (v := .tup []) (H' := H1.put n0 (.cells [.int .i32 0, .int .i64 0, .int .i64 0])) (by
      simp only [astep, AArg.ev, lget, acells]
      rw [wrc3 hF]
      rfl) rfl ?_
    simp only [Fr.put, List.set, AArg.ev, lget]
    refine Is.op rfl rfl ?_
    simp only [Fr.put, List.set, AArg.ev, lget]
    repeat (first | with_reducible apply Is.fin | with_reducible apply Is.ret | with_reducible apply Is.sqR | with_reducible apply Is.bkR)
    subst hQ
    refine ⟨⟨rfl, [.agg [.int .i32 0, .int .i64 0, .int .i64 0], .bool false], ?_, ?_⟩⟩
    · simp only [p83, evRess, astep, AArg.ev, lget]
      rw [rdc3 (p := .int .i32 0) (q := .int .i64 0) (r := .int .i64 0) (by rw [AHeap.get_put, if_pos rfl])]
      rfl
    · rw [hsc]
      refine ⟨rfl, by rw [AHeap.put_next]; omega, fun b' o h1 h2 => ?_⟩
      rw [AHeap.get_put, if_neg (by omega)]
      exact hK b' o h1 h2

end Go.Aw.C07

/- The runes of a text: what stands ahead, and at a place; places; edges; what holds. -/
namespace Go.Aw.C07
open Go Go.Aw Go.Proofs

def aheadV (s : List UInt8) (at' : Int) : Option (Int × Int × Int) := scan s (fun _ a z => IntKind.i64.wrap (a + z) == at') (s.length + 1) 0
def atV (s : List UInt8) (at' : Int) : Option (Int × Int × Int) := scan s (fun _ a _ => a == at') (s.length + 1) 0

theorem foundV_flat (x : Option (Int × Int × Int)) : flatW (foundV x) = true := by
  rcases x with _ | ⟨r, a, z⟩ <;> rfl

theorem ahead_pure (s : List UInt8) (at' : Int) : Pure Γu Tryz.prog 53 [.str s, .int .i64 at'] (foundV (aheadV s at')) := by
  refine pure_of flatΓ rfl (foundV_flat _) (acalls_of_aw tok mixed h53 ?_)
  refine Is.out ?_
  generalize hQ : fnQ Γu p53 _ = Q
  simp only [p53, p53_0, p53_1, AFun.start, List.length, List.replicate, List.cons_append, List.nil_append, Nat.reduceSub, Nat.reduceAdd]
  repeat (first
    | with_reducible apply Is.seq | with_reducible apply Is.region | with_reducible apply Is.fin
    | (with_reducible refine Is.op (by with_unfolding_all rfl) (by with_unfolding_all rfl) ?_; simp only [Fr.put, List.set, AArg.ev, lget]))
  have hf := find_calls s at' 84 0 _ ((AHeap.empty.new (.cells [.int .i64 at'])).new (.cells [.int .i32 0, .int .i64 0, .int .i64 0])) (by rfl) (show 0 < 2 by omega) (fun r a z H1 h1 h2 => ahead1 at' r a z 0 H1 h1 h2)
  refine Is.kp (v := foundV (aheadV s at')) hf fun n hn => ?_
  clear hf hn
  rcases hq : aheadV s at' with _ | ⟨r, a, z⟩
  all_goals simp only [Fr.put, List.set, AArg.ev, lget, foundV]
  all_goals repeat (first
    | with_reducible apply Is.seq | with_reducible apply Is.region | with_reducible apply Is.fin | with_reducible apply Is.ret | with_reducible apply Is.sqR
    | (with_reducible refine Is.op (by with_unfolding_all rfl) (by with_unfolding_all rfl) ?_; simp only [Fr.put, List.set, AArg.ev, lget]))
  all_goals subst hQ
  all_goals exact ⟨⟨rfl, _, rfl, by rw [hq]; rfl⟩⟩

theorem at_pure (s : List UInt8) (at' : Int) : Pure Γu Tryz.prog 66 [.str s, .int .i64 at'] (foundV (atV s at')) := by
  refine pure_of flatΓ rfl (foundV_flat _) (acalls_of_aw tok mixed h66 ?_)
  refine Is.out ?_
  generalize hQ : fnQ Γu p66 _ = Q
  simp only [p66, p66_0, p66_1, AFun.start, List.length, List.replicate, List.cons_append, List.nil_append, Nat.reduceSub, Nat.reduceAdd]
  repeat (first
    | with_reducible apply Is.seq | with_reducible apply Is.region | with_reducible apply Is.fin
    | (with_reducible refine Is.op (by with_unfolding_all rfl) (by with_unfolding_all rfl) ?_; simp only [Fr.put, List.set, AArg.ev, lget]))
  have hf := find_calls s at' 96 0 _ ((AHeap.empty.new (.cells [.int .i64 at'])).new (.cells [.int .i32 0, .int .i64 0, .int .i64 0])) (by rfl) (show 0 < 2 by omega) (fun r a z H1 h1 h2 => at1 at' r a z 0 H1 h1 h2)
  refine Is.kp (v := foundV (atV s at')) hf fun n hn => ?_
  clear hf hn
  rcases hq : atV s at' with _ | ⟨r, a, z⟩
  all_goals simp only [Fr.put, List.set, AArg.ev, lget, foundV]
  all_goals repeat (first
    | with_reducible apply Is.seq | with_reducible apply Is.region | with_reducible apply Is.fin | with_reducible apply Is.ret | with_reducible apply Is.sqR
    | (with_reducible refine Is.op (by with_unfolding_all rfl) (by with_unfolding_all rfl) ?_; simp only [Fr.put, List.set, AArg.ev, lget]))
  all_goals subst hQ
  all_goals exact ⟨⟨rfl, _, rfl, by rw [hq]; rfl⟩⟩

def placeV (s : List UInt8) (at' : Int) : Bool := (aheadV s at').isSome || at' == 0
def runeWord (x : Option (Int × Int × Int)) : Bool := match x with
  | some (r, _, _) => wordV r
  | none => false
def edgeV (s : List UInt8) (at' : Int) : Bool := runeWord (aheadV s at') != runeWord (atV s at')
def holdsV (kind : Int) (s : List UInt8) (at' : Int) : Bool :=
  placeV s at' && (if kind = 2 then at' == 0 else if kind = 3 then at' == s.length else if kind = 4 then edgeV s at' else if kind = 5 then !edgeV s at' else false)

theorem place_pure (s : List UInt8) (at' : Int) : Pure Γu Tryz.prog 31 [.str s, .int .i64 at'] (.bool (placeV s at')) := by
  have hA := ahead_pure s at'
  unfold placeV
  rcases hq : aheadV s at' with _ | ⟨r, a, z⟩
  all_goals rw [hq] at hA
  all_goals simp only [foundV] at hA
  all_goals refine pure_of flatΓ rfl rfl (acalls_of_aw tok mixed h31 ?_)
  all_goals refine Is.out ?_
  all_goals generalize hQ : fnQ Γu p31 _ = Q
  all_goals simp only [p31, p31_0, p31_1, p31_2, AFun.start, List.length, List.replicate, List.cons_append, List.nil_append, Nat.reduceSub, Nat.reduceAdd]
  all_goals repeat (first
    | with_reducible apply Is.seq | with_reducible apply Is.region | with_reducible apply Is.block | with_reducible apply Is.fin | with_reducible apply Is.nil
    | (with_reducible refine Is.op (by with_unfolding_all rfl) (by with_unfolding_all rfl) ?_; simp only [Fr.put, List.set, AArg.ev, lget])
    | with_reducible refine Is.condT (by with_unfolding_all rfl) ?_ | with_reducible refine Is.condF (by with_unfolding_all rfl) ?_
    | (with_reducible refine Is.opT (by with_unfolding_all rfl) (by with_unfolding_all rfl) (by with_unfolding_all rfl) ?_; simp only [Fr.put, List.set, AArg.ev, lget])
    | (with_reducible refine Is.opF (by with_unfolding_all rfl) ?_; simp only [Fr.put, List.set, AArg.ev, lget])
    | (with_reducible refine Is.pureE (hA) (by with_unfolding_all rfl) ?_; simp only [Fr.put, List.set, AArg.ev, lget])
    | (with_reducible refine Is.pureTE (hA) (by with_unfolding_all rfl) (by with_unfolding_all rfl) ?_; simp only [Fr.put, List.set, AArg.ev, lget])
    | with_reducible apply Is.skip | with_reducible apply Is.skip' | with_reducible apply Is.ret | with_reducible apply Is.exit | with_reducible apply Is.sqN | with_reducible apply Is.sqR | with_reducible apply Is.sqX | with_reducible apply Is.bkN | with_reducible apply Is.bkR | with_reducible apply Is.bkX | with_reducible refine Is.bkY rfl ?_)
  all_goals subst hQ
  all_goals exact ⟨⟨rfl, _, rfl, by simp [resVal, lget, AArg.ev]⟩⟩

theorem edge_pure (s : List UInt8) (at' : Int) : Pure Γu Tryz.prog 45 [.str s, .int .i64 at'] (.bool (edgeV s at')) := by
  have hA := ahead_pure s at'
  have hB := at_pure s at'
  unfold edgeV
  rcases hq : aheadV s at' with _ | ⟨r, a, z⟩ <;> rcases hq2 : atV s at' with _ | ⟨r2, a2, z2⟩
  all_goals rw [hq] at hA
  all_goals rw [hq2] at hB
  all_goals simp only [foundV] at hA hB
  all_goals refine pure_of flatΓ rfl rfl (acalls_of_aw tok mixed h45 ?_)
  all_goals refine Is.out ?_
  all_goals generalize hQ : fnQ Γu p45 _ = Q
  all_goals simp only [p45, p45_0, p45_1, p45_2, p45_3, AFun.start, List.length, List.replicate, List.cons_append, List.nil_append, Nat.reduceSub, Nat.reduceAdd]
  all_goals repeat (first
    | with_reducible apply Is.seq | with_reducible apply Is.region | with_reducible apply Is.block | with_reducible apply Is.fin | with_reducible apply Is.nil
    | (with_reducible refine Is.op (by with_unfolding_all rfl) (by with_unfolding_all rfl) ?_; simp only [Fr.put, List.set, AArg.ev, lget])
    | with_reducible refine Is.condT (by with_unfolding_all rfl) ?_ | with_reducible refine Is.condF (by with_unfolding_all rfl) ?_
    | (with_reducible refine Is.opT (by with_unfolding_all rfl) (by with_unfolding_all rfl) (by with_unfolding_all rfl) ?_; simp only [Fr.put, List.set, AArg.ev, lget])
    | (with_reducible refine Is.opF (by with_unfolding_all rfl) ?_; simp only [Fr.put, List.set, AArg.ev, lget])
    | (with_reducible refine Is.pureE (hA) (by with_unfolding_all rfl) ?_; simp only [Fr.put, List.set, AArg.ev, lget])
    | (with_reducible refine Is.pureTE (hA) (by with_unfolding_all rfl) (by with_unfolding_all rfl) ?_; simp only [Fr.put, List.set, AArg.ev, lget])
    | (with_reducible refine Is.pureE (hB) (by with_unfolding_all rfl) ?_; simp only [Fr.put, List.set, AArg.ev, lget])
    | (with_reducible refine Is.pureTE (hB) (by with_unfolding_all rfl) (by with_unfolding_all rfl) ?_; simp only [Fr.put, List.set, AArg.ev, lget])
    | (with_reducible refine Is.pureE (word_pure _) (by with_unfolding_all rfl) ?_; simp only [Fr.put, List.set, AArg.ev, lget])
    | (with_reducible refine Is.pureTE (word_pure _) (by with_unfolding_all rfl) (by with_unfolding_all rfl) ?_; simp only [Fr.put, List.set, AArg.ev, lget])
    | with_reducible apply Is.skip | with_reducible apply Is.skip' | with_reducible apply Is.ret | with_reducible apply Is.exit | with_reducible apply Is.sqN | with_reducible apply Is.sqR | with_reducible apply Is.sqX | with_reducible apply Is.bkN | with_reducible apply Is.bkR | with_reducible apply Is.bkX | with_reducible refine Is.bkY rfl ?_)
  all_goals subst hQ
  all_goals exact ⟨⟨rfl, _, rfl, by first | rfl | simp [resVal, lget, AArg.ev, runeWord]⟩⟩

theorem holds_pure (kind : Int) (s : List UInt8) (at' : Int) : Pure Γu Tryz.prog 21 [.int .i64 kind, .str s, .int .i64 at'] (.bool (holdsV kind s at')) := by
  have hP := place_pure s at'
  have hE := edge_pure s at'
  unfold holdsV
  rcases Bool.eq_false_or_eq_true (placeV s at') with e0 | e0
  all_goals rw [e0] at hP
  all_goals rcases Bool.eq_false_or_eq_true (kind == 2) with e1 | e1 <;> rcases Bool.eq_false_or_eq_true (kind == 3) with e2 | e2 <;> try (exfalso; simp at e1 e2; omega)
  all_goals rcases Bool.eq_false_or_eq_true (kind == 4) with e3 | e3 <;> try (exfalso; simp at e1 e2 e3; omega)
  all_goals rcases Bool.eq_false_or_eq_true (kind == 5) with e4 | e4 <;> try (exfalso; simp at e1 e2 e3 e4; omega)
  all_goals refine pure_of flatΓ rfl rfl (acalls_of_aw tok mixed h21 ?_)
  all_goals refine Is.out ?_
  all_goals generalize hQ : fnQ Γu p21 _ = Q
  all_goals simp only [p21, p21_0, p21_1, p21_2, p21_3, p21_4, p21_5, p21_6, p21_7, p21_8, p21_9, p21_10, p21_11, AFun.start, List.length, List.replicate, List.cons_append, List.nil_append, Nat.reduceSub, Nat.reduceAdd]
  all_goals repeat (first
    | with_reducible apply Is.seq | with_reducible apply Is.region | with_reducible apply Is.block | with_reducible apply Is.fin | with_reducible apply Is.nil
    | (with_reducible refine Is.op (by with_unfolding_all rfl) (by with_unfolding_all rfl) ?_; simp only [Fr.put, List.set, AArg.ev, lget, e1, e2, e3, e4])
    | with_reducible refine Is.condT (by with_unfolding_all rfl) ?_ | with_reducible refine Is.condF (by with_unfolding_all rfl) ?_
    | (with_reducible refine Is.opT (by with_unfolding_all rfl) (by with_unfolding_all rfl) (by with_unfolding_all rfl) ?_; simp only [Fr.put, List.set, AArg.ev, lget, e1, e2, e3, e4])
    | (with_reducible refine Is.opF (by with_unfolding_all rfl) ?_; simp only [Fr.put, List.set, AArg.ev, lget, e1, e2, e3, e4])
    | (with_reducible refine Is.pureE (hP) (by with_unfolding_all rfl) ?_; simp only [Fr.put, List.set, AArg.ev, lget, e1, e2, e3, e4])
    | (with_reducible refine Is.pureTE (hP) (by with_unfolding_all rfl) (by with_unfolding_all rfl) ?_; simp only [Fr.put, List.set, AArg.ev, lget, e1, e2, e3, e4])
    | (with_reducible refine Is.pureE (hE) (by with_unfolding_all rfl) ?_; simp only [Fr.put, List.set, AArg.ev, lget, e1, e2, e3, e4])
    | (with_reducible refine Is.pureTE (hE) (by with_unfolding_all rfl) (by with_unfolding_all rfl) ?_; simp only [Fr.put, List.set, AArg.ev, lget, e1, e2, e3, e4])
    | with_reducible apply Is.skip | with_reducible apply Is.skip' | with_reducible apply Is.ret | with_reducible apply Is.exit | with_reducible apply Is.sqN | with_reducible apply Is.sqR | with_reducible apply Is.sqX | with_reducible apply Is.bkN | with_reducible apply Is.bkR | with_reducible apply Is.bkX | with_reducible refine Is.bkY rfl ?_)
  all_goals subst hQ
  all_goals exact ⟨⟨rfl, _, rfl, by simp [resVal, lget, AArg.ev, e0] <;> simp at e1 e2 e3 e4 <;> simp [e1, e2, e3, e4]⟩⟩

end Go.Aw.C07

/- A text of few runes, made of bytes. -/
namespace Go.Aw.C07
open Go Go.Aw Go.Proofs

def chunk (z : Int) : List UInt8 :=
  if z.tmod 8 = 0 then [97] else if z.tmod 8 = 1 then [98] else if z.tmod 8 = 2 then [99] else if z.tmod 8 = 3 then [97] else if z.tmod 8 = 4 then [98] else if z.tmod 8 = 5 then [32] else if z.tmod 8 = 6 then [195, 169] else [255]

def textV (l : List Int) : List UInt8 := l.flatMap chunk

theorem chunk_len (z : Int) : (chunk z).length ≤ 2 := by
  unfold chunk
  repeat' split
  all_goals simp

theorem textV_len : ∀ l : List Int, (textV l).length ≤ 2 * l.length
  | [] => by simp [textV]
  | z :: l => by
    have h1 := chunk_len z
    have h2 := textV_len l
    simp only [textV, List.flatMap_cons, List.length_append, List.length_cons] at h2 ⊢
    omega

theorem textV_snoc (l : List Int) (z : Int) : textV (l ++ [z]) = textV l ++ chunk z := by simp [textV]

def bytesV (l : List Int) : List AVal := l.map fun z => .int .u8 z

theorem text_calls (l : List Int) (hl : ∀ z ∈ l, 0 ≤ z ∧ z ≤ 255) (most : Nat) (hm : most ≤ 100) (H : AHeap) :
    ACalls Γu Tryz.prog 14 [.rs (bytesV l) 1 l.length, .int .i64 most] H (Kp H (.str (textV (l.take most)))) := by
  refine acalls_forget (R := fun e H' => e = .ret (.str (textV (l.take most))) ∧ H.next ≤ H'.next ∧ ∀ b o, b < H.next → H.get b = some o → H'.get b = some o) (acalls_of_aw tok mixed h14 ?_) (fun e H' h => h)
  refine Is.out ?_
  generalize hQ : fnQ Γu p14 _ = Q
  simp only [p14, p14_0, p14_1, p14_2, AFun.start, List.length, List.replicate, List.cons_append, List.nil_append, Nat.reduceSub, Nat.reduceAdd]
  repeat (first
      | with_reducible apply Is.seq | with_reducible apply Is.region | with_reducible apply Is.block | with_reducible apply Is.fin | with_reducible apply Is.nil
      | (with_reducible refine Is.op (by with_unfolding_all rfl) (by with_unfolding_all rfl) ?_; simp only [Fr.put, List.set, AArg.ev, lget]))
  refine Is.loop (fun k fr H1 => ∃ i x7 x8 x9 x10 x11 x12 x13 x14 x15 x16 x17 x18 x19 x20 x21 x22 x23 x24 x25 x26 x27 x28,
    fr = ⟨[.rs (bytesV l) 1 l.length, .int .i64 most, .tup [], .tup [], .str [], .str (textV (l.take i)), .int .i64 (i : Nat), x7, x8, x9, x10, x11, x12, x13, x14, x15, x16, x17, x18, x19, x20, x21, x22, x23, x24, x25, x26, x27, x28], []⟩ ∧
    (∀ b' o, b' < H.next → H.get b' = some o → H1.get b' = some o) ∧ H.next ≤ H1.next ∧ k + i = min l.length most ∧ i ≤ min l.length most) (min l.length most) ?_ ?_
  · exact ⟨0, _, _, _, _, _, _, _, _, _, _, _, _, _, _, _, _, _, _, _, _, _, _, rfl, fun _ _ _ h => h, Nat.le_refl _, by omega, by omega⟩
  rintro k fr H1 ⟨i, x7, x8, x9, x10, x11, x12, x13, x14, x15, x16, x17, x18, x19, x20, x21, x22, x23, x24, x25, x26, x27, x28, rfl, hK, hN, hki, hi⟩
  have hrun : ∀ (b1 b2 : Bool), decide ((i : Int) < (l.length : Int)) = b1 → decide ((i : Int) < (most : Int)) = b2 → True := fun _ _ _ _ => trivial
  rcases Bool.eq_false_or_eq_true (decide ((i : Int) < (l.length : Int))) with e1 | e1 <;> rcases Bool.eq_false_or_eq_true (decide ((i : Int) < (most : Int))) with e2 | e2
  all_goals with_reducible apply Is.seq
  all_goals with_reducible apply Is.seq
  all_goals with_reducible apply Is.region
  all_goals simp only [p14_3]
  all_goals repeat (first
      | (with_reducible refine Is.op (by with_unfolding_all rfl) (by with_unfolding_all rfl) ?_; simp only [Fr.put, List.set, AArg.ev, lget, i64v, e1, e2])
      | (with_reducible refine Is.opT (by with_unfolding_all rfl) (by with_unfolding_all rfl) (by with_unfolding_all rfl) ?_; simp only [Fr.put, List.set, AArg.ev, lget, e1, e2])
      | (with_reducible refine Is.opF (by with_unfolding_all rfl) ?_; simp only [Fr.put, List.set, AArg.ev, lget, e1, e2])
      | with_reducible apply Is.fin
      | with_reducible refine Is.condT (by with_unfolding_all rfl) ?_ | with_reducible refine Is.condF (by with_unfolding_all rfl) ?_)
  rotate_left
  -- no more of them
  iterate 3
    · have htake : l.take i = l.take most := by
        simp at e1 e2
        rcases Nat.lt_or_ge i l.length with h | h
        · have : i = most := by
            omega
          rw [this]
        · rw [List.take_of_length_le h, List.take_of_length_le (by omega)]
      repeat (first | with_reducible apply Is.exit | with_reducible apply Is.sqX | with_reducible apply Is.bkX | with_reducible apply Is.sqN | with_reducible apply Is.seq | with_reducible apply Is.region)
      simp only [p14_6]
      refine Is.op rfl rfl ?_
      simp only [Fr.put, List.set, AArg.ev, lget]
      refine Is.op rfl rfl ?_
      simp only [Fr.put, List.set, AArg.ev, lget]
      repeat (first | with_reducible apply Is.fin | with_reducible apply Is.ret | with_reducible apply Is.sqR)
      subst hQ
      exact ⟨⟨rfl, _, rfl, by rw [htake]; rfl, hN, hK⟩⟩
  -- one more
  have hil : i < l.length := by simp at e1; omega
  have him : i < most := by simp at e2; omega
  obtain ⟨z, hz⟩ : ∃ z, l[i]? = some z := ⟨l[i], List.getElem?_eq_getElem hil⟩
  have hzb := hl z (List.mem_of_getElem? hz)
  have htk : l.take (i + 1) = l.take i ++ [z] := by rw [List.take_add_one, hz]; rfl
  have hdrop : ∃ rest, (bytesV l).drop i = .int .u8 z :: rest := by
    have : (bytesV l)[i]? = some (.int .u8 z) := by simp [bytesV, hz]
    have hlt : i < (bytesV l).length := by simp [bytesV]; exact hil
    refine ⟨(bytesV l).drop (i + 1), ?_⟩
    rw [List.drop_eq_getElem_cons hlt]
    congr 1
    rw [List.getElem?_eq_getElem hlt] at this
    exact Option.some.inj this
  obtain ⟨rest, hdrop⟩ := hdrop
  have hlen := textV_len (l.take i)
  have hlen2 : (l.take i).length ≤ i := by simp; omega
  with_reducible apply Is.skip
  with_reducible apply Is.seq
  with_reducible apply Is.block
  with_reducible apply Is.region
  simp only [p14_5]
  repeat (first
      | (with_reducible refine Is.op (by with_unfolding_all rfl) (by with_unfolding_all rfl) ?_; simp only [Fr.put, List.set, AArg.ev, lget]))
  generalize hH2 : H1.new _ = H2
  have gX : H2.get H1.next = some (.cells [.str [97], .str [98], .str [99], .str [97], .str [98], .str [32], .str [195, 169], .str [255]]) := by
    rw [← hH2, AHeap.get_new, if_pos rfl]; rfl
  have gN : H2.next = H1.next + 1 := by rw [← hH2, AHeap.new_next]
  have gK : ∀ b' o, b' < H.next → H.get b' = some o → H2.get b' = some o := fun b' o h1 h2 => by
    rw [← hH2, AHeap.get_new_lt _ _ (by omega)]; exact hK b' o h1 h2
  refine Is.op (v := .rptr (.int .u8 z :: rest)) (H' := H2) (by
    simp only [astep, AArg.ev, lget]
    rw [if_pos ⟨by omega, by omega, trivial⟩, Int.toNat_natCast, Nat.mul_one, hdrop]) rfl ?_
  simp only [Fr.put, List.set, AArg.ev, lget]
  refine Is.op (v := .int .u8 z) (H' := H2) (by
    have h1 : rdc H2 (.rptr (.int .u8 z :: rest)) 1 = some [.int .u8 z] := by
      have : Nat.ble (0 + 1) (AVal.int .u8 z :: rest).length = true := Nat.ble_eq.mpr (by simp)
      simp only [rdc, lcut, this, cond_true]
      rfl
    simp only [astep, AArg.ev, lget, h1]
    rfl) rfl ?_
  simp only [Fr.put, List.set, AArg.ev, lget]
  refine Is.op (v := .int .u8 (z.tmod 8)) (H' := H2) rfl rfl ?_
  simp only [Fr.put, List.set, AArg.ev, lget]
  have h8 : z.tmod 8 = 0 ∨ z.tmod 8 = 1 ∨ z.tmod 8 = 2 ∨ z.tmod 8 = 3 ∨ z.tmod 8 = 4 ∨ z.tmod 8 = 5 ∨ z.tmod 8 = 6 ∨ z.tmod 8 = 7 := by
    rw [Int.tmod_eq_emod_of_nonneg hzb.1]; omega
  have key : ∃ c : Nat, z.tmod 8 = c ∧ c < 8 ∧ lcut [.str [97], .str [98], .str [99], .str [97], .str [98], .str [32], .str [195, 169], .str [255]] c 1 = some [.str (chunk z)] := by
    rcases h8 with h | h | h | h | h | h | h | h
    · exact ⟨0, h, by omega, by simp [chunk, h]; rfl⟩
    · exact ⟨1, h, by omega, by simp [chunk, h]; rfl⟩
    · exact ⟨2, h, by omega, by simp [chunk, h]; rfl⟩
    · exact ⟨3, h, by omega, by simp [chunk, h]; rfl⟩
    · exact ⟨4, h, by omega, by simp [chunk, h]; rfl⟩
    · exact ⟨5, h, by omega, by simp [chunk, h]; rfl⟩
    · exact ⟨6, h, by omega, by simp [chunk, h]; rfl⟩
    · exact ⟨7, h, by omega, by simp [chunk, h]; rfl⟩
  obtain ⟨c, hc, hc8, hcut⟩ := key
  rw [hc]
  refine Is.op (v := .ptr H1.next c) (H' := H2) (by
    simp only [astep, AArg.ev, lget]
    rw [if_pos ⟨by omega, by omega, trivial⟩, Int.toNat_natCast, Nat.mul_one, Nat.zero_add]) rfl ?_
  simp only [Fr.put, List.set, AArg.ev, lget]
  refine Is.op (v := .str (chunk z)) (H' := H2) (by
    have h1 : rdc H2 (.ptr H1.next c) 1 = some [.str (chunk z)] := by
      simp only [rdc, gX]
      exact hcut
    simp only [astep, AArg.ev, lget, h1]
    rfl) rfl ?_
  simp only [Fr.put, List.set, AArg.ev, lget]
  refine Is.op (v := .str (textV (l.take (i + 1)))) (H' := H2) (by
    have hc2 := chunk_len z
    have : Nat.ble ((textV (l.take i)).length + (chunk z).length) 1073741824 = true := Nat.ble_eq.mpr (by omega)
    simp only [astep, AArg.ev, lget, abin, sbin, this, cond_true]
    rw [htk, textV_snoc]
    rfl) rfl ?_
  simp only [Fr.put, List.set, AArg.ev, lget]
  refine Is.op rfl rfl ?_
  simp only [Fr.put, List.set, AArg.ev, lget]
  repeat (first | with_reducible apply Is.nil | with_reducible apply Is.bkN | with_reducible apply Is.sqN | with_reducible apply Is.region)
  simp only [p14_4]
  refine Is.op rfl rfl ?_
  simp only [Fr.put, List.set, AArg.ev, lget]
  refine Is.op (v := .int .i64 ((i + 1 : Nat) : Int)) (H' := H2) (by
    show some (AVal.int .i64 (IntKind.i64.wrap ((i : Int) + 1)), H2) = _
    rw [i64_fit (by omega) (by unfold limit; omega)]
    rfl) rfl ?_
  simp only [Fr.put, List.set, AArg.ev, lget]
  refine Is.op rfl rfl ?_
  simp only [Fr.put, List.set, AArg.ev, lget]
  repeat (first | with_reducible apply Is.nil | with_reducible apply Is.bkN | with_reducible apply Is.sqN)
  exact ⟨⟨k - 1, by omega, i + 1, _, _, _, _, _, _, _, _, _, _, _, _, _, _, _, _, _, _, _, _, _, _, rfl, gK, by omega, by omega, by omega⟩⟩

end Go.Aw.C07

/- The plain law of places: they are where a rune begins, and the end. -/
namespace Go.Aw.C07
open Go Go.Aw Go.Proofs

theorem get_drop (s : List UInt8) (pos j : Nat) : (ByteArray.mk (s.drop pos).toArray).get! j = (ByteArray.mk s.toArray).get! (pos + j) := by
  simp only [ByteArray.get!]
  show (s.drop pos).toArray[j]! = s.toArray[pos + j]!
  simp [List.getElem!_toArray, List.getElem!_eq_getElem?_getD, List.getElem?_drop]

theorem byte_lt (s : ByteArray) (i : Nat) : (s.get! i).toNat < 256 := UInt8.toNat_lt _

theorem runeLen_decodeN (n x0 x1 x2 x3 : Nat) (b0 : x0 < 256) (b1 : x1 < 256) (b2 : x2 < 256) (b3 : x3 < 256) (hne : ¬ ((Lib.decodeN n x0 x1 x2 x3).1 : Int) = 65533) :
    runeLenV (Lib.decodeN n x0 x1 x2 x3).1 = (Lib.decodeN n x0 x1 x2 x3).2 := by
  revert hne
  unfold Lib.decodeN
  split
  · intro _
    simp only [runeLenV]
    rw [if_neg (by omega), if_pos (by omega)]
    rfl
  · split
    · split
      · intro _
        simp only [runeLenV]
        rw [if_neg (by omega), if_neg (by omega), if_pos (by omega)]
        rfl
      · intro h; exact absurd rfl h
    · split
      · split
        · intro _
          simp only [runeLenV]
          rw [if_neg (by omega), if_neg (by omega), if_neg (by omega), if_neg (by omega), if_pos (by omega)]
          rfl
        · intro h; exact absurd rfl h
      · split
        · split
          · intro _
            simp only [runeLenV]
            rw [if_neg (by omega), if_neg (by omega), if_neg (by omega), if_neg (by omega), if_neg (by omega), if_pos (by omega)]
            rfl
          · intro h; exact absurd rfl h
        · intro h; exact absurd rfl h

theorem size_eq (s : List UInt8) (pos : Nat) (h : pos < s.length) : sizeV (s.drop pos) (Utf8.decode ⟨s.toArray⟩ pos).1 = (Utf8.decode ⟨s.toArray⟩ pos).2 := by
  have hd : Lib.decodeGo ⟨(s.drop pos).toArray⟩ = Utf8.decode ⟨s.toArray⟩ pos := by
    unfold Lib.decodeGo
    have hs1 : (ByteArray.mk (s.drop pos).toArray).size = s.length - pos := by show (s.drop pos).toArray.size = _; simp
    have hs2 : (ByteArray.mk s.toArray).size = s.length := by show s.toArray.size = _; simp
    rw [if_neg (by rw [hs1]; omega), Lib.decode_at, Lib.decode_at, hs1, hs2]
    simp only [get_drop, Nat.zero_add, Nat.add_zero, Nat.sub_zero]
  unfold sizeV
  split
  · rw [hd]
  · rename_i hne
    rw [Lib.decode_at] at hne ⊢
    exact runeLen_decodeN _ _ _ _ _ (byte_lt _ _) (byte_lt _ _) (byte_lt _ _) (byte_lt _ _) hne

theorem decode_le (s : List UInt8) (pos : Nat) (h : pos < s.length) : pos + (Utf8.decode ⟨s.toArray⟩ pos).2 ≤ s.length := by
  have hs2 : (ByteArray.mk s.toArray).size = s.length := by show s.toArray.size = _; simp
  rw [Lib.decode_at, hs2]
  unfold Lib.decodeN
  repeat' split
  all_goals simp only
  all_goals omega

/-- Does a rune begin there? -/
def startsV (s : List UInt8) (k : Int) : Nat → Nat → Bool
  | 0, _ => false
  | f + 1, pos => if pos < s.length then ((pos : Int) == k || startsV s k f (pos + (Utf8.decode ⟨s.toArray⟩ pos).2)) else false

theorem startsV_lt {s : List UInt8} {k : Int} {f pos : Nat} (h : pos < s.length) : startsV s k (f + 1) pos = ((pos : Int) == k || startsV s k f (pos + (Utf8.decode ⟨s.toArray⟩ pos).2)) := by rw [startsV, if_pos h]
theorem startsV_ge {s : List UInt8} {k : Int} {f pos : Nat} (h : ¬ pos < s.length) : startsV s k (f + 1) pos = false := by rw [startsV, if_neg h]

theorem ends_law (s : List UInt8) (hs : s.length ≤ 1000000) (k : Int) : ∀ (fuel pos : Nat), pos ≤ s.length → s.length - pos < fuel →
    ((scan s (fun _ a z => IntKind.i64.wrap (a + z) == k) fuel pos).isSome || (pos : Int) == k) = (startsV s k fuel pos || (s.length : Int) == k)
  | 0, pos, _, h => by omega
  | fuel + 1, pos, hp, hf => by
    by_cases h : pos < s.length
    · have hw := decode_le s pos h
      have hw1 := decode_wide ⟨s.toArray⟩ pos
      have ih := ends_law s hs k fuel (pos + (Utf8.decode ⟨s.toArray⟩ pos).2) hw (by omega)
      rw [scan_lt h, startsV_lt h]
      simp only [size_eq s pos h]
      have hwr : IntKind.i64.wrap ((pos : Int) + ((Utf8.decode ⟨s.toArray⟩ pos).2 : Int)) = ((pos + (Utf8.decode ⟨s.toArray⟩ pos).2 : Nat) : Int) := by
        rw [IntWalk.i64_in _ ⟨by omega, by omega⟩]; omega
      rw [hwr]
      cases hc : (((pos + (Utf8.decode ⟨s.toArray⟩ pos).2 : Nat) : Int) == k) with
      | true =>
        rw [hc] at ih
        simp only [Bool.or_true] at ih
        rw [if_pos rfl]
        simp only [Option.isSome_some, Bool.true_or]
        rw [Bool.or_assoc, ← ih, Bool.or_true]
      | false =>
        rw [hc] at ih
        simp only [Bool.or_false] at ih
        rw [if_neg (by simp), ih]
        cases startsV s k fuel (pos + (Utf8.decode ⟨s.toArray⟩ pos).2) <;> cases ((s.length : Int) == k) <;> cases ((pos : Int) == k) <;> rfl
    · have : pos = s.length := by omega
      subst this
      rw [scan_ge h, startsV_ge h]
      rfl

theorem starts_range (s : List UInt8) (k : Int) : ∀ (fuel pos : Nat), startsV s k fuel pos = true → (pos : Int) ≤ k ∧ k < s.length
  | 0, pos, h => by cases h
  | fuel + 1, pos, h => by
    by_cases hp : pos < s.length
    · rw [startsV_lt hp] at h
      rw [Bool.or_eq_true] at h
      rcases h with h | h
      · have := eq_of_beq h; omega
      · have := starts_range s k fuel _ h; omega
    · rw [startsV_ge hp] at h; cases h

/-- A place: where a rune begins, and the end. -/
theorem placeV_eq (s : List UInt8) (hs : s.length ≤ 1000000) (k : Int) : placeV s k = (startsV s k (s.length + 1) 0 || (s.length : Int) == k) := by
  have := ends_law s hs k (s.length + 1) 0 (by omega) (by omega)
  unfold placeV aheadV
  rw [← this]
  congr 1
  cases h : (k == 0) <;> simp at h ⊢ <;> omega

end Go.Aw.C07
