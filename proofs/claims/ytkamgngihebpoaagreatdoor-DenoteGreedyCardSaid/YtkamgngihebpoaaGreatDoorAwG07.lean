import Derived.Test.YtkamgngihebpoaaGreatDoorAwXC07
import Derived.Test.YtkamgngihebpoaaGreatDoorAwRunT
/- The law DenoteGreedy: what is known ahead: the examples, and the four patterns' trees. -/
noncomputable section
namespace Go.Aw.C07
open Go Go.Aw Go.Proofs

theorem ex_run : retTrue (evFT Γu tb0 (toRun (evC Γu tb0 20000)) 12 [] .empty) = true := by kernel_rfl
def r0 : AVal × List (Nat × AObj) × Nat := (.agg [.int .i64 9, .nils, .int .i64 0, .int .i64 0, .bool false, .int .i64 1, .sl 104 0 7 1 1 false], [(104, .cells [.int .i64 8, .nils, .int .i64 0, .int .i64 (-1), .bool false, .int .i64 0, .sl 98 0 7 1 1 true]), (98, .cells [.int .i64 1, .sl 87 0 2 1 1 false, .int .i64 0, .int .i64 0, .bool false, .int .i64 0, .nils]), (87, .cells [.int .i32 97, .int .i32 97])], 111)
theorem made0 : grabOk (evFT Γu tb0 (toRun (evC Γu tb0 20000)) 23 [.str [40, 97, 42, 41]] .empty) r0.1 r0.2.1 r0.2.2 = true := by kernel_rfl
def r1 : AVal × List (Nat × AObj) × Nat := (.agg [.int .i64 9, .nils, .int .i64 0, .int .i64 0, .bool false, .int .i64 1, .sl 106 0 7 1 1 false], [(106, .cells [.int .i64 8, .nils, .int .i64 0, .int .i64 (-1), .bool true, .int .i64 0, .sl 100 0 7 1 1 true]), (100, .cells [.int .i64 1, .sl 89 0 2 1 1 false, .int .i64 0, .int .i64 0, .bool false, .int .i64 0, .nils]), (89, .cells [.int .i32 97, .int .i32 97])], 113)
theorem made1 : grabOk (evFT Γu tb0 (toRun (evC Γu tb0 20000)) 23 [.str [40, 97, 42, 63, 41]] .empty) r1.1 r1.2.1 r1.2.2 = true := by kernel_rfl
def r2 : AVal × List (Nat × AObj) × Nat := (.agg [.int .i64 6, .nils, .int .i64 0, .int .i64 0, .bool false, .int .i64 0, .sl 398 0 7 5 5 false], [(398, .cells [.int .i64 2, .nils, .int .i64 0, .int .i64 0, .bool false, .int .i64 0, .nils, .int .i64 9, .nils, .int .i64 0, .int .i64 0, .bool false, .int .i64 1, .sl 288 0 7 1 1 false, .int .i64 9, .nils, .int .i64 0, .int .i64 0, .bool false, .int .i64 2, .sl 324 0 7 1 1 false, .int .i64 9, .nils, .int .i64 0, .int .i64 0, .bool false, .int .i64 3, .sl 360 0 7 1 1 false, .int .i64 3, .nils, .int .i64 0, .int .i64 0, .bool false, .int .i64 0, .nils]), (288, .cells [.int .i64 8, .nils, .int .i64 0, .int .i64 (-1), .bool false, .int .i64 0, .sl 282 0 7 1 1 true]), (282, .cells [.int .i64 1, .sl 271 0 2 1 1 false, .int .i64 0, .int .i64 0, .bool false, .int .i64 0, .nils]), (271, .cells [.int .i32 97, .int .i32 97]), (324, .cells [.int .i64 8, .nils, .int .i64 0, .int .i64 (-1), .bool true, .int .i64 0, .sl 318 0 7 1 1 true]), (318, .cells [.int .i64 1, .sl 307 0 2 1 1 false, .int .i64 0, .int .i64 0, .bool false, .int .i64 0, .nils]), (307, .cells [.int .i32 97, .int .i32 97]), (360, .cells [.int .i64 8, .nils, .int .i64 0, .int .i64 (-1), .bool false, .int .i64 0, .sl 354 0 7 1 1 true]), (354, .cells [.int .i64 1, .sl 343 0 2 1 1 false, .int .i64 0, .int .i64 0, .bool false, .int .i64 0, .nils]), (343, .cells [.int .i32 98, .int .i32 98])], 424)
theorem made2 : grabOk (evFT Γu tb0 (toRun (evC Γu tb0 20000)) 23 [.str [94, 40, 97, 42, 41, 40, 97, 42, 63, 41, 40, 98, 42, 41, 36]] .empty) r2.1 r2.2.1 r2.2.2 = true := by kernel_rfl
def r3 : AVal × List (Nat × AObj) × Nat := (.agg [.int .i64 6, .nils, .int .i64 0, .int .i64 0, .bool false, .int .i64 0, .sl 400 0 7 5 5 false], [(400, .cells [.int .i64 2, .nils, .int .i64 0, .int .i64 0, .bool false, .int .i64 0, .nils, .int .i64 9, .nils, .int .i64 0, .int .i64 0, .bool false, .int .i64 1, .sl 290 0 7 1 1 false, .int .i64 9, .nils, .int .i64 0, .int .i64 0, .bool false, .int .i64 2, .sl 326 0 7 1 1 false, .int .i64 9, .nils, .int .i64 0, .int .i64 0, .bool false, .int .i64 3, .sl 362 0 7 1 1 false, .int .i64 3, .nils, .int .i64 0, .int .i64 0, .bool false, .int .i64 0, .nils]), (290, .cells [.int .i64 8, .nils, .int .i64 0, .int .i64 (-1), .bool true, .int .i64 0, .sl 284 0 7 1 1 true]), (284, .cells [.int .i64 1, .sl 273 0 2 1 1 false, .int .i64 0, .int .i64 0, .bool false, .int .i64 0, .nils]), (273, .cells [.int .i32 97, .int .i32 97]), (326, .cells [.int .i64 8, .nils, .int .i64 0, .int .i64 (-1), .bool false, .int .i64 0, .sl 320 0 7 1 1 true]), (320, .cells [.int .i64 1, .sl 309 0 2 1 1 false, .int .i64 0, .int .i64 0, .bool false, .int .i64 0, .nils]), (309, .cells [.int .i32 97, .int .i32 97]), (362, .cells [.int .i64 8, .nils, .int .i64 0, .int .i64 (-1), .bool true, .int .i64 0, .sl 356 0 7 1 1 true]), (356, .cells [.int .i64 1, .sl 345 0 2 1 1 false, .int .i64 0, .int .i64 0, .bool false, .int .i64 0, .nils]), (345, .cells [.int .i32 98, .int .i32 98])], 426)
theorem made3 : grabOk (evFT Γu tb0 (toRun (evC Γu tb0 20000)) 23 [.str [94, 40, 97, 42, 63, 41, 40, 97, 42, 41, 40, 98, 42, 63, 41, 36]] .empty) r3.1 r3.2.1 r3.2.2 = true := by kernel_rfl

def leq : List UInt8 → List UInt8 → Bool
  | [], [] => true
  | a :: l, b :: m => Nat.beq a.toNat b.toNat && leq l m
  | _, _ => false

theorem leq_eq : ∀ {a b : List UInt8}, leq a b = true → a = b
  | [], [], _ => rfl
  | [], _ :: _, h => by cases h
  | _ :: _, [], h => by cases h
  | a :: l, b :: m, h => by
    simp only [leq, Bool.and_eq_true] at h
    rw [UInt8.toNat_inj.1 (Nat.eq_of_beq_eq_true h.1), leq_eq h.2]

def kn1 (f : Nat) (args : List AVal) : Option KRes :=
  bif Nat.beq f 12 then (match args with
    | [] => some (.ret (.bool true), [], 0)
    | _ => none)
  else bif Nat.beq f 23 then (match args with
    | [.str s] => bif leq s [40, 97, 42, 41] then some (.ret r0.1, r0.2.1, r0.2.2) else bif leq s [40, 97, 42, 63, 41] then some (.ret r1.1, r1.2.1, r1.2.2) else bif leq s [94, 40, 97, 42, 41, 40, 97, 42, 63, 41, 40, 98, 42, 41, 36] then some (.ret r2.1, r2.2.1, r2.2.2) else bif leq s [94, 40, 97, 42, 63, 41, 40, 97, 42, 41, 40, 98, 42, 63, 41, 36] then some (.ret r3.1, r3.2.1, r3.2.2) else none
    | _ => none)
  else none

theorem kn1_ok : ∀ f args r, kn1 f args = some r → ∀ H, ACalls Γu Tryz.prog f args H (EvPostF (knEnd r H)) := by
  intro f args r h H
  unfold kn1 at h
  cases hb : Nat.beq f 12 with
  | true =>
    rw [hb] at h
    rw [Nat.eq_of_beq_eq_true hb]
    simp only [cond_true] at h
    split at h
    · cases h; exact known_true flatΓ tok mixed tb0_ok 20000 rfl ex_run H
    · cases h
  | false =>
    rw [hb] at h
    simp only [cond_false] at h
    cases hb2 : Nat.beq f 23 with
    | false => rw [hb2] at h; cases h
    | true =>
      rw [hb2] at h
      rw [Nat.eq_of_beq_eq_true hb2]
      simp only [cond_true] at h
      split at h
      · rename_i s
        cases hl0 : leq s [40, 97, 42, 41] with
        | true =>
          rw [hl0] at h
          cases h
          rw [leq_eq hl0]
          exact known_grab flatΓ tok mixed tb0_ok 20000 rfl made0 H
        | false =>
        rw [hl0] at h
        simp only [cond_false] at h
        cases hl1 : leq s [40, 97, 42, 63, 41] with
        | true =>
          rw [hl1] at h
          cases h
          rw [leq_eq hl1]
          exact known_grab flatΓ tok mixed tb0_ok 20000 rfl made1 H
        | false =>
        rw [hl1] at h
        simp only [cond_false] at h
        cases hl2 : leq s [94, 40, 97, 42, 41, 40, 97, 42, 63, 41, 40, 98, 42, 41, 36] with
        | true =>
          rw [hl2] at h
          cases h
          rw [leq_eq hl2]
          exact known_grab flatΓ tok mixed tb0_ok 20000 rfl made2 H
        | false =>
        rw [hl2] at h
        simp only [cond_false] at h
        cases hl3 : leq s [94, 40, 97, 42, 63, 41, 40, 97, 42, 41, 40, 98, 42, 63, 41, 36] with
        | true =>
          rw [hl3] at h
          cases h
          rw [leq_eq hl3]
          exact known_grab flatΓ tok mixed tb0_ok 20000 rfl made3 H
        | false =>
        rw [hl3] at h
        simp only [cond_false] at h
        cases h
      · cases h

def tb1 : Tb := ⟨ftr.get, bk7, kn1⟩
theorem tb1_ok : TbOk Γu Tryz.prog ttr.get tb1 := ⟨fns, bk7_ok, kn1_ok⟩

def seqTail : Nat → ACode → ACode
  | 0, c => c
  | n + 1, .seq _ b => seqTail n b
  | _, c => c

/-- The frame behind the two remainders. -/
def gFrame (x y n m : Int) : List AVal :=
  [.int .u8 x, .int .u8 y, .tup [], .tup [], .bool false, .bool true, .int .i64 n, .int .i64 m] ++ List.replicate 14 (.tup []) ++ [.bool true, .bool true, .bool false, .int .u8 x, .int .u8 n, .int .i64 n, .int .u8 y, .int .u8 m, .int .i64 m] ++ List.replicate 94 (.tup [])

noncomputable def gTrue (x y n m : Int) : Bool := restTrue Γu tb1 20000 (seqTail 5 p7.body) p7.res (gFrame x y n m) .empty

end Go.Aw.C07
