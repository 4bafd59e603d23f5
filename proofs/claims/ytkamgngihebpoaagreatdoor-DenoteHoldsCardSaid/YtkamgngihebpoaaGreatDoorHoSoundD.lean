import Derived.Test.YtkamgngihebpoaaGreatDoorHoMem
/- What the model's operations do, told of abstract values: fourth part: cuts, addresses, indexes, conversions, ranges over a text. -/
set_option linter.all false
noncomputable section
namespace Go.Aw

section
variable {Γ : Globs} {P : Program} {g : Gh} {H : AHeap} {w : World}

def ORelV (g : Gh) : Option AVal → Option Value → Prop
  | none, none => True
  | some x, some v => VRel g x v
  | _, _ => False

theorem asInt64_rel {x : AVal} {v : Value} {n : Int} (h : asInt64 x = some n) (hv : VRel g x v) : ∃ k, v = .int k n := by
  cases x <;> simp only [asInt64, reduceCtorEq, Option.some.injEq] at h
  subst h; exact ⟨_, hv⟩

theorem run_hi {x : AVal} {v : Value} {len cap m h : Nat} (ha : abHi (some x) len cap = some h) (hm : cap ≤ m) (hx : VRel g x v) (code : BoundsCode) : (Instr.sliceBound v m code).run P w = .ok h w := by
  simp only [abHi] at ha
  cases he : asInt64 x with
  | none => rw [he] at ha; simp at ha
  | some n =>
    obtain ⟨k, rfl⟩ := asInt64_rel he hx
    rw [he] at ha
    simp only [Option.bind_some] at ha
    split at ha
    · rename_i hc
      cases ha
      have : 0 ≤ n ∧ n ≤ (m : Int) := ⟨hc.1, by omega⟩
      simp [Instr.sliceBound, asIntOf, this]
    · cases ha

theorem run_lo {x : AVal} {v : Value} {h l : Nat} (ha : abLo (some x) h = some l) (hx : VRel g x v) (code : BoundsCode) : (Instr.sliceBound v h code).run P w = .ok l w := by
  simp only [abLo] at ha
  cases he : asInt64 x with
  | none => rw [he] at ha; simp at ha
  | some n =>
    obtain ⟨k, rfl⟩ := asInt64_rel he hx
    rw [he] at ha
    simp only [Option.bind_some] at ha
    split at ha
    · rename_i hc
      cases ha
      simp [Instr.sliceBound, asIntOf, hc]
    · cases ha

theorem run_bounds {lo hi : Option AVal} {lo' hi' : Option Value} {len cap m l h : Nat} (isS : Bool) (ha : abounds lo hi len cap = some (l, h)) (hm : cap ≤ m) (hlo : ORelV g lo lo') (hhi : ORelV g hi hi') :
    (Instr.sliceBounds isS len m lo' hi' none).run P w = .ok (l, h, m) w := by
  unfold abounds at ha
  rw [Option.bind_eq_some_iff] at ha
  obtain ⟨hv, h1, h2⟩ := ha
  rw [Option.map_eq_some_iff] at h2
  obtain ⟨lv, h3, h4⟩ := h2
  cases h4
  cases hi with
  | none => cases hi' with
    | some v => exact hhi.elim
    | none =>
      simp only [abHi, Option.some.injEq] at h1
      subst h1
      cases lo with
      | none => cases lo' with
        | some v => exact hlo.elim
        | none =>
          simp only [abLo, Option.some.injEq] at h3
          subst h3
          simp [Instr.sliceBounds]
      | some x => cases lo' with
        | none => exact hlo.elim
        | some v => simp [Instr.sliceBounds, run_lo (P := P) (w := w) h3 hlo]
  | some y => cases hi' with
    | none => exact hhi.elim
    | some u =>
      have hr := fun code => run_hi (P := P) (w := w) h1 hm hhi code
      cases lo with
      | none => cases lo' with
        | some v => exact hlo.elim
        | none =>
          simp only [abLo, Option.some.injEq] at h3
          subst h3
          simp [Instr.sliceBounds, hr]
      | some x => cases lo' with
        | none => exact hlo.elim
        | some v => simp [Instr.sliceBounds, hr, run_lo (P := P) (w := w) h3 hlo]

theorem abounds_le {lo hi : Option AVal} {len cap l h : Nat} (ha : abounds lo hi len cap = some (l, h)) (hlc : len ≤ cap) : l ≤ h ∧ h ≤ cap := by
  unfold abounds at ha
  rw [Option.bind_eq_some_iff] at ha
  obtain ⟨hv, h1, h2⟩ := ha
  rw [Option.map_eq_some_iff] at h2
  obtain ⟨lv, h3, h4⟩ := h2
  cases h4
  have hh : h ≤ cap := by
    cases hi with
    | none => simp only [abHi, Option.some.injEq] at h1; omega
    | some x =>
      simp only [abHi, Option.bind_eq_some_iff] at h1
      obtain ⟨n, _, hn⟩ := h1
      split at hn <;> cases hn
      omega
  refine ⟨?_, hh⟩
  cases lo with
  | none => simp only [abLo, Option.some.injEq] at h3; omega
  | some x =>
    simp only [abLo, Option.bind_eq_some_iff] at h3
    obtain ⟨n, _, hn⟩ := h3
    split at hn <;> cases hn
    omega

/-- The types of what is cut. -/
def tCut (P : Program) (t : TypeId) : AVal → Bool
  | .str _ => match P.underlying t with | some .string => true | _ => false
  | .sl _ _ es _ _ _ => match P.underlying t with | some (.slice e) => (match P.info? e with | some i => Nat.beq i.size es | none => false) | _ => false
  | .rs _ es _ => match P.underlying t with | some (.slice e) => (match P.info? e with | some i => Nat.beq i.size es | none => false) | _ => false
  | .nils => match P.underlying t with | some (.slice e) => (P.info? e).isSome | _ => false
  | _ => false

theorem ran_slc (hw : WRel Γ g H w) {x v : AVal} {cx : Value} {lo hi : Option AVal} {lo' hi' : Option Value} (hx : VRel g x cx) (hlo : ORelV g lo lo') (hhi : ORelV g hi hi')
    (h : aslice x lo hi = some v) {t : TypeId} (ht : tCut P t x = true) : Ran Γ P (Instr.sliceAt t cx lo' hi' none) g H w v H := by
  cases x <;> simp only [tCut, Bool.false_eq_true] at ht <;> simp only [aslice] at h
  case str s =>
    split at ht
    · rename_i hu
      rw [Option.map_eq_some_iff] at h
      obtain ⟨⟨l, h0⟩, hb, h⟩ := h
      (try simp only at h); subst h
      simp only [VRel] at hx; subst hx
      have hsz : (ByteArray.mk s.toArray).size = s.length := by simp [ByteArray.size]
      have hr := run_bounds (P := P) (w := w) (g := g) false hb (Nat.le_refl _) hlo hhi
      refine .pure (cv := .string ((ByteArray.mk s.toArray).extract l h0)) ?_ hw ?_
      · simp only [Instr.sliceAt, Sem.run_bind, run_underlying hu, Result.andThen_ok, Instr.slice, Option.isSome_none, Bool.false_eq_true, if_false, hsz, hr, Sem.run_pure]
      · simp only [VRel]
        congr 1
        apply ByteArray.ext
        apply Array.ext'
        simp [List.extract_eq_take_drop]
    · cases ht
  case nils =>
    split at ht
    · rename_i e hu
      obtain ⟨i, hi'⟩ := Option.isSome_iff_exists.1 ht
      rw [Option.map_eq_some_iff] at h
      obtain ⟨⟨l, h0⟩, hb, h⟩ := h
      (try simp only at h); subst h
      simp only [VRel] at hx; subst hx
      have hr := run_bounds (P := P) (w := w) (g := g) true hb (Nat.le_refl _) hlo hhi
      have hle := abounds_le hb (Nat.le_refl _)
      have e1 : l = 0 := by omega
      have e2 : h0 = 0 := by omega
      subst e1; subst e2
      refine .pure (cv := .slice none 0 0) ?_ hw rfl
      simp only [Instr.sliceAt, Sem.run_bind, run_underlying hu, Result.andThen_ok, Instr.slice, hr, run_sizeOf' hi', Sem.run_pure]
      rfl
    · cases ht
  case sl b off es len cap ex =>
    split at ht
    · rename_i e hu
      split at ht
      · rename_i i hi'
        have hes := Nat.eq_of_beq_eq_true ht
        rw [Option.map_eq_some_iff] at h
        obtain ⟨⟨l, h0⟩, hb, h⟩ := h
        (try simp only at h); subst h
        obtain ⟨a, c, rfl, h1, h2, h3, hd, hm⟩ := hx
        have hr := run_bounds (P := P) (w := w) (g := g) true hb h2 hlo hhi
        have hle := abounds_le hb h1
        refine .pure (cv := .slice (if c = l then some a else (some a).map (·.add (l * es))) (h0 - l) (c - l)) ?_ hw ?_
        · simp only [Instr.sliceAt, Sem.run_bind, run_underlying hu, Result.andThen_ok, Instr.slice, hr, run_sizeOf' hi', hes, Sem.run_pure]
        · by_cases e : c = l
          · rw [if_pos e]
            exact ⟨a, c - l, rfl, by omega, by omega, fun he => by rw [h3 he], hd, fun cb base _ hne => absurd (by omega) hne⟩
          · rw [if_neg e]
            refine ⟨a.add (l * es), c - l, rfl, by omega, by omega, fun he => by rw [h3 he], hd, fun cb base hmu _ => ?_⟩
            obtain ⟨h4, h5⟩ := hm cb base hmu (by omega)
            refine ⟨by rw [h4, Addr.add_eq]; congr 1; omega, ?_⟩
            have hlc : l ≤ c := by omega
            rw [Nat.mul_sub_right_distrib]
            have : l * es ≤ c * es := Nat.mul_le_mul_right _ hlc
            omega
      · cases ht
    · cases ht
  case rs cs es len =>
    split at ht
    · rename_i e hu
      split at ht
      · rename_i i hi'
        have hes := Nat.eq_of_beq_eq_true ht
        rw [Option.map_eq_some_iff] at h
        obtain ⟨⟨l, h0⟩, hb, h⟩ := h
        (try simp only at h); subst h
        obtain ⟨a, c, rfl, h1, h2, h3⟩ := hx
        have hr := run_bounds (P := P) (w := w) (g := g) true hb h1 hlo hhi
        have hle := abounds_le hb (Nat.le_refl _)
        refine .pure (cv := .slice (if c = l then a else a.map (·.add (l * es))) (h0 - l) (c - l)) ?_ hw ?_
        · simp only [Instr.sliceAt, Sem.run_bind, run_underlying hu, Result.andThen_ok, Instr.slice, hr, run_sizeOf' hi', hes, Sem.run_pure]
        · refine ⟨_, _, rfl, by omega, fun hn => ?_, fun hpos => ?_⟩
          · by_cases e : c = l
            · omega
            · rw [if_neg e] at hn
              cases a with
              | none => have := h2 rfl; omega
              | some a => cases hn
          · obtain ⟨cb, off, rfl, hrho⟩ := h3 (by omega)
            rw [if_neg (by omega)]
            refine ⟨cb, off + l * es, by simp only [Option.map_some]; rw [Addr.add_eq], fun i c' hc => ?_⟩
            rw [List.getElem?_take] at hc
            split at hc
            · rw [List.getElem?_drop] at hc
              have := hrho _ c' hc
              rw [← this]; congr 1; omega
            · cases hc
      · cases ht
    · cases ht

theorem ran_fad (hw : WRel Γ g H w) {x : AVal} {cx : Value} (hx : VRel g x cx) {t : TypeId} {fs : Array Field} {k off : Nat} {f : Field} {i : TypeInfo} (hu : P.underlying t = some (.struct fs))
    (hf : fs[k]? = some f) (hi : P.info? f.type = some i) (hpos : 0 < i.size) (hoff : f.offset = off) {v : AVal}
    (h : (match x with | .ptr b o => some (AVal.ptr b (o + off)) | .rptr cs => some (.rptr (cs.drop off)) | _ => none) = some v) :
    Ran Γ P (Instr.fieldAt t cx k) g H w v H := by
  subst hoff
  have hn : i.size ≠ 0 := by omega
  have hrun : ∀ a : Addr, (Instr.fieldAt t (.pointer (some a)) k).run P w = .ok (.pointer (some (a.add f.offset))) w := by
    intro a
    simp only [Instr.fieldAt, Sem.run_bind, run_underlying hu, Result.andThen_ok, hf, Instr.sureAddr, Sem.run_pure, fieldPlace, run_sizeOf' hi, if_neg hn]
  cases x <;> simp only [reduceCtorEq, Option.some.injEq] at h
  · subst h
    obtain ⟨a, rfl, hd, hm⟩ := hx
    refine .pure (hrun a) hw ⟨_, rfl, hd, fun cb base hmu => ?_⟩
    rw [hm cb base hmu, Addr.add_eq, Nat.add_assoc]
  · subst h
    obtain ⟨cb, off, rfl, hr⟩ := hx
    refine .pure (hrun _) hw ⟨cb, off + f.offset, by rw [Addr.add_eq], fun j c hc => ?_⟩
    rw [List.getElem?_drop] at hc
    rw [Nat.add_assoc]; exact hr _ c hc

theorem ran_iad (hw : WRel Γ g H w) {x : AVal} {cx ci : Value} (hx : VRel g x cx) {t e : TypeId} {i : TypeInfo} {k : IntKind} {n : Int} (hci : ci = .int k n) (hu : P.underlying t = some (.slice e))
    (hi : P.info? e = some i) {v : AVal}
    (h : (match x with
      | .sl b off es' len _ _ => if 0 ≤ n ∧ n < len ∧ i.size = es' then some (AVal.ptr b (off + n.toNat * i.size)) else none
      | .rs cs es' len => if 0 ≤ n ∧ n < len ∧ i.size = es' then some (.rptr (cs.drop (n.toNat * i.size))) else none
      | _ => none) = some v) :
    Ran Γ P (Instr.indexAt t cx ci) g H w v H := by
  subst hci
  have hrun : ∀ (a : Addr) (len c : Nat), 0 ≤ n ∧ n < len → (Instr.indexAt t (.slice (some a) len c) (.int k n)).run P w = .ok (.pointer (some (a.add (n.toNat * i.size)))) w := by
    intro a len c hn
    simp only [Instr.indexAt, asIntOf, Sem.run_bind, Sem.run_pure, Result.andThen_ok, run_underlying hu]
    rw [if_pos hn]
    simp only [Sem.run_bind, run_sizeOf' hi, Result.andThen_ok, Sem.run_pure]
  cases x <;> simp only [reduceCtorEq] at h
  · split at h
    · rename_i hc
      cases h
      obtain ⟨a, c, rfl, h1, h2, h3, hd, hm⟩ := hx
      refine .pure (hrun a _ c ⟨hc.1, hc.2.1⟩) hw ⟨_, rfl, hd, fun cb base hmu => ?_⟩
      rw [(hm cb base hmu (by omega)).1, Addr.add_eq, Nat.add_assoc]
    · cases h
  · split at h
    · rename_i hc
      cases h
      obtain ⟨a, c, rfl, h1, h2, h3⟩ := hx
      obtain ⟨cb, off, rfl, hr⟩ := h3 (by omega)
      refine .pure (hrun _ _ c ⟨hc.1, hc.2.1⟩) hw ⟨cb, off + n.toNat * i.size, by rw [Addr.add_eq], fun j c hc => ?_⟩
      rw [List.getElem?_drop] at hc
      rw [Nat.add_assoc]; exact hr _ c hc
    · cases h

theorem ran_iada (hw : WRel Γ g H w) {x : AVal} {cx ci : Value} (hx : VRel g x cx) {t e : TypeId} {i : TypeInfo} {m : Nat} {k : IntKind} {n : Int} (hci : ci = .int k n) (hu : P.underlying t = some (.array m e))
    (hi : P.info? e = some i) {v : AVal}
    (h : (match x with
      | .ptr b off => if 0 ≤ n ∧ n < m then some (AVal.ptr b (off + n.toNat * i.size)) else none
      | .rptr cs => if 0 ≤ n ∧ n < m then some (.rptr (cs.drop (n.toNat * i.size))) else none
      | _ => none) = some v) :
    Ran Γ P (Instr.indexAt t cx ci) g H w v H := by
  subst hci
  have hrun : ∀ (a : Addr), 0 ≤ n ∧ n < m → (Instr.indexAt t (.pointer (some a)) (.int k n)).run P w = .ok (.pointer (some (a.add (n.toNat * i.size)))) w := by
    intro a hn
    simp only [Instr.indexAt, asIntOf, Sem.run_bind, Sem.run_pure, Result.andThen_ok, run_underlying hu, Instr.sureAddr]
    rw [if_pos hn]
    simp only [Sem.run_bind, run_sizeOf' hi, Result.andThen_ok, Sem.run_pure]
  cases x <;> simp only [reduceCtorEq] at h
  · split at h
    · rename_i hc
      cases h
      obtain ⟨a, rfl, hd, hm⟩ := hx
      refine .pure (hrun a hc) hw ⟨_, rfl, hd, fun cb base hmu => ?_⟩
      rw [hm cb base hmu, Addr.add_eq, Nat.add_assoc]
    · cases h
  · split at h
    · rename_i hc
      cases h
      obtain ⟨cb, off, rfl, hr⟩ := hx
      refine .pure (hrun _ hc) hw ⟨cb, off + n.toNat * i.size, by rw [Addr.add_eq], fun j c hc => ?_⟩
      rw [List.getElem?_drop] at hc
      rw [Nat.add_assoc]; exact hr _ c hc
    · cases h

theorem lcut_rel {cs vs : List AVal} {ccs : Array Value} {off n : Nat} (h : lcut cs off n = some vs) (hc : VRels g cs ccs.toList) : VRels g vs (ccs.extract off (off + n)).toList := by
  obtain ⟨h1, rfl⟩ := lcut_some h
  have := (hc.drop off).take n
  rw [Array.toList_extract, List.extract_eq_take_drop]
  simpa using this

theorem run_part_agg {t : TypeId} {d : TypeDesc} {i : TypeInfo} (hd : P.underlying t = some d) (ha : isAggD d = true) (hi : P.info? t = some i) (cs : Array Value) (off : Nat) :
    (part t cs off).run P w = .ok (.agg (cs.extract off (off + i.size))) w := by
  have hagg : (isAgg t).run P w = .ok true w := by
    rw [run_isAgg_info hd]; cases d <;> simp_all [isAggD]
  simp [part, hagg, run_sizeOf' hi]

theorem run_part_one {t : TypeId} {d : TypeDesc} (hd : P.underlying t = some d) (ha : isAggD d = false) {cs : Array Value} {off : Nat} {v : Value} (h : cs[off]? = some v) :
    (part t cs off).run P w = .ok v w := by
  have hagg : (isAgg t).run P w = .ok false w := by
    rw [run_isAgg_info hd]; cases d <;> simp_all [isAggD]
  simp [part, hagg, h]

theorem lcut_one {cs : List AVal} {v : AVal} {ccs : Array Value} {off : Nat} (h : lcut cs off 1 = some [v]) (hc : VRels g cs ccs.toList) : ∃ cv, ccs[off]? = some cv ∧ VRel g v cv := by
  obtain ⟨h1, h2⟩ := lcut_some h
  have hx : cs[off]? = some v := by
    have : ([v] : List AVal)[0]? = ((cs.drop off).take 1)[0]? := by rw [h2]
    simpa using this.symm
  obtain ⟨cv, hcv, hr⟩ := hc.get off v hx
  exact ⟨cv, by simpa using hcv, hr⟩

theorem ran_fldN (hw : WRel Γ g H w) {cs vs : List AVal} {cx : Value} (hx : VRel g (.agg cs) cx) {t : TypeId} {fs : Array Field} {k : Nat} {f : Field} {d : TypeDesc} {i : TypeInfo} (hu : P.underlying t = some (.struct fs))
    (hf : fs[k]? = some f) (hd : P.underlying f.type = some d) (ha : isAggD d = true) (hi : P.info? f.type = some i) (h : lcut cs f.offset i.size = some vs) :
    Ran Γ P (Instr.field t cx k) g H w (.agg vs) H := by
  obtain ⟨ccs, rfl, hc⟩ := hx
  refine .pure (cv := .agg (ccs.extract f.offset (f.offset + i.size))) ?_ hw ⟨_, rfl, lcut_rel h hc⟩
  simp only [Instr.field, Sem.run_bind, run_underlying hu, Result.andThen_ok, hf, asAgg, Sem.run_pure, run_part_agg hd ha hi]

theorem ran_fld1 (hw : WRel Γ g H w) {cs : List AVal} {v : AVal} {cx : Value} (hx : VRel g (.agg cs) cx) {t : TypeId} {fs : Array Field} {k : Nat} {f : Field} {d : TypeDesc} (hu : P.underlying t = some (.struct fs))
    (hf : fs[k]? = some f) (hd : P.underlying f.type = some d) (ha : isAggD d = false) (h : lcut cs f.offset 1 = some [v]) :
    Ran Γ P (Instr.field t cx k) g H w v H := by
  obtain ⟨ccs, rfl, hc⟩ := hx
  obtain ⟨cv, h1, h2⟩ := lcut_one h hc
  refine .pure (cv := cv) ?_ hw h2
  simp only [Instr.field, Sem.run_bind, run_underlying hu, Result.andThen_ok, hf, asAgg, Sem.run_pure, run_part_one hd ha h1]

theorem ran_idxs (hw : WRel Γ g H w) {s : List UInt8} {cx ci : Value} (hx : VRel g (.str s) cx) {t : TypeId} {k : IntKind} {n : Int} (hci : ci = .int k n) (hu : P.underlying t = some .string) (h0 : 0 ≤ n) {b : UInt8} (h : s[n.toNat]? = some b) :
    Ran Γ P (Instr.index t cx ci) g H w (.int .u8 b.toNat) H := by
  subst hci
  simp only [VRel] at hx; subst hx
  have hg : (ByteArray.mk s.toArray)[n.toNat]? = some b := by
    have hlt : n.toNat < s.length := by
      rcases Nat.lt_or_ge n.toNat s.length with h1 | h1
      · exact h1
      · rw [List.getElem?_eq_none h1] at h; cases h
    rw [ByteArray.getElem?_lt' _ _ (by simpa [ByteArray.size] using hlt)]
    rw [List.getElem?_eq_getElem hlt] at h
    rw [← h]; rfl
  refine .pure (cv := .int .u8 b.toNat) ?_ hw rfl
  simp only [Instr.index, asIntOf, Sem.run_bind, Sem.run_pure, Result.andThen_ok, run_underlying hu]
  rw [if_pos h0, hg]
  rfl

theorem ran_idxaN (hw : WRel Γ g H w) {cs vs : List AVal} {cx ci : Value} (hx : VRel g (.agg cs) cx) {t e : TypeId} {m : Nat} {d : TypeDesc} {i : TypeInfo} {k : IntKind} {n : Int} (hci : ci = .int k n) (hu : P.underlying t = some (.array m e))
    (hd : P.underlying e = some d) (ha : isAggD d = true) (hi : P.info? e = some i) (hn : 0 ≤ n ∧ n < m) (h : lcut cs (n.toNat * i.size) i.size = some vs) :
    Ran Γ P (Instr.index t cx ci) g H w (.agg vs) H := by
  subst hci
  obtain ⟨ccs, rfl, hc⟩ := hx
  refine .pure (cv := .agg (ccs.extract (n.toNat * i.size) (n.toNat * i.size + i.size))) ?_ hw ⟨_, rfl, lcut_rel h hc⟩
  simp only [Instr.index, asIntOf, Sem.run_bind, Sem.run_pure, Result.andThen_ok, run_underlying hu]
  rw [if_pos hn]
  simp only [Sem.run_bind, run_sizeOf' hi, Result.andThen_ok, run_part_agg hd ha hi]

theorem ran_idxa1 (hw : WRel Γ g H w) {cs : List AVal} {v : AVal} {cx ci : Value} (hx : VRel g (.agg cs) cx) {t e : TypeId} {m : Nat} {d : TypeDesc} {i : TypeInfo} {k : IntKind} {n : Int} (hci : ci = .int k n) (hu : P.underlying t = some (.array m e))
    (hd : P.underlying e = some d) (ha : isAggD d = false) (hi : P.info? e = some i) (hsz : i.size = 1) (hn : 0 ≤ n ∧ n < m) (h : lcut cs (n.toNat * i.size) i.size = some [v]) :
    Ran Γ P (Instr.index t cx ci) g H w v H := by
  subst hci
  obtain ⟨ccs, rfl, hc⟩ := hx
  rw [hsz] at h
  obtain ⟨cv, h1, h2⟩ := lcut_one h hc
  refine .pure (cv := cv) ?_ hw h2
  simp only [Instr.index, asIntOf, Sem.run_bind, Sem.run_pure, Result.andThen_ok, run_underlying hu]
  rw [if_pos hn]
  simp only [Sem.run_bind, run_sizeOf' hi, Result.andThen_ok, hsz, run_part_one hd ha h1]

theorem ran_rng (hw : WRel Γ g H w) {s : List UInt8} {cx : Value} (hx : VRel g (.str s) cx) {t : TypeId} (hu : P.underlying t = some .string) :
    Ran Γ P (Instr.range t cx) g H w (.ptr H.next 0) (H.new (.siter s 0)) := by
  simp only [VRel] at hx; subst hx
  have hf := hw.fresh H.next (Nat.le_refl _)
  obtain ⟨h1, h2⟩ := hw.newAt (o := .siter s 0) (w' := w.alloc (.stringIter ⟨s.toArray⟩ 0)) 0 H.next hf (Nat.le_refl _) (Nat.lt_succ_self _) (Nat.le_succ _) (fun x => AHeap.get_new _ _ _) (by rw [alloc_heap]; simp)
    (fun c hc => by rw [alloc_heap, Array.getElem?_push, if_neg (by omega)]) ⟨rfl, by rw [alloc_heap]; simp⟩ ⟨rfl, rfl⟩
  refine ⟨_, _, _, ?_, Gh.new_rel _ _ _, h1, h2⟩
  simp only [Instr.range, Sem.run_bind, run_underlying hu, Result.andThen_ok, Sem.run_pure, run_newObj]
  rfl

theorem run_getObj {r : Nat} {o : Obj} (h : w.heap[r]? = some o) (hc : ∀ c e f, o ≠ .cells c e f) : (getObj r).run P w = .ok o w := by
  simp only [getObj, Sem.run, h]

theorem run_setObj {r : Nat} {o o' : Obj} (h : w.heap[r]? = some o) (hc : ∀ c e f, o ≠ .cells c e f) : (setObj r o').run P w = .ok () { w with heap := w.heap.setIfInBounds r o' } := by
  simp only [setObj, Sem.run, h]

theorem ran_nxt (hw : WRel Γ g H w) {b pos : Nat} {s : List UInt8} {cx : Value} (hx : VRel g (.ptr b 0) cx) (hb : H.get b = some (.siter s pos)) (ty : TypeId) {v : AVal} {H' : AHeap}
    (h : (bif Nat.blt pos s.length then
          let r := Utf8.decode ⟨s.toArray⟩ pos
          some (AVal.tup [.bool true, i64v pos, .int .i32 r.1], H.put b (.siter s (pos + r.2)))
        else some (.tup [.bool false], H)) = some (v, H')) :
    Ran Γ P (Instr.next cx true ty) g H w v H' := by
  obtain ⟨a, rfl, hd, hm⟩ := hx
  obtain ⟨cb, base, hmu, hb0, ho⟩ := hw.own b _ hb
  have ha := hm cb base hmu
  subst hb0
  subst ha
  have hget := run_getObj (P := P) ho (by intro c e f h; cases h)
  have hsz : (ByteArray.mk s.toArray).size = s.length := by simp [ByteArray.size]
  cases hlt : Nat.blt pos s.length with
  | true =>
    rw [hlt] at h
    simp only [cond_true, Option.some.injEq, Prod.mk.injEq] at h
    obtain ⟨rfl, rfl⟩ := h
    have hl : pos < s.length := Nat.le_of_ble_eq_true hlt
    have hset := run_setObj (P := P) (o' := .stringIter ⟨s.toArray⟩ (pos + (Utf8.decode ⟨s.toArray⟩ pos).2)) ho (by intro c e f h; cases h)
    have hcb : cb < w.heap.size := hw.rng b cb 0 (hw.decl b (by rw [hb]; simp)) hmu
    obtain ⟨h1, h2⟩ := hw.upd (b := b) (o' := .siter s (pos + (Utf8.decode ⟨s.toArray⟩ pos).2)) (w' := { w with heap := w.heap.setIfInBounds cb (.stringIter ⟨s.toArray⟩ (pos + (Utf8.decode ⟨s.toArray⟩ pos).2)) }) (by rw [hb]; simp) hmu (by simp)
      (fun c hc => by rw [Array.getElem?_setIfInBounds, if_neg (Ne.symm hc)]) ⟨rfl, by rw [Array.getElem?_setIfInBounds]; simp [hcb]⟩ ⟨rfl, rfl⟩
    refine ⟨.tuple #[.bool true, goInt pos, .int .i32 (Utf8.decode ⟨s.toArray⟩ pos).1], _, g, ?_, ⟨_, rfl, _, _, rfl, rfl, _, _, rfl, rfl, _, _, rfl, rfl, rfl⟩, h1, h2⟩
    simp only [Instr.next, Sem.run_bind, Nat.zero_add, hget, Result.andThen_ok, hsz, Sem.run_ite]
    rw [if_pos hl]
    simp only [hset, Result.andThen_ok, Sem.run_pure]
  | false =>
    rw [hlt] at h
    simp only [cond_false, Option.some.injEq, Prod.mk.injEq] at h
    obtain ⟨rfl, rfl⟩ := h
    have hl : ¬ pos < s.length := fun hc => by rw [show Nat.blt pos s.length = true from Nat.ble_eq_true_of_le hc] at hlt; cases hlt
    refine .pure (cv := .tuple #[.bool false]) ?_ hw ⟨_, rfl, _, _, rfl, rfl, rfl⟩
    simp only [Instr.next, Sem.run_bind, Nat.zero_add, hget, Result.andThen_ok, hsz, Sem.run_ite]
    rw [if_neg hl]
    rfl

end
end Go.Aw

/- What the model's operations do, told of abstract values: fifth part: append, copy, clear, texts and bytes. -/
namespace Go.Aw

section
variable {Γ : Globs} {P : Program} {g : Gh} {H : AHeap} {w : World}

theorem run_app_fits {t u ty e : TypeId} {i : TypeInfo} {d : TypeDesc} (ht : P.underlying t = some (.slice e)) (hi : P.info? e = some i) (hu : P.underlying u = some d) (hd : ∀ k, d ≠ .int k)
    {base : Option Addr} {sLen sCap n : Nat} {x : Value} {news : Array Value} (hl : (Builtin.lenOf x).run P w = .ok n w) (hn : (Builtin.firstCells i.size n x).run P w = .ok news w) (hfit : sLen + n ≤ sCap)
    {w' : World} (hs : ∀ a, base = some a → (storeCells (a.add (sLen * i.size)) news.toList).run P w = .ok () w') (h0 : base = none → w' = w) :
    (Builtin.append_ #[t, u] ty #[.slice base sLen sCap, x]).run P w = .ok (.slice base (sLen + n) sCap) w' := by
  cases base with
  | none =>
    have := h0 rfl
    subst this
    simp [Builtin.append_, run_underlying ht, run_underlying hu, run_sizeOf' hi, hl, hn, hfit]
  | some a =>
    have hst := hs a rfl
    simp [Builtin.append_, run_underlying ht, run_underlying hu, run_sizeOf' hi, hl, hn, hfit, hst]

theorem run_app_grow {t u ty e : TypeId} {i : TypeInfo} {z : Value} {d : TypeDesc} (ht : P.underlying t = some (.slice e)) (hi : P.info? e = some i) (hz : i.zero = some z) (hu : P.underlying u = some d) (hd : ∀ k, d ≠ .int k)
    {base : Option Addr} {sLen sCap n : Nat} {x : Value} {olds news : Array Value} (hl : (Builtin.lenOf x).run P w = .ok n w)
    (hn : (Builtin.firstCells i.size n x).run P w.drew = .ok news w.drew) (ho : (Builtin.firstCells i.size sLen (.slice base sLen sCap)).run P w.drew = .ok olds w.drew)
    (hg : sCap < sLen + n) (hlim : sLen + n ≤ 16777216) (hb : i.bytes ≤ 65536) :
    ∃ c, sLen + n ≤ c ∧ (Builtin.append_ #[t, u] ty #[.slice base sLen sCap, x]).run P w =
      .ok (.slice (some ⟨w.heap.size, 0, none⟩) (sLen + n) c) (w.drew.alloc (.cells (olds ++ news ++ Builtin.zeroCells z.cells (c - (sLen + n))) e)) := by
  have hnf : ¬ (sLen + n ≤ sCap) := by omega
  have h63 : ¬ (9223372036854775807 < ((sLen : Int) + (n : Int))) := by omega
  have hfit : Builtin.nextslicecap (sLen + n) sCap * i.bytes ≤ 281474976710656 := growslice_fits hg (by
    have : (sLen + n) * i.bytes ≤ 16777216 * 65536 := Nat.mul_le_mul hlim hb
    omega)
  have h48 : ¬ (281474976710656 < Builtin.nextslicecap (sLen + n) sCap * i.bytes) := by omega
  refine ⟨grownCap w (sLen + n) sCap e, ?_, ?_⟩
  · unfold grownCap; simp only [Question.cut]; omega
  · simp [Builtin.append_, run_underlying ht, run_underlying hu, run_sizeOf' hi, typeInfo, zeroValue, hi, hz, hl, hnf, h63, h48, Question.forced, hn, ho, newRow, grownCap]

theorem drew_heap (w : World) : w.drew.heap = w.heap := rfl

theorem Stands.congr {w' : World} {a : Addr} {vs : List AVal} (h : Stands g w a vs) (hh : w'.heap = w.heap) : Stands g w' a vs := by
  intro i c hc
  obtain ⟨v, h1, h2⟩ := h i c hc
  exact ⟨v, by rw [World.cell?_congr (w := w) (by rw [hh])]; exact h1, h2⟩

/-- The first cells of what is appended, or of what it is appended to. -/
theorem run_first {x : AVal} {v : Value} {m n es : Nat} {vs : List AVal} (hw : WRel Γ g H w) (hx : VRel g x v) (hsl : slLen x = some m) (h : rdc H x (n * es) = some vs) {w' : World} (hh : w'.heap = w.heap) :
    ∃ news : Array Value, VRels g vs news.toList ∧ (Builtin.firstCells es n v).run P w' = .ok news w' := by
  obtain ⟨h1, h2⟩ := rdc_stands hw hx h
  have hv : ∃ a c, v = .slice a m c := by
    cases x <;> simp only [slLen, reduceCtorEq, Option.some.injEq] at hsl
    · subst hsl; simp only [VRel] at hx; exact ⟨_, _, hx⟩
    · subst hsl; obtain ⟨a, c, rfl, _⟩ := hx; exact ⟨_, _, rfl⟩
    · subst hsl; obtain ⟨a, c, rfl, _⟩ := hx; exact ⟨_, _, rfl⟩
  obtain ⟨a, c, rfl⟩ := hv
  rcases Nat.eq_zero_or_pos (n * es) with e | e
  · have : vs = [] := List.eq_nil_of_length_eq_zero (by rw [h1, e])
    subst this
    refine ⟨#[], rfl, ?_⟩
    cases a with
    | none => simp [Builtin.firstCells]
    | some a => simp [Builtin.firstCells, e, loadCells, loadCellsFrom]
  · obtain ⟨b, hb, hs⟩ := h2 e
    cases a with
    | none => cases hb
    | some a =>
      cases hb
      obtain ⟨cs, hr, hv⟩ := (hs.congr hh).run (P := P) (n * es) h1
      exact ⟨cs, hv, by simpa [Builtin.firstCells] using hr⟩

theorem run_lenOf {x : AVal} {v : Value} {n : Nat} (hx : VRel g x v) (hsl : slLen x = some n) : (Builtin.lenOf v).run P w = .ok n w ∧ ∃ a c, v = .slice a n c := by
  cases x <;> simp only [slLen, reduceCtorEq, Option.some.injEq] at hsl
  · subst hsl; simp only [VRel] at hx; subst hx; exact ⟨rfl, _, _, rfl⟩
  · subst hsl; obtain ⟨a, c, rfl, _⟩ := hx; exact ⟨rfl, _, _, rfl⟩
  · subst hsl; obtain ⟨a, c, rfl, _⟩ := hx; exact ⟨rfl, _, _, rfl⟩

/-- A new row that begins with cells that are told. -/
theorem WRel.newRow2 (hw : WRel Γ g H w) {cs : List AVal} {olds rest : Array Value} (elem : TypeId) (hc : VRels g cs olds.toList) :
    WRel Γ (g.new H.next w.heap.size 0 (olds ++ rest).size) (H.new (.cells cs)) (w.alloc (.cells (olds ++ rest) elem)) ∧
      Ext g H w (g.new H.next w.heap.size 0 (olds ++ rest).size) (H.new (.cells cs)) (w.alloc (.cells (olds ++ rest) elem)) := by
  have hl : cs.length = olds.size := by rw [← hc.length]; simp
  refine hw.newRow elem (by simp; omega) fun i c hi => ?_
  obtain ⟨v, hv, hr⟩ := hc.arr i c hi
  have hlt : i < olds.size := by
    rcases Nat.lt_or_ge i olds.size with h1 | h1
    · exact h1
    · rw [Array.getElem?_eq_none h1] at hv; cases hv
  exact ⟨v, by rw [Array.getElem?_append_left hlt]; exact hv, hr⟩

theorem WRel.drew (hw : WRel Γ g H w) : WRel Γ g H w.drew ∧ Ext g H w g H w.drew := hw.same (drew_heap w) ⟨rfl, rfl⟩

/-- The growing append where the old row may live on, or the new one stand in its place. -/
theorem ran_aapp (hw : WRel Γ g H w) {es n : Nat} {x v : AVal} {cx cy : Value} {new : List AVal} {H' : AHeap} (hx : VRel g x cx) (h : aapp H es x n new = some (v, H'))
    {t u ty e : TypeId} {i : TypeInfo} {z : Value} {d : TypeDesc} (ht : P.underlying t = some (.slice e)) (hi : P.info? e = some i) (hz : i.zero = some z) (hzs : z.cells.size = i.size) (hes : i.size = es) (hb : i.bytes ≤ 65536)
    (hu : P.underlying u = some d) (hd : ∀ k, d ≠ .int k) (hl : ∀ w, (Builtin.lenOf cy).run P w = .ok n w)
    (hn : ∀ w' : World, w'.heap = w.heap → ∃ news : Array Value, VRels g new news.toList ∧ (Builtin.firstCells es n cy).run P w' = .ok news w') (hnl : new.length = n * es) :
    Ran Γ P (Builtin.append_ #[t, u] ty #[cx, cy]) g H w v H' := by
  subst hes
  unfold aapp at h
  have hzc : ∀ k, (Builtin.zeroCells z.cells k).size = k * i.size := fun k => by simp [Builtin.zeroCells, hzs]
  cases hn0 : Nat.beq n 0 with
  | true =>
    rw [hn0] at h
    simp only [cond_true] at h
    have hn0' := Nat.eq_of_beq_eq_true hn0
    subst hn0'
    obtain ⟨news, hv, hf⟩ := hn w rfl
    have hnil : new = [] := List.eq_nil_of_length_eq_zero (by simpa using hnl)
    subst hnil
    have hnn : news.toList = [] := hv
    have main : ∀ (base : Option Addr) (len cap : Nat), len ≤ cap → (Builtin.append_ #[t, u] ty #[.slice base len cap, cy]).run P w = .ok (.slice base len cap) w := by
      intro base len cap hle
      exact run_app_fits ht hi hu hd (hl w) hf (by omega) (w' := w) (fun a _ => by rw [hnn]; rfl) (fun _ => rfl)
    split at h <;> cases h
    · simp only [VRel] at hx; subst hx
      exact .pure (main none 0 0 (Nat.le_refl _)) hw rfl
    · have hx' := hx
      obtain ⟨a, c, rfl, h1, h2, h3⟩ := hx
      exact .pure (main (some a) _ c (by omega)) hw hx'
    · have hx' := hx
      obtain ⟨a, c, rfl, h1, h2⟩ := hx
      exact .pure (main a _ c h1) hw hx'
  | false =>
    rw [hn0] at h
    simp only [cond_false] at h
    have hnpos : 0 < n := by
      rcases Nat.eq_zero_or_pos n with e | e
      · subst e; cases hn0
      · exact e
    obtain ⟨hwd, hed⟩ := hw.drew
    -- the growing case
    have grow : ∀ (base : Option Addr) (len cap : Nat) (olds : Array Value) (old : List AVal), VRels g old olds.toList → (Builtin.firstCells i.size len (.slice base len cap)).run P w.drew = .ok olds w.drew → old.length = len * i.size →
        cap < len + n → len + n ≤ limit → ∃ c news w', (Builtin.append_ #[t, u] ty #[.slice base len cap, cy]).run P w = .ok (.slice (some ⟨w.heap.size, 0, none⟩) (len + n) c) w' ∧ len + n ≤ c ∧
          VRels g (old ++ new) (olds ++ news : Array Value).toList ∧ w' = w.drew.alloc (.cells ((olds ++ news) ++ Builtin.zeroCells z.cells (c - (len + n))) e) ∧
          ((olds ++ news) ++ Builtin.zeroCells z.cells (c - (len + n))).size = c * i.size := by
      intro base len cap olds old ho hf hol hlt hlim
      obtain ⟨news, hv, hf2⟩ := hn w.drew rfl
      obtain ⟨c, hc, hr⟩ := run_app_grow (w := w) (ty := ty) ht hi hz hu hd (hl w) hf2 hf hlt hlim hb
      refine ⟨c, news, _, hr, hc, ?_, rfl, ?_⟩
      · rw [Array.toList_append]; exact ho.append hv
      · have e1 : olds.size = len * i.size := by rw [← hol, ← ho.length]; simp
        have e2 : news.size = n * i.size := by rw [← hnl, ← hv.length]; simp
        simp only [Array.size_append, e1, e2, hzc]
        rw [← Nat.add_mul, ← Nat.add_mul]; congr 1; omega
    split at h
    · -- nil
      cases hle : Nat.ble n limit with
      | false => rw [hle] at h; cases h
      | true =>
        rw [hle] at h
        simp only [cond_true, Option.some.injEq, Prod.mk.injEq] at h
        obtain ⟨rfl, rfl⟩ := h
        simp only [VRel] at hx; subst hx
        obtain ⟨c, news, w', hr, hc, hv, hw', hs⟩ := grow none 0 0 #[] [] rfl (by simp [Builtin.firstCells]) (by simp) (by omega) (by have := Nat.le_of_ble_eq_true hle; omega)
        obtain ⟨h3, h4⟩ := hwd.newRow2 (rest := Builtin.zeroCells z.cells (c - (0 + n))) e hv
        rw [hs] at h3 h4
        rw [← hw'] at h3 h4
        rw [Nat.zero_add] at hr
        exact ⟨_, _, _, hr, Gh.new_sl (Nat.le_refl _) (by omega) (fun h => by cases h) (Nat.le_refl _), h3, hed.trans h4⟩
    · -- a row of the heap's
      rename_i b off es' len cap ex
      cases hcond : (Nat.beq i.size es' && Nat.ble (len + n) limit && lall ascal new) with
      | false => rw [hcond] at h; cases h
      | true =>
        rw [hcond] at h
        simp only [cond_true] at h
        rw [Bool.and_eq_true, Bool.and_eq_true] at hcond
        have hes' := Nat.eq_of_beq_eq_true hcond.1.1
        have hlim := Nat.le_of_ble_eq_true hcond.1.2
        have hscal := hcond.2
        subst hes'
        have hx' := hx
        obtain ⟨a, c, rfl, h1, h2, h3, hdecl, hm⟩ := hx
        have hfits : ∀ H'' : AHeap, wrc H (.sl b off i.size len cap ex) (len * i.size) new = some H'' → len + n ≤ c →
            ∃ w', (Builtin.append_ #[t, u] ty #[.slice (some a) len c, cy]).run P w = .ok (.slice (some a) (len + n) c) w' ∧ WRel Γ g H'' w' ∧ Ext g H w g H'' w' := by
          intro H'' hwr hle
          obtain ⟨news, hv, hf⟩ := hn w rfl
          by_cases hnil : new = []
          · subst hnil
            have hnn : news.toList = [] := hv
            have : H'' = H := by simp [wrc, lall] at hwr; exact hwr.symm
            subst this
            exact ⟨w, run_app_fits ht hi hu hd (hl w) hf hle (fun a _ => by rw [hnn]; rfl) (fun h => by cases h), hw, .refl _ _ _⟩
          · obtain ⟨a', ha', w', hr, e1, e2⟩ := wrc_run (P := P) hw hx' hv hwr hnil
            cases ha'
            exact ⟨w', run_app_fits ht hi hu hd (hl w) hf hle (fun a' ha => by cases ha; exact hr) (fun h => by cases h), e1, e2⟩
        cases hcap : Nat.ble (len + n) cap with
        | true =>
          rw [hcap] at h
          simp only [cond_true, Option.map_eq_some_iff, Prod.mk.injEq] at h
          obtain ⟨H'', hwr, rfl, rfl⟩ := h
          have hle := Nat.le_of_ble_eq_true hcap
          obtain ⟨w', hr, e1, e2⟩ := hfits _ hwr (by omega)
          exact ⟨_, w', g, hr, ⟨a, c, rfl, hle, h2, h3, hdecl, hm⟩, e1, e2⟩
        | false =>
          rw [hcap] at h
          simp only [cond_false, Option.bind_eq_some_iff] at h
          obtain ⟨old, hold, h⟩ := h
          have hcap' : cap < len + n := by
            rcases Nat.lt_or_ge cap (len + n) with h5 | h5
            · exact h5
            · rw [Nat.ble_eq_true_of_le h5] at hcap; cases hcap
          obtain ⟨olds, ho1, ho2⟩ := run_first (P := P) (w' := w.drew) hw hx' rfl hold rfl
          have ho2' : (Builtin.firstCells i.size len (.slice (some a) len c)).run P w.drew = .ok olds w.drew := ho2
          have holl := (rdc_stands hw hx' hold).1
          have realloc : len + n > c → ∀ Hk : AHeap, (∀ k o, Hk.get k = some o → H.get k = some o) → Hk.next = H.next →
              ∃ cv w' g', (Builtin.append_ #[t, u] ty #[.slice (some a) len c, cy]).run P w = .ok cv w' ∧ VRel g' (.sl H.next 0 i.size (len + n) (len + n) false) cv ∧
                WRel Γ g' (Hk.new (.cells (old ++ new))) w' ∧ Ext g H w g' (Hk.new (.cells (old ++ new))) w' := by
            intro hgt Hk hsub hnext
            obtain ⟨c', news, w', hr, hc, hv, hw', hs⟩ := grow (some a) len c olds old ho1 ho2' holl hgt hlim
            have hwk := hwd.sub hsub (by rw [hnext]; exact Nat.le_refl _)
            obtain ⟨h6, h7⟩ := hwk.newRow2 (rest := Builtin.zeroCells z.cells (c' - (len + n))) e hv
            rw [hs] at h6 h7
            rw [← hw'] at h6 h7
            rw [hnext] at h6 h7
            exact ⟨_, _, _, hr, Gh.new_sl (Nat.le_refl _) hc (fun h => by cases h) (Nat.le_refl _), h6, (hed.trans (Ext.sub hsub (by rw [hnext]; exact Nat.le_refl _))).trans h7⟩
          cases ex with
          | true =>
            simp only [cond_true, Option.some.injEq, Prod.mk.injEq] at h
            obtain ⟨rfl, rfl⟩ := h
            have hce : c = cap := h3 rfl
            obtain ⟨cv, w', g', e1, e2, e3, e4⟩ := realloc (by omega) H (fun _ _ h => h) rfl
            exact ⟨cv, w', g', e1, e2, e3, e4⟩
          | false =>
            simp only [cond_false] at h
            split at h
            · rename_i cs hget
              simp only [Option.some.injEq, Prod.mk.injEq] at h
              obtain ⟨rfl, rfl⟩ := h
              have hdelsub : ∀ k o, (H.del b).get k = some o → H.get k = some o := by
                intro k o hk
                rw [AHeap.get_del] at hk
                split at hk
                · cases hk
                · exact hk
              by_cases hgt : len + n > c
              · exact realloc hgt (H.del b) hdelsub rfl
              · -- it may stand in the old row's place
                obtain ⟨news, hv, hf⟩ := hn w rfl
                obtain ⟨cb, base, hmu, ho⟩ := hw.own b _ hget
                obtain ⟨hadr, hspan⟩ := hm cb base hmu (by omega)
                obtain ⟨ccs, elem, lo, hhi, k1, k2, k3, k4, k5⟩ := ho
                have hnsz : news.toList.length = n * i.size := by rw [hv.length]; exact hnl
                have hspan2 : base + off + len * i.size + n * i.size ≤ ccs.size := by
                  rw [k2]
                  have : (len + n) * i.size ≤ c * i.size := Nat.mul_le_mul_right _ (by omega)
                  rw [Nat.add_mul] at this; omega
                have hone : ∀ cv ∈ news.toList, cv.oneCell' = true := by
                  intro cv hcv
                  obtain ⟨j, hj, rfl⟩ := List.mem_iff_getElem.1 hcv
                  have hj' : j < new.length := by rw [← hv.length]; exact hj
                  obtain ⟨v', g1, g2⟩ := hv.get j new[j] (List.getElem?_eq_getElem hj')
                  rw [List.getElem?_eq_getElem hj] at g1; cases g1
                  exact ascal_one (lall_mem hscal _ (List.getElem_mem hj')) g2
                obtain ⟨ccs', w', r1, r2, r3, r4, rio⟩ := run_storeRow P cb (base + off + len * i.size) elem lo hhi news.toList 0 ccs w k1 k3 (by rw [hnsz]; omega) hone
                have hcb : cb < w.heap.size := hw.rng b cb base hdecl hmu
                have hrun := run_app_fits (ty := ty) (base := some a) (sLen := len) (sCap := c) ht hi hu hd (hl w) hf (by omega) (w' := w') (fun a' ha => by
                  cases ha
                  rw [hadr, Addr.add_eq]
                  exact r1) (fun h => by cases h)
                have hle := hw.leSteal b cb (base + off)
                obtain ⟨e1, e2⟩ := hw.stealAt (b := b) (o' := .cells (old ++ new)) (nbase := base + off) (by rw [hget]; simp) hmu (by rw [r2]; simp)
                  (fun c hc => by rw [r2, Array.getElem?_setIfInBounds, if_neg (Ne.symm hc)])
                  ⟨ccs', elem, lo, hhi, by rw [r2, Array.getElem?_setIfInBounds]; simp [hcb], by rw [r3]; exact k2, by rw [r3]; exact k3, by rw [List.length_append, holl, hnl, r3]; omega, fun j cj hj => by
                    rw [r4]
                    rcases Nat.lt_or_ge j (len * i.size) with hjl | hjl
                    · rw [List.getElem?_append_left (by rw [holl]; exact hjl)] at hj
                      rw [if_neg (by omega)]
                      have hcut : lcut cs off (len * i.size) = some old := by
                        unfold rdc at hold
                        have : Nat.beq (len * i.size) 0 = false := by
                          cases hq : len * i.size with
                          | zero => omega
                          | succ q => rfl
                        rw [this] at hold
                        simp only [cond_false] at hold
                        cases hq : Nat.ble (len * i.size) (cap * i.size) with
                        | false => rw [hq] at hold; cases hold
                        | true => rw [hq, hget] at hold; exact hold
                      obtain ⟨q1, q2⟩ := lcut_some hcut
                      rw [q2, List.getElem?_take, if_pos hjl, List.getElem?_drop] at hj
                      obtain ⟨v', p1, p2⟩ := k5 _ cj hj
                      exact ⟨v', by rw [← p1]; congr 1; omega, p2.mono hle _ _⟩
                    · rw [List.getElem?_append_right (by rw [holl]; exact hjl), holl] at hj
                      obtain ⟨v', p1, p2⟩ := hv.get _ cj hj
                      have hjn : j - len * i.size < news.toList.length := by
                        rcases Nat.lt_or_ge (j - len * i.size) news.toList.length with h9 | h9
                        · exact h9
                        · rw [List.getElem?_eq_none h9] at p1; cases p1
                      rw [if_pos (by omega)]
                      exact ⟨v', by rw [← p1]; congr 1; omega, p2.mono hle _ _⟩⟩ rio
                refine ⟨_, w', g.steal H.next b cb (base + off), hrun, ⟨a, c, rfl, Nat.le_refl _, by omega, (fun h => by cases h), Or.inr rfl, fun cb' base' hm' _ => ?_⟩, e1, e2⟩
                have : (if H.next = H.next then some (cb, base + off) else if H.next = b then none else g.mu H.next) = some (cb', base') := hm'
                rw [if_pos rfl] at this; cases this
                exact ⟨by rw [hadr]; rfl, by show _ ≤ g.sz cb; omega⟩
            · cases h
    · cases h

end
end Go.Aw

/- What the model's operations do, told of abstract values: sixth part: copy, clear, texts and bytes, least and greatest. -/
namespace Go.Aw

section
variable {Γ : Globs} {P : Program} {g : Gh} {H : AHeap} {w : World}

theorem ran_cpy (hw : WRel Γ g H w) {es dn sn : Nat} {x y : AVal} {cx cy : Value} {vs : List AVal} {H' : AHeap} (hx : VRel g x cx) (hy : VRel g y cy) (hdn : slLen x = some dn) (hsn : slLen y = some sn)
    (hv : rdc H y (min sn dn * es) = some vs) (h : wrc H x 0 vs = some H') {t u ty e : TypeId} {i : TypeInfo} (ht : P.underlying t = some (.slice e)) (hi : P.info? e = some i) (hes : i.size = es) :
    Ran Γ P (Builtin.copy_ #[t, u] ty #[cx, cy]) g H w (i64v (min sn dn)) H' := by
  subst hes
  obtain ⟨hl, a', c', hcy⟩ := run_lenOf (P := P) (w := w) hy hsn
  obtain ⟨_, a, c, hcx⟩ := run_lenOf (P := P) (w := w) hx hdn
  obtain ⟨news, hn, hf⟩ := run_first (P := P) (w' := w) hw hy hsn hv rfl
  have hmin : Nat.min sn dn = min sn dn := rfl
  by_cases hnil : vs = []
  · subst hnil
    have hnn : news.toList = [] := hn
    have : H' = H := by simp [wrc, lall] at h; exact h.symm
    subst this
    refine .pure (cv := goInt ((min sn dn : Nat) : Int)) ?_ hw rfl
    rw [hcx] at *
    cases a with
    | none => simp [Builtin.copy_, run_underlying ht, run_sizeOf' hi, hl, hmin, hf]
    | some a => simp [Builtin.copy_, run_underlying ht, run_sizeOf' hi, hl, hmin, hf, hnn, storeCells]
  · obtain ⟨b, hb, w', hr, h1, h2⟩ := wrc_run (P := P) hw hx hn h hnil
    subst hcx
    cases a with
    | none => cases hb
    | some a =>
      have hb' : a = b := Option.some.inj hb
      subst hb'
      have : a.add 0 = a := by simp [Addr.add]
      rw [this] at hr
      refine ⟨goInt ((min sn dn : Nat) : Int), w', g, ?_, rfl, h1, h2⟩
      simp [Builtin.copy_, run_underlying ht, run_sizeOf' hi, hl, hmin, hf, hr]

theorem zeroCells_made (z : Array Value) (n : Nat) : Builtin.zeroCells z n = madeCells z (n * z.size) := rfl

theorem ran_clr (hw : WRel Γ g H w) {zs : List AVal} {n : Nat} {x : AVal} {cx : Value} {H' : AHeap} (hx : VRel g x cx) (hn : slLen x = some n) (h0 : n ≠ 0) (h : wrc H x 0 (lrep zs n) = some H')
    {t ty e : TypeId} {i : TypeInfo} {z : Value} (ht : P.underlying t = some (.slice e)) (hi : P.info? e = some i) (hz : i.zero = some z) (hzs : VRels g zs z.cells.toList) (hpos : 0 < z.cells.size) :
    Ran Γ P (Builtin.clear_ #[t] ty #[cx]) g H w (.tup []) H' := by
  obtain ⟨_, a, c, hcx⟩ := run_lenOf (P := P) (w := w) hx hn
  have hv := lrep_rel hzs n
  have hne : lrep zs n ≠ [] := by
    intro hc
    have := lrep_length zs n
    rw [hc] at this
    have hl : zs.length = z.cells.size := by rw [← hzs.length]; simp
    rw [hl] at this
    rcases Nat.mul_eq_zero.1 this.symm with h1 | h1
    · exact h0 h1
    · omega
  obtain ⟨b, hb, w', hr, h1, h2⟩ := wrc_run (P := P) hw hx hv h hne
  subst hcx
  cases a with
  | none => cases hb
  | some a =>
    have hb' : a = b := Option.some.inj hb
    subst hb'
    have : a.add 0 = a := by simp [Addr.add]
    rw [this] at hr
    rw [← zeroCells_made] at hr
    refine ⟨.tuple #[], w', g, ?_, ⟨_, rfl, rfl⟩, h1, h2⟩
    cases n with
    | zero => exact absurd rfl h0
    | succ n => simp [Builtin.clear_, run_underlying ht, zeroValue, typeInfo, hi, hz, hr]

theorem ran_clr0 (hw : WRel Γ g H w) {x : AVal} {cx : Value} (hx : VRel g x cx) (hn : slLen x = some 0) {t ty e : TypeId} (ht : P.underlying t = some (.slice e)) :
    Ran Γ P (Builtin.clear_ #[t] ty #[cx]) g H w (.tup []) H := by
  obtain ⟨_, a, c, hcx⟩ := run_lenOf (P := P) (w := w) hx hn
  subst hcx
  refine .pure (cv := .tuple #[]) ?_ hw ⟨_, rfl, rfl⟩
  cases a <;> simp [Builtin.clear_, run_underlying ht]

theorem ofBytes_rel : ∀ {cs : List AVal} {s : List UInt8} {vs : List Value}, ofBytes cs = some s → VRels g cs vs → ∃ ns : List Int, vs = ns.map (Value.int .u8) ∧ s = ns.map fun n => UInt8.ofNat n.toNat
  | [], s, vs, h, hv => by
    rw [ofBytes] at h; cases h
    exact ⟨[], hv, rfl⟩
  | c :: cs, s, vs, h, hv => by
    rw [VRels] at hv
    obtain ⟨v, vs', rfl, h1, h2⟩ := hv
    cases c with
    | int k n =>
      cases k <;> simp only [ofBytes, reduceCtorEq] at h
      rw [Option.map_eq_some_iff] at h
      obtain ⟨s', h3, rfl⟩ := h
      obtain ⟨ns, e1, e2⟩ := ofBytes_rel h3 h2
      simp only [VRel] at h1
      exact ⟨n :: ns, by rw [h1, e1]; rfl, by rw [e2]; rfl⟩
    | _ => simp [ofBytes] at h

theorem push_fold : ∀ (ns : List Int) (s : List UInt8), ns.foldl (fun (r : ByteArray) n => r.push (UInt8.ofNat n.toNat)) ⟨s.toArray⟩ = ⟨(s ++ ns.map fun n => UInt8.ofNat n.toNat).toArray⟩
  | [], s => by simp
  | n :: ns, s => by
    rw [List.foldl_cons]
    have : (ByteArray.mk s.toArray).push (UInt8.ofNat n.toNat) = ⟨(s ++ [UInt8.ofNat n.toNat]).toArray⟩ := by
      apply ByteArray.ext; simp [ByteArray.push]
    rw [this, push_fold ns]
    simp

theorem ran_cvbs (hw : WRel Γ g H w) {x : AVal} {cx : Value} {n : Nat} {cs : List AVal} {s : List UInt8} (hx : VRel g x cx) (hn : slLen x = some n) (hr : rdc H x n = some cs) (hs : ofBytes cs = some s)
    {src dst e : TypeId} (h1 : P.underlying src = some (.slice e)) (h2 : P.underlying e = some (.int .u8)) (h3 : P.underlying dst = some .string) :
    Ran Γ P (convert src dst cx) g H w (.str s) H := by
  obtain ⟨hl, a, c, rfl⟩ := run_lenOf (P := P) (w := w) hx hn
  refine .pure (cv := .string ⟨s.toArray⟩) ?_ hw rfl
  rw [run_convert_bytes_string w src dst e a n c h1 h2 h3]
  obtain ⟨g1, g2⟩ := rdc_stands hw hx hr
  cases a with
  | none =>
    have hn0 : n = 0 := by
      rcases Nat.eq_zero_or_pos n with e | e
      · exact e
      · obtain ⟨b, hb, _⟩ := g2 e; cases hb
    subst hn0
    have : cs = [] := List.eq_nil_of_length_eq_zero g1
    subst this
    cases hs
    simp [Conv.bytesToString]; rfl
  | some a =>
    have hload : ∃ arr : Array Value, (loadCells a n).run P w = .ok arr w ∧ VRels g cs arr.toList := by
      rcases Nat.eq_zero_or_pos n with e | e
      · subst e
        have : cs = [] := List.eq_nil_of_length_eq_zero g1
        subst this
        exact ⟨#[], rfl, rfl⟩
      · obtain ⟨b, hb, hst⟩ := g2 e
        cases hb
        exact hst.run n g1
    obtain ⟨arr, hrun, hv⟩ := hload
    obtain ⟨ns, e1, e2⟩ := ofBytes_rel hs hv
    have : arr = (ns.map (Value.int .u8)).toArray := Array.ext' (by simpa using e1)
    rw [this] at hrun
    rw [run_bytesToString w a n c ns hrun]
    have := push_fold ns []
    have he : (ByteArray.mk ([] : List UInt8).toArray) = ByteArray.empty := rfl
    rw [he] at this
    rw [this, e2]; rfl

theorem bytesOf_rel : ∀ (s : List UInt8), VRels g (bytesOf s) (s.map fun b => Value.int .u8 b.toNat)
  | [] => rfl
  | _ :: s => ⟨_, _, rfl, rfl, bytesOf_rel s⟩

theorem bytesOf_length : ∀ (s : List UInt8), (bytesOf s).length = s.length
  | [] => rfl
  | _ :: s => by simp [bytesOf, bytesOf_length s]

theorem ran_cvsb (hw : WRel Γ g H w) {s : List UInt8} {cx : Value} (hx : VRel g (.str s) cx) {src dst e : TypeId} (h1 : P.underlying src = some .string) (h2 : P.underlying dst = some (.slice e))
    (h3 : P.underlying e = some (.int .u8)) : Ran Γ P (convert src dst cx) g H w (.sl H.next 0 1 s.length s.length false) (H.new (.cells (bytesOf s))) := by
  simp only [VRel] at hx; subst hx
  obtain ⟨hwd, hed⟩ := hw.drew
  have hsz : (ByteArray.mk s.toArray).size = s.length := by simp [ByteArray.size]
  have hconv : (convert src dst (.string ⟨s.toArray⟩)).run P w = (Conv.stringToBytes e ⟨s.toArray⟩).run P w := by
    simp [convert, run_underlying h1, run_underlying h2, run_underlying h3]
  -- the row
  have hc : ∃ c, s.length ≤ c ∧ (Question.appendCap s.length 0 e).cut (w.tape w.drawn (.appendCap s.length 0 e)) = c := ⟨_, by simp only [Question.cut]; omega, rfl⟩
  obtain ⟨c, hle, hcut⟩ := hc
  let arr : Array Value := (s.map fun b => Value.int .u8 b.toNat).toArray ++ Array.replicate (c - s.length) (.int .u8 0)
  have harr : arr.size = c := by simp [arr]; omega
  let w1 := w.drew.alloc (.cells arr e)
  let w2 := w1.freeze { block := w.heap.size, off := c } 1
  have hw2 : w2.heap = w.heap.push (.cells arr e (c, c + 1)) := by
    have e1 : w1.heap = w.heap.push (.cells arr e) := rfl
    refine Array.ext_getElem? fun j => ?_
    show (World.freeze w1 _ 1).heap[j]? = _
    rw [World.freeze, if_neg (by decide)]
    simp only
    rw [Array.getElem?_modify, e1, Array.getElem?_push, Array.getElem?_push]
    by_cases ej : j = w.heap.size
    · subst ej; simp
    · rw [if_neg ej, if_neg (Ne.symm ej), if_neg ej]
  have hf := hw.fresh H.next (Nat.le_refl _)
  obtain ⟨h6, h7⟩ := hw.newAt (o := .cells (bytesOf s)) (w' := w2) c H.next hf (Nat.le_refl _) (Nat.lt_succ_self _) (Nat.le_succ _) (fun x => AHeap.get_new _ _ _) (by rw [hw2]; simp)
    (fun k hk => by rw [hw2, Array.getElem?_push, if_neg (by omega)])
    ⟨arr, e, c, c + 1, by rw [hw2]; simp, by simp [Gh.new, harr], fun j hj => by omega, by rw [bytesOf_length, harr]; omega, fun j cj hj => by
      obtain ⟨v', p1, p2⟩ := (bytesOf_rel (g := g) s).get j cj hj
      refine ⟨v', ?_, p2.mono (hw.leNew _ _ hf) _ _⟩
      have hjl : j < (s.map fun b => Value.int .u8 b.toNat).length := by
        rcases Nat.lt_or_ge j (s.map fun b => Value.int .u8 b.toNat).length with h9 | h9
        · exact h9
        · rw [List.getElem?_eq_none h9] at p1; cases p1
      show arr[0 + j]? = _
      rw [Nat.zero_add, Array.getElem?_append_left (by simpa using hjl)]
      simpa using p1⟩ ⟨by show (World.freeze w1 _ 1).os = _; rw [World.freeze, if_neg (by decide)]; rfl, by show (World.freeze w1 _ 1).output = _; rw [World.freeze, if_neg (by decide)]; rfl⟩
  refine ⟨.slice (some ⟨w.heap.size, 0, none⟩) s.length c, w2, _, ?_, Gh.new_sl (Nat.le_refl _) hle (fun h => by cases h) (by omega), h6, h7⟩
  rw [hconv]
  have hdata : (ByteArray.mk s.toArray).data.map (fun b => Value.int .u8 b.toNat) = (s.map fun b => Value.int .u8 b.toNat).toArray := by simp
  have hshape : w1.shape? w.heap.size = some (e, c) := by
    have e1 : w1.heap = w.heap.push (.cells arr e) := rfl
    simp only [World.shape?, e1]
    simp [harr]
  simp only [Conv.stringToBytes, Sem.run_bind, run_choose, Question.forced, Bool.false_eq_true, if_false, Result.andThen_ok, hsz, hcut, hdata]
  show ((newRow e arr).run P w.drew).andThen _ = _
  rw [run_newRow']
  simp only [Result.andThen_ok, markStringish, Sem.run_bind, run_shape]
  show ((match (w1.shape? w.heap.size) with | some (_, n) => freeze { block := w.heap.size, off := n } 1 | _ => pure () : Sem Unit).run P w1).andThen _ = _
  rw [hshape]
  rfl

theorem ran_apps (hw : WRel Γ g H w) {x v : AVal} {s : List UInt8} {cx cy : Value} {H' : AHeap} (hx : VRel g x cx) (hy : VRel g (.str s) cy) (h : aapp H 1 x s.length (bytesOf s) = some (v, H'))
    {t u ty e : TypeId} {i : TypeInfo} {z : Value} (ht : P.underlying t = some (.slice e)) (hi : P.info? e = some i) (hz : i.zero = some z) (hzs : z.cells.size = i.size) (hes : i.size = 1) (hb : i.bytes ≤ 65536)
    (hu : P.underlying u = some .string) : Ran Γ P (Builtin.append_ #[t, u] ty #[cx, cy]) g H w v H' := by
  simp only [VRel] at hy; subst hy
  have hsz : (ByteArray.mk s.toArray).size = s.length := by simp [ByteArray.size]
  refine ran_aapp hw hx h ht hi hz hzs hes hb hu (fun k h => by cases h) (fun w => by simp [Builtin.lenOf, hsz]) (fun w' _ => ?_) (by rw [bytesOf_length]; omega)
  refine ⟨(s.map fun b => Value.int .u8 b.toNat).toArray, by simpa using bytesOf_rel s, ?_⟩
  simp only [Builtin.firstCells, Sem.run_pure]
  congr 1
  apply Array.ext'
  have : (ByteArray.mk s.toArray).extract 0 s.length = ⟨s.toArray⟩ := by
    apply ByteArray.ext; apply Array.ext'; simp [List.extract_eq_take_drop]
  rw [this]
  simp

theorem run_mins {k : IntKind} : ∀ (vs : List AVal) (a : Int) (v : AVal) (cvs : List Value), minInts k a vs = some v → VRels g vs cvs →
    ∃ cv, (cvs.foldlM Builtin.min2 (.int k a) : Sem Value).run P w = .ok cv w ∧ VRel g v cv
  | [], a, v, cvs, h, hv => by
    rw [minInts] at h; cases h
    rw [VRels] at hv; subst hv
    exact ⟨_, rfl, rfl⟩
  | x :: vs, a, v, cvs, h, hv => by
    rw [VRels] at hv
    obtain ⟨cv, cvs', rfl, h1, h2⟩ := hv
    cases x with
    | int k' b =>
      rw [minInts] at h
      simp only [VRel] at h1; subst h1
      obtain ⟨cv', e1, e2⟩ := run_mins vs _ v cvs' h h2
      refine ⟨cv', ?_, e2⟩
      simp only [List.foldlM_cons, Builtin.min2, Sem.run_bind, Sem.run_pure, Result.andThen_ok]
      exact e1
    | _ => simp [minInts] at h

theorem run_maxs {k : IntKind} : ∀ (vs : List AVal) (a : Int) (v : AVal) (cvs : List Value), maxInts k a vs = some v → VRels g vs cvs →
    ∃ cv, (cvs.foldlM Builtin.max2 (.int k a) : Sem Value).run P w = .ok cv w ∧ VRel g v cv
  | [], a, v, cvs, h, hv => by
    rw [maxInts] at h; cases h
    rw [VRels] at hv; subst hv
    exact ⟨_, rfl, rfl⟩
  | x :: vs, a, v, cvs, h, hv => by
    rw [VRels] at hv
    obtain ⟨cv, cvs', rfl, h1, h2⟩ := hv
    cases x with
    | int k' b =>
      rw [maxInts] at h
      simp only [VRel] at h1; subst h1
      obtain ⟨cv', e1, e2⟩ := run_maxs vs _ v cvs' h h2
      refine ⟨cv', ?_, e2⟩
      simp only [List.foldlM_cons, Builtin.max2, Sem.run_bind, Sem.run_pure, Result.andThen_ok]
      exact e1
    | _ => simp [maxInts] at h

end
end Go.Aw

/- What the model's operations do, told of abstract values: seventh part: maps. -/
namespace Go.Aw

section
variable {Γ : Globs} {P : Program} {g : Gh} {H : AHeap} {w : World}

/-- A key's type: whole numbers, or a struct of such; n: how many fields (none for a number). -/
def tKey (P : Program) (t : TypeId) (n : Option Nat) : Bool :=
  match P.underlying t, n with
  | some (.int _), none => true
  | some (.struct fs), some n => intFields P fs.toList 0 && !P.stoodInHeld t && Nat.beq fs.size n
  | _, _ => false

theorem part_ints (fs : List Field) : ∀ (k : Nat) (xs : List AVal) (cxs : Array Value), intFields P fs k = true → xs.length = k + fs.length → VRels g xs cxs.toList →
    ∀ f ∈ fs, ∃ v, (part f.type cxs f.offset).run P w = .ok v w ∧ ∃ ik, P.underlying f.type = some (.int ik) := by
  induction fs with
  | nil => intro k xs cxs _ _ _ f hf; cases hf
  | cons f0 fs ih =>
    intro k xs cxs hf hl hx f hm
    simp only [intFields, Bool.and_eq_true, bne_iff_ne, ne_eq] at hf
    obtain ⟨⟨⟨h1, h2⟩, h3⟩, h4⟩ := hf
    cases hm with
    | head =>
      have hk := Nat.eq_of_beq_eq_true h2
      have hlt : k < xs.length := by simp at hl; omega
      obtain ⟨cx, hcx, _⟩ := hx.get k xs[k] (List.getElem?_eq_getElem hlt)
      rw [Array.getElem?_toList] at hcx
      cases hu : P.underlying f0.type with
      | none => rw [hu] at h3; cases h3
      | some td =>
        rw [hu] at h3
        cases td <;> simp only [Bool.false_eq_true] at h3
        rename_i ik
        exact ⟨cx, run_part_one hu rfl (by rw [hk]; exact hcx), ik, rfl⟩
    | tail _ hm => exact ih (k + 1) xs cxs h4 (by simp at hl; omega) hx f hm

theorem run_checkKey (d : Nat) {t : TypeId} {n : Option Nat} {k : AVal} {ck : Value} (ht : tKey P t n = true) (hk : kShape n k = true) (hr : VRel g k ck) (em : Bool) :
    (Instr.checkKey em (d + 2) t ck).run P w = .ok () w := by
  unfold tKey at ht
  split at ht
  · rename_i ik hu
    cases k <;> simp only [kShape, Bool.false_eq_true] at hk
    simp only [VRel] at hr; subst hr
    rw [Instr.checkKey, Sem.run_bind, run_underlying hu]
    rfl
  · rename_i fs m hu
    cases k <;> simp only [kShape, Bool.false_eq_true] at hk
    rename_i xs
    obtain ⟨cxs, rfl, hc⟩ := hr
    simp only [Bool.and_eq_true, Bool.not_eq_true'] at ht
    obtain ⟨⟨h1, h2⟩, h3⟩ := ht
    have hlen : xs.length = 0 + fs.toList.length := by
      have := Nat.eq_of_beq_eq_true hk
      have := Nat.eq_of_beq_eq_true h3
      simp; omega
    have hp := part_ints (P := P) (w := w) fs.toList 0 xs cxs h1 hlen hc
    rw [Instr.checkKey, Sem.run_bind, run_underlying hu]
    simp only [Result.andThen_ok]
    rw [← Array.forIn_toList]
    generalize fs.toList = l at hp
    induction l with
    | nil => rfl
    | cons f l ih =>
      obtain ⟨v, hv, ik, hik⟩ := hp f List.mem_cons_self
      have hone : (Instr.checkKey em (d + 1) f.type v).run P w = .ok () w := by
        have hvv : ∃ a c, v = .int a c ∨ True := ⟨.i64, 0, .inr trivial⟩
        rw [Instr.checkKey, Sem.run_bind, run_underlying hik]
        rfl
      simp only [List.forIn_cons, Sem.run_bind, Sem.run_ite]
      have hih := ih fun f hf => hp f (List.mem_cons_of_mem _ hf)
      simp only [Sem.run_bind, Sem.run_pure] at hih
      split
      · simp only [hv, Result.andThen_ok, hone, Sem.run_pure]
        exact hih
      · simp only [Sem.run_pure, Result.andThen_ok]
        exact hih
  · cases ht

theorem keq_run {t : TypeId} {n : Option Nat} {k k' : AVal} {ck ck' : Value} {r : Bool} (ht : tKey P t n = true) (hk : kShape n k = true) (h : keq k k' = some r) (hr : VRel g k ck) (hr' : VRel g k' ck') :
    (Op.equal t ck ck').run P w = .ok r w := by
  unfold tKey at ht
  split at ht
  · rename_i ik hu
    cases k <;> simp only [kShape, Bool.false_eq_true] at hk
    cases k' <;> simp only [keq, reduceCtorEq] at h
    simp only [VRel] at hr hr'; subst hr; subst hr'
    split at h
    · rename_i he; subst he; cases h
      exact run_equalIn_int w 9999 t _ ik _ _ hu
    · cases h
  · rename_i fs m hu
    cases k <;> simp only [kShape, Bool.false_eq_true] at hk
    rename_i xs
    cases k' <;> simp only [keq, reduceCtorEq] at h
    rename_i ys
    obtain ⟨cxs, rfl, hc⟩ := hr
    obtain ⟨cys, rfl, hc'⟩ := hr'
    simp only [Bool.and_eq_true, Bool.not_eq_true'] at ht
    obtain ⟨⟨h1, h2⟩, h3⟩ := ht
    have hlen : xs.length = 0 + fs.toList.length := by
      have := Nat.eq_of_beq_eq_true hk
      have := Nat.eq_of_beq_eq_true h3
      simp; omega
    have hfo : P.fieldsOf t = fs := by simp [Program.fieldsOf, hu]
    show (Op.equalIn (9999 + 1) t (.agg cxs) (.agg cys)).run P w = _
    rw [run_equalIn_struct w 9999 t cxs cys (by rw [hfo]; exact hu) h2, hfo]
    exact eqFields_ints 9998 fs.toList 0 xs ys cxs cys r h1 hlen hc hc' (by simpa using h)
  · cases ht

theorem eqInts_same : ∀ (xs ys : List AVal) (cxs cys : List Value), eqInts xs ys = some true → VRels g xs cxs → VRels g ys cys → cxs.length = cys.length ∧ (cxs.zip cys).all (fun (x, y) => Instr.sameBits 9999 x y) = true
  | [], [], cxs, cys, _, h1, h2 => by rw [VRels] at h1 h2; subst h1; subst h2; exact ⟨rfl, rfl⟩
  | [], _ :: _, _, _, h, _, _ => by simp [eqInts] at h
  | x :: xs, [], _, _, h, _, _ => by cases x <;> simp [eqInts] at h
  | x :: xs, y :: ys, cxs, cys, h, h1, h2 => by
    rw [VRels] at h1 h2
    obtain ⟨v, vs, rfl, a1, a2⟩ := h1
    obtain ⟨u, us, rfl, b1, b2⟩ := h2
    cases x <;> cases y <;> simp only [eqInts, reduceCtorEq] at h
    split at h
    · rename_i he
      rename_i k a k' b
      cases hab : (a == b) with
      | false => rw [hab] at h; cases h
      | true =>
        rw [hab] at h
        obtain ⟨e1, e2⟩ := eqInts_same xs ys vs us h a2 b2
        simp only [VRel] at a1 b1
        subst a1; subst b1
        refine ⟨by simp [e1], ?_⟩
        rw [List.zip_cons_cons, List.all_cons, e2]
        simp [Instr.sameBits, he, hab]
    · cases h

theorem run_stays {n : Option Nat} {k k' : AVal} {ck ck' : Value} (hk : kShape n k = true) (h : keq k k' = some true) (hr : VRel g k ck) (hr' : VRel g k' ck') :
    (Instr.keyThatStays ck' ck).run P w = .ok ck w := by
  have : Instr.sameBits 10000 ck' ck = true := by
    cases k <;> cases k' <;> simp only [keq, reduceCtorEq] at h
    · simp only [VRel] at hr hr'; subst hr; subst hr'
      split at h
      · rename_i he; subst he
        simp only [Option.some.injEq, beq_iff_eq] at h
        subst h
        show (_ == _ && _ == _) = true
        simp
      · cases h
    · rename_i xs ys
      obtain ⟨cxs, rfl, hc⟩ := hr
      obtain ⟨cys, rfl, hc'⟩ := hr'
      have hsym : ∀ (xs ys : List AVal), eqInts xs ys = some true → eqInts ys xs = some true := by
        intro xs
        induction xs with
        | nil => intro ys h; cases ys <;> simp_all [eqInts]
        | cons x xs ih =>
          intro ys h
          cases ys with
          | nil => cases x <;> simp [eqInts] at h
          | cons y ys =>
            cases x <;> cases y <;> simp only [eqInts, reduceCtorEq] at h ⊢
            split at h
            · rename_i he
              rename_i k a k' b
              cases hab : (a == b) with
              | false => rw [hab] at h; cases h
              | true =>
                rw [hab] at h
                have hba : (b == a) = true := by rw [beq_iff_eq] at hab ⊢; exact hab.symm
                rw [if_pos he.symm, hba]
                exact ih ys h
            · cases h
      obtain ⟨e1, e2⟩ := eqInts_same ys xs cys.toList cxs.toList (hsym _ _ h) hc' hc
      have e3 : cys.size = cxs.size := by simpa using e1
      show (cys.size == cxs.size && (cys.toList.zip cxs.toList).all fun (x, y) => Instr.sameBits 9999 x y) = true
      rw [e2, e3]; simp
  simp only [Instr.keyThatStays, this, if_true, Sem.run_pure]

def FoundRel (g : Gh) : Option AVal → Option (Nat × Value) → Prop
  | none, none => True
  | some v, some q => VRel g v q.2
  | _, _ => False

theorem findNow_int {ik : IntKind} {ck : Value} {k : AVal} (hk : kShape none k = true) (hr : VRel g k ck) : ∀ (es : List (AVal × AVal)) (ces : List MapEntry) (r : Option AVal) (i : Nat), afind k es = some r → ERels g es ces →
    ∃ q, Instr.findNow (.int ik) ck ces i = some q ∧ FoundRel g r q
  | [], ces, r, i, h, he => by
    rw [afind] at h; cases h
    rw [ERels] at he; subst he
    exact ⟨none, rfl, trivial⟩
  | (k', v) :: es, ces, r, i, h, he => by
    rw [ERels] at he
    obtain ⟨e, es', rfl, h1, h2, h3⟩ := he
    rw [afind] at h
    cases k <;> simp only [kShape, Bool.false_eq_true] at hk
    simp only [VRel] at hr; subst hr
    cases k' <;> simp only [keq, reduceCtorEq] at h
    simp only [VRel] at h1
    split at h
    · rename_i heq
      split at heq
      · rename_i hkk
        simp only [Option.some.injEq] at heq
        cases h
        refine ⟨some (i, e.val), ?_, h2⟩
        simp [Instr.findNow, h1, Instr.sameNow, hkk, heq]
      · cases heq
    · rename_i heq
      split at heq
      · rename_i hkk
        simp only [Option.some.injEq] at heq
        obtain ⟨q, e1, e2⟩ := findNow_int (ik := ik) (k := .int _ _) rfl rfl es es' r (i + 1) h h3
        refine ⟨q, ?_, e2⟩
        rw [Instr.findNow, h1]
        simp only [Instr.sameNow, hkk, if_true, heq]
        subst hkk; exact e1
      · cases heq
    · cases h

theorem findAsk {t : TypeId} {n : Option Nat} {ck : Value} {k : AVal} (ht : tKey P t n = true) (hk : kShape n k = true) (hr : VRel g k ck) : ∀ (es : List (AVal × AVal)) (ces : List MapEntry) (r : Option AVal) (i : Nat), afind k es = some r → ERels g es ces →
    ∃ q, (Instr.findAsking t ck ces i).run P w = .ok q w ∧ FoundRel g r q
  | [], ces, r, i, h, he => by
    rw [afind] at h; cases h
    rw [ERels] at he; subst he
    exact ⟨none, rfl, trivial⟩
  | (k', v) :: es, ces, r, i, h, he => by
    rw [ERels] at he
    obtain ⟨e, es', rfl, h1, h2, h3⟩ := he
    rw [afind] at h
    cases hq : keq k k' with
    | none => rw [hq] at h; cases h
    | some b =>
      rw [hq] at h
      have hrun := keq_run (P := P) (w := w) ht hk hq hr h1
      cases b with
      | true =>
        cases h
        exact ⟨some (i, e.val), by simp [Instr.findAsking, hrun], h2⟩
      | false =>
        obtain ⟨q, e1, e2⟩ := findAsk ht hk hr es es' r (i + 1) h h3
        exact ⟨q, by simp [Instr.findAsking, hrun, e1], e2⟩

theorem run_findKey {t : TypeId} {n : Option Nat} {ck : Value} {k : AVal} (ht : tKey P t n = true) (hk : kShape n k = true) (hr : VRel g k ck) {es : List (AVal × AVal)} {ces : List MapEntry} {r : Option AVal} (h : afind k es = some r) (he : ERels g es ces) :
    ∃ q, (Instr.findKey t ck ces).run P w = .ok q w ∧ FoundRel g r q := by
  have ht' := ht
  unfold tKey at ht
  split at ht
  · rename_i ik hu
    obtain ⟨q, e1, e2⟩ := findNow_int (ik := ik) hk hr es ces r 0 h he
    exact ⟨q, by simp [Instr.findKey, run_underlying hu, e1], e2⟩
  · rename_i fs m hu
    obtain ⟨q, e1, e2⟩ := findAsk (w := w) ht' hk hr es ces r 0 h he
    cases ces with
    | nil => exact ⟨q, by
        simp only [Instr.findAsking, Sem.run_pure, Result.ok.injEq] at e1
        simp [Instr.findKey, run_underlying hu, Instr.findNow, ← e1.1], e2⟩
    | cons c cs => exact ⟨q, by simp [Instr.findKey, run_underlying hu, Instr.findNow, Instr.sameNow, e1], e2⟩
  · cases ht

theorem ran_lkp (hw : WRel Γ g H w) {mt kt et : TypeId} {n : Option Nat} {m k z v : AVal} {cm ck : Value} {ok : Bool} {r : Option AVal} (hu : P.underlying mt = some (.map kt et)) (ht : tKey P kt n = true) (hk : kShape n k = true)
    (hm : VRel g m cm) (hkr : VRel g k ck) {i : TypeInfo} {cz : Value} (hi : P.info? et = some i) (hz : i.zero = some cz) (hzr : VRel g z cz)
    (h : amFind H m k = some r) (hv : v = bif ok then .tup [r.getD z, .bool r.isSome] else r.getD z) :
    Ran Γ P (Instr.lookup mt cm ck ok) g H w v H := by
  have gen : ∀ (es : List (AVal × AVal)) (ces : Array MapEntry), afind k es = some r → ERels g es ces.toList → ∃ q : Option (Nat × Value), (Instr.checkKey ces.isEmpty 10000 kt ck).run P w = .ok () w ∧
      (Instr.findKey kt ck ces.toList).run P w = .ok q w ∧ FoundRel g r q := by
    intro es ces h1 h2
    obtain ⟨q, e1, e2⟩ := run_findKey (w := w) ht hk hkr h1 h2
    exact ⟨q, run_checkKey 9998 ht hk hkr _, e1, e2⟩
  have hzv : (zeroValue et).run P w = .ok cz w := by simp [zeroValue, typeInfo, hi, hz]
  have fin : ∀ cv, VRel g (r.getD z) cv → VRel g v (if ok then .tuple #[cv, .bool r.isSome] else cv) := by
    intro cv e4
    subst hv
    cases ok with
    | false => exact e4
    | true => exact ⟨_, rfl, _, _, rfl, e4, _, _, rfl, rfl, rfl⟩
  cases m <;> simp only [amFind, reduceCtorEq] at h
  · simp only [VRel] at hm; subst hm
    cases h
    obtain ⟨q, f1, f2, f3⟩ := gen [] #[] rfl rfl
    cases q with
    | some q => exact f3.elim
    | none =>
      refine .pure (cv := if ok then .tuple #[cz, .bool (none : Option AVal).isSome] else cz) ?_ hw (fin cz hzr)
      simp only [Instr.lookup, Sem.run_bind, run_underlying hu, Result.andThen_ok, Sem.run_pure, f1, f2, hzv, Option.isSome_none]
  · rename_i b
    split at h
    · rename_i es hg
      obtain ⟨cb, base, hmu, hb0, ces, clock, ho, her⟩ := hw.own b _ hg
      obtain ⟨rr, rfl, hd, hmm⟩ := hm
      have := hmm cb base hmu
      subst this
      have hget := run_getObj (P := P) ho (by intro c e f h; cases h)
      obtain ⟨q, f1, f2, f3⟩ := gen es ces h her
      cases r with
      | none => cases q with
        | some q => exact f3.elim
        | none =>
          refine .pure (cv := if ok then .tuple #[cz, .bool (none : Option AVal).isSome] else cz) ?_ hw (fin cz hzr)
          simp only [Instr.lookup, Sem.run_bind, run_underlying hu, Result.andThen_ok, Sem.run_pure, hget, f1, f2, hzv, Option.isSome_none]
      | some x => cases q with
        | none => exact f3.elim
        | some q =>
          obtain ⟨j, u⟩ := q
          refine .pure (cv := if ok then .tuple #[u, .bool (some x).isSome] else u) ?_ hw (fin u f3)
          simp only [Instr.lookup, Sem.run_bind, run_underlying hu, Result.andThen_ok, Sem.run_pure, hget, f1, f2, Option.isSome_some]
    · cases h

/-- What is put: it stands behind, or in the place of what had the key. -/
theorem run_aput {t : TypeId} {n : Option Nat} {ck cv : Value} {k v : AVal} (ht : tKey P t n = true) (hk : kShape n k = true) (hr : VRel g k ck) (hv : VRel g v cv) : ∀ (es es' : List (AVal × AVal)) (ces : List MapEntry) (i0 : Nat), aput k v es = some es' → ERels g es ces →
    (afind k es = some none ∧ ∀ e : MapEntry, e.key = ck → e.val = cv → ERels g es' (ces ++ [e])) ∨
    ∃ (x : AVal) (j : Nat) (e : MapEntry), afind k es = some (some x) ∧ ces[j]? = some e ∧ (Instr.keyThatStays e.key ck).run P w = .ok ck w ∧ ERels g es' (ces.modify j fun e => { e with key := ck, val := cv }) ∧
      (Instr.findAsking t ck ces i0).run P w = .ok (some (i0 + j, e.val)) w ∧ ∀ ik, n = none → Instr.findNow (.int ik) ck ces i0 = some (some (i0 + j, e.val))
  | [], es', ces, i0, h, he => by
    rw [aput] at h; cases h
    rw [ERels] at he; subst he
    exact .inl ⟨rfl, fun e h1 h2 => ⟨e, [], rfl, by rw [h1]; exact hr, by rw [h2]; exact hv, rfl⟩⟩
  | (k', v') :: es, es', ces, i0, h, he => by
    rw [ERels] at he
    obtain ⟨e, ces', rfl, h1, h2, h3⟩ := he
    rw [aput] at h
    cases hq : keq k k' with
    | none => rw [hq] at h; cases h
    | some b =>
      rw [hq] at h
      have hrun := keq_run (P := P) (w := w) ht hk hq hr h1
      have hnow : ∀ ik, n = none → Instr.sameNow (.int ik) ck e.key = some b := by
        intro ik hn
        subst hn
        cases k <;> simp only [kShape, Bool.false_eq_true] at hk
        simp only [VRel] at hr; subst hr
        cases k' <;> simp only [keq, reduceCtorEq] at hq
        simp only [VRel] at h1
        split at hq
        · rename_i hkk
          rw [h1]; simpa [Instr.sameNow, hkk] using hq
        · cases hq
      cases b with
      | true =>
        simp only [Option.some.injEq] at h
        subst h
        refine .inr ⟨v', 0, e, by rw [afind, hq], rfl, run_stays hk hq hr h1, ?_, ?_, fun ik hn => ?_⟩
        · exact ⟨{ e with key := ck, val := cv }, ces', by simp [List.modify], hr, hv, h3⟩
        · simp [Instr.findAsking, hrun]
        · simp [Instr.findNow, hnow ik hn]
      | false =>
        simp only [Option.map_eq_some_iff] at h
        obtain ⟨es'', h4, rfl⟩ := h
        rcases run_aput ht hk hr hv es es'' ces' (i0 + 1) h4 h3 with ⟨g1, g2⟩ | ⟨x, j, e', g1, g2, g3, g4, g5, g6⟩
        · exact .inl ⟨by rw [afind, hq]; exact g1, fun e0 a b => ⟨e, ces' ++ [e0], rfl, h1, h2, g2 e0 a b⟩⟩
        · refine .inr ⟨x, j + 1, e', by rw [afind, hq]; exact g1, by simpa using g2, g3, ?_, ?_, fun ik hn => ?_⟩
          · exact ⟨e, _, by rw [List.modify_succ_cons], h1, h2, g4⟩
          · rw [Instr.findAsking, Sem.run_bind, hrun]
            simp only [Result.andThen_ok, Bool.false_eq_true, if_false]
            rw [g5]; congr 3; omega
          · rw [Instr.findNow, hnow ik hn]
            simp only
            rw [g6 ik hn]; congr 3; omega

theorem ran_mput (hw : WRel Γ g H w) {mt kt et : TypeId} {n : Option Nat} {b : Nat} {k v : AVal} {cm ck cv : Value} {es es' : List (AVal × AVal)} (hu : P.underlying mt = some (.map kt et)) (ht : tKey P kt n = true) (hk : kShape n k = true)
    (hm : VRel g (.map b) cm) (hkr : VRel g k ck) (hvr : VRel g v cv) (hg : H.get b = some (.amap es)) (h : aput k v es = some es') :
    RanU Γ P (Instr.mapUpdate mt cm ck cv) g H w (H.put b (.amap es')) := by
  obtain ⟨cb, base, hmu, hb0, ces, clock, ho, her⟩ := hw.own b _ hg
  obtain ⟨rr, rfl, hd, hmm⟩ := hm
  have := hmm cb base hmu
  subst this
  subst hb0
  have hcb : rr < w.heap.size := hw.rng b rr 0 hd hmu
  have hget := run_getObj (P := P) ho (by intro c e f h; cases h)
  have hset := fun o' => run_setObj (P := P) (o' := o') ho (by intro c e f h; cases h)
  have hck : (Instr.checkKey false 10000 kt ck).run P w = .ok () w := run_checkKey 9998 ht hk hkr _
  have fin : ∀ ces' clock', ERels g es' ces'.toList → WRel Γ g (H.put b (.amap es')) { w with heap := w.heap.setIfInBounds rr (.map ces' clock') } ∧ Ext g H w g (H.put b (.amap es')) { w with heap := w.heap.setIfInBounds rr (.map ces' clock') } := by
    intro ces' clock' hes
    exact hw.upd (b := b) (by rw [hg]; simp) hmu (by simp) (fun c hc => by rw [Array.getElem?_setIfInBounds, if_neg (Ne.symm hc)]) ⟨rfl, ces', clock', by rw [Array.getElem?_setIfInBounds]; simp [hcb], hes⟩ ⟨rfl, rfl⟩
  rcases run_aput (w := w) ht hk hkr hvr es es' ces.toList 0 h her with ⟨g1, g2⟩ | ⟨x, j, e, g1, g2, g3, g4, g5, g6⟩
  · obtain ⟨q, e1, e2⟩ := run_findKey (w := w) ht hk hkr g1 her
    cases q with
    | some q => exact e2.elim
    | none =>
      obtain ⟨f1, f2⟩ := fin (ces.push { key := ck, val := cv, born := clock }) (clock + 1) (by rw [Array.toList_push]; exact g2 _ rfl rfl)
      refine ⟨_, g, ?_, f1, f2⟩
      simp only [Instr.mapUpdate, Sem.run_bind, run_underlying hu, Result.andThen_ok, hget, hck, e1, hset]
  · have hfk : (Instr.findKey kt ck ces.toList).run P w = .ok (some (j, e.val)) w := by
      have ht' := ht
      unfold tKey at ht
      split at ht
      · rename_i ik hu'
        have := g6 ik rfl
        rw [Nat.zero_add] at this
        simp [Instr.findKey, run_underlying hu', this]
      · rename_i fs m hu'
        rw [Nat.zero_add] at g5
        cases hcl : ces.toList with
        | nil => rw [hcl] at g2; cases g2
        | cons c cs =>
          rw [hcl] at g5
          simp [Instr.findKey, run_underlying hu', Instr.findNow, Instr.sameNow, g5]
      · cases ht
    obtain ⟨f1, f2⟩ := fin (ces.modify j fun e => { e with key := ck, val := cv }) clock (by rw [Array.toList_modify]; exact g4)
    refine ⟨_, g, ?_, f1, f2⟩
    have hje : ces[j]? = some e := by simpa using g2
    simp only [Instr.mapUpdate, Sem.run_bind, run_underlying hu, Result.andThen_ok, hget, hck, hfk, hje, Option.map_some, Option.getD_some, g3, hset]

end
end Go.Aw

/- The table of types, as it is read off a program, and when an operation of the model's is one of ours. -/
namespace Go.Aw

mutual
def aveq : AVal → AVal → Bool
  | .bool a, .bool b => a == b
  | .int k a, .int j b => decide (k = j) && a == b
  | .str a, .str b => a == b
  | .nilp, .nilp => true
  | .nils, .nils => true
  | .nilm, .nilm => true
  | .nilf, .nilf => true
  | .nili, .nili => true
  | .agg a, .agg b => aveqs a b
  | .tup a, .tup b => aveqs a b
  | _, _ => false
def aveqs : List AVal → List AVal → Bool
  | [], [] => true
  | a :: as, b :: bs => aveq a b && aveqs as bs
  | _, _ => false
end

mutual
theorem aveq_eq : ∀ (a b : AVal), aveq a b = true → a = b
  | .bool a, b, h => by cases b <;> simp_all [aveq]
  | .int k a, b, h => by cases b <;> simp_all [aveq]
  | .str a, b, h => by cases b <;> simp_all [aveq]
  | .nilp, b, h => by cases b <;> simp_all [aveq]
  | .nils, b, h => by cases b <;> simp_all [aveq]
  | .nilm, b, h => by cases b <;> simp_all [aveq]
  | .nilf, b, h => by cases b <;> simp_all [aveq]
  | .yld _, b, h => by cases b <;> simp [aveq] at h
  | .nili, b, h => by cases b <;> simp_all [aveq]
  | .agg a, b, h => by
    cases b <;> simp only [aveq, Bool.false_eq_true] at h
    rw [aveqs_eq _ _ h]
  | .tup a, b, h => by
    cases b <;> simp only [aveq, Bool.false_eq_true] at h
    rw [aveqs_eq _ _ h]
  | .ptr _ _, b, h => by cases b <;> simp [aveq] at h
  | .rptr _, b, h => by cases b <;> simp [aveq] at h
  | .sl _ _ _ _ _ _, b, h => by cases b <;> simp [aveq] at h
  | .rs _ _ _, b, h => by cases b <;> simp [aveq] at h
  | .map _, b, h => by cases b <;> simp [aveq] at h
  | .fn _ _, b, h => by cases b <;> simp [aveq] at h
  | .iface _ _, b, h => by cases b <;> simp [aveq] at h
theorem aveqs_eq : ∀ (a b : List AVal), aveqs a b = true → a = b
  | [], b, h => by cases b <;> simp_all [aveqs]
  | a :: as, b, h => by
    cases b with
    | nil => simp [aveqs] at h
    | cons b bs =>
      simp only [aveqs, Bool.and_eq_true] at h
      rw [aveq_eq _ _ h.1, aveqs_eq _ _ h.2]
end

mutual
/-- A constant of the model's is this one of ours. -/
def cval : AVal → Value → Bool
  | .bool a, .bool b => a == b
  | .int k a, .int j b => decide (k = j) && a == b
  | .str a, .string b => a == b.data.toList
  | .nilp, .pointer none => true
  | .nils, .slice none 0 0 => true
  | .nilm, .map none => true
  | .nilf, .nilFunc => true
  | .nili, .nilIface => true
  | .iface t x, .iface u y => Nat.beq t u && cval x y
  | .agg a, .agg b => cvals a b.toList
  | .tup a, .tuple b => cvals a b.toList
  | _, _ => false
def cvals : List AVal → List Value → Bool
  | [], [] => true
  | a :: as, b :: bs => cval a b && cvals as bs
  | _, _ => false
end

mutual
theorem cval_rel (g : Gh) : ∀ (a : AVal) (v : Value), cval a v = true → VRel g a v
  | .bool a, v, h => by cases v <;> simp only [cval, Bool.false_eq_true] at h; simp_all [VRel]
  | .int k a, v, h => by cases v <;> simp only [cval, Bool.false_eq_true] at h; simp_all [VRel]
  | .str a, v, h => by
    cases v <;> simp only [cval, Bool.false_eq_true] at h
    rename_i s
    simp only [beq_iff_eq] at h
    simp only [VRel]; subst h
    cases s; rfl
  | .nilp, v, h => by
    cases v with
    | pointer a => cases a with
      | none => rfl
      | some a => simp [cval] at h
    | _ => simp [cval] at h
  | .nils, v, h => by
    cases v with
    | slice a n c =>
      cases a with
      | none =>
        cases n with
        | zero => cases c with
          | zero => rfl
          | succ c => simp [cval] at h
        | succ n => simp [cval] at h
      | some a => simp [cval] at h
    | _ => simp [cval] at h
  | .nilm, v, h => by
    cases v with
    | map r => cases r with
      | none => rfl
      | some r => simp [cval] at h
    | _ => simp [cval] at h
  | .nilf, v, h => by cases v <;> simp only [cval, Bool.false_eq_true] at h; rfl
  | .yld _, b, h => by cases b <;> simp [cval] at h
  | .nili, v, h => by cases v <;> simp only [cval, Bool.false_eq_true] at h; rfl
  | .iface t x, v, h => by
    cases v <;> simp only [cval, Bool.false_eq_true, Bool.and_eq_true] at h
    rw [Nat.eq_of_beq_eq_true h.1]
    exact ⟨_, rfl, cval_rel g _ _ h.2⟩
  | .agg a, v, h => by
    cases v <;> simp only [cval, Bool.false_eq_true] at h
    exact ⟨_, rfl, cvals_rel g _ _ h⟩
  | .tup a, v, h => by
    cases v <;> simp only [cval, Bool.false_eq_true] at h
    exact ⟨_, rfl, cvals_rel g _ _ h⟩
  | .ptr _ _, b, h => by cases b <;> simp [cval] at h
  | .rptr _, b, h => by cases b <;> simp [cval] at h
  | .sl _ _ _ _ _ _, b, h => by cases b <;> simp [cval] at h
  | .rs _ _ _, b, h => by cases b <;> simp [cval] at h
  | .map _, b, h => by cases b <;> simp [cval] at h
  | .fn _ _, b, h => by cases b <;> simp [cval] at h
theorem cvals_rel (g : Gh) : ∀ (a : List AVal) (v : List Value), cvals a v = true → VRels g a v
  | [], v, h => by cases v <;> simp_all [cvals, VRels]
  | a :: as, v, h => by
    cases v with
    | nil => simp [cvals] at h
    | cons v vs =>
      simp only [cvals, Bool.and_eq_true] at h
      exact ⟨v, vs, rfl, cval_rel g _ _ h.1, cvals_rel g _ _ h.2⟩
end

/-- What a type is underneath. -/
inductive TK where
  | bool | int (k : IntKind) | str | ptr | sl (e : Nat) | arr (n e : Nat) | map (k e : Nat) | st (fs : List (Nat × Nat)) (ints : Bool) | fn | iface
  deriving Inhabited

structure TI where
  kind : TK
  size : Nat
  zero : List AVal
  small : Bool
  deriving Inhabited

def fieldsOk : List (Nat × Nat) → List Field → Bool
  | [], [] => true
  | (o, t) :: fs, f :: gs => Nat.beq o f.offset && Nat.beq t f.type && fieldsOk fs gs
  | _, _ => false

def isAggK : TK → Bool
  | .st _ _ | .arr _ _ => true
  | _ => false

def zval (ti : TI) : AVal :=
  if isAggK ti.kind then .agg ti.zero else match ti.zero with
    | [z] => z
    | _ => .tup []

def kindOk (P : Program) (t : Nat) : TK → TypeDesc → Bool
  | .bool, .bool => true
  | .int k, .int j => decide (k = j)
  | .str, .string => true
  | .ptr, .pointer _ => true
  | .sl e, .slice e' => Nat.beq e e'
  | .arr n e, .array n' e' => Nat.beq n n' && Nat.beq e e'
  | .map k e, .map k' e' => Nat.beq k k' && Nat.beq e e'
  | .st fs ints, .struct fs' => fieldsOk fs fs'.toList && (!ints || (intFields P fs'.toList 0 && !P.stoodInHeld t && !P.eqGuardType P.depth t))
  | .fn, .func _ _ _ => true
  | .iface, .interface _ => true
  | _, _ => false

def tiOk (P : Program) (t : Nat) (ti : TI) : Bool :=
  (match P.underlying t with | some d => kindOk P t ti.kind d | none => false) &&
  (match P.info? t with
    | some i => Nat.beq i.size ti.size && Nat.beq ti.zero.length ti.size && (!ti.small || Nat.ble i.bytes 65536) && (match i.zero with | some z => cvals ti.zero z.cells.toList && cval (zval ti) z | none => false)
    | none => false)

/-- What the table says of a type is so. -/
structure TFacts (P : Program) (t : Nat) (ti : TI) : Prop where
  kind : ∃ d, P.underlying t = some d ∧ kindOk P t ti.kind d = true
  info : ∃ i z, P.info? t = some i ∧ i.size = ti.size ∧ ti.zero.length = ti.size ∧ (ti.small = true → i.bytes ≤ 65536) ∧ i.zero = some z ∧ (∀ g, VRels g ti.zero z.cells.toList) ∧ z.cells.size = ti.size ∧ ∀ g, VRel g (zval ti) z

theorem tiOk_facts {P : Program} {t : Nat} {ti : TI} (h : tiOk P t ti = true) : TFacts P t ti := by
  simp only [tiOk, Bool.and_eq_true] at h
  obtain ⟨h1, h2⟩ := h
  constructor
  · split at h1
    · rename_i d hd; exact ⟨d, hd, h1⟩
    · cases h1
  · split at h2
    · rename_i i hi
      simp only [Bool.and_eq_true, Bool.or_eq_true, Bool.not_eq_true'] at h2
      obtain ⟨⟨⟨h3, h4⟩, h5⟩, h6⟩ := h2
      split at h6
      · rename_i z hz
        rw [Bool.and_eq_true] at h6
        have hv := fun g => cvals_rel g _ _ h6.1
        refine ⟨i, z, hi, Nat.eq_of_beq_eq_true h3, Nat.eq_of_beq_eq_true h4, fun hs => ?_, hz, hv, ?_, fun g => cval_rel g _ _ h6.2⟩
        · rcases h5 with h5 | h5
          · rw [hs] at h5; cases h5
          · exact Nat.le_of_ble_eq_true h5
        · have := (hv ⟨fun _ => none, fun _ => False, fun _ _ => none, fun _ => 0, fun _ => False⟩).length
          rw [Nat.eq_of_beq_eq_true h4] at this
          simpa using this
      · cases h6
    · cases h2

theorem isAggK_eq {P : Program} {t : Nat} {k : TK} {d : TypeDesc} (h : kindOk P t k d = true) : isAggD d = isAggK k := by
  cases k <;> cases d <;> simp_all [kindOk, isAggD, isAggK]

def marg : Operand → AArg → Bool
  | .tmp n, .t m => Nat.beq n m
  | .const v, .c x => cval x v
  | .global n, .g m => Nat.beq n m
  | .func n, .f m => Nat.beq n m
  | _, _ => false

def margs : List Operand → List AArg → Bool
  | [], [] => true
  | x :: xs, y :: ys => marg x y && margs xs ys
  | _, _ => false

def margO : Option Operand → Option AArg → Bool
  | none, none => true
  | some x, some y => marg x y
  | _, _ => false

def mparts (place : Nat → Option (Nat × Nat)) : List (Nat × Operand) → List (Nat × Nat × AArg) → Bool
  | [], [] => true
  | (i, x) :: ps, (off, n, y) :: qs => (match place i with | some (o, m) => Nat.beq o off && Nat.beq m n | none => false) && marg x y && mparts place ps qs
  | _, _ => false

abbrev TTab := Nat → Option TI

def ekOk (T : TTab) (t : Nat) (ek : EK) : Bool :=
  match ek with
  | .n => true
  | ek => match T t with
    | none => false
    | some ti => match ek, ti.kind with
      | .b, .bool => true
      | .p, .ptr => true
      | .s, .sl _ => true
      | .i, .iface => true
      | .f, .fn => true
      | .st n, .st fs ints => ints && Nat.beq fs.length n
      | _, _ => false

/-- '==' and '!=' on interfaces: one side is the literal nil (the model asks no more then). -/
def litNil : Operand → Operand → Bool
  | .const _, _ => true
  | _, .const _ => true
  | _, _ => false

def keyOk (T : TTab) (t : Nat) (n : Option Nat) : Bool :=
  match T t, n with
  | some { kind := .int _, .. }, none => true
  | some { kind := .st fs ints, .. }, some n => ints && Nat.beq fs.length n
  | _, _ => false

def sizeIs (T : TTab) (t n : Nat) : Bool :=
  match T t with
  | some ti => Nat.beq ti.size n
  | none => false

def kIsStr (T : TTab) (t : Nat) : Bool := match T t with | some { kind := .str, .. } => true | _ => false
def kIsSl (T : TTab) (t : Nat) : Bool := match T t with | some { kind := .sl _, .. } => true | _ => false

/-- A call of the model's is one of ours. -/
def mcall (T : TTab) (callee : Callee) (ats : List TypeId) (args : List Operand) : AOp → Bool
  | .call h ys => match callee with
    | .value (.func f) => Nat.beq f h && margs args ys
    | _ => false
  | .callv y ys => match callee with
    | .value x => marg x y && margs args ys
    | _ => false
  | .lens y => match callee, ats with
    | .builtin .len, [t] => kIsStr T t && margs args [y]
    | _, _ => false
  | .lensl y => match callee, ats with
    | .builtin .len, [t] => kIsSl T t && margs args [y]
    | _, _ => false
  | .app es y z => match callee, ats with
    | .builtin .append, [t, u] => (match T t with
      | some { kind := .sl e, .. } => (match T e with | some tj => Nat.beq tj.size es && tj.small | none => false)
      | _ => false) && kIsSl T u && margs args [y, z]
    | _, _ => false
  | .apps y z => match callee, ats with
    | .builtin .append, [t, u] => (match T t with
      | some { kind := .sl e, .. } => (match T e with | some tj => Nat.beq tj.size 1 && tj.small | none => false)
      | _ => false) && kIsStr T u && margs args [y, z]
    | _, _ => false
  | .cpy es y z => match callee, ats with
    | .builtin .copy, [t, _] => (match T t with
      | some { kind := .sl e, .. } => sizeIs T e es
      | _ => false) && margs args [y, z]
    | _, _ => false
  | .clr zs y => match callee, ats with
    | .builtin .clear, [t] => (match T t with
      | some { kind := .sl e, .. } => (match T e with | some tj => aveqs tj.zero zs && Nat.blt 0 tj.size | none => false)
      | _ => false) && margs args [y]
    | _, _ => false
  | .mn ys => match callee with
    | .builtin .min => margs args ys
    | _ => false
  | .mx ys => match callee with
    | .builtin .max => margs args ys
    | _ => false
  | _ => false

def mop (T : TTab) : Op → AOp → Bool
  | .move x, .mv y => marg x y
  | .assign x, .mv y => marg x y
  | .pick a b c, .pick a' b' c' => marg a a' && marg b b' && marg c c'
  | .box _ x, .box y => marg x y
  | .alloc t, .alloc zs => match T t with
    | some ti => aveqs ti.zero zs
    | none => false
  | .build t ps, .build zs qs => match T t with
    | some ti => aveqs ti.zero zs && match ti.kind with
      | .st fs _ => (fs.all fun f => (T f.2).isSome) && mparts (fun k => (fs[k]?).bind fun f => (T f.2).map fun tj => (f.1, tj.size)) ps.toList qs
      | .arr _ e => match T e with
        | some tj => mparts (fun k => some (k * tj.size, tj.size)) ps.toList qs
        | none => false
      | _ => false
    | none => false
  | .buildSlice t n ps, .bslice es m zs qs => match T t with
    | some { kind := .sl e, .. } => match T e with
      | some tj => Nat.beq n m && Nat.beq tj.size es && Nat.ble (n * es) 16777216 && aveqs (lrep tj.zero n) zs && mparts (fun k => some (k * es, es)) ps.toList qs
      | none => false
    | _ => false
  | .load t x, .ld y => match T t with
    | some ti => !isAggK ti.kind && marg x y
    | none => false
  | .load t x, .ldn n y => match T t with
    | some ti => isAggK ti.kind && Nat.beq ti.size n && marg x y
    | none => false
  | .store t x v, .st n y u => sizeIs T t n && marg x y && marg v u
  | .nilCheck x, .nilchk y => marg x y
  | .binOp op t x y _, .bin op' ek x' y' => decide (op = op') && ekOk T t ek && (decide (ek ≠ .i) || litNil x y) && marg x x' && marg y y'
  | .unOp .neg _ x, .neg y => marg x y
  | .unOp .not _ x, .not y => marg x y
  | .convert s d x, .cvi k y => (T s).isSome && (match T d with | some { kind := .int j, .. } => decide (k = j) | _ => false) && marg x y
  | .convert s d x, .cvis y => (T s).isSome && (match T d with | some { kind := .str, .. } => true | _ => false) && marg x y
  | .convert s d x, .cvbs y => (match T s with | some { kind := .sl e, .. } => (match T e with | some { kind := .int .u8, .. } => true | _ => false) | _ => false) && (match T d with | some { kind := .str, .. } => true | _ => false) && marg x y
  | .convert s d x, .cvsb y => (match T d with | some { kind := .sl e, .. } => (match T e with | some { kind := .int .u8, .. } => true | _ => false) | _ => false) && (match T s with | some { kind := .str, .. } => true | _ => false) && marg x y
  | .makeInterface t x, .mkif u y => Nat.beq t u && (match T t with | some { kind := .iface, .. } => false | some _ => true | none => false) && marg x y
  | .makeFunc (.func f) first caps, .mkfn h xs => Nat.beq f h && first.isEmpty && margs caps.toList xs
  | .makeMap _ none, .mkmap => true
  | .makeSlice t l c, .mksl es zs l' c' => match T t with
    | some { kind := .sl e, .. } => match T e with
      | some tj => Nat.beq tj.size es && tj.small && aveqs tj.zero zs && marg l l' && marg c c'
      | none => false
    | _ => false
  | .slice t x lo hi none, .slc es y lo' hi' => (match T t with | some { kind := .sl e, .. } => sizeIs T e es | _ => false) && marg x y && margO lo lo' && margO hi hi'
  | .slice t x lo hi none, .slcs y lo' hi' => (match T t with | some { kind := .str, .. } => true | _ => false) && marg x y && margO lo lo' && margO hi hi'
  | .fieldAddr t x k, .fad off y => (match T t with
    | some { kind := .st fs _, .. } => match fs[k]? with
      | some f => Nat.beq f.1 off && (match T f.2 with | some tj => Nat.blt 0 tj.size | none => false)
      | none => false
    | _ => false) && marg x y
  | .indexAddr t x i, .iad es y j => (match T t with | some { kind := .sl e, .. } => sizeIs T e es | _ => false) && marg x y && marg i j
  | .indexAddr t x i, .iada es n y j => (match T t with | some { kind := .arr m e, .. } => Nat.beq m n && sizeIs T e es | _ => false) && marg x y && marg i j
  | .field t x k, .fld off size y => (match T t with
    | some { kind := .st fs _, .. } => match fs[k]? with
      | some f => Nat.beq f.1 off && (match T f.2, size with
        | some tj, some n => isAggK tj.kind && Nat.beq tj.size n
        | some tj, none => !isAggK tj.kind
        | _, _ => false)
      | none => false
    | _ => false) && marg x y
  | .index t x i, .idxs y j => (match T t with | some { kind := .str, .. } => true | _ => false) && marg x y && marg i j
  | .index t x i, .idxa n es agg y j => (match T t with
    | some { kind := .arr m e, .. } => Nat.beq m n && (match T e with
      | some tj => Nat.beq tj.size es && (if agg then isAggK tj.kind else !isAggK tj.kind && Nat.beq es 1)
      | none => false)
    | _ => false) && marg x y && marg i j
  | .lookup t m k ok, .lkp kn z ok' m' k' => (match T t with
    | some { kind := .map kt et, .. } => keyOk T kt kn && (match T et with | some tj => aveq (zval tj) z | none => false)
    | _ => false) && ok == ok' && marg m m' && marg k k'
  | .mapUpdate t m k v, .mput kn m' k' v' => (match T t with | some { kind := .map kt _, .. } => keyOk T kt kn | _ => false) && marg m m' && marg k k' && marg v v'
  | .range t x, .rng y => (match T t with | some { kind := .str, .. } => true | _ => false) && marg x y
  | .next x true, .nxt y => marg x y
  | .extract x i, .ext y j => Nat.beq i j && marg x y
  | .typeAssert x _ a true, .tas n z y => Nat.beq a n && (match T a with | some { kind := .iface, .. } => false | some tj => aveq (zval tj) z | none => false) && marg x y
  | .call c, ao => mcall T c.callee c.argTypes.toList c.args.toList ao
  | _, _ => false

end Go.Aw

/- Every operation that calls nothing does in the model what is told of it here. -/
namespace Go.Aw

/-- What an operation comes to. -/
def Good (Γ : Globs) (P : Program) (o : Oper) (a : Act) (g : Gh) (H : AHeap) (w : World) (v : AVal) (H' : AHeap) : Prop :=
  ∃ cv w' g', ((execOp a.eval o).run P w = .ok (.value cv) w' ∨ ((execOp a.eval o).run P w = .ok .skip w' ∧ cv = undef)) ∧ VRel g' v cv ∧ WRel Γ g' H' w' ∧ Ext g H w g' H' w'

section
variable {Γ : Globs} {P : Program} {T : TTab} {g : Gh} {H : AHeap} {w : World} {t : List AVal} {a : Act}

theorem marg_rel (hw : WRel Γ g H w) (hf : VRels g t a.tmps.toList) {x : Operand} {y : AArg} (h : marg x y = true) : VRel g (y.ev Γ t) (a.eval x) := by
  cases x <;> cases y <;> simp only [marg, Bool.false_eq_true] at h
  · rename_i n m
    rw [Nat.eq_of_beq_eq_true h]
    have := lget_rel hf m
    simp only [Act.eval, AArg.ev]
    rw [Array.getElem?_toList] at this
    rwa [Array.getD_eq_getD_getElem?]
  · exact cval_rel g _ _ h
  · rename_i n m
    rw [Nat.eq_of_beq_eq_true h]
    refine ⟨m, 0, rfl, fun i c hc => ?_⟩
    rw [Nat.zero_add]
    cases hg : Γ m with
    | none => rw [hg] at hc; simp at hc
    | some cs => rw [hg] at hc; exact hw.glob m cs hg i c hc
  · rename_i n m
    rw [Nat.eq_of_beq_eq_true h]
    exact ⟨#[], rfl, rfl⟩

theorem margs_rel (hw : WRel Γ g H w) (hf : VRels g t a.tmps.toList) : ∀ {xs : List Operand} {ys : List AArg}, margs xs ys = true → VRels g (ys.map (fun y => y.ev Γ t)) (xs.map a.eval)
  | [], [], _ => rfl
  | [], _ :: _, h => by simp [margs] at h
  | _ :: _, [], h => by simp [margs] at h
  | x :: xs, y :: ys, h => by
    simp only [margs, Bool.and_eq_true] at h
    exact ⟨_, _, rfl, marg_rel hw hf h.1, margs_rel hw hf h.2⟩

theorem margO_rel (hw : WRel Γ g H w) (hf : VRels g t a.tmps.toList) {x : Option Operand} {y : Option AArg} (h : margO x y = true) : ORelV g (y.map (fun b => b.ev Γ t)) (x.map a.eval) := by
  cases x <;> cases y <;> simp only [margO, Bool.false_eq_true] at h
  · trivial
  · exact marg_rel hw hf h

theorem mparts_rel (hw : WRel Γ g H w) (hf : VRels g t a.tmps.toList) {place : Nat → Option (Nat × Nat)} : ∀ {ps : List (Nat × Operand)} {qs : List (Nat × Nat × AArg)}, mparts place ps qs = true →
    PartsOk g Γ t place (ps.map fun (i, x) => (i, a.eval x)) qs
  | [], [], _ => trivial
  | [], _ :: _, h => by simp [mparts] at h
  | _ :: _, [], h => by simp [mparts] at h
  | (i, x) :: ps, (off, n, y) :: qs, h => by
    simp only [mparts, Bool.and_eq_true] at h
    obtain ⟨⟨h1, h2⟩, h3⟩ := h
    refine ⟨?_, marg_rel hw hf h2, mparts_rel hw hf h3⟩
    split at h1
    · rename_i o m hp
      rw [Bool.and_eq_true] at h1
      rw [hp, Nat.eq_of_beq_eq_true h1.1, Nat.eq_of_beq_eq_true h1.2]
    · cases h1

theorem Good.of_ran {o : Oper} {s : Sem Value} {v : AVal} {H' : AHeap} (h : Ran Γ P s g H w v H') (he : execOp a.eval o = (do pure (.value (← s)))) : Good Γ P o a g H w v H' := by
  obtain ⟨cv, w', g', h1, h2, h3, h4⟩ := h
  exact ⟨cv, w', g', .inl (by rw [he]; simp [h1]), h2, h3, h4⟩

theorem Good.of_ranU {o : Oper} {s : Sem Unit} {H' : AHeap} (h : RanU Γ P s g H w H') (he : execOp a.eval o = (do s; pure .skip)) : Good Γ P o a g H w (.tup []) H' := by
  obtain ⟨w', g', h1, h3, h4⟩ := h
  exact ⟨undef, w', g', .inr ⟨by rw [he]; simp [h1], rfl⟩, ⟨#[], rfl, rfl⟩, h3, h4⟩

theorem Good.val {o : Oper} {v : AVal} {cv : Value} (hw : WRel Γ g H w) (hv : VRel g v cv) (he : execOp a.eval o = pure (.value cv)) : Good Γ P o a g H w v H :=
  ⟨cv, w, g, .inl (by rw [he]; rfl), hv, hw, .refl _ _ _⟩

/-- The table is right. -/
def TOk (P : Program) (T : TTab) : Prop := ∀ t ti, T t = some ti → TFacts P t ti

theorem sl_fact (hT : TOk P T) {t e : Nat} {z : List AVal} {n : Nat} {s : Bool} (h : T t = some ⟨.sl e, n, z, s⟩) : P.underlying t = some (.slice e) := by
  obtain ⟨d, hd, hk⟩ := (hT t _ h).kind
  cases d <;> simp only [kindOk, Bool.false_eq_true] at hk
  rw [Nat.eq_of_beq_eq_true hk]; exact hd

theorem str_fact (hT : TOk P T) {t : Nat} {z : List AVal} {n : Nat} {s : Bool} (h : T t = some ⟨.str, n, z, s⟩) : P.underlying t = some .string := by
  obtain ⟨d, hd, hk⟩ := (hT t _ h).kind
  cases d <;> simp only [kindOk, Bool.false_eq_true] at hk
  exact hd

theorem int_fact (hT : TOk P T) {t : Nat} {k : IntKind} {z : List AVal} {n : Nat} {s : Bool} (h : T t = some ⟨.int k, n, z, s⟩) : P.underlying t = some (.int k) := by
  obtain ⟨d, hd, hk⟩ := (hT t _ h).kind
  cases d <;> simp only [kindOk, Bool.false_eq_true, decide_eq_true_eq] at hk
  rw [hk]; exact hd

theorem arr_fact (hT : TOk P T) {t m e : Nat} {z : List AVal} {n : Nat} {s : Bool} (h : T t = some ⟨.arr m e, n, z, s⟩) : P.underlying t = some (.array m e) := by
  obtain ⟨d, hd, hk⟩ := (hT t _ h).kind
  cases d <;> simp only [kindOk, Bool.false_eq_true, Bool.and_eq_true] at hk
  rw [Nat.eq_of_beq_eq_true hk.1, Nat.eq_of_beq_eq_true hk.2]; exact hd

theorem map_fact (hT : TOk P T) {t m e : Nat} {z : List AVal} {n : Nat} {s : Bool} (h : T t = some ⟨.map m e, n, z, s⟩) : P.underlying t = some (.map m e) := by
  obtain ⟨d, hd, hk⟩ := (hT t _ h).kind
  cases d <;> simp only [kindOk, Bool.false_eq_true, Bool.and_eq_true] at hk
  rw [Nat.eq_of_beq_eq_true hk.1, Nat.eq_of_beq_eq_true hk.2]; exact hd

theorem fieldsOk_get : ∀ {fs : List (Nat × Nat)} {gs : List Field}, fieldsOk fs gs = true → fs.length = gs.length ∧ ∀ (k : Nat) f, fs[k]? = some f → ∃ q, gs[k]? = some q ∧ q.offset = f.1 ∧ q.type = f.2
  | [], [], _ => ⟨rfl, fun k f h => by simp at h⟩
  | [], _ :: _, h => by simp [fieldsOk] at h
  | _ :: _, [], h => by simp [fieldsOk] at h
  | (o, t) :: fs, q :: gs, h => by
    simp only [fieldsOk, Bool.and_eq_true] at h
    obtain ⟨⟨h1, h2⟩, h3⟩ := h
    obtain ⟨e1, e2⟩ := fieldsOk_get h3
    refine ⟨by simp [e1], fun k f hk => ?_⟩
    cases k with
    | zero => simp at hk; subst hk; exact ⟨q, rfl, (Nat.eq_of_beq_eq_true h1).symm, (Nat.eq_of_beq_eq_true h2).symm⟩
    | succ k => simp at hk; simpa using e2 k f hk

theorem st_fact (hT : TOk P T) {t : Nat} {fs : List (Nat × Nat)} {ints : Bool} {z : List AVal} {n : Nat} {s : Bool} (h : T t = some ⟨.st fs ints, n, z, s⟩) :
    ∃ gs : Array Field, P.underlying t = some (.struct gs) ∧ fieldsOk fs gs.toList = true ∧ (ints = true → intFields P gs.toList 0 = true ∧ P.stoodInHeld t = false ∧ P.eqGuardType P.depth t = false) := by
  obtain ⟨d, hd, hk⟩ := (hT t _ h).kind
  cases d <;> simp only [kindOk, Bool.false_eq_true, Bool.and_eq_true, Bool.or_eq_true, Bool.not_eq_true'] at hk
  rename_i gs
  refine ⟨gs, hd, hk.1, fun hi => ?_⟩
  rcases hk.2 with h1 | h1
  · rw [hi] at h1; cases h1
  · exact ⟨h1.1.1, h1.1.2, h1.2⟩

theorem ekOk_t (hT : TOk P T) {t : Nat} {ek : EK} (h : ekOk T t ek = true) : tEk P t ek = true := by
  cases hti : T t with
  | none => cases ek <;> simp_all [ekOk, tEk]
  | some ti =>
    obtain ⟨d, hd, hk⟩ := (hT t ti hti).kind
    obtain ⟨kind, size, zero, small⟩ := ti
    cases ek with
    | n => rfl
    | st n =>
      cases kind <;> simp only [ekOk, hti, Bool.false_eq_true] at h
      rename_i fs ints
      rw [Bool.and_eq_true] at h
      cases d <;> simp only [kindOk, Bool.false_eq_true, Bool.and_eq_true, Bool.or_eq_true, Bool.not_eq_true'] at hk
      rename_i gs
      obtain ⟨h1, h2⟩ := hk
      rw [h.1] at h2
      simp only [Bool.true_eq_false, false_or] at h2
      have hl := (fieldsOk_get h1).1
      have hn := Nat.eq_of_beq_eq_true h.2
      have : gs.size = n := by rw [← hn, hl]; simp
      simp [tEk, hd, h2.1.1, h2.1.2, h2.2, this]
    | _ =>
      cases kind <;> simp only [ekOk, hti, Bool.false_eq_true] at h
      cases d <;> simp only [kindOk, Bool.false_eq_true] at hk <;> simp only [tEk, hd]

theorem size_fact (hT : TOk P T) {t n : Nat} (h : sizeIs T t n = true) : ∃ i, P.info? t = some i ∧ i.size = n := by
  unfold sizeIs at h
  split at h
  · rename_i ti hti
    obtain ⟨i, z, hi, hs, _⟩ := (hT t _ hti).info
    exact ⟨i, hi, by rw [hs]; exact Nat.eq_of_beq_eq_true h⟩
  · cases h

theorem keyOk_t (hT : TOk P T) {t : Nat} {n : Option Nat} (h : keyOk T t n = true) : tKey P t n = true := by
  unfold keyOk at h
  split at h
  · rename_i hti
    have := int_fact hT hti
    simp [tKey, this]
  · rename_i fs ints _ _ n hti
    obtain ⟨gs, hd, hf, hi⟩ := st_fact hT hti
    rw [Bool.and_eq_true] at h
    obtain ⟨h1, h2, h3⟩ := hi h.1
    have hl := (fieldsOk_get hf).1
    have hn := Nat.eq_of_beq_eq_true h.2
    have : gs.size = n := by rw [← hn, hl]; simp
    simp [tKey, hd, h1, h2, this]
  · cases h

end
end Go.Aw
