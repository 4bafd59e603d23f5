import Derived.Test.YtkamgngihebpoaaGreatDoorHoBase
import Derived.Laws.Sem
import Derived.Laws.Cells
import Derived.Laws.Append
import Derived.Laws.MakeOwn
import Derived.Laws.BytesString
import Derived.Laws.StructEq
import Derived.Laws.Strings
import Derived.Laws.Entries
import Derived.Laws.Bits
import Derived.Laws.Unary
/- Reading and writing rows of cells: the abstract heap's against the model's. -/
set_option linter.all false
noncomputable section
namespace Go.Aw

theorem Addr.add_eq (cb off n : Nat) : Addr.add ⟨cb, off, none⟩ n = ⟨cb, off + n, none⟩ := by
  unfold Addr.add; split <;> simp_all

theorem lget_eq (t : List AVal) (n : Nat) : lget t n = (t[n]?).getD (.tup []) := by
  induction t generalizing n with
  | nil => simp [lget]
  | cons x xs ih => cases n with
    | zero => simp [lget]
    | succ n => simp [lget, ih]

theorem lget_rel {g : Gh} {t : List AVal} {vs : List Value} (h : VRels g t vs) (n : Nat) : VRel g (lget t n) ((vs[n]?).getD undef) := by
  rw [lget_eq]
  cases hx : t[n]? with
  | none =>
    have : vs[n]? = none := by
      rw [List.getElem?_eq_none_iff] at hx ⊢; rw [h.length]; exact hx
    rw [this]
    exact ⟨#[], rfl, by simp [VRels]⟩
  | some x =>
    obtain ⟨v, hv, hr⟩ := h.get n x hx
    rw [hv]; exact hr

theorem lall_mem {p : AVal → Bool} : ∀ {xs : List AVal}, lall p xs = true → ∀ x, x ∈ xs → p x = true
  | [], _, x, hx => by cases hx
  | y :: ys, h, x, hx => by
    rw [lall] at h
    cases hp : p y with
    | false => rw [hp] at h; cases h
    | true =>
      rw [hp] at h
      cases hx with
      | head => exact hp
      | tail _ hm => exact lall_mem h x hm

theorem ascal_one {g : Gh} {x : AVal} {v : Value} (h : ascal x = true) (hr : VRel g x v) : v.oneCell' = true := by
  cases x <;> simp only [VRel] at hr <;> (try (simp [ascal] at h; done)) <;> (try (subst hr; rfl)) <;> (obtain ⟨_, hr⟩ := hr) <;> (try (obtain ⟨_, hr⟩ := hr)) <;> (try (obtain ⟨hr, _⟩ := hr)) <;> (try subst hr) <;> (try rfl) <;> simp_all [Value.oneCell']

theorem splice_length : ∀ (cs : List AVal) (k : Nat) (vs : List AVal), (splice cs k vs).length = cs.length := by
  have here : ∀ (cs vs : List AVal), (spliceHere cs vs).length = cs.length := by
    intro cs
    induction cs with
    | nil => intro vs; cases vs <;> rfl
    | cons c cs ih => intro vs; cases vs with
      | nil => rfl
      | cons v vs => simp [spliceHere, ih]
  intro cs
  induction cs with
  | nil => intro k vs; cases k <;> simp [splice, here]
  | cons c cs ih => intro k vs; cases k with
    | zero => simp [splice, here]
    | succ k => simp [splice, ih]

theorem splice_get : ∀ (cs : List AVal) (k : Nat) (vs : List AVal), k + vs.length ≤ cs.length → ∀ i, (splice cs k vs)[i]? = if k ≤ i ∧ i < k + vs.length then vs[i - k]? else cs[i]? := by
  have here : ∀ (cs vs : List AVal), vs.length ≤ cs.length → ∀ i, (spliceHere cs vs)[i]? = if i < vs.length then vs[i]? else cs[i]? := by
    intro cs
    induction cs with
    | nil => intro vs h i; cases vs with
      | nil => simp [spliceHere]
      | cons v vs => simp at h
    | cons c cs ih => intro vs h i; cases vs with
      | nil => simp [spliceHere]
      | cons v vs =>
        cases i with
        | zero => simp [spliceHere]
        | succ i =>
          simp only [spliceHere, List.getElem?_cons_succ, List.length_cons]
          rw [ih vs (by simpa using h) i]
          by_cases e : i < vs.length
          · rw [if_pos e, if_pos (by omega)]
          · rw [if_neg e, if_neg (by omega)]
  intro cs
  induction cs with
  | nil =>
    intro k vs h i
    cases k with
    | zero => rw [splice, here [] vs (by simpa using h) i]; simp
    | succ k => exfalso; simp at h
  | cons c cs ih =>
    intro k vs h i
    cases k with
    | zero => rw [splice, here _ vs (by simpa using h) i]; simp
    | succ k =>
      cases i with
      | zero => simp [splice]
      | succ i =>
        simp only [splice, List.getElem?_cons_succ]
        rw [ih k vs (by simp at h; omega) i]
        by_cases e : k ≤ i ∧ i < k + vs.length
        · rw [if_pos e, if_pos (by omega)]; congr 1; omega
        · rw [if_neg e, if_neg (by omega)]

theorem lcut_some {cs vs : List AVal} {off n : Nat} (h : lcut cs off n = some vs) : off + n ≤ cs.length ∧ vs = (cs.drop off).take n := by
  unfold lcut at h
  cases hb : Nat.ble (off + n) cs.length with
  | false => rw [hb] at h; cases h
  | true => rw [hb] at h; cases h; exact ⟨Nat.le_of_ble_eq_true hb, rfl⟩

/-- What is read stands there. -/
def Stands (g : Gh) (w : World) (a : Addr) (vs : List AVal) : Prop := ∀ i c, vs[i]? = some c → ∃ v, w.cell? (a.add i) = some v ∧ VRel g c v

theorem Stands.run {P : Program} {g : Gh} {w : World} {a : Addr} {vs : List AVal} (h : Stands g w a vs) (n : Nat) (hn : vs.length = n) :
    ∃ cs : Array Value, (loadCells a n).run P w = .ok cs w ∧ VRels g vs cs.toList := by
  have : ∃ cs : List Value, cs.length = vs.length ∧ ∀ i c v, vs[i]? = some c → cs[i]? = some v → w.cell? (a.add i) = some v ∧ VRel g c v := by
    clear hn
    refine ⟨(List.range vs.length).map fun i => (w.cell? (a.add i)).getD undef, by simp, fun i c v hc hv => ?_⟩
    obtain ⟨v', h1, h2⟩ := h i c hc
    have hi : i < vs.length := by
      rcases Nat.lt_or_ge i vs.length with h3 | h3
      · exact h3
      · rw [List.getElem?_eq_none h3] at hc; cases hc
    rw [List.getElem?_map, List.getElem?_range hi] at hv
    simp only [Option.map_some, h1, Option.getD_some, Option.some.injEq] at hv
    subst hv; exact ⟨h1, h2⟩
  obtain ⟨cs, hl, hcs⟩ := this
  refine ⟨cs.toArray, ?_, ?_⟩
  · have := run_loadCells_list (P := P) (w := w) a cs fun j v hv => by
      have hj : j < vs.length := by
        rw [← hl]
        rcases Nat.lt_or_ge j cs.length with h3 | h3
        · exact h3
        · rw [List.getElem?_eq_none h3] at hv; cases hv
      exact (hcs j vs[j] v (List.getElem?_eq_getElem hj) hv).1
    rw [← hn, ← hl]
    exact this
  · exact VRels.of_get (by simpa using hl) fun i x v hx hv => (hcs i x v hx (by simpa using hv)).2

theorem Stands.take {g : Gh} {w : World} {a : Addr} {vs : List AVal} (h : Stands g w a vs) (n : Nat) : Stands g w a (vs.take n) := by
  intro i c hc
  rw [List.getElem?_take] at hc
  split at hc
  · exact h i c hc
  · cases hc

theorem ORel.stands {g : Gh} {w : World} {cb base : Nat} {cs : List AVal} (h : ORel g w cb base (.cells cs)) (off : Nat) : Stands g w ⟨cb, base + off, none⟩ (cs.drop off) := by
  obtain ⟨ccs, elem, lo, hi, h1, h2, h3, h4, h5⟩ := h
  intro i c hc
  rw [List.getElem?_drop] at hc
  obtain ⟨v, hv, hr⟩ := h5 _ c hc
  refine ⟨v, ?_, hr⟩
  rw [Addr.add_eq]
  simp only [World.cell?, h1]
  rw [← hv]; simp; congr 1; omega

/-- Where a value's cells lie, if it has any. -/
def baseOf : Value → Option Addr
  | .pointer a => a
  | .slice a _ _ => a
  | _ => none

theorem rdc_stands {Γ : Globs} {g : Gh} {H : AHeap} {w : World} (hw : WRel Γ g H w) {x : AVal} {v : Value} (hx : VRel g x v) {n : Nat} {vs : List AVal} (h : rdc H x n = some vs) :
    vs.length = n ∧ (0 < n → ∃ a, baseOf v = some a ∧ Stands g w a vs) := by
  unfold rdc at h
  by_cases hn : n = 0
  · subst hn
    refine ⟨?_, fun h => by omega⟩
    simp only [Nat.beq_refl, cond_true] at h
    split at h <;> first | (cases h; rfl) | cases h
  · have hb : Nat.beq n 0 = false := by cases n with
      | zero => exact absurd rfl hn
      | succ n => rfl
    rw [hb] at h
    simp only [cond_false] at h
    have hlen : ∀ {cs : List AVal} {off : Nat}, lcut cs off n = some vs → vs.length = n := by
      intro cs off hc
      obtain ⟨h1, h2⟩ := lcut_some hc
      rw [h2, List.length_take, List.length_drop]; omega
    split at h
    · rename_i b off
      split at h
      · rename_i cs hg
        obtain ⟨a, rfl, hd, hm⟩ := hx
        obtain ⟨cb, base, hmu, ho⟩ := hw.own b _ hg
        refine ⟨hlen h, fun _ => ⟨a, rfl, ?_⟩⟩
        rw [hm cb base hmu, (lcut_some h).2]
        exact (ho.stands off).take n
      · cases h
    · rename_i cs
      obtain ⟨cb, off, rfl, hr⟩ := hx
      refine ⟨hlen h, fun _ => ⟨_, rfl, ?_⟩⟩
      rw [(lcut_some h).2]
      refine Stands.take (fun i c hc => ?_) n
      simp only [List.drop_zero] at hc
      rw [Addr.add_eq]
      exact hw.ro _ _ _ (hr i c hc)
    · rename_i b off es len cap ex
      cases hble : Nat.ble n (cap * es) with
      | false => rw [hble] at h; cases h
      | true =>
        rw [hble] at h
        simp only [cond_true] at h
        split at h
        · rename_i cs hg
          obtain ⟨a, c, rfl, h1, h2, h3, hd, hm⟩ := hx
          obtain ⟨cb, base, hmu, ho⟩ := hw.own b _ hg
          refine ⟨hlen h, fun _ => ⟨a, rfl, ?_⟩⟩
          have hle := Nat.le_of_ble_eq_true hble
          have hc0 : c ≠ 0 := by
            intro e
            have : cap = 0 := by omega
            rw [this] at hle; simp at hle; omega
          rw [(hm cb base hmu hc0).1, (lcut_some h).2]
          exact (ho.stands off).take n
        · cases h
    · rename_i cs es len
      cases hble : Nat.ble n (len * es) with
      | false => rw [hble] at h; cases h
      | true =>
        rw [hble] at h
        simp only [cond_true] at h
        obtain ⟨a, c, rfl, h1, h2, h3⟩ := hx
        have hle := Nat.le_of_ble_eq_true hble
        have hl : 0 < len := by
          rcases Nat.eq_zero_or_pos len with e | e
          · rw [e] at hle; simp at hle; omega
          · exact e
        obtain ⟨cb, off, rfl, hr⟩ := h3 hl
        refine ⟨hlen h, fun _ => ⟨_, rfl, ?_⟩⟩
        rw [(lcut_some h).2]
        refine Stands.take (fun i c hc => ?_) n
        simp only [List.drop_zero] at hc
        rw [Addr.add_eq]
        exact hw.ro _ _ _ (hr i c hc)
    · cases h

/-- A row of cells is stored. -/
theorem run_storeRow (P : Program) (cb o : Nat) (elem : TypeId) (lo hi : Nat) : ∀ (vs : List Value) (i : Nat) (ccs : Array Value) (w : World),
    w.heap[cb]? = some (.cells ccs elem (lo, hi)) → (∀ j, j < ccs.size → ¬ (lo ≤ j ∧ j < hi)) → o + i + vs.length ≤ ccs.size → (∀ v ∈ vs, v.oneCell' = true) →
    ∃ ccs' w', (storeCells ⟨cb, o, none⟩ vs i).run P w = .ok () w' ∧ w'.heap = w.heap.setIfInBounds cb (.cells ccs' elem (lo, hi)) ∧ ccs'.size = ccs.size ∧
      (∀ j, ccs'[j]? = if o + i ≤ j ∧ j < o + i + vs.length then vs[j - (o + i)]? else ccs[j]?) ∧ Io w w' := by
  intro vs
  induction vs with
  | nil =>
    intro i ccs w hc hf hl h1
    have hlt : cb < w.heap.size := by
      rcases Nat.lt_or_ge cb w.heap.size with h | h
      · exact h
      · rw [Array.getElem?_eq_none h] at hc; cases hc
    refine ⟨ccs, w, rfl, ?_, rfl, fun j => ?_, .refl _⟩
    · refine Array.ext_getElem? fun j => ?_
      rw [Array.getElem?_setIfInBounds]
      split
      · rename_i e
        subst e
        exact hc
      · rfl
    · rw [if_neg (by simp only [List.length_nil]; omega)]
  | cons v vs ih =>
    intro i ccs w hc hf hl h1
    have hlt : cb < w.heap.size := by
      rcases Nat.lt_or_ge cb w.heap.size with h | h
      · exact h
      · rw [Array.getElem?_eq_none h] at hc; cases hc
    have hlen : o + i < ccs.size := by simp at hl; omega
    have hcell : w.cell? ⟨cb, o + i, none⟩ = some ccs[o + i] := by
      simp [World.cell?, hc, hlen]
    have hfr : w.frozen? ⟨cb, o + i, none⟩ = false := by
      simp only [World.frozen?, hc]
      have := hf (o + i) hlen
      simp only [Bool.and_eq_false_iff, decide_eq_false_iff_not]
      omega
    have hset : (w.setCell ⟨cb, o + i, none⟩ v).heap = w.heap.setIfInBounds cb (.cells (ccs.setIfInBounds (o + i) v) elem (lo, hi)) := by
      simp only [World.setCell]
      refine Array.ext_getElem? fun j => ?_
      rw [Array.getElem?_modify, Array.getElem?_setIfInBounds]
      by_cases e : cb = j
      · subst e
        rw [if_pos rfl, if_pos rfl, if_pos hlt, hc]
        simp
      · rw [if_neg e, if_neg e]
    have hstore : (store ⟨cb, o + i, none⟩ v).run P w = .ok () (w.setCell ⟨cb, o + i, none⟩ v) := by
      rw [run_store P w _ v .plain (h1 v (List.mem_cons_self)), hcell]
      simp [hfr]
    have hc2 : (w.setCell ⟨cb, o + i, none⟩ v).heap[cb]? = some (.cells (ccs.setIfInBounds (o + i) v) elem (lo, hi)) := by
      rw [hset, Array.getElem?_setIfInBounds]; simp [hlt]
    obtain ⟨ccs', w', hr, hh, hs, hg, hio⟩ := ih (i + 1) (ccs.setIfInBounds (o + i) v) (w.setCell ⟨cb, o + i, none⟩ v) hc2 (by simpa using hf) (by simp at hl ⊢; omega) (fun x hx => h1 x (List.mem_cons_of_mem _ hx))
    refine ⟨ccs', w', ?_, ?_, by simpa using hs, fun j => ?_, Io.trans (w' := w.setCell ⟨cb, o + i, none⟩ v) ⟨rfl, rfl⟩ hio⟩
    · rw [storeCells, Addr.add_eq]
      simp only [Sem.run_bind, hstore, Result.andThen_ok]
      exact hr
    · rw [hh, hset]
      refine Array.ext_getElem? fun j => ?_
      rw [Array.getElem?_setIfInBounds, Array.getElem?_setIfInBounds, Array.getElem?_setIfInBounds]
      simp only [Array.size_setIfInBounds]
      split <;> rfl
    · rw [hg j]
      simp only [List.length_cons]
      by_cases e : o + (i + 1) ≤ j ∧ j < o + (i + 1) + vs.length
      · rw [if_pos e, if_pos (by omega)]
        have : j - (o + i) = (j - (o + (i + 1))) + 1 := by omega
        rw [this, List.getElem?_cons_succ]
      · rw [if_neg e, Array.getElem?_setIfInBounds]
        by_cases e2 : o + i = j
        · subst e2
          rw [if_pos rfl, if_pos hlen, if_pos (by omega)]
          simp
        · rw [if_neg e2, if_neg (by omega)]

theorem ORel.write {g : Gh} {w w' : World} {cb base : Nat} {cs vs : List AVal} {cvs : List Value} {k : Nat} {ccs ccs' : Array Value} {elem lo hi : Nat}
    (hc : w.heap[cb]? = some (.cells ccs elem (lo, hi))) (ho : ORel g w cb base (.cells cs)) (hv : VRels g vs cvs) (hk : k + vs.length ≤ cs.length)
    (hh : w'.heap = w.heap.setIfInBounds cb (.cells ccs' elem (lo, hi))) (hs : ccs'.size = ccs.size)
    (hg : ∀ j, ccs'[j]? = if base + k ≤ j ∧ j < base + k + cvs.length then cvs[j - (base + k)]? else ccs[j]?) : ORel g w' cb base (.cells (splice cs k vs)) := by
  obtain ⟨ccs0, elem0, lo0, hi0, h1, h2, h3, h4, h5⟩ := ho
  rw [hc] at h1
  cases h1
  have hlt : cb < w.heap.size := by
    rcases Nat.lt_or_ge cb w.heap.size with h | h
    · exact h
    · rw [Array.getElem?_eq_none h] at hc; cases hc
  refine ⟨ccs', elem, lo, hi, by rw [hh, Array.getElem?_setIfInBounds]; simp [hlt], by rw [hs]; exact h2, by rw [hs]; exact h3, by rw [hs, splice_length]; exact h4, fun i c hc => ?_⟩
  rw [splice_get cs k vs hk] at hc
  rw [hg, hv.length]
  by_cases e : k ≤ i ∧ i < k + vs.length
  · rw [if_pos e] at hc
    rw [if_pos (by omega)]
    have : base + i - (base + k) = i - k := by omega
    rw [this]
    exact hv.get _ _ hc
  · rw [if_neg e] at hc
    rw [if_neg (by omega)]
    exact h5 i c hc

theorem wrc_run {P : Program} {Γ : Globs} {g : Gh} {H H' : AHeap} {w : World} (hw : WRel Γ g H w) {x : AVal} {v : Value} (hx : VRel g x v) {k : Nat} {vs : List AVal} {cvs : List Value}
    (hv : VRels g vs cvs) (h : wrc H x k vs = some H') :
    vs ≠ [] → ∃ a, baseOf v = some a ∧ ∃ w', (storeCells (a.add k) cvs).run P w = .ok () w' ∧ WRel Γ g H' w' ∧ Ext g H w g H' w' := by
  intro hne
  unfold wrc at h
  cases hsc : lall ascal vs with
  | false => rw [hsc] at h; cases h
  | true =>
    rw [hsc] at h
    simp only [cond_true] at h
    have hone : ∀ cv ∈ cvs, cv.oneCell' = true := by
      intro cv hcv
      obtain ⟨i, hi, rfl⟩ := List.mem_iff_getElem.1 hcv
      have hi' : i < vs.length := by rw [← hv.length]; exact hi
      obtain ⟨v', h1, h2⟩ := hv.get i vs[i] (List.getElem?_eq_getElem hi')
      rw [List.getElem?_eq_getElem hi] at h1; cases h1
      exact ascal_one (lall_mem hsc _ (List.getElem_mem hi')) h2
    have main : ∀ (b off : Nat) (cs : List AVal) (a : Addr), H.get b = some (.cells cs) → off + k + vs.length ≤ cs.length → H' = H.put b (.cells (splice cs (off + k) vs)) →
        (∀ cb base, g.mu b = some (cb, base) → a = ⟨cb, base + off, none⟩) →
        ∃ w', (storeCells (a.add k) cvs).run P w = .ok () w' ∧ WRel Γ g H' w' ∧ Ext g H w g H' w' := by
      intro b off cs a hg hle hH ha
      obtain ⟨cb, base, hmu, ho⟩ := hw.own b _ hg
      have ho' := ho
      obtain ⟨ccs, elem, lo, hi, h1, h2, h3, h4, h5⟩ := ho
      have hlt : cb < w.heap.size := hw.rng b cb base (hw.decl b (by rw [hg]; simp)) hmu
      obtain ⟨ccs', w', hr, hh, hs, hgt, hio⟩ := run_storeRow P cb (base + (off + k)) elem lo hi cvs 0 ccs w h1 h3 (by rw [hv.length]; omega) hone
      refine ⟨w', ?_, ?_⟩
      · rw [ha cb base hmu, Addr.add_eq]
        rw [show base + off + k = base + (off + k) from by omega]
        exact hr
      · rw [hH]
        refine hw.upd (by rw [hg]; simp) hmu (by rw [hh]; simp) (fun c hc => by rw [hh, Array.getElem?_setIfInBounds]; rw [if_neg (Ne.symm hc)]) ?_ hio
        exact ORel.write h1 ho' hv hle hh hs hgt
    cases vs with
    | nil => exact absurd rfl hne
    | cons y ys =>
      split at h
      · rename_i b off
        split at h
        · rename_i cs hg
          cases hble : Nat.ble (off + k + (y :: ys).length) cs.length with
          | false => rw [hble] at h; cases h
          | true =>
            rw [hble] at h
            cases h
            obtain ⟨a, rfl, hd, hm⟩ := hx
            exact ⟨a, rfl, main b off cs a hg (Nat.le_of_ble_eq_true hble) rfl hm⟩
        · cases h
      · rename_i b off es len cap ex
        cases hb1 : Nat.ble (k + (y :: ys).length) (cap * es) with
        | false => rw [hb1] at h; cases h
        | true =>
          rw [hb1] at h
          simp only [cond_true] at h
          split at h
          · rename_i cs hg
            cases hble : Nat.ble (off + k + (y :: ys).length) cs.length with
            | false => rw [hble] at h; cases h
            | true =>
              rw [hble] at h
              cases h
              obtain ⟨a, c, rfl, h1, h2, h3, hd, hm⟩ := hx
              have hle := Nat.le_of_ble_eq_true hb1
              have hc0 : c ≠ 0 := by
                intro e
                have : cap = 0 := by omega
                rw [this] at hle; simp at hle
              exact ⟨a, rfl, main b off cs a hg (Nat.le_of_ble_eq_true hble) rfl fun cb base hmu => (hm cb base hmu hc0).1⟩
          · cases h
      · cases h

end Go.Aw

/- What the model's operations do, told of abstract values: first part: memory. -/
namespace Go.Aw

/-- A piece of a run that gives a value. -/
def Ran (Γ : Globs) (P : Program) (s : Sem Value) (g : Gh) (H : AHeap) (w : World) (v : AVal) (H' : AHeap) : Prop :=
  ∃ cv w' g', s.run P w = .ok cv w' ∧ VRel g' v cv ∧ WRel Γ g' H' w' ∧ Ext g H w g' H' w'

def RanU (Γ : Globs) (P : Program) (s : Sem Unit) (g : Gh) (H : AHeap) (w : World) (H' : AHeap) : Prop :=
  ∃ w' g', s.run P w = .ok () w' ∧ WRel Γ g' H' w' ∧ Ext g H w g' H' w'

section
variable {Γ : Globs} {P : Program} {g : Gh} {H : AHeap} {w : World}

theorem Ran.pure {s : Sem Value} {v : AVal} {cv : Value} (h : s.run P w = .ok cv w) (hw : WRel Γ g H w) (hv : VRel g v cv) : Ran Γ P s g H w v H :=
  ⟨cv, w, g, h, hv, hw, .refl _ _ _⟩

theorem alloc_heap (w : World) (o : Obj) : (w.alloc o).heap = w.heap.push o := rfl

/-- A new row of cells. -/
theorem WRel.newRow (hw : WRel Γ g H w) {cs : List AVal} {ccs : Array Value} (elem : TypeId) (hlen : cs.length ≤ ccs.size)
    (hc : ∀ (i : Nat) c, cs[i]? = some c → ∃ v, ccs[i]? = some v ∧ VRel g c v) :
    WRel Γ (g.new H.next w.heap.size 0 ccs.size) (H.new (.cells cs)) (w.alloc (.cells ccs elem)) ∧
      Ext g H w (g.new H.next w.heap.size 0 ccs.size) (H.new (.cells cs)) (w.alloc (.cells ccs elem)) := by
  have hf := hw.fresh H.next (Nat.le_refl _)
  refine hw.newAt ccs.size H.next hf (Nat.le_refl _) (Nat.lt_succ_self _) (Nat.le_succ _) (fun x => AHeap.get_new _ _ _) (by rw [alloc_heap]; simp) (fun c hc => ?_) ?_ ⟨rfl, rfl⟩
  · rw [alloc_heap, Array.getElem?_push, if_neg (by omega)]
  · refine ⟨ccs, elem, 0, 0, by rw [alloc_heap]; simp, by simp [Gh.new], fun i _ => by omega, by simpa using hlen, fun i c hi => ?_⟩
    obtain ⟨v, hv, hr⟩ := hc i c hi
    exact ⟨v, by simpa using hv, hr.mono (hw.leNew _ _ hf) _ _⟩

theorem VRel.cells {v : AVal} {cv : Value} (h : VRel g v cv) : VRels g (acells v) cv.cells.toList := by
  cases v with
  | agg cs => obtain ⟨vs, rfl, hv⟩ := h; exact hv
  | bool _ | int _ _ | str _ | nilp | nils | nilm | nilf | nili | yld _ =>
    simp only [VRel] at h; subst h; exact ⟨_, [], rfl, rfl, rfl⟩
  | ptr _ _ => obtain ⟨a, rfl, hd⟩ := h; exact ⟨_, [], rfl, ⟨a, rfl, hd⟩, rfl⟩
  | rptr _ => obtain ⟨cb, off, rfl, hd⟩ := h; exact ⟨_, [], rfl, ⟨cb, off, rfl, hd⟩, rfl⟩
  | sl _ _ _ _ _ _ => obtain ⟨a, c, rfl, hd⟩ := h; exact ⟨_, [], rfl, ⟨a, c, rfl, hd⟩, rfl⟩
  | rs _ _ _ => obtain ⟨a, c, rfl, hd⟩ := h; exact ⟨_, [], rfl, ⟨a, c, rfl, hd⟩, rfl⟩
  | map _ => obtain ⟨r, rfl, hd⟩ := h; exact ⟨_, [], rfl, ⟨r, rfl, hd⟩, rfl⟩
  | fn _ _ => obtain ⟨vs, rfl, hd⟩ := h; exact ⟨_, [], rfl, ⟨vs, rfl, hd⟩, rfl⟩
  | iface _ _ => obtain ⟨y, rfl, hd⟩ := h; exact ⟨_, [], rfl, ⟨y, rfl, hd⟩, rfl⟩
  | tup _ => obtain ⟨vs, rfl, hd⟩ := h; exact ⟨_, [], rfl, ⟨vs, rfl, hd⟩, rfl⟩

theorem VRels.arr {cs : List AVal} {ccs : Array Value} (h : VRels g cs ccs.toList) : ∀ (i : Nat) c, cs[i]? = some c → ∃ v, ccs[i]? = some v ∧ VRel g c v := by
  intro i c hc
  obtain ⟨v, hv, hr⟩ := h.get i c hc
  exact ⟨v, by simpa using hv, hr⟩

theorem Gh.new_rel (b cb n : Nat) : VRel (g.new b cb 0 n) (.ptr b 0) (.pointer (some ⟨cb, 0, none⟩)) :=
  ⟨_, rfl, .inr rfl, fun c base hm => by
    have : (if b = b then some (cb, 0) else g.mu b) = some (c, base) := hm
    rw [if_pos rfl] at this; cases this; rfl⟩

theorem run_newRow' (elem : TypeId) (cells : Array Value) : (newRow elem cells).run P w = .ok ⟨w.heap.size, 0, none⟩ (w.alloc (.cells cells elem)) := rfl

theorem ran_box (hw : WRel Γ g H w) {v : AVal} {cv : Value} (hv : VRel g v cv) (t : TypeId) :
    Ran Γ P (Instr.box t cv) g H w (.ptr H.next 0) (H.new (.cells (acells v))) := by
  have hc := hv.cells
  obtain ⟨h1, h2⟩ := hw.newRow t (cs := acells v) (ccs := cv.cells) (by rw [← hc.length]; simp) hc.arr
  exact ⟨_, _, _, rfl, Gh.new_rel _ _ _, h1, h2⟩

theorem ran_alloc (hw : WRel Γ g H w) {zs : List AVal} {t : TypeId} {i : TypeInfo} {z : Value} (hi : P.info? t = some i) (hz : i.zero = some z) (hv : VRels g zs z.cells.toList) :
    Ran Γ P (Instr.alloc t true (.tuple #[])) g H w (.ptr H.next 0) (H.new (.cells zs)) := by
  obtain ⟨h1, h2⟩ := hw.newRow t (cs := zs) (ccs := z.cells) (by rw [← hv.length]; simp) hv.arr
  exact ⟨_, _, _, by simp [Instr.alloc, zeroValue, typeInfo, hi, hz, newVar, run_newRow'], Gh.new_rel _ _ _, h1, h2⟩

theorem run_isAgg_info {t : TypeId} {d : TypeDesc} (h : P.underlying t = some d) : (isAgg t).run P w = .ok (match d with | .struct _ | .array _ _ => true | _ => false) w := by
  simp only [isAgg, Sem.run_bind, run_underlying h, Result.andThen_ok]
  cases d <;> rfl

theorem run_sizeOf' {t : TypeId} {i : TypeInfo} (hi : P.info? t = some i) : (sizeOf t).run P w = .ok i.size w := by
  simp [sizeOf, typeInfo, hi]

def isAggD : TypeDesc → Bool
  | .struct _ | .array _ _ => true
  | _ => false

theorem ran_ldn (hw : WRel Γ g H w) {x : AVal} {cv : Value} (hx : VRel g x cv) {n : Nat} {cs : List AVal} (hp : (∃ b off, x = .ptr b off) ∨ ∃ ys, x = .rptr ys)
    (h : rdc H x n = some cs) {t : TypeId} {d : TypeDesc} {i : TypeInfo} (hd : P.underlying t = some d) (ha : isAggD d = true) (hi : P.info? t = some i) (hn : i.size = n) :
    Ran Γ P (Instr.loadAt t cv) g H w (.agg cs) H := by
  obtain ⟨h1, h2⟩ := rdc_stands hw hx h
  have : ∃ a, cv = .pointer (some a) := by
    rcases hp with ⟨b, off, rfl⟩ | ⟨ys, rfl⟩
    · obtain ⟨a, rfl, _⟩ := hx; exact ⟨a, rfl⟩
    · obtain ⟨cb, off, rfl, _⟩ := hx; exact ⟨_, rfl⟩
  obtain ⟨a, rfl⟩ := this
  have hagg : (isAgg t).run P w = .ok true w := by
    rw [run_isAgg_info hd]; cases d <;> simp_all [isAggD]
  have hst : ∃ cs' : Array Value, (loadCells a n).run P w = .ok cs' w ∧ VRels g cs cs'.toList := by
    rcases Nat.eq_zero_or_pos n with e | e
    · subst e
      have : cs = [] := List.eq_nil_of_length_eq_zero h1
      subst this
      exact ⟨#[], rfl, rfl⟩
    · obtain ⟨a', ha', hs⟩ := h2 e
      cases ha'
      exact hs.run n h1
  obtain ⟨cs', h3, h4⟩ := hst
  refine .pure (cv := .agg cs') ?_ hw ⟨cs', rfl, h4⟩
  simp [Instr.loadAt, Instr.sureAddr, loadVar, hagg, run_sizeOf' hi, hn, h3]

theorem ran_ld (hw : WRel Γ g H w) {x : AVal} {cv : Value} (hx : VRel g x cv) {v : AVal} (hp : (∃ b off, x = .ptr b off) ∨ ∃ ys, x = .rptr ys)
    (h : rdc H x 1 = some [v]) {t : TypeId} {d : TypeDesc} (hd : P.underlying t = some d) (ha : isAggD d = false) :
    Ran Γ P (Instr.loadAt t cv) g H w v H := by
  obtain ⟨h1, h2⟩ := rdc_stands hw hx h
  have : ∃ a, cv = .pointer (some a) := by
    rcases hp with ⟨b, off, rfl⟩ | ⟨ys, rfl⟩
    · obtain ⟨a, rfl, _⟩ := hx; exact ⟨a, rfl⟩
    · obtain ⟨cb, off, rfl, _⟩ := hx; exact ⟨_, rfl⟩
  obtain ⟨a, rfl⟩ := this
  have hagg : (isAgg t).run P w = .ok false w := by
    rw [run_isAgg_info hd]; cases d <;> simp_all [isAggD]
  obtain ⟨a', ha', hs⟩ := h2 (by omega)
  cases ha'
  obtain ⟨c', hc, hr⟩ := hs 0 v rfl
  have : a.add 0 = a := by simp [Addr.add]
  rw [this] at hc
  refine .pure (cv := c') ?_ hw hr
  simp [Instr.loadAt, Instr.sureAddr, loadVar, hagg, hc]

theorem ran_st (hw : WRel Γ g H w) {b off n : Nat} {cx cv : Value} (hx : VRel g (.ptr b off) cx) {v : AVal} (hv : VRel g v cv) {H' : AHeap}
    (hl : (acells v).length = n) (h : wrc H (.ptr b off) 0 (acells v) = some H') {t : TypeId} {i : TypeInfo} (hi : P.info? t = some i) (hn : i.size = n) :
    RanU Γ P (Instr.storeAt t cx cv) g H w H' := by
  have hc := hv.cells
  obtain ⟨a, rfl, hd, hm⟩ := hx
  have hsz : cv.cells.size = n := by rw [← hl, ← hc.length]; simp
  cases hcs : acells v with
  | nil =>
    have h0 : n = 0 := by rw [← hl, hcs]; rfl
    have : cv.cells.toList = [] := by rw [hcs] at hc; exact hc
    rw [hcs] at h
    have hH : H' = H := by simp [wrc, lall] at h; exact h.symm
    subst hH
    refine ⟨w, g, ?_, hw, .refl _ _ _⟩
    simp [Instr.storeAt, Instr.sureAddr, storeVar, run_sizeOf' hi, hsz, hn, this, storeCells]
  | cons y ys =>
    obtain ⟨a', ha', w', hr, h1, h2⟩ := wrc_run (P := P) hw (x := .ptr b off) (v := .pointer (some a)) ⟨a, rfl, hd, hm⟩ hc h (by rw [hcs]; simp)
    cases ha'
    have : a.add 0 = a := by simp [Addr.add]
    rw [this] at hr
    refine ⟨w', g, ?_, h1, h2⟩
    simp [Instr.storeAt, Instr.sureAddr, storeVar, run_sizeOf' hi, hsz, hn, hr]

end
end Go.Aw

/- What the model's operations do, told of abstract values: second part: values that are built, cut, indexed, reckoned. -/
namespace Go.Aw

section
variable {Γ : Globs} {P : Program} {g : Gh} {H : AHeap} {w : World}

theorem zipFold_get : ∀ (vs : List Value) (off j0 : Nat) (ccs : Array Value), off + j0 + vs.length ≤ ccs.size →
    ((vs.zipIdx j0).foldl (fun (cs : Array Value) (p : Value × Nat) => cs.setIfInBounds (off + p.2) p.1) ccs).size = ccs.size ∧
    ∀ k, ((vs.zipIdx j0).foldl (fun (cs : Array Value) (p : Value × Nat) => cs.setIfInBounds (off + p.2) p.1) ccs)[k]? = if off + j0 ≤ k ∧ k < off + j0 + vs.length then vs[k - (off + j0)]? else ccs[k]? := by
  intro vs
  induction vs with
  | nil => intro off j0 ccs h; exact ⟨rfl, fun k => by rw [if_neg (by simp only [List.length_nil]; omega)]; rfl⟩
  | cons v vs ih =>
    intro off j0 ccs h
    simp only [List.length_cons] at h
    simp only [List.zipIdx_cons, List.foldl_cons]
    obtain ⟨h1, h2⟩ := ih off (j0 + 1) (ccs.setIfInBounds (off + j0) v) (by simp; omega)
    refine ⟨by rw [h1]; simp, fun k => ?_⟩
    rw [h2 k]
    simp only [List.length_cons]
    by_cases e : off + (j0 + 1) ≤ k ∧ k < off + (j0 + 1) + vs.length
    · rw [if_pos e, if_pos (by omega)]
      have : k - (off + j0) = (k - (off + (j0 + 1))) + 1 := by omega
      rw [this, List.getElem?_cons_succ]
    · rw [if_neg e, Array.getElem?_setIfInBounds]
      by_cases e2 : off + j0 = k
      · subst e2
        rw [if_pos rfl, if_pos (by omega), if_pos (by omega)]
        simp
      · rw [if_neg e2, if_neg (by omega)]

/-- The parts of a build: each is an operand that stands for an argument, at its place. -/
def PartsOk (g : Gh) (Γ : Globs) (t : List AVal) (place : Nat → Option (Nat × Nat)) : List (Nat × Value) → List (Nat × Nat × AArg) → Prop
  | [], [] => True
  | (i, v) :: ps, (off, n, x) :: qs => place i = some (off, n) ∧ VRel g (x.ev Γ t) v ∧ PartsOk g Γ t place ps qs
  | _, _ => False

theorem fill_ok {t : List AVal} {place : Nat → Option (Nat × Nat)} : ∀ (ps : List (Nat × Value)) (qs : List (Nat × Nat × AArg)) (cs : List AVal) (ccs : Array Value) (out : List AVal),
    PartsOk g Γ t place ps qs → VRels g cs ccs.toList → afill Γ t cs qs = some out → ∃ couts, Instr.fill place ccs ps = some couts ∧ VRels g out couts.toList := by
  intro ps
  induction ps with
  | nil =>
    intro qs cs ccs out hp hv ha
    cases qs with
    | nil => rw [afill] at ha; cases ha; exact ⟨ccs, rfl, hv⟩
    | cons q qs => exact hp.elim
  | cons p ps ih =>
    intro qs cs ccs out hp hv ha
    obtain ⟨i, v⟩ := p
    cases qs with
    | nil => exact hp.elim
    | cons q qs =>
      obtain ⟨off, n, x⟩ := q
      obtain ⟨hpl, hx, hrest⟩ := hp
      simp only [afill] at ha
      cases hb : (Nat.beq (acells (x.ev Γ t)).length n && Nat.ble (off + n) cs.length) with
      | false => rw [hb] at ha; cases ha
      | true =>
        rw [hb] at ha
        simp only [cond_true] at ha
        rw [Bool.and_eq_true] at hb
        have hn : (acells (x.ev Γ t)).length = n := Nat.eq_of_beq_eq_true hb.1
        have hle := Nat.le_of_ble_eq_true hb.2
        have hc := hx.cells
        have hsz : v.cells.size = n := by rw [← hn, ← hc.length]; simp
        have hcsz : ccs.size = cs.length := by rw [← hv.length]; simp
        have hz := zipFold_get v.cells.toList off 0 ccs (by simp; omega)
        have hcond : (decide (v.cells.size ≠ n) || decide (off + v.cells.size > ccs.size)) = false := by
          simp [hsz]; omega
        obtain ⟨couts, h1, h2⟩ := ih qs (splice cs off (acells (x.ev Γ t))) (v.cells.zipIdx.foldl (fun cs (p : Value × Nat) => cs.setIfInBounds (off + p.2) p.1) ccs) out hrest (by
          rw [← Array.foldl_toList, Array.toList_zipIdx]
          refine VRels.of_get (by rw [splice_length, Array.length_toList, hz.1, hcsz]) fun k y cv hy hcv => ?_
          rw [Array.getElem?_toList, hz.2 k] at hcv
          rw [splice_get cs off _ (by omega)] at hy
          rw [hc.length] at hcv
          by_cases e : off ≤ k ∧ k < off + (acells (x.ev Γ t)).length
          · rw [if_pos e] at hy
            rw [if_pos (by omega)] at hcv
            obtain ⟨v', hv', hr⟩ := hc.get _ y hy
            rw [show k - (off + 0) = k - off from by omega, hv'] at hcv
            cases hcv; exact hr
          · rw [if_neg e] at hy
            rw [if_neg (by omega)] at hcv
            obtain ⟨v', hv', hr⟩ := hv.get _ y hy
            rw [Array.getElem?_toList, hcv] at hv'
            cases hv'; exact hr) ha
        refine ⟨couts, ?_, h2⟩
        rw [Instr.fill, hpl]
        simp only [hcond]
        exact h1

theorem run_mapFields {α β : Type} (f : α → Sem β) (f' : α → β) : ∀ (xs : List α), (∀ x ∈ xs, ∀ w, (f x).run P w = .ok (f' x) w) → ∀ w, (xs.mapM f).run P w = .ok (xs.map f') w := by
  intro xs
  induction xs with
  | nil => intro _ w; simp
  | cons x xs ih =>
    intro h w
    simp [List.mapM_cons, h x List.mem_cons_self, ih (fun y hy => h y (List.mem_cons_of_mem _ hy))]

theorem ran_build {t : List AVal} (hw : WRel Γ g H w) {ty : TypeId} {i : TypeInfo} {z : Value} {zs cs : List AVal} {fs : Array Field} {ps : Array (Nat × Value)} {qs : List (Nat × Nat × AArg)}
    (hi : P.info? ty = some i) (hz : i.zero = some z) (hzs : VRels g zs z.cells.toList) (hu : P.underlying ty = some (.struct fs)) (hfs : ∀ f ∈ fs, (P.info? f.type).isSome = true)
    (hp : PartsOk g Γ t (fun k => (fs[k]?).map fun f => (f.offset, P.cellsOf f.type)) ps.toList qs) (ha : afill Γ t zs qs = some cs) :
    Ran Γ P (Instr.build ty ps) g H w (.agg cs) H := by
  have hm : ∀ w, (fs.mapM fun f => do pure (f.offset, ← sizeOf f.type) : Sem (Array (Nat × Nat))).run P w = .ok (fs.map fun f => (f.offset, P.cellsOf f.type)) w := by
    intro w
    rw [Array.mapM_eq_mapM_toList]
    simp only [Sem.run_map]
    rw [run_mapFields _ (fun (f : Field) => (f.offset, P.cellsOf f.type))]
    · simp only [Result.andThen_ok]
      congr 1
      exact Array.ext' (by simp)
    · intro f hf w
      obtain ⟨j, hj⟩ := Option.isSome_iff_exists.1 (hfs f (by simpa using hf))
      simp [run_sizeOf' hj, Program.cellsOf, hj]
  obtain ⟨couts, h1, h2⟩ := fill_ok ps.toList qs zs z.cells cs hp hzs ha
  refine .pure (cv := .agg couts) ?_ hw ⟨couts, rfl, h2⟩
  have hplace : (fun (k : Nat) => (fs.map fun (f : Field) => (f.offset, P.cellsOf f.type))[k]?) = fun (k : Nat) => (fs[k]?).map fun (f : Field) => (f.offset, P.cellsOf f.type) := by
    funext k; simp
  simp only [Instr.build, zeroValue, typeInfo, Sem.run_bind, run_program, Result.andThen_ok, hi, hz, Sem.run_pure, run_underlying hu, hm, hplace, h1]

theorem ran_buildA {t : List AVal} (hw : WRel Γ g H w) {ty el : TypeId} {n : Nat} {i j : TypeInfo} {z : Value} {zs cs : List AVal} {ps : Array (Nat × Value)} {qs : List (Nat × Nat × AArg)}
    (hi : P.info? ty = some i) (hz : i.zero = some z) (hzs : VRels g zs z.cells.toList) (hu : P.underlying ty = some (.array n el)) (hj : P.info? el = some j)
    (hp : PartsOk g Γ t (fun k => some (k * j.size, j.size)) ps.toList qs) (ha : afill Γ t zs qs = some cs) :
    Ran Γ P (Instr.build ty ps) g H w (.agg cs) H := by
  obtain ⟨couts, h1, h2⟩ := fill_ok ps.toList qs zs z.cells cs hp hzs ha
  refine .pure (cv := .agg couts) ?_ hw ⟨couts, rfl, h2⟩
  simp only [Instr.build, zeroValue, typeInfo, Sem.run_bind, run_program, Result.andThen_ok, hi, hz, Sem.run_pure, run_underlying hu, run_sizeOf' hj, h1]

theorem Gh.new_sl {b cb len cap es n : Nat} {ex : Bool} {c : Nat} (h1 : len ≤ cap) (h2 : cap ≤ c) (h3 : ex = true → c = cap) (h4 : c * es ≤ n) :
    VRel (g.new b cb 0 n) (.sl b 0 es len cap ex) (.slice (some ⟨cb, 0, none⟩) len c) :=
  ⟨_, _, rfl, h1, h2, h3, .inr rfl, fun c' base hm _ => by
    have : (if b = b then some (cb, 0) else g.mu b) = some (c', base) := hm
    rw [if_pos rfl] at this; cases this
    refine ⟨rfl, ?_⟩
    simp only [Gh.new, if_true]; omega⟩

theorem ran_bslice {t : List AVal} (hw : WRel Γ g H w) {ty el : TypeId} {n : Nat} {i : TypeInfo} {z : Value} {zs cs : List AVal} {ps : Array (Nat × Value)} {qs : List (Nat × Nat × AArg)}
    (hu : P.underlying ty = some (.slice el)) (hi : P.info? el = some i) (hz : i.zero = some z) (hzs : VRels g zs (madeCells z.cells (n * i.size)).toList) (hlim : n * i.size ≤ 16777216)
    (hp : PartsOk g Γ t (fun k => some (k * i.size, i.size)) ps.toList qs) (ha : afill Γ t zs qs = some cs) :
    Ran Γ P (Instr.buildSlice ty n ps) g H w (.sl H.next 0 i.size n n true) (H.new (.cells cs)) := by
  obtain ⟨couts, h1, h2⟩ := fill_ok ps.toList qs zs _ cs hp hzs ha
  have hlen : ∀ (ps : List (Nat × Value)) (place : Nat → Option (Nat × Nat)) (a b : Array Value), Instr.fill place a ps = some b → b.size = a.size := by
    intro ps place
    induction ps with
    | nil => intro a b h; rw [Instr.fill] at h; cases h; rfl
    | cons p ps ih =>
      intro a b h
      obtain ⟨k, v⟩ := p
      rw [Instr.fill] at h
      split at h
      · cases h
      · split at h
        · cases h
        · rename_i off size hpl hc
          rw [ih _ _ h]
          simp only [Bool.or_eq_true, decide_eq_true_eq, not_or] at hc
          have := (zipFold_get v.cells.toList off 0 a (by simp; omega)).1
          rw [← Array.foldl_toList, Array.toList_zipIdx]; exact this
  have hsz : couts.size = n * i.size := by rw [hlen _ _ _ _ h1, size_madeCells]
  obtain ⟨h3, h4⟩ := hw.newRow el (cs := cs) (ccs := couts) (by rw [← h2.length]; simp) h2.arr
  refine ⟨_, _, _, ?_, Gh.new_sl (Nat.le_refl _) (Nat.le_refl _) (fun _ => rfl) (by rw [hsz]; exact Nat.le_refl _), h3, h4⟩
  have hl : ¬ (n * i.size > 2 ^ 24) := by omega
  simp only [Instr.buildSlice, Sem.run_bind, run_underlying hu, Result.andThen_ok, run_sizeOf' hi, if_neg hl]
  by_cases h0 : n * i.size = 0
  · have hm : madeCells z.cells (n * i.size) = (Array.range (n * i.size)).map ((#[] : Array Value)[· % (#[] : Array Value).size]!) := by
      rw [h0]; simp [madeCells, Array.range_zero']
    rw [hm] at h1
    simp only [h0] at h1 ⊢
    simp only [if_true, Sem.run_pure, Sem.run_bind, Result.andThen_ok, h1, run_newRow']
  · simp only [if_neg h0, zeroValue, typeInfo, Sem.run_bind, run_program, Result.andThen_ok, hi, hz, Sem.run_pure]
    have hm : madeCells z.cells (n * i.size) = (Array.range (n * i.size)).map (z.cells[· % z.cells.size]!) := rfl
    rw [hm] at h1
    simp only [h1, Sem.run_bind, run_newRow', Result.andThen_ok, Sem.run_pure]

theorem lrep_length (zs : List AVal) : ∀ n, (lrep zs n).length = n * zs.length
  | 0 => by simp [lrep]
  | n + 1 => by simp [lrep, lrep_length zs n, Nat.succ_mul, Nat.add_comm]

theorem lrep_get (zs : List AVal) : ∀ n k, k < n * zs.length → (lrep zs n)[k]? = zs[k % zs.length]?
  | 0, k, h => by simp at h
  | n + 1, k, h => by
    rw [lrep]
    by_cases hk : k < zs.length
    · rw [List.getElem?_append_left hk, Nat.mod_eq_of_lt hk]
    · rw [List.getElem?_append_right (by omega), lrep_get zs n (k - zs.length) (by rw [Nat.succ_mul] at h; omega)]
      rw [← Nat.mod_eq_sub_mod (by omega)]

theorem lrep_rel {zs : List AVal} {z : Array Value} (h : VRels g zs z.toList) (n : Nat) : VRels g (lrep zs n) (madeCells z (n * z.size)).toList := by
  have hl : zs.length = z.size := by rw [← h.length]; simp
  refine VRels.of_get (by rw [lrep_length, Array.length_toList, size_madeCells, hl]) fun k x v hx hv => ?_
  have hk : k < n * zs.length := by
    rcases Nat.lt_or_ge k (n * zs.length) with h1 | h1
    · exact h1
    · rw [List.getElem?_eq_none (by rw [lrep_length]; exact h1)] at hx; cases hx
  rw [lrep_get zs n k hk] at hx
  obtain ⟨v', hv', hr⟩ := h.get _ x hx
  have hpos : 0 < z.size := by
    rcases Nat.eq_zero_or_pos z.size with e | e
    · rw [hl, e] at hk; simp at hk
    · exact e
  have hlt : k % z.size < z.size := Nat.mod_lt _ hpos
  simp only [madeCells, Array.getElem?_toList, Array.getElem?_map] at hv
  rw [Array.getElem?_eq_getElem (by simp; rw [← hl]; exact hk)] at hv
  simp only [Array.getElem_range, Option.map_some, Option.some.injEq] at hv
  rw [hl, Array.getElem?_toList, Array.getElem?_eq_getElem hlt] at hv'
  cases hv'
  rw [getElem!_pos z (k % z.size) hlt] at hv
  subst hv; exact hr

theorem ran_mksl (hw : WRel Γ g H w) {ty el : TypeId} {i : TypeInfo} {z : Value} {zs : List AVal} (hu : P.underlying ty = some (.slice el)) (hi : P.info? el = some i) (hz : i.zero = some z)
    (hzs : VRels g zs z.cells.toList) (hsz : z.cells.size = i.size) (hby : i.bytes ≤ 65536) {kl kc : IntKind} {l c : Int} (h0 : 0 ≤ l) (hlc : l ≤ c) (hc : c ≤ limit) :
    Ran Γ P (Instr.makeSlice ty (.int kl l) (.int kc c)) g H w (.sl H.next 0 i.size l.toNat c.toNat true) (H.new (.cells (lrep zs c.toNat))) := by
  unfold limit at hc
  have hr := run_make (P := P) w ty el i z hu hi hz kl kc l c h0 hlc (by
    have hc2 : 0 ≤ c := Int.le_trans h0 hlc
    have : (i.bytes : Int) * c ≤ 65536 * 16777216 := Int.mul_le_mul (by omega) (by omega) hc2 (by omega)
    omega) (by omega)
  have hv := lrep_rel hzs c.toNat
  rw [hsz] at hv
  obtain ⟨h3, h4⟩ := hw.newRow el (cs := lrep zs c.toNat) (ccs := madeCells z.cells (c.toNat * i.size)) (by rw [← hv.length]; simp) hv.arr
  exact ⟨_, _, _, hr, Gh.new_sl (by omega) (Nat.le_refl _) (fun _ => rfl) (by rw [size_madeCells]; exact Nat.le_refl _), h3, h4⟩

end
end Go.Aw

/- What the model's operations do, told of abstract values: third part: numbers, texts, comparisons, cuts, addresses. -/
namespace Go.Aw

section
variable {Γ : Globs} {P : Program} {g : Gh} {H : AHeap} {w : World}

theorem run_ibin {op : BinOp} {k : IntKind} {a b : Int} {v : AVal} (h : ibin op k a b = some v) (hs : isShift op = false) (t : TypeId) (x y : Operand) :
    ∃ cv, (do eqGuard op t x y (.int k a) (.int k b); binOp op t (.int k a) (.int k b) : Sem Value).run P w = .ok cv w ∧ VRel g v cv := by
  have hg : eqGuard op t x y (.int k a) (.int k b) = pure () := eqGuard_at_int op t x y (.int k b) k a
  rw [hg]
  cases op <;> simp only [ibin] at h <;> simp only [isShift, Bool.true_eq_false] at hs <;> simp [binOp, Op.intArith, Op.intDiv, Op.intBits, Op.intCmp]
  case add | sub | mul | and | or | xor | andNot | eql | neq | lss | leq | gtr | geq => cases h; simp [VRel]
  case quo | rem =>
    cases hb : (b == 0) with
    | true => rw [hb] at h; cases h
    | false =>
      rw [hb] at h
      cases h
      have : b ≠ 0 := by simpa using hb
      simp [this, VRel]

theorem run_ishift {op : BinOp} {k k' : IntKind} {a b : Int} {v : AVal} (h : ishift op k a b = some v) (hs : isShift op = true) (t : TypeId) (x y : Operand) :
    ∃ cv, (do eqGuard op t x y (.int k a) (.int k' b); binOp op t (.int k a) (.int k' b) : Sem Value).run P w = .ok cv w ∧ VRel g v cv := by
  unfold ishift at h
  split at h
  · cases h
  · rename_i hb
    cases op <;> simp only [isShift, Bool.false_eq_true] at hs <;> cases h <;> simp [eqGuard, binOp, Op.shift, hb, VRel]

theorem run_sbin {op : BinOp} {a b : List UInt8} {v : AVal} (h : sbin op a b = some v) (t : TypeId) (x y : Operand) :
    ∃ cv, (do eqGuard op t x y (.string ⟨a.toArray⟩) (.string ⟨b.toArray⟩); binOp op t (.string ⟨a.toArray⟩) (.string ⟨b.toArray⟩) : Sem Value).run P w = .ok cv w ∧ VRel g v cv := by
  rw [eqGuard_at_string]
  have ht : ∀ l : List UInt8, (ByteArray.mk l.toArray).toList = l := ByteArray.toList_mk
  cases op <;> simp only [sbin] at h <;> (try cases h) <;> simp only [binOp, Op.stringOp, ht, Sem.run_bind, Sem.run_pure, Result.andThen_ok]
  case add =>
    cases hb : Nat.ble (a.length + b.length) 1073741824 with
    | false => rw [hb] at h; cases h
    | true =>
      rw [hb] at h
      simp only [cond_true, Option.some.injEq] at h
      subst h
      have hle := Nat.le_of_ble_eq_true hb
      have hsz : ∀ l : List UInt8, (ByteArray.mk l.toArray).size = l.length := fun l => by simp [ByteArray.size]
      have : ¬ ((((ByteArray.mk a.toArray).size + (ByteArray.mk b.toArray).size : Nat) : Int) > IntKind.i64.max) := by
        rw [hsz, hsz, IntKind.max_i64]; omega
      rw [if_neg this]
      refine ⟨_, rfl, ?_⟩
      simp only [VRel]
      congr 1
  all_goals exact ⟨_, rfl, by simp [VRel]⟩

/-- A struct whose fields are whole numbers, one behind the other. -/
def intFields (P : Program) : List Field → Nat → Bool
  | [], _ => true
  | f :: fs, k => f.name != "_" && Nat.beq f.offset k && (match P.underlying f.type with | some (.int _) => true | _ => false) && intFields P fs (k + 1)

theorem eqFields_ints (d : Nat) : ∀ (fs : List Field) (k : Nat) (xs ys : List AVal) (cxs cys : Array Value) (r : Bool), intFields P fs k = true → xs.length = k + fs.length →
    VRels g xs cxs.toList → VRels g ys cys.toList → eqInts (xs.drop k) (ys.drop k) = some r → (Op.eqFields (d + 1) cxs cys fs).run P w = .ok r w := by
  intro fs
  induction fs with
  | nil =>
    intro k xs ys cxs cys r _ hl _ _ he
    have h1 : xs.drop k = [] := List.drop_eq_nil_of_le (by simp at hl; omega)
    rw [h1] at he
    cases hy : ys.drop k with
    | nil => rw [hy, eqInts] at he; cases he; simp [Op.eqFields]
    | cons y ys' => rw [hy] at he; simp [eqInts] at he
  | cons f fs ih =>
    intro k xs ys cxs cys r hf hl hx hy he
    simp only [intFields, Bool.and_eq_true, bne_iff_ne, ne_eq] at hf
    obtain ⟨⟨⟨h1, h2⟩, h3⟩, h4⟩ := hf
    have hk := Nat.eq_of_beq_eq_true h2
    have hlt : k < xs.length := by simp at hl; omega
    rw [List.drop_eq_getElem_cons hlt] at he
    have hylt : k < ys.length := by
      rcases Nat.lt_or_ge k ys.length with h | h
      · exact h
      · rw [List.drop_eq_nil_of_le h] at he
        cases hv : xs[k] <;> rw [hv] at he <;> simp [eqInts] at he
    rw [List.drop_eq_getElem_cons hylt] at he
    obtain ⟨cx, hcx, hrx⟩ := hx.get k xs[k] (List.getElem?_eq_getElem hlt)
    obtain ⟨cy, hcy, hry⟩ := hy.get k ys[k] (List.getElem?_eq_getElem hylt)
    rw [Array.getElem?_toList] at hcx hcy
    cases hu : P.underlying f.type with
    | none => rw [hu] at h3; cases h3
    | some td =>
      rw [hu] at h3
      cases td <;> simp only [Bool.false_eq_true] at h3
      rename_i ik
      have hagg : (isAgg f.type).run P w = .ok false w := run_isAgg_info hu
      have hp : ∀ (c : Array Value) (cv : Value), c[k]? = some cv → (part f.type c f.offset).run P w = .ok cv w := by
        intro c cv hc
        simp [part, hagg, hk, hc]
      cases hvx : xs[k] with
      | int kx a =>
        cases hvy : ys[k] with
        | int ky b =>
          rw [hvx, hvy, eqInts] at he
          rw [hvx] at hrx; rw [hvy] at hry
          simp only [VRel] at hrx hry
          subst hrx; subst hry
          by_cases hkk : kx = ky
          · rw [if_pos hkk] at he
            subst hkk
            simp only [Op.eqFields, Sem.run_bind, Sem.run_ite]
            rw [if_pos h1]
            simp only [hp cxs _ hcx, Result.andThen_ok, hp cys _ hcy, run_equalIn_int w d f.type kx ik a b hu]
            cases hab : (a == b) with
            | true =>
              rw [hab] at he
              simp only [cond_true] at he
              exact ih (k + 1) xs ys cxs cys r h4 (by simp at hl; omega) hx hy he
            | false =>
              rw [hab] at he
              cases he
              simp
          · rw [if_neg hkk] at he; cases he
        | _ => rw [hvx, hvy] at he; simp [eqInts] at he
      | _ => rw [hvx] at he; simp [eqInts] at he

/-- A type's values are compared as told. -/
def tEk (P : Program) (t : TypeId) : EK → Bool
  | .n => true
  | .b => match P.underlying t with | some .bool => true | _ => false
  | .p => match P.underlying t with | some (.pointer _) => true | _ => false
  | .s => match P.underlying t with | some (.slice _) => true | _ => false
  | .i => match P.underlying t with | some (.interface _) => true | _ => false
  | .f => match P.underlying t with | some (.func _ _ _) => true | _ => false
  | .st n => match P.underlying t with | some (.struct fs) => intFields P fs.toList 0 && !P.stoodInHeld t && !P.eqGuardType P.depth t && Nat.beq fs.size n | _ => false

theorem eqInts_len : ∀ (xs ys : List AVal) (r : Bool), eqInts xs ys = some r → r = true → xs.length = ys.length
  | [], [], _, _, _ => rfl
  | [], _ :: _, _, h, _ => by simp [eqInts] at h
  | .int k a :: xs, .int k' b :: ys, r, h, hr => by
    rw [eqInts] at h
    split at h
    · cases hab : (a == b) with
      | true => rw [hab] at h; simp only [cond_true] at h; simp [eqInts_len xs ys r h hr]
      | false => rw [hab] at h; cases h; cases hr
    · cases h
  | .int _ _ :: _, [], _, h, _ => by simp [eqInts] at h

theorem run_aeqIn (d : Nat) {ek : EK} {x y : AVal} {cx cy : Value} {r : Bool} (h : aeq ek x y = some r) (hx : VRel g x cx) (hy : VRel g y cy) {t : TypeId} (ht : tEk P t ek = true) :
    (Op.equalIn (d + 2) t cx cy).run P w = .ok r w := by
  have hone : ∀ d, P.underlying t = some d → (underlying t).run P w = .ok d w := fun d hd => run_underlying hd w
  cases ek <;> simp only [tEk] at ht
  case n => simp [aeq] at h
  case b =>
    split at ht
    · rename_i hu
      cases x <;> cases y <;> simp only [aeq, Option.some.injEq, reduceCtorEq] at h
      simp only [VRel] at hx hy
      subst hx; subst hy; subst h
      (rw [Op.equalIn, Sem.run_bind, hone _ hu, Result.andThen_ok]; rfl)
    · cases ht
  case p =>
    split at ht
    · rename_i e hu
      cases x <;> cases y <;> simp only [aeq, Option.some.injEq, reduceCtorEq] at h <;> subst h <;> simp only [VRel] at hx hy
      all_goals first | subst hx | (obtain ⟨_, hx⟩ := hx; (first | (obtain ⟨rfl, _⟩ := hx) | (obtain ⟨_, hx⟩ := hx; obtain ⟨rfl, _⟩ := hx)))
      all_goals first | subst hy | (obtain ⟨_, hy⟩ := hy; (first | (obtain ⟨rfl, _⟩ := hy) | (obtain ⟨_, hy⟩ := hy; obtain ⟨rfl, _⟩ := hy)))
      all_goals (rw [Op.equalIn, Sem.run_bind, hone _ hu, Result.andThen_ok]; rfl)
    · cases ht
  case s =>
    split at ht
    · rename_i e hu
      cases x <;> cases y <;> simp only [aeq, Option.some.injEq, reduceCtorEq] at h
      · subst h; simp only [VRel] at hx hy; subst hx; subst hy
        (rw [Op.equalIn, Sem.run_bind, hone _ hu, Result.andThen_ok]; rfl)
      · subst h; simp only [VRel] at hx hy; subst hx; obtain ⟨_, _, rfl, _⟩ := hy
        (rw [Op.equalIn, Sem.run_bind, hone _ hu, Result.andThen_ok]; rfl)
      · subst h; simp only [VRel] at hx hy; subst hy; obtain ⟨_, _, rfl, _⟩ := hx
        (rw [Op.equalIn, Sem.run_bind, hone _ hu, Result.andThen_ok]; rfl)
      · rename_i cs es len
        cases len with
        | zero => simp at h
        | succ len =>
          simp only [Option.some.injEq] at h
          subst h; simp only [VRel] at hx hy; subst hy; obtain ⟨a, c, rfl, h1, h2, h3⟩ := hx
          obtain ⟨cb, off, rfl, _⟩ := h3 (by omega)
          (rw [Op.equalIn, Sem.run_bind, hone _ hu, Result.andThen_ok]; rfl)
    · cases ht
  case i =>
    split at ht
    · rename_i e hu
      cases x <;> cases y <;> simp only [aeq, Option.some.injEq, reduceCtorEq] at h <;> subst h <;> simp only [VRel] at hx hy
      all_goals first | subst hx | (obtain ⟨_, rfl, _⟩ := hx)
      all_goals first | subst hy | (obtain ⟨_, rfl, _⟩ := hy)
      all_goals (rw [Op.equalIn, Sem.run_bind, hone _ hu, Result.andThen_ok]; rfl)
    · cases ht
  case f =>
    split at ht
    · rename_i e hu
      cases x <;> cases y <;> simp only [aeq, Option.some.injEq, reduceCtorEq] at h <;> subst h <;> simp only [VRel] at hx hy
      all_goals first | subst hx | (obtain ⟨_, rfl, _⟩ := hx)
      all_goals first | subst hy | (obtain ⟨_, rfl, _⟩ := hy)
      all_goals (rw [Op.equalIn, Sem.run_bind, hone _ hu, Result.andThen_ok]; rfl)
    · cases ht
  case st n =>
    split at ht
    · rename_i fs hu
      cases x <;> cases y <;> simp only [aeq, reduceCtorEq] at h
      rename_i xs ys
      simp only [Bool.and_eq_true, Bool.not_eq_true'] at ht
      obtain ⟨⟨⟨h1, h2⟩, h3⟩, h4⟩ := ht
      have hlen : xs.length = fs.size := by
        cases hb : Nat.beq xs.length n with
        | false => rw [hb] at h; cases h
        | true => rw [Nat.eq_of_beq_eq_true hb, Nat.eq_of_beq_eq_true h4]
      have h : eqInts xs ys = some r := by
        cases hb : Nat.beq xs.length n with
        | false => rw [hb] at h; cases h
        | true => rw [hb] at h; exact h
      obtain ⟨cxs, rfl, hcx⟩ := hx
      obtain ⟨cys, rfl, hcy⟩ := hy
      have hfo : P.fieldsOf t = fs := by simp [Program.fieldsOf, hu]
      rw [run_equalIn_struct w (d + 1) t cxs cys (by rw [hfo]; exact hu) h2, hfo]
      exact eqFields_ints d fs.toList 0 xs ys cxs cys r h1 (by simpa using hlen) hcx hcy (by simpa using h)
    · cases ht

theorem run_aeq {ek : EK} {x y : AVal} {cx cy : Value} {r : Bool} (h : aeq ek x y = some r) (hx : VRel g x cx) (hy : VRel g y cy) {t : TypeId} (ht : tEk P t ek = true) : (Op.equal t cx cy).run P w = .ok r w :=
  run_aeqIn 9998 h hx hy ht

end
end Go.Aw
