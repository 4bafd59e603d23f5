import Derived.Test.YtkamgngihebpoaaGreatDoorHoCode
import Derived.Orders
/- Rows of operations whose order is open: they are told in an order of their own, in which all that stands behind an effect hangs on it. -/
set_option linter.all false
noncomputable section
namespace Go.Aw

inductive DK where
  | pure | read | alloc (r : Nat) | eff
  deriving DecidableEq, Inhabited

structure DOp where
  idx : Nat
  o : AOper
  bef : List Nat
  kind : DK
  deriving Inhabited

inductive RK where
  | skip | pure | read | alloc (id : Nat) (obj : AObj) | eff
  deriving Inhabited

structure DRec where
  d : DOp
  v : AVal
  t : List AVal
  k : RK
  deriving Inhabited

def tput (t : List AVal) (dst : Option Nat) (v : AVal) : List AVal :=
  match dst with
  | some d => t.set d v
  | none => t

def nmem (n : Nat) : List Nat → Bool
  | [] => false
  | m :: ms => bif Nat.beq n m then true else nmem n ms

theorem nmem_iff {n : Nat} : ∀ {l : List Nat}, nmem n l = true ↔ n ∈ l
  | [] => by simp [nmem]
  | m :: ms => by
    rw [nmem, List.mem_cons]
    cases h : Nat.beq n m with
    | true => simp [Nat.eq_of_beq_eq_true h]
    | false =>
      simp only [cond_false]
      rw [nmem_iff]
      constructor
      · exact .inr
      · rintro (e | e)
        · subst e; rw [show Nat.beq n n = true from Nat.beq_refl n] at h; cases h
        · exact e

/-- Is a block one that an operation made which is not told to have run ahead? -/
def hid (b : Nat) (bef : List Nat) : List DRec → Bool
  | [] => false
  | r :: rs => match r.k with
    | .alloc id _ => bif Nat.beq id b && !nmem r.d.idx bef then true else hid b bef rs
    | _ => hid b bef rs

def hideL (bef : List Nat) (H : AHeap) : List DRec → AHeap
  | [] => H
  | r :: rs => match r.k with
    | .alloc id _ => bif nmem r.d.idx bef then hideL bef H rs else (hideL bef H rs).del id
    | _ => hideL bef H rs

def unhideL (bef : List Nat) (H V : AHeap) : List DRec → AHeap
  | [] => V
  | r :: rs => match r.k with
    | .alloc id _ => bif nmem r.d.idx bef then unhideL bef H V rs else match H.get id with
      | some o => (unhideL bef H V rs).put id o
      | none => unhideL bef H V rs
    | _ => unhideL bef H V rs

theorem hideL_next (bef : List Nat) (H : AHeap) : ∀ rs, (hideL bef H rs).next = H.next
  | [] => rfl
  | r :: rs => by
    rw [hideL]
    split
    · cases nmem r.d.idx bef
      · exact hideL_next bef H rs
      · exact hideL_next bef H rs
    · exact hideL_next bef H rs

theorem unhideL_next (bef : List Nat) (H V : AHeap) : ∀ rs, (unhideL bef H V rs).next = V.next
  | [] => rfl
  | r :: rs => by
    rw [unhideL]
    split
    · cases nmem r.d.idx bef
      · simp only [cond_false]
        split
        · exact unhideL_next bef H V rs
        · exact unhideL_next bef H V rs
      · exact unhideL_next bef H V rs
    · exact unhideL_next bef H V rs

theorem hideL_get (bef : List Nat) (H : AHeap) (b : Nat) : ∀ rs, (hideL bef H rs).get b = if hid b bef rs = true then none else H.get b
  | [] => rfl
  | r :: rs => by
    have ih := hideL_get bef H b rs
    rw [hideL, hid]
    split
    · rename_i id obj hk
      cases hn : nmem r.d.idx bef with
      | true => simpa using ih
      | false =>
        simp only [cond_false, Bool.not_false, Bool.and_true]
        rw [AHeap.get_del]
        cases hb : Nat.beq id b with
        | true => rw [if_pos (Nat.eq_of_beq_eq_true hb).symm]; simp
        | false =>
          rw [if_neg (fun e => by subst e; rw [show Nat.beq b b = true from Nat.beq_refl b] at hb; cases hb)]
          simpa using ih
    · exact ih

theorem unhideL_get (bef : List Nat) (H V : AHeap) (b : Nat) : ∀ rs, (unhideL bef H V rs).get b = if hid b bef rs = true ∧ H.get b ≠ none then H.get b else V.get b
  | [] => by simp [unhideL, hid]
  | r :: rs => by
    have ih := unhideL_get bef H V b rs
    rw [unhideL, hid]
    split
    · rename_i id obj hk
      cases hn : nmem r.d.idx bef with
      | true => simpa using ih
      | false =>
        simp only [cond_false, Bool.not_false, Bool.and_true]
        cases hb : Nat.beq id b with
        | true =>
          have e := Nat.eq_of_beq_eq_true hb
          subst e
          cases hg : H.get id with
          | none => simp only [cond_true]; rw [ih]; simp [hg]
          | some o => simp only [cond_true]; rw [AHeap.get_put]; simp
        | false =>
          have hne : b ≠ id := fun e => by subst e; rw [show Nat.beq b b = true from Nat.beq_refl b] at hb; cases hb
          simp only [cond_false]
          split
          · rw [AHeap.get_put, if_neg hne]; exact ih
          · exact ih
    · exact ih

theorem hid_iff {b : Nat} {bef : List Nat} : ∀ {rs : List DRec}, hid b bef rs = true ↔ ∃ r ∈ rs, ∃ obj, r.k = .alloc b obj ∧ ¬ r.d.idx ∈ bef
  | [] => by simp [hid]
  | r :: rs => by
    rw [hid]
    have ih := hid_iff (b := b) (bef := bef) (rs := rs)
    split
    · rename_i id obj hk
      cases hc : (Nat.beq id b && !nmem r.d.idx bef) with
      | true =>
        simp only [cond_true, true_iff]
        rw [Bool.and_eq_true, Bool.not_eq_true'] at hc
        refine ⟨r, List.mem_cons_self, obj, by rw [hk, Nat.eq_of_beq_eq_true hc.1], fun hm => ?_⟩
        rw [nmem_iff.2 hm] at hc; cases hc.2
      | false =>
        simp only [cond_false]
        rw [ih]
        constructor
        · rintro ⟨q, hq, o, h1, h2⟩; exact ⟨q, List.mem_cons_of_mem _ hq, o, h1, h2⟩
        · rintro ⟨q, hq, o, h1, h2⟩
          rcases List.mem_cons.1 hq with e | e
          · subst e
            rw [hk] at h1
            cases h1
            exfalso
            have : nmem q.d.idx bef = false := by
              cases hn : nmem q.d.idx bef with
              | false => rfl
              | true => exact absurd (nmem_iff.1 hn) h2
            rw [this, show Nat.beq b b = true from Nat.beq_refl b] at hc
            cases hc
          · exact ⟨q, e, o, h1, h2⟩
    · rename_i hna
      rw [ih]
      constructor
      · rintro ⟨q, hq, o, h1, h2⟩; exact ⟨q, List.mem_cons_of_mem _ hq, o, h1, h2⟩
      · rintro ⟨q, hq, o, h1, h2⟩
        rcases List.mem_cons.1 hq with e | e
        · subst e; exact absurd h1 (hna _ _)
        · exact ⟨q, e, o, h1, h2⟩

/-- What was read ahead of an effect, and may be read behind it, is the same. -/
def recheck (Γ : Globs) (bef : List Nat) (H : AHeap) (all : List DRec) : List DRec → Prop
  | [] => True
  | r :: rs => (match r.k with
    | .read => ¬ r.d.idx ∈ bef → ∃ H', astep Γ r.t (hideL r.d.bef H all) r.d.o.op = some (r.v, H')
    | _ => True) ∧ recheck Γ bef H all rs

theorem recheck_mem {Γ : Globs} {bef : List Nat} {H : AHeap} {all : List DRec} : ∀ {rs : List DRec}, recheck Γ bef H all rs → ∀ r ∈ rs, r.k = .read → ¬ r.d.idx ∈ bef → ∃ H', astep Γ r.t (hideL r.d.bef H all) r.d.o.op = some (r.v, H')
  | [], _, r, hr, _, _ => by cases hr
  | q :: rs, h, r, hr, hk, hb => by
    obtain ⟨h1, h2⟩ := h
    rcases List.mem_cons.1 hr with e | e
    · subst e
      rw [hk] at h1
      exact h1 hb
    · exact recheck_mem h2 r e hk hb

/-- What must hold ahead of a row whose order is open. -/
def drawW (Γ : Globs) (P : Program) (base : Nat) (K : List AVal → AHeap → Prop) (X : AVal → AHeap → Prop) : List DOp → List DRec → List AVal → AHeap → Prop
  | [], _, t, H => K t H
  | d :: ds, rs, t, H => match gd t d.o.guard with
    | none => False
    | some false => drawW Γ P base K X ds ({ d := d, v := .tup [], t := t, k := .skip } :: rs) (tput t d.o.dst (.tup [])) H
    | some true => match d.kind with
      | .pure => match astep Γ t H d.o.op with
        | some r => drawW Γ P base K X ds ({ d := d, v := r.1, t := t, k := .pure } :: rs) (tput t d.o.dst r.1) H
        | none => False
      | .read => match astep Γ t (hideL d.bef H rs) d.o.op with
        | some r => drawW Γ P base K X ds ({ d := d, v := r.1, t := t, k := .read } :: rs) (tput t d.o.dst r.1) H
        | none => False
      | .alloc k => match allocOf Γ t d.o.op with
        | some r => drawW Γ P base K X ds ({ d := d, v := r.2 (base + k), t := t, k := .alloc (base + k) r.1 } :: rs) (tput t d.o.dst (r.2 (base + k))) (H.put (base + k) r.1)
        | none => False
      | .eff => awOp Γ P d.o.op (fun v V => recheck Γ d.bef (unhideL d.bef H V rs) rs rs ∧
          drawW Γ P base K X ds ({ d := d, v := v, t := t, k := .eff } :: rs) (tput t d.o.dst v) (unhideL d.bef H V rs)) X t (hideL d.bef H rs)

def applyR (t0 : List AVal) : List DRec → List AVal
  | [] => t0
  | r :: rs => tput (applyR t0 rs) r.d.o.dst r.v

theorem lget_tput (t : List AVal) (dst : Option Nat) (v : AVal) (s : Nat) (h : dst ≠ some s) : lget (tput t dst v) s = lget t s := by
  cases dst with
  | none => rfl
  | some d =>
    rw [lget_eq, lget_eq]
    simp only [tput]
    rw [List.getElem?_set, if_neg]
    intro e; exact h (by rw [e])

theorem applyR_skip {t0 : List AVal} {s : Nat} : ∀ {rs : List DRec} {p : DRec → Bool}, (∀ r ∈ rs, r.d.o.dst = some s → p r = true) → lget (applyR t0 (rs.filter p)) s = lget (applyR t0 rs) s
  | [], _, _ => rfl
  | r :: rs, p, h => by
    have ih := applyR_skip (t0 := t0) (s := s) (rs := rs) (p := p) fun q hq => h q (List.mem_cons_of_mem _ hq)
    by_cases hd : r.d.o.dst = some s
    · rw [List.filter_cons_of_pos (h r List.mem_cons_self hd)]
      simp only [applyR, hd, tput]
      have hl : ∀ {rs : List DRec}, (applyR t0 rs).length = t0.length := by
        intro rs
        induction rs with
        | nil => rfl
        | cons q rs ih => simp only [applyR]; cases q.d.o.dst <;> simp [tput, ih]
      rw [lget_eq, lget_eq, List.getElem?_set, List.getElem?_set, hl, hl]
      simp
    · cases hp : p r with
      | true => rw [List.filter_cons_of_pos hp]; simp only [applyR]; rw [lget_tput _ _ _ _ hd, lget_tput _ _ _ _ hd]; exact ih
      | false => rw [List.filter_cons_of_neg (by simp [hp])]; simp only [applyR]; rw [lget_tput _ _ _ _ hd]; exact ih

theorem applyR_drop {t0 : List AVal} {s : Nat} : ∀ {rs1 rs2 : List DRec}, (∀ r ∈ rs1, r.d.o.dst ≠ some s) → lget (applyR t0 (rs1 ++ rs2)) s = lget (applyR t0 rs2) s
  | [], _, _ => rfl
  | r :: rs1, rs2, h => by
    simp only [List.cons_append, applyR]
    rw [lget_tput _ _ _ _ (h r List.mem_cons_self)]
    exact applyR_drop fun q hq => h q (List.mem_cons_of_mem _ hq)

theorem tput_comm (t : List AVal) {d e : Option Nat} (v u : AVal) (h : ∀ s, d = some s → e ≠ some s) : tput (tput t d v) e u = tput (tput t e u) d v := by
  cases d with
  | none => rfl
  | some s => cases e with
    | none => rfl
    | some s' =>
      simp only [tput]
      exact List.set_comm _ _ (fun e => h s rfl (by rw [e]))

theorem applyR_put {t0 : List AVal} (r : DRec) : ∀ {rs1 rs2 : List DRec}, (∀ q ∈ rs1, ∀ s, r.d.o.dst = some s → q.d.o.dst ≠ some s) → applyR t0 (rs1 ++ r :: rs2) = tput (applyR t0 (rs1 ++ rs2)) r.d.o.dst r.v
  | [], _, _ => rfl
  | q :: rs1, rs2, h => by
    simp only [List.cons_append, applyR]
    rw [applyR_put r fun p hp => h p (List.mem_cons_of_mem _ hp)]
    exact tput_comm _ _ _ fun s hs => h q List.mem_cons_self s hs

end Go.Aw

/- Rows of operations whose order is open: whichever order is taken, what is told of the one order holds. -/
namespace Go.Aw

structure Ext0 (g : Gh) (H : AHeap) (w : World) (g' : Gh) (H' : AHeap) (w' : World) : Prop where
  le : GLe g g'
  dead : ∀ b, g.decl b → H.get b = none → g'.mu b = g.mu b
  live : ∀ b, g.decl b → H'.get b ≠ none → H.get b ≠ none
  own : ∀ cb, Owns g' H' cb → w.heap.size ≤ cb ∨ Owns g H cb
  roN : ∀ cb off c, g'.rho cb off = some c → g.rho cb off = some c ∨ w.heap.size ≤ cb ∨ Owns g H cb
  grow : w.heap.size ≤ w'.heap.size
  keep : ∀ cb, cb < w.heap.size → ¬ Owns g H cb → w'.heap[cb]? = w.heap[cb]?
  io : Io w w'
  dqN : ∀ D, g'.dq D → g.dq D ∨ w.heap.size ≤ D

theorem Ext.e0 {g g' : Gh} {H H' : AHeap} {w w' : World} (h : Ext g H w g' H' w') : Ext0 g H w g' H' w' :=
  ⟨h.le, h.dead, h.live, h.own, h.roN, h.grow, h.keep, h.io, h.dqN⟩

theorem Ext0.trans {g g' g'' : Gh} {H H' H'' : AHeap} {w w' w'' : World} (h : Ext0 g H w g' H' w') (h' : Ext0 g' H' w' g'' H'' w'') : Ext0 g H w g'' H'' w'' where
  le := h.le.trans h'.le
  dead b hd hn := by
    have hn' : H'.get b = none := Classical.byContradiction fun hc => (h.live b hd hc) hn
    rw [h'.dead b (h.le.decl b hd) hn', h.dead b hd hn]
  live b hd hl := h.live b hd (h'.live b (h.le.decl b hd) hl)
  own cb ho := by
    rcases h'.own cb ho with h1 | h1
    · exact .inl (Nat.le_trans h.grow h1)
    · exact h.own cb h1
  roN cb off c hc := by
    rcases h'.roN cb off c hc with h1 | h1 | h1
    · exact h.roN _ _ _ h1
    · exact .inr (.inl (Nat.le_trans h.grow h1))
    · exact .inr (h.own cb h1)
  grow := Nat.le_trans h.grow h'.grow
  keep cb hcb hno := by
    rw [h'.keep cb (Nat.lt_of_lt_of_le hcb h.grow) fun hc => ?_, h.keep cb hcb hno]
    rcases h.own cb hc with h1 | h1
    · omega
    · exact hno h1
  io := h.io.trans h'.io
  dqN D hD := by
    rcases h'.dqN D hD with h1 | h1
    · exact h.dqN D h1
    · exact .inr (Nat.le_trans h.grow h1)

theorem Ext0.ext {g g' : Gh} {H H' : AHeap} {w w' : World} (h : Ext0 g H w g' H' w') (hd : ∀ b, g'.decl b → g.decl b ∨ (H.next ≤ b ∧ b < H'.next)) (hn : H.next ≤ H'.next) : Ext g H w g' H' w' :=
  ⟨h.le, h.dead, h.live, h.own, h.roN, h.grow, h.keep, hd, hn, h.io, h.dqN⟩

theorem Ext0.sub {g : Gh} {H H' : AHeap} {w : World} (hs : ∀ b o, H'.get b = some o → H.get b = some o) : Ext0 g H w g H' w where
  le := .refl g
  dead _ _ _ := rfl
  live b _ hb := by
    cases hh : H'.get b with
    | none => exact absurd hh hb
    | some o => rw [hs b o hh]; simp
  own cb ho := by
    obtain ⟨b, base, hb, hm⟩ := ho
    cases hh : H'.get b with
    | none => exact absurd hh hb
    | some o => exact .inr ⟨b, base, by rw [hs b o hh]; simp, hm⟩
  roN _ _ _ h := .inl h
  grow := Nat.le_refl _
  keep _ _ _ := rfl
  io := .refl _
  dqN _ h := .inl h

/-- A new block under a number below the next: as newAt, but for the numbers' order. -/
theorem WRel.newAt0 {Γ : Globs} {g : Gh} {H H' : AHeap} {w w' : World} {o : AObj} (n b : Nat) (h : WRel Γ g H w) (hbd : ¬ g.decl b) (hbn' : b < H'.next) (hnext : H.next ≤ H'.next)
    (hget : ∀ x, H'.get x = if x = b then some o else H.get x)
    (hsz : w'.heap.size = w.heap.size + 1) (hsame : ∀ c, c < w.heap.size → w'.heap[c]? = w.heap[c]?)
    (ho : ORel (g.new b w.heap.size 0 n) w' w.heap.size 0 o) (hio : Io w w') :
    WRel Γ (g.new b w.heap.size 0 n) H' w' ∧ Ext0 g H w (g.new b w.heap.size 0 n) H' w' := by
  have hle := h.leNew b n hbd
  have hne : ∀ x, g.decl x → x ≠ b := fun x hx e => hbd (e ▸ hx)
  have hmu : ∀ x, g.decl x → (g.new b w.heap.size 0 n).mu x = g.mu x := fun x hx => if_neg (hne x hx)
  have hgn : ∀ x, x ≠ b → H'.get x = H.get x := fun x hx => by rw [hget, if_neg hx]
  have hlt : ∀ x cb base, H.get x ≠ none → (g.new b w.heap.size 0 n).mu x = some (cb, base) → cb < w.heap.size := by
    intro x cb base hx hm
    have hd := h.decl x hx
    rw [hmu x hd] at hm
    exact h.rng x cb base hd hm
  have hmb : (g.new b w.heap.size 0 n).mu b = some (w.heap.size, 0) := if_pos rfl
  refine ⟨⟨fun x ob hx => ?_, fun x hx => ?_, fun x cb base hd hm => ?_, fun x y c b1 b2 hx hy hmx hmy => ?_, fun c off v hc => ?_, fun x c b1 off hx hmx => ?_, fun x hx => ?_, h.glob, fun D hD => by rw [hsame D (h.dqLt hD)]; exact h.dq D hD⟩,
    ⟨hle, fun x hd _ => hmu x hd, fun x hd hx => ?_, fun c ⟨x, b1, hx, hmx⟩ => ?_, fun _ _ _ h => .inl h, by omega, fun c hc _ => hsame c hc, hio, fun _ h => .inl h⟩⟩
  · by_cases e : x = b
    · subst e
      rw [hget, if_pos rfl] at hx; cases hx
      exact ⟨w.heap.size, 0, hmb, ho⟩
    · rw [hgn x e] at hx
      obtain ⟨cb, base, h1, h2⟩ := h.own x ob hx
      have hd := h.decl x (by rw [hx]; simp)
      have hr := h.rng x cb base hd h1
      exact ⟨cb, base, by rw [hmu x hd]; exact h1, h2.mono hle (if_neg (by omega)) (hsame cb hr)⟩
  · by_cases e : x = b
    · exact .inr e
    · rw [hgn x e] at hx; exact .inl (h.decl x hx)
  · rcases hd with hd | hd
    · rw [hmu x hd] at hm
      have := h.rng x cb base hd hm; omega
    · subst hd
      rw [hmb] at hm; cases hm; omega
  · by_cases ex : x = b <;> by_cases ey : y = b
    · exact ex.trans ey.symm
    · rw [hgn y ey] at hy
      have := hlt y c b2 hy hmy
      rw [ex, hmb] at hmx; cases hmx; omega
    · rw [hgn x ex] at hx
      have := hlt x c b1 hx hmx
      rw [ey, hmb] at hmy; cases hmy; omega
    · rw [hgn x ex] at hx; rw [hgn y ey] at hy
      rw [hmu x (h.decl x hx)] at hmx; rw [hmu y (h.decl y hy)] at hmy
      exact h.inj x y c b1 b2 hx hy hmx hmy
  · have hlt := h.cellLt hc
    obtain ⟨cv, hv, hr⟩ := h.ro c off v hc
    refine ⟨cv, ?_, hr.mono hle _ _⟩
    rw [World.cell?_congr (w := w) (hsame c hlt)]
    exact hv
  · by_cases e : x = b
    · subst e
      rw [hmb] at hmx; cases hmx
      cases hh : g.rho w.heap.size off with
      | none => exact hh
      | some v => have := h.cellLt hh; omega
    · rw [hgn x e] at hx
      rw [hmu x (h.decl x hx)] at hmx
      exact h.dis x c b1 off hx hmx
  · rintro (hd | hd)
    · exact h.fresh x (by omega) hd
    · omega
  · rwa [hgn x (hne x hd)] at hx
  · by_cases e : x = b
    · subst e
      rw [hmb] at hmx; cases hmx
      exact .inl (Nat.le_refl _)
    · rw [hgn x e] at hx
      exact .inr ⟨x, b1, hx, by rw [← hmu x (h.decl x hx)]; exact hmx⟩

def guardSlots : Option (Nat × Bool) → List Nat
  | none => []
  | some (s, _) => [s]

def DOp.slots (d : DOp) : List Nat := d.o.op.slots ++ guardSlots d.o.guard

/-- What two of the row's operations, one told ahead of the other, must be to each other. -/
structure PQ (p q : DOp) : Prop where
  ne : p.idx ≠ q.idx
  eff : p.kind = .eff → p.idx ∈ q.bef
  wr : ∀ s, p.o.dst = some s → s ∈ q.slots ∨ q.o.dst = some s → p.idx ∈ q.bef
  rw : ∀ s, q.o.dst = some s → s ∈ p.slots → p.idx ∈ q.bef
  al : ∀ k k', p.kind = .alloc k → q.kind = .alloc k' → k ≠ k'

structure DStat (T : TTab) (ops : Array Oper) (m : Nat) (L : List DOp) : Prop where
  cov : ∀ i, i < ops.size → ∃ d ∈ L, d.idx = i
  lt : ∀ d ∈ L, d.idx < ops.size
  mat : ∀ d ∈ L, omatch1 T ops d.idx d.o = true
  pur : ∀ d ∈ L, d.kind = .pure → isPure d.o.op = true
  rea : ∀ d ∈ L, d.kind = .read → isRead d.o.op = true
  all : ∀ d ∈ L, ∀ k, d.kind = .alloc k → k < m
  eff : ∀ d ∈ L, ∀ x, d.o.op ≠ .dfr x
  bef : ∀ d ∈ L, ∀ j ∈ d.bef, ∃ op e, ops[d.idx]? = some op ∧ e ∈ op.after ∧ Region.binds .any e = true ∧ (e.on = j ∨ ∃ d' ∈ L, d'.idx = e.on ∧ j ∈ d'.bef)
  edge : ∀ (i : Nat) op e, ops[i]? = some op → e ∈ op.after → Region.binds .any e = true → e.on < i
  ord : L.Pairwise PQ

/-- What is told of an operation that has not run yet. -/
def RecOk (Γ : Globs) (H : AHeap) (all : List DRec) (r : DRec) : Prop :=
  match r.k with
  | .skip => gd r.t r.d.o.guard = some false ∧ r.v = .tup []
  | .pure => gd r.t r.d.o.guard = some true ∧ isPure r.d.o.op = true ∧ ∃ H1 H2, astep Γ r.t H1 r.d.o.op = some (r.v, H2)
  | .read => gd r.t r.d.o.guard = some true ∧ isRead r.d.o.op = true ∧ ∃ H', astep Γ r.t (hideL r.d.bef H all) r.d.o.op = some (r.v, H')
  | .alloc id obj => gd r.t r.d.o.guard = some true ∧ ∃ mk, allocOf Γ r.t r.d.o.op = some (obj, mk) ∧ r.v = mk id ∧ H.get id = some obj
  | .eff => False

def HidS (S : Nat → Bool) (rs : List DRec) (b : Nat) : Prop := ∃ r ∈ rs, S r.d.idx = false ∧ ∃ obj, r.k = .alloc b obj

/-- How far a run has come, in whatever order, and how far it has been told. -/
structure DI (Γ : Globs) (P : Program) (base m : Nat) (K : List AVal → AHeap → Prop) (X : AVal → AHeap → Prop) (L : List DOp) (t0 d0 : List AVal) (g0 : Gh) (H0 : AHeap) (w0 : World) (S : Nat → Bool) (a : Act) (w : World)
    (A B : List DOp) (rs : List DRec) (t : List AVal) (H HS : AHeap) (g : Gh) : Prop where
  hL : L = A ++ B
  hA : rs.map (·.d) = A.reverse
  hW : drawW Γ P base K X B rs t H
  hch : ∀ rs1 r rs2, rs = rs1 ++ r :: rs2 → r.t = applyR t0 rs2
  ht : t = applyR t0 rs
  hrec : ∀ r ∈ rs, S r.d.idx = false → RecOk Γ H rs r
  hids : ∀ r ∈ rs, ∀ id obj, r.k = .alloc id obj → ∃ k, r.d.kind = .alloc k ∧ id = base + k
  hB : ∀ d ∈ B, S d.idx = false
  hBa : ∀ d ∈ B, ∀ k, d.kind = .alloc k → H.get (base + k) = none
  hbef : ∀ d ∈ L, S d.idx = true → ∀ j ∈ d.bef, S j = true
  hf : VRels g (applyR t0 (rs.filter fun r => S r.d.idx)) a.tmps.toList
  hd : DRel g d0 a.defers
  hw : WRel Γ g HS w
  hhid : ∀ b, HidS S rs b → HS.get b = none
  hvis : ∀ b, ¬ HidS S rs b → HS.get b = H.get b
  hHSn : HS.next = H.next
  hext : Ext0 g0 H0 w0 g HS w
  hdecl : ∀ b, g.decl b → g0.decl b ∨ (base ≤ b ∧ b < H.next)
  hres : ∀ d ∈ L, ∀ k, d.kind = .alloc k → S d.idx = false → ¬ g.decl (base + k)
  hnext : base + m ≤ H.next

section
variable {Γ : Globs} {P : Program} {T : TTab} {base m : Nat} {K : List AVal → AHeap → Prop} {X : AVal → AHeap → Prop} {L : List DOp} {t0 d0 : List AVal} {g0 : Gh} {H0 : AHeap} {w0 : World} {S : Nat → Bool} {a : Act} {w : World}
  {ops : Array Oper}

theorem pw_split {R : DOp → DOp → Prop} {A B C : List DOp} {p q : DOp} (h : (A ++ p :: (B ++ q :: C)).Pairwise R) : R p q := by
  rw [List.pairwise_append] at h
  have := (List.pairwise_cons.1 h.2.1).1
  exact this q (by simp)

/-- The telling goes on by one that is no effect. -/
theorem DI.adv (hst : DStat T ops m L) {A B : List DOp} {d : DOp} {rs : List DRec} {t : List AVal} {H HS : AHeap} {g : Gh} (h : DI Γ P base m K X L t0 d0 g0 H0 w0 S a w A (d :: B) rs t H HS g)
    (hn : d.kind ≠ .eff ∨ gd t d.o.guard = some false) : ∃ r H', r.d = d ∧ DI Γ P base m K X L t0 d0 g0 H0 w0 S a w (A ++ [d]) B (r :: rs) (tput t d.o.dst r.v) H' HS g := by
  have hW := h.hW
  have hSd : S d.idx = false := h.hB d List.mem_cons_self
  have hdL : d ∈ L := by rw [h.hL]; simp
  have main : ∀ (r : DRec) (H' : AHeap), r.d = d → r.t = t → drawW Γ P base K X B (r :: rs) (tput t d.o.dst r.v) H' → RecOk Γ H' (r :: rs) r →
      (∀ q ∈ rs, S q.d.idx = false → RecOk Γ H rs q → RecOk Γ H' (r :: rs) q) →
      (∀ id obj, r.k = .alloc id obj → ∃ k, r.d.kind = .alloc k ∧ id = base + k) → (∀ e ∈ B, ∀ k, e.kind = .alloc k → H'.get (base + k) = none) →
      (∀ b, ¬ (∃ obj, r.k = .alloc b obj) → H'.get b = H.get b) → (∀ b, (∃ obj, r.k = .alloc b obj) → H.get b = none) → H'.next = H.next →
      ∃ r H', r.d = d ∧ DI Γ P base m K X L t0 d0 g0 H0 w0 S a w (A ++ [d]) B (r :: rs) (tput t d.o.dst r.v) H' HS g := by
    intro r H' hrd hrt hW' hro hold hid hBa hsame hnew hnx
    refine ⟨r, H', hrd, ?_⟩
    constructor
    · rw [h.hL]; simp
    · simp [hrd, h.hA]
    · exact hW'
    · intro rs1 q rs2 he
      cases rs1 with
      | nil =>
        simp only [List.nil_append, List.cons.injEq] at he
        rw [← he.1, ← he.2, hrt]; exact h.ht
      | cons p rs1 =>
        simp only [List.cons_append, List.cons.injEq] at he
        exact h.hch rs1 q rs2 he.2
    · simp only [applyR, hrd]; rw [h.ht]
    · intro q hq hS
      rcases List.mem_cons.1 hq with e | e
      · rw [e]; exact hro
      · exact hold q e hS (h.hrec q e hS)
    · intro q hq id obj hk
      rcases List.mem_cons.1 hq with e | e
      · subst e; exact hid id obj hk
      · exact h.hids q e id obj hk
    · exact fun e he => h.hB e (List.mem_cons_of_mem _ he)
    · exact hBa
    · exact h.hbef
    · rw [List.filter_cons_of_neg (by rw [hrd, hSd]; simp)]; exact h.hf
    · exact h.hd
    · exact h.hw
    · rintro b ⟨q, hq, hS, obj, hk⟩
      rcases List.mem_cons.1 hq with e | e
      · subst e
        by_cases hh : HidS S rs b
        · exact h.hhid b hh
        · rw [h.hvis b hh]; exact hnew b ⟨obj, hk⟩
      · exact h.hhid b ⟨q, e, hS, obj, hk⟩
    · intro b hb
      have hb1 : ¬ HidS S rs b := fun ⟨q, hq, hS, obj, hk⟩ => hb ⟨q, List.mem_cons_of_mem _ hq, hS, obj, hk⟩
      have hb2 : ¬ ∃ obj, r.k = .alloc b obj := fun ⟨obj, hk⟩ => hb ⟨r, List.mem_cons_self, by rw [hrd]; exact hSd, obj, hk⟩
      rw [h.hvis b hb1, hsame b hb2]
    · rw [h.hHSn, hnx]
    · exact h.hext
    · rw [hnx]; exact h.hdecl
    · exact h.hres
    · rw [hnx]; exact h.hnext
  have hBa' : ∀ e ∈ B, ∀ k, e.kind = .alloc k → H.get (base + k) = none := fun e he => h.hBa e (List.mem_cons_of_mem _ he)
  have plain : ∀ (r : DRec), r.d = d → r.t = t → drawW Γ P base K X B (r :: rs) (tput t d.o.dst r.v) H → RecOk Γ H (r :: rs) r → (∀ id obj, r.k ≠ .alloc id obj) →
      ∃ r H', r.d = d ∧ DI Γ P base m K X L t0 d0 g0 H0 w0 S a w (A ++ [d]) B (r :: rs) (tput t d.o.dst r.v) H' HS g := by
    intro r hrd hrt hW' hro hna
    refine main r H hrd hrt hW' hro (fun q _ _ hq => ?_) (fun id obj hk => absurd hk (hna _ _)) hBa' (fun _ _ => rfl) (fun b ⟨obj, hk⟩ => absurd hk (hna _ _)) rfl
    have hhide : hideL q.d.bef H (r :: rs) = hideL q.d.bef H rs := by
      rw [hideL]
      split
      · rename_i hk; exact absurd hk (hna _ _)
      · rfl
    unfold RecOk at hq ⊢
    split <;> rename_i hk <;> simp only [hk] at hq
    · exact hq
    · exact hq
    · rw [hhide]; exact hq
    · exact hq
  rw [drawW] at hW
  split at hW
  · exact hW.elim
  · rename_i hg
    exact plain { d := d, v := .tup [], t := t, k := .skip } rfl rfl hW ⟨hg, rfl⟩ (fun _ _ h => by cases h)
  · rename_i hg
    split at hW
    · rename_i hk
      split at hW
      · rename_i r hr
        exact plain { d := d, v := r.1, t := t, k := .pure } rfl rfl hW ⟨hg, hst.pur d hdL hk, H, r.2, hr⟩ (fun _ _ h => by cases h)
      · exact hW.elim
    · rename_i hk
      split at hW
      · rename_i r hr
        exact plain { d := d, v := r.1, t := t, k := .read } rfl rfl hW ⟨hg, hst.rea d hdL hk, r.2, by rw [hideL]; exact hr⟩ (fun _ _ h => by cases h)
      · exact hW.elim
    · rename_i k hk
      split at hW
      · rename_i r hr
        have hfree : H.get (base + k) = none := h.hBa d List.mem_cons_self k hk
        have hdist : ∀ q ∈ rs, ∀ id obj, q.k = .alloc id obj → id ≠ base + k := by
          intro q hq id obj hqk
          obtain ⟨k', hk', rfl⟩ := h.hids q hq id obj hqk
          have hqA : q.d ∈ A := by
            have : q.d ∈ rs.map (·.d) := List.mem_map_of_mem hq
            rw [h.hA] at this; simpa using this
          obtain ⟨A1, A2, hsp⟩ := List.append_of_mem hqA
          have hp := hst.ord
          rw [h.hL, hsp] at hp
          have : PQ q.d d := by
            have e : A1 ++ q.d :: A2 ++ d :: B = A1 ++ q.d :: (A2 ++ d :: B) := by simp
            rw [e] at hp; exact pw_split hp
          have := this.al k' k hk' hk
          omega
        refine main { d := d, v := r.2 (base + k), t := t, k := .alloc (base + k) r.1 } (H.put (base + k) r.1) rfl rfl hW ⟨hg, r.2, by rw [hr], rfl, by rw [AHeap.get_put]; simp⟩ (fun q hqm hS hq => ?_)
          (fun id obj hkk => ?_) (fun e he k' hk' => ?_) (fun b hb => ?_) (fun b ⟨obj, hb⟩ => ?_) rfl
        · unfold RecOk at hq ⊢
          split <;> rename_i hkq <;> simp only [hkq] at hq
          · exact hq
          · exact hq
          · obtain ⟨h1, h2, H1, h3⟩ := hq
            refine ⟨h1, h2, ?_⟩
            obtain ⟨_, h5⟩ := read_mono h2 h3
            refine ⟨_, h5 _ fun b o hb => ?_⟩
            rw [hideL_get] at hb ⊢
            split at hb
            · cases hb
            · rename_i hnh
              have hbne : b ≠ base + k := by
                intro e; subst e; rw [hfree] at hb; cases hb
              have : ¬ hid b q.d.bef ({ d := d, v := r.2 (base + k), t := t, k := .alloc (base + k) r.1 } :: rs) = true := by
                rw [hid_iff] at hnh ⊢
                rintro ⟨p, hp, o', h6, h7⟩
                rcases List.mem_cons.1 hp with e | e
                · subst e; cases h6; exact hbne rfl
                · exact hnh ⟨p, e, o', h6, h7⟩
              rw [if_neg this, AHeap.get_put, if_neg hbne]; exact hb
          · obtain ⟨h1, mk, h2, h3, h4⟩ := hq
            exact ⟨h1, mk, h2, h3, by rw [AHeap.get_put, if_neg (hdist q hqm _ _ hkq)]; exact h4⟩
        · cases hkk; exact ⟨k, hk, rfl⟩
        · rw [AHeap.get_put, if_neg]
          · exact hBa' e he k' hk'
          · obtain ⟨B1, B2, hsp⟩ := List.append_of_mem he
            have hp := hst.ord
            rw [h.hL, hsp] at hp
            have := (pw_split hp).al k k' hk hk'
            omega
        · rw [AHeap.get_put, if_neg]
          intro e; exact hb ⟨_, by rw [e]⟩
        · cases hb; exact hfree
      · exact hW.elim
    · rename_i hk
      rcases hn with hn | hn
      · exact absurd hk hn
      · rw [hg] at hn; cases hn

end
end Go.Aw

/- Rows of operations whose order is open: a step in whichever order. -/
namespace Go.Aw

section
variable {Γ : Globs} {P : Program} {T : TTab} {base m : Nat} {K : List AVal → AHeap → Prop} {X : AVal → AHeap → Prop} {L : List DOp} {t0 d0 : List AVal} {g0 : Gh} {H0 : AHeap} {w0 : World} {S : Nat → Bool} {a : Act} {w : World}
  {ops : Array Oper}

theorem gd_congr {t t' : List AVal} {gu : Option (Nat × Bool)} (h : ∀ s ∈ guardSlots gu, lget t s = lget t' s) : gd t gu = gd t' gu := by
  cases gu with
  | none => rfl
  | some q => obtain ⟨s, b⟩ := q; simp only [gd]; rw [h s (by simp [guardSlots])]

/-- A's records, taken apart at one of A's operations. -/
theorem DI.rec_of {A B : List DOp} {rs : List DRec} {t : List AVal} {H HS : AHeap} {g : Gh} (h : DI Γ P base m K X L t0 d0 g0 H0 w0 S a w A B rs t H HS g) {d : DOp} (hd : d ∈ A) :
    ∃ rs1 r rs2, rs = rs1 ++ r :: rs2 ∧ r.d = d := by
  have : d ∈ rs.map (·.d) := by rw [h.hA]; simpa using hd
  obtain ⟨r, hr, hrd⟩ := List.mem_map.1 this
  obtain ⟨rs1, rs2, e⟩ := List.append_of_mem hr
  exact ⟨rs1, r, rs2, e, hrd⟩

/-- How the records stand to each other. -/
theorem DI.pq (hst : DStat T ops m L) {A B : List DOp} {rs : List DRec} {t : List AVal} {H HS : AHeap} {g : Gh} (h : DI Γ P base m K X L t0 d0 g0 H0 w0 S a w A B rs t H HS g) {rs1 rs2 : List DRec} {r : DRec}
    (e : rs = rs1 ++ r :: rs2) : (∀ q ∈ rs1, PQ r.d q.d) ∧ (∀ q ∈ rs2, PQ q.d r.d) := by
  have hA : A = (rs2.map (·.d)).reverse ++ r.d :: (rs1.map (·.d)).reverse := by
    have := h.hA
    rw [e] at this
    have h2 : A = ((rs1 ++ r :: rs2).map (·.d)).reverse := by rw [this]; simp
    rw [h2]; simp
  have hp := hst.ord
  rw [h.hL, hA] at hp
  constructor
  · intro q hq
    obtain ⟨q1, q2, hsp⟩ := List.append_of_mem hq
    have : (rs2.map (·.d)).reverse ++ r.d :: (rs1.map (·.d)).reverse ++ B = (rs2.map (·.d)).reverse ++ r.d :: ((q2.map (·.d)).reverse ++ q.d :: ((q1.map (·.d)).reverse ++ B)) := by
      rw [hsp]; simp
    rw [this] at hp
    exact pw_split hp
  · intro q hq
    obtain ⟨q1, q2, hsp⟩ := List.append_of_mem hq
    have : (rs2.map (·.d)).reverse ++ r.d :: (rs1.map (·.d)).reverse ++ B = (q2.map (·.d)).reverse ++ q.d :: ((q1.map (·.d)).reverse ++ r.d :: ((rs1.map (·.d)).reverse ++ B)) := by
      rw [hsp]; simp
    rw [this] at hp
    exact pw_split hp

theorem DI.memL {A B : List DOp} {rs : List DRec} {t : List AVal} {H HS : AHeap} {g : Gh} (h : DI Γ P base m K X L t0 d0 g0 H0 w0 S a w A B rs t H HS g) {r : DRec} (hr : r ∈ rs) : r.d ∈ L := by
  have : r.d ∈ rs.map (·.d) := List.mem_map_of_mem hr
  rw [h.hA] at this
  rw [h.hL]; exact List.mem_append_left _ (by simpa using this)

/-- The slots that a record's operation looks at hold now what they held when it was told. -/
theorem DI.agree (hst : DStat T ops m L) {A B : List DOp} {rs : List DRec} {t : List AVal} {H HS : AHeap} {g : Gh} (h : DI Γ P base m K X L t0 d0 g0 H0 w0 S a w A B rs t H HS g) {rs1 rs2 : List DRec} {r : DRec}
    (e : rs = rs1 ++ r :: rs2) (hS : S r.d.idx = false) (hb : ∀ j ∈ r.d.bef, S j = true) : ∀ s ∈ r.d.slots, lget (applyR t0 (rs.filter fun q => S q.d.idx)) s = lget r.t s := by
  intro s hs
  obtain ⟨h1, h2⟩ := h.pq hst e
  rw [h.hch rs1 r rs2 e, e]
  rw [List.filter_append, List.filter_cons_of_neg (by rw [hS]; simp)]
  rw [applyR_drop, applyR_skip]
  · intro q hq hdst
    exact hb _ ((h2 q hq).wr s hdst (.inl hs))
  · intro q hq hdst
    rw [List.mem_filter] at hq
    have hqL : q.d ∈ L := h.memL (by rw [e]; exact List.mem_append_left _ hq.1)
    have := (h1 q hq.1).rw s hdst hs
    have hSr := h.hbef q.d hqL hq.2 _ this
    rw [hS] at hSr; cases hSr

theorem DI.put_eq (hst : DStat T ops m L) {A B : List DOp} {rs : List DRec} {t : List AVal} {H HS : AHeap} {g : Gh} (h : DI Γ P base m K X L t0 d0 g0 H0 w0 S a w A B rs t H HS g) {rs1 rs2 : List DRec} {r : DRec}
    (e : rs = rs1 ++ r :: rs2) (hS : S r.d.idx = false) {S' : Nat → Bool} (hS' : ∀ j, S' j = (S j || j == r.d.idx)) :
    applyR t0 (rs.filter fun q => S' q.d.idx) = tput (applyR t0 (rs.filter fun q => S q.d.idx)) r.d.o.dst r.v := by
  obtain ⟨h1, h2⟩ := h.pq hst e
  have f1 : (rs1.filter fun q => S' q.d.idx) = rs1.filter fun q => S q.d.idx := by
    refine List.filter_congr fun q hq => ?_
    rw [hS']
    have := (h1 q hq).ne
    have : (q.d.idx == r.d.idx) = false := by rw [beq_eq_false_iff_ne]; exact fun e => this e.symm
    rw [this, Bool.or_false]
  have f2 : (rs2.filter fun q => S' q.d.idx) = rs2.filter fun q => S q.d.idx := by
    refine List.filter_congr fun q hq => ?_
    rw [hS']
    have := (h2 q hq).ne
    have : (q.d.idx == r.d.idx) = false := by rw [beq_eq_false_iff_ne]; exact this
    rw [this, Bool.or_false]
  rw [e, List.filter_append, List.filter_append, f1, List.filter_cons_of_pos (by rw [hS']; simp), List.filter_cons_of_neg (by rw [hS]; simp), f2]
  refine applyR_put r fun q hq s hd hqd => ?_
  rw [List.mem_filter] at hq
  have hqL : q.d ∈ L := h.memL (by rw [e]; exact List.mem_append_left _ hq.1)
  have := (h1 q hq.1).wr s hd (.inr hqd)
  have hSr := h.hbef q.d hqL hq.2 _ this
  rw [hS] at hSr; cases hSr

theorem idx_inj (hst : DStat T ops m L) {p q : DOp} (hp : p ∈ L) (hq : q ∈ L) (h : p.idx = q.idx) : p = q := by
  have ho := hst.ord
  obtain ⟨A, B, e⟩ := List.append_of_mem hp
  rw [e] at hq ho
  rcases List.mem_append.1 hq with h1 | h1
  · obtain ⟨A1, A2, e1⟩ := List.append_of_mem h1
    rw [e1] at ho
    have e2 : A1 ++ q :: A2 ++ p :: B = A1 ++ q :: (A2 ++ p :: B) := by simp
    rw [e2] at ho
    exact absurd h.symm (pw_split ho).ne
  · rcases List.mem_cons.1 h1 with h2 | h2
    · exact h2.symm
    · obtain ⟨B1, B2, e1⟩ := List.append_of_mem h2
      rw [e1] at ho
      exact absurd h (pw_split ho).ne

/-- The run takes a step that is told already: a step that is no effect. -/
theorem DI.step (hT : TOk P T) (hst : DStat T ops m L) {A B : List DOp} {rs : List DRec} {t : List AVal} {H HS : AHeap} {g : Gh} (h : DI Γ P base m K X L t0 d0 g0 H0 w0 S a w A B rs t H HS g) {rs1 rs2 : List DRec} {r : DRec}
    (e : rs = rs1 ++ r :: rs2) (hS : S r.d.idx = false) (hb : ∀ j ∈ r.d.bef, S j = true) {S' : Nat → Bool} (hS' : ∀ j, S' j = (S j || j == r.d.idx)) {Q : Exit → Act → World → Prop} {next : Act → World → Prop}
    (hnext : ∀ a' w', (∃ HS' g', DI Γ P base m K X L t0 d0 g0 H0 w0 S' a' w' A B rs t H HS' g') → next a' w') : wpOp P ops Q r.d.idx next a w := by
  have hrL : r.d ∈ L := h.memL (by rw [e]; simp)
  have hok := h.hrec r (by rw [e]; simp) hS
  have hag := h.agree hst e hS hb
  have hput := h.put_eq hst e hS hS'
  have hmat := hst.mat r.d hrL
  unfold omatch1 at hmat
  split at hmat
  · rename_i op hop
    simp only [Bool.and_eq_true, decide_eq_true_eq] at hmat
    obtain ⟨⟨hdst, hmo⟩, hmg⟩ := hmat
    have hSmono : ∀ j, S j = true → S' j = true := fun j hj => by rw [hS', hj]; rfl
    have hSne : ∀ q ∈ L, S q.idx = false → S' q.idx = false ∨ q = r.d := by
      intro q hq hSq
      rw [hS', hSq, Bool.false_or]
      by_cases hc : q.idx = r.d.idx
      · exact .inr (idx_inj hst hq hrL hc)
      · exact .inl (by rw [beq_eq_false_iff_ne]; exact hc)
    have hBS : ∀ d ∈ B, S' d.idx = false := by
      intro d hd
      have hdL : d ∈ L := by rw [h.hL]; exact List.mem_append_right _ hd
      rcases hSne d hdL (h.hB d hd) with h1 | h1
      · exact h1
      · exfalso
        subst h1
        have hmem : r ∈ rs := by rw [e]; simp
        have hrA : r.d ∈ A := by
          have : r.d ∈ rs.map (·.d) := List.mem_map_of_mem hmem
          rw [h.hA] at this; simpa using this
        obtain ⟨A1, A2, e1⟩ := List.append_of_mem hrA
        obtain ⟨B1, B2, e2⟩ := List.append_of_mem hd
        have ho := hst.ord
        rw [h.hL, e1, e2] at ho
        have e3 : A1 ++ r.d :: A2 ++ (B1 ++ r.d :: B2) = A1 ++ r.d :: ((A2 ++ B1) ++ r.d :: B2) := by simp
        rw [e3] at ho
        exact (pw_split ho).ne rfl
    have hbef' : ∀ d ∈ L, S' d.idx = true → ∀ j ∈ d.bef, S' j = true := by
      intro d hd hSd j hj
      rw [hS'] at hSd
      rw [Bool.or_eq_true] at hSd
      rcases hSd with h1 | h1
      · exact hSmono _ (h.hbef d hd h1 j hj)
      · have : d = r.d := idx_inj hst hd hrL (by simpa using h1)
        subst this
        exact hSmono _ (hb j hj)
    have gfr : FRel g ⟨applyR t0 (rs.filter fun q => S q.d.idx), d0⟩ a := ⟨h.hf, h.hd⟩
    have hgd : gd (applyR t0 (rs.filter fun q => S q.d.idx)) r.d.o.guard = gd r.t r.d.o.guard := gd_congr fun s hs => hag s (List.mem_append_right _ hs)
    have hopS : ∀ s ∈ r.d.o.op.slots, lget (applyR t0 (rs.filter fun q => S q.d.idx)) s = lget r.t s := fun s hs => hag s (List.mem_append_left _ hs)
    -- what is common to all: the new state of affairs
    have fin : ∀ (cv : Value) (w' : World) (HS' : AHeap) (g' : Gh), VRel g' r.v cv → WRel Γ g' HS' w' → Ext0 g HS w g' HS' w' → (∀ b, HidS S' rs b → HS'.get b = none) → (∀ b, ¬ HidS S' rs b → HS'.get b = H.get b) → HS'.next = H.next →
        (∀ b, g'.decl b → g.decl b ∨ ∃ obj, r.k = .alloc b obj) → DI Γ P base m K X L t0 d0 g0 H0 w0 S' (a.put op.dst cv) w' A B rs t H HS' g' := by
      intro cv w' HS' g' hv hw' he hhid hvis hn hdec
      constructor
      · exact h.hL
      · exact h.hA
      · exact h.hW
      · exact h.hch
      · exact h.ht
      · intro q hq hSq
        refine h.hrec q hq ?_
        rw [hS'] at hSq
        cases hh : S q.d.idx with
        | false => rfl
        | true => rw [hh] at hSq; cases hSq
      · exact h.hids
      · exact hBS
      · exact h.hBa
      · exact hbef'
      · rw [hput, hdst]
        have := h.hf.mono he.le _ _
        cases hd : r.d.o.dst with
        | none => exact this
        | some s => simp only [tput, Act.put, Array.toList_setIfInBounds]; exact this.set s hv
      · have := h.hd.mono he.le _ _
        cases op.dst <;> exact this
      · exact hw'
      · exact hhid
      · exact hvis
      · exact hn
      · exact h.hext.trans he
      · intro b hb
        rcases hdec b hb with h1 | ⟨obj, h1⟩
        · exact h.hdecl b h1
        · obtain ⟨k, hk, rfl⟩ := h.hids r (by rw [e]; simp) _ _ h1
          have := hst.all r.d hrL k hk
          have := h.hnext
          exact .inr ⟨by omega, by omega⟩
      · intro d hd k hk hSd hdd
        have hSd0 : S d.idx = false := by
          rw [hS'] at hSd
          cases hh : S d.idx with
          | false => rfl
          | true => rw [hh] at hSd; cases hSd
        rcases hdec _ hdd with h1 | ⟨obj, h1⟩
        · exact h.hres d hd k hk hSd0 h1
        · obtain ⟨k', hk', hkk⟩ := h.hids r (by rw [e]; simp) _ _ h1
          have hkk' : k = k' := by omega
          -- two allocations of one number are one
          have hsame : d = r.d := by
            apply Classical.byContradiction
            intro hne
            obtain ⟨L1, L2, eL⟩ := List.append_of_mem hrL
            have ho := hst.ord
            rw [eL] at hd ho
            rcases List.mem_append.1 hd with h2 | h2
            · obtain ⟨A1, A2, e1⟩ := List.append_of_mem h2
              rw [e1] at ho
              have e2 : A1 ++ d :: A2 ++ r.d :: L2 = A1 ++ d :: (A2 ++ r.d :: L2) := by simp
              rw [e2] at ho
              exact (pw_split ho).al k k' hk hk' hkk'
            · rcases List.mem_cons.1 h2 with h3 | h3
              · exact hne h3
              · obtain ⟨B1, B2, e1⟩ := List.append_of_mem h3
                rw [e1] at ho
                exact (pw_split ho).al k' k hk' hk hkk'.symm
          subst hsame
          rw [hS'] at hSd; simp at hSd
      · exact h.hnext
    have hhidS : ∀ b, HidS S' rs b → HidS S rs b := by
      rintro b ⟨q, hq, hSq, obj, hk⟩
      refine ⟨q, hq, ?_, obj, hk⟩
      rw [hS'] at hSq
      cases hh : S q.d.idx with
      | false => rfl
      | true => rw [hh] at hSq; cases hSq
    have hvisS : (∀ id obj, r.k ≠ .alloc id obj) → ∀ b, HidS S rs b → HidS S' rs b := by
      rintro hna b ⟨q, hq, hSq, obj, hk⟩
      refine ⟨q, hq, ?_, obj, hk⟩
      rcases hSne q.d (h.memL hq) hSq with h1 | h1
      · exact h1
      · exfalso
        -- q is r
        have hq2 := hq
        rw [e] at hq2
        obtain ⟨p1, p2⟩ := h.pq hst e
        rcases List.mem_append.1 hq2 with h2 | h2
        · exact (p1 q h2).ne (by rw [h1])
        · rcases List.mem_cons.1 h2 with h3 | h3
          · subst h3; exact hna _ _ hk
          · exact (p2 q h3).ne (by rw [h1])
    have same : (∀ id obj, r.k ≠ .alloc id obj) → ∀ (cv : Value), VRel g r.v cv → next (a.put op.dst cv) w := by
      intro hna cv hv
      refine hnext _ _ ⟨HS, g, fin cv w HS g hv h.hw (Ext.refl g HS w).e0 (fun b hb => h.hhid b (hhidS b hb)) (fun b hb => h.hvis b fun hc => hb (hvisS hna b hc)) h.hHSn (fun b hb => .inl hb)⟩
    unfold wpOp
    simp only [hop]
    unfold RecOk at hok
    split at hok
    · rename_i hk
      obtain ⟨hg, hv⟩ := hok
      rw [gd_wanted gfr hmg (hgd.trans hg)]
      simp only [Bool.false_eq_true, if_false]
      exact same (fun _ _ hc => by rw [hk] at hc; cases hc) undef (by rw [hv]; exact undef_rel g)
    · rename_i hk
      obtain ⟨hg, hp, H1, H2, hs⟩ := hok
      rw [gd_wanted gfr hmg (hgd.trans hg)]
      simp only [if_true]
      left
      rw [← astep_congr hopS] at hs
      obtain ⟨rfl, hany⟩ := pure_any hp hs
      have hmo' : mop T op.op r.d.o.op = true := by
        revert hmo hp
        cases r.d.o.op <;> intro hmo hp <;> first | (cases hop2 : op.op <;> rw [hop2] at hmo <;> exact hmo) | (simp [isPure] at hp)
      obtain ⟨cv, w', g', hr, hv, hw', he⟩ := mop_sound hT h.hw h.hf hmo' (hany HS)
      have hstay : next (a.put op.dst cv) w' := by
        refine hnext _ _ ⟨HS, g', fin cv w' HS g' hv hw' he.e0 (fun b hb => h.hhid b (hhidS b hb)) (fun b hb => h.hvis b fun hc => hb (hvisS (fun _ _ hc => by rw [hk] at hc; cases hc) b hc)) h.hHSn (fun b hb => ?_)⟩
        rcases he.declN b hb with h1 | ⟨h1, h2⟩
        · exact .inl h1
        · omega
      unfold Oper.wp
      rcases hr with hr | ⟨hr, hu⟩
      · rw [hr, Oper.upon_value]; exact hstay
      · rw [hr, Oper.upon_skip, ← hu]; exact hstay
    · rename_i hk
      obtain ⟨hg, hp, H', hs⟩ := hok
      rw [gd_wanted gfr hmg (hgd.trans hg)]
      simp only [if_true]
      left
      rw [← astep_congr hopS] at hs
      obtain ⟨rfl, hany⟩ := read_mono hp hs
      have hsub : ∀ b o, (hideL r.d.bef H rs).get b = some o → HS.get b = some o := by
        intro b o hbo
        rw [hideL_get] at hbo
        split at hbo
        · cases hbo
        · rename_i hnh
          rw [h.hvis b]
          · exact hbo
          · rintro ⟨q, hq, hSq, obj, hkq⟩
            apply hnh
            rw [hid_iff]
            exact ⟨q, hq, obj, hkq, fun hc => by have := hb _ hc; rw [hSq] at this; cases this⟩
      have hmo' : mop T op.op r.d.o.op = true := by
        revert hmo hp
        cases r.d.o.op <;> intro hmo hp <;> first | (cases hop2 : op.op <;> rw [hop2] at hmo <;> exact hmo) | (simp [isRead] at hp)
      obtain ⟨cv, w', g', hr, hv, hw', he⟩ := mop_sound hT h.hw h.hf hmo' (hany HS hsub)
      have hstay : next (a.put op.dst cv) w' := by
        refine hnext _ _ ⟨HS, g', fin cv w' HS g' hv hw' he.e0 (fun b hb => h.hhid b (hhidS b hb)) (fun b hb => h.hvis b fun hc => hb (hvisS (fun _ _ hc => by rw [hk] at hc; cases hc) b hc)) h.hHSn (fun b hb => ?_)⟩
        rcases he.declN b hb with h1 | ⟨h1, h2⟩
        · exact .inl h1
        · omega
      unfold Oper.wp
      rcases hr with hr | ⟨hr, hu⟩
      · rw [hr, Oper.upon_value]; exact hstay
      · rw [hr, Oper.upon_skip, ← hu]; exact hstay
    · rename_i id obj hk
      obtain ⟨hg, mk, hal, hv, hHid⟩ := hok
      rw [gd_wanted gfr hmg (hgd.trans hg)]
      simp only [if_true]
      left
      rw [← alloc_congr hopS] at hal
      have hmo' : mop T op.op r.d.o.op = true := by
        revert hmo hal
        cases r.d.o.op <;> intro hmo hal <;> first | (cases hop2 : op.op <;> rw [hop2] at hmo <;> exact hmo) | (simp [allocOf] at hal)
      obtain ⟨s, hex, cv, w', n, hrun, hio, hsz, hsame, hnew⟩ := alloc_sound hT h.hw h.hf hmo' hal
      obtain ⟨k, hkd, hid'⟩ := h.hids r (by rw [e]; simp) _ _ hk
      have hnd : ¬ g.decl id := by rw [hid']; exact h.hres r.d hrL k hkd hS
      obtain ⟨ho, hvr⟩ := hnew id hnd
      have hidlt : id < HS.next := by
        have := hst.all r.d hrL k hkd
        have := h.hnext
        rw [h.hHSn]; omega
      obtain ⟨hw', he⟩ := h.hw.newAt0 (H' := HS.put id obj) n id hnd hidlt (Nat.le_refl _) (fun x => AHeap.get_put _ _ _ _) hsz hsame ho hio
      have hne : ∀ b, b ≠ id → (HidS S' rs b ↔ HidS S rs b) := by
        intro b hbne
        constructor
        · exact hhidS b
        · rintro ⟨q, hq, hSq, o', hkq⟩
          refine ⟨q, hq, ?_, o', hkq⟩
          rcases hSne q.d (h.memL hq) hSq with h1 | h1
          · exact h1
          · exfalso
            have hq2 := hq
            rw [e] at hq2
            obtain ⟨p1, p2⟩ := h.pq hst e
            rcases List.mem_append.1 hq2 with h2 | h2
            · exact (p1 q h2).ne (by rw [h1])
            · rcases List.mem_cons.1 h2 with h3 | h3
              · subst h3; rw [hk] at hkq; cases hkq; exact hbne rfl
              · exact (p2 q h3).ne (by rw [h1])
      have hself : ¬ HidS S' rs id := by
        rintro ⟨q, hq, hSq, o', hkq⟩
        have hSq0 : S q.d.idx = false := by
          rw [hS'] at hSq
          cases hh : S q.d.idx with
          | false => rfl
          | true => rw [hh] at hSq; cases hSq
        have hq2 := hq
        rw [e] at hq2
        obtain ⟨p1, p2⟩ := h.pq hst e
        obtain ⟨k2, hk2, hk3⟩ := h.hids q hq _ _ hkq
        have hkk : k = k2 := by omega
        rcases List.mem_append.1 hq2 with h2 | h2
        · exact (p1 q h2).al k k2 hkd hk2 hkk
        · rcases List.mem_cons.1 h2 with h3 | h3
          · subst h3; rw [hS'] at hSq; simp at hSq
          · exact (p2 q h3).al k2 k hk2 hkd hkk.symm
      have hstay : next (a.put op.dst cv) w' := by
        refine hnext _ _ ⟨HS.put id obj, _, fin cv w' (HS.put id obj) _ (by rw [hv]; exact hvr) hw' he (fun b hb' => ?_) (fun b hb' => ?_) h.hHSn (fun b hb' => ?_)⟩
        · rw [AHeap.get_put]
          by_cases hbe : b = id
          · subst hbe; exact absurd hb' hself
          · rw [if_neg hbe]; exact h.hhid b ((hne b hbe).1 hb')
        · rw [AHeap.get_put]
          by_cases hbe : b = id
          · subst hbe; rw [if_pos rfl]; exact hHid.symm
          · rw [if_neg hbe]; exact h.hvis b fun hc => hb' ((hne b hbe).2 hc)
        · rcases hb' with h1 | h1
          · exact .inl h1
          · subst h1; exact .inr ⟨obj, hk⟩
      unfold Oper.wp
      have : (execOp a.eval op).run P w = .ok (.value cv) w' := by rw [hex]; simp [hrun]
      rw [this, Oper.upon_value]
      exact hstay
    · exact hok.elim
  · cases hmat

end
end Go.Aw

/- Rows of operations whose order is open: an effect's step. -/
namespace Go.Aw

section
variable {Γ : Globs} {P : Program} {T : TTab} {base m : Nat} {K : List AVal → AHeap → Prop} {X : AVal → AHeap → Prop} {L : List DOp} {t0 d0 : List AVal} {g0 : Gh} {H0 : AHeap} {w0 : World} {S : Nat → Bool} {a : Act} {w : World}
  {ops : Array Oper}

theorem applyR_keep {t0 : List AVal} {s : Nat} : ∀ {rs : List DRec}, (∀ q ∈ rs, q.d.o.dst ≠ some s) → lget (applyR t0 rs) s = lget t0 s
  | [], _ => rfl
  | r :: rs, h => by
    simp only [applyR]
    rw [lget_tput _ _ _ _ (h r List.mem_cons_self)]
    exact applyR_keep fun q hq => h q (List.mem_cons_of_mem _ hq)

theorem DI.effStep (hT : TOk P T) (hst : DStat T ops m L) {A B : List DOp} {d : DOp} {rs : List DRec} {t : List AVal} {H HS : AHeap} {g : Gh} (h : DI Γ P base m K X L t0 d0 g0 H0 w0 S a w A (d :: B) rs t H HS g)
    (hk : d.kind = .eff) (hg : gd t d.o.guard = some true) (hb : ∀ j ∈ d.bef, S j = true) {S' : Nat → Bool} (hS' : ∀ j, S' j = (S j || j == d.idx)) {Q : Exit → Act → World → Prop} {next : Act → World → Prop}
    (hnext : ∀ a' w', (∃ r t' H' HS' g', r.d = d ∧ DI Γ P base m K X L t0 d0 g0 H0 w0 S' a' w' (A ++ [d]) B (r :: rs) t' H' HS' g') → next a' w')
    (hX : ∀ v V' g' t' a w' cv, X v V' → (∀ s, (∀ d ∈ L, d.o.dst ≠ some s) → lget t' s = lget t0 s) → VRel g' v cv → FRel g' ⟨t', d0⟩ a → WRel Γ g' V' w' → Ext0 g0 H0 w0 g' V' w' → (∀ b, g'.decl b → g0.decl b ∨ (base ≤ b ∧ b < V'.next)) → base + m ≤ V'.next → Q (.panic [{ v := cv, recovered := false }]) a w') :
    wpOp P ops Q d.idx next a w := by
  have hdL : d ∈ L := by rw [h.hL]; simp
  have hSd : S d.idx = false := h.hB d List.mem_cons_self
  have hmat := hst.mat d hdL
  -- those told stand ahead of this one
  have hpq : ∀ q ∈ rs, PQ q.d d := by
    intro q hq
    have : q.d ∈ rs.map (·.d) := List.mem_map_of_mem hq
    rw [h.hA] at this
    have hqA : q.d ∈ A := by simpa using this
    obtain ⟨A1, A2, e1⟩ := List.append_of_mem hqA
    have ho := hst.ord
    rw [h.hL, e1] at ho
    have e2 : A1 ++ q.d :: A2 ++ d :: B = A1 ++ q.d :: (A2 ++ d :: B) := by simp
    rw [e2] at ho
    exact pw_split ho
  have hag : ∀ s ∈ d.slots, lget (applyR t0 (rs.filter fun q => S q.d.idx)) s = lget t s := by
    intro s hs
    rw [h.ht, applyR_skip]
    intro q hq hdst
    exact hb _ ((hpq q hq).wr s hdst (.inl hs))
  have hput : applyR t0 (rs.filter fun q => S' q.d.idx) = applyR t0 (rs.filter fun q => S q.d.idx) := by
    congr 1
    refine List.filter_congr fun q hq => ?_
    rw [hS']
    have := (hpq q hq).ne
    have : (q.d.idx == d.idx) = false := by rw [beq_eq_false_iff_ne]; exact this
    rw [this, Bool.or_false]
  have hSeq : ∀ q ∈ rs, S' q.d.idx = S q.d.idx := by
    intro q hq
    rw [hS']
    have := (hpq q hq).ne
    have : (q.d.idx == d.idx) = false := by rw [beq_eq_false_iff_ne]; exact this
    rw [this, Bool.or_false]
  have hgd : gd (applyR t0 (rs.filter fun q => S q.d.idx)) d.o.guard = some true := (gd_congr fun s hs => hag s (List.mem_append_right _ hs)).trans hg
  have hopS : ∀ s ∈ d.o.op.slots, lget t s = lget (applyR t0 (rs.filter fun q => S q.d.idx)) s := fun s hs => (hag s (List.mem_append_left _ hs)).symm
  have hW := h.hW
  simp only [drawW, hg, hk] at hW
  -- the view
  have hVsub : ∀ b o, (hideL d.bef H rs).get b = some o → HS.get b = some o := by
    intro b o hbo
    rw [hideL_get] at hbo
    split at hbo
    · cases hbo
    · rename_i hnh
      rw [h.hvis b]
      · exact hbo
      · rintro ⟨q, hq, hSq, obj, hkq⟩
        apply hnh
        rw [hid_iff]
        exact ⟨q, hq, obj, hkq, fun hc => by have := hb _ hc; rw [hSq] at this; cases this⟩
  have hVn : (hideL d.bef H rs).next = HS.next := by rw [hideL_next, h.hHSn]
  have hVw : WRel Γ g (hideL d.bef H rs) w := h.hw.sub hVsub (Nat.le_of_eq hVn.symm)
  have gfr : FRel g ⟨applyR t0 (rs.filter fun q => S q.d.idx), d0⟩ a := ⟨h.hf, h.hd⟩
  unfold omatch1 at hmat
  split at hmat
  · rename_i op hop
    simp only [Bool.and_eq_true, decide_eq_true_eq] at hmat
    obtain ⟨⟨hdst, hmo⟩, hmg⟩ := hmat
    unfold wpOp
    simp only [hop]
    rw [gd_wanted gfr hmg hgd]
    simp only [if_true]
    left
    have hW2 := awOp_congr hopS hW
    refine awOp_sound hT hW2 hmo (hst.eff d hdL) hVw h.hf (fun v V' g' w' cv hKv hv hw' he => ?_) (fun v V' g' w' cv hXv hv hw' he => ?_)
    · obtain ⟨hre, hdr⟩ := hKv
      -- hidden blocks are not in V'
      have hfree : ∀ b, hid b d.bef rs = true → V'.get b = none := by
        intro b hh
        apply Classical.byContradiction
        intro hne
        have hVb : (hideL d.bef H rs).get b = none := by rw [hideL_get, if_pos hh]
        rw [hid_iff] at hh
        obtain ⟨q, hq, obj, hkq, hnb⟩ := hh
        rcases he.declN b (hw'.decl b hne) with h1 | ⟨h1, h2⟩
        · exact he.live b h1 hne hVb
        · obtain ⟨k, hk1, rfl⟩ := h.hids q hq _ _ hkq
          have := hst.all q.d (h.memL hq) k hk1
          have := h.hnext
          rw [hideL_next] at h1
          omega
      -- the heap behind
      let HS' : AHeap := unhideL d.bef HS V' rs
      have hHS' : ∀ b, HS'.get b = if hid b d.bef rs = true ∧ HS.get b ≠ none then HS.get b else V'.get b := fun b => unhideL_get _ _ _ _ _
      have hHSget : ∀ b, HS'.get b = if V'.get b ≠ none then V'.get b else if (hideL d.bef H rs).get b = none then HS.get b else none := by
        intro b
        rw [hHS']
        by_cases hh : hid b d.bef rs = true
        · rw [hfree b hh, hideL_get, if_pos hh]
          by_cases hn : HS.get b = none
          · simp [hn]
          · simp [hh, hn]
        · rw [if_neg (by simp [hh])]
          by_cases hn : V'.get b = none
          · rw [if_neg (by simp [hn]), hn, hideL_get, if_neg hh]
            by_cases hH : H.get b = none
            · rw [if_pos hH]
              by_cases hHid : HidS S rs b
              · exact (h.hhid b hHid).symm
              · rw [h.hvis b hHid, hH]
            · rw [if_neg hH]
          · rw [if_pos hn]
      have hHSn' : HS'.next = V'.next := unhideL_next _ _ _ _
      obtain ⟨hw2, he2⟩ := h.hw.frame hVsub hVn hw' he hHSn' hHSget
      have hHidS : ∀ r : DRec, r.d = d → r.k = .eff → ∀ b, HidS S' (r :: rs) b ↔ HidS S rs b := by
        intro r hrd hrk b
        constructor
        · rintro ⟨q, hq, hSq, obj, hkq⟩
          rcases List.mem_cons.1 hq with e | e
          · subst e; rw [hrk] at hkq; cases hkq
          · exact ⟨q, e, by rw [← hSeq q e]; exact hSq, obj, hkq⟩
        · rintro ⟨q, hq, hSq, obj, hkq⟩
          exact ⟨q, List.mem_cons_of_mem _ hq, by rw [hSeq q hq]; exact hSq, obj, hkq⟩
      have hidOf : ∀ b, HidS S rs b → hid b d.bef rs = true := by
        rintro b ⟨q, hq, hSq, obj, hkq⟩
        rw [hid_iff]
        exact ⟨q, hq, obj, hkq, fun hc => by have := hb _ hc; rw [hSq] at this; cases this⟩
      -- a number that is set aside is still free
      have hresv : ∀ e ∈ L, ∀ k, e.kind = .alloc k → S e.idx = false → ¬ g'.decl (base + k) := by
        intro e he1 k hk1 hS1 hc
        rcases he2.declN _ hc with h1 | ⟨h1, h2⟩
        · exact h.hres e he1 k hk1 hS1 h1
        · have := hst.all e he1 k hk1
          have := h.hnext
          rw [h.hHSn] at h1
          omega
      refine hnext _ _ ⟨{ d := d, v := v, t := t, k := .eff }, tput t d.o.dst v, unhideL d.bef H V' rs, HS', g', rfl, ?_⟩
      constructor
      · rw [h.hL]; simp
      · simp [h.hA]
      · exact hdr
      · intro rs1 q rs2 heq
        cases rs1 with
        | nil =>
          simp only [List.nil_append, List.cons.injEq] at heq
          rw [← heq.1, ← heq.2]; exact h.ht
        | cons p rs1 =>
          simp only [List.cons_append, List.cons.injEq] at heq
          exact h.hch rs1 q rs2 heq.2
      · simp only [applyR]; rw [h.ht]
      · intro q hq hSq
        rcases List.mem_cons.1 hq with e | e
        · subst e
          rw [hS'] at hSq; simp at hSq
        · have hSq0 : S q.d.idx = false := by rw [← hSeq q e]; exact hSq
          have hok := h.hrec q e hSq0
          have hnb : ¬ q.d.idx ∈ d.bef := fun hc => by have := hb _ hc; rw [hSq0] at this; cases this
          unfold RecOk at hok ⊢
          split <;> rename_i hkq <;> simp only [hkq] at hok
          · exact hok
          · exact hok
          · obtain ⟨h1, h2, H1, h3⟩ := hok
            obtain ⟨H2, h4⟩ := recheck_mem hre q e hkq hnb
            exact ⟨h1, h2, H2, h4⟩
          · rename_i id obj
            obtain ⟨h1, mk, h2, h3, h4⟩ := hok
            refine ⟨h1, mk, h2, h3, ?_⟩
            rw [unhideL_get, if_pos ⟨hid_iff.2 ⟨q, e, obj, hkq, hnb⟩, by rw [h4]; simp⟩]
            exact h4
      · intro q hq id obj hkq
        rcases List.mem_cons.1 hq with e | e
        · subst e; cases hkq
        · exact h.hids q e id obj hkq
      · intro e he1
        rw [hS']
        have heL : e ∈ L := by rw [h.hL]; simp [he1]
        have h1 := h.hB e (List.mem_cons_of_mem _ he1)
        obtain ⟨B1, B2, e1⟩ := List.append_of_mem he1
        have ho := hst.ord
        rw [h.hL, e1] at ho
        have := (pw_split ho).ne
        rw [h1, Bool.false_or, beq_eq_false_iff_ne]
        exact fun e => this e.symm
      · intro e he1 k hk1
        have heL : e ∈ L := by rw [h.hL]; simp [he1]
        have hS1 := h.hB e (List.mem_cons_of_mem _ he1)
        have hHn := h.hBa e (List.mem_cons_of_mem _ he1) k hk1
        rw [unhideL_get, if_neg (fun hc => hc.2 hHn)]
        apply Classical.byContradiction
        intro hne
        exact hresv e heL k hk1 hS1 (hw'.decl _ hne)
      · intro e heL hS1 j hj
        rw [hS'] at hS1
        rw [Bool.or_eq_true] at hS1
        rcases hS1 with h1 | h1
        · rw [hS', h.hbef e heL h1 j hj]; rfl
        · have := idx_inj hst heL hdL (by simpa using h1)
          subst this
          rw [hS', hb j hj]; rfl
      · rw [List.filter_cons_of_pos (by simp only [hS']; simp)]
        simp only [applyR]
        rw [hput]
        have := (gfr.mono he.le).put d.o.dst hv
        have h2 := this.t
        rw [hdst]
        cases hd : d.o.dst with
        | none => rw [hd] at h2; exact h2
        | some s => rw [hd] at h2; exact h2
      · rw [hdst]
        have := ((gfr.mono he.le).put d.o.dst hv).d
        cases hd : d.o.dst with
        | none => rw [hd] at this; exact this
        | some s => rw [hd] at this; exact this
      · exact hw2
      · intro b hb1
        have hb2 := (hHidS { d := d, v := v, t := t, k := .eff } rfl rfl b).1 hb1
        rw [hHS', if_neg (fun hc => hc.2 (h.hhid b hb2))]
        exact hfree b (hidOf b hb2)
      · intro b hb1
        have hb2 : ¬ HidS S rs b := fun hc => hb1 ((hHidS { d := d, v := v, t := t, k := .eff } rfl rfl b).2 hc)
        rw [hHS', unhideL_get, h.hvis b hb2]
      · rw [hHSn', unhideL_next]
      · exact h.hext.trans he2.e0
      · intro b hb1
        rw [unhideL_next]
        rcases he.declN b hb1 with h1 | ⟨h1, h2⟩
        · rcases h.hdecl b h1 with h3 | ⟨h3, h4⟩
          · exact .inl h3
          · have := he.next; rw [hideL_next] at this
            exact .inr ⟨h3, by omega⟩
        · rw [hideL_next] at h1
          have := h.hnext
          exact .inr ⟨by omega, h2⟩
      · intro e heL k hk1 hS1
        have hS0 : S e.idx = false := by
          rw [hS'] at hS1
          cases hh : S e.idx with
          | false => rfl
          | true => rw [hh] at hS1; cases hS1
        exact hresv e heL k hk1 hS0
      · rw [unhideL_next]
        have := he.next; rw [hideL_next] at this
        have := h.hnext
        omega
    · have hn1 := he.next
      rw [hideL_next] at hn1
      have hn2 := h.hnext
      refine hX v V' g' _ a w' cv hXv (fun s hs => applyR_keep fun q hq => hs _ (h.memL ((List.mem_filter.1 hq).1))) hv (gfr.mono he.le) hw' (h.hext.trans ((Ext0.sub hVsub).trans he.e0)) (fun b hb1 => ?_) (by omega)
      rcases he.declN b hb1 with h1 | ⟨h1, h2⟩
      · rcases h.hdecl b h1 with h3 | ⟨h3, h4⟩
        · exact .inl h3
        · exact .inr ⟨h3, by omega⟩
      · rw [hideL_next] at h1
        exact .inr ⟨by omega, h2⟩
  · cases hmat

end
end Go.Aw

/- Rows of operations whose order is open: the rule. -/
namespace Go.Aw

section
variable {Γ : Globs} {P : Program} {T : TTab} {base m : Nat} {K : List AVal → AHeap → Prop} {X : AVal → AHeap → Prop} {L : List DOp} {t0 d0 : List AVal} {g0 : Gh} {H0 : AHeap} {w0 : World} {S : Nat → Bool} {a : Act} {w : World}
  {ops : Array Oper}

theorem DI.advs (hst : DStat T ops m L) {d : DOp} {B2 : List DOp} : ∀ {B1 A : List DOp} {rs : List DRec} {t : List AVal} {H HS : AHeap} {g : Gh}, DI Γ P base m K X L t0 d0 g0 H0 w0 S a w A (B1 ++ d :: B2) rs t H HS g →
    (∀ p ∈ B1, p.kind ≠ .eff) → ∃ rs' t' H', DI Γ P base m K X L t0 d0 g0 H0 w0 S a w (A ++ B1) (d :: B2) rs' t' H' HS g
  | [], A, rs, t, H, HS, g, h, _ => ⟨rs, t, H, by rw [List.append_nil]; exact h⟩
  | p :: B1, A, rs, t, H, HS, g, h, hp => by
    obtain ⟨r, H', _, h'⟩ := DI.adv hst h (.inl (hp p List.mem_cons_self))
    obtain ⟨rs', t', H'', h''⟩ := DI.advs hst (B1 := B1) (A := A ++ [p]) h' fun q hq => hp q (List.mem_cons_of_mem _ hq)
    refine ⟨rs', t', H'', ?_⟩
    rw [List.append_assoc] at h''
    exact h''

theorem ready_nil (he : ∀ (i : Nat) op e, ops[i]? = some op → e ∈ op.after → Region.binds .any e = true → e.on < i) {listed : Array Bool} (hsz : listed.size = ops.size) (hr : Region.ready .any ops listed = []) :
    ∀ i, i < ops.size → listed.getD i false = true := by
  intro i
  induction i using Nat.strongRecOn with
  | _ i ih =>
    intro hi
    apply Classical.byContradiction
    intro hn
    have hmem : i ∈ Region.ready .any ops listed := by
      rw [mem_ready]
      have hlt : i < listed.size := by omega
      refine ⟨?_, ops[i], by simp [hi], fun e hea hb => ?_⟩
      · simp [hlt] at hn ⊢; exact hn
      · have := he i ops[i] e (by simp [hi]) hea hb
        exact ih e.on this (by omega)
    rw [hr] at hmem; cases hmem

theorem DI.run (hT : TOk P T) (hst : DStat T ops m L) {Q : Exit → Act → World → Prop}
    (hN : ∀ t' H' g' a' w', K t' H' → FRel g' ⟨t', d0⟩ a' → WRel Γ g' H' w' → Ext0 g0 H0 w0 g' H' w' → (∀ b, g'.decl b → g0.decl b ∨ (base ≤ b ∧ b < H'.next)) → base + m ≤ H'.next → Q .normal a' w')
    (hX : ∀ v V' g' t' a w' cv, X v V' → (∀ s, (∀ d ∈ L, d.o.dst ≠ some s) → lget t' s = lget t0 s) → VRel g' v cv → FRel g' ⟨t', d0⟩ a → WRel Γ g' V' w' → Ext0 g0 H0 w0 g' V' w' → (∀ b, g'.decl b → g0.decl b ∨ (base ≤ b ∧ b < V'.next)) → base + m ≤ V'.next → Q (.panic [{ v := cv, recovered := false }]) a w') :
    ∀ (fuel : Nat) (listed : Array Bool) (a : Act) (w : World) (A B : List DOp) (rs : List DRec) (t : List AVal) (H HS : AHeap) (g : Gh), listed.size = ops.size → (∀ l : List Nat, l.Nodup → (∀ i ∈ l, i < ops.size ∧ listed.getD i false = false) → l.length ≤ fuel) →
      DI Γ P base m K X L t0 d0 g0 H0 w0 (fun j => listed.getD j false) a w A B rs t H HS g → wpAny P .any ops Q fuel listed a w := by
  have done : ∀ (listed : Array Bool) (a : Act) (w : World) (A B : List DOp) (rs : List DRec) (t : List AVal) (H HS : AHeap) (g : Gh), (∀ i, i < ops.size → listed.getD i false = true) →
      DI Γ P base m K X L t0 d0 g0 H0 w0 (fun j => listed.getD j false) a w A B rs t H HS g → Q .normal a w := by
    intro listed a w A B rs t H HS g hall h
    have hBn : B = [] := by
      cases hB : B with
      | nil => rfl
      | cons d B' =>
        have hdL : d ∈ L := by rw [h.hL, hB]; simp
        have h1 := h.hB d (by rw [hB]; simp)
        have h2 := hall _ (hst.lt d hdL)
        simp only [h2] at h1
        cases h1
    subst hBn
    have hfil : (rs.filter fun q => listed.getD q.d.idx false) = rs := by
      rw [List.filter_eq_self]
      intro q hq
      exact hall _ (hst.lt q.d (h.memL hq))
    have hnoH : ∀ b, ¬ HidS (fun j => listed.getD j false) rs b := by
      rintro b ⟨q, hq, hS, _⟩
      have h2 := hall _ (hst.lt q.d (h.memL hq))
      simp only [h2] at hS
      cases hS
    have hget : ∀ b o, H.get b = some o → HS.get b = some o := fun b o hb => by rw [h.hvis b (hnoH b)]; exact hb
    refine hN t H g a w h.hW ⟨?_, h.hd⟩ (h.hw.sub hget (Nat.le_of_eq h.hHSn)) (h.hext.trans (Ext0.sub hget)) h.hdecl h.hnext
    have := h.hf
    rw [hfil, ← h.ht] at this
    exact this
  intro fuel
  induction fuel with
  | zero =>
    intro listed a w A B rs t H HS g hsz hcnt h
    have hall : ∀ i, i < ops.size → listed.getD i false = true := by
      intro i hi
      cases hc : listed.getD i false with
      | true => rfl
      | false =>
        have := hcnt [i] (by simp) (fun j hj => by rw [List.mem_singleton] at hj; subst hj; exact ⟨hi, hc⟩)
        simp at this
    refine ⟨?_, done listed a w A B rs t H HS g hall h⟩
    cases hr : Region.ready .any ops listed with
    | nil => rfl
    | cons i l =>
      have hm : i ∈ Region.ready .any ops listed := by rw [hr]; simp
      rw [mem_ready] at hm
      obtain ⟨h1, o, ho, _⟩ := hm
      have hi : i < ops.size := (Array.getElem?_eq_some_iff.1 ho).1
      have := hall i hi
      have hlt : i < listed.size := by omega
      simp [hlt] at h1 this
      rw [h1] at this; cases this
  | succ fuel ih =>
    intro listed a w A B rs t H HS g hsz hcnt h
    refine ⟨fun hr => done listed a w A B rs t H HS g (ready_nil hst.edge hsz hr) h, fun i hi => ?_⟩
    rw [mem_ready] at hi
    obtain ⟨hi0, o, ho, hall⟩ := hi
    have hlt : i < ops.size := (Array.getElem?_eq_some_iff.1 ho).1
    have hltl : i < listed.size := by omega
    have hif : listed.getD i false = false := by simp [hltl] at hi0 ⊢; exact hi0
    obtain ⟨d, hdL, rfl⟩ := hst.cov i hlt
    have hb : ∀ j ∈ d.bef, listed.getD j false = true := by
      intro j hj
      obtain ⟨op, e, hop, hea, hbi, hc⟩ := hst.bef d hdL j hj
      rw [ho] at hop
      cases hop
      have h1 := hall e hea hbi
      rcases hc with rfl | ⟨d', hd', he', hj'⟩
      · exact h1
      · exact h.hbef d' hd' (by rw [he']; exact h1) j hj'
    have hS' : ∀ j, (listed.setIfInBounds d.idx true).getD j false = (listed.getD j false || j == d.idx) := by
      intro j
      by_cases hj : j = d.idx
      · subst hj; simp [hltl]
      · rw [getD_set_ne false (Ne.symm hj)]
        have : (j == d.idx) = false := by rw [beq_eq_false_iff_ne]; exact hj
        rw [this, Bool.or_false]
    have next : ∀ a' w', (∃ A' B' rs' t' H' HS' g', DI Γ P base m K X L t0 d0 g0 H0 w0 (fun j => (listed.setIfInBounds d.idx true).getD j false) a' w' A' B' rs' t' H' HS' g') →
        wpAny P .any ops Q fuel (listed.setIfInBounds d.idx true) a' w' := by
      rintro a' w' ⟨A', B', rs', t', H', HS', g', h'⟩
      refine ih _ a' w' A' B' rs' t' H' HS' g' (by simp [hsz]) ?_ h'
      intro l hl hlall
      have := hcnt (d.idx :: l) ?_ ?_
      · simp at this; omega
      · rw [List.nodup_cons]
        refine ⟨fun hm => ?_, hl⟩
        have := (hlall _ hm).2
        rw [hS'] at this; simp at this
      · intro i hi
        rcases List.mem_cons.1 hi with e | e
        · subst e; exact ⟨hlt, hif⟩
        · have := hlall i e
          refine ⟨this.1, ?_⟩
          have h2 := this.2
          rw [hS'] at h2
          rw [Bool.or_eq_false_iff] at h2
          exact h2.1
    -- a step that is told
    have told : ∀ {A B : List DOp} {rs : List DRec} {t : List AVal} {H : AHeap}, DI Γ P base m K X L t0 d0 g0 H0 w0 (fun j => listed.getD j false) a w A B rs t H HS g → d ∈ A →
        wpOp P ops Q d.idx (wpAny P .any ops Q fuel (listed.setIfInBounds d.idx true)) a w := by
      intro A B rs t H h hdA
      obtain ⟨rs1, r, rs2, e, hrd⟩ := h.rec_of hdA
      subst hrd
      refine h.step hT hst e hif hb (S' := fun j => (listed.setIfInBounds r.d.idx true).getD j false) hS' fun a' w' ⟨HS', g', h'⟩ => ?_
      exact next a' w' ⟨_, _, _, _, _, _, _, h'⟩
    have hdAB : d ∈ A ++ B := by rw [← h.hL]; exact hdL
    rcases List.mem_append.1 hdAB with hdA | hdB
    · exact told h hdA
    · obtain ⟨B1, B2, eB⟩ := List.append_of_mem hdB
      subst eB
      have hne : ∀ p ∈ B1, p.kind ≠ .eff := by
        intro p hp hpe
        obtain ⟨C1, C2, e1⟩ := List.append_of_mem hp
        have hpL : p ∈ A ++ (B1 ++ d :: B2) := by simp [hp]
        have ho2 := hst.ord
        rw [h.hL, e1] at ho2
        have e2 : A ++ (C1 ++ p :: C2 ++ d :: B2) = (A ++ C1) ++ p :: (C2 ++ d :: B2) := by simp
        rw [e2] at ho2
        have h1 := hb _ ((pw_split ho2).eff hpe)
        have h2 := h.hB p (by simp [hp])
        simp only [h1] at h2
        cases h2
      obtain ⟨rs', t', H', h'⟩ := DI.advs hst h hne
      cases hg : gd t' d.o.guard with
      | none => have hW := h'.hW; simp only [drawW, hg] at hW
      | some b =>
        by_cases hc : d.kind ≠ .eff ∨ gd t' d.o.guard = some false
        · obtain ⟨r, H'', hrd, h''⟩ := DI.adv hst h' hc
          exact told h'' (by simp)
        · have hk : d.kind = .eff := Classical.byContradiction fun hk => hc (.inl hk)
          have hgt : gd t' d.o.guard = some true := by
            cases b with
            | true => exact hg
            | false => exact absurd (.inr hg) hc
          refine h'.effStep hT hst hk hgt hb (S' := fun j => (listed.setIfInBounds d.idx true).getD j false) hS' (fun a' w' ⟨r, t'', H'', HS', g', hrd, h''⟩ => ?_) hX
          exact next a' w' ⟨_, _, _, _, _, _, _, h''⟩

def AHeap.bump (H : AHeap) (m : Nat) : AHeap := match H with
  | ⟨n, t⟩ => ⟨n + m, t⟩

theorem nodup_le : ∀ (n : Nat) (l : List Nat), l.Nodup → (∀ i ∈ l, i < n) → l.length ≤ n
  | 0, [], _, _ => Nat.le_refl _
  | 0, i :: _, _, hl => absurd (hl i List.mem_cons_self) (Nat.not_lt_zero _)
  | n + 1, l, hn, hl => by
    have h1 := nodup_le n (l.erase n) (hn.erase n) fun i hi => by
      rw [hn.mem_erase_iff] at hi
      have := hl i hi.2
      omega
    have h2 := List.length_erase (a := n) (l := l)
    split at h2 <;> omega

/-- The rule of a row whose order is open. -/
theorem AWP.draw (hT : TOk P T) (hmx : P.follows .mixedOrders = true) {id : Nat} (hst : DStat T ops m L) {Q : AExit → Fr → AHeap → Prop} {fr : Fr} {H : AHeap}
    (h : drawW Γ P H.next (fun t H' => Q .normal ⟨t, fr.d⟩ H') (fun v H' => ∀ t', (∀ s, (∀ d ∈ L, d.o.dst ≠ some s) → lget t' s = lget fr.t s) → Q (.panic v) ⟨t', fr.d⟩ H') L [] fr.t (H.bump m)) : AWP Γ P (.region id ops true) Q fr H := by
  intro g a w hf hw
  refine wp_region_any hmx ?_
  have hbg : ∀ b, (H.bump m).get b = H.get b := fun b => rfl
  obtain ⟨hw1, he1⟩ := hw.same (w' := { w with drawn := w.drawn + 1 }) rfl ⟨rfl, rfl⟩
  have hfresh : ∀ k, ¬ g.decl (H.next + k) := fun k hd => hw.fresh _ (by omega) hd
  have hfree : ∀ k, H.get (H.next + k) = none := fun k => Classical.byContradiction fun hn => hfresh k (hw.decl _ hn)
  refine DI.run (Γ := Γ) (K := fun t H' => Q .normal ⟨t, fr.d⟩ H') (X := fun v H' => ∀ t', (∀ s, (∀ d ∈ L, d.o.dst ≠ some s) → lget t' s = lget fr.t s) → Q (.panic v) ⟨t', fr.d⟩ H') (H0 := H) (w0 := w) (g0 := g) (base := H.next) (t0 := fr.t) (d0 := fr.d) (Q := Lift Γ Q g H w) hT hst ?_ ?_ ops.size _ a _ [] L [] fr.t (H.bump m) (H.bump m) g (by simp) (fun l hl hall => nodup_le _ l hl fun i hi => (hall i hi).1) ?_ 
  · intro t' H' g' a' w' hk hf' hw' he hd hn
    exact ⟨.normal, ⟨t', fr.d⟩, H', g', rfl, hf', hw', he.ext hd (by omega), hk⟩
  · intro v V' g' t' a' w' cv hx hag hv hf' hw' he hd hn
    exact ⟨.panic v, ⟨t', fr.d⟩, V', g', ⟨cv, rfl, hv⟩, hf', hw', he.ext hd (by omega), hx t' hag⟩
  · constructor
    · rfl
    · rfl
    · exact h
    · intro rs1 r rs2 e; simp at e
    · rfl
    · intro r hr; cases hr
    · intro r hr; cases hr
    · intro d hd
      have := hst.lt d hd
      simp [this]
    · intro d hd k hk; rw [hbg]; exact hfree k
    · intro d hd hS
      have := hst.lt d hd
      simp [this] at hS
    · exact hf.t
    · exact hf.d
    · exact hw1.sub (fun b o hb => by rw [hbg] at hb; exact hb) (by simp [AHeap.bump])
    · rintro b ⟨r, hr, _⟩; cases hr
    · intro b _; rfl
    · rfl
    · exact he1.e0.trans (Ext0.sub fun b o hb => by rw [hbg] at hb; exact hb)
    · intro b hb; exact .inl hb
    · intro d hd k hk hS; exact hfresh k
    · simp [AHeap.bump]

end
end Go.Aw
