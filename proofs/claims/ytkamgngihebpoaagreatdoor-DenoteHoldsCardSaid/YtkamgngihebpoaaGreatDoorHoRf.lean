import Derived.Test.YtkamgngihebpoaaGreatDoorHoDraw1
import Derived.RangeFuncRecord
import Derived.RangeFuncIn
import Derived.RangeFuncLeaves
/- What a range over a function lays in the heap: none of it is a block of ours. -/
set_option linter.all false
noncomputable section
namespace Go.Aw

/-- As GLe, without what is told of deferred calls. -/
structure GLe0 (g g' : Gh) : Prop where
  decl : ∀ b, g.decl b → g'.decl b
  mu : ∀ b, g.decl b → g'.mu b = g.mu b ∨ g'.mu b = none
  rho : ∀ cb off c, g.rho cb off = some c → g'.rho cb off = some c
  sz : ∀ b cb base, g.decl b → g'.mu b = some (cb, base) → g'.sz cb = g.sz cb

mutual
theorem VRel.mono0 {g g' : Gh} (h : GLe0 g g') : ∀ (x : AVal) (v : Value), VRel g x v → VRel g' x v
  | .bool _, _, hv | .int _ _, _, hv | .str _, _, hv | .nilp, _, hv | .nils, _, hv | .nilm, _, hv | .nilf, _, hv | .nili, _, hv | .yld _, _, hv => hv
  | .ptr b off, v, hv => by
    obtain ⟨a, rfl, hd, hm⟩ := hv
    refine ⟨a, rfl, h.decl _ hd, fun cb base hcb => ?_⟩
    rcases h.mu b hd with e | e
    · exact hm cb base (e ▸ hcb)
    · rw [e] at hcb; cases hcb
  | .rptr cs, v, hv => by
    obtain ⟨cb, off, rfl, hr⟩ := hv
    exact ⟨cb, off, rfl, fun i c hc => h.rho _ _ _ (hr i c hc)⟩
  | .sl b off es len cap ex, v, hv => by
    obtain ⟨a, c, rfl, h1, h2, h3, hd, hm⟩ := hv
    refine ⟨a, c, rfl, h1, h2, h3, h.decl _ hd, fun cb base hcb hc => ?_⟩
    have hs := h.sz b cb base hd hcb
    rcases h.mu b hd with e | e
    · rw [hs]; exact hm cb base (e ▸ hcb) hc
    · rw [e] at hcb; cases hcb
  | .rs cs es len, v, hv => by
    obtain ⟨a, c, rfl, h1, h2, h3⟩ := hv
    refine ⟨a, c, rfl, h1, h2, fun hl => ?_⟩
    obtain ⟨cb, off, ha, hr⟩ := h3 hl
    exact ⟨cb, off, ha, fun i c hc => h.rho _ _ _ (hr i c hc)⟩
  | .map b, v, hv => by
    obtain ⟨r, rfl, hd, hm⟩ := hv
    refine ⟨r, rfl, h.decl _ hd, fun cb base hcb => ?_⟩
    rcases h.mu b hd with e | e
    · exact hm cb base (e ▸ hcb)
    · rw [e] at hcb; cases hcb
  | .fn f cap, v, hv => by
    obtain ⟨vs, rfl, hc⟩ := hv
    exact ⟨vs, rfl, VRels.mono0 h cap _ hc⟩
  | .iface t x, v, hv => by
    obtain ⟨y, rfl, hc⟩ := hv
    exact ⟨y, rfl, VRel.mono0 h x _ hc⟩
  | .agg cs, v, hv => by
    obtain ⟨vs, rfl, hc⟩ := hv
    exact ⟨vs, rfl, VRels.mono0 h cs _ hc⟩
  | .tup cs, v, hv => by
    obtain ⟨vs, rfl, hc⟩ := hv
    exact ⟨vs, rfl, VRels.mono0 h cs _ hc⟩
theorem VRels.mono0 {g g' : Gh} (h : GLe0 g g') : ∀ (xs : List AVal) (vs : List Value), VRels g xs vs → VRels g' xs vs
  | [], _, hv => hv
  | x :: xs, vs, hv => by
    obtain ⟨v, vs', rfl, h1, h2⟩ := hv
    exact ⟨v, vs', rfl, VRel.mono0 h x _ h1, VRels.mono0 h xs _ h2⟩
end

def Gh.setDq (g : Gh) (q : Nat → Prop) : Gh := { g with dq := q }

theorem Gh.setDq_le (g : Gh) (q : Nat → Prop) : GLe0 g (g.setDq q) := ⟨fun _ h => h, fun _ _ => .inl rfl, fun _ _ _ h => h, fun _ _ _ _ _ => rfl⟩

theorem ERels.mono0 {g g' : Gh} (h : GLe0 g g') : ∀ (ps : List (AVal × AVal)) (es : List MapEntry), ERels g ps es → ERels g' ps es
  | [], _, he => he
  | p :: ps, es, he => by
    obtain ⟨e, es', rfl, h1, h2, h3⟩ := he
    exact ⟨e, es', rfl, h1.mono0 h _ _, h2.mono0 h _ _, ERels.mono0 h ps es' h3⟩

theorem ORel.setDq {g : Gh} {w : World} {cb base : Nat} {o : AObj} (q : Nat → Prop) (ho : ORel g w cb base o) : ORel (g.setDq q) w cb base o := by
  cases o with
  | cells cs =>
    obtain ⟨ccs, elem, lo, hi, h1, h2, h3, h4, h5⟩ := ho
    refine ⟨ccs, elem, lo, hi, h1, h2, h3, h4, fun i c hc => ?_⟩
    obtain ⟨v, h6, h7⟩ := h5 i c hc
    exact ⟨v, h6, h7.mono0 (g.setDq_le q) _ _⟩
  | amap es =>
    obtain ⟨h1, ces, clock, h2, h3⟩ := ho
    exact ⟨h1, ces, clock, h2, h3.mono0 (g.setDq_le q) _ _⟩
  | siter s pos => exact ho

/-- Which blocks hold no deferred calls may be told anew. -/
theorem WRel.setDq {Γ : Globs} {g : Gh} {H : AHeap} {w : World} (h : WRel Γ g H w) (q : Nat → Prop) (hq : ∀ D, q D → w.heap[D]? = some (.deferred (some []))) : WRel Γ (g.setDq q) H w where
  own b o hb := by
    obtain ⟨cb, base, h1, h2⟩ := h.own b o hb
    exact ⟨cb, base, h1, h2.setDq q⟩
  decl := h.decl
  rng := h.rng
  inj := h.inj
  ro cb off c hc := by
    obtain ⟨v, h1, h2⟩ := h.ro cb off c hc
    exact ⟨v, h1, h2.mono0 (g.setDq_le q) _ _⟩
  dis := h.dis
  fresh := h.fresh
  glob := h.glob
  dq := hq

theorem putObj_heap (w : World) (l : Nat) (o : Obj) (c : Nat) (h : c ≠ l) : (w.putObj l o).heap[c]? = w.heap[c]? := World.putObj_heap_other h

/-- A block that is none of ours is written. -/
theorem WRel.putOther {Γ : Globs} {g : Gh} {H : AHeap} {w : World} (h : WRel Γ g H w) {l : Nat} {o o' : Obj} (hl : w.heap[l]? = some o) (ho : ∀ c e f, o ≠ .cells c e f) (hm : ∀ a b, o ≠ .map a b) (hi : ∀ a b, o ≠ .stringIter a b) (hd : ¬ g.dq l) :
    WRel Γ g H (w.putObj l o') := by
  have hown : ∀ b ob cb base, H.get b = some ob → g.mu b = some (cb, base) → cb ≠ l := by
    intro b ob cb base hb hmu e
    subst e
    obtain ⟨cb', base', h1, h2⟩ := h.own b ob hb
    rw [hmu] at h1; cases h1
    cases ob with
    | cells cs => obtain ⟨ccs, elem, lo, hi', h3, _⟩ := h2; rw [hl] at h3; cases h3; exact ho _ _ _ rfl
    | amap es => obtain ⟨_, ces, clock, h3, _⟩ := h2; rw [hl] at h3; cases h3; exact hm _ _ rfl
    | siter s pos => obtain ⟨_, h3⟩ := h2; rw [hl] at h3; cases h3; exact hi _ _ rfl
  have hsz : (w.putObj l o').heap.size = w.heap.size := by simp [World.putObj]
  constructor
  · intro b ob hb
    obtain ⟨cb, base, h1, h2⟩ := h.own b ob hb
    exact ⟨cb, base, h1, h2.mono (.refl g) rfl (putObj_heap _ _ _ _ (hown b ob cb base hb h1))⟩
  · exact h.decl
  · rw [hsz]; exact h.rng
  · exact h.inj
  · intro cb off c hc
    obtain ⟨v, hv, hr⟩ := h.ro cb off c hc
    refine ⟨v, ?_, hr⟩
    rw [World.cell?_congr (w := w)]
    · exact hv
    · refine putObj_heap _ _ _ _ fun e => ?_
      have e' : cb = l := e
      subst e'
      unfold World.cell? at hv
      simp only at hv
      rw [hl] at hv
      cases o <;> simp at hv
      exact ho _ _ _ rfl
  · exact h.dis
  · exact h.fresh
  · exact h.glob
  · intro D hD
    have hne : D ≠ l := fun e => by subst e; exact hd hD
    rw [putObj_heap _ _ _ _ hne]
    exact h.dq D hD

theorem WRel.loopFree {Γ : Globs} {g : Gh} {H : AHeap} {w : World} (h : WRel Γ g H w) {l : Nat} {r : Loop} (hl : w.heap[l]? = some (.loop r)) : ¬ Owns g H l ∧ ¬ g.dq l := by
  constructor
  · rintro ⟨b, base, hb, hm⟩
    cases hg : H.get b with
    | none => exact hb hg
    | some o =>
      obtain ⟨cb', base', h1, h2⟩ := h.own b o hg
      rw [hm] at h1
      cases h1
      cases o with
      | cells cs => obtain ⟨ccs, elem, lo, hi, h3, _⟩ := h2; rw [hl] at h3; cases h3
      | amap es => obtain ⟨_, ces, clock, h3, _⟩ := h2; rw [hl] at h3; cases h3
      | siter s pos => obtain ⟨_, h3⟩ := h2; rw [hl] at h3; cases h3
  · intro hd
    have := h.dq l hd
    rw [hl] at this; cases this

theorem putObj_size (w : World) (l : Nat) (o : Obj) : (w.putObj l o).heap.size = w.heap.size := by simp [World.putObj]

theorem WRel.loopPut {Γ : Globs} {g : Gh} {H : AHeap} {w : World} (h : WRel Γ g H w) {l : Nat} {r r' : Loop} (hl : w.heap[l]? = some (.loop r)) : WRel Γ g H (w.putObj l (.loop r')) :=
  h.putOther hl (by intro c e f h; cases h) (by intro a b h; cases h) (by intro a b h; cases h) (h.loopFree hl).2

/-- A block that is new since then is written. -/
theorem Ext.put {g0 g : Gh} {H0 H : AHeap} {w0 w : World} (h : Ext g0 H0 w0 g H w) {l : Nat} {o : Obj} (hl : w0.heap.size ≤ l) : Ext g0 H0 w0 g H (w.putObj l o) :=
  ⟨h.le, h.dead, h.live, h.own, h.roN, by rw [putObj_size]; exact h.grow, fun cb hcb hno => (putObj_heap _ _ _ _ (by omega)).trans (h.keep cb hcb hno), h.declN, h.next, h.io.trans ⟨rfl, rfl⟩, h.dqN⟩

theorem Ext.loop {Γ : Globs} {g g' : Gh} {H H' : AHeap} {w w' : World} (hw : WRel Γ g H w) (h : Ext g H w g' H' w') {l : Nat} {r : Loop} (hl : w.heap[l]? = some (.loop r)) : w'.heap[l]? = some (.loop r) := by
  rw [h.keep l (Array.getElem?_eq_some_iff.1 hl).1 (hw.loopFree hl).1]; exact hl


theorem heap_alloc_lt (w : World) (o : Obj) {c : Nat} (h : c < w.heap.size) : (w.alloc o).heap[c]? = w.heap[c]? := by
  show (w.heap.push o)[c]? = _
  rw [Array.getElem?_push, if_neg (by omega)]

theorem WRel.allocOther {Γ : Globs} {g : Gh} {H : AHeap} {w : World} (h : WRel Γ g H w) (o : Obj) : WRel Γ g H (w.alloc o) := by
  have hsz : (w.alloc o).heap.size = w.heap.size + 1 := by show (w.heap.push o).size = _; simp
  refine ⟨fun b ob hb => ?_, h.decl, fun b cb base hd hm => by rw [hsz]; have := h.rng b cb base hd hm; omega, h.inj, fun cb off c hc => ?_, h.dis, h.fresh, h.glob, fun D hD => ?_⟩
  · obtain ⟨cb, base, h1, h2⟩ := h.own b ob hb
    have hlt := h.rng b cb base (h.decl b (by rw [hb]; exact fun e => by cases e)) h1
    exact ⟨cb, base, h1, h2.mono (.refl g) rfl (heap_alloc_lt w o hlt)⟩
  · obtain ⟨v, hv, hr⟩ := h.ro cb off c hc
    exact ⟨v, by rw [World.cell?_congr (w := w) (heap_alloc_lt w o (h.cellLt hc))]; exact hv, hr⟩
  · rw [heap_alloc_lt w o (h.dqLt hD)]; exact h.dq D hD

theorem Ext.allocOther (g : Gh) (H : AHeap) (w : World) (o : Obj) : Ext g H w g H (w.alloc o) := by
  have hsz : (w.alloc o).heap.size = w.heap.size + 1 := by show (w.heap.push o).size = _; simp
  exact ⟨.refl g, fun _ _ _ => rfl, fun _ _ h => h, fun _ h => .inr h, fun _ _ _ h => .inl h, by omega, fun cb hcb _ => heap_alloc_lt w o hcb, fun _ h => .inl h, Nat.le_refl _, ⟨rfl, rfl⟩, fun _ h => .inl h⟩

theorem Ext.addDq {g : Gh} {H : AHeap} {w0 w : World} {g0 : Gh} {H0 : AHeap} (h : Ext g0 H0 w0 g H w) (D : Nat) (hD : w0.heap.size ≤ D) : Ext g0 H0 w0 (g.setDq fun d => g.dq d ∨ d = D) H w :=
  ⟨⟨h.le.decl, h.le.mu, h.le.rho, h.le.sz, fun _ hd => .inl (h.le.dq _ hd)⟩, h.dead, h.live, h.own, h.roN, h.grow, h.keep, h.declN, h.next, h.io, fun d hd => by
    rcases hd with hd | hd
    · exact h.dqN d hd
    · exact .inr (hd ▸ hD)⟩

end Go.Aw

/- Code, matched as a whole; what must hold ahead of it; and that this is so in the model. -/
namespace Go.Aw

inductive ACode where
  | skip
  | ret
  | exit (n : Nat)
  | region (os : List AOper)
  | draw (m : Nat) (L : List DOp)
  | seq (a b : ACode)
  | cond (x : AArg) (a b : ACode)
  | block (n : Nat) (c : ACode)
  | loop (c : ACode)
  | rcv (dst : Option Nat) (os : List AOper)
  | rfun (x : AArg) (ps : List Nat) (a b : ACode)
  | bad
  deriving Inhabited

def bAll {α : Type} (p : α → Bool) : List α → Bool
  | [] => true
  | x :: xs => bif p x then bAll p xs else false

theorem bAll_iff {α : Type} {p : α → Bool} : ∀ {l : List α}, bAll p l = true → ∀ x ∈ l, p x = true
  | [], _, x, hx => by cases hx
  | y :: l, h, x, hx => by
    rw [bAll] at h
    cases hp : p y with
    | false => rw [hp] at h; cases h
    | true =>
      rw [hp] at h
      rcases List.mem_cons.1 hx with e | e
      · subst e; exact hp
      · exact bAll_iff (by simpa using h) x e

def bAny {α : Type} (p : α → Bool) : List α → Bool
  | [] => false
  | x :: xs => bif p x then true else bAny p xs

theorem bAny_iff {α : Type} {p : α → Bool} : ∀ {l : List α}, bAny p l = true → ∃ x ∈ l, p x = true
  | [], h => by cases h
  | y :: l, h => by
    rw [bAny] at h
    cases hp : p y with
    | false =>
      rw [hp] at h
      obtain ⟨x, hx, h2⟩ := bAny_iff (by simpa using h)
      exact ⟨x, List.mem_cons_of_mem _ hx, h2⟩
    | true => exact ⟨y, List.mem_cons_self, hp⟩

def isDfr : AOp → Bool
  | .dfr _ => true
  | _ => false

def dkOk (m : Nat) (d : DOp) : Bool :=
  match d.kind with
  | .pure => isPure d.o.op
  | .read => isRead d.o.op
  | .alloc k => Nat.blt k m
  | .eff => true

def befOk (ops : Array Oper) (L : List DOp) (d : DOp) (j : Nat) : Bool :=
  match ops[d.idx]? with
  | some op => bAny (fun e => Region.binds .any e && (Nat.beq e.on j || bAny (fun d' => Nat.beq d'.idx e.on && nmem j d'.bef) L)) op.after.toList
  | none => false

def edgesOk : Nat → List Oper → Bool
  | _, [] => true
  | i, op :: os => bAll (fun e => !Region.binds .any e || Nat.blt e.on i) op.after.toList && edgesOk (i + 1) os

def pqOk (p q : DOp) : Bool :=
  !Nat.beq p.idx q.idx &&
  (match p.kind with
    | .eff => nmem p.idx q.bef
    | _ => true) &&
  (match p.o.dst with
    | some s => !(nmem s q.slots || (match q.o.dst with
      | some s' => Nat.beq s s'
      | none => false)) || nmem p.idx q.bef
    | none => true) &&
  (match q.o.dst with
    | some s => !nmem s p.slots || nmem p.idx q.bef
    | none => true) &&
  (match p.kind, q.kind with
    | .alloc k, .alloc k' => !Nat.beq k k'
    | _, _ => true)

def pwOk : List DOp → Bool
  | [] => true
  | d :: ds => bAll (pqOk d) ds && pwOk ds

def drawOk (T : TTab) (ops : Array Oper) (m : Nat) (L : List DOp) : Bool :=
  bAll (fun i => nmem i (L.map (·.idx))) (List.range ops.size) &&
  bAll (fun d => Nat.blt d.idx ops.size && omatch1 T ops d.idx d.o && dkOk m d && !isDfr d.o.op && bAll (befOk ops L d) d.bef) L &&
  edgesOk 0 ops.toList && pwOk L

theorem pqOk_sound {p q : DOp} (h : pqOk p q = true) : PQ p q := by
  unfold pqOk at h
  simp only [Bool.and_eq_true, Bool.not_eq_true'] at h
  obtain ⟨⟨⟨⟨h1, h2⟩, h3⟩, h4⟩, h5⟩ := h
  constructor
  · intro e; rw [e, show Nat.beq q.idx q.idx = true from Nat.beq_refl _] at h1; cases h1
  · intro hk; rw [hk] at h2; exact nmem_iff.1 h2
  · intro s hs hq
    rw [hs] at h3
    simp only [Bool.or_eq_true, Bool.not_eq_true', Bool.or_eq_false_iff] at h3
    rcases h3 with ⟨h6, h7⟩ | h6
    · exfalso
      rcases hq with hq | hq
      · rw [nmem_iff.2 hq] at h6; cases h6
      · rw [hq] at h7; simp only at h7; rw [show Nat.beq s s = true from Nat.beq_refl _] at h7; cases h7
    · exact nmem_iff.1 h6
  · intro s hs hp
    rw [hs] at h4
    simp only [Bool.or_eq_true, Bool.not_eq_true'] at h4
    rcases h4 with h6 | h6
    · rw [nmem_iff.2 hp] at h6; cases h6
    · exact nmem_iff.1 h6
  · intro k k' hp hq e
    rw [hp, hq] at h5
    simp only [Bool.not_eq_true'] at h5
    rw [e, show Nat.beq k' k' = true from Nat.beq_refl _] at h5; cases h5

theorem pwOk_sound : ∀ {L : List DOp}, pwOk L = true → L.Pairwise PQ
  | [], _ => .nil
  | d :: ds, h => by
    rw [pwOk, Bool.and_eq_true] at h
    exact .cons (fun q hq => pqOk_sound (bAll_iff h.1 q hq)) (pwOk_sound h.2)

theorem edgesOk_sound : ∀ {l : List Oper} {k : Nat}, edgesOk k l = true → ∀ (i : Nat) (op : Oper) e, l[i]? = some op → e ∈ op.after → Region.binds .any e = true → e.on < k + i
  | [], _, _, i, op, e, h, _, _ => by simp at h
  | o :: os, k, h, i, op, e, ho, he, hb => by
    rw [edgesOk, Bool.and_eq_true] at h
    cases i with
    | zero =>
      simp only [List.getElem?_cons_zero, Option.some.injEq] at ho
      subst ho
      have := bAll_iff h.1 e (by simpa using he)
      rw [hb] at this
      simp only [Bool.not_true, Bool.false_or] at this
      exact Nat.blt_eq.mp this
    | succ i =>
      simp only [List.getElem?_cons_succ] at ho
      have := edgesOk_sound h.2 i op e ho he hb
      omega

theorem drawOk_sound {T : TTab} {ops : Array Oper} {m : Nat} {L : List DOp} (h : drawOk T ops m L = true) : DStat T ops m L := by
  unfold drawOk at h
  simp only [Bool.and_eq_true] at h
  obtain ⟨⟨⟨h1, h2⟩, h3⟩, h4⟩ := h
  have h2' : ∀ d ∈ L, _ := fun d hd => bAll_iff h2 d hd
  simp only [Bool.and_eq_true, Bool.not_eq_true'] at h2'
  constructor
  · intro i hi
    have := nmem_iff.1 (bAll_iff h1 i (List.mem_range.2 hi))
    obtain ⟨d, hd, e⟩ := List.mem_map.1 this
    exact ⟨d, hd, e⟩
  · exact fun d hd => Nat.blt_eq.mp (h2' d hd).1.1.1.1
  · exact fun d hd => (h2' d hd).1.1.1.2
  · intro d hd hk
    have := (h2' d hd).1.1.2
    unfold dkOk at this; rw [hk] at this; exact this
  · intro d hd hk
    have := (h2' d hd).1.1.2
    unfold dkOk at this; rw [hk] at this; exact this
  · intro d hd k hk
    have := (h2' d hd).1.1.2
    unfold dkOk at this; rw [hk] at this; exact Nat.blt_eq.mp this
  · intro d hd x hx
    have := (h2' d hd).1.2
    rw [hx] at this; cases this
  · intro d hd j hj
    have := bAll_iff (h2' d hd).2 j hj
    unfold befOk at this
    split at this
    · rename_i op hop
      obtain ⟨e, he, h5⟩ := bAny_iff this
      rw [Bool.and_eq_true, Bool.or_eq_true] at h5
      refine ⟨op, e, hop, by simpa using he, h5.1, ?_⟩
      rcases h5.2 with h6 | h6
      · exact .inl (Nat.eq_of_beq_eq_true h6)
      · obtain ⟨d', hd', h7⟩ := bAny_iff h6
        rw [Bool.and_eq_true] at h7
        exact .inr ⟨d', hd', Nat.eq_of_beq_eq_true h7.1, nmem_iff.1 h7.2⟩
    · cases this
  · intro i op e hop he hb
    have := edgesOk_sound h3 i op e (by simpa using hop) he hb
    omega
  · exact pwOk_sound h4

def quiet : AOp → Bool
  | .dfr _ => false
  | .bad => false
  | _ => true

theorem quiet_op {T : TTab} {o : Op} {op : AOp} (h : mop2 T o op = true) (hq : quiet op = true) : ∀ c, o ≠ .defer c := by
  rintro c rfl
  cases op <;> simp [quiet] at hq <;> simp [mop2, mop] at h

def quietC : ACode → Bool
  | .skip => true
  | .region os => bAll (fun o => quiet o.op) os
  | .seq a b => quietC a && quietC b
  | .block _ c => quietC c
  | _ => false

def isRec : Op → Bool
  | .call c => match c.callee with
    | .builtin .recover => c.args.isEmpty
    | _ => false
  | _ => false

def mrcv (T : TTab) (ops : Array Oper) (dst : Option Nat) (os : List AOper) : Bool :=
  match ops[0]? with
  | some o => o.guard.isNone && decide (o.dst = dst) && isRec o.op && omatch T ops (List.range ops.size).tail os
  | none => false

def mcode (T : TTab) : Code → ACode → Bool
  | .skip, .skip => true
  | .ret, .ret => true
  | .exit n, .exit k => Nat.beq n k
  | .region _ ops false, .region os => omatch T ops (List.range ops.size) os
  | .region _ ops true, .draw m L => drawOk T ops m L
  | .region _ ops false, .rcv dst os => mrcv T ops dst os
  | .seq a b, .seq x y => mcode T a x && mcode T b y
  | .cond c a b, .cond d x y => marg c d && mcode T a x && mcode T b y
  | .block n c, .block k d => Nat.beq n k && mcode T c d
  | .loop c, .loop d => mcode T c d
  | .rangeFunc g ps a b, .rfun x qs c d => marg g x && decide (ps.toList = qs) && quietC c && quietC d && mcode T a c && mcode T b d
  | _, .bad => true
  | _, _ => false

/-- THE CONTRACT OF A FUNCTION THAT IS RANGED OVER: yield's rounds are run, each ready again behind itself; it returns. -/
def AIter (Γ : Globs) (P : Program) (f : Nat) (cap : List AVal) (ps : List Nat) (a b : ACode) (K : AHeap → Prop) (t : List AVal) (H : AHeap) : Prop :=
  FnOk P f ∧ ∀ (T : TTab) (ca cb : Code) (fo l D : Nat) (tmps capv : Array Value) (g0 g : Gh) (H0 : AHeap) (w0 W : World), TOk P T → mcode T ca a = true → mcode T cb b = true →
    VRels g t tmps.toList → VRels g cap capv.toList → WRel Γ g H W → Ext g0 H0 w0 g H W → w0.heap.size ≤ l →
    W.heap[l]? = some (.loop { state := .ready, pending := none, fn := fo, tmps, params := ps.toArray, assign := ca, body := cb, defers := D }) →
    Calls P f (#[.func (.yield l) #[] #[]] ++ capv) W fun e w' => ∃ v g' H', e = .returned v ∧ WRel Γ g' H' w' ∧ Ext g0 H0 w0 g' H' w' ∧ GLe g g' ∧
      w'.heap[l]? = some (.loop { state := .ready, pending := none, fn := fo, tmps, params := ps.toArray, assign := ca, body := cb, defers := D }) ∧ K H'

theorem AIter.mono {Γ : Globs} {P : Program} {f : Nat} {cap : List AVal} {ps : List Nat} {a b : ACode} {K K' : AHeap → Prop} {t : List AVal} {H : AHeap} (h : AIter Γ P f cap ps a b K t H) (hk : ∀ H, K H → K' H) : AIter Γ P f cap ps a b K' t H :=
  ⟨h.1, fun T ca cb fo l D tmps capv g0 g H0 w0 W h1 h2 h3 h4 h5 h6 h7 h8 h9 => (h.2 T ca cb fo l D tmps capv g0 g H0 w0 W h1 h2 h3 h4 h5 h6 h7 h8 h9).mono
    fun _ _ ⟨v, g', H', k1, k2, k3, k4, k5, k6⟩ => ⟨v, g', H', k1, k2, k3, k4, k5, hk _ k6⟩⟩

/-- What must hold ahead of a piece of code. -/
def aw (Γ : Globs) (P : Program) : ACode → (AExit → Fr → AHeap → Prop) → Fr → AHeap → Prop
  | .skip, Q, fr, H => Q .normal fr H
  | .ret, Q, fr, H => Q .ret fr H
  | .exit n, Q, fr, H => Q (.exit n) fr H
  | .region os, Q, fr, H => awOps Γ P os (Q .normal) Q fr H
  | .draw m L, Q, fr, H => drawW Γ P H.next (fun t H' => Q .normal ⟨t, fr.d⟩ H') (fun v H' => ∀ t', (∀ s, (∀ d ∈ L, d.o.dst ≠ some s) → lget t' s = lget fr.t s) → Q (.panic v) ⟨t', fr.d⟩ H') L [] fr.t (H.bump m)
  | .seq a b, Q, fr, H => aw Γ P a (seqQ Q (aw Γ P b Q)) fr H
  | .cond x a b, Q, fr, H => match x.ev Γ fr.t with
    | .bool true => aw Γ P a Q fr H
    | .bool false => aw Γ P b Q fr H
    | _ => False
  | .block n c, Q, fr, H => aw Γ P c (blockQ n Q) fr H
  | .loop c, Q, fr, H => ∃ (I : Nat → Fr → AHeap → Prop) (n : Nat), I n fr H ∧ ∀ n fr H, I n fr H → aw Γ P c (seqQ Q fun fr' H' => ∃ m, m < n ∧ I m fr' H') fr H
  | .rfun x ps a b, Q, fr, H => match x.ev Γ fr.t with
    | .fn f cap => AIter Γ P f cap ps a b (fun H' => Q .normal ⟨fr.t, .nilm :: fr.d⟩ H') fr.t H
    | _ => False
  | _, _, _, _ => False

section
variable {Γ : Globs} {P : Program} {T : TTab}

theorem AWP.rfun (hT : TOk P T) {x : AArg} {ps : List Nat} {a b : ACode} {gx : Operand} {psA : Array Tmp} {ca cb : Code} (hm : marg gx x = true) (hps : psA.toList = ps) (ma : mcode T ca a = true) (mb : mcode T cb b = true) {Q : AExit → Fr → AHeap → Prop} {fr : Fr} {H : AHeap} {f : Nat} {cap : List AVal}
    (hx : x.ev Γ fr.t = .fn f cap) (h : AIter Γ P f cap ps a b (fun H' => Q .normal ⟨fr.t, .nilm :: fr.d⟩ H') fr.t H) : AWP Γ P (.rangeFunc gx psA ca cb) Q fr H := by
  intro g act w hf hw b0 k cs
  let b1 : Frame := { b0 with roundOf := none }
  have hb1 : ∀ a k, b0.at a k = b1.atR a k := fun a k => by simp [Frame.at, Frame.atR, b1]
  obtain ⟨capv, hxv, hcap⟩ : ∃ vs, act.eval gx = .func (.func f) #[] vs ∧ VRels g cap vs.toList := by
    have := marg_rel hw hf.t hm
    rw [hx] at this
    exact this
  have hpa : psA = ps.toArray := by rw [← hps]
  subst hpa
  have he := run_enterLoop_outer (P := P) (w := w) b1.fn act.tmps ps.toArray ca cb
  generalize hD : w.heap.size = D at he
  let rec0 : Loop := { state := .ready, pending := none, fn := b1.fn, tmps := act.tmps, params := ps.toArray, assign := ca, body := cb, defers := D }
  let w1 : World := (w.alloc (.deferred (some []))).alloc (.loop rec0)
  have hs1 : (w.alloc (.deferred (some []))).heap.size = D + 1 := by rw [← hD]; show (w.heap.push _).size = _; simp
  have hl : w1.heap[D + 1]? = some (.loop rec0) := by rw [← hs1]; exact World.alloc_heap_new _ _
  have hDh : w1.heap[D]? = some (.deferred (some [])) := by
    rw [show w1 = (w.alloc (.deferred (some []))).alloc (.loop rec0) from rfl, heap_alloc_lt _ _ (by omega), ← hD]
    exact World.alloc_heap_new _ _
  have hw1 : WRel Γ g H w1 := (hw.allocOther _).allocOther _
  have hw2 : WRel Γ (g.setDq fun d => g.dq d ∨ d = D) H w1 := hw1.setDq _ (by
    rintro d (hd | rfl)
    · exact hw1.dq d hd
    · exact hDh)
  have e2 : Ext g H w (g.setDq fun d => g.dq d ∨ d = D) H w1 := ((Ext.allocOther g H w _).trans (Ext.allocOther g H _ _)).addDq D (by omega)
  have hres : (resolve act.eval (rangeCall gx (D + 1)) 0).run P w1 = .ok { target := .fn (.func f) capv, args := #[.func (.yield (D + 1)) #[] #[]] } w1 := by
    show (Deferred.ofValue (act.eval gx) (#[Operand.const (.func (.yield (D + 1)) #[] #[])].map act.eval)).run P w1 = _
    rw [hxv]
    simp [Deferred.ofValue, Act.eval]
  have hinv : (invoke (.fn (.func f) capv) #[.func (.yield (D + 1)) #[] #[]]).run P w1 = .ok (.enter f (#[.func (.yield (D + 1)) #[] #[]] ++ capv)) w1 := by
    simp [invoke, run_callFunc h.1]
  have henter := stepR_rangeFunc (P := P) (b := b1) (a := act) (k := k) (cs := cs) (w := w) he hres hinv
  obtain ⟨e, w3, fr3, ⟨v, g', H', rfl, r3, x3, le3, l3, k3⟩, hsteps, _, hleave⟩ := h.2 T ca cb b1.fn (D + 1) D act.tmps capv g _ H w w1 hT ma mb (hf.t.mono e2.le _ _) (hcap.mono e2.le _ _) hw2 e2 (by omega) hl
    (b1.atR { act with defers := [{ target := .collected D, args := #[] }] ++ act.defers } (.inRangeFunc (D + 1) :: k) :: cs)
  have hend := run_endLoop (P := P) l3 (by simp)
  have s4 := stepR_endRangeFunc (P := P) (b := b1) (a := { act with defers := [{ target := .collected D, args := #[] }] ++ act.defers }) (k := k) (cs := cs) hend
  have hx4 : Ext g H w g' H' _ := x3.put (l := D + 1) (o := .loop { rec0 with state := .exhausted }) (by omega)
  have hdq : g'.dq D := le3.dq D (.inr rfl)
  refine ⟨.normal, { act with defers := [{ target := .collected D, args := #[] }] ++ act.defers }, _, ⟨.normal, ⟨fr.t, .nilm :: fr.d⟩, H', g', rfl, ⟨hf.t.mono hx4.le _ _, .inr ⟨D, _, rfl, rfl, hdq, hf.d.mono hx4.le _ _⟩⟩, r3.loopPut l3, hx4, k3⟩, ?_⟩
  show Steps P _ _
  rw [hb1, hb1]
  refine .head henter (Steps.trans hsteps (.head ?_ (.one s4)))
  rw [← finish_atR_inRangeFunc (D + 1) v]; exact step_leave_returned hleave

theorem aw_sound (hT : TOk P T) (hmx : P.follows .mixedOrders = true) : ∀ (ac : ACode) (c : Code) (Q : AExit → Fr → AHeap → Prop) (fr : Fr) (H : AHeap), mcode T c ac = true → aw Γ P ac Q fr H → AWP Γ P c Q fr H := by
  intro ac
  induction ac with
  | skip => intro c Q fr H hm h; cases c <;> simp only [mcode, Bool.false_eq_true] at hm; exact AWP.skip h
  | ret => intro c Q fr H hm h; cases c <;> simp only [mcode, Bool.false_eq_true] at hm; exact AWP.ret h
  | exit n =>
    intro c Q fr H hm h
    cases c <;> simp only [mcode, Bool.false_eq_true] at hm
    have := Nat.eq_of_beq_eq_true hm
    subst this
    exact AWP.exit h
  | region os =>
    intro c Q fr H hm h
    cases c <;> try simp only [mcode, Bool.false_eq_true] at hm
    rename_i id ops dr
    cases dr <;> simp only [mcode, Bool.false_eq_true] at hm
    exact AWP.region hT hm h
  | draw m L =>
    intro c Q fr H hm h
    cases c <;> try simp only [mcode, Bool.false_eq_true] at hm
    rename_i id ops dr
    cases dr <;> simp only [mcode, Bool.false_eq_true] at hm
    exact AWP.draw hT hmx (drawOk_sound hm) h
  | seq a b iha ihb =>
    intro c Q fr H hm h
    cases c <;> simp only [mcode, Bool.false_eq_true] at hm
    rw [Bool.and_eq_true] at hm
    refine AWP.seq (AWP.mono ?_ (iha _ _ _ _ hm.1 h))
    intro e fr' H' hq
    cases e <;> first | exact ihb _ _ _ _ hm.2 hq | exact hq
  | cond x a b iha ihb =>
    intro c Q fr H hm h
    cases c <;> simp only [mcode, Bool.false_eq_true] at hm
    simp only [Bool.and_eq_true] at hm
    simp only [aw] at h
    split at h
    · rename_i he
      exact AWP.cond hm.1.1 he (fun _ => iha _ _ _ _ hm.1.2 h) (fun e => by cases e)
    · rename_i he
      exact AWP.cond hm.1.1 he (fun e => by cases e) (fun _ => ihb _ _ _ _ hm.2 h)
    · exact h.elim
  | block n d ih =>
    intro c Q fr H hm h
    cases c <;> simp only [mcode, Bool.false_eq_true] at hm
    rw [Bool.and_eq_true] at hm
    have := Nat.eq_of_beq_eq_true hm.1
    subst this
    exact AWP.block (ih _ _ _ _ hm.2 h)
  | loop d ih =>
    intro c Q fr H hm h
    cases c <;> simp only [mcode, Bool.false_eq_true] at hm
    obtain ⟨I, n, h0, hr⟩ := h
    exact AWP.loop I n h0 fun n fr H hI => ih _ _ _ _ hm (hr n fr H hI)
  | rcv => intro c Q fr H hm h; exact h.elim
  | rfun x ps a b iha ihb =>
    intro c Q fr H hm h
    cases c <;> simp only [mcode, Bool.false_eq_true] at hm
    simp only [Bool.and_eq_true, decide_eq_true_eq] at hm
    simp only [aw] at h
    split at h
    · rename_i f cap he
      exact AWP.rfun hT hm.1.1.1.1.1 hm.1.1.1.1.2 hm.1.2 hm.2 he h
    · exact h.elim
  | bad => intro c Q fr H hm h; exact h.elim

end
end Go.Aw

/- Functions: their contract out of their code. -/
namespace Go.Aw

structure AFun where
  nt : Nat
  body : ACode
  res : List AOp
  deriving Inhabited

def evRess (Γ : Globs) (t : List AVal) (H : AHeap) : List AOp → Option (List AVal)
  | [] => some []
  | o :: os => match astep Γ t H o with
    | some r => (evRess Γ t H os).map (r.1 :: ·)
    | none => none

def resVal : List AVal → AVal
  | [v] => v
  | vs => .tup vs

def mres (T : TTab) : ResultVar → AOp → Bool
  | .tmp n, .mv (.t m) => Nat.beq n m
  | .cell n t, .ld (.t m) => Nat.beq n m && (match T t with
    | some ti => !isAggK ti.kind
    | none => false)
  | .cell n t, .ldn k (.t m) => Nat.beq n m && (match T t with
    | some ti => isAggK ti.kind && Nat.beq ti.size k
    | none => false)
  | _, _ => false

def mress (T : TTab) : List ResultVar → List AOp → Bool
  | [], [] => true
  | r :: rs, o :: os => mres T r o && mress T rs os
  | _, _ => false

/-- A function of the program, matched. -/
def FunIn (P : Program) (T : TTab) (f : Nat) (F : AFun) : Prop :=
  ∃ fn c, P.funcs[f]? = some fn ∧ (fn.name == "runtime.NumGoroutine") = false ∧ fn.body = some c ∧ fn.ntmps = F.nt ∧ mcode T c F.body = true ∧ mress T fn.results.toList F.res = true

def funInB (P : Program) (T : TTab) (f : Nat) (F : AFun) : Bool :=
  match P.funcs[f]? with
  | some fn => !(fn.name == "runtime.NumGoroutine") && (match fn.body with
    | some c => Nat.beq fn.ntmps F.nt && mcode T c F.body && mress T fn.results.toList F.res
    | none => false)
  | none => false

theorem funInB_sound {P : Program} {T : TTab} {f : Nat} {F : AFun} (h : funInB P T f F = true) : FunIn P T f F := by
  unfold funInB at h
  split at h
  · rename_i fn hfn
    rw [Bool.and_eq_true, Bool.not_eq_true'] at h
    obtain ⟨h1, h2⟩ := h
    split at h2
    · rename_i c hc
      simp only [Bool.and_eq_true] at h2
      exact ⟨fn, c, hfn, h1, hc, Nat.eq_of_beq_eq_true h2.1.1, h2.1.2, h2.2⟩
    · cases h2
  · cases h

theorem FunIn.ok {P : Program} {T : TTab} {f : Nat} {F : AFun} (h : FunIn P T f F) : FnOk P f := by
  obtain ⟨fn, c, h1, h2, h3, _⟩ := h
  exact ⟨fn, h1, h2, by rw [h3]; rfl⟩

section
variable {Γ : Globs} {P : Program} {T : TTab}

theorem lget_tup (l : List AVal) (n : Nat) : lget l n = l.getD n (.tup []) := by
  rw [lget_eq, List.getD_eq_getElem?_getD]

def rsem (tmps : Array Value) (r : ResultVar) : Sem Value :=
  match r with
  | .tmp t => pure (tmps.getD t undef)
  | .cell a t => do loadVar t (← asAddr (tmps.getD a undef))

theorem results_rsem (fn : Func) (tmps : Array Value) : results fn tmps = (do
    let vs ← fn.results.mapM (rsem tmps)
    pure (if h : vs.size = 1 then vs[0] else .tuple vs)) := by
  unfold results
  congr 2

theorem mres_run (hT : TOk P T) {g : Gh} {H : AHeap} {w : World} {t : List AVal} {tmps : Array Value} (hw : WRel Γ g H w) (hf : VRels g t tmps.toList) {r : ResultVar} {o : AOp} (hm : mres T r o = true) {v : AVal} {H' : AHeap}
    (hs : astep Γ t H o = some (v, H')) : ∃ cv, (rsem tmps r).run P w = .ok cv w ∧ VRel g v cv := by
  have hget : ∀ n, VRel g (lget t n) (tmps.getD n undef) := by
    intro n
    have := lget_rel hf n
    rw [Array.getElem?_toList] at this
    rw [Array.getD_eq_getD_getElem?]
    exact this
  cases r with
  | tmp n =>
    cases o <;> simp only [mres, Bool.false_eq_true] at hm
    rename_i x
    cases x <;> simp only [mres, Bool.false_eq_true] at hm
    have := Nat.eq_of_beq_eq_true hm
    subst this
    simp only [astep, AArg.ev, Option.some.injEq, Prod.mk.injEq] at hs
    rw [← hs.1]
    exact ⟨_, rfl, hget n⟩
  | cell n ty =>
    cases o <;> simp only [mres, Bool.false_eq_true] at hm
    · rename_i x
      cases x <;> simp only [mres, Bool.false_eq_true] at hm
      rename_i m
      rw [Bool.and_eq_true] at hm
      have := Nat.eq_of_beq_eq_true hm.1
      subst this
      have hm2 := hm.2
      split at hm2
      · rename_i ti hti
        obtain ⟨d, hd, hk⟩ := (hT _ _ hti).kind
        have hagg : isAggD d = false := by rw [isAggK_eq hk]; simpa using hm2
        have hx := hget n
        simp only [astep, AArg.ev] at hs
        have one : ∀ (cs : Option (List AVal)), (cs.bind fun cs => match cs with | [v] => some (v, H) | _ => none) = some (v, H') → cs = some [v] ∧ H' = H := by
          intro cs h
          cases cs with
          | none => simp at h
          | some cs => cases cs with
            | nil => simp at h
            | cons c cs => cases cs with
              | nil => simp at h; exact ⟨by rw [h.1], h.2.symm⟩
              | cons _ _ => simp at h
        have key : ∀ (x : AVal) (cv : Value), VRel g x cv → ((∃ b off, x = .ptr b off) ∨ ∃ ys, x = .rptr ys) → rdc H x 1 = some [v] → ∃ cv', (do loadVar ty (← asAddr cv) : Sem Value).run P w = .ok cv' w ∧ VRel g v cv' := by
          intro x cv hx hp h
          obtain ⟨h1, h2⟩ := rdc_stands hw hx h
          have : ∃ a, cv = .pointer (some a) := by
            rcases hp with ⟨b, off, rfl⟩ | ⟨ys, rfl⟩
            · obtain ⟨a, rfl, _⟩ := hx; exact ⟨a, rfl⟩
            · obtain ⟨cb, off, rfl, _⟩ := hx; exact ⟨_, rfl⟩
          obtain ⟨a, rfl⟩ := this
          have hagg : (isAgg ty).run P w = .ok false w := by
            rw [run_isAgg_info hd]; cases d <;> simp_all [isAggD]
          obtain ⟨a', ha', hs⟩ := h2 (by omega)
          cases ha'
          obtain ⟨c', hc, hr⟩ := hs 0 v rfl
          have : a.add 0 = a := by simp [Addr.add]
          rw [this] at hc
          refine ⟨c', ?_, hr⟩
          simp [asAddr, loadVar, hagg, hc]
        split at hs
        · rename_i hev
          rw [hev] at hx
          exact key _ _ hx (.inl ⟨_, _, rfl⟩) (one _ hs).1
        · rename_i hev
          rw [hev] at hx
          exact key _ _ hx (.inr ⟨_, rfl⟩) (one _ hs).1
        · cases hs
      · cases hm2
    · rename_i k x
      cases x <;> simp only [mres, Bool.false_eq_true] at hm
      rename_i m
      rw [Bool.and_eq_true] at hm
      have := Nat.eq_of_beq_eq_true hm.1
      subst this
      have hm2 := hm.2
      split at hm2
      · rename_i ti hti
        rw [Bool.and_eq_true] at hm2
        obtain ⟨d, hd, hk⟩ := (hT _ _ hti).kind
        obtain ⟨i, z, hi, his, _⟩ := (hT _ _ hti).info
        have hn : i.size = k := by rw [his]; exact Nat.eq_of_beq_eq_true hm2.2
        have hagg : isAggD d = true := by rw [isAggK_eq hk]; exact hm2.1
        have hx := hget n
        simp only [astep, AArg.ev] at hs
        have key : ∀ (x : AVal) (cv : Value) (cs : List AVal), VRel g x cv → ((∃ b off, x = .ptr b off) ∨ ∃ ys, x = .rptr ys) → rdc H x k = some cs → ∃ cv', (do loadVar ty (← asAddr cv) : Sem Value).run P w = .ok cv' w ∧ VRel g (.agg cs) cv' := by
          intro x cv cs hx hp h
          obtain ⟨h1, h2⟩ := rdc_stands hw hx h
          have : ∃ a, cv = .pointer (some a) := by
            rcases hp with ⟨b, off, rfl⟩ | ⟨ys, rfl⟩
            · obtain ⟨a, rfl, _⟩ := hx; exact ⟨a, rfl⟩
            · obtain ⟨cb, off, rfl, _⟩ := hx; exact ⟨_, rfl⟩
          obtain ⟨a, rfl⟩ := this
          have hagg : (isAgg ty).run P w = .ok true w := by
            rw [run_isAgg_info hd]; cases d <;> simp_all [isAggD]
          have hst : ∃ cs' : Array Value, (loadCells a k).run P w = .ok cs' w ∧ VRels g cs cs'.toList := by
            rcases Nat.eq_zero_or_pos k with e | e
            · subst e
              have : cs = [] := List.eq_nil_of_length_eq_zero h1
              subst this
              exact ⟨#[], rfl, rfl⟩
            · obtain ⟨a', ha', hs⟩ := h2 e
              cases ha'
              exact hs.run k h1
          obtain ⟨cs', h3, h4⟩ := hst
          exact ⟨.agg cs', by simp [asAddr, loadVar, hagg, run_sizeOf' hi, hn, h3], cs', rfl, h4⟩
        split at hs
        · rename_i hev
          simp only [Option.map_eq_some_iff, Prod.mk.injEq] at hs
          obtain ⟨cs, h1, rfl, rfl⟩ := hs
          rw [hev] at hx
          exact key _ _ _ hx (.inl ⟨_, _, rfl⟩) h1
        · rename_i hev
          simp only [Option.map_eq_some_iff, Prod.mk.injEq] at hs
          obtain ⟨cs, h1, rfl, rfl⟩ := hs
          rw [hev] at hx
          exact key _ _ _ hx (.inr ⟨_, rfl⟩) h1
        · cases hs
      · cases hm2

theorem results_run (hT : TOk P T) {g : Gh} {H : AHeap} {w : World} {t : List AVal} {tmps : Array Value} (hw : WRel Γ g H w) (hf : VRels g t tmps.toList) {fn : Func} {res : List AOp} (hm : mress T fn.results.toList res = true) {vs : List AVal}
    (h : evRess Γ t H res = some vs) : ∃ cv, (results fn tmps).run P w = .ok cv w ∧ VRel g (resVal vs) cv := by
  have key : ∀ (rs : List ResultVar) (res : List AOp) (vs : List AVal), mress T rs res = true → evRess Γ t H res = some vs → ∃ cvs : List Value, (rs.mapM (rsem tmps)).run P w = .ok cvs w ∧ VRels g vs cvs := by
    intro rs
    induction rs with
    | nil =>
      intro res vs hm h
      cases res with
      | nil => simp only [evRess, Option.some.injEq] at h; subst h; exact ⟨[], by simp, rfl⟩
      | cons o os => simp [mress] at hm
    | cons r rs ih =>
      intro res vs hm h
      cases res with
      | nil => simp [mress] at hm
      | cons o os =>
        simp only [mress, Bool.and_eq_true] at hm
        simp only [evRess] at h
        split at h
        · rename_i q hq
          simp only [Option.map_eq_some_iff] at h
          obtain ⟨vs', h1, rfl⟩ := h
          obtain ⟨cvs, h2, h3⟩ := ih os vs' hm.2 h1
          obtain ⟨cv, h4, h5⟩ := mres_run hT hw hf hm.1 (v := q.1) (H' := q.2) hq
          refine ⟨cv :: cvs, ?_, ⟨_, _, rfl, h5, h3⟩⟩
          simp [List.mapM_cons, h4, h2]
        · cases h
  obtain ⟨cvs, h1, h2⟩ := key _ _ _ hm h
  have hrun : ∀ (k : Array Value → Sem Value), ((fn.results.mapM (rsem tmps)) >>= k).run P w = (k cvs.toArray).run P w := by
    intro k
    rw [Array.mapM_eq_mapM_toList]
    simp only [Sem.run_bind, map_eq_pure_bind]
    simp [h1]
  rw [results_rsem]
  rw [hrun]
  cases vs with
  | nil => cases h2; exact ⟨.tuple #[], by simp, ⟨#[], rfl, rfl⟩⟩
  | cons v vs =>
    obtain ⟨c, cs, rfl, h3, h4⟩ := h2
    cases vs with
    | nil => cases h4; exact ⟨c, by simp, h3⟩
    | cons u us =>
      obtain ⟨c2, cs2, rfl, h5, h6⟩ := h4
      exact ⟨.tuple (c :: c2 :: cs2).toArray, by simp, ⟨_, rfl, ⟨_, _, rfl, h3, _, _, rfl, h5, h6⟩⟩⟩

def fnQ (Γ : Globs) (F : AFun) (R : AEnd → AHeap → Prop) : AExit → Fr → AHeap → Prop
  | .normal, fr, H | .ret, fr, H => fr.d = [] ∧ ∃ vs, evRess Γ fr.t H F.res = some vs ∧ R (.ret (resVal vs)) H
  | .panic v, fr, H => fr.d = [] ∧ R (.pan v) H
  | _, _, _ => False

def AFun.start (F : AFun) (args : List AVal) : Fr := ⟨args ++ List.replicate (F.nt - args.length) (.tup []), []⟩

theorem start_rel {g : Gh} {F : AFun} {args : List AVal} {vs : Array Value} (h : VRels g args vs.toList) : FRel g (F.start args) { tmps := vs ++ Array.replicate (F.nt - vs.size) undef, defers := [] } := by
  refine ⟨?_, rfl⟩
  have hl := h.length
  simp only [AFun.start, Array.toList_append, Array.toList_replicate]
  refine VRels.append h ?_
  have : args.length = vs.size := by rw [← hl]; simp
  rw [this]
  generalize F.nt - vs.size = n
  induction n with
  | zero => rfl
  | succ n ih => exact ⟨_, _, rfl, undef_rel g, ih⟩

/-- THE CONTRACT OF A FUNCTION OUT OF ITS CODE. -/
theorem acalls_of_aw (hT : TOk P T) (hmx : P.follows .mixedOrders = true) {f : Nat} {F : AFun} (hF : FunIn P T f F) {args : List AVal} {H : AHeap} {R : AEnd → AHeap → Prop} (h : aw Γ P F.body (fnQ Γ F R) (F.start args) H) :
    ACalls Γ P f args H R := by
  refine ⟨hF.ok, fun g w vs hw hv => ?_⟩
  obtain ⟨fn, c, h1, h2, h3, h4, h5, h6⟩ := hF
  refine calls_of_wp h1 h3 ?_
  rw [h4]
  refine wp_mono (aw_sound hT hmx _ _ _ _ _ h5 h g _ w (start_rel hv) hw) ?_
  rintro e a' w' ⟨ae, fr', H', g', k1, k2, k3, k4, k5⟩
  have ret : (fr'.d = [] ∧ ∃ vs, evRess Γ fr'.t H' F.res = some vs ∧ R (.ret (resVal vs)) H') → a'.defers = [] ∧ ∃ v, (results fn a'.tmps).run P w' = .ok v w' ∧ ∃ ae g' H', EndRel g' ae (.returned v) ∧ WRel Γ g' H' w' ∧ Ext g H w g' H' w' ∧ R ae H' := by
    rintro ⟨hd, vs, hvs, hR⟩
    have := k2.d
    rw [hd] at this
    obtain ⟨cv, hr, hcv⟩ := results_run hT k3 k2.t h6 hvs
    exact ⟨this, cv, hr, .ret _, g', H', ⟨cv, rfl, hcv⟩, k3, k4, hR⟩
  cases ae with
  | normal => cases k1; exact ret k5
  | ret => cases k1; exact ret k5
  | panic v =>
    obtain ⟨cv, rfl, hcv⟩ := k1
    obtain ⟨hd, hR⟩ := k5
    have := k2.d
    rw [hd] at this
    exact ⟨this, .pan v, g', H', ⟨cv, rfl, hcv⟩, k3, k4, hR⟩
  | exit n => exact k5.elim
  | goto n => exact k5.elim

end
end Go.Aw

/- A run of code, by fuel; and that what it comes to is what must come. -/
namespace Go.Aw

mutual
def veq : AVal → AVal → Bool
  | .bool a, .bool b => a == b
  | .int k a, .int j b => decide (k = j) && a == b
  | .str a, .str b => a == b
  | .nilp, .nilp => true
  | .ptr a x, .ptr b y => Nat.beq a b && Nat.beq x y
  | .rptr a, .rptr b => veqs a b
  | .nils, .nils => true
  | .sl a b c d e x, .sl a' b' c' d' e' x' => Nat.beq a a' && Nat.beq b b' && Nat.beq c c' && Nat.beq d d' && Nat.beq e e' && x == x'
  | .rs a b c, .rs a' b' c' => veqs a a' && Nat.beq b b' && Nat.beq c c'
  | .nilm, .nilm => true
  | .map a, .map b => Nat.beq a b
  | .fn f a, .fn f' b => Nat.beq f f' && veqs a b
  | .nilf, .nilf => true
  | .yld a, .yld b => Nat.beq a b
  | .iface t a, .iface u b => Nat.beq t u && veq a b
  | .nili, .nili => true
  | .agg a, .agg b => veqs a b
  | .tup a, .tup b => veqs a b
  | _, _ => false
def veqs : List AVal → List AVal → Bool
  | [], [] => true
  | a :: as, b :: bs => veq a b && veqs as bs
  | _, _ => false
end

theorem beqN {a b : Nat} (h : Nat.beq a b = true) : a = b := Nat.eq_of_beq_eq_true h

mutual
theorem veq_eq : ∀ (a b : AVal), veq a b = true → a = b
  | .bool a, b, h => by cases b <;> simp_all [veq]
  | .int k a, b, h => by cases b <;> simp_all [veq]
  | .str a, b, h => by cases b <;> simp_all [veq]
  | .nilp, b, h => by cases b <;> simp_all [veq]
  | .nils, b, h => by cases b <;> simp_all [veq]
  | .nilm, b, h => by cases b <;> simp_all [veq]
  | .nilf, b, h => by cases b <;> simp_all [veq]
  | .yld a, b, h => by
    cases b <;> simp only [veq, Bool.false_eq_true] at h
    rw [beqN h]
  | .nili, b, h => by cases b <;> simp_all [veq]
  | .ptr a x, b, h => by
    cases b <;> simp only [veq, Bool.false_eq_true, Bool.and_eq_true] at h
    rw [beqN h.1, beqN h.2]
  | .map a, b, h => by
    cases b <;> simp only [veq, Bool.false_eq_true] at h
    rw [beqN h]
  | .sl a1 a2 a3 a4 a5 x, b, h => by
    cases b <;> simp only [veq, Bool.false_eq_true, Bool.and_eq_true] at h
    obtain ⟨⟨⟨⟨⟨h1, h2⟩, h3⟩, h4⟩, h5⟩, h6⟩ := h
    rw [beqN h1, beqN h2, beqN h3, beqN h4, beqN h5, eq_of_beq h6]
  | .rptr a, b, h => by
    cases b <;> simp only [veq, Bool.false_eq_true] at h
    rw [veqs_eq _ _ h]
  | .rs a n m, b, h => by
    cases b <;> simp only [veq, Bool.false_eq_true, Bool.and_eq_true] at h
    rw [veqs_eq _ _ h.1.1, beqN h.1.2, beqN h.2]
  | .fn f a, b, h => by
    cases b <;> simp only [veq, Bool.false_eq_true, Bool.and_eq_true] at h
    rw [veqs_eq _ _ h.2, beqN h.1]
  | .iface t a, b, h => by
    cases b <;> simp only [veq, Bool.false_eq_true, Bool.and_eq_true] at h
    rw [veq_eq _ _ h.2, beqN h.1]
  | .agg a, b, h => by
    cases b <;> simp only [veq, Bool.false_eq_true] at h
    rw [veqs_eq _ _ h]
  | .tup a, b, h => by
    cases b <;> simp only [veq, Bool.false_eq_true] at h
    rw [veqs_eq _ _ h]
theorem veqs_eq : ∀ (a b : List AVal), veqs a b = true → a = b
  | [], b, h => by cases b <;> simp_all [veqs]
  | a :: as, b, h => by
    cases b with
    | nil => simp [veqs] at h
    | cons b bs =>
      simp only [veqs, Bool.and_eq_true] at h
      rw [veq_eq _ _ h.1, veqs_eq _ _ h.2]
end

/-- A function's run: of which function, on what. -/
abbrev ACall := Nat → List AVal → AHeap → Option (AEnd × AHeap)

def ofStep : Option (AVal × AHeap) → Option (AEnd × AHeap)
  | some r => some (.ret r.1, r.2)
  | none => none

def evOp (Γ : Globs) (call : ACall) (op : AOp) (t : List AVal) (H : AHeap) : Option (AEnd × AHeap) :=
  match op with
  | .call f xs => call f (xs.map fun x => x.ev Γ t) H
  | .callv x xs => match x.ev Γ t with
    | .fn f cap => call f ((xs.map fun x => x.ev Γ t) ++ cap) H
    | _ => none
  | .pan x => match x.ev Γ t with
    | .iface n v => some (.pan (.iface n v), H)
    | _ => none
  | .bin op ek x y => bif openNil op ek (x.ev Γ t) (y.ev Γ t) then none else ofStep (astep Γ t H (.bin op ek x y))
  | op => ofStep (astep Γ t H op)

abbrev ARes := Option (AExit × Fr × AHeap)

def evOps (Γ : Globs) (call : ACall) : List AOper → Fr → AHeap → ARes
  | [], fr, H => some (.normal, fr, H)
  | o :: os, fr, H => match gd fr.t o.guard with
    | some true => match o.op with
      | .dfr x => match x.ev Γ fr.t with
        | .fn f cap => evOps Γ call os (Fr.put { fr with d := .fn f cap :: fr.d } o.dst (.tup [])) H
        | _ => none
      | op => match evOp Γ call op fr.t H with
        | some (.ret v, H') => evOps Γ call os (fr.put o.dst v) H'
        | some (.pan v, H') => some (.panic v, fr, H')
        | none => none
    | some false => evOps Γ call os (fr.put o.dst (.tup [])) H
    | none => none

def recheckB (Γ : Globs) (bef : List Nat) (H : AHeap) (all : List DRec) : List DRec → Bool
  | [] => true
  | r :: rs => (match r.k with
    | .read => nmem r.d.idx bef || (match astep Γ r.t (hideL r.d.bef H all) r.d.o.op with
      | some q => veq q.1 r.v
      | none => false)
    | _ => true) && recheckB Γ bef H all rs

/-- The slots that a row writes are told to hold nothing, behind a panic. -/
def junk : AVal := .tup [.nili, .nilp, .nili]

def isJunk : AVal → Bool
  | .tup [.nili, .nilp, .nili] => true
  | _ => false

def junkAll : List DOp → List AVal → List AVal
  | [], t => t
  | d :: ds, t => tput (junkAll ds t) d.o.dst junk

def dstsIn (n : Nat) : List DOp → Bool
  | [] => true
  | d :: ds => (match d.o.dst with
    | some s => Nat.blt s n
    | none => true) && dstsIn n ds

def evDraw (Γ : Globs) (call : ACall) (base : Nat) (L0 : List DOp) (t0 : List AVal) : List DOp → List DRec → List AVal → AHeap → Option (AExit × List AVal × AHeap)
  | [], _, t, H => some (.normal, t, H)
  | d :: ds, rs, t, H => match gd t d.o.guard with
    | none => none
    | some false => evDraw Γ call base L0 t0 ds ({ d := d, v := .tup [], t := t, k := .skip } :: rs) (tput t d.o.dst (.tup [])) H
    | some true => match d.kind with
      | .pure => match astep Γ t H d.o.op with
        | some r => evDraw Γ call base L0 t0 ds ({ d := d, v := r.1, t := t, k := .pure } :: rs) (tput t d.o.dst r.1) H
        | none => none
      | .read => match astep Γ t (hideL d.bef H rs) d.o.op with
        | some r => evDraw Γ call base L0 t0 ds ({ d := d, v := r.1, t := t, k := .read } :: rs) (tput t d.o.dst r.1) H
        | none => none
      | .alloc k => match allocOf Γ t d.o.op with
        | some r => evDraw Γ call base L0 t0 ds ({ d := d, v := r.2 (base + k), t := t, k := .alloc (base + k) r.1 } :: rs) (tput t d.o.dst (r.2 (base + k))) (H.put (base + k) r.1)
        | none => none
      | .eff => match evOp Γ call d.o.op t (hideL d.bef H rs) with
        | some (.ret v, V) => bif recheckB Γ d.bef (unhideL d.bef H V rs) rs rs then
            evDraw Γ call base L0 t0 ds ({ d := d, v := v, t := t, k := .eff } :: rs) (tput t d.o.dst v) (unhideL d.bef H V rs) else none
        | some (.pan v, V) => bif dstsIn t0.length L0 then some (.panic v, junkAll L0 t0, V) else none
        | none => none

/-- What a run comes to holds behind the code. -/
def EvPost (r : AExit × Fr × AHeap) (e : AExit) (fr : Fr) (H : AHeap) : Prop :=
  e = r.1 ∧ H = r.2.2 ∧ fr.d = r.2.1.d ∧ ((∀ v, e ≠ .panic v) → fr = r.2.1) ∧ ∀ s, isJunk (lget r.2.1.t s) = false → lget fr.t s = lget r.2.1.t s

def EvPostF (r : AEnd × AHeap) (e : AEnd) (H : AHeap) : Prop := e = r.1 ∧ H = r.2

section
variable {Γ : Globs} {P : Program} {T : TTab}

def CallOk (Γ : Globs) (P : Program) (call : ACall) : Prop :=
  ∀ f args H r, call f args H = some r → ACalls Γ P f args H (EvPostF r)

theorem awOp_mono {op : AOp} {K K' X X' : AVal → AHeap → Prop} {t : List AVal} {H : AHeap} (hK : ∀ v H, K v H → K' v H) (hX : ∀ v H, X v H → X' v H) (h : awOp Γ P op K X t H) : awOp Γ P op K' X' t H := by
  cases op with
  | call f xs =>
    obtain ⟨R, h1, h2⟩ := h
    refine ⟨R, h1, fun e H' hr => ?_⟩
    have := h2 e H' hr
    cases e <;> first | exact hK _ _ this | exact hX _ _ this
  | callv x xs =>
    simp only [awOp] at h ⊢
    split at h
    · rename_i f cap he
      obtain ⟨R, h1, h2⟩ := h
      refine ⟨R, h1, fun e H' hr => ?_⟩
      have := h2 e H' hr
      cases e <;> first | exact hK _ _ this | exact hX _ _ this
    · exact h.elim
  | pan x =>
    simp only [awOp] at h ⊢
    split at h
    · exact hX _ _ h
    · exact h.elim
  | bin op ek x y =>
    simp only [awOp] at h ⊢
    cases ho : openNil op ek (x.ev Γ t) (y.ev Γ t) with
    | true => rw [ho] at h; exact fun b => hK _ _ (h b)
    | false =>
      rw [ho] at h
      simp only [cond_false] at h ⊢
      split at h
      · exact hK _ _ h
      · exact h.elim
  | _ =>
    simp only [awOp] at h ⊢
    first
      | exact h.elim
      | (split at h
         · exact hK _ _ h
         · exact h.elim)

theorem evOp_sound {call : ACall} (hc : CallOk Γ P call) {op : AOp} {t : List AVal} {H : AHeap} {r : AEnd × AHeap} (h : evOp Γ call op t H = some r) :
    awOp Γ P op (fun v H' => r = (.ret v, H')) (fun v H' => r = (.pan v, H')) t H := by
  have fin : ∀ e H', EvPostF r e H' → match e with | .ret v => r = (.ret v, H') | .pan v => r = (.pan v, H') := by
    rintro e H' ⟨rfl, rfl⟩
    obtain ⟨e, H'⟩ := r
    cases e <;> rfl
  have rest : ∀ {o : Option (AVal × AHeap)}, ofStep o = some r → (match o with
      | some q => r = (AEnd.ret q.1, q.2)
      | none => False) := by
    intro o h
    cases o with
    | none => cases h
    | some q => cases h; rfl
  cases op with
  | call f xs => exact ⟨_, hc _ _ _ _ h, fin⟩
  | callv x xs =>
    simp only [evOp] at h
    simp only [awOp]
    cases hx : x.ev Γ t <;> rw [hx] at h <;> first | exact ⟨_, hc _ _ _ _ h, fin⟩ | cases h
  | pan x =>
    simp only [evOp] at h
    simp only [awOp]
    cases hx : x.ev Γ t <;> rw [hx] at h <;> cases h
    rfl
  | bin op ek x y =>
    simp only [evOp] at h
    simp only [awOp]
    cases ho : openNil op ek (x.ev Γ t) (y.ev Γ t) with
    | true => rw [ho] at h; cases h
    | false =>
      rw [ho] at h
      have h2 := rest h
      exact h2
  | _ =>
    simp only [evOp] at h
    simp only [awOp]
    have h2 := rest h
    exact h2

theorem evOps_sound {call : ACall} (hc : CallOk Γ P call) : ∀ {os : List AOper} {fr : Fr} {H : AHeap} {r : AExit × Fr × AHeap}, evOps Γ call os fr H = some r → awOps Γ P os (EvPost r .normal) (EvPost r) fr H := by
  intro os
  induction os with
  | nil => intro fr H r h; cases h; exact ⟨rfl, rfl, rfl, fun _ => rfl, fun _ _ => rfl⟩
  | cons o os ih =>
    intro fr H r h
    simp only [evOps] at h
    simp only [awOps]
    split at h
    · rename_i hg
      rw [hg]
      simp only
      by_cases hdf : ∃ x, o.op = .dfr x
      · obtain ⟨x, hx⟩ := hdf
        rw [hx] at h ⊢
        simp only at h ⊢
        split at h
        · rename_i he
          rw [he]
          exact ih h
        · cases h
      · have h' : (match evOp Γ call o.op fr.t H with
          | some (.ret v, H') => evOps Γ call os (fr.put o.dst v) H'
          | some (.pan v, H') => some (.panic v, fr, H')
          | none => none) = some r := by
          cases hoo : o.op <;> rw [hoo] at h <;> first | exact h | exact absurd ⟨_, hoo⟩ hdf
        have goal : awOp Γ P o.op (fun v H' => awOps Γ P os (EvPost r .normal) (EvPost r) (fr.put o.dst v) H') (fun v H' => EvPost r (.panic v) fr H') fr.t H := by
          split at h'
          · rename_i v H1 he
            refine awOp_mono ?_ ?_ (evOp_sound hc he)
            · intro v' H2 e; cases e; exact ih h'
            · intro v' H2 e; cases e
          · rename_i v H1 he
            refine awOp_mono ?_ ?_ (evOp_sound hc he)
            · intro v' H2 e; cases e
            · intro v' H2 e; cases e; cases h'; exact ⟨rfl, rfl, rfl, fun _ => rfl, fun _ _ => rfl⟩
          · cases h'
        cases hoo : o.op <;> rw [hoo] at goal <;> first | exact goal | exact absurd ⟨_, hoo⟩ hdf
    · rename_i hg
      rw [hg]
      exact ih h
    · cases h

theorem recheckB_sound {bef : List Nat} {H : AHeap} {all : List DRec} : ∀ {rs : List DRec}, recheckB Γ bef H all rs = true → recheck Γ bef H all rs
  | [], _ => trivial
  | r :: rs, h => by
    rw [recheckB, Bool.and_eq_true] at h
    refine ⟨?_, recheckB_sound h.2⟩
    have h1 := h.1
    split <;> rename_i hk
    · rw [hk] at h1
      simp only [Bool.or_eq_true] at h1
      intro hnb
      rcases h1 with h2 | h2
      · exact absurd (nmem_iff.1 h2) hnb
      · split at h2
        · rename_i q hq
          exact ⟨q.2, by rw [hq, ← veq_eq _ _ h2]⟩
        · cases h2
    · trivial

theorem junkAll_length : ∀ (L : List DOp) (t : List AVal), (junkAll L t).length = t.length
  | [], _ => rfl
  | d :: ds, t => by
    simp only [junkAll]
    cases d.o.dst <;> simp [tput, junkAll_length ds t]

theorem lget_junkAll (s : Nat) : ∀ (L : List DOp) (t : List AVal), dstsIn t.length L = true → isJunk (lget (junkAll L t) s) = false → ∀ d ∈ L, d.o.dst ≠ some s
  | [], t, _, _ => fun d hd => by cases hd
  | d :: ds, t, hi, h => by
    rw [dstsIn, Bool.and_eq_true] at hi
    simp only [junkAll] at h
    by_cases hd : d.o.dst = some s
    · rw [hd] at h hi
      simp only [tput] at h
      rw [lget_eq, List.getElem?_set] at h
      have : s < (junkAll ds t).length := by rw [junkAll_length]; exact Nat.blt_eq.mp hi.1
      simp [this, isJunk, junk] at h
    · rw [lget_tput _ _ _ _ hd] at h
      intro e he
      rcases List.mem_cons.1 he with e' | e'
      · subst e'; exact hd
      · exact lget_junkAll s ds t hi.2 h e e'

theorem lget_junkAll_eq (s : Nat) : ∀ (L : List DOp) (t : List AVal), (∀ d ∈ L, d.o.dst ≠ some s) → lget (junkAll L t) s = lget t s
  | [], _, _ => rfl
  | d :: ds, t, h => by
    simp only [junkAll]
    rw [lget_tput _ _ _ _ (h d List.mem_cons_self)]
    exact lget_junkAll_eq s ds t fun e he => h e (List.mem_cons_of_mem _ he)

theorem evDraw_sound {call : ACall} (hc : CallOk Γ P call) {base : Nat} {L0 : List DOp} {fr : Fr} : ∀ {L : List DOp} {rs : List DRec} {t : List AVal} {H : AHeap} {r : AExit × List AVal × AHeap}, evDraw Γ call base L0 fr.t L rs t H = some r →
    drawW Γ P base (fun t H' => EvPost (r.1, ⟨r.2.1, fr.d⟩, r.2.2) .normal ⟨t, fr.d⟩ H') (fun v H' => ∀ t', (∀ s, (∀ d ∈ L0, d.o.dst ≠ some s) → lget t' s = lget fr.t s) → EvPost (r.1, ⟨r.2.1, fr.d⟩, r.2.2) (.panic v) ⟨t', fr.d⟩ H') L rs t H := by
  intro L
  induction L with
  | nil => intro rs t H r h; cases h; exact ⟨rfl, rfl, rfl, fun _ => rfl, fun _ _ => rfl⟩
  | cons d ds ih =>
    intro rs t H r h
    simp only [evDraw] at h
    simp only [drawW]
    split at h
    · cases h
    · rename_i hg
      rw [hg]
      exact ih h
    · rename_i hg
      rw [hg]
      simp only
      split at h
      · rename_i hk
        rw [hk]
        simp only
        split at h
        · rename_i hr
          rw [hr]
          exact ih h
        · cases h
      · rename_i hk
        rw [hk]
        simp only
        split at h
        · rename_i hr
          rw [hr]
          exact ih h
        · cases h
      · rename_i hk
        rw [hk]
        simp only
        split at h
        · rename_i hr
          rw [hr]
          exact ih h
        · cases h
      · rename_i hk
        rw [hk]
        simp only
        split at h
        · rename_i v V he
          cases hre : recheckB Γ d.bef (unhideL d.bef H V rs) rs rs with
          | false => rw [hre] at h; cases h
          | true =>
            rw [hre] at h
            simp only [cond_true] at h
            refine awOp_mono ?_ ?_ (evOp_sound hc he)
            · intro v' V' e; cases e; exact ⟨recheckB_sound hre, ih h⟩
            · intro v' V' e; cases e
        · rename_i v V he
          cases hdi : dstsIn fr.t.length L0 with
          | false => rw [hdi] at h; cases h
          | true =>
            rw [hdi] at h
            simp only [cond_true] at h
            cases h
            refine awOp_mono ?_ ?_ (evOp_sound hc he)
            · intro v' V' e; cases e
            · intro v' V' e
              cases e
              intro t' ht'
              refine ⟨rfl, rfl, rfl, fun hp => absurd rfl (hp v), fun s hs => ?_⟩
              have h1 := lget_junkAll s L0 fr.t hdi hs
              rw [ht' s h1]
              exact (lget_junkAll_eq s L0 fr.t h1).symm
        · cases h

end
end Go.Aw

/- Values and blocks under other names; blocks laid behind a heap. -/
namespace Go.Aw

mutual
def AVal.shift (N : Nat) : AVal → AVal
  | .ptr b off => .ptr (b + N) off
  | .sl b off es len cap ex => .sl (b + N) off es len cap ex
  | .map b => .map (b + N)
  | .rptr cs => .rptr (shiftL N cs)
  | .rs cs es len => .rs (shiftL N cs) es len
  | .fn f cap => .fn f (shiftL N cap)
  | .iface t v => .iface t (v.shift N)
  | .agg cs => .agg (shiftL N cs)
  | .tup cs => .tup (shiftL N cs)
  | .bool b => .bool b
  | .int k n => .int k n
  | .str s => .str s
  | .nilp => .nilp
  | .nils => .nils
  | .nilm => .nilm
  | .nilf => .nilf
  | .yld l => .yld l
  | .nili => .nili
def shiftL (N : Nat) : List AVal → List AVal
  | [] => []
  | v :: vs => v.shift N :: shiftL N vs
end

def shiftE (N : Nat) : List (AVal × AVal) → List (AVal × AVal)
  | [] => []
  | (a, b) :: es => (a.shift N, b.shift N) :: shiftE N es

def AObj.shift (N : Nat) : AObj → AObj
  | .cells cs => .cells (shiftL N cs)
  | .amap es => .amap (shiftE N es)
  | .siter s pos => .siter s pos

theorem shiftL_get (N : Nat) : ∀ (cs : List AVal) (i : Nat), (shiftL N cs)[i]? = (cs[i]?).map (AVal.shift N)
  | [], _ => rfl
  | c :: cs, 0 => rfl
  | c :: cs, i + 1 => by
    show (shiftL N cs)[i]? = _
    rw [shiftL_get N cs i]
    rfl

theorem shiftL_length (N : Nat) : ∀ (cs : List AVal), (shiftL N cs).length = cs.length
  | [] => rfl
  | _ :: cs => by simp [shiftL, shiftL_length N cs]

def layL (N : Nat) (H : AHeap) : List (Nat × AObj) → AHeap
  | [] => H
  | (k, o) :: r => (layL N H r).put (N + k) (o.shift N)

def AHeap.lay (H : AHeap) (N n : Nat) (os : List (Nat × AObj)) : AHeap := layL N (H.bump n) os

theorem layL_next (N : Nat) (H : AHeap) : ∀ os, (layL N H os).next = H.next
  | [] => rfl
  | (k, o) :: r => by
    show ((layL N H r).put (N + k) (o.shift N)).next = _
    rw [← layL_next N H r]
    rfl

theorem layL_get (N : Nat) (H : AHeap) (b : Nat) : ∀ os : List (Nat × AObj), ((layL N H os).get b = H.get b ∧ ∀ p ∈ os, N + p.1 ≠ b) ∨ ∃ p ∈ os, N + p.1 = b ∧ (layL N H os).get b = some (p.2.shift N)
  | [] => .inl ⟨rfl, fun _ h => by cases h⟩
  | (k, o) :: r => by
    show (((layL N H r).put (N + k) (o.shift N)).get b = _ ∧ _) ∨ ∃ p ∈ _, _ ∧ ((layL N H r).put (N + k) (o.shift N)).get b = _
    rw [AHeap.get_put]
    by_cases e : b = N + k
    · rw [if_pos e]
      exact .inr ⟨(k, o), List.mem_cons_self, e.symm, rfl⟩
    · rw [if_neg e]
      rcases layL_get N H b r with ⟨h1, h2⟩ | ⟨p, h1, h2, h3⟩
      · refine .inl ⟨h1, fun p hp => ?_⟩
        rcases List.mem_cons.1 hp with rfl | hp
        · exact fun e' => e e'.symm
        · exact h2 p hp
      · exact .inr ⟨p, List.mem_cons_of_mem _ h1, h2, h3⟩

/-- What a closed call is known to come to: how it ends, what blocks it leaves, how many names it takes. -/
abbrev KRes := AEnd × List (Nat × AObj) × Nat

def AEnd.shift (N : Nat) : AEnd → AEnd
  | .ret v => .ret (v.shift N)
  | .pan v => .pan (v.shift N)

def knEnd (r : KRes) (H : AHeap) : AEnd × AHeap :=
  match r, H with
  | (e, os, n), ⟨N, t⟩ => (e.shift N, AHeap.lay ⟨N, t⟩ N n os)

def Gh.moved (g g1 : Gh) (N S : Nat) (H0 : AHeap) : Gh where
  mu b := if b < N then g.mu b else match H0.get (b - N) with
    | some _ => g1.mu (b - N)
    | none => none
  decl b := g.decl b ∨ (N ≤ b ∧ g1.decl (b - N))
  rho cb off := match g.rho cb off with
    | some c => some c
    | none => (g1.rho cb off).map (AVal.shift N)
  sz cb := if cb < S then g.sz cb else g1.sz cb
  dq := g.dq

section
variable {g g1 : Gh} {N S : Nat} {H0 : AHeap}

structure MoveOk (g g1 : Gh) (N S : Nat) (H0 : AHeap) : Prop where
  big : ∀ b cb base, H0.get b ≠ none → g1.mu b = some (cb, base) → S ≤ cb
  rho : ∀ cb off c c', g1.rho cb off = some c → g.rho cb off = some c' → c.shift N = c'

theorem MoveOk.mu (hm : MoveOk g g1 N S H0) {b cb base : Nat} (h : (g.moved g1 N S H0).mu (b + N) = some (cb, base)) : g1.mu b = some (cb, base) ∧ S ≤ cb := by
  simp only [Gh.moved] at h
  rw [if_neg (by omega), Nat.add_sub_cancel] at h
  split at h
  · rename_i o ho
    exact ⟨h, hm.big _ _ _ (by rw [ho]; exact fun e => by cases e) h⟩
  · cases h

theorem MoveOk.rho' (hm : MoveOk g g1 N S H0) {cb off : Nat} {c : AVal} (h : g1.rho cb off = some c) : (g.moved g1 N S H0).rho cb off = some (c.shift N) := by
  simp only [Gh.moved]
  cases hr : g.rho cb off with
  | none => rw [h]; rfl
  | some c' => rw [hm.rho _ _ _ _ h hr]

mutual
theorem VRel.moved (hm : MoveOk g g1 N S H0) : ∀ (x : AVal) (v : Value), VRel g1 x v → VRel (g.moved g1 N S H0) (x.shift N) v
  | .bool _, _, hv | .int _ _, _, hv | .str _, _, hv | .nilp, _, hv | .nils, _, hv | .nilm, _, hv | .nilf, _, hv | .nili, _, hv | .yld _, _, hv => hv
  | .ptr b off, v, hv => by
    obtain ⟨a, rfl, hd, hmu⟩ := hv
    refine ⟨a, rfl, .inr ⟨Nat.le_add_left _ _, by rw [Nat.add_sub_cancel]; exact hd⟩, fun cb base hcb => hmu cb base (hm.mu hcb).1⟩
  | .rptr cs, v, hv => by
    obtain ⟨cb, off, rfl, hr⟩ := hv
    refine ⟨cb, off, rfl, fun i c hc => ?_⟩
    rw [shiftL_get] at hc
    obtain ⟨c0, h0, rfl⟩ := Option.map_eq_some_iff.1 hc
    exact hm.rho' (hr i c0 h0)
  | .sl b off es len cap ex, v, hv => by
    obtain ⟨a, c, rfl, h1, h2, h3, hd, hmu⟩ := hv
    refine ⟨a, c, rfl, h1, h2, h3, .inr ⟨Nat.le_add_left _ _, by rw [Nat.add_sub_cancel]; exact hd⟩, fun cb base hcb hc => ?_⟩
    obtain ⟨k1, k2⟩ := hm.mu hcb
    have : (g.moved g1 N S H0).sz cb = g1.sz cb := by simp only [Gh.moved]; rw [if_neg (by omega)]
    rw [this]
    exact hmu cb base k1 hc
  | .rs cs es len, v, hv => by
    obtain ⟨a, c, rfl, h1, h2, h3⟩ := hv
    refine ⟨a, c, rfl, h1, h2, fun hl => ?_⟩
    obtain ⟨cb, off, ha, hr⟩ := h3 hl
    refine ⟨cb, off, ha, fun i c hc => ?_⟩
    rw [shiftL_get] at hc
    obtain ⟨c0, h0, rfl⟩ := Option.map_eq_some_iff.1 hc
    exact hm.rho' (hr i c0 h0)
  | .map b, v, hv => by
    obtain ⟨r, rfl, hd, hmu⟩ := hv
    refine ⟨r, rfl, .inr ⟨Nat.le_add_left _ _, by rw [Nat.add_sub_cancel]; exact hd⟩, fun cb base hcb => hmu cb base (hm.mu hcb).1⟩
  | .fn f cap, v, hv => by
    obtain ⟨vs, rfl, hc⟩ := hv
    exact ⟨vs, rfl, VRels.moved hm cap _ hc⟩
  | .iface t x, v, hv => by
    obtain ⟨y, rfl, hc⟩ := hv
    exact ⟨y, rfl, VRel.moved hm x _ hc⟩
  | .agg cs, v, hv => by
    obtain ⟨vs, rfl, hc⟩ := hv
    exact ⟨vs, rfl, VRels.moved hm cs _ hc⟩
  | .tup cs, v, hv => by
    obtain ⟨vs, rfl, hc⟩ := hv
    exact ⟨vs, rfl, VRels.moved hm cs _ hc⟩
theorem VRels.moved (hm : MoveOk g g1 N S H0) : ∀ (xs : List AVal) (vs : List Value), VRels g1 xs vs → VRels (g.moved g1 N S H0) (shiftL N xs) vs
  | [], _, hv => hv
  | x :: xs, vs, hv => by
    obtain ⟨v, vs', rfl, h1, h2⟩ := hv
    exact ⟨v, vs', rfl, VRel.moved hm x _ h1, VRels.moved hm xs _ h2⟩
end

theorem ERels.moved (hm : MoveOk g g1 N S H0) : ∀ (ps : List (AVal × AVal)) (es : List MapEntry), ERels g1 ps es → ERels (g.moved g1 N S H0) (shiftE N ps) es
  | [], _, he => he
  | (a, b) :: ps, es, he => by
    obtain ⟨e, es', rfl, h1, h2, h3⟩ := he
    exact ⟨e, es', rfl, h1.moved hm _ _, h2.moved hm _ _, ERels.moved hm ps es' h3⟩

theorem ORel.moved (hm : MoveOk g g1 N S H0) {w : World} {cb base : Nat} (hS : S ≤ cb) {o : AObj} (ho : ORel g1 w cb base o) : ORel (g.moved g1 N S H0) w cb base (o.shift N) := by
  have hsz : (g.moved g1 N S H0).sz cb = g1.sz cb := by simp only [Gh.moved]; rw [if_neg (by omega)]
  cases o with
  | cells cs =>
    obtain ⟨ccs, elem, lo, hi, h1, h2, h3, h4, h5⟩ := ho
    refine ⟨ccs, elem, lo, hi, h1, by rw [hsz]; exact h2, h3, by rw [shiftL_length]; exact h4, fun i c hc => ?_⟩
    rw [shiftL_get] at hc
    obtain ⟨c0, h0, rfl⟩ := Option.map_eq_some_iff.1 hc
    obtain ⟨v, h6, h7⟩ := h5 i c0 h0
    exact ⟨v, h6, h7.moved hm _ _⟩
  | amap es =>
    obtain ⟨h1, ces, clock, h2, h3⟩ := ho
    exact ⟨h1, ces, clock, h2, h3.moved hm _ _⟩
  | siter s pos => exact ho

end
end Go.Aw

/- A function that defers one other, which may recover. -/
namespace Go.Aw

section
variable {Γ : Globs} {P : Program} {T : TTab}

theorem wpOpsS_of_L {ops : Array Oper} {cs : List Frame} {Q : Exit → Act → List Frame → World → Prop} : ∀ {l : List Nat} {a : Act} {w : World}, wpOpsL P ops (fun e a w => Q e a cs w) l a w → wpOpsS P ops Q l a cs w
  | [], _, _, h => h
  | i :: rest, a, w, h => by
    simp only [wpOpsL] at h
    simp only [wpOpsS]
    split
    · rename_i ho; rw [ho] at h; exact wpOpsS_of_L h
    · rename_i o ho
      rw [ho] at h
      simp only at h
      split
      · rename_i hw
        rw [if_pos hw] at h
        have h2 : o.wp P a w (fun a' w' => wpOpsS P ops Q rest a' cs w') (fun e a' w' => Q e a' cs w') := Oper.wp_mono (fun a w h => wpOpsS_of_L h) h
        unfold Oper.wp at h2
        split
        · rename_i hr
          rw [hr] at h2
          exact h2.elim
        · exact h2
      · rename_i hw
        rw [if_neg hw] at h
        exact wpOpsS_of_L h

/-- What is asked of the function that is deferred: what it captured, what it recovers, and what must hold behind it. -/
def defW (Γ : Globs) (P : Program) (D : AFun) (cap : List AVal) (pn : AVal) (R : AHeap → Prop) (H : AHeap) : Prop :=
  match D.body with
  | .seq (.rcv dst os) c => awOps Γ P os (aw Γ P c fun e fr H => (e = .normal ∨ e = .ret) ∧ fr.d = [] ∧ R H) (fun _ _ _ => False) ((D.start cap).put dst pn) H ∧ D.res = []
  | _ => False

def fnQD (Γ : Globs) (P : Program) (df : Nat) (D : AFun) (F : AFun) (R : AEnd → AHeap → Prop) : AExit → Fr → AHeap → Prop
  | .normal, fr, H | .ret, fr, H => ∃ cap, fr.d = [.fn df cap] ∧ defW Γ P D cap .nili (fun H => ∃ vs, evRess Γ fr.t H F.res = some vs ∧ R (.ret (resVal vs)) H) H
  | .panic v, fr, H => ∃ cap, fr.d = [.fn df cap] ∧ (∃ n u, v = .iface n u) ∧ defW Γ P D cap v (fun H => ∃ vs, evRess Γ fr.t H F.res = some vs ∧ R (.ret (resVal vs)) H) H
  | _, _, _ => False

def recMode : FrameMode → FrameMode
  | .panicking (q :: older) => .panicking ({ q with recovered := true } :: older)
  | m => m

theorem run_recover {o : Oper} (h : isRec o.op = true) (a : Act) (w : World) : (execOp a.eval o).run P w = .ok .recover w := by
  obtain ⟨dst, op, ty, pos, after, guard⟩ := o
  cases op <;> simp only [isRec, Bool.false_eq_true] at h
  rename_i c
  obtain ⟨callee, args, ats⟩ := c
  simp only at h
  split at h
  · rename_i hc
    have : args = #[] := by simpa using h
    subst this
    simp [execOp, resolve, invoke, go_sem]
  · cases h

theorem defer_calls (hT : TOk P T) (hmx : P.follows .mixedOrders = true) {df : Nat} {D : AFun} (hD : FunIn P T df D) {cap : List AVal} {pn : AVal} {RH : AHeap → Prop} {H : AHeap} (h : defW Γ P D cap pn RH H)
    {g : Gh} {w : World} {vs : Array Value} (hw : WRel Γ g H w) (hv : VRels g cap vs.toList) {u : FrameMode} {R : Ending → FrameMode → World → Prop}
    (hu : (u = .returning ∧ pn = .nili) ∨ ∃ cv, u = .panicking [{ v := cv, recovered := false }] ∧ VRel g pn cv)
    (hR : ∀ cv w' u' g' H', settle u' = .returning → WRel Γ g' H' w' → Ext g H w g' H' w' → RH H' → R (.returned cv) u' w') : CallsD P df vs u w R := by
  obtain ⟨fn, c, h1, h2, h3, h4, h5, h6⟩ := hD
  unfold defW at h
  split at h
  · rename_i dst os c2 hb
    obtain ⟨h, hres⟩ := h
    rw [hb] at h5
    cases c <;> simp only [mcode, Bool.false_eq_true] at h5
    rename_i ca cb
    rw [Bool.and_eq_true] at h5
    obtain ⟨m1, m2⟩ := h5
    cases ca <;> try simp only [mcode, Bool.false_eq_true] at m1
    rename_i id ops dr
    cases dr <;> simp only [mcode, Bool.false_eq_true] at m1
    unfold mrcv at m1
    split at m1
    · rename_i o ho
      simp only [Bool.and_eq_true, decide_eq_true_eq] at m1
      obtain ⟨⟨⟨hg, hdst⟩, hrec⟩, hom⟩ := m1
      have hg' : o.guard = none := by simpa using hg
      refine callsD_of_wpS h1 h3 fun c₀ cs hmode => ?_
      rw [h4]
      refine wpS_seq (wpS_region ?_)
      have hsz : 0 < ops.size := (Array.getElem?_eq_some_iff.1 ho).1
      have hrange : List.range ops.size = 0 :: (List.range ops.size).tail := by
        obtain ⟨n, hn⟩ : ∃ n, ops.size = n + 1 := ⟨ops.size - 1, by omega⟩
        rw [hn, List.range_succ_eq_map]; rfl
      rw [hrange]
      have hst := start_rel (F := D) hv
      have hwant : Region.wanted o (yielded ops (vs ++ Array.replicate (D.nt - vs.size) undef)) = true := by unfold Region.wanted; rw [hg']
      -- what is recovered
      have step : ∃ cv cs', (cs' = { c₀ with mode := recMode u } :: cs) ∧ VRel g pn cv ∧ ∀ K : Act → List Frame → Prop, K (Act.put { tmps := vs ++ Array.replicate (D.nt - vs.size) undef, defers := [] } o.dst cv) cs' →
          (match recoverD (c₀ :: cs) with
            | some (v, cs') => K (Act.put { tmps := vs ++ Array.replicate (D.nt - vs.size) undef, defers := [] } o.dst v) cs'
            | none => K (Act.put { tmps := vs ++ Array.replicate (D.nt - vs.size) undef, defers := [] } o.dst .nilIface) (c₀ :: cs)) := by
        rcases hu with ⟨rfl, rfl⟩ | ⟨cv, rfl, hcv⟩
        · refine ⟨.nilIface, c₀ :: cs, by rw [show recMode .returning = c₀.mode from hmode.symm], rfl, fun K hK => ?_⟩
          simp only [recoverD, hmode]
          exact hK
        · refine ⟨cv, _, rfl, hcv, fun K hK => ?_⟩
          simp only [recoverD, hmode]
          exact hK
      obtain ⟨cv, cs', hcs', hcv, hstep⟩ := step
      simp only [wpOpsS, ho, hwant, if_true, run_recover hrec]
      refine hstep (fun a cs => wpOpsS P ops _ _ a cs w) ?_
      refine wpOpsS_of_L ?_
      have hfr := hst.put dst hcv
      rw [← hdst] at hfr h
      have hset : settle (recMode u) = .returning := by
        rcases hu with ⟨rfl, rfl⟩ | ⟨cv, rfl, hcv⟩ <;> rfl
      refine awOps_sound hT (g0 := g) (H0 := H) (w0 := w) ?_ ?_ os _ _ H g _ w hom h hfr hw (.refl _ _ _)
      · intro fr' H' g' a' w' hk hf' hw' he
        refine wpS_of_wp (wp_mono (aw_sound hT hmx _ _ _ _ _ m2 hk g' a' w' hf' hw') ?_)
        rintro e a'' w'' ⟨ae, fr'', H'', g'', k1, k2, k3, k4, k5⟩
        obtain ⟨hex, hd, hRH⟩ := k5
        have hdd := k2.d
        rw [hd] at hdd
        obtain ⟨rv, hrr, _⟩ := results_run hT k3 k2.t h6 (vs := []) (by rw [hres]; rfl)
        have fin : a''.defers = [] ∧ ∃ u', cs' = { c₀ with mode := u' } :: cs ∧ ∃ v, (results fn a''.tmps).run P w'' = .ok v w'' ∧ R (.returned v) u' w'' :=
          ⟨hdd, _, hcs', rv, hrr, hR _ _ _ g'' H'' hset k3 (he.trans k4) hRH⟩
        rcases hex with rfl | rfl
        · cases k1; exact fin
        · cases k1; exact fin
      · intro v fr' H' g' a' w' cv hq
        exact hq.elim
    · cases m1
  · exact h.elim

/-- THE CONTRACT OF A FUNCTION THAT DEFERS ANOTHER. -/
theorem acalls_of_aw_defer (hT : TOk P T) (hmx : P.follows .mixedOrders = true) {f df : Nat} {F D : AFun} (hF : FunIn P T f F) (hD : FunIn P T df D) {args : List AVal} {H : AHeap} {R : AEnd → AHeap → Prop}
    (h : aw Γ P F.body (fnQD Γ P df D F R) (F.start args) H) : ACalls Γ P f args H R := by
  refine ⟨hF.ok, fun g w vs hw hv => ?_⟩
  obtain ⟨fn, c, h1, h2, h3, h4, h5, h6⟩ := hF
  refine calls_of_wp_defers h1 h3 ?_
  rw [h4]
  refine wp_mono (aw_sound hT hmx _ _ _ _ _ h5 h g _ w (start_rel hv) hw) ?_
  rintro e a' w' ⟨ae, fr', H', g', k1, k2, k3, k4, k5⟩
  have key : ∀ cap pn u, fr'.d = [.fn df cap] → defW Γ P D cap pn (fun H => ∃ vs, evRess Γ fr'.t H F.res = some vs ∧ R (.ret (resVal vs)) H) H' →
      ((u = .returning ∧ pn = .nili) ∨ ∃ cv, u = .panicking [{ v := cv, recovered := false }] ∧ VRel g' pn cv) →
      Leaves P fn a'.tmps (fun e w' => ∃ ae g' H', EndRel g' ae e ∧ WRel Γ g' H' w' ∧ Ext g H w g' H' w' ∧ R ae H') a'.defers u w' := by
    intro cap pn u hd hdw hu
    have hdd := k2.d
    rw [hd] at hdd
    obtain ⟨f', cap', cvs, cs', e1, e2, hcv, hnil⟩ := hdd.resolve_right fun ⟨_, _, e1, _⟩ => by cases e1
    cases e1
    have hnil' : cs' = [] := hnil
    subst hnil'
    rw [e2]
    have hun : u ≠ .run := by rcases hu with ⟨rfl, _⟩ | ⟨cv, rfl, _⟩ <;> simp
    refine leaves_cons (f := df) (args := cvs) hun (by simp [invoke, run_callFunc hD.ok]) ?_
    refine defer_calls hT hmx hD hdw k3 hcv hu ?_
    rintro cv w'' u' g'' H'' hset hw'' he ⟨rs, hrs, hR⟩
    show Leaves P fn a'.tmps _ [] (settle u') w''
    rw [hset]
    obtain ⟨rv, hrr, hrel⟩ := results_run hT hw'' (k2.mono he.le).t h6 hrs
    exact ⟨rv, hrr, .ret _, g'', H'', ⟨rv, rfl, hrel⟩, hw'', k4.trans he, hR⟩
  cases ae with
  | normal => cases k1; obtain ⟨cap, hd, hw⟩ := k5; exact key cap .nili .returning hd hw (.inl ⟨rfl, rfl⟩)
  | ret => cases k1; obtain ⟨cap, hd, hw⟩ := k5; exact key cap .nili .returning hd hw (.inl ⟨rfl, rfl⟩)
  | panic v =>
    obtain ⟨cv, rfl, hcv⟩ := k1
    obtain ⟨cap, hd, _, hw⟩ := k5
    exact key cap v _ hd hw (.inr ⟨cv, rfl, hcv⟩)
  | exit n => exact k5.elim
  | goto n => exact k5.elim

end
end Go.Aw
