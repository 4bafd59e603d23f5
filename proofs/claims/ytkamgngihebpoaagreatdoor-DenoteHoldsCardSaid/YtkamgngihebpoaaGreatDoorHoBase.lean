import Derived.Calls
import Derived.Defers
import Derived.Recover
/- The abstract values, heaps and ghost states over which the walks of this seat run, and how they stand to the model's world. -/
set_option linter.all false
noncomputable section
namespace Go.Aw

inductive AVal where
  | bool (b : Bool)
  | int (k : IntKind) (n : Int)
  | str (s : List UInt8)
  | nilp
  | ptr (b off : Nat)
  | rptr (cs : List AVal)
  | nils
  | sl (b off es len cap : Nat) (ex : Bool)
  | rs (cs : List AVal) (es len : Nat)
  | nilm
  | map (b : Nat)
  | fn (f : Nat) (cap : List AVal)
  | nilf
  | yld (l : Nat)
  | iface (t : Nat) (v : AVal)
  | nili
  | agg (cs : List AVal)
  | tup (vs : List AVal)
  deriving Inhabited

inductive AObj where
  | cells (cs : List AVal)
  | amap (es : List (AVal × AVal))
  | siter (s : List UInt8) (pos : Nat)
  deriving Inhabited

/-- A way down a tree. -/
inductive Pth where
  | h
  | a (p : Pth)
  | b (p : Pth)
  | c (p : Pth)
  | d (p : Pth)

def pthFC : Nat → Nat → Pth
  | 0, _ => .h
  | f + 1, k => bif Nat.beq k 0 then .h else bif Nat.beq (k % 4) 1 then .a (pthFC f (k / 4)) else bif Nat.beq (k % 4) 2 then .b (pthFC f (k / 4)) else bif Nat.beq (k % 4) 3 then .c (pthFC f (k / 4)) else .d (pthFC f (k / 4 - 1))

def pthF (f : Nat) : Nat → Pth :=
  Nat.rec (motive := fun _ => Nat → Pth) (fun _ => .h) (fun _ ih k =>
    Bool.rec (Bool.rec (Bool.rec (Bool.rec (.d (ih (Nat.pred (Nat.div k 4)))) (.c (ih (Nat.div k 4))) (Nat.beq (Nat.mod k 4) 3)) (.b (ih (Nat.div k 4))) (Nat.beq (Nat.mod k 4) 2)) (.a (ih (Nat.div k 4))) (Nat.beq (Nat.mod k 4) 1)) .h (Nat.beq k 0)) f

theorem pthF_succ (f k : Nat) : pthF (f + 1) k = bif Nat.beq k 0 then .h else bif Nat.beq (k % 4) 1 then .a (pthF f (k / 4)) else bif Nat.beq (k % 4) 2 then .b (pthF f (k / 4)) else bif Nat.beq (k % 4) 3 then .c (pthF f (k / 4)) else .d (pthF f (k / 4 - 1)) := by
  show (Bool.rec (motive := fun _ => Pth) (Bool.rec (motive := fun _ => Pth) (Bool.rec (motive := fun _ => Pth) (Bool.rec (motive := fun _ => Pth) (.d (pthF f (k / 4 - 1))) (.c (pthF f (k / 4))) (Nat.beq (k % 4) 3)) (.b (pthF f (k / 4))) (Nat.beq (k % 4) 2)) (.a (pthF f (k / 4))) (Nat.beq (k % 4) 1)) .h (Nat.beq k 0) : Pth) = _
  cases Nat.beq k 0
  · cases Nat.beq (k % 4) 1
    · cases Nat.beq (k % 4) 2
      · cases Nat.beq (k % 4) 3 <;> rfl
      · rfl
    · rfl
  · rfl

def Pth.num : Pth → Nat
  | .h => 0
  | .a p => 4 * p.num + 1
  | .b p => 4 * p.num + 2
  | .c p => 4 * p.num + 3
  | .d p => 4 * p.num + 4

theorem pthF_num : ∀ (f k : Nat), k ≤ f → (pthF f k).num = k := by
  intro f
  induction f with
  | zero => intro k hk; have : k = 0 := by omega
            subst this; rfl
  | succ f ih =>
    intro k hk
    rw [pthF_succ]
    cases h0 : Nat.beq k 0 with
    | true => rw [Nat.eq_of_beq_eq_true h0]; rfl
    | false =>
      have hk0 : k ≠ 0 := fun e => by rw [e] at h0; cases h0
      simp only [cond_false]
      cases h1 : Nat.beq (k % 4) 1 with
      | true =>
        have := Nat.eq_of_beq_eq_true h1
        simp only [cond_true, Pth.num]
        rw [ih _ (by omega)]; omega
      | false =>
        have n1 : k % 4 ≠ 1 := fun e => by rw [e] at h1; cases h1
        simp only [cond_false]
        cases h2 : Nat.beq (k % 4) 2 with
        | true =>
          have := Nat.eq_of_beq_eq_true h2
          simp only [cond_true, Pth.num]
          rw [ih _ (by omega)]; omega
        | false =>
          have n2 : k % 4 ≠ 2 := fun e => by rw [e] at h2; cases h2
          simp only [cond_false]
          cases h3 : Nat.beq (k % 4) 3 with
          | true =>
            have := Nat.eq_of_beq_eq_true h3
            simp only [cond_true, Pth.num]
            rw [ih _ (by omega)]; omega
          | false =>
            have n3 : k % 4 ≠ 3 := fun e => by rw [e] at h3; cases h3
            simp only [cond_false, Pth.num]
            rw [ih _ (by omega)]; omega

def pth (k : Nat) : Pth := pthF k k

theorem pth_inj {j k : Nat} (h : pth j = pth k) : j = k := by
  have := congrArg Pth.num h
  unfold pth at this
  rw [pthF_num _ _ (Nat.le_refl _), pthF_num _ _ (Nat.le_refl _)] at this
  exact this

/-- A trie of blocks by number. -/
inductive Tr where
  | leaf
  | node (v : Option AObj) (a b c d : Tr)
  deriving Inhabited

def Tr.getC : Pth → Tr → Option AObj
  | _, .leaf => none
  | .h, .node v _ _ _ _ => v
  | .a p, .node _ a _ _ _ => Tr.getC p a
  | .b p, .node _ _ b _ _ => Tr.getC p b
  | .c p, .node _ _ _ c _ => Tr.getC p c
  | .d p, .node _ _ _ _ d => Tr.getC p d

def Tr.setC (v : Option AObj) : Pth → Tr → Tr
  | .h, .leaf => .node v .leaf .leaf .leaf .leaf
  | .h, .node _ a b c d => .node v a b c d
  | .a p, .leaf => .node none (Tr.setC v p .leaf) .leaf .leaf .leaf
  | .a p, .node x a b c d => .node x (Tr.setC v p a) b c d
  | .b p, .leaf => .node none .leaf (Tr.setC v p .leaf) .leaf .leaf
  | .b p, .node x a b c d => .node x a (Tr.setC v p b) c d
  | .c p, .leaf => .node none .leaf .leaf (Tr.setC v p .leaf) .leaf
  | .c p, .node x a b c d => .node x a b (Tr.setC v p c) d
  | .d p, .leaf => .node none .leaf .leaf .leaf (Tr.setC v p .leaf)
  | .d p, .node x a b c d => .node x a b c (Tr.setC v p d)

def Tr.getP (p : Pth) : Tr → Option AObj :=
  Pth.rec (motive := fun _ => Tr → Option AObj)
    (fun t => Tr.rec (motive := fun _ => Option AObj) none (fun v _ _ _ _ _ _ _ _ => v) t)
    (fun _ ih t => Tr.rec (motive := fun _ => Option AObj) none (fun _ a _ _ _ _ _ _ _ => ih a) t)
    (fun _ ih t => Tr.rec (motive := fun _ => Option AObj) none (fun _ _ b _ _ _ _ _ _ => ih b) t)
    (fun _ ih t => Tr.rec (motive := fun _ => Option AObj) none (fun _ _ _ c _ _ _ _ _ => ih c) t)
    (fun _ ih t => Tr.rec (motive := fun _ => Option AObj) none (fun _ _ _ _ d _ _ _ _ => ih d) t) p

def Tr.setP (v : Option AObj) (p : Pth) : Tr → Tr :=
  Pth.rec (motive := fun _ => Tr → Tr)
    (fun t => Tr.rec (motive := fun _ => Tr) (.node v .leaf .leaf .leaf .leaf) (fun _ a b c d _ _ _ _ => .node v a b c d) t)
    (fun _ ih t => Tr.rec (motive := fun _ => Tr) (.node none (ih .leaf) .leaf .leaf .leaf) (fun x a b c d _ _ _ _ => .node x (ih a) b c d) t)
    (fun _ ih t => Tr.rec (motive := fun _ => Tr) (.node none .leaf (ih .leaf) .leaf .leaf) (fun x a b c d _ _ _ _ => .node x a (ih b) c d) t)
    (fun _ ih t => Tr.rec (motive := fun _ => Tr) (.node none .leaf .leaf (ih .leaf) .leaf) (fun x a b c d _ _ _ _ => .node x a b (ih c) d) t)
    (fun _ ih t => Tr.rec (motive := fun _ => Tr) (.node none .leaf .leaf .leaf (ih .leaf)) (fun x a b c d _ _ _ _ => .node x a b c (ih d)) t) p

theorem Tr.getP_leaf (p : Pth) : Tr.getP p .leaf = none := by cases p <;> rfl

theorem Tr.getP_setP (v : Option AObj) : ∀ (p q : Pth) (t : Tr), Tr.getP q (Tr.setP v p t) = open Classical in if q = p then v else Tr.getP q t := by
  intro p
  induction p with
  | h =>
    intro q t
    by_cases e : q = .h
    · subst e; rw [if_pos rfl]; cases t <;> rfl
    · rw [if_neg e]
      cases q <;> cases t <;> first | exact absurd rfl e | rfl | exact Tr.getP_leaf _
  | a p ih =>
    intro q t
    cases q with
    | a r =>
      by_cases e : r = p
      · subst e
        rw [if_pos rfl]
        cases t with
        | leaf => exact (ih r .leaf).trans (by rw [if_pos rfl])
        | node x a b c d => exact (ih r a).trans (by rw [if_pos rfl])
      · rw [if_neg (by intro h; cases h; exact e rfl)]
        cases t with
        | leaf => exact (ih r .leaf).trans (by rw [if_neg e, Tr.getP_leaf, Tr.getP_leaf])
        | node x a b c d => exact (ih r a).trans (by rw [if_neg e]; rfl)
    | _ =>
      rw [if_neg (by intro e; cases e)]
      cases t <;> first | rfl | exact Tr.getP_leaf _
  | b p ih =>
    intro q t
    cases q with
    | b r =>
      by_cases e : r = p
      · subst e
        rw [if_pos rfl]
        cases t with
        | leaf => exact (ih r .leaf).trans (by rw [if_pos rfl])
        | node x a b c d => exact (ih r b).trans (by rw [if_pos rfl])
      · rw [if_neg (by intro h; cases h; exact e rfl)]
        cases t with
        | leaf => exact (ih r .leaf).trans (by rw [if_neg e, Tr.getP_leaf, Tr.getP_leaf])
        | node x a b c d => exact (ih r b).trans (by rw [if_neg e]; rfl)
    | _ =>
      rw [if_neg (by intro e; cases e)]
      cases t <;> first | rfl | exact Tr.getP_leaf _
  | c p ih =>
    intro q t
    cases q with
    | c r =>
      by_cases e : r = p
      · subst e
        rw [if_pos rfl]
        cases t with
        | leaf => exact (ih r .leaf).trans (by rw [if_pos rfl])
        | node x a b c d => exact (ih r c).trans (by rw [if_pos rfl])
      · rw [if_neg (by intro h; cases h; exact e rfl)]
        cases t with
        | leaf => exact (ih r .leaf).trans (by rw [if_neg e, Tr.getP_leaf, Tr.getP_leaf])
        | node x a b c d => exact (ih r c).trans (by rw [if_neg e]; rfl)
    | _ =>
      rw [if_neg (by intro e; cases e)]
      cases t <;> first | rfl | exact Tr.getP_leaf _
  | d p ih =>
    intro q t
    cases q with
    | d r =>
      by_cases e : r = p
      · subst e
        rw [if_pos rfl]
        cases t with
        | leaf => exact (ih r .leaf).trans (by rw [if_pos rfl])
        | node x a b c d => exact (ih r d).trans (by rw [if_pos rfl])
      · rw [if_neg (by intro h; cases h; exact e rfl)]
        cases t with
        | leaf => exact (ih r .leaf).trans (by rw [if_neg e, Tr.getP_leaf, Tr.getP_leaf])
        | node x a b c d => exact (ih r d).trans (by rw [if_neg e]; rfl)
    | _ =>
      rw [if_neg (by intro e; cases e)]
      cases t <;> first | rfl | exact Tr.getP_leaf _


def Tr.get (t : Tr) (k : Nat) : Option AObj := Tr.getP (pth k) t
def Tr.set (v : Option AObj) (t : Tr) (k : Nat) : Tr := Tr.setP v (pth k) t

theorem Tr.get_leaf (k : Nat) : Tr.leaf.get k = none := Tr.getP_leaf _

theorem Tr.get_set (v : Option AObj) (t : Tr) (k j : Nat) : (Tr.set v t k).get j = if j = k then v else t.get j := by
  unfold Tr.get Tr.set
  rw [Tr.getP_setP]
  by_cases e : j = k
  · subst e; simp
  · rw [if_neg e, if_neg fun e' => e (pth_inj e')]

structure AHeap where
  next : Nat
  t : Tr
  deriving Inhabited

def AHeap.get (H : AHeap) (b : Nat) : Option AObj := match H with
  | ⟨_, t⟩ => t.get b
def AHeap.put (H : AHeap) (b : Nat) (o : AObj) : AHeap := match H with
  | ⟨n, t⟩ => ⟨n, Tr.set (some o) t b⟩
def AHeap.del (H : AHeap) (b : Nat) : AHeap := match H with
  | ⟨n, t⟩ => ⟨n, Tr.set none t b⟩
def AHeap.new (H : AHeap) (o : AObj) : AHeap := match H with
  | ⟨n, t⟩ => ⟨n + 1, Tr.set (some o) t n⟩
def AHeap.empty : AHeap := { next := 0, t := .leaf }

theorem AHeap.get_put (H : AHeap) (b : Nat) (o : AObj) (j : Nat) : (H.put b o).get j = if j = b then some o else H.get j := Tr.get_set _ _ _ _
theorem AHeap.get_del (H : AHeap) (b : Nat) (j : Nat) : (H.del b).get j = if j = b then none else H.get j := Tr.get_set _ _ _ _
theorem AHeap.get_new (H : AHeap) (o : AObj) (j : Nat) : (H.new o).get j = if j = H.next then some o else H.get j := Tr.get_set _ _ _ _
theorem AHeap.get_empty (j : Nat) : AHeap.empty.get j = none := Tr.get_leaf j

/-- The ghost state: where each block lies, which blocks have been told, what read-only memory holds, how many cells a row has, which blocks hold no deferred calls and stay so. -/
structure Gh where
  mu : Nat → Option (Nat × Nat)
  decl : Nat → Prop
  rho : Nat → Nat → Option AVal
  sz : Nat → Nat
  dq : Nat → Prop

mutual
def VRel (g : Gh) : AVal → Value → Prop
  | .bool b, v => v = .bool b
  | .int k n, v => v = .int k n
  | .str s, v => v = .string ⟨s.toArray⟩
  | .nilp, v => v = .pointer none
  | .ptr b off, v => ∃ a, v = .pointer (some a) ∧ g.decl b ∧ ∀ cb base, g.mu b = some (cb, base) → a = ⟨cb, base + off, none⟩
  | .rptr cs, v => ∃ cb off, v = .pointer (some ⟨cb, off, none⟩) ∧ ∀ i c, cs[i]? = some c → g.rho cb (off + i) = some c
  | .nils, v => v = .slice none 0 0
  | .sl b off es len cap ex, v => ∃ a c, v = .slice (some a) len c ∧ len ≤ cap ∧ cap ≤ c ∧ (ex = true → c = cap) ∧ g.decl b ∧
      ∀ cb base, g.mu b = some (cb, base) → c ≠ 0 → a = ⟨cb, base + off, none⟩ ∧ base + off + c * es ≤ g.sz cb
  | .rs cs _ len, v => ∃ a c, v = .slice a len c ∧ len ≤ c ∧ (a = none → c = 0) ∧
      (0 < len → ∃ cb off, a = some ⟨cb, off, none⟩ ∧ ∀ i c, cs[i]? = some c → g.rho cb (off + i) = some c)
  | .nilm, v => v = .map none
  | .map b, v => ∃ r, v = .map (some r) ∧ g.decl b ∧ ∀ cb base, g.mu b = some (cb, base) → r = cb
  | .fn f cap, v => ∃ vs, v = .func (.func f) #[] vs ∧ VRels g cap vs.toList
  | .nilf, v => v = .nilFunc
  | .yld l, v => v = .func (.yield l) #[] #[]
  | .iface t x, v => ∃ y, v = .iface t y ∧ VRel g x y
  | .nili, v => v = .nilIface
  | .agg cs, v => ∃ vs, v = .agg vs ∧ VRels g cs vs.toList
  | .tup cs, v => ∃ vs, v = .tuple vs ∧ VRels g cs vs.toList
def VRels (g : Gh) : List AVal → List Value → Prop
  | [], vs => vs = []
  | c :: cs, vs => ∃ v vs', vs = v :: vs' ∧ VRel g c v ∧ VRels g cs vs'
end

structure GLe (g g' : Gh) : Prop where
  decl : ∀ b, g.decl b → g'.decl b
  mu : ∀ b, g.decl b → g'.mu b = g.mu b ∨ g'.mu b = none
  rho : ∀ cb off c, g.rho cb off = some c → g'.rho cb off = some c
  sz : ∀ b cb base, g.decl b → g'.mu b = some (cb, base) → g'.sz cb = g.sz cb
  dq : ∀ D, g.dq D → g'.dq D

theorem GLe.refl (g : Gh) : GLe g g := ⟨fun _ h => h, fun _ _ => .inl rfl, fun _ _ _ h => h, fun _ _ _ _ _ => rfl, fun _ h => h⟩

theorem GLe.trans {g g' g'' : Gh} (h : GLe g g') (h' : GLe g' g'') : GLe g g'' where
  decl b hb := h'.decl b (h.decl b hb)
  mu b hb := by
    rcases h.mu b hb with e | e
    · rcases h'.mu b (h.decl b hb) with e' | e'
      · exact .inl (e'.trans e)
      · exact .inr e'
    · rcases h'.mu b (h.decl b hb) with e' | e'
      · exact .inr (e'.trans e)
      · exact .inr e'
  rho cb off c hc := h'.rho _ _ _ (h.rho _ _ _ hc)
  dq D hD := h'.dq D (h.dq D hD)
  sz b cb base hb hm := by
    have h2 := h'.sz b cb base (h.decl b hb) hm
    rcases h'.mu b (h.decl b hb) with e' | e'
    · exact h2.trans (h.sz b cb base hb (e' ▸ hm))
    · rw [e'] at hm; cases hm

mutual
theorem VRel.mono {g g' : Gh} (h : GLe g g') : ∀ (x : AVal) (v : Value), VRel g x v → VRel g' x v
  | .bool _, _, hv | .int _ _, _, hv | .str _, _, hv | .nilp, _, hv | .nils, _, hv | .nilm, _, hv | .nilf, _, hv | .nili, _, hv | .yld _, _, hv => hv
  | .ptr b off, v, hv => by
    obtain ⟨a, rfl, hd, hm⟩ := hv
    refine ⟨a, rfl, h.decl _ hd, fun cb base hcb => ?_⟩
    rcases h.mu b hd with e | e
    · exact hm cb base (e ▸ hcb)
    · rw [e] at hcb; cases hcb
  | .rptr cs, v, hv => by
    obtain ⟨cb, off, rfl, hr⟩ := hv
    exact ⟨cb, off, rfl, fun i c hc => h.rho _ _ _ (hr i c hc)⟩
  | .sl b off es len cap ex, v, hv => by
    obtain ⟨a, c, rfl, h1, h2, h3, hd, hm⟩ := hv
    refine ⟨a, c, rfl, h1, h2, h3, h.decl _ hd, fun cb base hcb hc => ?_⟩
    have hs := h.sz b cb base hd hcb
    rcases h.mu b hd with e | e
    · rw [hs]; exact hm cb base (e ▸ hcb) hc
    · rw [e] at hcb; cases hcb
  | .rs cs es len, v, hv => by
    obtain ⟨a, c, rfl, h1, h2, h3⟩ := hv
    refine ⟨a, c, rfl, h1, h2, fun hl => ?_⟩
    obtain ⟨cb, off, ha, hr⟩ := h3 hl
    exact ⟨cb, off, ha, fun i c hc => h.rho _ _ _ (hr i c hc)⟩
  | .map b, v, hv => by
    obtain ⟨r, rfl, hd, hm⟩ := hv
    refine ⟨r, rfl, h.decl _ hd, fun cb base hcb => ?_⟩
    rcases h.mu b hd with e | e
    · exact hm cb base (e ▸ hcb)
    · rw [e] at hcb; cases hcb
  | .fn f cap, v, hv => by
    obtain ⟨vs, rfl, hc⟩ := hv
    exact ⟨vs, rfl, VRels.mono h cap _ hc⟩
  | .iface t x, v, hv => by
    obtain ⟨y, rfl, hc⟩ := hv
    exact ⟨y, rfl, VRel.mono h x _ hc⟩
  | .agg cs, v, hv => by
    obtain ⟨vs, rfl, hc⟩ := hv
    exact ⟨vs, rfl, VRels.mono h cs _ hc⟩
  | .tup cs, v, hv => by
    obtain ⟨vs, rfl, hc⟩ := hv
    exact ⟨vs, rfl, VRels.mono h cs _ hc⟩
theorem VRels.mono {g g' : Gh} (h : GLe g g') : ∀ (xs : List AVal) (vs : List Value), VRels g xs vs → VRels g' xs vs
  | [], _, hv => hv
  | x :: xs, vs, hv => by
    obtain ⟨v, vs', rfl, h1, h2⟩ := hv
    exact ⟨v, vs', rfl, VRel.mono h x _ h1, VRels.mono h xs _ h2⟩
end

theorem VRels.length {g : Gh} : ∀ {xs : List AVal} {vs : List Value}, VRels g xs vs → vs.length = xs.length
  | [], _, h => by rw [VRels] at h; simp [h]
  | _ :: xs, vs, h => by
    rw [VRels] at h
    obtain ⟨v, vs', rfl, _, h2⟩ := h
    simp [VRels.length h2]

theorem VRels.get {g : Gh} : ∀ {xs : List AVal} {vs : List Value}, VRels g xs vs → ∀ (i : Nat) (x : AVal), xs[i]? = some x → ∃ v, vs[i]? = some v ∧ VRel g x v
  | [], _, _, i, x, hx => by simp at hx
  | y :: xs, vs, h, i, x, hx => by
    rw [VRels] at h
    obtain ⟨v, vs', rfl, h1, h2⟩ := h
    cases i with
    | zero => simp at hx; subst hx; exact ⟨v, rfl, h1⟩
    | succ i => simp at hx; simpa using VRels.get h2 i x hx

theorem VRels.of_get {g : Gh} : ∀ {xs : List AVal} {vs : List Value}, vs.length = xs.length → (∀ (i : Nat) (x : AVal) (v : Value), xs[i]? = some x → vs[i]? = some v → VRel g x v) → VRels g xs vs
  | [], vs, hl, _ => by rw [VRels]; simpa using hl
  | y :: xs, [], hl, _ => by simp at hl
  | y :: xs, v :: vs, hl, h => by
    rw [VRels]
    exact ⟨v, vs, rfl, h 0 y v rfl rfl, VRels.of_get (by simpa using hl) fun i x w hx hw => h (i + 1) x w (by simpa using hx) (by simpa using hw)⟩

theorem VRels.set {g : Gh} {xs : List AVal} {vs : List Value} (h : VRels g xs vs) (i : Nat) {x : AVal} {v : Value} (hv : VRel g x v) : VRels g (xs.set i x) (vs.set i v) := by
  refine VRels.of_get (by simpa using h.length) fun j y w hy hw => ?_
  rw [List.getElem?_set] at hy hw
  by_cases e : i = j
  · subst e
    rw [if_pos rfl] at hy hw
    split at hy <;> split at hw <;> simp_all
  · rw [if_neg e] at hy hw
    obtain ⟨w', hw', hr⟩ := h.get j y hy
    rw [hw] at hw'; cases hw'; exact hr

theorem VRels.append {g : Gh} : ∀ {xs ys : List AVal} {vs ws : List Value}, VRels g xs vs → VRels g ys ws → VRels g (xs ++ ys) (vs ++ ws)
  | [], _, vs, _, h, h' => by rw [VRels] at h; subst h; exact h'
  | x :: xs, ys, vs, ws, h, h' => by
    rw [VRels] at h
    obtain ⟨v, vs', rfl, h1, h2⟩ := h
    exact ⟨v, vs' ++ ws, rfl, h1, VRels.append h2 h'⟩

theorem VRels.drop {g : Gh} : ∀ (n : Nat) {xs : List AVal} {vs : List Value}, VRels g xs vs → VRels g (xs.drop n) (vs.drop n)
  | 0, _, _, h => h
  | n + 1, [], vs, h => by rw [VRels] at h; subst h; simp [VRels]
  | n + 1, x :: xs, vs, h => by
    rw [VRels] at h
    obtain ⟨v, vs', rfl, h1, h2⟩ := h
    exact VRels.drop n h2

theorem VRels.take {g : Gh} : ∀ (n : Nat) {xs : List AVal} {vs : List Value}, VRels g xs vs → VRels g (xs.take n) (vs.take n)
  | 0, _, _, h => by simp [VRels]
  | n + 1, [], vs, h => by rw [VRels] at h; subst h; simp [VRels]
  | n + 1, x :: xs, vs, h => by
    rw [VRels] at h
    obtain ⟨v, vs', rfl, h1, h2⟩ := h
    exact ⟨v, vs'.take n, rfl, h1, VRels.take n h2⟩

end Go.Aw

/- How an abstract heap stands to the model's world; what a piece of a run may do to both; the frame rule. -/
namespace Go.Aw

abbrev Globs := Nat → Option (List AVal)

def ERels (g : Gh) : List (AVal × AVal) → List MapEntry → Prop
  | [], es => es = []
  | p :: ps, es => ∃ e es', es = e :: es' ∧ VRel g p.1 e.key ∧ VRel g p.2 e.val ∧ ERels g ps es'

theorem ERels.mono {g g' : Gh} (h : GLe g g') : ∀ (ps : List (AVal × AVal)) (es : List MapEntry), ERels g ps es → ERels g' ps es
  | [], _, he => he
  | p :: ps, es, he => by
    obtain ⟨e, es', rfl, h1, h2, h3⟩ := he
    exact ⟨e, es', rfl, h1.mono h _ _, h2.mono h _ _, ERels.mono h ps es' h3⟩

def ORel (g : Gh) (w : World) (cb base : Nat) : AObj → Prop
  | .cells cs => ∃ ccs elem lo hi, w.heap[cb]? = some (.cells ccs elem (lo, hi)) ∧ ccs.size = g.sz cb ∧ (∀ i, i < ccs.size → ¬ (lo ≤ i ∧ i < hi)) ∧
      base + cs.length ≤ ccs.size ∧ ∀ i c, cs[i]? = some c → ∃ v, ccs[base + i]? = some v ∧ VRel g c v
  | .amap es => base = 0 ∧ ∃ ces clock, w.heap[cb]? = some (.map ces clock) ∧ ERels g es ces.toList
  | .siter s pos => base = 0 ∧ w.heap[cb]? = some (.stringIter ⟨s.toArray⟩ pos)

def Owns (g : Gh) (H : AHeap) (cb : Nat) : Prop := ∃ b base, H.get b ≠ none ∧ g.mu b = some (cb, base)

structure WRel (Γ : Globs) (g : Gh) (H : AHeap) (w : World) : Prop where
  own : ∀ b o, H.get b = some o → ∃ cb base, g.mu b = some (cb, base) ∧ ORel g w cb base o
  decl : ∀ b, H.get b ≠ none → g.decl b
  rng : ∀ b cb base, g.decl b → g.mu b = some (cb, base) → cb < w.heap.size
  inj : ∀ b b' cb base base', H.get b ≠ none → H.get b' ≠ none → g.mu b = some (cb, base) → g.mu b' = some (cb, base') → b = b'
  ro : ∀ cb off c, g.rho cb off = some c → ∃ v, w.cell? ⟨cb, off, none⟩ = some v ∧ VRel g c v
  dis : ∀ b cb base off, H.get b ≠ none → g.mu b = some (cb, base) → g.rho cb off = none
  fresh : ∀ b, H.next ≤ b → ¬ g.decl b
  glob : ∀ gi cs, Γ gi = some cs → ∀ i c, cs[i]? = some c → g.rho gi i = some c
  dq : ∀ D, g.dq D → w.heap[D]? = some (.deferred (some []))

/-- What a run leaves as it was beside the heap: the system outside, what was written. -/
structure Io (w w' : World) : Prop where
  os : w'.os = w.os
  out : w'.output = w.output

theorem Io.refl (w : World) : Io w w := ⟨rfl, rfl⟩

theorem Io.trans {w w' w'' : World} (h : Io w w') (h' : Io w' w'') : Io w w'' := ⟨h'.os.trans h.os, h'.out.trans h.out⟩

structure Ext (g : Gh) (H : AHeap) (w : World) (g' : Gh) (H' : AHeap) (w' : World) : Prop where
  le : GLe g g'
  dead : ∀ b, g.decl b → H.get b = none → g'.mu b = g.mu b
  live : ∀ b, g.decl b → H'.get b ≠ none → H.get b ≠ none
  own : ∀ cb, Owns g' H' cb → w.heap.size ≤ cb ∨ Owns g H cb
  roN : ∀ cb off c, g'.rho cb off = some c → g.rho cb off = some c ∨ w.heap.size ≤ cb ∨ Owns g H cb
  grow : w.heap.size ≤ w'.heap.size
  keep : ∀ cb, cb < w.heap.size → ¬ Owns g H cb → w'.heap[cb]? = w.heap[cb]?
  declN : ∀ b, g'.decl b → g.decl b ∨ (H.next ≤ b ∧ b < H'.next)
  next : H.next ≤ H'.next
  io : Io w w'
  dqN : ∀ D, g'.dq D → g.dq D ∨ w.heap.size ≤ D

theorem Ext.refl (g : Gh) (H : AHeap) (w : World) : Ext g H w g H w where
  le := .refl g
  dead _ _ _ := rfl
  live _ _ h := h
  own _ h := .inr h
  roN _ _ _ h := .inl h
  grow := Nat.le_refl _
  keep _ _ _ := rfl
  declN _ h := .inl h
  next := Nat.le_refl _
  io := .refl _
  dqN _ h := .inl h

theorem Ext.trans {g g' g'' : Gh} {H H' H'' : AHeap} {w w' w'' : World} (h : Ext g H w g' H' w') (h' : Ext g' H' w' g'' H'' w'') : Ext g H w g'' H'' w'' where
  le := h.le.trans h'.le
  dead b hd hn := by
    have hn' : H'.get b = none := Classical.byContradiction fun hc => (h.live b hd hc) hn
    rw [h'.dead b (h.le.decl b hd) hn', h.dead b hd hn]
  live b hd hl := h.live b hd (h'.live b (h.le.decl b hd) hl)
  own cb ho := by
    rcases h'.own cb ho with h1 | h1
    · exact .inl (Nat.le_trans h.grow h1)
    · exact h.own cb h1
  roN cb off c hc := by
    rcases h'.roN cb off c hc with h1 | h1 | h1
    · exact h.roN _ _ _ h1
    · exact .inr (.inl (Nat.le_trans h.grow h1))
    · exact .inr (h.own cb h1)
  grow := Nat.le_trans h.grow h'.grow
  keep cb hcb hno := by
    rw [h'.keep cb (Nat.lt_of_lt_of_le hcb h.grow) fun hc => ?_, h.keep cb hcb hno]
    rcases h.own cb hc with h1 | h1
    · omega
    · exact hno h1
  declN b hb := by
    rcases h'.declN b hb with h1 | ⟨h1, h2⟩
    · rcases h.declN b h1 with h3 | ⟨h3, h4⟩
      · exact .inl h3
      · exact .inr ⟨h3, Nat.lt_of_lt_of_le h4 h'.next⟩
    · exact .inr ⟨Nat.le_trans h.next h1, h2⟩
  next := Nat.le_trans h.next h'.next
  io := h.io.trans h'.io
  dqN D hD := by
    rcases h'.dqN D hD with h1 | h1
    · exact h.dqN D h1
    · exact .inr (Nat.le_trans h.grow h1)

theorem ORel.mono {g g' : Gh} {w w' : World} {cb base : Nat} {o : AObj} (h : GLe g g') (hs : g'.sz cb = g.sz cb) (hw : w'.heap[cb]? = w.heap[cb]?) (ho : ORel g w cb base o) : ORel g' w' cb base o := by
  cases o with
  | cells cs =>
    obtain ⟨ccs, elem, lo, hi, h1, h2, h3, h4, h5⟩ := ho
    refine ⟨ccs, elem, lo, hi, hw ▸ h1, by rw [hs]; exact h2, h3, h4, fun i c hc => ?_⟩
    obtain ⟨v, hv, hr⟩ := h5 i c hc
    exact ⟨v, hv, hr.mono h _ _⟩
  | amap es =>
    obtain ⟨hb, ces, clock, h1, h2⟩ := ho
    exact ⟨hb, ces, clock, hw ▸ h1, h2.mono h _ _⟩
  | siter s pos => exact ⟨ho.1, hw ▸ ho.2⟩

theorem World.cell?_congr {w w' : World} {a : Addr} (h : w'.heap[a.block]? = w.heap[a.block]?) : w'.cell? a = w.cell? a := by
  simp [World.cell?, h]

theorem World.frozen?_congr {w w' : World} {a : Addr} (h : w'.heap[a.block]? = w.heap[a.block]?) : w'.frozen? a = w.frozen? a := by
  simp [World.frozen?, h]

theorem WRel.dqLt {Γ : Globs} {g : Gh} {H : AHeap} {w : World} (h : WRel Γ g H w) {D : Nat} (hD : g.dq D) : D < w.heap.size :=
  (Array.getElem?_eq_some_iff.1 (h.dq D hD)).1

theorem WRel.dqNe {Γ : Globs} {g : Gh} {H : AHeap} {w : World} (h : WRel Γ g H w) {b cb base D : Nat} (hb : H.get b ≠ none) (hm : g.mu b = some (cb, base)) (hD : g.dq D) : D ≠ cb := by
  intro e
  subst e
  have hd := h.dq D hD
  cases hg : H.get b with
  | none => exact hb hg
  | some o =>
    obtain ⟨cb', base', h1, h2⟩ := h.own b o hg
    rw [hm] at h1
    cases h1
    cases o with
    | cells cs => obtain ⟨ccs, elem, lo, hi, h3, _⟩ := h2; rw [hd] at h3; cases h3
    | amap es => obtain ⟨_, ces, clock, h3, _⟩ := h2; rw [hd] at h3; cases h3
    | siter s pos => obtain ⟨_, h3⟩ := h2; rw [hd] at h3; cases h3

theorem WRel.cellLt {Γ : Globs} {g : Gh} {H : AHeap} {w : World} (h : WRel Γ g H w) {cb off : Nat} {c : AVal} (hc : g.rho cb off = some c) : cb < w.heap.size := by
  obtain ⟨v, hv, _⟩ := h.ro cb off c hc
  unfold World.cell? at hv
  rcases Nat.lt_or_ge cb w.heap.size with h1 | h1
  · exact h1
  · rw [Array.getElem?_eq_none h1] at hv; cases hv

/-- The world turns only in what none of the heap's blocks and no read-only memory stands on (a draw, too). -/
theorem WRel.same {Γ : Globs} {g : Gh} {H : AHeap} {w w' : World} (h : WRel Γ g H w) (hh : w'.heap = w.heap) (hio : Io w w') : WRel Γ g H w' ∧ Ext g H w g H w' := by
  refine ⟨⟨fun b o hb => ?_, h.decl, by rw [hh]; exact h.rng, h.inj, fun cb off c hc => ?_, h.dis, h.fresh, h.glob, by rw [hh]; exact h.dq⟩, ⟨.refl g, fun _ _ _ => rfl, fun _ _ h => h, fun _ h => .inr h, fun _ _ _ h => .inl h, by rw [hh]; exact Nat.le_refl _, fun _ _ _ => by rw [hh], fun _ h => .inl h, Nat.le_refl _, hio, fun _ h => .inl h⟩⟩
  · obtain ⟨cb, base, h1, h2⟩ := h.own b o hb
    exact ⟨cb, base, h1, h2.mono (.refl g) rfl (by rw [hh])⟩
  · obtain ⟨v, hv, hr⟩ := h.ro cb off c hc
    exact ⟨v, by rw [World.cell?_congr (w := w) (by rw [hh])]; exact hv, hr⟩

/-- One of the heap's blocks is written. -/
theorem WRel.upd {Γ : Globs} {g : Gh} {H : AHeap} {w w' : World} {b cb base : Nat} {o' : AObj} (h : WRel Γ g H w) (hb : H.get b ≠ none) (hm : g.mu b = some (cb, base))
    (hsz : w'.heap.size = w.heap.size) (hsame : ∀ c, c ≠ cb → w'.heap[c]? = w.heap[c]?) (ho : ORel g w' cb base o') (hio : Io w w') :
    WRel Γ g (H.put b o') w' ∧ Ext g H w g (H.put b o') w' := by
  have hlive : ∀ x, (H.put b o').get x ≠ none → H.get x ≠ none := by
    intro x hx
    rw [AHeap.get_put] at hx
    by_cases e : x = b
    · exact e ▸ hb
    · rwa [if_neg e] at hx
  have hown : Owns g H cb := ⟨b, base, hb, hm⟩
  refine ⟨⟨fun x o hx => ?_, fun x hx => h.decl x (hlive x hx), by rw [hsz]; exact h.rng, fun x y c b1 b2 h1 h2 => h.inj x y c b1 b2 (hlive x h1) (hlive y h2), fun c off v hc => ?_, fun x c b1 off hx => h.dis x c b1 off (hlive x hx), h.fresh, h.glob, fun D hD => by rw [hsame D (h.dqNe hb hm hD)]; exact h.dq D hD⟩,
    ⟨.refl g, fun _ _ _ => rfl, fun x _ hx => hlive x hx, fun c ⟨x, b1, hx, hmx⟩ => .inr ⟨x, b1, hlive x hx, hmx⟩, fun _ _ _ h => .inl h, Nat.le_of_eq hsz.symm, fun c _ hno => hsame c fun e => hno (e ▸ hown), fun _ h => .inl h, Nat.le_refl _, hio, fun _ h => .inl h⟩⟩
  · rw [AHeap.get_put] at hx
    by_cases e : x = b
    · subst e; rw [if_pos rfl] at hx; cases hx; exact ⟨cb, base, hm, ho⟩
    · rw [if_neg e] at hx
      obtain ⟨c, b1, h1, h2⟩ := h.own x o hx
      refine ⟨c, b1, h1, h2.mono (.refl g) rfl (hsame c fun ec => e ?_)⟩
      subst ec
      exact h.inj x b c b1 base (by rw [hx]; simp) hb h1 hm
  · obtain ⟨cv, hv, hr⟩ := h.ro c off v hc
    refine ⟨cv, ?_, hr⟩
    rw [World.cell?_congr (w := w)]
    · exact hv
    · refine hsame c fun e => ?_
      rw [e, h.dis b cb base off hb hm] at hc; cases hc

/-- The ghost state behind a new block. -/
def Gh.new (g : Gh) (b cb base n : Nat) : Gh :=
  { mu := fun x => if x = b then some (cb, base) else g.mu x, decl := fun x => g.decl x ∨ x = b, rho := g.rho, sz := fun c => if c = cb then n else g.sz c, dq := g.dq }

theorem WRel.leNew {Γ : Globs} {g : Gh} {H : AHeap} {w : World} (h : WRel Γ g H w) (b n : Nat) (hb : ¬ g.decl b) : GLe g (g.new b w.heap.size 0 n) where
  dq _ h := h
  decl _ hb := .inl hb
  mu x hx := by
    left
    show (if x = b then _ else _) = _
    rw [if_neg]; intro e; exact hb (e ▸ hx)
  rho _ _ _ h := h
  sz x cb base hx hm := by
    show (if _ then _ else _) = _
    rw [if_neg]
    intro e; subst e
    have : (if x = b then some (w.heap.size, 0) else g.mu x) = some (w.heap.size, base) := hm
    have hne : x ≠ b := fun e => hb (e ▸ hx)
    rw [if_neg hne] at this
    have := h.rng x _ _ hx this
    omega

/-- A new block, under a number that none has. -/
theorem WRel.newAt {Γ : Globs} {g : Gh} {H H' : AHeap} {w w' : World} {o : AObj} (n b : Nat) (h : WRel Γ g H w) (hbd : ¬ g.decl b) (hbn : H.next ≤ b) (hbn' : b < H'.next) (hnext : H.next ≤ H'.next)
    (hget : ∀ x, H'.get x = if x = b then some o else H.get x)
    (hsz : w'.heap.size = w.heap.size + 1) (hsame : ∀ c, c < w.heap.size → w'.heap[c]? = w.heap[c]?)
    (ho : ORel (g.new b w.heap.size 0 n) w' w.heap.size 0 o) (hio : Io w w') :
    WRel Γ (g.new b w.heap.size 0 n) H' w' ∧ Ext g H w (g.new b w.heap.size 0 n) H' w' := by
  have hle := h.leNew b n hbd
  have hne : ∀ x, g.decl x → x ≠ b := fun x hx e => hbd (e ▸ hx)
  have hmu : ∀ x, g.decl x → (g.new b w.heap.size 0 n).mu x = g.mu x := fun x hx => if_neg (hne x hx)
  have hgn : ∀ x, x ≠ b → H'.get x = H.get x := fun x hx => by rw [hget, if_neg hx]
  have hlt : ∀ x cb base, H.get x ≠ none → (g.new b w.heap.size 0 n).mu x = some (cb, base) → cb < w.heap.size := by
    intro x cb base hx hm
    have hd := h.decl x hx
    rw [hmu x hd] at hm
    exact h.rng x cb base hd hm
  have hnb : H.get b = none := Classical.byContradiction fun hc => hbd (h.decl b hc)
  refine ⟨⟨fun x ob hx => ?_, fun x hx => ?_, fun x cb base hd hm => ?_, fun x y c b1 b2 hx hy hmx hmy => ?_, fun c off v hc => ?_, fun x c b1 off hx hmx => ?_, fun x hx => ?_, h.glob, fun D hD => by rw [hsame D (h.dqLt hD)]; exact h.dq D hD⟩,
    ⟨hle, fun x hd _ => hmu x hd, fun x hd hx => ?_, fun c ⟨x, b1, hx, hmx⟩ => ?_, fun _ _ _ h => .inl h, by omega, fun c hc _ => hsame c hc, fun x hx => ?_, hnext, hio, fun _ h => .inl h⟩⟩
  · by_cases e : x = b
    · subst e
      rw [hget, if_pos rfl] at hx; cases hx
      exact ⟨w.heap.size, 0, if_pos rfl, ho⟩
    · rw [hgn x e] at hx
      obtain ⟨cb, base, h1, h2⟩ := h.own x ob hx
      have hd := h.decl x (by rw [hx]; simp)
      have hr := h.rng x cb base hd h1
      exact ⟨cb, base, by rw [hmu x hd]; exact h1, h2.mono hle (if_neg (by omega)) (hsame cb hr)⟩
  · by_cases e : x = b
    · exact .inr e
    · rw [hgn x e] at hx; exact .inl (h.decl x hx)
  · rcases hd with hd | hd
    · rw [hmu x hd] at hm
      have := h.rng x cb base hd hm; omega
    · subst hd
      have : (if x = x then some (w.heap.size, 0) else g.mu x) = some (cb, base) := hm
      rw [if_pos rfl] at this; cases this; omega
  · by_cases ex : x = b <;> by_cases ey : y = b
    · exact ex.trans ey.symm
    · rw [hgn y ey] at hy
      have := hlt y c b2 hy hmy
      rw [ex] at hmx
      have h2 : (if b = b then some (w.heap.size, 0) else g.mu b) = some (c, b1) := hmx
      rw [if_pos rfl] at h2; cases h2; omega
    · rw [hgn x ex] at hx
      have := hlt x c b1 hx hmx
      rw [ey] at hmy
      have h2 : (if b = b then some (w.heap.size, 0) else g.mu b) = some (c, b2) := hmy
      rw [if_pos rfl] at h2; cases h2; omega
    · rw [hgn x ex] at hx; rw [hgn y ey] at hy
      rw [hmu x (h.decl x hx)] at hmx; rw [hmu y (h.decl y hy)] at hmy
      exact h.inj x y c b1 b2 hx hy hmx hmy
  · have hlt := h.cellLt hc
    obtain ⟨cv, hv, hr⟩ := h.ro c off v hc
    refine ⟨cv, ?_, hr.mono hle _ _⟩
    rw [World.cell?_congr (w := w) (hsame c hlt)]
    exact hv
  · by_cases e : x = b
    · subst e
      have h2 : (if x = x then some (w.heap.size, 0) else g.mu x) = some (c, b1) := hmx
      rw [if_pos rfl] at h2; cases h2
      cases hh : g.rho w.heap.size off with
      | none => exact hh
      | some v => have := h.cellLt hh; omega
    · rw [hgn x e] at hx
      rw [hmu x (h.decl x hx)] at hmx
      exact h.dis x c b1 off hx hmx
  · rintro (hd | hd)
    · exact h.fresh x (by omega) hd
    · omega
  · rwa [hgn x (hne x hd)] at hx
  · by_cases e : x = b
    · subst e
      have h2 : (if x = x then some (w.heap.size, 0) else g.mu x) = some (c, b1) := hmx
      rw [if_pos rfl] at h2; cases h2
      exact .inl (Nat.le_refl _)
    · rw [hgn x e] at hx
      exact .inr ⟨x, b1, hx, by rw [← hmu x (h.decl x hx)]; exact hmx⟩
  · rcases hx with hx | hx
    · exact .inl hx
    · subst hx; exact .inr ⟨hbn, hbn'⟩

/-- The ghost state behind a row that takes an old one's place. -/
def Gh.steal (g : Gh) (nb b cb base : Nat) : Gh :=
  { g with mu := fun x => if x = nb then some (cb, base) else if x = b then none else g.mu x, decl := fun x => g.decl x ∨ x = nb }

theorem WRel.leSteal {Γ : Globs} {g : Gh} {H : AHeap} {w : World} (h : WRel Γ g H w) (b cb base : Nat) : GLe g (g.steal H.next b cb base) where
  dq _ h := h
  decl _ hb := .inl hb
  mu x hx := by
    have hne : x ≠ H.next := fun e => h.fresh H.next (Nat.le_refl _) (e ▸ hx)
    show (if x = H.next then _ else if x = b then _ else _) = _ ∨ (if x = H.next then _ else if x = b then _ else _) = _
    rw [if_neg hne]
    by_cases e : x = b
    · right; rw [if_pos e]
    · left; rw [if_neg e]
  rho _ _ _ h := h
  sz _ _ _ _ _ := rfl

/-- A row of the heap's is gone, and a new one stands in its place. -/
theorem WRel.stealAt {Γ : Globs} {g : Gh} {H : AHeap} {w w' : World} {b cb base nbase : Nat} {o' : AObj} (h : WRel Γ g H w) (hb : H.get b ≠ none) (hm : g.mu b = some (cb, base))
    (hsz : w'.heap.size = w.heap.size) (hsame : ∀ c, c ≠ cb → w'.heap[c]? = w.heap[c]?) (ho : ORel (g.steal H.next b cb nbase) w' cb nbase o') (hio : Io w w') :
    WRel Γ (g.steal H.next b cb nbase) ((H.del b).new o') w' ∧ Ext g H w (g.steal H.next b cb nbase) ((H.del b).new o') w' := by
  have hle := h.leSteal b cb nbase
  have hfr := h.fresh H.next (Nat.le_refl _)
  have hget : ∀ x, ((H.del b).new o').get x = if x = H.next then some o' else if x = b then none else H.get x := by
    intro x
    rw [AHeap.get_new, AHeap.get_del]; rfl
  have hown : Owns g H cb := ⟨b, base, hb, hm⟩
  have hold : ∀ x, x ≠ H.next → ((H.del b).new o').get x ≠ none → x ≠ b ∧ H.get x ≠ none := by
    intro x hx hg
    rw [hget, if_neg hx] at hg
    by_cases e : x = b
    · rw [if_pos e] at hg; exact absurd rfl hg
    · rw [if_neg e] at hg; exact ⟨e, hg⟩
  have hmu : ∀ x, x ≠ H.next → x ≠ b → (g.steal H.next b cb nbase).mu x = g.mu x := by
    intro x h1 h2
    show (if x = H.next then _ else if x = b then _ else _) = _
    rw [if_neg h1, if_neg h2]
  have hmn : (g.steal H.next b cb nbase).mu H.next = some (cb, nbase) := if_pos rfl
  have hlt := h.rng b cb base (h.decl b hb) hm
  have hother : ∀ x c bx, x ≠ b → H.get x ≠ none → g.mu x = some (c, bx) → c ≠ cb := by
    intro x c bx hx hg hmx e
    subst e
    exact hx (h.inj x b c bx base hg hb hmx hm)
  refine ⟨⟨fun x o hx => ?_, fun x hx => ?_, fun x c bx hd hmx => ?_, fun x y c b1 b2 hx hy hmx hmy => ?_, fun c off v hc => ?_, fun x c b1 off hx hmx => ?_, fun x hx => ?_, h.glob, fun D hD => by rw [hsame D (h.dqNe hb hm hD)]; exact h.dq D hD⟩,
    ⟨hle, fun x hd hn => ?_, fun x hd hx => ?_, fun c ⟨x, b1, hx, hmx⟩ => ?_, fun _ _ _ h => .inl h, Nat.le_of_eq hsz.symm, fun c _ hno => hsame c fun e => hno (e ▸ hown), fun x hx => ?_, Nat.le_succ _, hio, fun _ h => .inl h⟩⟩
  · by_cases e : x = H.next
    · subst e; rw [hget, if_pos rfl] at hx; cases hx
      exact ⟨cb, nbase, hmn, ho⟩
    · obtain ⟨e1, e2⟩ := hold x e (by rw [hx]; simp)
      rw [hget, if_neg e, if_neg e1] at hx
      obtain ⟨c, bx, h1, h2⟩ := h.own x o hx
      exact ⟨c, bx, by rw [hmu x e e1]; exact h1, h2.mono hle rfl (hsame c (hother x c bx e1 e2 h1))⟩
  · by_cases e : x = H.next
    · exact .inr e
    · exact .inl (h.decl x (hold x e hx).2)
  · rw [hsz]
    by_cases e : x = H.next
    · subst e; rw [hmn] at hmx; cases hmx; exact hlt
    · have hd' : g.decl x := by
        rcases hd with hd | hd
        · exact hd
        · exact absurd hd e
      by_cases eb : x = b
      · subst eb
        have : (if x = H.next then some (cb, nbase) else if x = x then none else g.mu x) = some (c, bx) := hmx
        rw [if_neg e, if_pos rfl] at this; cases this
      · rw [hmu x e eb] at hmx
        exact h.rng x c bx hd' hmx
  · by_cases ex : x = H.next <;> by_cases ey : y = H.next
    · exact ex.trans ey.symm
    · obtain ⟨e1, e2⟩ := hold y ey hy
      rw [ex, hmn] at hmx; cases hmx
      rw [hmu y ey e1] at hmy
      exact absurd rfl (hother y _ _ e1 e2 hmy)
    · obtain ⟨e1, e2⟩ := hold x ex hx
      rw [ey, hmn] at hmy; cases hmy
      rw [hmu x ex e1] at hmx
      exact absurd rfl (hother x _ _ e1 e2 hmx)
    · obtain ⟨e1, e2⟩ := hold x ex hx
      obtain ⟨f1, f2⟩ := hold y ey hy
      rw [hmu x ex e1] at hmx; rw [hmu y ey f1] at hmy
      exact h.inj x y c b1 b2 e2 f2 hmx hmy
  · obtain ⟨cv, hv, hr⟩ := h.ro c off v hc
    refine ⟨cv, ?_, hr.mono hle _ _⟩
    rw [World.cell?_congr (w := w)]
    · exact hv
    · refine hsame c fun e => ?_
      have hc' : g.rho c off = some v := hc
      rw [e, h.dis b cb base off hb hm] at hc'; cases hc'
  · by_cases e : x = H.next
    · subst e; rw [hmn] at hmx; cases hmx
      exact h.dis b cb base off hb hm
    · obtain ⟨e1, e2⟩ := hold x e hx
      rw [hmu x e e1] at hmx
      exact h.dis x c b1 off e2 hmx
  · rintro (hd | hd)
    · exact h.fresh x (Nat.le_trans (Nat.le_succ _) hx) hd
    · subst hd; exact absurd hx (Nat.not_succ_le_self _)
  · have e1 : x ≠ H.next := fun e => hfr (e ▸ hd)
    have e2 : x ≠ b := fun e => hb (e ▸ hn)
    exact hmu x e1 e2
  · have e1 : x ≠ H.next := fun e => hfr (e ▸ hd)
    exact (hold x e1 hx).2
  · by_cases e : x = H.next
    · subst e; rw [hmn] at hmx; cases hmx; exact .inr hown
    · obtain ⟨e1, e2⟩ := hold x e hx
      rw [hmu x e e1] at hmx
      exact .inr ⟨x, b1, e2, hmx⟩
  · rcases hx with hx | hx
    · exact .inl hx
    · subst hx; exact .inr ⟨Nat.le_refl _, Nat.lt_succ_self _⟩

/-- Blocks may be forgotten. -/
theorem WRel.sub {Γ : Globs} {g : Gh} {H H' : AHeap} {w : World} (h : WRel Γ g H w) (hs : ∀ b o, H'.get b = some o → H.get b = some o) (hn : H.next ≤ H'.next) : WRel Γ g H' w where
  own b o hb := h.own b o (hs b o hb)
  decl b hb := by
    cases hh : H'.get b with
    | none => exact absurd hh hb
    | some o => exact h.decl b (by rw [hs b o hh]; simp)
  rng := h.rng
  inj b b' cb base base' hb hb' := h.inj b b' cb base base' (by
    cases hh : H'.get b with
    | none => exact absurd hh hb
    | some o => rw [hs b o hh]; simp) (by
    cases hh : H'.get b' with
    | none => exact absurd hh hb'
    | some o => rw [hs b' o hh]; simp)
  ro := h.ro
  dis b cb base off hb := h.dis b cb base off (by
    cases hh : H'.get b with
    | none => exact absurd hh hb
    | some o => rw [hs b o hh]; simp)
  fresh b hb := h.fresh b (by omega)
  glob := h.glob
  dq := h.dq

theorem Ext.sub {g : Gh} {H H' : AHeap} {w : World} (hs : ∀ b o, H'.get b = some o → H.get b = some o) (hn : H.next ≤ H'.next) : Ext g H w g H' w where
  le := .refl g
  dead _ _ _ := rfl
  live b _ hb := by
    cases hh : H'.get b with
    | none => exact absurd hh hb
    | some o => rw [hs b o hh]; simp
  own cb ho := by
    obtain ⟨b, base, hb, hm⟩ := ho
    cases hh : H'.get b with
    | none => exact absurd hh hb
    | some o => exact .inr ⟨b, base, by rw [hs b o hh]; simp, hm⟩
  roN _ _ _ h := .inl h
  grow := Nat.le_refl _
  keep _ _ _ := rfl
  declN _ h := .inl h
  next := hn
  io := .refl _
  dqN _ h := .inl h

/-- THE FRAME RULE: what runs on a part of the heap leaves the rest as it was. -/
theorem WRel.frame {Γ : Globs} {g g' : Gh} {H H1 H1' H' : AHeap} {w w' : World} (h : WRel Γ g H w) (hs : ∀ b o, H1.get b = some o → H.get b = some o) (hn : H1.next = H.next)
    (h' : WRel Γ g' H1' w') (he : Ext g H1 w g' H1' w') (hn' : H'.next = H1'.next)
    (hg : ∀ b, H'.get b = if H1'.get b ≠ none then H1'.get b else if H1.get b = none then H.get b else none) :
    WRel Γ g' H' w' ∧ Ext g H w g' H' w' := by
  classical
  have hsub : ∀ b, H1.get b ≠ none → H.get b ≠ none := by
    intro b hb
    cases hh : H1.get b with
    | none => exact absurd hh hb
    | some o => rw [hs b o hh]; simp
  -- a hidden block
  have hid : ∀ b, H'.get b ≠ none → H1'.get b = none → H1.get b = none ∧ H.get b ≠ none ∧ H'.get b = H.get b := by
    intro b hb h1
    have := hg b
    rw [if_neg (by simp [h1])] at this
    by_cases e : H1.get b = none
    · rw [if_pos e] at this; exact ⟨e, this ▸ hb, this⟩
    · rw [if_neg e] at this; exact absurd this hb
  have hidMu : ∀ b, H1.get b = none → H.get b ≠ none → g'.mu b = g.mu b := fun b h1 h2 => he.dead b (h.decl b h2) h1
  have hidOwn : ∀ b cb base, H1.get b = none → H.get b ≠ none → g.mu b = some (cb, base) → ¬ Owns g H1 cb := by
    rintro b cb base h1 h2 hm ⟨x, bx, hx, hmx⟩
    have := h.inj b x cb base bx h2 (hsub x hx) hm hmx
    subst this; exact hx h1
  have hidKeep : ∀ b cb base, H1.get b = none → H.get b ≠ none → g.mu b = some (cb, base) → w'.heap[cb]? = w.heap[cb]? := by
    intro b cb base h1 h2 hm
    exact he.keep cb (h.rng b cb base (h.decl b h2) hm) (hidOwn b cb base h1 h2 hm)
  have hidNot : ∀ b cb base, H1.get b = none → H.get b ≠ none → g.mu b = some (cb, base) → ∀ x bx, H1'.get x ≠ none → g'.mu x ≠ some (cb, bx) := by
    intro b cb base h1 h2 hm x bx hx hmx
    rcases he.own cb ⟨x, bx, hx, hmx⟩ with ho | ho
    · have := h.rng b cb base (h.decl b h2) hm; omega
    · exact hidOwn b cb base h1 h2 hm ho
  refine ⟨⟨fun b o hb => ?_, fun b hb => ?_, h'.rng, fun x y c b1 b2 hx hy hmx hmy => ?_, h'.ro, fun b cb base off hb hm => ?_, fun b hb => h'.fresh b (by omega), h'.glob, h'.dq⟩,
    ⟨he.le, fun b hd hb => ?_, fun b hd hb => ?_, fun cb ho => ?_, fun cb off c hc => ?_, he.grow, fun cb hcb hno => ?_, fun b hb => ?_, by rw [hn', ← hn]; exact he.next, he.io, he.dqN⟩⟩
  · by_cases e : H1'.get b = none
    · obtain ⟨e1, e2, e3⟩ := hid b (by rw [hb]; simp) e
      rw [e3] at hb
      obtain ⟨cb, base, hm, ho⟩ := h.own b o hb
      refine ⟨cb, base, by rw [hidMu b e1 e2]; exact hm, ho.mono he.le ?_ (hidKeep b cb base e1 e2 hm)⟩
      exact he.le.sz b cb base (h.decl b e2) (by rw [hidMu b e1 e2]; exact hm)
    · rw [hg, if_pos e] at hb
      exact h'.own b o hb
  · by_cases e : H1'.get b = none
    · obtain ⟨e1, e2, e3⟩ := hid b hb e
      exact he.le.decl b (h.decl b e2)
    · exact h'.decl b e
  · by_cases ex : H1'.get x = none <;> by_cases ey : H1'.get y = none
    · obtain ⟨x1, x2, x3⟩ := hid x hx ex
      obtain ⟨y1, y2, y3⟩ := hid y hy ey
      rw [hidMu x x1 x2] at hmx; rw [hidMu y y1 y2] at hmy
      exact h.inj x y c b1 b2 x2 y2 hmx hmy
    · obtain ⟨x1, x2, x3⟩ := hid x hx ex
      rw [hidMu x x1 x2] at hmx
      exact absurd hmy (hidNot x c b1 x1 x2 hmx y b2 ey)
    · obtain ⟨y1, y2, y3⟩ := hid y hy ey
      rw [hidMu y y1 y2] at hmy
      exact absurd hmx (hidNot y c b2 y1 y2 hmy x b1 ex)
    · exact h'.inj x y c b1 b2 ex ey hmx hmy
  · by_cases e : H1'.get b = none
    · obtain ⟨e1, e2, e3⟩ := hid b hb e
      rw [hidMu b e1 e2] at hm
      cases hh : g'.rho cb off with
      | none => rfl
      | some c =>
        rcases he.roN cb off c hh with h1 | h1 | h1
        · rw [h.dis b cb base off e2 hm] at h1; cases h1
        · have := h.rng b cb base (h.decl b e2) hm; omega
        · exact absurd h1 (hidOwn b cb base e1 e2 hm)
    · exact h'.dis b cb base off e hm
  · refine he.dead b hd ?_
    cases hh : H1.get b with
    | none => rfl
    | some o => rw [hs b o hh] at hb; cases hb
  · by_cases e : H1'.get b = none
    · exact (hid b hb e).2.1
    · exact hsub b (he.live b hd e)
  · obtain ⟨b, base, hb, hm⟩ := ho
    by_cases e : H1'.get b = none
    · obtain ⟨e1, e2, e3⟩ := hid b hb e
      rw [hidMu b e1 e2] at hm
      exact .inr ⟨b, base, e2, hm⟩
    · rcases he.own cb ⟨b, base, e, hm⟩ with h1 | ⟨x, bx, hx, hmx⟩
      · exact .inl h1
      · exact .inr ⟨x, bx, hsub x hx, hmx⟩
  · rcases he.roN cb off c hc with h1 | h1 | ⟨x, bx, hx, hmx⟩
    · exact .inl h1
    · exact .inr (.inl h1)
    · exact .inr (.inr ⟨x, bx, hsub x hx, hmx⟩)
  · exact he.keep cb hcb fun ⟨x, bx, hx, hmx⟩ => hno ⟨x, bx, hsub x hx, hmx⟩
  · rw [hn', ← hn]; exact he.declN b hb

end Go.Aw

/- The operations of the program with their types resolved, and what each does to the abstract frame and heap. -/
namespace Go.Aw

inductive AArg where
  | t (n : Nat)
  | c (v : AVal)
  | g (n : Nat)
  | f (n : Nat)
  deriving Inhabited

def lget : List AVal → Nat → AVal
  | [], _ => .tup []
  | x :: _, 0 => x
  | _ :: xs, n + 1 => lget xs n

def AArg.ev (Γ : Globs) (t : List AVal) : AArg → AVal
  | .t n => lget t n
  | .c v => v
  | .g n => .rptr ((Γ n).getD [])
  | .f n => .fn n []

def acells : AVal → List AVal
  | .agg cs => cs
  | v => [v]

/-- A value of one cell. -/
def ascal : AVal → Bool
  | .agg _ | .tup _ => false
  | _ => true

def lall (p : AVal → Bool) : List AVal → Bool
  | [] => true
  | x :: xs => bif p x then lall p xs else false

/-- What two values are compared as. -/
inductive EK where
  | n | b | p | s | i | f
  | st (n : Nat)
  deriving DecidableEq, Inhabited

def eqInts : List AVal → List AVal → Option Bool
  | [], [] => some true
  | .int k a :: xs, .int k' b :: ys => if k = k' then bif a == b then eqInts xs ys else some false else none
  | _, _ => none

def aeq : EK → AVal → AVal → Option Bool
  | .b, .bool a, .bool b => some (a == b)
  | .p, .nilp, .nilp => some true
  | .p, .nilp, .ptr _ _ => some false
  | .p, .ptr _ _, .nilp => some false
  | .p, .nilp, .rptr _ => some false
  | .p, .rptr _, .nilp => some false
  | .s, .nils, .nils => some true
  | .s, .nils, .sl .. => some false
  | .s, .sl .., .nils => some false
  | .s, .rs _ _ (_ + 1), .nils => some false
  | .i, .nili, .nili => some true
  | .i, .nili, .iface _ _ => some false
  | .i, .iface _ _, .nili => some false
  | .f, .nilf, .nilf => some true
  | .f, .nilf, .fn _ _ => some false
  | .f, .fn _ _, .nilf => some false
  | .st n, .agg xs, .agg ys => bif Nat.beq xs.length n then eqInts xs ys else none
  | _, _, _ => none

def ibin (op : BinOp) (k : IntKind) (a b : Int) : Option AVal :=
  match op with
  | .add => some (.int k (k.wrap (a + b)))
  | .sub => some (.int k (k.wrap (a - b)))
  | .mul => some (.int k (k.wrap (a * b)))
  | .quo => bif b == 0 then none else some (.int k (k.wrap (a.tdiv b)))
  | .rem => bif b == 0 then none else some (.int k (a.tmod b))
  | .and => some (.int k (k.wrap (BitVec.ofInt k.bits a &&& BitVec.ofInt k.bits b).toNat))
  | .or => some (.int k (k.wrap (BitVec.ofInt k.bits a ||| BitVec.ofInt k.bits b).toNat))
  | .xor => some (.int k (k.wrap (BitVec.ofInt k.bits a ^^^ BitVec.ofInt k.bits b).toNat))
  | .andNot => some (.int k (k.wrap (BitVec.ofInt k.bits a &&& ~~~ BitVec.ofInt k.bits b).toNat))
  | .eql => some (.bool (a == b))
  | .neq => some (.bool (a != b))
  | .lss => some (.bool (decide (a < b)))
  | .leq => some (.bool (decide (a ≤ b)))
  | .gtr => some (.bool (decide (a > b)))
  | .geq => some (.bool (decide (a ≥ b)))
  | _ => none

def ishift (op : BinOp) (k : IntKind) (a b : Int) : Option AVal :=
  if b < 0 then none else
  match op with
  | .shl => some (.int k (k.wrap (a * 2 ^ (min b.toNat k.bits))))
  | .shr => some (.int k (a.fdiv (2 ^ (min b.toNat k.bits))))
  | _ => none

def sbin (op : BinOp) (a b : List UInt8) : Option AVal :=
  match op with
  | .add => bif Nat.ble (a.length + b.length) 1073741824 then some (.str (a ++ b)) else none
  | .eql => some (.bool (a == b))
  | .neq => some (.bool (!(a == b)))
  | .lss => some (.bool (Op.bytesLess a b))
  | .leq => some (.bool (Op.bytesLess a b || a == b))
  | .gtr => some (.bool (!(Op.bytesLess a b || a == b)))
  | .geq => some (.bool (!Op.bytesLess a b))
  | _ => none

def isShift : BinOp → Bool
  | .shl | .shr => true
  | _ => false

def abin (op : BinOp) (ek : EK) (x y : AVal) : Option AVal :=
  match x, y with
  | .int k a, .int k' b => bif isShift op then ishift op k a b else if k = k' then ibin op k a b else none
  | .str a, .str b => sbin op a b
  | x, y =>
    match op with
    | .eql => (aeq ek x y).map .bool
    | .neq => (aeq ek x y).map fun r => .bool (!r)
    | _ => none

/-- Cells put into a row of cells, from a place on. -/
def spliceHere : List AVal → List AVal → List AVal
  | cs, [] => cs
  | [], _ => []
  | _ :: cs, v :: vs => v :: spliceHere cs vs

def splice : List AVal → Nat → List AVal → List AVal
  | cs, 0, vs => spliceHere cs vs
  | [], _ + 1, _ => []
  | c :: cs, k + 1, vs => c :: splice cs k vs

def afill (Γ : Globs) (t : List AVal) : List AVal → List (Nat × Nat × AArg) → Option (List AVal)
  | cs, [] => some cs
  | cs, (off, n, x) :: ps =>
    let v := acells (x.ev Γ t)
    bif Nat.beq v.length n && Nat.ble (off + n) cs.length then afill Γ t (splice cs off v) ps else none

def lcut (cs : List AVal) (off n : Nat) : Option (List AVal) :=
  bif Nat.ble (off + n) cs.length then some ((cs.drop off).take n) else none

/-- The first n cells behind an address, or of a slice. -/
def rdc (H : AHeap) (x : AVal) (n : Nat) : Option (List AVal) :=
  bif Nat.beq n 0 then
    match x with
    | .ptr .. | .rptr _ | .sl .. | .rs .. | .nils => some []
    | _ => none
  else match x with
  | .ptr b off => match H.get b with
    | some (.cells cs) => lcut cs off n
    | _ => none
  | .rptr cs => lcut cs 0 n
  | .sl b off es _ cap _ => bif Nat.ble n (cap * es) then match H.get b with
      | some (.cells cs) => lcut cs off n
      | _ => none
    else none
  | .rs cs es len => bif Nat.ble n (len * es) then lcut cs 0 n else none
  | _ => none

/-- Cells are stored, from so many behind an address on. -/
def wrc (H : AHeap) (x : AVal) (k : Nat) (vs : List AVal) : Option AHeap :=
  bif lall ascal vs then
    match vs with
    | [] => some H
    | vs => match x with
      | .ptr b off => match H.get b with
        | some (.cells cs) => bif Nat.ble (off + k + vs.length) cs.length then some (H.put b (.cells (splice cs (off + k) vs))) else none
        | _ => none
      | .sl b off es _ cap _ => bif Nat.ble (k + vs.length) (cap * es) then match H.get b with
          | some (.cells cs) => bif Nat.ble (off + k + vs.length) cs.length then some (H.put b (.cells (splice cs (off + k) vs))) else none
          | _ => none
        else none
      | _ => none
  else none

def slLen : AVal → Option Nat
  | .nils => some 0
  | .sl _ _ _ len _ _ => some len
  | .rs _ _ len => some len
  | _ => none

def bytesOf : List UInt8 → List AVal
  | [] => []
  | b :: bs => .int .u8 b.toNat :: bytesOf bs

def ofBytes : List AVal → Option (List UInt8)
  | [] => some []
  | .int .u8 n :: cs => (ofBytes cs).map (UInt8.ofNat n.toNat :: ·)
  | _ => none

def limit : Nat := 16777216

/-- Append: cells behind those of a slice. -/
def aapp (H : AHeap) (es : Nat) (x : AVal) (n : Nat) (new : List AVal) : Option (AVal × AHeap) :=
  bif Nat.beq n 0 then
    match x with
    | .nils | .sl .. | .rs .. => some (x, H)
    | _ => none
  else match x with
  | .nils => bif Nat.ble n limit then some (.sl H.next 0 es n n false, H.new (.cells new)) else none
  | .sl b off es' len cap ex =>
    bif Nat.beq es es' && Nat.ble (len + n) limit && lall ascal new then
      bif Nat.ble (len + n) cap then (wrc H x (len * es) new).map fun H' => (.sl b off es (len + n) cap ex, H')
      else (rdc H x (len * es)).bind fun old =>
        bif ex then some (.sl H.next 0 es (len + n) (len + n) false, H.new (.cells (old ++ new)))
        else match H.get b with
          | some (.cells _) => some (.sl H.next 0 es (len + n) (len + n) false, (H.del b).new (.cells (old ++ new)))
          | _ => none
    else none
  | _ => none

def asInt64 : AVal → Option Int
  | .int _ n => some n
  | _ => none

/-- The bounds of a cut: none, or numbers that are in order. -/
def abHi (hi : Option AVal) (len cap : Nat) : Option Nat :=
  match hi with
  | none => some len
  | some v => (asInt64 v).bind fun h => if 0 ≤ h ∧ h ≤ cap then some h.toNat else none

def abLo (lo : Option AVal) (h : Nat) : Option Nat :=
  match lo with
  | none => some 0
  | some v => (asInt64 v).bind fun l => if 0 ≤ l ∧ l ≤ h then some l.toNat else none

def abounds (lo hi : Option AVal) (len cap : Nat) : Option (Nat × Nat) :=
  (abHi hi len cap).bind fun h => (abLo lo h).map fun l => (l, h)

def aslice (x : AVal) (lo hi : Option AVal) : Option AVal :=
  match x with
  | .nils => (abounds lo hi 0 0).map fun _ => .nils
  | .sl b off es len cap ex => (abounds lo hi len cap).map fun (l, h) => .sl b (off + l * es) es (h - l) (cap - l) ex
  | .rs cs es len => (abounds lo hi len len).map fun (l, h) => .rs ((cs.drop (l * es)).take ((h - l) * es)) es (h - l)
  | .str s => (abounds lo hi s.length s.length).map fun (l, h) => .str ((s.drop l).take (h - l))
  | _ => none

/-- A slice whose elements have so many cells. -/
def slEs (n : Nat) : AVal → Bool
  | .nils => true
  | .sl _ _ es _ _ _ => Nat.beq n es
  | .rs _ es _ => Nat.beq n es
  | _ => false

def isStr : AVal → Bool
  | .str _ => true
  | _ => false

/-- A key has the shape of its type: a whole number, or so many of them. -/
def kShape : Option Nat → AVal → Bool
  | none, .int _ _ => true
  | some n, .agg xs => Nat.beq xs.length n
  | _, _ => false

def keq : AVal → AVal → Option Bool
  | .int k a, .int k' b => if k = k' then some (a == b) else none
  | .agg xs, .agg ys => eqInts xs ys
  | _, _ => none

def afind (k : AVal) : List (AVal × AVal) → Option (Option AVal)
  | [] => some none
  | (k', v) :: es => match keq k k' with
    | some true => some (some v)
    | some false => afind k es
    | none => none

def amFind (H : AHeap) (m k : AVal) : Option (Option AVal) :=
  match m with
  | .nilm => some none
  | .map b => match H.get b with
    | some (.amap es) => afind k es
    | _ => none
  | _ => none

def aput (k v : AVal) : List (AVal × AVal) → Option (List (AVal × AVal))
  | [] => some [(k, v)]
  | (k', v') :: es => match keq k k' with
    | some true => some ((k, v) :: es)
    | some false => (aput k v es).map ((k', v') :: ·)
    | none => none

def lrep (zs : List AVal) : Nat → List AVal
  | 0 => []
  | n + 1 => zs ++ lrep zs n

inductive AOp where
  | mv (x : AArg)
  | pick (c a b : AArg)
  | box (x : AArg)
  | alloc (zs : List AVal)
  | build (zs : List AVal) (ps : List (Nat × Nat × AArg))
  | bslice (es n : Nat) (zs : List AVal) (ps : List (Nat × Nat × AArg))
  | ld (x : AArg)
  | ldn (n : Nat) (x : AArg)
  | st (n : Nat) (x v : AArg)
  | nilchk (x : AArg)
  | bin (op : BinOp) (ek : EK) (x y : AArg)
  | neg (x : AArg)
  | not (x : AArg)
  | cvi (k : IntKind) (x : AArg)
  | cvis (x : AArg)
  | cvbs (x : AArg)
  | cvsb (x : AArg)
  | mkif (t : Nat) (x : AArg)
  | mkfn (f : Nat) (caps : List AArg)
  | mkmap
  | mksl (es : Nat) (zs : List AVal) (l c : AArg)
  | slc (es : Nat) (x : AArg) (lo hi : Option AArg)
  | slcs (x : AArg) (lo hi : Option AArg)
  | fad (off : Nat) (x : AArg)
  | iad (es : Nat) (x i : AArg)
  | iada (es n : Nat) (x i : AArg)
  | fld (off : Nat) (size : Option Nat) (x : AArg)
  | idxs (x i : AArg)
  | idxa (n es : Nat) (agg : Bool) (x i : AArg)
  | lkp (kn : Option Nat) (z : AVal) (ok : Bool) (m k : AArg)
  | mput (kn : Option Nat) (m k v : AArg)
  | rng (x : AArg)
  | nxt (x : AArg)
  | ext (x : AArg) (i : Nat)
  | lens (x : AArg)
  | lensl (x : AArg)
  | app (es : Nat) (x y : AArg)
  | apps (x y : AArg)
  | cpy (es : Nat) (x y : AArg)
  | clr (zs : List AVal) (x : AArg)
  | mn (xs : List AArg)
  | mx (xs : List AArg)
  | tas (t : Nat) (z : AVal) (x : AArg)
  | call (f : Nat) (xs : List AArg)
  | callv (x : AArg) (xs : List AArg)
  | pan (x : AArg)
  | dfr (x : AArg)
  | rcv
  | bad
  deriving Inhabited

def i64v (n : Nat) : AVal := .int .i64 n

def minInts (k : IntKind) (a : Int) : List AVal → Option AVal
  | [] => some (.int k a)
  | .int _ b :: xs => minInts k (if b < a then b else a) xs
  | _ => none

def maxInts (k : IntKind) (a : Int) : List AVal → Option AVal
  | [] => some (.int k a)
  | .int _ b :: xs => maxInts k (if a < b then b else a) xs
  | _ => none

def asn (x : Option AVal) (H : AHeap) : Option (AVal × AHeap) := x.map fun v => (v, H)

/-- What an operation that calls nothing comes to. -/
def astep (Γ : Globs) (t : List AVal) (H : AHeap) : AOp → Option (AVal × AHeap)
  | .mv x => some (x.ev Γ t, H)
  | .pick c a b => match c.ev Γ t with
    | .bool true => some (a.ev Γ t, H)
    | .bool false => some (b.ev Γ t, H)
    | _ => none
  | .box x => some (.ptr H.next 0, H.new (.cells (acells (x.ev Γ t))))
  | .alloc zs => some (.ptr H.next 0, H.new (.cells zs))
  | .build zs ps => (afill Γ t zs ps).map fun cs => (.agg cs, H)
  | .bslice es n zs ps => (afill Γ t zs ps).map fun cs => (.sl H.next 0 es n n true, H.new (.cells cs))
  | .ld x => match x.ev Γ t with
    | .ptr b off => (rdc H (.ptr b off) 1).bind fun cs => match cs with
      | [v] => some (v, H)
      | _ => none
    | .rptr cs => (rdc H (.rptr cs) 1).bind fun cs => match cs with
      | [v] => some (v, H)
      | _ => none
    | _ => none
  | .ldn n x => match x.ev Γ t with
    | .ptr b off => (rdc H (.ptr b off) n).map fun cs => (.agg cs, H)
    | .rptr cs => (rdc H (.rptr cs) n).map fun cs => (.agg cs, H)
    | _ => none
  | .st n x v => match x.ev Γ t with
    | .ptr b off => let vs := acells (v.ev Γ t); bif Nat.beq vs.length n then (wrc H (.ptr b off) 0 vs).map fun H' => (.tup [], H') else none
    | _ => none
  | .nilchk x => match x.ev Γ t with
    | .ptr b off => some (.ptr b off, H)
    | .rptr cs => some (.rptr cs, H)
    | _ => none
  | .bin op ek x y => asn (abin op ek (x.ev Γ t) (y.ev Γ t)) H
  | .neg x => match x.ev Γ t with
    | .int k n => some (.int k (k.wrap (0 - n)), H)
    | _ => none
  | .not x => match x.ev Γ t with
    | .bool b => some (.bool (!b), H)
    | _ => none
  | .cvi k x => match x.ev Γ t with
    | .int _ n => some (.int k (k.wrap n), H)
    | _ => none
  | .cvis x => match x.ev Γ t with
    | .int _ n => some (.str (Utf8.encode n).data.toList, H)
    | _ => none
  | .cvbs x => match x.ev Γ t with
    | .nils => some (.str [], H)
    | v => (slLen v).bind fun n => (rdc H v n).bind fun cs => (ofBytes cs).map fun s => (.str s, H)
  | .cvsb x => match x.ev Γ t with
    | .str s => bif Nat.ble s.length limit then some (.sl H.next 0 1 s.length s.length false, H.new (.cells (bytesOf s))) else none
    | _ => none
  | .mkif n x => some (.iface n (x.ev Γ t), H)
  | .mkfn f caps => some (.fn f (caps.map (·.ev Γ t)), H)
  | .mkmap => some (.map H.next, H.new (.amap []))
  | .mksl es zs l c => match l.ev Γ t, c.ev Γ t with
    | .int _ l, .int _ c => if 0 ≤ l ∧ l ≤ c ∧ c ≤ limit then some (.sl H.next 0 es l.toNat c.toNat true, H.new (.cells (lrep zs c.toNat))) else none
    | _, _ => none
  | .slc es x lo hi => bif slEs es (x.ev Γ t) then asn (aslice (x.ev Γ t) (lo.map (fun a => a.ev Γ t)) (hi.map (fun a => a.ev Γ t))) H else none
  | .slcs x lo hi => bif isStr (x.ev Γ t) then asn (aslice (x.ev Γ t) (lo.map (fun a => a.ev Γ t)) (hi.map (fun a => a.ev Γ t))) H else none
  | .fad off x => match x.ev Γ t with
    | .ptr b o => some (.ptr b (o + off), H)
    | .rptr cs => some (.rptr (cs.drop off), H)
    | _ => none
  | .iad es x i => match x.ev Γ t, i.ev Γ t with
    | .sl b off es' len _ _, .int _ i => if 0 ≤ i ∧ i < len ∧ es = es' then some (.ptr b (off + i.toNat * es), H) else none
    | .rs cs es' len, .int _ i => if 0 ≤ i ∧ i < len ∧ es = es' then some (.rptr (cs.drop (i.toNat * es)), H) else none
    | _, _ => none
  | .iada es n x i => match x.ev Γ t, i.ev Γ t with
    | .ptr b off, .int _ i => if 0 ≤ i ∧ i < n then some (.ptr b (off + i.toNat * es), H) else none
    | .rptr cs, .int _ i => if 0 ≤ i ∧ i < n then some (.rptr (cs.drop (i.toNat * es)), H) else none
    | _, _ => none
  | .fld off size x => match x.ev Γ t, size with
    | .agg cs, some n => (lcut cs off n).map fun vs => (.agg vs, H)
    | .agg cs, none => (lcut cs off 1).bind fun vs => match vs with
      | [v] => some (v, H)
      | _ => none
    | _, _ => none
  | .idxs x i => match x.ev Γ t, i.ev Γ t with
    | .str s, .int _ i => if 0 ≤ i then (s[i.toNat]?).map fun b => (.int .u8 b.toNat, H) else none
    | _, _ => none
  | .idxa n es agg x i => match x.ev Γ t, i.ev Γ t with
    | .agg cs, .int _ i => if 0 ≤ i ∧ i < n then (lcut cs (i.toNat * es) es).bind fun vs => match agg, vs with
        | true, vs => some (.agg vs, H)
        | false, [v] => some (v, H)
        | _, _ => none
      else none
    | _, _ => none
  | .lkp kn z ok m k =>
    bif kShape kn (k.ev Γ t) then (amFind H (m.ev Γ t) (k.ev Γ t)).map fun (r : Option AVal) => (bif ok then .tup [r.getD z, .bool r.isSome] else r.getD z, H) else none
  | .mput kn m k v => bif kShape kn (k.ev Γ t) then match m.ev Γ t with
      | .map b => match H.get b with
        | some (.amap es) => (aput (k.ev Γ t) (v.ev Γ t) es).map fun es' => (.tup [], H.put b (.amap es'))
        | _ => none
      | _ => none
    else none
  | .rng x => match x.ev Γ t with
    | .str s => some (.ptr H.next 0, H.new (.siter s 0))
    | _ => none
  | .nxt x => match x.ev Γ t with
    | .ptr b 0 => match H.get b with
      | some (.siter s pos) =>
        bif Nat.blt pos s.length then
          let r := Utf8.decode ⟨s.toArray⟩ pos
          some (.tup [.bool true, i64v pos, .int .i32 r.1], H.put b (.siter s (pos + r.2)))
        else some (.tup [.bool false], H)
      | _ => none
    | _ => none
  | .ext x i => match x.ev Γ t with
    | .tup vs => (vs[i]?).map fun v => (v, H)
    | _ => none
  | .lens x => match x.ev Γ t with
    | .str s => some (i64v s.length, H)
    | _ => none
  | .lensl x => (slLen (x.ev Γ t)).map fun n => (i64v n, H)
  | .app es x y => (slLen (y.ev Γ t)).bind fun n => (rdc H (y.ev Γ t) (n * es)).bind fun new => aapp H es (x.ev Γ t) n new
  | .apps x y => match y.ev Γ t with
    | .str s => aapp H 1 (x.ev Γ t) s.length (bytesOf s)
    | _ => none
  | .cpy es x y => (slLen (x.ev Γ t)).bind fun dn => (slLen (y.ev Γ t)).bind fun sn =>
      (rdc H (y.ev Γ t) (min sn dn * es)).bind fun vs => (wrc H (x.ev Γ t) 0 vs).map fun H' => (i64v (min sn dn), H')
  | .clr zs x => (slLen (x.ev Γ t)).bind fun n => bif Nat.beq n 0 then some (.tup [], H) else (wrc H (x.ev Γ t) 0 (lrep zs n)).map fun H' => (.tup [], H')
  | .mn xs => match (xs.map (fun x => x.ev Γ t) : List AVal) with
    | .int k a :: vs => asn (minInts k a vs) H
    | _ => none
  | .mx xs => match (xs.map (fun x => x.ev Γ t) : List AVal) with
    | .int k a :: vs => asn (maxInts k a vs) H
    | _ => none
  | .tas n z x => match x.ev Γ t with
    | .iface m v => bif Nat.beq m n then some (.tup [v, .bool true], H) else some (.tup [z, .bool false], H)
    | .nili => some (.tup [z, .bool false], H)
    | _ => none
  | _ => none

end Go.Aw
