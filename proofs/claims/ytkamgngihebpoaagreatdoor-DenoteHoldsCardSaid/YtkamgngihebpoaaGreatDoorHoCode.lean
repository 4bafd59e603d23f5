import Derived.Test.YtkamgngihebpoaaGreatDoorHoSoundI
import Derived.Orders
/- The program's code with its types resolved; what must hold ahead of it so that something holds behind it; and that this is so in the model. -/
set_option linter.all false
noncomputable section
namespace Go.Aw

structure AOper where
  dst : Option Nat
  op : AOp
  guard : Option (Nat × Bool)
  deriving Inhabited

structure Fr where
  t : List AVal
  d : List AVal
  deriving Inhabited

inductive AExit where
  | normal
  | exit (n : Nat)
  | goto (n : Nat)
  | ret
  | panic (v : AVal)

inductive AEnd where
  | ret (v : AVal)
  | pan (v : AVal)

def Fr.put (fr : Fr) (dst : Option Nat) (v : AVal) : Fr :=
  match dst with
  | some d => { fr with t := fr.t.set d v }
  | none => fr

/-- Is an operation wanted? (none: it can't be told) -/
def gd (t : List AVal) : Option (Nat × Bool) → Option Bool
  | none => some true
  | some (s, want) => match lget t s with
    | .bool b => some (b == want)
    | .tup _ => some false
    | _ => none

def DRel (g : Gh) : List AVal → List Deferred → Prop
  | [], ds => ds = []
  | d :: ds, cs => (∃ f cap vs cs', d = .fn f cap ∧ cs = { target := .fn (.func f) vs, args := #[] } :: cs' ∧ VRels g cap vs.toList ∧ DRel g ds cs') ∨
      ∃ D cs', d = .nilm ∧ cs = { target := .collected D, args := #[] } :: cs' ∧ g.dq D ∧ DRel g ds cs'

theorem DRel.mono {g g' : Gh} (h : GLe g g') : ∀ (ds : List AVal) (cs : List Deferred), DRel g ds cs → DRel g' ds cs
  | [], _, hd => hd
  | d :: ds, cs, hd => by
    rcases hd with ⟨f, cap, vs, cs', h1, h2, h3, h4⟩ | ⟨D, cs', h1, h2, h3, h4⟩
    · exact .inl ⟨f, cap, vs, cs', h1, h2, h3.mono h _ _, DRel.mono h ds cs' h4⟩
    · exact .inr ⟨D, cs', h1, h2, h.dq D h3, DRel.mono h ds cs' h4⟩

structure FRel (g : Gh) (fr : Fr) (a : Act) : Prop where
  t : VRels g fr.t a.tmps.toList
  d : DRel g fr.d a.defers

theorem FRel.mono {g g' : Gh} (h : GLe g g') {fr : Fr} {a : Act} (hf : FRel g fr a) : FRel g' fr a :=
  ⟨hf.t.mono h _ _, hf.d.mono h _ _⟩

theorem FRel.put {g : Gh} {fr : Fr} {a : Act} (hf : FRel g fr a) (dst : Option Nat) {v : AVal} {cv : Value} (hv : VRel g v cv) : FRel g (fr.put dst v) (a.put dst cv) := by
  cases dst with
  | none => exact hf
  | some d => exact ⟨by simp only [Fr.put, Act.put, Array.toList_setIfInBounds]; exact hf.t.set d hv, hf.d⟩

/-- How an exit of the model's stands to one of ours. -/
def XRel (g : Gh) : AExit → Exit → Prop
  | .normal, e => e = .normal
  | .exit n, e => e = .exit n
  | .goto n, e => e = .goto n
  | .ret, e => e = .ret
  | .panic v, e => ∃ cv, e = .panic [{ v := cv, recovered := false }] ∧ VRel g v cv

def EndRel (g : Gh) : AEnd → Ending → Prop
  | .ret v, e => ∃ cv, e = .returned cv ∧ VRel g v cv
  | .pan v, e => ∃ cv, e = .panicked [{ v := cv, recovered := false }] ∧ VRel g v cv

/-- A function of the program that has a body of Go. -/
def FnOk (P : Program) (f : Nat) : Prop := ∃ fn, P.funcs[f]? = some fn ∧ (fn.name == "runtime.NumGoroutine") = false ∧ fn.body.isNone = false

/-- THE CONTRACT OF A FUNCTION, told of abstract values: it ends, as R tells. -/
def ACalls (Γ : Globs) (P : Program) (f : Nat) (args : List AVal) (H : AHeap) (R : AEnd → AHeap → Prop) : Prop :=
  FnOk P f ∧ ∀ g w (vs : Array Value), WRel Γ g H w → VRels g args vs.toList →
    Calls P f vs w fun e w' => ∃ ae g' H', EndRel g' ae e ∧ WRel Γ g' H' w' ∧ Ext g H w g' H' w' ∧ R ae H'

theorem ACalls.mono {Γ : Globs} {P : Program} {f : Nat} {args : List AVal} {H : AHeap} {R R' : AEnd → AHeap → Prop} (h : ACalls Γ P f args H R) (hr : ∀ e H', R e H' → R' e H') : ACalls Γ P f args H R' :=
  ⟨h.1, fun g w vs hw hv => (h.2 g w vs hw hv).mono fun _ _ ⟨ae, g', H', h1, h2, h3, h4⟩ => ⟨ae, g', H', h1, h2, h3, hr _ _ h4⟩⟩

/-- A comparison with nil whose answer is left open: of a slice that is read only, of no elements. -/
def openNil (op : BinOp) (ek : EK) (x y : AVal) : Bool :=
  match op, ek, x, y with
  | .eql, .s, .rs _ _ 0, .nils => true
  | .neq, .s, .rs _ _ 0, .nils => true
  | _, _, _, _ => false

/-- What must hold ahead of an operation. -/
def awOp (Γ : Globs) (P : Program) (op : AOp) (K : AVal → AHeap → Prop) (X : AVal → AHeap → Prop) (t : List AVal) (H : AHeap) : Prop :=
  match op with
  | .call f xs => ∃ R, ACalls Γ P f (xs.map fun x => x.ev Γ t) H R ∧ ∀ e H', R e H' → match e with
    | .ret v => K v H'
    | .pan v => X v H'
  | .callv x xs => match x.ev Γ t with
    | .fn f cap => ∃ R, ACalls Γ P f ((xs.map fun x => x.ev Γ t) ++ cap) H R ∧ ∀ e H', R e H' → match e with
      | .ret v => K v H'
      | .pan v => X v H'
    | _ => False
  | .pan x => match x.ev Γ t with
    | .iface n v => X (.iface n v) H
    | _ => False
  | .bin op ek x y => bif openNil op ek (x.ev Γ t) (y.ev Γ t) then ∀ b, K (.bool b) H else match astep Γ t H (.bin op ek x y) with
    | some r => K r.1 r.2
    | none => False
  | op => match astep Γ t H op with
    | some r => K r.1 r.2
    | none => False

def mop2 (T : TTab) : Op → AOp → Bool
  | _, .bad => true
  | .panic x, .pan y => marg x y
  | .defer c, .dfr y => match c.callee with
    | .value x => marg x y && c.args.isEmpty
    | _ => false
  | o, ao => mop T o ao

section
variable {Γ : Globs} {P : Program} {T : TTab} {g : Gh} {H : AHeap} {w : World} {t : List AVal} {a : Act}

theorem run_callFunc {f : Nat} (h : FnOk P f) (args : Array Value) : (callFunc f args).run P w = .ok (.enter f args) w := by
  obtain ⟨fn, h1, h2, h3⟩ := h
  simp only [callFunc, Sem.run_bind, run_program, Result.andThen_ok, h1, h2, h3, Bool.false_eq_true, if_false, Sem.run_pure]

/-- An operation in the model, ahead of whatever follows it. -/
theorem awOp_sound (hT : TOk P T) {K : AVal → AHeap → Prop} {X : AVal → AHeap → Prop} {op : AOp} {o : Oper} (h : awOp Γ P op K X t H) (hm : mop2 T o.op op = true) (hnd : ∀ x, op ≠ .dfr x)
    (hw : WRel Γ g H w) (hf : VRels g t a.tmps.toList) {next : Act → World → Prop} {Q : Exit → Act → World → Prop}
    (hK : ∀ v H' g' w' cv, K v H' → VRel g' v cv → WRel Γ g' H' w' → Ext g H w g' H' w' → next (a.put o.dst cv) w')
    (hX : ∀ v H' g' w' cv, X v H' → VRel g' v cv → WRel Γ g' H' w' → Ext g H w g' H' w' → Q (.panic [{ v := cv, recovered := false }]) a w') :
    o.wp P a w next Q := by
  have good : ∀ v H', Good Γ P o a g H w v H' → K v H' → o.wp P a w next Q := by
    rintro v H' ⟨cv, w', g', hr, hv, hw', he⟩ hk
    unfold Oper.wp
    rcases hr with hr | ⟨hr, hu⟩
    · rw [hr, Oper.upon_value]; exact hK v H' g' w' cv hk hv hw' he
    · rw [hr, Oper.upon_skip, ← hu]; exact hK v H' g' w' cv hk hv hw' he
  have calls : ∀ f (args : List AVal) (vs : Array Value) R, VRels g args vs.toList → ACalls Γ P f args H R → (∀ e H', R e H' → match e with | .ret v => K v H' | .pan v => X v H') →
      (execOp a.eval o).run P w = .ok (.enter f vs) w → o.wp P a w next Q := by
    intro f args vs R hvs hc hR hrun
    unfold Oper.wp
    rw [hrun, Oper.upon_enter]
    refine (hc.2 g w vs hw hvs).mono ?_
    rintro e w' ⟨ae, g', H', h1, h2, h3, h4⟩
    have h5 := hR _ _ h4
    cases ae with
    | ret v =>
      obtain ⟨cv, rfl, hv⟩ := h1
      exact hK v H' g' w' cv h5 hv h2 h3
    | pan v =>
      obtain ⟨cv, rfl, hv⟩ := h1
      exact hX v H' g' w' cv h5 hv h2 h3
  have rest : ∀ (hm' : mop T o.op op = true), (match astep Γ t H op with | some r => K r.1 r.2 | none => False) → o.wp P a w next Q := by
    intro hm' h
    cases hs : astep Γ t H op with
    | none => rw [hs] at h; exact h.elim
    | some r =>
      rw [hs] at h
      exact good r.1 r.2 (mop_sound hT hw hf hm' hs) h
  have hbad : op ≠ .bad := by
    rintro rfl
    simp only [awOp, astep] at h
  have hmop : (∀ x, op ≠ .pan x) → mop T o.op op = true := by
    intro hnp
    unfold mop2 at hm
    split at hm
    · exact absurd rfl hbad
    · exact absurd rfl (hnp _)
    · exact absurd rfl (hnd _)
    · exact hm
  cases op with
  | call f xs =>
    obtain ⟨R, hc, hR⟩ := h
    have hm' := hmop (fun x h => by cases h)
    obtain ⟨dst, op, ty, pos, after, guard⟩ := o
    cases op <;> simp only [mop, mcall, Bool.false_eq_true] at hm'
    rename_i c
    obtain ⟨callee, args, ats⟩ := c
    simp only at hm'
    split at hm'
    · rename_i f'
      rw [Bool.and_eq_true] at hm'
      have e1 := Nat.eq_of_beq_eq_true hm'.1
      subst e1
      have hv := margs_rel hw hf hm'.2
      refine calls _ _ (args.map a.eval) R (by simpa using hv) hc hR ?_
      simp [execOp, resolve, Act.eval, Deferred.ofValue, invoke, run_callFunc hc.1]
    · cases hm'
  | callv x xs =>
    have hm' := hmop (fun x h => by cases h)
    obtain ⟨dst, op, ty, pos, after, guard⟩ := o
    cases op <;> simp only [mop, mcall, Bool.false_eq_true] at hm'
    rename_i c
    obtain ⟨callee, args, ats⟩ := c
    simp only at hm'
    split at hm'
    · rename_i fx
      rw [Bool.and_eq_true] at hm'
      have hx := marg_rel hw hf hm'.1
      have hv := margs_rel hw hf hm'.2
      simp only [awOp] at h
      split at h
      · rename_i f cap hev
        obtain ⟨R, hc, hR⟩ := h
        rw [hev] at hx
        obtain ⟨vs, hfx, hcap⟩ := hx
        refine calls f _ (args.map a.eval ++ vs) R (by rw [Array.toList_append]; exact VRels.append (by simpa using hv) hcap) hc hR ?_
        simp [execOp, resolve, hfx, Deferred.ofValue, invoke, run_callFunc hc.1]
      · exact h.elim
    · cases hm'
  | pan x =>
    obtain ⟨dst, op, ty, pos, after, guard⟩ := o
    cases op <;> simp only [mop2, mop, mcall, Bool.false_eq_true] at hm
    rename_i ox
    have hx := marg_rel hw hf hm
    simp only [awOp] at h
    split at h
    · rename_i n v hev
      rw [hev] at hx
      have hx' := hx
      obtain ⟨cv, hcv, hv⟩ := hx
      unfold Oper.wp
      have : (execOp a.eval { dst := dst, op := .panic ox, type := ty, pos := pos, after := after, guard := guard }).run P w = .halt (.panic (.iface n cv)) w := by
        simp [execOp, hcv, Instr.panic]
      rw [this, Oper.upon_panic]
      exact hX _ H g w _ h ⟨cv, rfl, hv⟩ hw (.refl _ _ _)
    · exact h.elim
  | bin bop ek x y =>
    have hm' := hmop (fun x h => by cases h)
    simp only [awOp] at h
    cases ho : openNil bop ek (x.ev Γ t) (y.ev Γ t) with
    | false => rw [ho] at h; exact rest hm' h
    | true =>
      rw [ho] at h
      simp only [cond_true] at h
      obtain ⟨dst, op, ty, pos, after, guard⟩ := o
      cases op <;> simp only [mop, mcall, Bool.false_eq_true] at hm'
      rename_i op' t0 ox oy yt
      simp only [Bool.and_eq_true, decide_eq_true_eq] at hm'
      obtain ⟨⟨⟨⟨rfl, h1⟩, h2⟩, h3⟩, h4⟩ := hm'
      have hx := marg_rel hw hf h3
      have hy := marg_rel hw hf h4
      unfold openNil at ho
      have key : ek = .s ∧ ∃ q c, a.eval ox = .slice q 0 c ∧ a.eval oy = .slice none 0 0 ∧ (op' = .eql ∨ op' = .neq) := by
        split at ho
        · rename_i e1 e2
          rw [e1] at hx; rw [e2] at hy
          obtain ⟨q, c, hq, _⟩ := hx
          exact ⟨rfl, q, c, hq, hy, .inl rfl⟩
        · rename_i e1 e2
          rw [e1] at hx; rw [e2] at hy
          obtain ⟨q, c, hq, _⟩ := hx
          exact ⟨rfl, q, c, hq, hy, .inr rfl⟩
        · cases ho
      obtain ⟨rfl, q, c, hq, hn, hop⟩ := key
      have ht := ekOk_t hT h1
      simp only [tEk] at ht
      split at ht
      · rename_i e hu
        have heq : (Op.equal t0 (.slice q 0 c) (.slice none 0 0)).run P w = .ok q.isNone w := by
          show (Op.equalIn (9999 + 1) t0 (.slice q 0 c) (.slice none 0 0)).run P w = _
          rw [Op.equalIn, Sem.run_bind, run_underlying hu, Result.andThen_ok]
          cases q <;> rfl
        have hrun : ∃ b, (execOp a.eval { dst := dst, op := .binOp op' t0 ox oy yt, type := ty, pos := pos, after := after, guard := guard }).run P w = .ok (.value (.bool b)) w := by
          rcases hop with rfl | rfl
          · exact ⟨q.isNone, by simp [execOp, hq, hn, eqGuard_at_slice, binOp, heq]⟩
          · exact ⟨!q.isNone, by simp [execOp, hq, hn, eqGuard_at_slice, binOp, heq]⟩
        obtain ⟨b, hb⟩ := hrun
        unfold Oper.wp
        rw [hb, Oper.upon_value]
        exact hK _ H g w _ (h b) rfl hw (.refl _ _ _)
      · cases ht
  | dfr x => exact absurd rfl (hnd x)
  | _ => exact rest (hmop (fun x h => by cases h)) h

end
end Go.Aw

/- Rows of operations, code, and functions. -/
namespace Go.Aw

/-- What must hold ahead of a row of operations. -/
def awOps (Γ : Globs) (P : Program) : List AOper → (Fr → AHeap → Prop) → (AExit → Fr → AHeap → Prop) → Fr → AHeap → Prop
  | [], K, _, fr, H => K fr H
  | o :: os, K, Q, fr, H => match gd fr.t o.guard with
    | some true => match o.op with
      | .dfr x => match x.ev Γ fr.t with
        | .fn f cap => awOps Γ P os K Q (Fr.put { fr with d := .fn f cap :: fr.d } o.dst (.tup [])) H
        | _ => False
      | op => awOp Γ P op (fun v H' => awOps Γ P os K Q (fr.put o.dst v) H') (fun v H' => Q (.panic v) fr H') fr.t H
    | some false => awOps Γ P os K Q (fr.put o.dst (.tup [])) H
    | none => False

def mguard (ops : Array Oper) : Option (Nat × Bool) → Option (Nat × Bool) → Bool
  | none, none => true
  | some (j, b), some (s, c) => b == c && decide ((ops[j]?).bind (·.dst) = some s)
  | _, _ => false

def omatch1 (T : TTab) (ops : Array Oper) (i : Nat) (o : AOper) : Bool :=
  match ops[i]? with
  | some op => decide (op.dst = o.dst) && mop2 T op.op o.op && mguard ops op.guard o.guard
  | none => false

def omatch (T : TTab) (ops : Array Oper) : List Nat → List AOper → Bool
  | [], [] => true
  | i :: l, o :: os => omatch1 T ops i o && omatch T ops l os
  | _, _ => false

/-- What holds behind a piece of code, told of the model's frames and worlds. -/
def Lift (Γ : Globs) (Q : AExit → Fr → AHeap → Prop) (g : Gh) (H : AHeap) (w : World) (e : Exit) (a' : Act) (w' : World) : Prop :=
  ∃ ae fr' H' g', XRel g' ae e ∧ FRel g' fr' a' ∧ WRel Γ g' H' w' ∧ Ext g H w g' H' w' ∧ Q ae fr' H'

section
variable {Γ : Globs} {P : Program} {T : TTab}

theorem gd_wanted {g : Gh} {fr : Fr} {a : Act} {ops : Array Oper} {op : Oper} {gu : Option (Nat × Bool)} (hf : FRel g fr a) (hm : mguard ops op.guard gu = true) {b : Bool} (h : gd fr.t gu = some b) :
    Region.wanted op (yielded ops a.tmps) = b := by
  unfold Region.wanted
  cases hg : op.guard with
  | none =>
    rw [hg] at hm
    cases gu with
    | none => simp only [gd, Option.some.injEq] at h; exact h
    | some q => simp [mguard] at hm
  | some jb =>
    obtain ⟨j, want⟩ := jb
    rw [hg] at hm
    cases gu with
    | none => simp [mguard] at hm
    | some q =>
      obtain ⟨s, c⟩ := q
      simp only [mguard, Bool.and_eq_true, beq_iff_eq, decide_eq_true_eq] at hm
      obtain ⟨rfl, hs⟩ := hm
      have hr := lget_rel hf.t s
      simp only [yielded, hs, Option.bind_some]
      simp only [gd] at h
      rw [Array.getElem?_toList] at hr
      split at h
      · rename_i b' hb
        cases h
        rw [hb] at hr
        simp only [VRel] at hr
        cases hx : a.tmps[s]? with
        | none => rw [hx] at hr; simp [undef] at hr
        | some v =>
          rw [hx] at hr
          simp only [Option.getD_some] at hr
          subst hr
          simp only
          cases b' <;> cases want <;> rfl
      · rename_i vs hb
        cases h
        rw [hb] at hr
        obtain ⟨cvs, hr, _⟩ := hr
        cases hx : a.tmps[s]? with
        | none => rfl
        | some v =>
          rw [hx] at hr
          simp only [Option.getD_some] at hr
          subst hr
          rfl
      · cases h

/-- As the kit's, without its second arm. -/
def wpOpsL (P : Program) (ops : Array Oper) (Q : Exit → Act → World → Prop) : List Nat → Act → World → Prop
  | [], a, w => Q .normal a w
  | i :: rest, a, w =>
    match ops[i]? with
    | none => wpOpsL P ops Q rest a w
    | some o =>
      if Region.wanted o (yielded ops a.tmps) then o.wp P a w (wpOpsL P ops Q rest) Q
      else wpOpsL P ops Q rest (a.put o.dst undef) w

theorem wpOps_of_L {ops : Array Oper} {Q : Exit → Act → World → Prop} : ∀ {l : List Nat} {a : Act} {w : World}, wpOpsL P ops Q l a w → wpOps P ops Q l a w
  | [], _, _, h => h
  | i :: rest, a, w, h => by
    simp only [wpOpsL] at h
    simp only [wpOps]
    split
    · rename_i ho; rw [ho] at h; exact wpOps_of_L h
    · rename_i o ho
      rw [ho] at h
      simp only at h
      split
      · rename_i hw
        rw [if_pos hw] at h
        exact .inl (Oper.wp_mono (fun a w h => wpOps_of_L h) h)
      · rename_i hw
        rw [if_neg hw] at h
        exact wpOps_of_L h

theorem undef_rel (g : Gh) : VRel g (.tup []) undef := ⟨#[], rfl, rfl⟩

theorem awOps_sound (hT : TOk P T) {ops : Array Oper} {K : Fr → AHeap → Prop} {Q : AExit → Fr → AHeap → Prop} {Q' : Exit → Act → World → Prop} {g0 : Gh} {H0 : AHeap} {w0 : World}
    (hK : ∀ fr' H' g' a' w', K fr' H' → FRel g' fr' a' → WRel Γ g' H' w' → Ext g0 H0 w0 g' H' w' → Q' .normal a' w')
    (hX : ∀ v fr' H' g' a' w' cv, Q (.panic v) fr' H' → VRel g' v cv → FRel g' fr' a' → WRel Γ g' H' w' → Ext g0 H0 w0 g' H' w' → Q' (.panic [{ v := cv, recovered := false }]) a' w') :
    ∀ (os : List AOper) (l : List Nat) (fr : Fr) (H : AHeap) (g : Gh) (a : Act) (w : World), omatch T ops l os = true → awOps Γ P os K Q fr H → FRel g fr a → WRel Γ g H w → Ext g0 H0 w0 g H w → wpOpsL P ops Q' l a w := by
  intro os
  induction os with
  | nil =>
    intro l fr H g a w hm h hf hw he
    cases l with
    | nil => exact hK fr H g a w h hf hw he
    | cons i l => simp [omatch] at hm
  | cons o os ih =>
    intro l fr H g a w hm h hf hw he
    cases l with
    | nil => simp [omatch] at hm
    | cons i l =>
      simp only [omatch, Bool.and_eq_true] at hm
      obtain ⟨hm1, hm2⟩ := hm
      unfold omatch1 at hm1
      split at hm1
      · rename_i op hop
        simp only [Bool.and_eq_true, decide_eq_true_eq] at hm1
        obtain ⟨⟨hd, hmo⟩, hmg⟩ := hm1
        simp only [awOps] at h
        simp only [wpOpsL, hop]
        cases hg : gd fr.t o.guard with
        | none => rw [hg] at h; exact h.elim
        | some b =>
          rw [hg] at h
          have hwant := gd_wanted hf hmg hg
          cases b with
          | false =>
            simp only at h
            rw [hwant]
            simp only [Bool.false_eq_true, if_false]
            refine ih l _ H g _ w hm2 h ?_ hw he
            rw [hd]
            exact hf.put o.dst (undef_rel g)
          | true =>
            simp only at h
            rw [hwant]
            simp only [if_true]
            by_cases hdf : ∃ x, o.op = .dfr x
            · obtain ⟨x, hx⟩ := hdf
              rw [hx] at h hmo
              simp only at h
              split at h
              · rename_i f cap hev
                obtain ⟨dst, oop, ty, pos, after, guard⟩ := op
                simp only at hmo hd
                cases oop <;> simp only [mop2, mop, mcall, Bool.false_eq_true] at hmo
                rename_i c
                split at hmo
                · rename_i y hc
                  rw [Bool.and_eq_true] at hmo
                  have hxr := marg_rel hw hf.t hmo.1
                  rw [hev] at hxr
                  obtain ⟨vs, hy, hcap⟩ := hxr
                  have hargs : c.args = #[] := by simpa using hmo.2
                  have hrun : (execOp a.eval { dst := dst, op := .defer c, type := ty, pos := pos, after := after, guard := guard }).run P w = .ok (.defer { target := .fn (.func f) vs, args := #[] }) w := by
                    simp [execOp, resolve, hc, hy, Deferred.ofValue, hargs]
                  unfold Oper.wp
                  rw [hrun, Oper.upon_defer]
                  refine ih l _ H g _ w hm2 h ?_ hw he
                  rw [hd]
                  exact FRel.put (fr := { fr with d := .fn f cap :: fr.d }) (a := { a with defers := { target := .fn (.func f) vs, args := #[] } :: a.defers }) ⟨hf.t, .inl ⟨f, cap, vs, _, rfl, rfl, hcap, hf.d⟩⟩ o.dst (undef_rel g)
                · cases hmo
              · exact h.elim
            · have h' : awOp Γ P o.op (fun v H' => awOps Γ P os K Q (fr.put o.dst v) H') (fun v H' => Q (.panic v) fr H') fr.t H := by
                cases hoo : o.op <;> rw [hoo] at h <;> first | exact h | exact absurd ⟨_, hoo⟩ hdf
              refine awOp_sound hT h' hmo (fun x hx => hdf ⟨x, hx⟩) hw hf.t (fun v H' g' w' cv hk hv hw' he' => ?_) (fun v H' g' w' cv hx hv hw' he' => ?_)
              · refine ih l _ H' g' _ w' hm2 hk ?_ hw' (he.trans he')
                rw [hd]
                exact (hf.mono he'.le).put o.dst hv
              · exact hX v _ H' g' a w' cv hx hv (hf.mono he'.le) hw' (he.trans he')
      · cases hm1

/-- What must hold ahead of a piece of code of the model's, told of abstract values. -/
def AWP (Γ : Globs) (P : Program) (c : Code) (Q : AExit → Fr → AHeap → Prop) (fr : Fr) (H : AHeap) : Prop :=
  ∀ g a w, FRel g fr a → WRel Γ g H w → c.wp P (Lift Γ Q g H w) a w

theorem Lift.mono {Q Q' : AExit → Fr → AHeap → Prop} {g : Gh} {H : AHeap} {w : World} (h : ∀ e fr H, Q e fr H → Q' e fr H) {e : Exit} {a' : Act} {w' : World} (hl : Lift Γ Q g H w e a' w') : Lift Γ Q' g H w e a' w' := by
  obtain ⟨ae, fr', H', g', h1, h2, h3, h4, h5⟩ := hl
  exact ⟨ae, fr', H', g', h1, h2, h3, h4, h _ _ _ h5⟩

theorem AWP.mono {c : Code} {Q Q' : AExit → Fr → AHeap → Prop} {fr : Fr} {H : AHeap} (h : ∀ e fr H, Q e fr H → Q' e fr H) (hc : AWP Γ P c Q fr H) : AWP Γ P c Q' fr H :=
  fun g a w hf hw => wp_mono (hc g a w hf hw) fun _ _ _ hl => hl.mono h

theorem AWP.skip {Q : AExit → Fr → AHeap → Prop} {fr : Fr} {H : AHeap} (h : Q .normal fr H) : AWP Γ P .skip Q fr H :=
  fun g _ _ hf hw => wp_skip ⟨.normal, fr, H, g, rfl, hf, hw, .refl _ _ _, h⟩

theorem AWP.ret {Q : AExit → Fr → AHeap → Prop} {fr : Fr} {H : AHeap} (h : Q .ret fr H) : AWP Γ P .ret Q fr H :=
  fun g _ _ hf hw => wp_ret ⟨.ret, fr, H, g, rfl, hf, hw, .refl _ _ _, h⟩

theorem AWP.exit {Q : AExit → Fr → AHeap → Prop} {fr : Fr} {H : AHeap} {n : Nat} (h : Q (.exit n) fr H) : AWP Γ P (.exit n) Q fr H :=
  fun g _ _ hf hw => wp_exit ⟨.exit n, fr, H, g, rfl, hf, hw, .refl _ _ _, h⟩

theorem AWP.region (hT : TOk P T) {id : Nat} {ops : Array Oper} {os : List AOper} (hm : omatch T ops (List.range ops.size) os = true) {Q : AExit → Fr → AHeap → Prop} {fr : Fr} {H : AHeap}
    (h : awOps Γ P os (Q .normal) Q fr H) : AWP Γ P (.region id ops false) Q fr H := by
  intro g a w hf hw
  refine wp_region (wpOps_of_L <| awOps_sound hT (Q' := Lift Γ Q g H w) (g0 := g) (H0 := H) (w0 := w) ?_ ?_ os _ fr H g a w hm h hf hw (.refl _ _ _))
  · intro fr' H' g' a' w' hk hf' hw' he
    exact ⟨.normal, fr', H', g', rfl, hf', hw', he, hk⟩
  · intro v fr' H' g' a' w' cv hq hv hf' hw' he
    exact ⟨.panic v, fr', H', g', ⟨cv, rfl, hv⟩, hf', hw', he, hq⟩

/-- Behind the first of two: on, or out. -/
def seqQ (Q : AExit → Fr → AHeap → Prop) (K : Fr → AHeap → Prop) (e : AExit) (fr : Fr) (H : AHeap) : Prop :=
  match e with
  | .normal => K fr H
  | e => Q e fr H

theorem AWP.seq {x y : Code} {Q : AExit → Fr → AHeap → Prop} {fr : Fr} {H : AHeap} (h : AWP Γ P x (seqQ Q (AWP Γ P y Q)) fr H) : AWP Γ P (.seq x y) Q fr H := by
  intro g a w hf hw
  refine wp_seq (wp_mono (h g a w hf hw) ?_)
  rintro e a' w' ⟨ae, fr', H', g', h1, h2, h3, h4, h5⟩
  cases ae with
  | normal =>
    cases h1
    refine wp_mono (h5 g' a' w' h2 h3) ?_
    rintro e a'' w'' ⟨ae, fr'', H'', g'', k1, k2, k3, k4, k5⟩
    exact ⟨ae, fr'', H'', g'', k1, k2, k3, h4.trans k4, k5⟩
  | exit n => cases h1; exact ⟨.exit n, fr', H', g', rfl, h2, h3, h4, h5⟩
  | goto n => cases h1; exact ⟨.goto n, fr', H', g', rfl, h2, h3, h4, h5⟩
  | ret => cases h1; exact ⟨.ret, fr', H', g', rfl, h2, h3, h4, h5⟩
  | panic v => obtain ⟨cv, rfl, hv⟩ := h1; exact ⟨.panic v, fr', H', g', ⟨cv, rfl, hv⟩, h2, h3, h4, h5⟩

theorem AWP.cond {c : Operand} {x : AArg} {cx cy : Code} {Q : AExit → Fr → AHeap → Prop} {fr : Fr} {H : AHeap} (hm : marg c x = true) {b : Bool} (hb : x.ev Γ fr.t = .bool b)
    (ht : b = true → AWP Γ P cx Q fr H) (hf0 : b = false → AWP Γ P cy Q fr H) : AWP Γ P (.cond c cx cy) Q fr H := by
  intro g a w hf hw
  have hr := marg_rel hw hf.t hm
  rw [hb] at hr
  simp only [VRel] at hr
  exact wp_cond_split hr (fun e => ht e g a w hf hw) fun e => hf0 e g a w hf hw

def blockQ (n : Nat) (Q : AExit → Fr → AHeap → Prop) (e : AExit) (fr : Fr) (H : AHeap) : Prop :=
  match e with
  | .exit m => if m = n then Q .normal fr H else Q (.exit m) fr H
  | e => Q e fr H

theorem AWP.block {n : Nat} {c : Code} {Q : AExit → Fr → AHeap → Prop} {fr : Fr} {H : AHeap} (h : AWP Γ P c (blockQ n Q) fr H) : AWP Γ P (.block n c) Q fr H := by
  intro g a w hf hw
  refine wp_block (wp_mono (h g a w hf hw) ?_)
  rintro e a' w' ⟨ae, fr', H', g', h1, h2, h3, h4, h5⟩
  cases ae with
  | normal => cases h1; exact ⟨.normal, fr', H', g', rfl, h2, h3, h4, h5⟩
  | exit m =>
    cases h1
    simp only [Exit.inBlock]
    simp only [blockQ] at h5
    split
    · rename_i e; rw [if_pos e] at h5; exact ⟨.normal, fr', H', g', rfl, h2, h3, h4, h5⟩
    · rename_i e; rw [if_neg e] at h5; exact ⟨.exit m, fr', H', g', rfl, h2, h3, h4, h5⟩
  | goto m => cases h1; exact ⟨.goto m, fr', H', g', rfl, h2, h3, h4, h5⟩
  | ret => cases h1; exact ⟨.ret, fr', H', g', rfl, h2, h3, h4, h5⟩
  | panic v => obtain ⟨cv, rfl, hv⟩ := h1; exact ⟨.panic v, fr', H', g', ⟨cv, rfl, hv⟩, h2, h3, h4, h5⟩

theorem AWP.loop {c : Code} {Q : AExit → Fr → AHeap → Prop} {fr : Fr} {H : AHeap} (I : Nat → Fr → AHeap → Prop) (n : Nat) (h0 : I n fr H)
    (round : ∀ n fr H, I n fr H → AWP Γ P c (seqQ Q fun fr' H' => ∃ m, m < n ∧ I m fr' H') fr H) : AWP Γ P (.loop c) Q fr H := by
  intro g a w hf hw b k cs
  have key : ∀ (n : Nat) (fr : Fr) (H : AHeap) (g' : Gh) (a : Act) (w' : World), I n fr H → FRel g' fr a → WRel Γ g' H w' → ∀ (g : Gh) (H0 : AHeap) (w0 : World), Ext g H0 w0 g' H w' →
      ∃ e a' w'', Lift Γ Q g H0 w0 e a' w'' ∧ Arrives P (lone (b.at a (.code c :: .inLoop c :: k)) cs w') b k cs e a' w'' := by
    intro n
    induction n using Nat.strongRecOn with
    | _ n ih =>
      intro fr H g' a w' hI hf hw g H0 w0 he
      obtain ⟨e, a₁, w₁, ⟨ae, fr1, H1, g1, h1, h2, h3, h4, h5⟩, harr⟩ := round n fr H hI g' a w' hf hw b (.inLoop c :: k) cs
      cases ae with
      | normal =>
        cases h1
        obtain ⟨m, hm, hI1⟩ := h5
        obtain ⟨e₂, a₂, w₂, hq₂, harr₂⟩ := ih m hm fr1 H1 g1 a₁ w₁ hI1 h2 h3 g H0 w0 (he.trans h4)
        exact ⟨e₂, a₂, w₂, hq₂, .of_steps (Steps.trans harr (.one step_inLoop)) harr₂⟩
      | exit id => cases h1; exact ⟨_, a₁, w₁, ⟨.exit id, fr1, H1, g1, rfl, h2, h3, he.trans h4, h5⟩, .pass (x := .inLoop c) rfl (fun _ _ => .inl (by simp)) harr⟩
      | goto l => cases h1; exact ⟨_, a₁, w₁, ⟨.goto l, fr1, H1, g1, rfl, h2, h3, he.trans h4, h5⟩, .pass (x := .inLoop c) rfl (fun _ _ => .inl (by simp)) harr⟩
      | ret => cases h1; exact ⟨_, a₁, w₁, ⟨.ret, fr1, H1, g1, rfl, h2, h3, he.trans h4, h5⟩, .pass (x := .inLoop c) rfl (fun _ _ => .inl (by simp)) harr⟩
      | panic v => obtain ⟨cv, rfl, hv⟩ := h1; exact ⟨_, a₁, w₁, ⟨.panic v, fr1, H1, g1, ⟨cv, rfl, hv⟩, h2, h3, he.trans h4, h5⟩, .pass (x := .inLoop c) rfl (fun _ _ => .inl (by simp)) harr⟩
  obtain ⟨e, a', w', hq, harr⟩ := key n fr H g a w h0 hf hw g H w (.refl _ _ _)
  exact ⟨e, a', w', hq, .of_steps (.one step_loop) harr⟩

end
end Go.Aw

/- Which slots an operation looks at; which operations look at no memory, which read, which make new rows. -/
namespace Go.Aw

def AArg.slots : AArg → List Nat
  | .t n => [n]
  | _ => []

def argsSlots : List AArg → List Nat
  | [] => []
  | x :: xs => x.slots ++ argsSlots xs

def optSlots : Option AArg → List Nat
  | none => []
  | some x => x.slots

def partsSlots : List (Nat × Nat × AArg) → List Nat
  | [] => []
  | (_, _, x) :: ps => x.slots ++ partsSlots ps

def AOp.slots : AOp → List Nat
  | .mv x | .box x | .ld x | .ldn _ x | .nilchk x | .neg x | .not x | .cvi _ x | .cvis x | .cvbs x | .cvsb x | .mkif _ x | .fad _ x | .fld _ _ x | .rng x | .nxt x | .ext x _ | .lens x | .lensl x | .clr _ x
  | .tas _ _ x | .pan x | .dfr x => x.slots
  | .pick a b c => a.slots ++ (b.slots ++ c.slots)
  | .alloc _ | .mkmap | .rcv | .bad => []
  | .build _ ps | .bslice _ _ _ ps => partsSlots ps
  | .st _ x y | .bin _ _ x y | .mksl _ _ x y | .iad _ x y | .iada _ _ x y | .idxs x y | .idxa _ _ _ x y | .lkp _ _ _ x y | .app _ x y | .apps x y | .cpy _ x y => x.slots ++ y.slots
  | .mkfn _ xs | .mn xs | .mx xs | .call _ xs => argsSlots xs
  | .slc _ x lo hi | .slcs x lo hi => x.slots ++ (optSlots lo ++ optSlots hi)
  | .mput _ x y z => x.slots ++ (y.slots ++ z.slots)
  | .callv x xs => x.slots ++ argsSlots xs

section
variable {Γ : Globs} {P : Program} {t t' : List AVal}

theorem ev_congr {x : AArg} (h : ∀ s ∈ x.slots, lget t s = lget t' s) : x.ev Γ t = x.ev Γ t' := by
  cases x <;> simp_all [AArg.ev, AArg.slots]

theorem evs_congr : ∀ {xs : List AArg}, (∀ s ∈ argsSlots xs, lget t s = lget t' s) → xs.map (fun x => x.ev Γ t) = xs.map (fun x => x.ev Γ t')
  | [], _ => rfl
  | x :: xs, h => by
    simp only [List.map_cons]
    rw [ev_congr (fun s hs => h s (List.mem_append_left _ hs)), evs_congr (xs := xs) fun s hs => h s (List.mem_append_right _ hs)]

theorem evo_congr {x : Option AArg} (h : ∀ s ∈ optSlots x, lget t s = lget t' s) : x.map (fun x => x.ev Γ t) = x.map (fun x => x.ev Γ t') := by
  cases x with
  | none => rfl
  | some x => simp only [Option.map_some]; rw [ev_congr h]

theorem afill_congr : ∀ {ps : List (Nat × Nat × AArg)} (cs : List AVal), (∀ s ∈ partsSlots ps, lget t s = lget t' s) → afill Γ t cs ps = afill Γ t' cs ps
  | [], _, _ => rfl
  | (off, n, x) :: ps, cs, h => by
    simp only [afill]
    rw [ev_congr (x := x) fun s hs => h s (List.mem_append_left _ hs), afill_congr (ps := ps) _ fun s hs => h s (List.mem_append_right _ hs)]

theorem astep_congr {H : AHeap} {op : AOp} (h : ∀ s ∈ op.slots, lget t s = lget t' s) : astep Γ t H op = astep Γ t' H op := by
  have e1 : ∀ {x : AArg}, (∀ s ∈ x.slots, s ∈ op.slots) → x.ev Γ t = x.ev Γ t' := fun hs => ev_congr fun s hm => h s (hs s hm)
  cases op with
  | mv x | box x | ld x | ldn _ x | nilchk x | neg x | not x | cvi _ x | cvis x | cvbs x | cvsb x | mkif _ x | fad _ x | fld _ _ x | rng x | nxt x | ext x _ | lens x | lensl x | clr _ x | tas _ _ x =>
    simp only [astep]; rw [e1 (x := x) (fun s hs => hs)]
  | pan x | dfr x | rcv | bad | call _ _ | callv _ _ => rfl
  | alloc _ | mkmap => rfl
  | pick a b c =>
    simp only [astep]
    rw [e1 (x := a) (fun s hs => by simp [AOp.slots, hs]), e1 (x := b) (fun s hs => by simp [AOp.slots, hs]), e1 (x := c) (fun s hs => by simp [AOp.slots, hs])]
  | build _ ps | bslice _ _ _ ps => simp only [astep]; rw [afill_congr _ h]
  | st _ x y | bin _ _ x y | mksl _ _ x y | iad _ x y | iada _ _ x y | idxs x y | idxa _ _ _ x y | lkp _ _ _ x y | app _ x y | apps x y | cpy _ x y =>
    simp only [astep]
    rw [e1 (x := x) (fun s hs => by simp [AOp.slots, hs]), e1 (x := y) (fun s hs => by simp [AOp.slots, hs])]
  | mkfn _ xs | mn xs | mx xs => simp only [astep]; rw [evs_congr h]
  | slc _ x lo hi | slcs x lo hi =>
    simp only [astep]
    rw [e1 (x := x) (fun s hs => by simp [AOp.slots, hs]), evo_congr (x := lo) (fun s hs => h s (by simp [AOp.slots, hs])), evo_congr (x := hi) (fun s hs => h s (by simp [AOp.slots, hs]))]
  | mput _ x y z =>
    simp only [astep]
    rw [e1 (x := x) (fun s hs => by simp [AOp.slots, hs]), e1 (x := y) (fun s hs => by simp [AOp.slots, hs]), e1 (x := z) (fun s hs => by simp [AOp.slots, hs])]

theorem awOp_congr {H : AHeap} {op : AOp} {K X : AVal → AHeap → Prop} (h : ∀ s ∈ op.slots, lget t s = lget t' s) (ha : awOp Γ P op K X t H) : awOp Γ P op K X t' H := by
  cases op with
  | call f xs => simp only [awOp] at ha ⊢; rw [← evs_congr h]; exact ha
  | callv x xs =>
    simp only [awOp] at ha ⊢
    rw [← ev_congr (x := x) (fun s hs => h s (by simp [AOp.slots, hs])), ← evs_congr (xs := xs) (fun s hs => h s (by simp [AOp.slots, hs]))]; exact ha
  | pan x => simp only [awOp] at ha ⊢; rw [← ev_congr (x := x) h]; exact ha
  | bin op ek x y =>
    simp only [awOp] at ha ⊢
    rw [← astep_congr h, ← ev_congr (x := x) (fun s hs => h s (by simp [AOp.slots, hs])), ← ev_congr (x := y) (fun s hs => h s (by simp [AOp.slots, hs]))]; exact ha
  | _ => simp only [awOp] at ha ⊢; rw [← astep_congr h]; exact ha

def isPure : AOp → Bool
  | .mv _ | .pick .. | .build .. | .nilchk _ | .bin .. | .neg _ | .not _ | .cvi .. | .cvis _ | .mkif .. | .mkfn .. | .slc .. | .slcs .. | .fad .. | .iad .. | .iada .. | .fld .. | .idxs .. | .idxa .. | .ext .. | .lens _
  | .lensl _ | .mn _ | .mx _ | .tas .. => true
  | _ => false

def isRead : AOp → Bool
  | .ld _ | .ldn .. | .lkp .. | .cvbs _ => true
  | _ => false

theorem pure_any {H H' : AHeap} {op : AOp} {v : AVal} (hp : isPure op = true) (h : astep Γ t H op = some (v, H')) : H' = H ∧ ∀ H2, astep Γ t H2 op = some (v, H2) := by
  cases op <;> simp only [isPure, Bool.false_eq_true] at hp <;> simp only [astep, asn] at h ⊢
  all_goals first
    | (simp only [Option.some.injEq, Prod.mk.injEq] at h; obtain ⟨rfl, rfl⟩ := h; exact ⟨rfl, fun _ => rfl⟩)
    | (simp only [Option.map_eq_some_iff, Prod.mk.injEq] at h; obtain ⟨u, hu, rfl, rfl⟩ := h; exact ⟨rfl, fun _ => by simp [hu]⟩)
    | skip
  case slc es x lo hi =>
    cases hb : slEs es (x.ev Γ t) with
    | false => rw [hb] at h; cases h
    | true =>
      rw [hb] at h
      simp only [cond_true, Option.map_eq_some_iff, Prod.mk.injEq] at h ⊢
      obtain ⟨u, hu, rfl, rfl⟩ := h
      exact ⟨rfl, fun _ => ⟨_, hu, rfl, trivial⟩⟩
  case slcs x lo hi =>
    cases hb : isStr (x.ev Γ t) with
    | false => rw [hb] at h; cases h
    | true =>
      rw [hb] at h
      simp only [cond_true, Option.map_eq_some_iff, Prod.mk.injEq] at h ⊢
      obtain ⟨u, hu, rfl, rfl⟩ := h
      exact ⟨rfl, fun _ => ⟨_, hu, rfl, trivial⟩⟩
  case idxs x y =>
    split at h <;> (try cases h)
    split at h <;> (try cases h)
    rename_i hc
    simp only [Option.map_eq_some_iff, Prod.mk.injEq] at h
    obtain ⟨u, hu, rfl, rfl⟩ := h
    exact ⟨rfl, fun _ => by simp [hc, hu]⟩
  case fld off size x =>
    split at h <;> (try cases h)
    · simp only [Option.map_eq_some_iff, Prod.mk.injEq] at h
      obtain ⟨u, hu, rfl, rfl⟩ := h
      exact ⟨rfl, fun _ => by simp [hu]⟩
    · rename_i cs hx
      cases hl : lcut cs off 1 with
      | none => rw [hl] at h; simp at h
      | some us =>
        rw [hl] at h
        simp only [Option.bind_some] at h ⊢
        split at h <;> cases h
        exact ⟨rfl, fun _ => rfl⟩
  case idxa n es agg x y =>
    split at h <;> (try cases h)
    split at h <;> (try cases h)
    rename_i cs k m e1 e2 hc
    cases hl : lcut cs (m.toNat * es) es with
    | none => rw [hl] at h; simp at h
    | some us =>
      rw [hl] at h
      simp only [Option.bind_some] at h ⊢
      split at h <;> cases h
      · exact ⟨rfl, fun _ => by simp [hc]⟩
      · exact ⟨rfl, fun _ => by simp [hc]⟩
  case tas n z x =>
    split at h
    · rename_i m u hx
      cases hb : Nat.beq m n with
      | true => rw [hb] at h; cases h; exact ⟨rfl, fun _ => rfl⟩
      | false => rw [hb] at h; cases h; exact ⟨rfl, fun _ => rfl⟩
    · cases h; exact ⟨rfl, fun _ => rfl⟩
    · cases h
  all_goals
    split at h <;> (try cases h) <;> (try (exact ⟨rfl, fun _ => rfl⟩)) <;> (try (split at h <;> cases h <;> exact ⟨rfl, fun _ => by simp_all⟩)) <;>
      (try (simp only [Option.map_eq_some_iff, Prod.mk.injEq] at h; obtain ⟨u, hu, rfl, rfl⟩ := h; exact ⟨rfl, fun _ => by simp [hu]⟩))

theorem rdc_mono {H H2 : AHeap} (hs : ∀ b o, H.get b = some o → H2.get b = some o) {x : AVal} {n : Nat} {cs : List AVal} (h : rdc H x n = some cs) : rdc H2 x n = some cs := by
  unfold rdc at h ⊢
  cases hn : Nat.beq n 0 with
  | true => rw [hn] at h; exact h
  | false =>
    rw [hn] at h
    simp only [cond_false] at h ⊢
    split at h
    · split at h
      · rename_i hg; rw [hs _ _ hg]; exact h
      · cases h
    · exact h
    · rename_i b off es len cap ex
      cases hb : Nat.ble n (cap * es) with
      | false => rw [hb] at h; cases h
      | true =>
        rw [hb] at h
        simp only [cond_true] at h ⊢
        split at h
        · rename_i hg; rw [hs _ _ hg]; exact h
        · cases h
    · exact h
    · cases h

theorem read_mono {H H' : AHeap} {op : AOp} {v : AVal} (hp : isRead op = true) (h : astep Γ t H op = some (v, H')) : H' = H ∧ ∀ H2, (∀ b o, H.get b = some o → H2.get b = some o) → astep Γ t H2 op = some (v, H2) := by
  cases op <;> simp only [isRead, Bool.false_eq_true] at hp <;> simp only [astep] at h ⊢
  case ld x =>
    split at h <;> (try cases h)
    all_goals
      simp only [Option.bind_eq_some_iff] at h
      obtain ⟨cs, hc, h⟩ := h
      split at h <;> cases h
      exact ⟨rfl, fun H2 hs => by simp [rdc_mono hs hc]⟩
  case ldn n x =>
    split at h <;> (try cases h)
    all_goals
      simp only [Option.map_eq_some_iff, Prod.mk.injEq] at h
      obtain ⟨cs, hc, rfl, rfl⟩ := h
      exact ⟨rfl, fun H2 hs => by simp [rdc_mono hs hc]⟩
  case cvbs x =>
    split at h
    · cases h; exact ⟨rfl, fun _ _ => rfl⟩
    · simp only [Option.bind_eq_some_iff, Option.map_eq_some_iff, Prod.mk.injEq] at h
      obtain ⟨n, hn, cs, hc, s, hso, rfl, rfl⟩ := h
      exact ⟨rfl, fun H2 hs => by simp [hn, rdc_mono hs hc, hso]⟩
  case lkp kn z ok m k =>
    cases hk : kShape kn (k.ev Γ t) with
    | false => rw [hk] at h; cases h
    | true =>
      rw [hk] at h
      simp only [cond_true, Option.map_eq_some_iff, Prod.mk.injEq] at h ⊢
      obtain ⟨r, hr, rfl, rfl⟩ := h
      refine ⟨rfl, fun H2 hs => ⟨r, ?_, rfl, trivial⟩⟩
      unfold amFind at hr ⊢
      split at hr
      · exact hr
      · split at hr
        · rename_i hg; rw [hs _ _ hg]; exact hr
        · cases hr
      · cases hr

end
end Go.Aw

/- Operations that make a new row, under whatever number. -/
namespace Go.Aw

/-- What the new block holds, and what the operation gives, by the block's number. -/
def allocOf (Γ : Globs) (t : List AVal) : AOp → Option (AObj × (Nat → AVal))
  | .box x => some (.cells (acells (x.ev Γ t)), fun b => .ptr b 0)
  | .alloc zs => some (.cells zs, fun b => .ptr b 0)
  | .bslice es n zs ps => (afill Γ t zs ps).map fun cs => (.cells cs, fun b => .sl b 0 es n n true)
  | .mkmap => some (.amap [], fun b => .map b)
  | .mksl es zs l c => match l.ev Γ t, c.ev Γ t with
    | .int _ l, .int _ c => if 0 ≤ l ∧ l ≤ c ∧ c ≤ limit then some (.cells (lrep zs c.toNat), fun b => .sl b 0 es l.toNat c.toNat true) else none
    | _, _ => none
  | .rng x => match x.ev Γ t with
    | .str s => some (.siter s 0, fun b => .ptr b 0)
    | _ => none
  | _ => none

theorem alloc_congr {Γ : Globs} {t t' : List AVal} {op : AOp} (h : ∀ s ∈ op.slots, lget t s = lget t' s) : allocOf Γ t op = allocOf Γ t' op := by
  cases op with
  | box x | rng x => simp only [allocOf]; rw [ev_congr h]
  | bslice _ _ _ ps => simp only [allocOf]; rw [afill_congr _ h]
  | mksl _ _ x y =>
    simp only [allocOf]
    rw [ev_congr (x := x) (fun s hs => h s (by simp [AOp.slots, hs])), ev_congr (x := y) (fun s hs => h s (by simp [AOp.slots, hs]))]
  | _ => rfl

def Allocs (P : Program) (s : Sem Value) (g : Gh) (w : World) (obj : AObj) (mk : Nat → AVal) : Prop :=
  ∃ cv w' n, s.run P w = .ok cv w' ∧ Io w w' ∧ w'.heap.size = w.heap.size + 1 ∧ (∀ c, c < w.heap.size → w'.heap[c]? = w.heap[c]?) ∧
    ∀ b, ¬ g.decl b → ORel (g.new b w.heap.size 0 n) w' w.heap.size 0 obj ∧ VRel (g.new b w.heap.size 0 n) (mk b) cv

section
variable {Γ : Globs} {P : Program} {T : TTab} {g : Gh} {H : AHeap} {w : World} {t : List AVal} {a : Act}

theorem row_new (hw : WRel Γ g H w) {cs : List AVal} {ccs : Array Value} (elem : TypeId) (hlen : cs.length ≤ ccs.size) (hc : ∀ (i : Nat) c, cs[i]? = some c → ∃ v, ccs[i]? = some v ∧ VRel g c v) :
    (w.alloc (.cells ccs elem)).heap.size = w.heap.size + 1 ∧ (∀ c, c < w.heap.size → (w.alloc (.cells ccs elem)).heap[c]? = w.heap[c]?) ∧
      ∀ b, ¬ g.decl b → ORel (g.new b w.heap.size 0 ccs.size) (w.alloc (.cells ccs elem)) w.heap.size 0 (.cells cs) := by
  refine ⟨by rw [alloc_heap]; simp, fun c hcl => by rw [alloc_heap, Array.getElem?_push, if_neg (by omega)], fun b hb => ?_⟩
  refine ⟨ccs, elem, 0, 0, by rw [alloc_heap]; simp, by simp [Gh.new], fun i _ => by omega, by simpa using hlen, fun i c hi => ?_⟩
  obtain ⟨v, hv, hr⟩ := hc i c hi
  exact ⟨v, by simpa using hv, hr.mono (hw.leNew _ _ hb) _ _⟩

theorem run_bslice' (hw : WRel Γ g H w) {ty el : TypeId} {n : Nat} {i : TypeInfo} {z : Value} {zs cs : List AVal} {ps : Array (Nat × Value)} {qs : List (Nat × Nat × AArg)}
    (hu : P.underlying ty = some (.slice el)) (hi : P.info? el = some i) (hz : i.zero = some z) (hzs : VRels g zs (madeCells z.cells (n * i.size)).toList) (hlim : n * i.size ≤ 16777216)
    (hp : PartsOk g Γ t (fun k => some (k * i.size, i.size)) ps.toList qs) (ha : afill Γ t zs qs = some cs) :
    ∃ couts : Array Value, (Instr.buildSlice ty n ps).run P w = .ok (.slice (some ⟨w.heap.size, 0, none⟩) n n) (w.alloc (.cells couts el)) ∧ VRels g cs couts.toList ∧ couts.size = n * i.size := by
  have _ := hw
  obtain ⟨couts, h1, h2⟩ := fill_ok ps.toList qs zs _ cs hp hzs ha
  have hlen : ∀ (ps : List (Nat × Value)) (place : Nat → Option (Nat × Nat)) (a b : Array Value), Instr.fill place a ps = some b → b.size = a.size := by
    intro ps place
    induction ps with
    | nil => intro a b h; rw [Instr.fill] at h; cases h; rfl
    | cons p ps ih =>
      intro a b h
      obtain ⟨k, v⟩ := p
      rw [Instr.fill] at h
      split at h
      · cases h
      · split at h
        · cases h
        · rename_i off size hpl hc
          rw [ih _ _ h]
          simp only [Bool.or_eq_true, decide_eq_true_eq, not_or] at hc
          have := (zipFold_get v.cells.toList off 0 a (by simp; omega)).1
          rw [← Array.foldl_toList, Array.toList_zipIdx]; exact this
  have hsz : couts.size = n * i.size := by rw [hlen _ _ _ _ h1, size_madeCells]
  refine ⟨couts, ?_, h2, hsz⟩
  have hl : ¬ (n * i.size > 2 ^ 24) := by omega
  simp only [Instr.buildSlice, Sem.run_bind, run_underlying hu, Result.andThen_ok, run_sizeOf' hi, if_neg hl]
  by_cases h0 : n * i.size = 0
  · have hm : madeCells z.cells (n * i.size) = (Array.range (n * i.size)).map ((#[] : Array Value)[· % (#[] : Array Value).size]!) := by
      rw [h0]; simp [madeCells, Array.range_zero']
    rw [hm] at h1
    simp only [h0] at h1 ⊢
    simp only [if_true, Sem.run_pure, Sem.run_bind, Result.andThen_ok, h1, run_newRow']
  · simp only [if_neg h0, zeroValue, typeInfo, Sem.run_bind, run_program, Result.andThen_ok, hi, hz, Sem.run_pure]
    have hm : madeCells z.cells (n * i.size) = (Array.range (n * i.size)).map (z.cells[· % z.cells.size]!) := rfl
    rw [hm] at h1
    simp only [h1, Sem.run_bind, run_newRow', Result.andThen_ok, Sem.run_pure]

/-- An operation that makes a new row, in the model. -/
theorem alloc_sound (hT : TOk P T) (hw : WRel Γ g H w) (hf : VRels g t a.tmps.toList) {o : Oper} {op : AOp} (hm : mop T o.op op = true) {obj : AObj} {mk : Nat → AVal} (h : allocOf Γ t op = some (obj, mk)) :
    ∃ s : Sem Value, execOp a.eval o = (do pure (.value (← s))) ∧ Allocs P s g w obj mk := by
  obtain ⟨dst, oop, ty, pos, after, guard⟩ := o
  cases op <;> simp only [allocOf, reduceCtorEq] at h
  case box x =>
    cases h
    cases oop <;> simp only [mop, mcall, Bool.false_eq_true] at hm
    rename_i e ox
    have hx := marg_rel hw hf hm
    have hc := hx.cells
    obtain ⟨h1, h2, h3⟩ := row_new hw e (cs := acells (x.ev Γ t)) (ccs := (a.eval ox).cells) (by rw [← hc.length]; simp) hc.arr
    exact ⟨_, rfl, _, _, _, rfl, ⟨rfl, rfl⟩, h1, h2, fun b hb => ⟨h3 b hb, Gh.new_rel _ _ _⟩⟩
  case alloc zs =>
    cases h
    cases oop <;> simp only [mop, mcall, Bool.false_eq_true] at hm
    rename_i e
    split at hm
    · rename_i ti hti
      obtain ⟨i, z, hi, _, _, _, hz, hv, _⟩ := (hT _ _ hti).info
      rw [← aveqs_eq _ _ hm]
      have hv := hv g
      obtain ⟨h1, h2, h3⟩ := row_new hw e (cs := ti.zero) (ccs := z.cells) (by rw [← hv.length]; simp) hv.arr
      exact ⟨_, rfl, _, w.alloc (.cells z.cells e), _, by simp [Instr.alloc, zeroValue, typeInfo, hi, hz, newVar, run_newRow'], ⟨rfl, rfl⟩, h1, h2, fun b hb => ⟨h3 b hb, Gh.new_rel _ _ _⟩⟩
    · cases hm
  case bslice es n zs ps =>
    rw [Option.map_eq_some_iff] at h
    obtain ⟨cs, hcs, h⟩ := h
    cases h
    cases oop <;> simp only [mop, mcall, Bool.false_eq_true] at hm
    rename_i t0 len parts
    have hmap : (parts.map fun (i, x) => (i, a.eval x)).toList = parts.toList.map fun (i, x) => (i, a.eval x) := by simp
    split at hm
    · rename_i e _ _ _ hti
      split at hm
      · rename_i tj htj
        simp only [Bool.and_eq_true] at hm
        obtain ⟨⟨⟨⟨h1, h2⟩, h3⟩, h4⟩, h5⟩ := hm
        obtain ⟨j, z, hj, hjs, _, _, hz, hv, hzs, _⟩ := (hT _ _ htj).info
        have e1 := Nat.eq_of_beq_eq_true h1
        have e2 := Nat.eq_of_beq_eq_true h2
        subst e1
        rw [← hjs] at e2
        subst e2
        have hle := Nat.le_of_ble_eq_true h3
        rw [← aveqs_eq _ _ h4] at hcs
        have hvz := lrep_rel (hv g) len
        rw [hzs, ← hjs] at hvz
        obtain ⟨couts, r1, r2, r3⟩ := run_bslice' (t := t) (Γ := Γ) (qs := ps) hw (sl_fact hT hti) hj hz hvz hle (by rw [hmap]; exact mparts_rel hw hf h5) hcs
        obtain ⟨k1, k2, k3⟩ := row_new hw e (cs := cs) (ccs := couts) (by rw [← r2.length]; simp) r2.arr
        exact ⟨_, rfl, _, _, _, r1, ⟨rfl, rfl⟩, k1, k2, fun b hb => ⟨k3 b hb, Gh.new_sl (Nat.le_refl _) (Nat.le_refl _) (fun _ => rfl) (by rw [r3]; exact Nat.le_refl _)⟩⟩
      · cases hm
    · cases hm
  case mkmap =>
    cases h
    cases oop <;> simp only [mop, mcall, Bool.false_eq_true] at hm
    rename_i t0 r
    cases r <;> (try simp only [Bool.false_eq_true] at hm)
    refine ⟨_, rfl, .map (some w.heap.size), w.alloc (.map #[] 0), 0, ?_, ⟨rfl, rfl⟩, by rw [alloc_heap]; simp, fun c hc => by rw [alloc_heap, Array.getElem?_push, if_neg (by omega)], fun b hb => ⟨⟨rfl, #[], 0, by rw [alloc_heap]; simp, rfl⟩, ⟨_, rfl, Or.inr rfl, fun cb base hm => ?_⟩⟩⟩
    · simp only [Instr.makeMap, Option.map_none, Sem.run_bind, Sem.run_pure, Result.andThen_ok, run_newObj]
      rfl
    · have : (if b = b then some (w.heap.size, 0) else g.mu b) = some (cb, base) := hm
      rw [if_pos rfl] at this; cases this; rfl
  case mksl es zs x y =>
    split at h
    · rename_i k1 l k2 c e1 e2
      split at h
      · rename_i hc
        cases h
        cases oop <;> simp only [mop, mcall, Bool.false_eq_true] at hm
        rename_i t0 ol oc
        split at hm
        · rename_i e _ _ _ hti
          split at hm
          · rename_i tj htj
            simp only [Bool.and_eq_true] at hm
            obtain ⟨⟨⟨⟨h1, h2⟩, h3⟩, h4⟩, h5⟩ := hm
            have hx := marg_rel hw hf h4
            have hy := marg_rel hw hf h5
            rw [e1] at hx; rw [e2] at hy
            simp only [VRel] at hx hy
            obtain ⟨i, z, hi, his, _, hsm, hz, hv, hzs, _⟩ := (hT _ _ htj).info
            have e3 := Nat.eq_of_beq_eq_true h1
            rw [← his] at e3
            subst e3
            rw [← aveqs_eq _ _ h3]
            obtain ⟨c1, c2, c3⟩ := hc
            unfold limit at c3
            have hr := run_make (P := P) w t0 e i z (sl_fact hT hti) hi hz k1 k2 l c c1 c2 (by
              have hc2 : 0 ≤ c := Int.le_trans c1 c2
              have hby := hsm h2
              have : (i.bytes : Int) * c ≤ 65536 * 16777216 := Int.mul_le_mul (by omega) (by omega) hc2 (by omega)
              omega) (by omega)
            have hvv := lrep_rel (hv g) c.toNat
            rw [hzs, ← his] at hvv
            obtain ⟨k1', k2', k3'⟩ := row_new hw e (cs := lrep tj.zero c.toNat) (ccs := madeCells z.cells (c.toNat * i.size)) (by rw [← hvv.length]; simp) hvv.arr
            refine ⟨Instr.makeSlice t0 (a.eval ol) (a.eval oc), rfl, _, w.alloc (.cells (madeCells z.cells (c.toNat * i.size)) e), _, ?_, ⟨rfl, rfl⟩, k1', k2', fun b hb => ⟨k3' b hb, Gh.new_sl (by omega) (Nat.le_refl _) (fun _ => rfl) (by rw [size_madeCells]; exact Nat.le_refl _)⟩⟩
            rw [hx, hy]; exact hr
          · cases hm
        · cases hm
      · cases h
    · cases h
  case rng x =>
    split at h
    · rename_i s hev
      cases h
      cases oop <;> simp only [mop, mcall, Bool.false_eq_true] at hm
      rename_i t0 ox
      rw [Bool.and_eq_true] at hm
      obtain ⟨h1, h2⟩ := hm
      have hx := marg_rel hw hf h2
      rw [hev] at hx
      simp only [VRel] at hx
      split at h1
      · rename_i hti
        refine ⟨_, rfl, .pointer (some ⟨w.heap.size, 0, none⟩), w.alloc (.stringIter ⟨s.toArray⟩ 0), 0, ?_, ⟨rfl, rfl⟩, by rw [alloc_heap]; simp, fun c hc => by rw [alloc_heap, Array.getElem?_push, if_neg (by omega)], fun b hb => ⟨⟨rfl, by rw [alloc_heap]; simp⟩, Gh.new_rel _ _ _⟩⟩
        simp only [hx, Instr.range, Sem.run_bind, run_underlying (str_fact hT hti), Result.andThen_ok, Sem.run_pure, run_newObj]
        rfl
      · cases h1
    · cases h

end
end Go.Aw
