import Derived.Test.YtkamgngihebpoaaGreatDoorHoRf
import Derived.AtR
import Derived.RangeFuncRecord
import Derived.RangeFuncIn
import Derived.RangeFuncLeaves
import Derived.IntWalk
/- Code in the frame of a round: what ends behind itself alone. -/
set_option linter.all false
noncomputable section
namespace Go.Aw

/-- A row of operations of which each yields, is passed over, or calls what returns. -/
def OpsN (P : Program) (ops : Array Oper) : List Nat → (Act → World → Prop) → Act → World → Prop
  | [], K, a, w => K a w
  | i :: rest, K, a, w => match ops[i]? with
    | none => OpsN P ops rest K a w
    | some o => if Region.wanted o (yielded ops a.tmps) then (∀ c, o.op ≠ .defer c) ∧
        ((∃ v w', (execOp a.eval o).run P w = .ok (.value v) w' ∧ OpsN P ops rest K (a.put o.dst v) w') ∨
         (∃ w', (execOp a.eval o).run P w = .ok .skip w' ∧ OpsN P ops rest K (a.put o.dst undef) w') ∨
         (∃ f args w', (execOp a.eval o).run P w = .ok (.enter f args) w' ∧ Calls P f args w' fun e w'' => ∃ v, e = .returned v ∧ OpsN P ops rest K (a.put o.dst v) w'') ∨
         (∃ row args w', (execOp a.eval o).run P w = .ok (.row row args) w' ∧ Rows P row args w' fun v w'' => OpsN P ops rest K (a.put o.dst v) w''))
      else OpsN P ops rest K (a.put o.dst undef) w

theorem put_defers (a : Act) (dst : Option Nat) (v : Value) : (a.put dst v).defers = a.defers := by cases dst <;> rfl

theorem OpsN.one {P : Program} {ops : Array Oper} {K : Act → World → Prop} {i : Nat} {rest : List Nat} {a : Act} {w : World} {o : Oper} (ho : ops[i]? = some o) (hw : Region.wanted o (yielded ops a.tmps) = true) (hnd : ∀ c, o.op ≠ .defer c)
    (h : o.wp P a w (fun a' w' => a'.defers = a.defers ∧ OpsN P ops rest K a' w') fun _ _ _ => False) : OpsN P ops (i :: rest) K a w := by
  simp only [OpsN, ho]
  rw [if_pos hw]
  refine ⟨hnd, ?_⟩
  unfold Oper.wp at h
  generalize hr : (execOp a.eval o).run P w = r at h
  cases r with
  | ok n w' =>
    cases n <;> simp only [Oper.upon] at h
    case value v => exact .inl ⟨v, w', rfl, h.2⟩
    case skip => exact .inr (.inl ⟨w', rfl, h.2⟩)
    case enter f args =>
      refine .inr (.inr (.inl ⟨f, args, w', rfl, h.mono fun e w'' he => ?_⟩))
      cases e with
      | returned v => exact ⟨v, rfl, he.2⟩
      | panicked c => exact he.elim
      | outgrown => obtain ⟨_, _, he⟩ := he; exact he.elim
    case row row args => exact .inr (.inr (.inr ⟨row, args, w', rfl, Rows.mono h fun v w'' he => he.2⟩))
    case defer d =>
      exfalso
      have h1 := congrArg List.length h.1
      rw [put_defers] at h1
      simp at h1
  | halt x w' =>
    cases x <;> simp only [Oper.upon] at h

section
variable {Γ : Globs} {P : Program} {T : TTab}

theorem awOps_soundN (hT : TOk P T) {ops : Array Oper} {K : Fr → AHeap → Prop} {Q : AExit → Fr → AHeap → Prop} {K' : Act → World → Prop} {g0 : Gh} {H0 : AHeap} {w0 : World} (hX : ∀ v fr H, ¬ Q (.panic v) fr H)
    (hK : ∀ fr' H' g' a' w', K fr' H' → FRel g' fr' a' → WRel Γ g' H' w' → Ext g0 H0 w0 g' H' w' → K' a' w') :
    ∀ (os : List AOper) (l : List Nat) (fr : Fr) (H : AHeap) (g : Gh) (a : Act) (w : World), bAll (fun o => quiet o.op) os = true → omatch T ops l os = true → awOps Γ P os K Q fr H → FRel g fr a → WRel Γ g H w → Ext g0 H0 w0 g H w → OpsN P ops l K' a w := by
  intro os
  induction os with
  | nil =>
    intro l fr H g a w hq hm h hf hw he
    cases l with
    | nil => exact hK fr H g a w h hf hw he
    | cons i l => simp [omatch] at hm
  | cons o os ih =>
    intro l fr H g a w hq hm h hf hw he
    cases l with
    | nil => simp [omatch] at hm
    | cons i l =>
      simp only [omatch, Bool.and_eq_true] at hm
      obtain ⟨hm1, hm2⟩ := hm
      have hq1 : quiet o.op = true := bAll_iff hq o List.mem_cons_self
      have hq2 : bAll (fun o => quiet o.op) os = true := by
        rw [bAll, hq1] at hq; simpa using hq
      unfold omatch1 at hm1
      split at hm1
      · rename_i op hop
        simp only [Bool.and_eq_true, decide_eq_true_eq] at hm1
        obtain ⟨⟨hd, hmo⟩, hmg⟩ := hm1
        simp only [awOps] at h
        cases hg : gd fr.t o.guard with
        | none => rw [hg] at h; exact h.elim
        | some b =>
          rw [hg] at h
          have hwant := gd_wanted hf hmg hg
          cases b with
          | false =>
            simp only at h
            simp only [OpsN, hop]
            rw [hwant]
            simp only [Bool.false_eq_true, if_false]
            refine ih l _ H g _ w hq2 hm2 h ?_ hw he
            rw [hd]
            exact hf.put o.dst (undef_rel g)
          | true =>
            simp only at h
            refine OpsN.one hop hwant (quiet_op hmo hq1) ?_
            have hdf : ∀ x, o.op ≠ .dfr x := fun x hx => by rw [hx] at hq1; cases hq1
            have h' : awOp Γ P o.op (fun v H' => awOps Γ P os K Q (fr.put o.dst v) H') (fun v H' => Q (.panic v) fr H') fr.t H := by
              cases hoo : o.op <;> rw [hoo] at h <;> first | exact h | exact absurd hoo (hdf _)
            refine awOp_sound hT h' hmo hdf hw hf.t (fun v H' g' w' cv hk hv hw' he' => ?_) (fun v H' g' w' cv hx hv hw' he' => ?_)
            · refine ⟨put_defers _ _ _, ih l _ H' g' _ w' hq2 hm2 hk ?_ hw' (he.trans he')⟩
              rw [hd]
              exact (hf.mono he'.le).put o.dst hv
            · exact hX _ _ _ hx
      · cases hm1

end

/-- A row's steps, in whatever frame. -/
theorem OpsN.steps {P : Program} {ops : Array Oper} {K : Act → World → Prop} : ∀ {l : List Nat} {a : Act} {w : World}, OpsN P ops l K a w → ∀ (b : Frame) (l2 : List Nat) (k : List Item) (cs : List Frame),
    ∃ a' w', K a' w' ∧ Steps P (lone (b.atR a (.inRegion ops (l ++ l2) :: k)) cs w) (lone (b.atR a' (.inRegion ops l2 :: k)) cs w')
  | [], a, w, h, b, l2, k, cs => ⟨a, w, h, Steps.refl P _⟩
  | i :: rest, a, w, h, b, l2, k, cs => by
    simp only [OpsN] at h
    rw [List.cons_append]
    split at h
    · rename_i ho
      obtain ⟨a', w', h1, h2⟩ := OpsN.steps h b l2 k cs
      have hs := stepR_op_skip (P := P) (b := b) (a := a) (k := k) (cs := cs) (w := w) (ops := ops) (i := i) (rest := rest ++ l2) (by simp [ho])
      simp only [ho, Option.bind_none, Act.put] at hs
      exact ⟨a', w', h1, .head hs h2⟩
    · rename_i o ho
      split at h
      · rename_i hw
        obtain ⟨hnd, h⟩ := h
        have hg := stepGR_op (P := P) (b := b) (k := k) (cs := cs) (w := w) (rest := rest ++ l2) ho hw
        rw [Oper.semAt_eq _ _ _ hnd] at hg
        have hfin : ∀ v, (b.atR a (.inRegion ops (i :: (rest ++ l2)) :: k)).finish v = b.atR (a.put o.dst v) (.inRegion ops (rest ++ l2) :: k) := by
          intro v; rw [Frame.finish_atR, ho]; rfl
        rcases h with ⟨v, w', hr, h⟩ | ⟨w', hr, h⟩ | ⟨f, args, w', hr, h⟩ | ⟨row, args, w', hr, h⟩
        · obtain ⟨a', w2, h1, h2⟩ := OpsN.steps h b l2 k cs
          refine ⟨a', w2, h1, .head (step_lone_go ?_) h2⟩
          rw [hg, ← hfin]; simp [stepG.apply, hr]
        · obtain ⟨a', w2, h1, h2⟩ := OpsN.steps h b l2 k cs
          refine ⟨a', w2, h1, .head (step_lone_go ?_) h2⟩
          rw [hg, ← hfin]; simp [stepG.apply, hr]
        · obtain ⟨e, w'', fr, ⟨v, rfl, hR⟩, hsteps, _, hleave⟩ := h (b.atR a (.inRegion ops (i :: (rest ++ l2)) :: k) :: cs)
          have henter : step P (lone (b.atR a (.inRegion ops (i :: (rest ++ l2)) :: k)) cs w) =
              .next (lone (Frame.enter P f args .normal) (b.atR a (.inRegion ops (i :: (rest ++ l2)) :: k) :: cs) w') :=
            step_lone_go (by rw [hg]; simp [stepG.apply, hr, Frame.atR])
          obtain ⟨a', w2, h1, h2⟩ := OpsN.steps hR b l2 k cs
          refine ⟨a', w2, h1, .head henter (hsteps.trans (.head ?_ h2))⟩
          rw [← hfin]; exact step_leave_returned hleave
        · obtain ⟨v, w'', hR, hsteps⟩ := h (b.atR a (.inRegion ops (i :: (rest ++ l2)) :: k)) cs
          have henter : step P (lone (b.atR a (.inRegion ops (i :: (rest ++ l2)) :: k)) cs w) =
              .next (lone (Frame.ofRow P row args .normal) (b.atR a (.inRegion ops (i :: (rest ++ l2)) :: k) :: cs) w') :=
            step_lone_go (by rw [hg]; simp [stepG.apply, hr, Frame.atR])
          obtain ⟨a', w2, h1, h2⟩ := OpsN.steps hR b l2 k cs
          refine ⟨a', w2, h1, .head henter (Steps.trans ?_ h2)⟩
          rw [← hfin]; exact hsteps
      · rename_i hw
        obtain ⟨a', w', h1, h2⟩ := OpsN.steps h b l2 k cs
        have hs := stepR_op_skip (P := P) (b := b) (a := a) (k := k) (cs := cs) (w := w) (ops := ops) (i := i) (rest := rest ++ l2) (by simp [ho]; simpa using hw)
        simp only [ho, Option.bind_some] at hs
        exact ⟨a', w', h1, .head hs h2⟩

/-- Code that ends behind itself, in whatever frame. -/
def codeN (P : Program) (c : Code) (K : Act → World → Prop) (a : Act) (w : World) : Prop :=
  ∀ (b : Frame) (k : List Item) (cs : List Frame), ∃ a' w', K a' w' ∧ Steps P (lone (b.atR a (.code c :: k)) cs w) (lone (b.atR a' k) cs w')

section
variable {Γ : Globs} {P : Program} {T : TTab}

theorem aw_soundN (hT : TOk P T) {g0 : Gh} {H0 : AHeap} {w0 : World} : ∀ (ac : ACode) (c : Code) (Q : AExit → Fr → AHeap → Prop) (K' : Act → World → Prop) (fr : Fr) (H : AHeap) (g : Gh) (a : Act) (w : World), quietC ac = true → mcode T c ac = true → aw Γ P ac Q fr H →
    (∀ v fr H, ¬ Q (.panic v) fr H) → (∀ fr' H' g' a' w', Q .normal fr' H' → FRel g' fr' a' → WRel Γ g' H' w' → Ext g0 H0 w0 g' H' w' → K' a' w') → FRel g fr a → WRel Γ g H w → Ext g0 H0 w0 g H w → codeN P c K' a w := by
  intro ac
  induction ac with
  | skip =>
    intro c Q K' fr H g a w hq hm h hX hK hf hw he
    cases c <;> simp only [mcode, Bool.false_eq_true] at hm
    exact fun b k cs => ⟨a, w, hK _ _ _ _ _ h hf hw he, .one stepR_skip⟩
  | region os =>
    intro c Q K' fr H g a w hq hm h hX hK hf hw he
    cases c <;> try simp only [mcode, Bool.false_eq_true] at hm
    rename_i id ops dr
    cases dr <;> simp only [mcode, Bool.false_eq_true] at hm
    intro b k cs
    have := awOps_soundN hT hX hK os _ fr H g a w hq hm h hf hw he
    obtain ⟨a', w', h1, h2⟩ := this.steps b [] k cs
    rw [List.append_nil] at h2
    exact ⟨a', w', h1, .head stepR_region (Steps.trans h2 (.one stepR_region_end))⟩
  | seq x y ihx ihy =>
    intro c Q K' fr H g a w hq hm h hX hK hf hw he
    cases c <;> simp only [mcode, Bool.false_eq_true] at hm
    rename_i cx cy
    rw [Bool.and_eq_true] at hm
    simp only [quietC, Bool.and_eq_true] at hq
    have := ihx cx _ (fun a' w' => codeN P cy K' a' w') fr H g a w hq.1 hm.1 h (fun v fr H h => hX v fr H h)
      (fun fr' H' g' a' w' hk hf' hw' he' => ihy cy Q K' fr' H' g' a' w' hq.2 hm.2 hk hX hK hf' hw' he') hf hw he
    intro b k cs
    obtain ⟨a', w', h1, h2⟩ := this b (.code cy :: k) cs
    obtain ⟨a'', w'', h3, h4⟩ := h1 b k cs
    exact ⟨a'', w'', h3, .head stepR_seq (Steps.trans h2 h4)⟩
  | block n d ih =>
    intro c Q K' fr H g a w hq hm h hX hK hf hw he
    cases c <;> simp only [mcode, Bool.false_eq_true] at hm
    rename_i id cd
    rw [Bool.and_eq_true] at hm
    have := ih cd _ K' fr H g a w hq hm.2 h (fun v fr H h => hX v fr H h) (fun fr' H' g' a' w' hk hf' hw' he' => hK fr' H' g' a' w' hk hf' hw' he') hf hw he
    intro b k cs
    obtain ⟨a', w', h1, h2⟩ := this b (.inBlock id :: k) cs
    exact ⟨a', w', h1, .head stepR_block (Steps.trans h2 (.one stepR_inBlock))⟩
  | ret => intro c Q K' fr H g a w hq; cases hq
  | exit n => intro c Q K' fr H g a w hq; cases hq
  | draw m L => intro c Q K' fr H g a w hq; cases hq
  | cond x a b => intro c Q K' fr H g a w hq; cases hq
  | loop c => intro c Q K' fr H g a w hq; cases hq
  | rcv => intro c Q K' fr H g a w hq; cases hq
  | rfun => intro c Q K' fr H g a w hq; cases hq
  | bad => intro c Q K' fr H g a w hq; cases hq

end
end Go.Aw

/- A function whose body holds a range over a function leaves with a mark among its deferred calls. -/
namespace Go.Aw

def LeavesK (P : Program) (fn : Func) (tmps : Array Value) (R : Ending → World → Prop) : List Deferred → World → Prop
  | [], w => ∃ v, (results fn tmps).run P w = .ok v w ∧ R (.returned v) w
  | d :: ds, w => ∃ r w', d.target = .collected r ∧ (Instr.takeDeferred r).run P w = .ok [] w' ∧ LeavesK P fn tmps R ds w'

theorem leavesK_steps {P : Program} {fn : Func} {tmps : Array Value} {R : Ending → World → Prop} : ∀ (ds : List Deferred) (w : World) (fr : Frame) (cs : List Frame), fr.mode = .returning → fr.defers = ds → fr.tmps = tmps → P.funcs[fr.fn]? = some fn → fr.kind = .normal →
    LeavesK P fn tmps R ds w → ∃ e w' fr', R e w' ∧ Comes P (lone fr cs w) (lone fr' cs w') e ∧ fr'.fn = fr.fn ∧ fr'.leaving P w' e := by
  intro ds
  induction ds with
  | nil =>
    intro w fr cs hu hd ht hf hk h
    obtain ⟨v, hr, hR⟩ := h
    exact ⟨.returned v, w, fr, hR, Steps.refl P _, rfl, hu, hd, hk, fn, hf, ht ▸ hr⟩
  | cons d ds ih =>
    intro w fr cs hu hd ht hf hk h
    obtain ⟨r, w', htar, htake, hrest⟩ := h
    have h1 := step_collected (cs := cs) (by rw [hu]; simp) hd htar htake
    obtain ⟨e', w'', fr', hR', hs', hfn', hl'⟩ := ih w' { fr with defers := [] ++ ds } cs hu rfl ht hf hk hrest
    exact ⟨e', w'', fr', hR', Comes.of_steps (.one h1) hs', hfn', hl'⟩

def bodyPostK (P : Program) (fn : Func) (R : Ending → World → Prop) : Exit → Act → World → Prop
  | .normal, a, w | .ret, a, w => LeavesK P fn a.tmps R a.defers w
  | .panic chain, a, w => a.defers = [] ∧ R (.panicked chain) w
  | .outgrown, _, w => R .outgrown w
  | _, _, _ => False

theorem calls_of_wp_marks {P : Program} {f : FuncId} {fn : Func} {c : Code} {args : Array Value} {w : World} {R : Ending → World → Prop}
    (hf : P.funcs[f]? = some fn) (hb : fn.body = some c)
    (h : c.wp P (bodyPostK P fn R) { tmps := args ++ Array.replicate (fn.ntmps - args.size) undef, defers := [] } w) : Calls P f args w R := by
  intro cs
  let b : Frame := { (default : Frame) with fn := f, kind := .normal }
  have henter : Frame.enter P f args .normal =
      b.at { tmps := args ++ Array.replicate (fn.ntmps - args.size) undef, defers := [] } [.code c] := by
    simp [Frame.enter, Frame.at, hf, hb, b]
  obtain ⟨e, a', w', hq, harr⟩ := h b [] cs
  rw [← henter] at harr
  cases e with
  | normal =>
    obtain ⟨e', w'', fr', hR, hs, hfn, hl⟩ := leavesK_steps a'.defers w' { b.at a' [] with mode := .returning } cs rfl rfl rfl hf rfl hq
    exact ⟨e', w'', fr', hR, Comes.of_steps (Steps.trans harr (.one step_end)) hs, hfn, hl⟩
  | ret =>
    obtain ⟨todo, hs₀⟩ := harr
    obtain ⟨e', w'', fr', hR, hs, hfn, hl⟩ := leavesK_steps a'.defers w' { b.at a' todo with mode := .returning } cs rfl rfl rfl hf rfl hq
    exact ⟨e', w'', fr', hR, Comes.of_steps hs₀ hs, hfn, hl⟩
  | panic chain =>
    obtain ⟨hd, hR⟩ := hq
    obtain ⟨todo, hs⟩ := harr
    exact ⟨.panicked chain, w', _, hR, hs, rfl, rfl, hd, fn, hf⟩
  | exit id => exact hq.elim
  | goto l => exact hq.elim
  | outgrown => exact ⟨.outgrown, w', b, hq, harr.resolve_left (by simp [b]), rfl, trivial⟩

end Go.Aw

/- The contract of a function whose body holds a range over a function. -/
namespace Go.Aw

def fnQK (Γ : Globs) (F : AFun) (R : AEnd → AHeap → Prop) : AExit → Fr → AHeap → Prop
  | .normal, fr, H | .ret, fr, H => (fr.d = [] ∨ fr.d = [.nilm]) ∧ ∃ vs, evRess Γ fr.t H F.res = some vs ∧ R (.ret (resVal vs)) H
  | .panic v, fr, H => fr.d = [] ∧ R (.pan v) H
  | _, _, _ => False

section
variable {Γ : Globs} {P : Program} {T : TTab}

theorem acalls_of_aw_marks (hT : TOk P T) (hmx : P.follows .mixedOrders = true) {f : Nat} {F : AFun} (hF : FunIn P T f F) {args : List AVal} {H : AHeap} {R : AEnd → AHeap → Prop} (h : aw Γ P F.body (fnQK Γ F R) (F.start args) H) :
    ACalls Γ P f args H R := by
  refine ⟨hF.ok, fun g w vs hw hv => ?_⟩
  obtain ⟨fn, c, h1, h2, h3, h4, h5, h6⟩ := hF
  refine calls_of_wp_marks h1 h3 ?_
  rw [h4]
  have hw0 : WRel Γ (g.setDq fun _ => False) H w := hw.setDq _ fun _ h => h.elim
  have hv0 : VRels (g.setDq fun _ => False) args vs.toList := hv.mono0 (g.setDq_le _) _ _
  refine wp_mono (aw_sound hT hmx _ _ _ _ _ h5 h _ _ w (start_rel hv0) hw0) ?_
  rintro e a' w' ⟨ae, fr', H', g', k1, k2, k3, k4, k5⟩
  -- the caller's blocks, again
  have hold : ∀ D, g.dq D → w'.heap[D]? = some (.deferred (some [])) := by
    intro D hD
    rw [k4.keep D (hw.dqLt hD) fun ⟨b, base, hb, hm⟩ => hw.dqNe hb hm hD rfl]
    exact hw.dq D hD
  have hback := k3.setDq g.dq hold
  have hnew : ∀ D, g'.dq D → w.heap.size ≤ D := fun D hD => (k4.dqN D hD).resolve_left id
  have ext : ∀ w'', w''.heap.size = w'.heap.size → (∀ cb, cb < w.heap.size → w''.heap[cb]? = w'.heap[cb]?) → Io w' w'' → Ext g H w (g'.setDq g.dq) H' w'' := by
    intro w'' hs hk hio
    exact ⟨⟨k4.le.decl, k4.le.mu, k4.le.rho, k4.le.sz, fun _ h => h⟩, k4.dead, k4.live, k4.own, k4.roN, by rw [hs]; exact k4.grow, fun cb hcb hno => (hk cb hcb).trans (k4.keep cb hcb hno), k4.declN, k4.next, k4.io.trans hio, fun _ h => .inl h⟩
  have ret : ((fr'.d = [] ∨ fr'.d = [.nilm]) ∧ ∃ vs, evRess Γ fr'.t H' F.res = some vs ∧ R (.ret (resVal vs)) H') →
      LeavesK P fn a'.tmps (fun e w' => ∃ ae g' H', EndRel g' ae e ∧ WRel Γ g' H' w' ∧ Ext g H w g' H' w' ∧ R ae H') a'.defers w' := by
    rintro ⟨hd, rs, hrs, hR⟩
    have hdd := k2.d
    have ht := k2.t.mono0 (g'.setDq_le g.dq) _ _
    rcases hd with hd | hd
    · rw [hd] at hdd
      have : a'.defers = [] := hdd
      rw [this]
      obtain ⟨cv, hr, hcv⟩ := results_run hT hback ht h6 hrs
      exact ⟨cv, hr, .ret _, _, H', ⟨cv, rfl, hcv⟩, hback, ext w' rfl (fun _ _ => rfl) (.refl _), hR⟩
    · rw [hd] at hdd
      obtain ⟨D, cs', e1, e2, hD, e3⟩ := hdd.resolve_left (fun ⟨_, _, _, _, e, _⟩ => by cases e)
      have e3' : cs' = [] := e3
      subst e3'
      rw [e2]
      have hDh := k3.dq D hD
      have hDn := hnew D hD
      have hnd : ¬ g.dq D := fun hc => by have := hw.dqLt hc; omega
      have hw2 := hback.putOther (o' := .deferred none) hDh (by intro c e f h; cases h) (by intro a b h; cases h) (by intro a b h; cases h) hnd
      refine ⟨D, _, rfl, run_takeDeferred hDh, ?_⟩
      obtain ⟨cv, hr, hcv⟩ := results_run hT hw2 ht h6 hrs
      refine ⟨cv, hr, .ret _, _, H', ⟨cv, rfl, hcv⟩, hw2, ext _ (by simp [World.putObj]) (fun cb hcb => putObj_heap _ _ _ _ (by omega)) ⟨rfl, rfl⟩, hR⟩
  cases ae with
  | normal => cases k1; exact ret k5
  | ret => cases k1; exact ret k5
  | panic v =>
    obtain ⟨cv, rfl, hcv⟩ := k1
    obtain ⟨hd, hR⟩ := k5
    have := k2.d
    rw [hd] at this
    exact ⟨this, .pan v, _, H', ⟨cv, rfl, hcv.mono0 (g'.setDq_le g.dq) _ _⟩, hback, ext w' rfl (fun _ _ => rfl) (.refl _), hR⟩
  | exit n => exact k5.elim
  | goto n => exact k5.elim

end
end Go.Aw

/- One round of a range over a function. -/
namespace Go.Aw

section
variable {Γ : Globs} {P : Program} {T : TTab}

/-- What must hold ahead of a round. -/
def roundW (Γ : Globs) (P : Program) (a b : ACode) (K : AHeap → Prop) (t : List AVal) (H : AHeap) : Prop :=
  aw Γ P a (fun e fr1 H1 => e = .normal ∧ fr1.d = [] ∧ aw Γ P b (fun e2 fr2 H2 => e2 = .normal ∧ fr2.d = [] ∧ K H2) fr1 H1) ⟨t, []⟩ H

theorem round_steps (hT : TOk P T) {a b : ACode} {ca cb : Code} (qa : quietC a = true) (qb : quietC b = true) (ma : mcode T ca a = true) (mb : mcode T cb b = true) {K : AHeap → Prop} {t : List AVal} {H H0 : AHeap} {g g0 : Gh} {W w0 : World}
    {rec : LoopState → Option Code → Loop} (hrec : ∀ s p s' p', { rec s p with state := s', pending := p' } = rec s' p') {l fo : Nat} {tmps : Array Value}
    (hf : VRels g t tmps.toList) (hw : WRel Γ g H W) (he : Ext g0 H0 w0 g H W) (hl0 : w0.heap.size ≤ l) (hl : W.heap[l]? = some (.loop (rec .ready none))) (hst : ∀ s p, (rec s p).state = s) (h : roundW Γ P a b K t H) :
    ∀ (c : Frame) (cs : List Frame), ∃ g' H' W', K H' ∧ WRel Γ g' H' W' ∧ Ext g0 H0 w0 g' H' W' ∧ GLe g g' ∧ W'.heap[l]? = some (.loop (rec .ready none)) ∧
      Steps P (lone (Frame.round l fo tmps ca cb .normal) (c :: cs) W) (lone (c.finish (.bool true)) cs W') := by
  intro c cs
  let b0 : Frame := { (default : Frame) with fn := fo, kind := .normal, roundOf := some l }
  have hb0 : Frame.round l fo tmps ca cb .normal = b0.atR { tmps := tmps, defers := [] } [.code ca, .beginRound, .code cb] := by
    simp [Frame.round, Frame.atR, b0]
  have ha := aw_soundN (g0 := g) (H0 := H) (w0 := W) hT a ca _ (fun a1 w1 => ∃ fr1 H1 g1, FRel g1 fr1 a1 ∧ WRel Γ g1 H1 w1 ∧ Ext g H W g1 H1 w1 ∧ aw Γ P b (fun e2 fr2 H2 => e2 = .normal ∧ fr2.d = [] ∧ K H2) fr1 H1)
    ⟨t, []⟩ H g { tmps := tmps, defers := [] } W qa ma h (fun v fr H h => by cases h.1) (fun fr' H' g' a' w' hk hf' hw' he' => ⟨fr', H', g', hf', hw', he', hk.2.2⟩) ⟨hf, rfl⟩ hw (.refl _ _ _)
  obtain ⟨a1, w1, ⟨fr1, H1, g1, f1, r1, e1, k1⟩, s1⟩ := ha b0 [.beginRound, .code cb] (c :: cs)
  have hl1 := e1.loop hw hl
  have hbr := run_beginRound (P := P) hl1 (hst _ _)
  have s2 := stepR_beginRound (b := b0) (a := a1) (k := [.code cb]) (cs := c :: cs) rfl hbr
  have hbusy : { rec .ready none with state := LoopState.busy } = rec .busy none := by
    have := hrec .ready none .busy none
    rw [← this]
    have h2 : (rec .ready none).pending = none := by
      have := congrArg Loop.pending (hrec .ready none .ready none)
      exact this.symm
    cases hr : rec .ready none
    rw [hr] at h2
    simp only at h2
    subst h2
    rfl
  rw [hbusy] at s2
  have hl1lt : l < w1.heap.size := (Array.getElem?_eq_some_iff.1 hl1).1
  have r2 : WRel Γ g1 H1 (w1.putObj l (.loop (rec .busy none))) := r1.loopPut hl1
  have hl2 : (w1.putObj l (.loop (rec .busy none))).heap[l]? = some (.loop (rec .busy none)) := World.putObj_heap_same hl1lt
  have hb := aw_soundN (g0 := g1) (H0 := H1) (w0 := w1.putObj l (.loop (rec .busy none))) hT b cb _ (fun a2 w2 => ∃ H2 g2, WRel Γ g2 H2 w2 ∧ Ext g1 H1 (w1.putObj l (.loop (rec .busy none))) g2 H2 w2 ∧ K H2)
    fr1 H1 g1 a1 _ qb mb k1 (fun v fr H h => by cases h.1) (fun fr' H' g' a' w' hk hf' hw' he' => ⟨H', g', hw', he', hk.2.2⟩) f1 r2 (.refl _ _ _)
  obtain ⟨a2, w2, ⟨H2, g2, r3, e2, k2⟩, s3⟩ := hb b0 [] (c :: cs)
  have hl3 := e2.loop r2 hl2
  have her := run_endRound (P := P) none hl3
  have hready : { rec .busy none with state := if (none : Option Code).isNone then LoopState.ready else .done, pending := none } = rec .ready none := hrec .busy none .ready none
  rw [hready] at her
  have s4 := stepR_round_end (b := b0) (a := a2) (c := c) (cs := cs) rfl rfl her
  have hl3lt : l < w2.heap.size := (Array.getElem?_eq_some_iff.1 hl3).1
  have eall : Ext g0 H0 w0 g2 H2 w2 := ((he.trans e1).put hl0).trans e2
  refine ⟨g2, H2, w2.putObj l (.loop (rec .ready none)), k2, r3.loopPut hl3, eall.put hl0, e1.le.trans e2.le, World.putObj_heap_same hl3lt, ?_⟩
  · rw [hb0]
    exact Steps.trans s1 (.head s2 (Steps.trans s3 (.one s4)))

end
end Go.Aw

/- A range over a function: slices.Backward's walk, from the last element to the first. -/
namespace Go.Aw

def bwd0 : List AOper := [⟨(some 4), .ld (.t 1), none⟩,
  ⟨(some 5), .lensl (.t 4), none⟩,
  ⟨(some 6), .bin .sub .n (.t 5) (.c (.int .i64 1)), none⟩,
  ⟨(some 3), .mv (.t 6), none⟩]
def bwd1 : List AOper := [⟨(some 7), .mv (.t 3), none⟩,
  ⟨(some 8), .bin .geq .n (.t 7) (.c (.int .i64 0)), none⟩]
def bwd3a (es : Nat) : List AOper := [⟨(some 11), .mv (.t 0), none⟩,
  ⟨(some 12), .mv (.t 3), none⟩,
  ⟨(some 13), .ld (.t 1), none⟩,
  ⟨(some 14), .mv (.t 3), none⟩,
  ⟨(some 15), .iad es (.t 13) (.t 14), none⟩,
  ⟨(some 16), .ldn es (.t 15), none⟩]
def bwd3b : List AOper := [⟨(some 18), .not (.t 17), none⟩]
def bwd3 (es : Nat) : List AOper := bwd3a es ++ ⟨(some 17), .callv (.t 11) [.t 12, .t 16], none⟩ :: bwd3b
def bwd2 : List AOper := [⟨(some 9), .mv (.t 3), none⟩,
  ⟨(some 10), .bin .sub .n (.t 9) (.c (.int .i64 1)), none⟩,
  ⟨(some 3), .mv (.t 10), none⟩]
def bwdBody (es : Nat) : ACode := .seq (.seq (.region bwd1) (.cond (.t 8) (.skip) (.exit 0))) (.seq (.block 1 (.seq (.region (bwd3 es)) (.cond (.t 18) (.ret) (.skip)))) (.region bwd2))
def bwd (es : Nat) : AFun := ⟨19, .seq (.region bwd0) (.block 0 (.loop (bwdBody es))), []⟩

def simpleOp : AOp → Bool
  | .call .. | .callv .. | .pan _ | .dfr _ | .bin _ .s _ _ => false
  | _ => true

section
variable {Γ : Globs} {P : Program} {T : TTab}

theorem awOps_step {dst : Option Nat} {op : AOp} {os : List AOper} {K : Fr → AHeap → Prop} {Q : AExit → Fr → AHeap → Prop} {fr : Fr} {H : AHeap} {r : AVal × AHeap} (h : astep Γ fr.t H op = some r) (hs : simpleOp op = true)
    (k : awOps Γ P os K Q (fr.put dst r.1) r.2) : awOps Γ P (⟨dst, op, none⟩ :: os) K Q fr H := by
  simp only [awOps, gd]
  cases op <;> first
    | (cases hs; done)
    | (simp only [awOp]; rw [h]; exact k)
    | (rename_i bop ek x y
       cases ek <;> first
         | (cases hs; done)
         | (simp only [awOp]
            have : ∀ x y, openNil bop EK.n x y = false := by intro x y; cases bop <;> rfl
            simp only [openNil, cond_false]
            first | (rw [h]; exact k) | (cases bop <;> (simp only [cond_false]; rw [h]; exact k))))

/-- A row of operations, step by step, in whatever frame. -/
theorem region_steps (hT : TOk P T) {ops : Array Oper} {os : List AOper} {l : List Nat} (hq : bAll (fun o => quiet o.op) os = true) (hm : omatch T ops l os = true) {K : Fr → AHeap → Prop} {fr : Fr} {H : AHeap} {g : Gh} {a : Act} {w : World}
    (h : awOps Γ P os K (fun _ _ _ => False) fr H) (hf : FRel g fr a) (hw : WRel Γ g H w) (b : Frame) (l2 : List Nat) (k : List Item) (cs : List Frame) :
    ∃ fr' H' g' a' w', K fr' H' ∧ FRel g' fr' a' ∧ WRel Γ g' H' w' ∧ Ext g H w g' H' w' ∧ Steps P (lone (b.atR a (.inRegion ops (l ++ l2) :: k)) cs w) (lone (b.atR a' (.inRegion ops l2 :: k)) cs w') := by
  have := awOps_soundN hT (K := K) (Q := fun _ _ _ => False) (K' := fun a' w' => ∃ fr' H' g', K fr' H' ∧ FRel g' fr' a' ∧ WRel Γ g' H' w' ∧ Ext g H w g' H' w') (g0 := g) (H0 := H) (w0 := w)
    (fun _ _ _ h => h) (fun fr' H' g' a' w' hk hf' hw' he' => ⟨fr', H', g', hk, hf', hw', he'⟩) os l fr H g a w hq hm h hf hw (.refl _ _ _)
  obtain ⟨a', w', ⟨fr', H', g', h1, h2, h3, h4⟩, hs⟩ := this.steps b l2 k cs
  exact ⟨fr', H', g', a', w', h1, h2, h3, h4, hs⟩

theorem mcode_seq {c : Code} {x y : ACode} (h : mcode T c (.seq x y) = true) : ∃ a b, c = .seq a b ∧ mcode T a x = true ∧ mcode T b y = true := by
  cases c <;> simp only [mcode, Bool.false_eq_true] at h
  rw [Bool.and_eq_true] at h
  exact ⟨_, _, rfl, h.1, h.2⟩

theorem mcode_block {c : Code} {n : Nat} {x : ACode} (h : mcode T c (.block n x) = true) : ∃ a, c = .block n a ∧ mcode T a x = true := by
  cases c <;> simp only [mcode, Bool.false_eq_true] at h
  rw [Bool.and_eq_true] at h
  have := Nat.eq_of_beq_eq_true h.1
  subst this
  exact ⟨_, rfl, h.2⟩

theorem mcode_loop {c : Code} {x : ACode} (h : mcode T c (.loop x) = true) : ∃ a, c = .loop a ∧ mcode T a x = true := by
  cases c <;> simp only [mcode, Bool.false_eq_true] at h
  exact ⟨_, rfl, h⟩

theorem mcode_cond {c : Code} {d : AArg} {x y : ACode} (h : mcode T c (.cond d x y) = true) : ∃ q a b, c = .cond q a b ∧ marg q d = true ∧ mcode T a x = true ∧ mcode T b y = true := by
  cases c <;> simp only [mcode, Bool.false_eq_true] at h
  simp only [Bool.and_eq_true] at h
  exact ⟨_, _, _, rfl, h.1.1, h.1.2, h.2⟩

theorem mcode_region {c : Code} {os : List AOper} (h : mcode T c (.region os) = true) : ∃ id ops, c = .region id ops false ∧ omatch T ops (List.range ops.size) os = true := by
  cases c <;> try simp only [mcode, Bool.false_eq_true] at h
  rename_i id ops dr
  cases dr <;> simp only [mcode, Bool.false_eq_true] at h
  exact ⟨_, _, rfl, h⟩

theorem mcode_skip {c : Code} (h : mcode T c .skip = true) : c = .skip := by
  cases c <;> simp only [mcode, Bool.false_eq_true] at h
  rfl

theorem mcode_exit {c : Code} {n : Nat} (h : mcode T c (.exit n) = true) : c = .exit n := by
  cases c <;> simp only [mcode, Bool.false_eq_true] at h
  rw [Nat.eq_of_beq_eq_true h]

theorem omatch_length {ops : Array Oper} : ∀ {l : List Nat} {os : List AOper}, omatch T ops l os = true → l.length = os.length
  | [], [], _ => rfl
  | [], _ :: _, h => by simp [omatch] at h
  | _ :: _, [], h => by simp [omatch] at h
  | i :: l, o :: os, h => by
    simp only [omatch, Bool.and_eq_true] at h
    simp [omatch_length h.2]

/-- A call of yield. -/
theorem step_yield_op {b : Frame} {a : Act} {ops : Array Oper} {i : Nat} {rest : List Nat} {k : List Item} {cs : List Frame} {w : World} {o : Oper} {fx : Operand} {args : Array Operand} {ats : Array TypeId} {l : Nat} {r : Loop}
    (ho : ops[i]? = some o) (hw : Region.wanted o (yielded ops a.tmps) = true) (hop : o.op = .call { callee := .value fx, args := args, argTypes := ats }) (hfx : a.eval fx = .func (.yield l) #[] #[]) (hl : w.heap[l]? = some (.loop r)) (hs : args.size = r.params.size) :
    step P (lone (b.atR a (.inRegion ops (i :: rest) :: k)) cs w) =
      .next (lone (Frame.round l r.fn ((r.params.zip (args.map a.eval)).foldl (fun tmps (t, a) => tmps.setIfInBounds t a) r.tmps) r.assign r.body .normal) (b.atR a (.inRegion ops (i :: rest) :: k) :: cs) w) := by
  have hg := stepGR_op (P := P) (b := b) (k := k) (cs := cs) (w := w) (rest := rest) ho hw
  rw [Oper.semAt_eq _ _ _ (by intro c hc; rw [hop] at hc; cases hc)] at hg
  have hr : (execOp a.eval o).run P w = .ok (.round l r.fn ((r.params.zip (args.map a.eval)).foldl (fun tmps (t, a) => tmps.setIfInBounds t a) r.tmps) r.assign r.body) w := by
    have := run_yield (P := P) (args := args.map a.eval) hl (by simpa using hs)
    simp [execOp, hop, resolve, hfx, Deferred.ofValue, invoke, this]
  refine step_lone_go ?_
  rw [hg]
  simp [stepG.apply, hr, Frame.atR]

/-- Ahead of n rounds over a slice that lies in a cell. -/
def backL (Γ : Globs) (P : Program) (a b : ACode) (t : List AVal) (p1 p2 bk es : Nat) (K : AHeap → Prop) : Nat → AHeap → Prop
  | 0, H => K H
  | n + 1, H => ∃ s p v, astep Γ [.ptr bk 0] H (.ld (.t 0)) = some (s, H) ∧ astep Γ [s, .int .i64 n] H (.iad es (.t 0) (.t 1)) = some (p, H) ∧ astep Γ [p] H (.ldn es (.t 0)) = some (v, H) ∧
      roundW Γ P a b (fun H' => backL Γ P a b t p1 p2 bk es K n H') ((t.set p1 (.int .i64 n)).set p2 v) H

end
end Go.Aw

/- A range over a function: the walk of slices.Backward, whole. -/
namespace Go.Aw

def bst (l bk : Nat) (i : Int) (x : Nat → AVal) : List AVal :=
  [.yld l, .ptr bk 0, x 2, .int .i64 i, x 4, x 5, x 6, x 7, x 8, x 9, x 10, x 11, x 12, x 13, x 14, x 15, x 16, x 17, x 18]

section
variable {Γ : Globs} {P : Program} {T : TTab}

theorem bwd1_run {l bk : Nat} {i : Int} {x : Nat → AVal} {H : AHeap} : awOps Γ P bwd1 (fun fr H' => H' = H ∧ ∃ x', fr = ⟨bst l bk i x', []⟩ ∧ x' 8 = .bool (decide (i ≥ 0))) (fun _ _ _ => False) ⟨bst l bk i x, []⟩ H := by
  refine awOps_step (r := (.int .i64 i, H)) rfl rfl ?_
  refine awOps_step (r := (.bool (decide (i ≥ 0)), H)) rfl rfl ?_
  refine ⟨rfl, fun n => lget (bst l bk i fun m => if m = 7 then .int .i64 i else if m = 8 then .bool (decide (i ≥ 0)) else x m) n, rfl, rfl⟩

theorem i64_fit {n : Int} (h : -1 ≤ n) (h2 : n ≤ limit) : IntKind.i64.wrap n = n := IntWalk.i64_in n ⟨by omega, by unfold limit at h2; omega⟩

theorem bwd2_run {l bk : Nat} {i : Int} (h1 : 0 ≤ i) (h2 : i ≤ limit) {x : Nat → AVal} {H : AHeap} : awOps Γ P bwd2 (fun fr H' => H' = H ∧ ∃ x', fr = ⟨bst l bk (i - 1) x', []⟩) (fun _ _ _ => False) ⟨bst l bk i x, []⟩ H := by
  refine awOps_step (r := (.int .i64 i, H)) rfl rfl ?_
  refine awOps_step (r := (.int .i64 (i - 1), H)) ?_ rfl ?_
  · show some (AVal.int .i64 (IntKind.i64.wrap (i - 1)), H) = _
    rw [i64_fit (by omega) (by omega)]
  refine awOps_step (r := (.int .i64 (i - 1), H)) rfl rfl ?_
  exact ⟨rfl, fun n => lget (bst l bk i fun m => if m = 9 then .int .i64 i else if m = 10 then .int .i64 (i - 1) else x m) n, rfl⟩

theorem bwd3_run {l bk es : Nat} {i : Int} {s p v : AVal} {x : Nat → AVal} {H : AHeap} (h1 : astep Γ [.ptr bk 0] H (.ld (.t 0)) = some (s, H)) (h2 : astep Γ [s, .int .i64 i] H (.iad es (.t 0) (.t 1)) = some (p, H)) (h3 : astep Γ [p] H (.ldn es (.t 0)) = some (v, H)) :
    awOps Γ P (bwd3a es) (fun fr H' => H' = H ∧ ∃ x', fr = ⟨bst l bk i x', []⟩ ∧ x' 11 = .yld l ∧ x' 12 = .int .i64 i ∧ x' 16 = v) (fun _ _ _ => False) ⟨bst l bk i x, []⟩ H := by
  refine awOps_step (r := (.yld l, H)) rfl rfl ?_
  refine awOps_step (r := (.int .i64 i, H)) rfl rfl ?_
  refine awOps_step (r := (s, H)) h1 rfl ?_
  refine awOps_step (r := (.int .i64 i, H)) rfl rfl ?_
  refine awOps_step (r := (p, H)) h2 rfl ?_
  refine awOps_step (r := (v, H)) h3 rfl ?_
  exact ⟨rfl, fun n => lget (bst l bk i fun m => if m = 11 then .yld l else if m = 12 then .int .i64 i else if m = 13 then s else if m = 14 then .int .i64 i else if m = 15 then p else if m = 16 then v else x m) n, rfl, rfl, rfl, rfl⟩

theorem bwd3b_run {l bk : Nat} {i : Int} {x : Nat → AVal} {H : AHeap} (hx : x 17 = .bool true) : awOps Γ P bwd3b (fun fr H' => H' = H ∧ ∃ x', fr = ⟨bst l bk i x', []⟩ ∧ x' 18 = .bool false) (fun _ _ _ => False) ⟨bst l bk i x, []⟩ H := by
  refine awOps_step (r := (.bool false, H)) ?_ rfl ?_
  · show (match x 17 with | .bool b => some (AVal.bool (!b), H) | _ => none) = _
    rw [hx]; rfl
  exact ⟨rfl, fun n => lget (bst l bk i fun m => if m = 18 then .bool false else x m) n, rfl, rfl⟩

theorem bwd0_run {l bk : Nat} {s : AVal} {n : Nat} {H : AHeap} (h1 : astep Γ [.ptr bk 0] H (.ld (.t 0)) = some (s, H)) (h2 : slLen s = some n) (h3 : n ≤ limit) :
    awOps Γ P bwd0 (fun fr H' => H' = H ∧ ∃ x', fr = ⟨bst l bk (n - 1 : Int) x', []⟩) (fun _ _ _ => False) ((bwd 0).start [.yld l, .ptr bk 0]) H := by
  refine awOps_step (r := (s, H)) h1 rfl ?_
  refine awOps_step (r := (.int .i64 n, H)) ?_ rfl ?_
  · show (slLen s).map (fun n => (i64v n, H)) = _
    rw [h2]; rfl
  refine awOps_step (r := (.int .i64 (n - 1 : Int), H)) ?_ rfl ?_
  · show some (AVal.int .i64 (IntKind.i64.wrap ((n : Int) - 1)), H) = _
    rw [i64_fit (by omega) (by omega)]
  refine awOps_step (r := (.int .i64 (n - 1 : Int), H)) rfl rfl ?_
  exact ⟨rfl, fun m => lget (bst l bk (n - 1 : Int) fun m => if m = 4 then s else if m = 5 then .int .i64 n else if m = 6 then .int .i64 (n - 1 : Int) else .tup []) m, rfl⟩

end
end Go.Aw

/- A range over a function: slices.Backward ends, and its rounds are run from the last element to the first. -/
namespace Go.Aw

section
variable {Γ : Globs} {P : Program} {T T2 : TTab}

theorem callv_inv {op : Op} {x : AArg} {xs : List AArg} (h : mop2 T op (.callv x xs) = true) : ∃ fx args ats, op = .call { callee := .value fx, args := args, argTypes := ats } ∧ marg fx x = true ∧ margs args.toList xs = true := by
  have h' : mop T op (.callv x xs) = true := h
  cases op <;> simp only [mop, mcall, Bool.false_eq_true] at h'
  rename_i c
  obtain ⟨callee, args, ats⟩ := c
  simp only at h'
  split at h'
  · rename_i fx
    rw [Bool.and_eq_true] at h'
    exact ⟨fx, args, ats, rfl, h'.1, h'.2⟩
  · cases h'

abbrev recOf (fo : Nat) (tmps : Array Value) (ps : List Nat) (ca cb : Code) (D : Nat) (s : LoopState) (p : Option Code) : Loop :=
  { state := s, pending := p, fn := fo, tmps, params := ps.toArray, assign := ca, body := cb, defers := D }

theorem back_loop (hT : TOk P T) (hT2 : TOk P T2) {a b : ACode} {ca cb : Code} (qa : quietC a = true) (qb : quietC b = true) (ma : mcode T2 ca a = true) (mb : mcode T2 cb b = true) {t : List AVal} {p1 p2 es bk l fo D : Nat} {K : AHeap → Prop} {tmps : Array Value}
    {g0 : Gh} {H0 : AHeap} {w0 : World} (hl0 : w0.heap.size ≤ l) {cbody : Code} (hc : mcode T cbody (bwdBody es) = true) (b0 : Frame) (cs : List Frame) :
    ∀ n, n ≤ limit → ∀ (g : Gh) (H : AHeap) (act : Act) (W : World) (x : Nat → AVal), backL Γ P a b t p1 p2 bk es K n H → VRels g t tmps.toList → FRel g ⟨bst l bk (n - 1 : Int) x, []⟩ act → WRel Γ g H W → Ext g0 H0 w0 g H W →
      W.heap[l]? = some (.loop (recOf fo tmps [p1, p2] ca cb D .ready none)) →
      ∃ g' H' act' W', K H' ∧ act'.defers = [] ∧ WRel Γ g' H' W' ∧ Ext g0 H0 w0 g' H' W' ∧ GLe g g' ∧ W'.heap[l]? = some (.loop (recOf fo tmps [p1, p2] ca cb D .ready none)) ∧
        Steps P (lone (b0.atR act (.code cbody :: .inLoop cbody :: [.inBlock 0])) cs W) (lone (b0.atR act' []) cs W') := by
  obtain ⟨cA, cB, rfl, hA, hB⟩ := mcode_seq hc
  obtain ⟨cA1, cA2, rfl, hA1, hA2⟩ := mcode_seq hA
  obtain ⟨id1, ops1, rfl, m1⟩ := mcode_region hA1
  obtain ⟨q1, y1, z1, rfl, mq1, my1, mz1⟩ := mcode_cond hA2
  obtain rfl := mcode_skip my1
  obtain rfl := mcode_exit mz1
  obtain ⟨cB1, cB2, rfl, hB1, hB2⟩ := mcode_seq hB
  obtain ⟨cB1', rfl, hB1'⟩ := mcode_block hB1
  obtain ⟨cC1, cC2, rfl, hC1, hC2⟩ := mcode_seq hB1'
  obtain ⟨id3, ops3, rfl, m3⟩ := mcode_region hC1
  obtain ⟨q3, y3, z3, rfl, mq3, my3, mz3⟩ := mcode_cond hC2
  obtain rfl := mcode_skip mz3
  obtain ⟨id2, ops2, rfl, m2⟩ := mcode_region hB2
  have hsz : ops3.size = 8 := by have := omatch_length m3; simpa [bwd3, bwd3a, bwd3b] using this
  rw [hsz] at m3
  have hm3 : omatch T ops3 [0, 1, 2, 3, 4, 5] (bwd3a es) = true ∧ omatch1 T ops3 6 ⟨some 17, .callv (.t 11) [.t 12, .t 16], none⟩ = true ∧ omatch T ops3 [7] bwd3b = true := by
    rw [show List.range 8 = [0, 1, 2, 3, 4, 5, 6, 7] from rfl] at m3
    simp only [bwd3, bwd3a, bwd3b, List.cons_append, List.nil_append, omatch, Bool.and_eq_true] at m3 ⊢
    obtain ⟨k0, k1, k2, k3, k4, k5, k6, k7, _⟩ := m3
    exact ⟨⟨k0, k1, k2, k3, k4, k5, trivial⟩, k6, k7, trivial⟩
  obtain ⟨m3a, m3c, m3b⟩ := hm3
  unfold omatch1 at m3c
  split at m3c
  case h_2 => cases m3c
  rename_i o6 ho6
  simp only [Bool.and_eq_true, decide_eq_true_eq] at m3c
  obtain ⟨⟨hd6, hmo6⟩, hg6⟩ := m3c
  obtain ⟨fx, args6, ats6, hop6, mfx, margs6⟩ := callv_inv hmo6
  have hguard : o6.guard = none := by
    cases hgg : o6.guard with
    | none => rfl
    | some q => rw [hgg] at hg6; cases hg6
  intro n
  -- the head of a round: is there another?
  have head : ∀ (i : Int) (g : Gh) (H : AHeap) (act : Act) (W : World) (x : Nat → AVal) (k : List Item), FRel g ⟨bst l bk i x, []⟩ act → WRel Γ g H W →
      ∃ g' act' W' x', FRel g' ⟨bst l bk i x', []⟩ act' ∧ WRel Γ g' H W' ∧ Ext g H W g' H W' ∧
        Steps P (lone (b0.atR act (.code (.seq (.region id1 ops1 false) (.cond q1 .skip (.exit 0))) :: k)) cs W) (lone (b0.atR act' (.code (if decide (i ≥ 0) then .skip else .exit 0) :: k)) cs W') := by
    intro i g H act W x k hf hw
    obtain ⟨fr', H', g', a', w', ⟨rfl, x', rfl, hx8⟩, f1, r1, e1, s1⟩ := region_steps hT (l := List.range ops1.size) (by rfl) m1 bwd1_run hf hw b0 [] (.code (.cond q1 .skip (.exit 0)) :: k) cs
    rw [List.append_nil] at s1
    have hev : a'.eval q1 = .bool (decide (i ≥ 0)) := by
      have := marg_rel r1 f1.t mq1
      rw [show (AArg.t 8).ev Γ (bst l bk i x') = x' 8 from rfl, hx8] at this
      exact this
    exact ⟨g', a', w', x', f1, r1, e1, .head stepR_seq (.head stepR_region (Steps.trans s1 (.head stepR_region_end (.one (stepR_cond hev)))))⟩
  induction n with
  | zero =>
    intro hn g H act W x hb ht hf hw he hl
    obtain ⟨g', a', w', x', f1, r1, e1, s1⟩ := head _ g H act W x (.code (.seq (.block 1 (.seq (.region id3 ops3 false) (.cond q3 y3 .skip))) (.region id2 ops2 false)) :: .inLoop (.seq (.seq (.region id1 ops1 false) (.cond q1 .skip (.exit 0))) (.seq (.block 1 (.seq (.region id3 ops3 false) (.cond q3 y3 .skip))) (.region id2 ops2 false))) :: [.inBlock 0]) hf hw
    rw [show (decide (((0 : Nat) : Int) - 1 ≥ 0)) = false from rfl] at s1
    exact ⟨g', H, a', w', hb, f1.d, r1, he.trans e1, e1.le, e1.loop hw hl, .head stepR_seq (Steps.trans s1 (.one (stepR_exit rfl)))⟩
  | succ n ih =>
    intro hn g H act W x hb ht hf hw he hl
    obtain ⟨s, p, v, hs, hp, hv, hround⟩ := hb
    rw [show (((n + 1 : Nat) : Int) - 1) = (n : Int) by omega] at hf
    obtain ⟨g1, a1, w1, x1, f1, r1, e1, s1⟩ := head _ g H act W x (.code (.seq (.block 1 (.seq (.region id3 ops3 false) (.cond q3 y3 .skip))) (.region id2 ops2 false)) :: .inLoop (.seq (.seq (.region id1 ops1 false) (.cond q1 .skip (.exit 0))) (.seq (.block 1 (.seq (.region id3 ops3 false) (.cond q3 y3 .skip))) (.region id2 ops2 false))) :: [.inBlock 0]) hf hw
    rw [show (decide ((n : Int) ≥ 0)) = true by simp] at s1
    simp only [if_true] at s1
    obtain ⟨fr2, H2, g2, a2, w2, ⟨rfl, x2, rfl, h11, h12, h16⟩, f2, r2, e2, s2⟩ := region_steps hT (by rfl) m3a (bwd3_run hs hp hv) f1 r1 b0 [6, 7] (.code (.cond q3 y3 .skip) :: .inBlock 1 :: .code (.region id2 ops2 false) :: .inLoop (.seq (.seq (.region id1 ops1 false) (.cond q1 .skip (.exit 0))) (.seq (.block 1 (.seq (.region id3 ops3 false) (.cond q3 y3 .skip))) (.region id2 ops2 false))) :: [.inBlock 0]) cs
    have hl2 := e2.loop r1 (e1.loop hw hl)
    have hfx : a2.eval fx = .func (.yield l) #[] #[] := by
      have := marg_rel r2 f2.t mfx
      rw [show (AArg.t 11).ev Γ (bst l bk n x2) = x2 11 from rfl, h11] at this
      exact this
    have hargs := margs_rel r2 f2.t margs6
    rw [show ([.t 12, .t 16].map fun x => AArg.ev Γ (bst l bk n x2) x) = [x2 12, x2 16] from rfl, h12, h16] at hargs
    obtain ⟨v1, vs1, hv1, rv1, v2, vs2, rfl, rv2, rfl⟩ := hargs
    have hsize : args6.size = 2 := by
      have := congrArg List.length hv1
      simpa using this
    have hmap : args6.map a2.eval = #[v1, v2] := by
      apply Array.toList_inj.1
      simpa using hv1
    have s3 := step_yield_op (P := P) (b := b0) (a := a2) (rest := [7]) (k := .code (.cond q3 y3 .skip) :: .inBlock 1 :: .code (.region id2 ops2 false) :: .inLoop (.seq (.seq (.region id1 ops1 false) (.cond q1 .skip (.exit 0))) (.seq (.block 1 (.seq (.region id3 ops3 false) (.cond q3 y3 .skip))) (.region id2 ops2 false))) :: [.inBlock 0]) (cs := cs) (w := w2)
      ho6 (by simp [Region.wanted, hguard]) hop6 hfx hl2 (by simpa using hsize)
    have hfold : ((recOf fo tmps [p1, p2] ca cb D .ready none).params.zip #[v1, v2]).foldl (fun tmps (t, a) => tmps.setIfInBounds t a) (recOf fo tmps [p1, p2] ca cb D .ready none).tmps = (tmps.setIfInBounds p1 v1).setIfInBounds p2 v2 := by simp
    rw [hmap, hfold] at s3
    have htm : VRels g2 ((t.set p1 (.int .i64 n)).set p2 v) ((tmps.setIfInBounds p1 v1).setIfInBounds p2 v2).toList := by
      simp only [Array.toList_setIfInBounds]
      exact ((ht.mono (e1.le.trans e2.le) _ _).set p1 rv1).set p2 rv2
    obtain ⟨g3, H3, w3, k3, r3, e3, le3, l3, s4⟩ := round_steps (rec := recOf fo tmps [p1, p2] ca cb D) (fo := fo) (g0 := g0) (H0 := H0) (w0 := w0) hT2 qa qb ma mb (fun _ _ _ _ => rfl) htm r2 ((he.trans e1).trans e2) hl0 hl2 (fun _ _ => rfl) hround
      (b0.atR a2 (.inRegion ops3 [6, 7] :: .code (.cond q3 y3 .skip) :: .inBlock 1 :: .code (.region id2 ops2 false) :: .inLoop (.seq (.seq (.region id1 ops1 false) (.cond q1 .skip (.exit 0))) (.seq (.block 1 (.seq (.region id3 ops3 false) (.cond q3 y3 .skip))) (.region id2 ops2 false))) :: [.inBlock 0])) cs
    rw [Frame.finish_atR, ho6, Option.bind_some, hd6] at s4
    have f3 : FRel g3 ⟨bst l bk n fun m => if m = 17 then .bool true else x2 m, []⟩ (a2.put (some 17) (.bool true)) :=
      (f2.mono le3).put (some 17) (v := .bool true) rfl
    obtain ⟨fr5, H5, g5, a5, w5, ⟨rfl, x5, rfl, h18⟩, f5, r5, e5, s5⟩ := region_steps hT (by rfl) m3b (bwd3b_run rfl) f3 r3 b0 [] (.code (.cond q3 y3 .skip) :: .inBlock 1 :: .code (.region id2 ops2 false) :: .inLoop (.seq (.seq (.region id1 ops1 false) (.cond q1 .skip (.exit 0))) (.seq (.block 1 (.seq (.region id3 ops3 false) (.cond q3 y3 .skip))) (.region id2 ops2 false))) :: [.inBlock 0]) cs
    have hev : a5.eval q3 = .bool false := by
      have := marg_rel r5 f5.t mq3
      rw [show (AArg.t 18).ev Γ (bst l bk n x5) = x5 18 from rfl, h18] at this
      exact this
    obtain ⟨fr6, H6, g6, a6, w6, ⟨rfl, x6, rfl⟩, f6, r6, e6, s6⟩ := region_steps hT (l := List.range ops2.size) (by rfl) m2 (bwd2_run (by omega) (by omega)) f5 r5 b0 [] (.inLoop (.seq (.seq (.region id1 ops1 false) (.cond q1 .skip (.exit 0))) (.seq (.block 1 (.seq (.region id3 ops3 false) (.cond q3 y3 .skip))) (.region id2 ops2 false))) :: [.inBlock 0]) cs
    rw [List.append_nil] at s6
    obtain ⟨g7, H7, a7, w7, k7, d7, r7, e7, le7, l7, s7⟩ := ih (by omega) g6 H6 a6 w6 x6 k3 (ht.mono (((e1.le.trans e2.le).trans le3).trans (e5.le.trans e6.le)) _ _) f6 r6 ((e3.trans e5).trans e6) (e6.loop r5 (e5.loop r3 l3))
    refine ⟨g7, H7, a7, w7, k7, d7, r7, e7, (((e1.le.trans e2.le).trans le3).trans (e5.le.trans e6.le)).trans le7, l7, ?_⟩
    have hrange : List.range ops3.size = [0, 1, 2, 3, 4, 5] ++ [6, 7] := by rw [hsz]; rfl
    refine .head stepR_seq (Steps.trans s1 (.head stepR_skip (.head stepR_seq (.head stepR_block (.head stepR_seq (.head stepR_region ?_))))))
    rw [hrange]
    exact Steps.trans s2 (.head s3 (Steps.trans s4 (Steps.trans s5 (.head stepR_region_end (.head (stepR_cond hev) (.head stepR_skip (.head stepR_inBlock (.head stepR_region (Steps.trans s6 (.head stepR_region_end (.head stepR_inLoop s7)))))))))))

/-- THE RANGE OVER A SLICE FROM BEHIND. -/
theorem back_iter (hT : TOk P T) {f es : Nat} (hF : FunIn P T f (bwd es)) {bk : Nat} {t : List AVal} {H : AHeap} {p1 p2 : Nat} {a b : ACode} (qa : quietC a = true) (qb : quietC b = true) {K : AHeap → Prop} {s : AVal} {n : Nat}
    (hs : astep Γ [.ptr bk 0] H (.ld (.t 0)) = some (s, H)) (hn : slLen s = some n) (hlim : n ≤ limit) (h : backL Γ P a b t p1 p2 bk es K n H) : AIter Γ P f [.ptr bk 0] [p1, p2] a b K t H := by
  refine ⟨hF.ok, fun T2 ca cb fo l D tmps capv g0 g H0 w0 W hT2 ma mb ht hcap hw he hl0 hl cs => ?_⟩
  obtain ⟨fn, c, h1, h2, h3, h4, h5, h6⟩ := hF
  obtain ⟨cA, cB, rfl, hA, hB⟩ := mcode_seq h5
  obtain ⟨id0, ops0, rfl, m0⟩ := mcode_region hA
  obtain ⟨cB', rfl, hB'⟩ := mcode_block hB
  obtain ⟨cbody, rfl, hbody⟩ := mcode_loop hB'
  let b0 : Frame := { (default : Frame) with fn := f, kind := .normal, roundOf := none }
  have henter : Frame.enter P f (#[Value.func (.yield l) #[] #[]] ++ capv) .normal =
      b0.atR { tmps := (#[Value.func (.yield l) #[] #[]] ++ capv) ++ Array.replicate (19 - (#[Value.func (.yield l) #[] #[]] ++ capv).size) undef, defers := [] } [.code (.seq (.region id0 ops0 false) (.block 0 (.loop cbody)))] := by
    simp [Frame.enter, Frame.atR, h1, h3, h4, b0, bwd]
  have hst : FRel g ((bwd 0).start [.yld l, .ptr bk 0]) { tmps := (#[Value.func (.yield l) #[] #[]] ++ capv) ++ Array.replicate (19 - (#[Value.func (.yield l) #[] #[]] ++ capv).size) undef, defers := [] } := by
    refine start_rel (F := bwd 0) (args := [.yld l, .ptr bk 0]) ?_
    rw [Array.toList_append]
    exact ⟨_, _, rfl, rfl, hcap⟩
  obtain ⟨fr1, H1, g1, a1, w1, ⟨rfl, x1, rfl⟩, f1, r1, e1, s1⟩ := region_steps hT (l := List.range ops0.size) (by rfl) m0 (bwd0_run (l := l) hs hn hlim) hst hw b0 [] [.code (.block 0 (.loop cbody))] cs
  rw [List.append_nil] at s1
  obtain ⟨g2, H2, a2, w2, k2, d2, r2, e2, le2, l2, s2⟩ := back_loop hT hT2 qa qb ma mb hl0 hbody b0 cs n hlim g1 H1 a1 w1 x1 h (ht.mono e1.le _ _) f1 r1 (he.trans e1) (e1.loop hw hl)
  have hres : fn.results = #[] := by
    cases hr : fn.results.toList with
    | nil => exact Array.toList_inj.1 hr
    | cons r rs => rw [hr] at h6; cases h6
  refine ⟨.returned (.tuple #[]), w2, { b0.atR a2 [] with mode := .returning }, ⟨_, g2, H2, rfl, r2, e2, e1.le.trans le2, l2, k2⟩, ?_, rfl, ?_⟩
  · rw [henter]
    exact .head stepR_seq (.head stepR_region (Steps.trans s1 (.head stepR_region_end (.head stepR_block (.head stepR_loop (Steps.trans s2 (.one (stepR_end rfl))))))))
  · refine ⟨rfl, d2, rfl, fn, h1, ?_⟩
    simp [results, hres]

end
end Go.Aw
