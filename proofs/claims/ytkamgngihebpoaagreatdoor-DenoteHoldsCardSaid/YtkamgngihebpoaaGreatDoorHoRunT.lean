import Derived.Test.YtkamgngihebpoaaGreatDoorHoRun
import Derived.Test.YtkamgngihebpoaaGreatDoorHoRf
import Derived.RowKit3
import Derived.ProofKit
import Derived.OpenShut
/- A run of the program over frames kept as trees. -/
set_option linter.all false
noncomputable section
namespace Go.Aw

abbrev TRun := ACode → FrT → AHeap → TRes

noncomputable def evRessG (Γ : Globs) (t : Nat → AVal) (H : AHeap) : List AOp → Option (List AVal)
  | [] => some []
  | o :: os => match astepG Γ t H o with
    | some r => (evRessG Γ t H os).map (r.1 :: ·)
    | none => none

theorem evRessG_eq (Γ : Globs) (t : List AVal) (H : AHeap) : ∀ os, evRessG Γ (lget t) H os = evRess Γ t H os
  | [] => rfl
  | o :: os => by
    simp only [evRessG, evRess, astepG_eq, evRessG_eq Γ t H os]
    cases astep Γ t H o <;> rfl

noncomputable def argsT (n : Nat) : Nat → List AVal → VT → Option VT
  | _, [], t => some t
  | k, a :: as, t => match tputT t n (some k) a with
    | some t => argsT n (k + 1) as t
    | none => none

noncomputable def startT (F : AFun) (args : List AVal) : Option FrT :=
  match argsT F.nt 0 args .leaf with
  | some t => some ⟨t, F.nt, []⟩
  | none => none

theorem argsT_rel {n : Nat} : ∀ {as : List AVal} {k : Nat} {t : VT} {τ : VT} {l : List AVal}, argsT n k as t = some τ → l.length = n → lget l = t.get → k ≤ n →
    ∃ l' : List AVal, l'.length = n ∧ lget l' = τ.get ∧ k + as.length ≤ n ∧ l' = l.take k ++ as ++ l.drop (k + as.length)
  | [], k, t, τ, l, h, hl, hg, hk => by
    cases h
    exact ⟨l, hl, hg, by simpa using hk, by simp⟩
  | a :: as, k, t, τ, l, h, hl, hg, hk => by
    simp only [argsT] at h
    split at h
    · rename_i t' hp
      have hkn : k < n := by
        simp only [tputT] at hp
        cases hb : Nat.blt k n with
        | true => exact Nat.blt_eq.mp hb
        | false => rw [hb] at hp; cases hp
      obtain ⟨h1, h2⟩ := tputT_rel hl hg hp
      obtain ⟨l', h3, h4, h5, h6⟩ := argsT_rel h h1 h2 hkn
      refine ⟨l', h3, h4, by simp; omega, ?_⟩
      rw [h6]
      simp only [tput]
      have hkl : k < l.length := by omega
      rw [List.take_set, List.drop_set, if_pos (by omega)]
      have e1 : (l.take (k + 1)).set k a = l.take k ++ [a] := by
        rw [List.take_succ_eq_append_getElem hkl, List.set_append_right _ _ (by simp; omega)]
        simp [Nat.min_eq_left (Nat.le_of_lt hkl)]
      rw [e1]
      have e2 : k + 1 + as.length = k + (a :: as).length := by simp; omega
      rw [e2]
      simp
    · cases h

theorem startT_rel {F : AFun} {args : List AVal} {ft : FrT} (h : startT F args = some ft) : RelF (F.start args) ft := by
  unfold startT at h
  split at h
  · rename_i t ht
    cases h
    obtain ⟨l', h1, h2, h3, h4⟩ := argsT_rel (l := List.replicate F.nt (.tup [])) ht (by simp) (by
      funext k
      rw [lget_eq, List.getElem?_replicate, VT.get_leaf]
      split <;> rfl) (Nat.zero_le _)
    have e : l' = args ++ List.replicate (F.nt - args.length) (.tup []) := by
      rw [h4]; simp
    refine ⟨?_, rfl, ?_⟩
    · show (args ++ List.replicate (F.nt - args.length) (AVal.tup [])).length = F.nt
      rw [← e, h1]
    · show lget (args ++ List.replicate (F.nt - args.length) (AVal.tup [])) = t.get
      rw [← e, h2]
  · cases h

noncomputable def evBackT (Γ : Globs) (res : List AOp) (t : Nat → AVal) : TRes → Option (AEnd × AHeap)
  | some (.normal, fr, H) | some (.ret, fr, H) => match fr.d with
    | [] => (evRessG Γ t H res).map fun vs => (.ret (resVal vs), H)
    | _ => none
  | _ => none

noncomputable def evDefT (Γ : Globs) (run : TRun) (D : AFun) (cap : List AVal) (pn : AVal) (res : List AOp) (t : Nat → AVal) (H : AHeap) : Option (AEnd × AHeap) :=
  match D.body with
  | .seq (.rcv dst os) c => match D.res with
    | [] => match startT D cap with
      | some st => match st.put dst pn with
        | some st => match evOpsT Γ (fun _ _ _ => none) os st H with
          | some (.normal, fr, H1) => evBackT Γ res t (run c fr H1)
          | _ => none
        | none => none
      | none => none
    | _ => none
  | _ => none

noncomputable def resClearG (t : Nat → AVal) : List AOp → Bool
  | [] => true
  | o :: os => bAll (fun s => !isJunk (t s)) o.slots && resClearG t os

theorem resClearG_eq (t : List AVal) : ∀ os, resClearG (lget t) os = resClear t os
  | [] => rfl
  | o :: os => by simp only [resClearG, resClear, resClearG_eq t os]

noncomputable def evFT (Γ : Globs) (tab : Tb) (run : TRun) : ACall := fun f args H =>
  match tab.kn f args with
  | some r => some (knEnd r H)
  | none => match tab.fn f with
  | none => none
  | some F => match startT F args with
    | none => none
    | some st => match run F.body st H with
      | some (.panic v, fr, H') => match fr.d with
        | [] => some (.pan v, H')
        | [.fn df cap] => match tab.fn df with
          | some D => bif resClearG fr.t.get F.res && isIface v then evDefT Γ run D cap v F.res fr.t.get H' else none
          | none => none
        | _ => none
      | some (.normal, fr, H') | some (.ret, fr, H') => match fr.d with
        | [] => (evRessG Γ fr.t.get H' F.res).map fun vs => (.ret (resVal vs), H')
        | [.nilm] => (evRessG Γ fr.t.get H' F.res).map fun vs => (.ret (resVal vs), H')
        | [.fn df cap] => match tab.fn df with
          | some D => evDefT Γ run D cap .nili F.res fr.t.get H'
          | none => none
        | _ => none
      | _ => none

noncomputable def evRoundsT (Γ : Globs) (run : TRun) (a b : ACode) (t : VT) (w p1 p2 bk es : Nat) : Nat → AHeap → Option AHeap
  | 0, H => some H
  | n + 1, H => match rfElem Γ bk es n H with
    | some v => match tputT t w (some p1) (.int .i64 n) with
      | some t0 => match tputT t0 w (some p2) v with
        | some t1 => match run a ⟨t1, w, []⟩ H with
          | some (.normal, ⟨t2, w2, []⟩, H1) => match run b ⟨t2, w2, []⟩ H1 with
            | some (.normal, ⟨_, _, []⟩, H2) => evRoundsT Γ run a b t w p1 p2 bk es n H2
            | _ => none
          | _ => none
        | none => none
      | none => none
    | none => none

noncomputable def evStepT (Γ : Globs) (tab : Tb) (run : TRun) : TRun := fun c fr H =>
  match c with
  | .skip => some (.normal, fr, H)
  | .ret => some (.ret, fr, H)
  | .exit k => some (.exit k, fr, H)
  | .region os => evOpsT Γ (evFT Γ tab run) os fr H
  | .draw m L => match evDrawT Γ (evFT Γ tab run) H.next fr.n L fr.t L [] fr.t (H.bump m) with
    | some (e, t, H') => some (e, ⟨t, fr.n, fr.d⟩, H')
    | none => none
  | .seq a b => match run a fr H with
    | some (.normal, fr', H') => run b fr' H'
    | r => r
  | .cond x a b => match x.evG Γ fr.t.get with
    | .bool true => run a fr H
    | .bool false => run b fr H
    | _ => none
  | .block k c => match run c fr H with
    | some (.exit j, fr', H') => bif Nat.beq j k then some (.normal, fr', H') else some (.exit j, fr', H')
    | r => r
  | .loop c => match run c fr H with
    | some (.normal, fr', H') => run (.loop c) fr' H'
    | r => r
  | .rfun x ps a b => match rfHead Γ tab.bk (x.evG Γ fr.t.get) ps a b H with
    | some (p1, p2, bk, es, n) => match evRoundsT Γ run a b fr.t fr.n p1 p2 bk es n H with
      | some H' => some (.normal, ⟨fr.t, fr.n, .nilm :: fr.d⟩, H')
      | none => none
    | none => none
  | _ => none

noncomputable def evT (Γ : Globs) (tab : Tb) (n : Nat) : TRun :=
  Nat.rec (motive := fun _ => TRun) (fun _ _ _ => none) (fun _ ih => evStepT Γ tab ih) n

def SimR (run : ARun) (runT : TRun) : Prop := ∀ c ft H q, runT c ft H = some q → ∀ fr, RelF fr ft → ∃ r, run c fr H = some r ∧ ResRel r q

section
variable {Γ : Globs} {tab : Tb}

theorem evBackT_sim {run : ARun} {runT : TRun} (hs : SimR run runT) {res : List AOp} {t : List AVal} {c : ACode} {fr : Fr} {ft : FrT} (hr : RelF fr ft) {H : AHeap} {q : AEnd × AHeap} (h : evBackT Γ res (lget t) (runT c ft H) = some q) :
    evBack Γ res t (run c fr H) = some q := by
  unfold evBackT at h
  split at h
  · rename_i ft' H' he
    obtain ⟨⟨e, fr', H2⟩, h1, h2, h3, h4⟩ := hs _ _ _ _ he fr hr
    simp only at h2 h3 h4
    subst h2 h3
    rw [h1]
    simp only [evBack, h4.2.1]
    split at h
    · rename_i hd; rw [hd]; rw [evRessG_eq] at h; exact h
    · cases h
  · rename_i ft' H' he
    obtain ⟨⟨e, fr', H2⟩, h1, h2, h3, h4⟩ := hs _ _ _ _ he fr hr
    simp only at h2 h3 h4
    subst h2 h3
    rw [h1]
    simp only [evBack, h4.2.1]
    split at h
    · rename_i hd; rw [hd]; rw [evRessG_eq] at h; exact h
    · cases h
  · cases h

theorem evDefT_sim {run : ARun} {runT : TRun} (hs : SimR run runT) {D : AFun} {cap : List AVal} {pn : AVal} {res : List AOp} {t : List AVal} {H : AHeap} {q : AEnd × AHeap} (h : evDefT Γ runT D cap pn res (lget t) H = some q) :
    evDef Γ run D cap pn res t H = some q := by
  unfold evDefT at h
  unfold evDef
  split at h
  · rename_i dst os c hb
    (try rw [hb])
    simp only
    split at h
    · rename_i hres
      (try rw [hres])
      split at h
      · rename_i st hst
        split at h
        · rename_i st' hp
          split at h
          · rename_i ft H1 he
            obtain ⟨⟨e, fr', H2⟩, h1, h2, h3, h4⟩ := evOpsT_sim he _ (put_rel (startT_rel hst) hp)
            simp only at h2 h3 h4
            subst h2 h3
            rw [h1]
            exact evBackT_sim hs h4 h
          · cases h
        · cases h
      · cases h
    · cases h
  · cases h

theorem evFT_sim {run : ARun} {runT : TRun} (hs : SimR run runT) {f : Nat} {args : List AVal} {H : AHeap} {q : AEnd × AHeap} (h : evFT Γ tab runT f args H = some q) : evF Γ tab run f args H = some q := by
  unfold evFT at h
  unfold evF
  split at h
  · rename_i r' hk
    rw [hk]
    exact h
  rename_i hk
  rw [hk]
  simp only
  split at h
  · cases h
  · rename_i F hF
    (try rw [hF])
    simp only
    split at h
    · cases h
    · rename_i st hst
      have hrel := startT_rel hst
      split at h
      · rename_i v ft H' he
        obtain ⟨⟨e, fr', H2⟩, h1, h2, h3, h4⟩ := hs _ _ _ _ he _ hrel
        simp only at h2 h3 h4
        subst h2 h3
        rw [h1]
        simp only [h4.2.1]
        split at h
        · rename_i hd; (try rw [hd]); exact h
        · rename_i df cap hd
          (try rw [hd])
          simp only
          split at h
          · rename_i D hD
            (try rw [hD])
            simp only
            rw [← h4.2.2, resClearG_eq] at h
            cases hc : (resClear fr'.t F.res && isIface v) with
            | false => rw [hc] at h; cases h
            | true =>
              rw [hc] at h
              simp only [cond_true] at h ⊢
              exact evDefT_sim hs h
          · cases h
        · cases h
      · rename_i ft H' he
        obtain ⟨⟨e, fr', H2⟩, h1, h2, h3, h4⟩ := hs _ _ _ _ he _ hrel
        simp only at h2 h3 h4
        subst h2 h3
        rw [h1]
        simp only [h4.2.1]
        rw [← h4.2.2] at h
        split at h
        · rename_i hd; (try rw [hd]); rw [evRessG_eq] at h; exact h
        · rename_i hd; (try rw [hd]); rw [evRessG_eq] at h; exact h
        · rename_i df cap hd
          (try rw [hd])
          simp only
          split at h
          · rename_i D hD
            (try rw [hD])
            exact evDefT_sim hs h
          · cases h
        · cases h
      · rename_i ft H' he
        obtain ⟨⟨e, fr', H2⟩, h1, h2, h3, h4⟩ := hs _ _ _ _ he _ hrel
        simp only at h2 h3 h4
        subst h2 h3
        rw [h1]
        simp only [h4.2.1]
        rw [← h4.2.2] at h
        split at h
        · rename_i hd; (try rw [hd]); rw [evRessG_eq] at h; exact h
        · rename_i hd; (try rw [hd]); rw [evRessG_eq] at h; exact h
        · rename_i df cap hd
          (try rw [hd])
          simp only
          split at h
          · rename_i D hD
            (try rw [hD])
            exact evDefT_sim hs h
          · cases h
        · cases h
      · cases h

theorem evOpsT_call {call call' : ACall} (hc : ∀ f args H q, call f args H = some q → call' f args H = some q) : ∀ {os : List AOper} {fr : Fr} {H : AHeap} {r : AExit × Fr × AHeap}, evOps Γ call os fr H = some r → evOps Γ call' os fr H = some r := by
  have hop : ∀ {op : AOp} {t : List AVal} {H : AHeap} {q : AEnd × AHeap}, evOp Γ call op t H = some q → evOp Γ call' op t H = some q := by
    intro op t H q h
    cases op with
    | call f xs => exact hc _ _ _ _ h
    | callv x xs =>
      simp only [evOp] at h ⊢
      cases hx : x.ev Γ t <;> rw [hx] at h <;> first | exact hc _ _ _ _ h | cases h
    | _ => exact h
  intro os
  induction os with
  | nil => intro fr H r h; exact h
  | cons o os ih =>
    intro fr H r h
    simp only [evOps] at h ⊢
    cases hgd : gd fr.t o.guard with
    | none => rw [hgd] at h; cases h
    | some b =>
      rw [hgd] at h
      cases b with
      | false => exact ih h
      | true =>
        simp only at h ⊢
        by_cases hdf : ∃ x, o.op = .dfr x
        · obtain ⟨x, hx⟩ := hdf
          rw [hx] at h ⊢
          simp only at h ⊢
          cases he : x.ev Γ fr.t <;> rw [he] at h <;> try (cases h)
          exact ih h
        · have h' : (match evOp Γ call o.op fr.t H with
            | some (.ret v, H') => evOps Γ call os (fr.put o.dst v) H'
            | some (.pan v, H') => some (.panic v, fr, H')
            | none => none) = some r := by
            cases hoo : o.op <;> rw [hoo] at h <;> first | exact h | exact absurd ⟨_, hoo⟩ hdf
          have goal : (match evOp Γ call' o.op fr.t H with
            | some (.ret v, H') => evOps Γ call' os (fr.put o.dst v) H'
            | some (.pan v, H') => some (.panic v, fr, H')
            | none => none) = some r := by
            cases he : evOp Γ call o.op fr.t H with
            | none => rw [he] at h'; cases h'
            | some q =>
              rw [he] at h'
              rw [hop he]
              obtain ⟨e, H1⟩ := q
              cases e with
              | ret v => exact ih h'
              | pan v => exact h'
          cases hoo : o.op <;> rw [hoo] at goal <;> first | exact goal | exact absurd ⟨_, hoo⟩ hdf

theorem evDraw_call {call call' : ACall} (hc : ∀ f args H q, call f args H = some q → call' f args H = some q) {base : Nat} {L0 : List DOp} {t0 : List AVal} : ∀ {L : List DOp} {rs : List DRec} {t : List AVal} {H : AHeap} {r : AExit × List AVal × AHeap}, evDraw Γ call base L0 t0 L rs t H = some r → evDraw Γ call' base L0 t0 L rs t H = some r := by
  have hop : ∀ {op : AOp} {t : List AVal} {H : AHeap} {q : AEnd × AHeap}, evOp Γ call op t H = some q → evOp Γ call' op t H = some q := by
    intro op t H q h
    cases op with
    | call f xs => exact hc _ _ _ _ h
    | callv x xs =>
      simp only [evOp] at h ⊢
      cases hx : x.ev Γ t <;> rw [hx] at h <;> first | exact hc _ _ _ _ h | cases h
    | _ => exact h
  intro L
  induction L with
  | nil => intro rs t H r h; exact h
  | cons d ds ih =>
    intro rs t H r h
    simp only [evDraw] at h ⊢
    cases hgd : gd t d.o.guard with
    | none => rw [hgd] at h; cases h
    | some b =>
      rw [hgd] at h
      cases b with
      | false => exact ih h
      | true =>
        simp only at h ⊢
        cases hk : d.kind with
        | pure =>
          rw [hk] at h
          simp only at h ⊢
          cases hs : astep Γ t H d.o.op with
          | none => rw [hs] at h; cases h
          | some q => rw [hs] at h; exact ih h
        | read =>
          rw [hk] at h
          simp only at h ⊢
          cases hs : astep Γ t (hideL d.bef H rs) d.o.op with
          | none => rw [hs] at h; cases h
          | some q => rw [hs] at h; exact ih h
        | alloc k =>
          rw [hk] at h
          simp only at h ⊢
          cases hs : allocOf Γ t d.o.op with
          | none => rw [hs] at h; cases h
          | some q => rw [hs] at h; exact ih h
        | eff =>
          rw [hk] at h
          simp only at h ⊢
          cases he : evOp Γ call d.o.op t (hideL d.bef H rs) with
          | none => rw [he] at h; cases h
          | some q =>
            rw [he] at h
            rw [hop he]
            obtain ⟨e, V⟩ := q
            cases e with
            | ret v =>
              simp only at h ⊢
              cases hre : recheckB Γ d.bef (unhideL d.bef H V rs) rs rs with
              | false => rw [hre] at h; cases h
              | true => rw [hre] at h; exact ih h
            | pan v => exact h

theorem evRoundsT_sim {run : ARun} {runT : TRun} (hs : SimR run runT) {a b : ACode} {t : List AVal} {τ : VT} {w p1 p2 bk es : Nat} (hl : t.length = w) (hg : lget t = τ.get) {H' : AHeap} : ∀ {n : Nat} {H : AHeap}, evRoundsT Γ runT a b τ w p1 p2 bk es n H = some H' → evRounds Γ run a b t p1 p2 bk es n H = some H'
  | 0, H, h => by cases h; rfl
  | n + 1, H, h => by
    simp only [evRoundsT] at h
    simp only [evRounds]
    split at h
    · rename_i v hv
      (try rw [hv])
      (try simp only)
      split at h
      · rename_i t0 ht0
        obtain ⟨l0, g0⟩ := tputT_rel hl hg ht0
        split at h
        · rename_i t1 ht1
          obtain ⟨l1, g1⟩ := tputT_rel l0 g0 ht1
          split at h
          · rename_i t2 w2 H1 ha
            obtain ⟨⟨e, ⟨q1, d1⟩, H2⟩, h1, h2, h3, h4⟩ := hs _ _ _ _ ha ⟨tput (tput t (some p1) (.int .i64 n)) (some p2) v, []⟩ ⟨l1, rfl, g1⟩
            simp only at h2 h3
            subst h2 h3
            have hd : d1 = [] := h4.2.1
            subst hd
            simp only [tput] at h1
            rw [h1]
            simp only
            split at h
            · rename_i t3 w3 H3 hb
              obtain ⟨⟨e, ⟨q2, d2⟩, H4⟩, k1, k2, k3, k4⟩ := hs _ _ _ _ hb ⟨q1, []⟩ h4
              simp only at k2 k3
              subst k2 k3
              have hd : d2 = [] := k4.2.1
              subst hd
              rw [k1]
              exact evRoundsT_sim hs hl hg h
            · cases h
          · cases h
        · cases h
      · cases h
    · cases h

theorem evT_sim : ∀ n, SimR (ev Γ tab n) (evT Γ tab n) := by
  intro n
  induction n with
  | zero => intro c ft H q h; cases h
  | succ n ih =>
    intro c ft H q h fr hr
    have hcall : ∀ f args H q, evFT Γ tab (evT Γ tab n) f args H = some q → evF Γ tab (ev Γ tab n) f args H = some q := fun f args H q h => evFT_sim ih h
    change evStepT Γ tab (evT Γ tab n) c ft H = some q at h
    show ∃ r, evStep Γ tab (ev Γ tab n) c fr H = some r ∧ ResRel r q
    cases c with
    | skip => cases h; exact ⟨_, rfl, rfl, rfl, hr⟩
    | ret => cases h; exact ⟨_, rfl, rfl, rfl, hr⟩
    | exit k => cases h; exact ⟨_, rfl, rfl, rfl, hr⟩
    | region os =>
      obtain ⟨r, h1, h2⟩ := evOpsT_sim h fr hr
      exact ⟨r, evOpsT_call hcall h1, h2⟩
    | draw m L =>
      simp only [evStepT] at h
      split at h
      · rename_i e t H' he
        cases h
        obtain ⟨t', h1, h2, h3⟩ := evDrawT_sim hr.1 hr.2.2 he (rs := []) rfl hr.1 hr.2.2
        refine ⟨(e, ⟨t', fr.d⟩, H'), ?_, rfl, rfl, h2, hr.2.1, h3⟩
        simp only [evStep]
        rw [evDraw_call hcall h1]
      · cases h
    | seq a b =>
      simp only [evStepT] at h
      simp only [evStep]
      split at h
      · rename_i ft' H' he
        obtain ⟨⟨e, fr', H2⟩, h1, h2, h3, h4⟩ := ih _ _ _ _ he fr hr
        simp only at h2 h3 h4
        subst h2 h3
        rw [h1]
        exact ih _ _ _ _ h fr' h4
      · rename_i hne
        obtain ⟨⟨e, fr', H2⟩, h1, h2, h3, h4⟩ := ih _ _ _ _ h fr hr
        rw [h1]
        obtain ⟨e2, ft2, H3⟩ := q
        simp only at h2 h3 h4
        subst h2 h3
        refine ⟨(e, fr', H2), ?_, rfl, rfl, h4⟩
        cases e <;> first | rfl | exact absurd h (hne _ _)
    | cond x a b =>
      simp only [evStepT, ← hr.2.2, evG_eq] at h
      simp only [evStep]
      cases hx : x.ev Γ fr.t <;> rw [hx] at h <;> try (cases h)
      rename_i bb
      cases bb
      · exact ih _ _ _ _ h fr hr
      · exact ih _ _ _ _ h fr hr
    | block k c =>
      simp only [evStepT] at h
      simp only [evStep]
      split at h
      · rename_i j ft' H' he
        obtain ⟨⟨e, fr', H2⟩, h1, h2, h3, h4⟩ := ih _ _ _ _ he fr hr
        simp only at h2 h3 h4
        subst h2 h3
        rw [h1]
        simp only
        cases hj : Nat.beq j k with
        | true => rw [hj] at h; cases h; exact ⟨_, rfl, rfl, rfl, h4⟩
        | false => rw [hj] at h; cases h; exact ⟨_, rfl, rfl, rfl, h4⟩
      · rename_i hne
        obtain ⟨⟨e, fr', H2⟩, h1, h2, h3, h4⟩ := ih _ _ _ _ h fr hr
        rw [h1]
        obtain ⟨e2, ft2, H3⟩ := q
        simp only at h2 h3 h4
        subst h2 h3
        refine ⟨(e, fr', H2), ?_, rfl, rfl, h4⟩
        cases e <;> first | rfl | exact absurd h (hne _ _ _)
    | loop c =>
      simp only [evStepT] at h
      simp only [evStep]
      split at h
      · rename_i ft' H' he
        obtain ⟨⟨e, fr', H2⟩, h1, h2, h3, h4⟩ := ih _ _ _ _ he fr hr
        simp only at h2 h3 h4
        subst h2 h3
        rw [h1]
        exact ih _ _ _ _ h fr' h4
      · rename_i hne
        obtain ⟨⟨e, fr', H2⟩, h1, h2, h3, h4⟩ := ih _ _ _ _ h fr hr
        rw [h1]
        obtain ⟨e2, ft2, H3⟩ := q
        simp only at h2 h3 h4
        subst h2 h3
        refine ⟨(e, fr', H2), ?_, rfl, rfl, h4⟩
        cases e <;> first | rfl | exact absurd h (hne _ _)
    | rcv => cases h
    | rfun x ps a b =>
      simp only [evStepT, ← hr.2.2, evG_eq] at h
      simp only [evStep]
      split at h
      · rename_i p1 p2 bk es k hh
        rw [hh]
        simp only
        split at h
        · rename_i H' he
          cases h
          rw [evRoundsT_sim ih hr.1 hr.2.2 he]
          exact ⟨_, rfl, rfl, rfl, hr.1, by simp [hr.2.1], hr.2.2⟩
        · cases h
      · cases h
    | bad => cases h

/-- A RUN OVER TREES, AND WHAT IT COMES TO. -/
theorem acalls_of_runT {P : Program} {T : TTab} (hT : TOk P T) (hmx : P.follows .mixedOrders = true) (hTb : TbOk Γ P T tab) (n : Nat) {f : Nat} {args : List AVal} {H : AHeap} {r : AEnd × AHeap}
    (h : evFT Γ tab (evT Γ tab n) f args H = some r) : ACalls Γ P f args H (EvPostF r) :=
  acalls_of_run hT hmx hTb n (evFT_sim (evT_sim n) h)

end
end Go.Aw

/- The run over trees, told by what is done behind: a faster one for the kernel. -/
namespace Go.Aw

abbrev KT := VT → Nat → List AVal → AHeap → TRes
abbrev CRun := ACode → VT → Nat → List AVal → AHeap → KT → TRes

noncomputable def putK (n : Nat) (t : VT) (dst : Option Nat) (v : AVal) (k : VT → TRes) : TRes :=
  Option.rec (motive := fun _ => TRes) (k t) (fun s => Bool.rec (motive := fun _ => TRes) none (k (VT.set v t s)) (Nat.blt s n)) dst

theorem putK_eq (n : Nat) (t : VT) (dst : Option Nat) (v : AVal) (k : VT → TRes) : putK n t dst v k = match tputT t n dst v with
    | some t => k t
    | none => none := by
  cases dst with
  | none => rfl
  | some s =>
    simp only [putK, tputT]
    cases Nat.blt s n <;> rfl

noncomputable def guardK (t : VT) (yes no : TRes) (gu : Option (Nat × Bool)) : TRes :=
  Option.rec (motive := fun _ => TRes) yes (fun q => match gdG t.get (some q) with
    | some true => yes
    | some false => no
    | none => none) gu

theorem guardK_eq (t : VT) (yes no : TRes) (gu : Option (Nat × Bool)) : guardK t yes no gu = match gdG t.get gu with
    | some true => yes
    | some false => no
    | none => none := by
  cases gu with
  | none => rfl
  | some q => rfl

noncomputable def endK (n : Nat) (t : VT) (d : List AVal) (dst : Option Nat) (kk : VT → List AVal → AHeap → TRes) (r : Option (AEnd × AHeap)) : TRes :=
  Option.rec (motive := fun _ => TRes) none (fun r => Prod.rec (motive := fun _ => TRes) (fun e H' => AEnd.rec (motive := fun _ => TRes) (fun v => putK n t dst v fun t => kk t d H') (fun v => some (.panic v, ⟨t, n, d⟩, H')) e) r) r

noncomputable def stepK (n : Nat) (t : VT) (d : List AVal) (dst : Option Nat) (kk : VT → List AVal → AHeap → TRes) (r : Option (AVal × AHeap)) : TRes :=
  Option.rec (motive := fun _ => TRes) none (fun r => Prod.rec (motive := fun _ => TRes) (fun v H' => putK n t dst v fun t => kk t d H') r) r

noncomputable def opK (Γ : Globs) (call : ACall) (n : Nat) (t : VT) (d : List AVal) (dst : Option Nat) (H : AHeap) (kk : VT → List AVal → AHeap → TRes) (op : KOp) : TRes :=
  KOp.rec (motive := fun _ => TRes)
    (fun f => stepK n t d dst kk (f Γ t.get H))
    (fun f xs => endK n t d dst kk (call f (xs.map fun x => x.evG Γ t.get) H))
    (fun x xs => match x.evG Γ t.get with
      | .fn f cap => endK n t d dst kk (call f ((xs.map fun x => x.evG Γ t.get) ++ cap) H)
      | _ => none)
    (fun x => match x.evG Γ t.get with
      | .iface c v => some (.panic (.iface c v), ⟨t, n, d⟩, H)
      | _ => none)
    (fun op ek x y => bif openNil op ek (x.evG Γ t.get) (y.evG Γ t.get) then none else stepK n t d dst kk (g_bin Γ t.get H op ek x y))
    (fun x => match x.evG Γ t.get with
      | .fn f cap => putK n t dst (.tup []) fun t => kk t (.fn f cap :: d) H
      | _ => none)
    none op

noncomputable def evOpsC (Γ : Globs) (call : ACall) (os : List AOper) : VT → Nat → List AVal → AHeap → KT → TRes :=
  List.rec (motive := fun _ => VT → Nat → List AVal → AHeap → KT → TRes) (fun t n d H k => k t n d H)
    (fun o _ ih t n d H k => AOper.rec (motive := fun _ => TRes) (fun dst op gu =>
      guardK t (opK Γ call n t d dst H (fun t d H => ih t n d H k) (kop op)) (putK n t dst (.tup []) fun t => ih t n d H k) gu) o) os

/-- What is done behind a normal end. -/
def bindN (r : TRes) (k : KT) : TRes :=
  match r with
  | some (.normal, ⟨t, n, d⟩, H) => k t n d H
  | r => r

theorem endK_eq (n : Nat) (t : VT) (d : List AVal) (dst : Option Nat) (kk : VT → List AVal → AHeap → TRes) (r : Option (AEnd × AHeap)) : endK n t d dst kk r = match r with
    | some (.ret v, H') => (match tputT t n dst v with
      | some t => kk t d H'
      | none => none)
    | some (.pan v, H') => some (.panic v, ⟨t, n, d⟩, H')
    | none => none := by
  cases r with
  | none => rfl
  | some q =>
    obtain ⟨e, H'⟩ := q
    cases e with
    | ret v =>
      show putK n t dst v (fun t => kk t d H') = _
      rw [putK_eq]
    | pan v => rfl

theorem stepK_eq (n : Nat) (t : VT) (d : List AVal) (dst : Option Nat) (kk : VT → List AVal → AHeap → TRes) (r : Option (AVal × AHeap)) : stepK n t d dst kk r = endK n t d dst kk (ofStep r) := by
  cases r with
  | none => rfl
  | some q => rfl

theorem evOpsC_eq (Γ : Globs) (call : ACall) : ∀ (os : List AOper) (t : VT) (n : Nat) (d : List AVal) (H : AHeap) (k : KT), evOpsC Γ call os t n d H k = bindN (evOpsT Γ call os ⟨t, n, d⟩ H) k := by
  intro os
  induction os with
  | nil => intro t n d H k; rfl
  | cons o os ih =>
    intro t n d H k
    obtain ⟨dst, op, gu⟩ := o
    show guardK t (opK Γ call n t d dst H (fun t d H => evOpsC Γ call os t n d H k) (kop op)) (putK n t dst (.tup []) fun t => evOpsC Γ call os t n d H k) gu = _
    rw [guardK_eq]
    simp only [evOpsT]
    cases hg : gdG t.get gu with
    | none => rfl
    | some b =>
      cases b with
      | false =>
        simp only [putK_eq, FrT.put]
        cases tputT t n dst (.tup []) with
        | none => rfl
        | some t' => exact ih _ _ _ _ _
      | true =>
        simp only
        have fin : ∀ r : Option (AEnd × AHeap), endK n t d dst (fun t d H => evOpsC Γ call os t n d H k) r = bindN (match r with
            | some (.ret v, H') => (match FrT.put ⟨t, n, d⟩ dst v with
              | some fr => evOpsT Γ call os fr H'
              | none => none)
            | some (.pan v, H') => some (.panic v, ⟨t, n, d⟩, H')
            | none => none) k := by
          intro r
          rw [endK_eq]
          cases r with
          | none => rfl
          | some q =>
            obtain ⟨e, H'⟩ := q
            cases e with
            | pan v => rfl
            | ret v =>
              simp only [FrT.put]
              cases tputT t n dst v with
              | none => rfl
              | some t' => exact ih _ _ _ _ _
        cases hk : kop op with
        | step f =>
          simp only [evOpK, hk]
          show stepK n t d dst (fun t d H => evOpsC Γ call os t n d H k) (f Γ t.get H) = _
          rw [stepK_eq n t d dst]
          exact fin _
        | call f xs =>
          simp only [evOpK, hk]
          exact fin _
        | callv x xs =>
          simp only [evOpK, hk]
          show (match x.evG Γ t.get with
            | .fn f cap => endK n t d dst (fun t d H => evOpsC Γ call os t n d H k) (call f ((xs.map fun (x : AArg) => x.evG Γ t.get) ++ cap) H)
            | _ => none : TRes) = _
          cases hx : x.evG Γ t.get <;> first | rfl | exact fin _
        | pan x =>
          simp only [evOpK, hk]
          show (match x.evG Γ t.get with
            | .iface c v => some (.panic (.iface c v), ⟨t, n, d⟩, H)
            | _ => none : TRes) = _
          cases hx : x.evG Γ t.get <;> rfl
        | bin bop ek x y =>
          simp only [evOpK, hk]
          show (bif openNil bop ek (x.evG Γ t.get) (y.evG Γ t.get) then none else stepK n t d dst (fun t d H => evOpsC Γ call os t n d H k) (g_bin Γ t.get H bop ek x y)) = _
          cases openNil bop ek (x.evG Γ t.get) (y.evG Γ t.get) with
          | true => rfl
          | false =>
            simp only [cond_false]
            rw [stepK_eq n t d dst]
            exact fin _
        | dfr x =>
          simp only
          show (match x.evG Γ t.get with
            | .fn f cap => putK n t dst (.tup []) fun t => evOpsC Γ call os t n (.fn f cap :: d) H k
            | _ => none : TRes) = _
          cases hx : x.evG Γ t.get <;> first | rfl | skip
          rename_i f cap
          simp only [putK_eq, FrT.put]
          cases tputT t n dst (.tup []) with
          | none => rfl
          | some t' => exact ih _ _ _ _ _
        | bad =>
          simp only [evOpK, hk]
          rfl

noncomputable def toRun (r : CRun) : TRun := fun c fr H =>
  FrT.rec (motive := fun _ => TRes) (fun t n d => r c t n d H fun t n d H => some (.normal, ⟨t, n, d⟩, H)) fr

noncomputable def blockK (j : Nat) (k : KT) (r : TRes) : TRes :=
  match r with
  | some (.normal, ⟨t, n, d⟩, H) => k t n d H
  | some (.exit i, ⟨t, n, d⟩, H) => bif Nat.beq i j then k t n d H else some (.exit i, ⟨t, n, d⟩, H)
  | r => r

noncomputable def boolK (x y : TRes) (v : AVal) : TRes :=
  match v with
  | .bool true => x
  | .bool false => y
  | _ => none

noncomputable def stepC (Γ : Globs) (tab : Tb) (r : CRun) : CRun := fun c t n d H k =>
  ACode.casesOn (motive := fun _ => TRes) c
    (k t n d H)
    (some (.ret, ⟨t, n, d⟩, H))
    (fun j => some (.exit j, ⟨t, n, d⟩, H))
    (fun os => evOpsC Γ (evFT Γ tab (toRun r)) os t n d H k)
    (fun m L => match evDrawT Γ (evFT Γ tab (toRun r)) H.next n L t L [] t (H.bump m) with
      | some (.normal, t, H') => k t n d H'
      | some (e, t, H') => some (e, ⟨t, n, d⟩, H')
      | none => none)
    (fun a b => r a t n d H fun t n d H => r b t n d H k)
    (fun x a b => boolK (r a t n d H k) (r b t n d H k) (x.evG Γ t.get))
    (fun j c => blockK j k (r c t n d H fun t n d H => some (.normal, ⟨t, n, d⟩, H)))
    (fun c => r c t n d H fun t n d H => r (.loop c) t n d H k)
    (fun _ _ => none)
    (fun x ps a b => match rfHead Γ tab.bk (x.evG Γ t.get) ps a b H with
      | some (p1, p2, bk, es, m) => match evRoundsT Γ (toRun r) a b t n p1 p2 bk es m H with
        | some H' => k t n (.nilm :: d) H'
        | none => none
      | none => none)
    none

noncomputable def evC (Γ : Globs) (tab : Tb) (n : Nat) : CRun :=
  Nat.rec (motive := fun _ => CRun) (fun _ _ _ _ _ _ => none) (fun _ ih => stepC Γ tab ih) n

theorem bindN_ret (r : TRes) : bindN r (fun t n d H => some (.normal, ⟨t, n, d⟩, H)) = r := by
  unfold bindN
  split
  · rfl
  · rfl

theorem evC_eq (Γ : Globs) (tab : Tb) : ∀ (m : Nat) (c : ACode) (t : VT) (n : Nat) (d : List AVal) (H : AHeap) (k : KT), evC Γ tab m c t n d H k = bindN (evT Γ tab m c ⟨t, n, d⟩ H) k := by
  intro m
  induction m with
  | zero => intro c t n d H k; rfl
  | succ m ih =>
    have hrun : toRun (evC Γ tab m) = evT Γ tab m := by
      funext c fr H
      obtain ⟨t, n, d⟩ := fr
      show evC Γ tab m c t n d H _ = _
      rw [ih, bindN_ret]
    intro c t n d H k
    show stepC Γ tab (evC Γ tab m) c t n d H k = bindN (evStepT Γ tab (evT Γ tab m) c ⟨t, n, d⟩ H) k
    cases c with
    | skip => rfl
    | ret => rfl
    | exit j => rfl
    | region os =>
      show evOpsC _ _ _ _ _ _ _ _ = bindN (evOpsT _ _ _ _ _) k
      rw [hrun, evOpsC_eq]
    | draw q L =>
      show (match evDrawT Γ (evFT Γ tab (toRun (evC Γ tab m))) H.next n L t L [] t (H.bump q) with
        | some (.normal, t, H') => k t n d H'
        | some (e, t, H') => some (e, ⟨t, n, d⟩, H')
        | none => none) = bindN (match evDrawT Γ (evFT Γ tab (evT Γ tab m)) H.next n L t L [] t (H.bump q) with
        | some (e, t, H') => some (e, ⟨t, n, d⟩, H')
        | none => none) k
      rw [hrun]
      cases evDrawT Γ (evFT Γ tab (evT Γ tab m)) H.next n L t L [] t (H.bump q) with
      | none => rfl
      | some r =>
        obtain ⟨e, t', H'⟩ := r
        cases e <;> rfl
    | seq a b =>
      show evC Γ tab m a t n d H (fun t n d H => evC Γ tab m b t n d H k) = bindN (match evT Γ tab m a ⟨t, n, d⟩ H with
        | some (.normal, fr', H') => evT Γ tab m b fr' H'
        | r => r) k
      rw [ih]
      cases evT Γ tab m a ⟨t, n, d⟩ H with
      | none => rfl
      | some r =>
        obtain ⟨e, ⟨t', n', d'⟩, H'⟩ := r
        cases e <;> first | exact ih _ _ _ _ _ _ | rfl
    | cond x a b =>
      show boolK (evC Γ tab m a t n d H k) (evC Γ tab m b t n d H k) (x.evG Γ t.get) = bindN (match x.evG Γ t.get with
        | .bool true => evT Γ tab m a ⟨t, n, d⟩ H
        | .bool false => evT Γ tab m b ⟨t, n, d⟩ H
        | _ => none) k
      rw [ih, ih]
      cases x.evG Γ t.get <;> try rfl
      rename_i bb
      cases bb <;> rfl
    | block j c =>
      show blockK j k (evC Γ tab m c t n d H fun t n d H => some (.normal, ⟨t, n, d⟩, H)) = bindN (match evT Γ tab m c ⟨t, n, d⟩ H with
        | some (.exit i, fr', H') => bif Nat.beq i j then some (.normal, fr', H') else some (.exit i, fr', H')
        | r => r) k
      rw [ih, bindN_ret]
      cases evT Γ tab m c ⟨t, n, d⟩ H with
      | none => rfl
      | some r =>
        obtain ⟨e, ⟨t', n', d'⟩, H'⟩ := r
        cases e <;> try rfl
        rename_i i
        simp only [blockK]
        cases Nat.beq i j <;> rfl
    | loop c =>
      show evC Γ tab m c t n d H (fun t n d H => evC Γ tab m (.loop c) t n d H k) = bindN (match evT Γ tab m c ⟨t, n, d⟩ H with
        | some (.normal, fr', H') => evT Γ tab m (.loop c) fr' H'
        | r => r) k
      rw [ih]
      cases evT Γ tab m c ⟨t, n, d⟩ H with
      | none => rfl
      | some r =>
        obtain ⟨e, ⟨t', n', d'⟩, H'⟩ := r
        cases e <;> first | exact ih _ _ _ _ _ _ | rfl
    | rcv => rfl
    | rfun x ps a b =>
      show (match rfHead Γ tab.bk (x.evG Γ t.get) ps a b H with
        | some (p1, p2, bk, es, q) => match evRoundsT Γ (toRun (evC Γ tab m)) a b t n p1 p2 bk es q H with
          | some H' => k t n (.nilm :: d) H'
          | none => none
        | none => none) = bindN (match rfHead Γ tab.bk (x.evG Γ t.get) ps a b H with
        | some (p1, p2, bk, es, q) => match evRoundsT Γ (evT Γ tab m) a b t n p1 p2 bk es q H with
          | some H' => some (.normal, ⟨t, n, .nilm :: d⟩, H')
          | none => none
        | none => none) k
      rw [hrun]
      cases rfHead Γ tab.bk (x.evG Γ t.get) ps a b H with
      | none => rfl
      | some r =>
        obtain ⟨p1, p2, bk, es, q⟩ := r
        simp only
        cases evRoundsT Γ (evT Γ tab m) a b t n p1 p2 bk es q H <;> rfl
    | bad => rfl

theorem toRun_evC (Γ : Globs) (tab : Tb) (m : Nat) : toRun (evC Γ tab m) = evT Γ tab m := by
  funext c fr H
  obtain ⟨t, n, d⟩ := fr
  show evC Γ tab m c t n d H _ = _
  rw [evC_eq, bindN_ret]

end Go.Aw

/- From a contract over the empty heap to a contract over whatever world holds what is read. -/
namespace Go.Aw

/-- The ghosts of a world of which nothing is owned: what may be read is told. -/
def gh0 (rho : Nat → Nat → Option AVal) : Gh := ⟨fun _ => none, fun _ => False, rho, fun _ => 0, fun _ => False⟩

def rhoOf (Γ : Globs) (gi i : Nat) : Option AVal := match Γ gi with
  | some cs => cs[i]?
  | none => none

theorem WRel.init {Γ : Globs} {rho : Nat → Nat → Option AVal} {W : World} (hr : ∀ cb off c, rho cb off = some c → ∃ v, W.cell? ⟨cb, off, none⟩ = some v ∧ VRel (gh0 rho) c v)
    (hg : ∀ gi cs, Γ gi = some cs → ∀ i c, cs[i]? = some c → rho gi i = some c) : WRel Γ (gh0 rho) .empty W where
  own b o h := by rw [AHeap.get_empty] at h; cases h
  decl b h := absurd (AHeap.get_empty b) h
  rng b cb base h := h.elim
  inj b b' cb base base' h := absurd (AHeap.get_empty b) h
  ro := hr
  dis b cb base off h := absurd (AHeap.get_empty b) h
  fresh b _ h := h
  glob := hg
  dq D h := h.elim

theorem Ext.same {rho : Nat → Nat → Option AVal} {g' : Gh} {H' : AHeap} {W W' : World} (h : Ext (gh0 rho) .empty W g' H' W') : ∀ i, i < W.heap.size → W'.heap[i]? = W.heap[i]? :=
  fun i hi => h.keep i hi fun ⟨b, _, hb, _⟩ => hb (AHeap.get_empty b)

theorem Ext.kept {rho : Nat → Nat → Option AVal} {g' : Gh} {H' : AHeap} {W W' : World} (h : Ext (gh0 rho) .empty W g' H' W') : W.keptBut W' fun _ => False := by
  refine ⟨h.io.os, h.io.out, fun i hi => ?_⟩
  rw [h.same i hi]
  cases W.heap[i]? with
  | none => rfl
  | some o => cases o <;> first | rfl | exact ⟨rfl, rfl, rfl, fun _ _ => rfl⟩ | exact .inr ⟨rfl, rfl⟩

/-- A world that keeps what stood in it. -/
theorem WRel.keep {Γ : Globs} {g : Gh} {H : AHeap} {w w' : World} (hw : WRel Γ g H w) (hk : ∀ i, i < w.heap.size → w'.heap[i]? = w.heap[i]?) (hs : w.heap.size ≤ w'.heap.size) (hio : Io w w') : WRel Γ g H w' ∧ Ext g H w g H w' := by
  refine ⟨⟨fun b o hb => ?_, hw.decl, fun b cb base hd hm => Nat.lt_of_lt_of_le (hw.rng b cb base hd hm) hs, hw.inj, fun cb off c hc => ?_, hw.dis, hw.fresh, hw.glob, fun D hD => by rw [hk D (hw.dqLt hD)]; exact hw.dq D hD⟩,
    ⟨.refl g, fun _ _ _ => rfl, fun _ _ h => h, fun _ h => .inr h, fun _ _ _ h => .inl h, hs, fun cb hcb _ => hk cb hcb, fun _ h => .inl h, Nat.le_refl _, hio, fun _ h => .inl h⟩⟩
  · obtain ⟨cb, base, h1, h2⟩ := hw.own b o hb
    exact ⟨cb, base, h1, h2.mono (.refl g) rfl (hk cb (hw.rng b cb base (hw.decl b (by rw [hb]; simp)) h1))⟩
  · obtain ⟨v, hv, hr⟩ := hw.ro cb off c hc
    exact ⟨v, by rw [World.cell?_congr (w := w) (hk cb (hw.cellLt hc))]; exact hv, hr⟩

/-- A value that stands for the same whatever the ghosts. -/
def Plain (v : AVal) : Prop := ∀ g g' cv, VRel g v cv → VRel g' v cv

/-- THE CLOSED CALL: a function that takes and returns values without pointers leaves the heap as it was told. -/
theorem acalls_closed {Γ : Globs} {P : Program} {f : Nat} {args : List AVal} {H : AHeap} {e0 : AEnd} {Hr : AHeap} (hΓ : ∀ gi cs, Γ gi = some cs → ∀ c ∈ cs, Plain c) (hv : ∀ g g' e, EndRel g e0 e → EndRel g' e0 e)
    (ha : ∀ g g' (cvs : List Value), VRels g args cvs → VRels g' args cvs) (h : ACalls Γ P f args .empty (EvPostF (e0, Hr))) : ACalls Γ P f args H fun e H' => e = e0 ∧ H' = H := by
  refine ⟨h.1, fun g w vs hw hvs => ?_⟩
  have h0 : WRel Γ (gh0 (rhoOf Γ)) .empty w := by
    refine WRel.init (fun cb off c hc => ?_) (fun gi cs hg i c hi => by unfold rhoOf; rw [hg]; exact hi)
    unfold rhoOf at hc
    split at hc
    · rename_i cs hg
      obtain ⟨v, hv1, hv2⟩ := hw.ro cb off c (hw.glob cb cs hg off c hc)
      exact ⟨v, hv1, hΓ cb cs hg c (List.mem_of_getElem? hc) _ _ _ hv2⟩
    · cases hc
  refine (h.2 _ w vs h0 (ha _ _ _ hvs)).mono ?_
  rintro e w' ⟨ae, g1, H1, h1, h2, h3, rfl, rfl⟩
  obtain ⟨k1, k2⟩ := hw.keep h3.same h3.grow h3.io
  exact ⟨_, g, H, hv _ _ _ h1, k1, k2, rfl, rfl⟩

end Go.Aw

/- A closed call's result, at whatever heap: its blocks are laid behind it. -/
namespace Go.Aw

/-- What may be read from the start is told alike whatever the names. -/
def FlatG (Γ : Globs) : Prop := ∀ gi cs, Γ gi = some cs → ∀ c ∈ cs, Plain c ∧ ∀ N, c.shift N = c

theorem acalls_moved {Γ : Globs} {P : Program} {f : Nat} {args : List AVal} {e0 : AEnd} {H0 : AHeap} {os : List (Nat × AObj)} {n : Nat} (hΓ : FlatG Γ) (ha : ∀ g g' (cvs : List Value), VRels g args cvs → VRels g' args cvs)
    (hos : ∀ p ∈ os, H0.get p.1 = some p.2) (hn : H0.next ≤ n) (h : ACalls Γ P f args .empty (EvPostF (e0, H0))) (H : AHeap) : ACalls Γ P f args H (EvPostF (knEnd (e0, os, n) H)) := by
  refine ⟨h.1, fun g w vs hw hvs => ?_⟩
  have hrho : ∀ cb off c, rhoOf Γ cb off = some c → g.rho cb off = some c ∧ Plain c ∧ ∀ N, c.shift N = c := by
    intro cb off c hc
    unfold rhoOf at hc
    split at hc
    · rename_i cs hg
      have := hΓ cb cs hg c (List.mem_of_getElem? hc)
      exact ⟨hw.glob cb cs hg off c hc, this⟩
    · cases hc
  have h0 : WRel Γ (gh0 (rhoOf Γ)) .empty w := by
    refine WRel.init (fun cb off c hc => ?_) (fun gi cs hg i c hi => by unfold rhoOf; rw [hg]; exact hi)
    obtain ⟨k1, k2, _⟩ := hrho _ _ _ hc
    obtain ⟨v, hv1, hv2⟩ := hw.ro cb off c k1
    exact ⟨v, hv1, k2 _ _ _ hv2⟩
  refine (h.2 _ w vs h0 (ha _ _ _ hvs)).mono ?_
  rintro e w' ⟨ae, g1, H1, h1, h2, h3, he0, hH0⟩
  cases he0; cases hH0
  simp only at h1 h2 h3
  -- names
  have hnone : ∀ cb, ¬ Owns (gh0 (rhoOf Γ)) .empty cb := fun cb ⟨b, _, hb, _⟩ => hb (AHeap.get_empty b)
  have hbig : ∀ b cb base, H0.get b ≠ none → g1.mu b = some (cb, base) → w.heap.size ≤ cb := fun b cb base hb hm => (h3.own cb ⟨b, base, hb, hm⟩).resolve_right (hnone cb)
  have hroN : ∀ cb off c, g1.rho cb off = some c → (g.rho cb off = some c ∧ ∀ N, c.shift N = c) ∨ w.heap.size ≤ cb := by
    intro cb off c hc
    rcases h3.roN cb off c hc with k | k | k
    · obtain ⟨k1, _, k3⟩ := hrho cb off c k
      exact .inl ⟨k1, k3⟩
    · exact .inr k
    · exact absurd k (hnone cb)
  have hm : MoveOk g g1 H.next w.heap.size H0 := ⟨hbig, fun cb off c c' hc hc' => by
    rcases hroN cb off c hc with ⟨k1, k2⟩ | k
    · rw [k1] at hc'; cases hc'; exact k2 _
    · have := hw.cellLt hc'; omega⟩
  have hdlt : ∀ b, g.decl b → b < H.next := fun b hb => Nat.lt_of_not_le fun hle => hw.fresh b hle hb
  have hglt : ∀ b, H.get b ≠ none → b < H.next := fun b hb => hdlt b (hw.decl b hb)
  have hle : GLe g (g.moved g1 H.next w.heap.size H0) := ⟨fun b hb => .inl hb, fun b hb => .inl (by simp only [Gh.moved]; rw [if_pos (hdlt b hb)]), fun cb off c hc => by simp only [Gh.moved]; rw [hc], fun b cb base hb hmu => by
      simp only [Gh.moved] at hmu ⊢
      rw [if_pos (hdlt b hb)] at hmu
      rw [if_pos (hw.rng b cb base hb hmu)], fun D hD => hD⟩
  have hnext : (H.lay H.next n os).next = H.next + n := layL_next _ _ _
  -- which blocks there are
  have hgetN : ∀ b o, (H.lay H.next n os).get b = some o → (b < H.next ∧ H.get b = some o) ∨ ∃ k o0, b = k + H.next ∧ H0.get k = some o0 ∧ o = o0.shift H.next := by
    intro b o hb
    rcases layL_get H.next (H.bump n) b os with ⟨k1, k2⟩ | ⟨p, k1, k2, k3⟩
    · have hb' : H.get b = some o := by rw [← hb]; exact k1.symm
      exact .inl ⟨hglt b (by rw [hb']; exact fun e => by cases e), hb'⟩
    · have : (H.lay H.next n os).get b = some (p.2.shift H.next) := k3
      rw [hb] at this
      cases this
      exact .inr ⟨p.1, p.2, by omega, hos p k1, rfl⟩
  have hold : ∀ b, b < H.next → (H.lay H.next n os).get b = H.get b := by
    intro b hb
    rcases layL_get H.next (H.bump n) b os with ⟨k1, k2⟩ | ⟨p, k1, k2, k3⟩
    · exact k1
    · omega
  have hmuO : ∀ b, b < H.next → (g.moved g1 H.next w.heap.size H0).mu b = g.mu b := fun b hb => by simp only [Gh.moved]; rw [if_pos hb]
  have hmuN : ∀ k o0, H0.get k = some o0 → (g.moved g1 H.next w.heap.size H0).mu (k + H.next) = g1.mu k := fun k o0 hk => by
    simp only [Gh.moved]; rw [if_neg (by omega), Nat.add_sub_cancel, hk]
  have live : ∀ b cb base, (H.lay H.next n os).get b ≠ none → (g.moved g1 H.next w.heap.size H0).mu b = some (cb, base) → (H.get b ≠ none ∧ g.mu b = some (cb, base) ∧ cb < w.heap.size) ∨ ∃ k, b = k + H.next ∧ H0.get k ≠ none ∧ g1.mu k = some (cb, base) ∧ w.heap.size ≤ cb := by
    intro b cb base hb hmu
    cases hg : (H.lay H.next n os).get b with
    | none => exact absurd hg hb
    | some o =>
      rcases hgetN b o hg with ⟨k1, k2⟩ | ⟨k, o0, rfl, k2, k3⟩
      · rw [hmuO b k1] at hmu
        have hne : H.get b ≠ none := by rw [k2]; exact fun e => by cases e
        exact .inl ⟨hne, hmu, hw.rng b cb base (hw.decl b hne) hmu⟩
      · rw [hmuN k o0 k2] at hmu
        have hne : H0.get k ≠ none := by rw [k2]; exact fun e => by cases e
        exact .inr ⟨k, rfl, hne, hmu, hbig k cb base hne hmu⟩
  have hW : WRel Γ (g.moved g1 H.next w.heap.size H0) (H.lay H.next n os) w' := by
    constructor
    · intro b o hb
      rcases hgetN b o hb with ⟨k1, k2⟩ | ⟨k, o0, rfl, k2, rfl⟩
      · obtain ⟨cb, base, e1, e2⟩ := hw.own b o k2
        have hlt := hw.rng b cb base (hw.decl b (by rw [k2]; exact fun e => by cases e)) e1
        refine ⟨cb, base, by rw [hmuO b k1]; exact e1, e2.mono hle ?_ (h3.same cb hlt)⟩
        simp only [Gh.moved]; rw [if_pos hlt]
      · obtain ⟨cb, base, e1, e2⟩ := h2.own k o0 k2
        exact ⟨cb, base, by rw [hmuN k o0 k2]; exact e1, e2.moved hm (hbig k cb base (by rw [k2]; exact fun e => by cases e) e1)⟩
    · intro b hb
      cases hg : (H.lay H.next n os).get b with
      | none => exact absurd hg hb
      | some o =>
        rcases hgetN b o hg with ⟨k1, k2⟩ | ⟨k, o0, rfl, k2, rfl⟩
        · exact .inl (hw.decl b (by rw [k2]; exact fun e => by cases e))
        · exact .inr ⟨Nat.le_add_left _ _, by rw [Nat.add_sub_cancel]; exact h2.decl k (by rw [k2]; exact fun e => by cases e)⟩
    · intro b cb base hd hmu
      rcases hd with hd | ⟨hd1, hd2⟩
      · rw [hmuO b (hdlt b hd)] at hmu
        exact Nat.lt_of_lt_of_le (hw.rng b cb base hd hmu) h3.grow
      · simp only [Gh.moved] at hmu
        rw [if_neg (by omega)] at hmu
        split at hmu
        · exact h2.rng _ cb base hd2 hmu
        · cases hmu
    · intro b b' cb base base' hb hb' hmu hmu'
      rcases live b cb base hb hmu with ⟨e1, e2, e3⟩ | ⟨k, rfl, e1, e2, e3⟩ <;> rcases live b' cb base' hb' hmu' with ⟨e1', e2', e3'⟩ | ⟨k', rfl, e1', e2', e3'⟩
      · exact hw.inj b b' cb base base' e1 e1' e2 e2'
      · omega
      · omega
      · rw [h2.inj k k' cb base base' e1 e1' e2 e2']
    · intro cb off c hc
      simp only [Gh.moved] at hc
      split at hc
      · rename_i c' hc'
        cases hc
        obtain ⟨v, k1, k2⟩ := hw.ro cb off _ hc'
        exact ⟨v, by rw [World.cell?_congr (w := w) (h3.same cb (hw.cellLt hc'))]; exact k1, k2.mono hle _ _⟩
      · obtain ⟨c0, k0, rfl⟩ := Option.map_eq_some_iff.1 hc
        obtain ⟨v, k1, k2⟩ := h2.ro cb off _ k0
        exact ⟨v, k1, k2.moved hm _ _⟩
    · intro b cb base off hb hmu
      simp only [Gh.moved]
      rcases live b cb base hb hmu with ⟨e1, e2, e3⟩ | ⟨k, rfl, e1, e2, e3⟩
      · have hr := hw.dis b cb base off e1 e2
        rw [hr]
        simp only
        cases hr1 : g1.rho cb off with
        | none => rfl
        | some c =>
          rcases hroN cb off c hr1 with ⟨k1, _⟩ | k
          · rw [hr] at k1; cases k1
          · omega
      · cases hr : g.rho cb off with
        | some c => have := hw.cellLt hr; omega
        | none =>
          simp only
          rw [h2.dis k cb base off e1 e2]
          rfl
    · intro b hb hd
      rw [hnext] at hb
      rcases hd with hd | ⟨hd1, hd2⟩
      · have := hdlt b hd; omega
      · exact h2.fresh _ (by omega) hd2
    · intro gi cs hg i c hi
      simp only [Gh.moved]
      rw [hw.glob gi cs hg i c hi]
    · intro D hD
      rw [h3.same D (hw.dqLt hD)]
      exact hw.dq D hD
  have hE : Ext g H w (g.moved g1 H.next w.heap.size H0) (H.lay H.next n os) w' := by
    refine ⟨hle, fun b hd hg => hmuO b (hdlt b hd), fun b hd hg => by rw [hold b (hdlt b hd)] at hg; exact hg, ?_, ?_, h3.grow, fun cb hcb _ => h3.same cb hcb, ?_, by rw [hnext]; omega, h3.io, fun D hD => .inl hD⟩
    · rintro cb ⟨b, base, hb, hmu⟩
      rcases live b cb base hb hmu with ⟨e1, e2, e3⟩ | ⟨k, rfl, e1, e2, e3⟩
      · exact .inr ⟨b, base, e1, e2⟩
      · exact .inl e3
    · intro cb off c hc
      simp only [Gh.moved] at hc
      split at hc
      · rename_i c' hc'; cases hc; exact .inl hc'
      · obtain ⟨c0, k0, rfl⟩ := Option.map_eq_some_iff.1 hc
        rename_i hnone'
        rcases hroN cb off c0 k0 with ⟨k1, _⟩ | k
        · rw [hnone'] at k1; cases k1
        · exact .inr (.inl k)
    · intro b hd
      rcases hd with hd | ⟨hd1, hd2⟩
      · exact .inl hd
      · refine .inr ⟨hd1, ?_⟩
        rw [hnext]
        have : b - H.next < H0.next := Nat.lt_of_not_le fun hle' => h2.fresh _ hle' hd2
        omega
  refine ⟨e0.shift H.next, _, _, ?_, hW, hE, ?_⟩
  · cases e0 with
    | ret v => obtain ⟨cv, rfl, hv⟩ := h1; exact ⟨cv, rfl, hv.moved hm _ _⟩
    | pan v => obtain ⟨cv, rfl, hv⟩ := h1; exact ⟨cv, rfl, hv.moved hm _ _⟩
  · obtain ⟨N, t⟩ := H
    exact ⟨rfl, rfl⟩

end Go.Aw

/- Closed calls, run by the kernel. -/
namespace Go.Aw

def retTrue : Option (AEnd × AHeap) → Bool
  | some (.ret (.bool true), _) => true
  | _ => false

def eeqs : List (AVal × AVal) → List (AVal × AVal) → Bool
  | [], [] => true
  | (a, b) :: as, (c, d) :: cs => veq a c && veq b d && eeqs as cs
  | _, _ => false

theorem eeqs_eq : ∀ {a b : List (AVal × AVal)}, eeqs a b = true → a = b
  | [], [], _ => rfl
  | [], _ :: _, h => by simp [eeqs] at h
  | _ :: _, [], h => by simp [eeqs] at h
  | (a, b) :: as, (c, d) :: cs, h => by
    simp only [eeqs, Bool.and_eq_true] at h
    rw [veq_eq _ _ h.1.1, veq_eq _ _ h.1.2, eeqs_eq h.2]

def oeq : AObj → AObj → Bool
  | .cells a, .cells b => veqs a b
  | .amap a, .amap b => eeqs a b
  | _, _ => false

theorem oeq_eq {a b : AObj} (h : oeq a b = true) : a = b := by
  cases a <;> cases b <;> simp only [oeq, Bool.false_eq_true] at h
  · rw [veqs_eq _ _ h]
  · rw [eeqs_eq h]

/-- A run comes to this value, and leaves these blocks. -/
def grabOk (r : Option (AEnd × AHeap)) (v0 : AVal) (os : List (Nat × AObj)) (n : Nat) : Bool :=
  match r with
  | some (.ret v, ⟨N, t⟩) => veq v v0 && bAll (fun p => match t.get p.1 with
    | some o => oeq o p.2
    | none => false) os && Nat.ble N n
  | _ => false

def flatV : AVal → Bool
  | .bool _ | .int _ _ | .str _ | .nilp | .nils | .nilm | .nilf | .nili => true
  | _ => false

theorem flatV_plain {v : AVal} (h : flatV v = true) : Plain v ∧ ∀ N, v.shift N = v := by
  cases v <;> simp only [flatV, Bool.false_eq_true] at h <;> exact ⟨fun _ _ _ h => h, fun _ => rfl⟩

theorem flatVs_rel {vs : List AVal} (h : bAll flatV vs = true) : ∀ g g' (cvs : List Value), VRels g vs cvs → VRels g' vs cvs := by
  intro g g'
  induction vs with
  | nil => intro cvs h; exact h
  | cons v vs ih =>
    intro cvs hv
    obtain ⟨c, cs, rfl, h1, h2⟩ := hv
    have hh : flatV v = true ∧ bAll flatV vs = true := by
      rw [bAll] at h
      cases hf : flatV v with
      | true => rw [hf] at h; exact ⟨rfl, h⟩
      | false => rw [hf] at h; cases h
    exact ⟨c, cs, rfl, (flatV_plain hh.1).1 _ _ _ h1, ih hh.2 _ h2⟩

section
variable {Γ : Globs} {P : Program} {T : TTab} {tb : Tb}

theorem FlatG.of {G : List (Nat × List AVal)} (hG : bAll (fun p => bAll flatV p.2) G = true) (h : ∀ gi cs, Γ gi = some cs → (gi, cs) ∈ G) : FlatG Γ :=
  fun gi cs hg c hc => flatV_plain (bAll_iff (bAll_iff hG _ (h gi cs hg)) c hc)

/-- A closed call that comes to true: at any heap, which it leaves as it was. -/
theorem known_true (hΓ : FlatG Γ) (hT : TOk P T) (hmx : P.follows .mixedOrders = true) (hTb : TbOk Γ P T tb) (n : Nat) {f : Nat} {args : List AVal} (ha : bAll flatV args = true)
    (h : retTrue (evFT Γ tb (toRun (evC Γ tb n)) f args .empty) = true) (H : AHeap) : ACalls Γ P f args H (EvPostF (knEnd (.ret (.bool true), [], 0) H)) := by
  rw [toRun_evC] at h
  generalize hr : evFT Γ tb (evT Γ tb n) f args .empty = r at h
  unfold retTrue at h
  split at h
  · rename_i H0
    have := acalls_of_runT hT hmx hTb n hr
    refine (acalls_closed (fun gi cs hg c hc => (hΓ gi cs hg c hc).1) ?_ (flatVs_rel ha) this).mono ?_
    · rintro g g' e he
      obtain ⟨cv, rfl, hv⟩ := he
      exact ⟨cv, rfl, hv⟩
    · rintro e H' ⟨rfl, rfl⟩
      obtain ⟨N, t⟩ := H'
      exact ⟨rfl, rfl⟩
  · cases h

/-- A closed call, its result and what it reaches: at any heap. -/
theorem known_grab (hΓ : FlatG Γ) (hT : TOk P T) (hmx : P.follows .mixedOrders = true) (hTb : TbOk Γ P T tb) (n : Nat) {f : Nat} {args : List AVal} (ha : bAll flatV args = true) {v0 : AVal} {os : List (Nat × AObj)} {k : Nat}
    (h : grabOk (evFT Γ tb (toRun (evC Γ tb n)) f args .empty) v0 os k = true) (H : AHeap) : ACalls Γ P f args H (EvPostF (knEnd (.ret v0, os, k) H)) := by
  rw [toRun_evC] at h
  generalize hr : evFT Γ tb (evT Γ tb n) f args .empty = r at h
  unfold grabOk at h
  split at h
  · rename_i v N t
    simp only [Bool.and_eq_true] at h
    obtain ⟨⟨h1, h2⟩, h3⟩ := h
    have hv := veq_eq _ _ h1
    subst hv
    refine acalls_moved hΓ (flatVs_rel ha) (fun p hp => ?_) (Nat.le_of_ble_eq_true h3) (acalls_of_runT hT hmx hTb n hr) H
    have := bAll_iff h2 p hp
    show t.get p.1 = _
    cases hg : t.get p.1 with
    | none => rw [hg] at this; cases this
    | some o => rw [hg] at this; rw [oeq_eq this]
  · cases h

end
end Go.Aw

/- Steps of a walk by hand, told of a frame and a heap. The goal is kept shut (Is), so that nothing unfolds it. -/
namespace Go.Aw

/-- A goal, kept shut. -/
structure Is (p : Prop) : Prop where
  out : p

section
variable {Γ : Globs} {P : Program} {a b : ACode} {os : List AOper} {K : Fr → AHeap → Prop} {Q Q' : AExit → Fr → AHeap → Prop} {fr : Fr} {H : AHeap} {x : AArg} {dst : Option Nat}

theorem Is.seq (h : Is (aw Γ P a (seqQ Q (aw Γ P b Q)) fr H)) : Is (aw Γ P (.seq a b) Q fr H) := ⟨h.out⟩
theorem Is.region (h : Is (awOps Γ P os (Q .normal) Q fr H)) : Is (aw Γ P (.region os) Q fr H) := ⟨h.out⟩
theorem Is.fin (h : Is (aw Γ P b Q fr H)) : Is (awOps Γ P [] (seqQ Q (aw Γ P b Q) .normal) Q' fr H) := ⟨h.out⟩
theorem Is.skip (h : Is (aw Γ P b Q fr H)) : Is (aw Γ P .skip (seqQ Q (aw Γ P b Q)) fr H) := ⟨h.out⟩
theorem Is.step {op : AOp} (r : AVal × AHeap) (h : astep Γ fr.t H op = some r) (hs : simpleOp op = true) (k : Is (awOps Γ P os K Q (fr.put dst r.1) r.2)) : Is (awOps Γ P (⟨dst, op, none⟩ :: os) K Q fr H) :=
  ⟨awOps_step h hs k.out⟩
theorem Is.call {f : Nat} {xs : List AArg} {H' : AHeap} (v : AVal) (h : ACalls Γ P f (xs.map fun x => x.ev Γ fr.t) H (EvPostF (.ret v, H'))) (k : Is (awOps Γ P os K Q (fr.put dst v) H')) : Is (awOps Γ P (⟨dst, .call f xs, none⟩ :: os) K Q fr H) := by
  refine ⟨?_⟩
  show awOp Γ P (.call f xs) _ _ fr.t H
  refine ⟨_, h, ?_⟩
  rintro e H2 ⟨rfl, rfl⟩
  exact k.out
theorem Is.condF (hx : x.ev Γ fr.t = .bool false) (h : Is (aw Γ P b Q fr H)) : Is (aw Γ P (.cond x a b) Q fr H) := by
  refine ⟨?_⟩
  simp only [aw, hx]
  exact h.out
theorem Is.condT (hx : x.ev Γ fr.t = .bool true) (h : Is (aw Γ P a Q fr H)) : Is (aw Γ P (.cond x a b) Q fr H) := by
  refine ⟨?_⟩
  simp only [aw, hx]
  exact h.out

end
end Go.Aw

/- What is asked behind a call that leaves what it found: frozen blocks of its own may have come. -/
namespace Go.Aw
open Go.ChangeShapes Go.RowKit

theorem post_own {P : Program} {H : Type} {enc : TypeId × Value → H} {f : Func} {s : ChangeSpec} {apart fresh handsOn again : Bool} {W W' : World} {args : Array Value} {v : Value} {ds gs : List (DataW H)} {before pa pv : List MemPlace}
    (hW : DataW.Whole enc P f.params.toList s.vars apart W args.toList ds gs before)
    (hres : ∀ (b : Nat) (sp : Nat → Bool) (hd : Bool), DataW.TrodAll enc P W' b sp hd f.resultTypes.toList (v.resultList f.resultTypes.size) (s.fn H (ds ++ gs)).results [])
    (hargs : ∀ sp : Nat → Bool, (∀ p ∈ before, sp p.block = true) → DataW.TrodAll enc P W' 0 sp true f.params.toList args.toList (s.fn H (ds ++ gs)).args pa)
    (hvars : ∀ sp : Nat → Bool, (∀ p ∈ before, sp p.block = true) → DataW.TrodVars enc P W' sp s.vars (s.fn H (ds ++ gs)).vars pv)
    (hps : before = pa ++ pv) (hk : W.keptBut W' (· ∈ before)) (hfz : ∀ a : Addr, a.block < W.heap.size → W'.frozen? a = W.frozen? a)
    (hok : ∀ (j : Nat) (t : TypeId) (r : Value), f.resultTypes[j]? = some t → (v.resultList f.resultTypes.size)[j]? = some r → Value.okWide P W' .any 0 t r) :
    s.post enc P f apart fresh handsOn again W args v W' := by
  have old : ∀ p ∈ before, (fun b => decide (b < W.heap.size)) p.block = true := fun p hp => by simpa using hW.lt p hp
  have all : ∀ p ∈ before, (fun _ : Nat => true) p.block = true := fun _ _ => rfl
  have hlt := hW.lt
  have hsplit : ∀ {p}, p ∈ before → p ∈ pa ∨ p ∈ pv := fun hp => by rw [hps] at hp; exact List.mem_append.1 hp
  refine ⟨ds, gs, before, [], pa, pv, hW, hres _ _ _, hargs _ old, hvars _ old, World.keptBut_mono (fun p hp => ⟨hp, .inr (hsplit hp)⟩) hk, fun _ => ?_⟩
  obtain ⟨_, _, _, _, _, hz, hn⟩ := hW
  refine ⟨hok, _, _, ([] ++ pa) ++ pv, ⟨[] ++ pa, pv, trodAll_append (hargs _ all) (hres _ _ _), hvars _ all, rfl, fun b off hp => ?_, fun ha => ?_⟩, fun p hp _ => ?_⟩
  · have hp' : MemPlace.cell b off ∈ before := by rw [hps]; simpa using hp
    rw [hfz ⟨b, off, none⟩ (hlt _ hp')]
    exact hz b off hp'
  · have := hn ha
    rw [hps] at this
    simpa using this
  · rw [hps]; simpa using hp

end Go.Aw

/- Functions of plain values: a contract over the empty heap serves at any. -/
namespace Go.Aw

mutual
def flatW : AVal → Bool
  | .bool _ | .int _ _ | .str _ | .nilp | .nils | .nilm | .nilf | .nili => true
  | .agg cs => flatWs cs
  | .tup cs => flatWs cs
  | _ => false
def flatWs : List AVal → Bool
  | [] => true
  | c :: cs => flatW c && flatWs cs
end

mutual
theorem flatW_rel {g g' : Gh} : ∀ (x : AVal) (v : Value), flatW x = true → VRel g x v → VRel g' x v
  | .bool _, _, _, h | .int _ _, _, _, h | .str _, _, _, h | .nilp, _, _, h | .nils, _, _, h | .nilm, _, _, h | .nilf, _, _, h | .nili, _, _, h => h
  | .agg cs, v, hf, h => by
    obtain ⟨vs, rfl, hc⟩ := h
    exact ⟨vs, rfl, flatWs_rel cs _ hf hc⟩
  | .tup cs, v, hf, h => by
    obtain ⟨vs, rfl, hc⟩ := h
    exact ⟨vs, rfl, flatWs_rel cs _ hf hc⟩
  | .ptr .., _, hf, _ | .rptr .., _, hf, _ | .sl .., _, hf, _ | .rs .., _, hf, _ | .map .., _, hf, _ | .fn .., _, hf, _ | .iface .., _, hf, _ | .yld .., _, hf, _ => by cases hf
theorem flatWs_rel {g g' : Gh} : ∀ (xs : List AVal) (vs : List Value), flatWs xs = true → VRels g xs vs → VRels g' xs vs
  | [], _, _, h => h
  | x :: xs, vs, hf, h => by
    obtain ⟨v, vs', rfl, h1, h2⟩ := h
    simp only [flatWs, Bool.and_eq_true] at hf
    exact ⟨v, vs', rfl, flatW_rel x v hf.1 h1, flatWs_rel xs vs' hf.2 h2⟩
end

/-- A call that comes to a value, and leaves the heap as it was. -/
def Pure (Γ : Globs) (P : Program) (f : Nat) (args : List AVal) (v : AVal) : Prop := ∀ H, ACalls Γ P f args H (EvPostF (.ret v, H))

theorem pure_of {Γ : Globs} {P : Program} {f : Nat} {args : List AVal} {v : AVal} (hΓ : FlatG Γ) (ha : flatWs args = true) (hv : flatW v = true) (h : ACalls Γ P f args .empty fun e _ => e = .ret v) : Pure Γ P f args v := by
  intro H
  refine ⟨h.1, fun g w vs hw hvs => ?_⟩
  have h0 : WRel Γ (gh0 (rhoOf Γ)) .empty w := by
    refine WRel.init (fun cb off c hc => ?_) (fun gi cs hg i c hi => by unfold rhoOf; rw [hg]; exact hi)
    unfold rhoOf at hc
    split at hc
    · rename_i cs hg
      obtain ⟨v, hv1, hv2⟩ := hw.ro cb off c (hw.glob cb cs hg off c hc)
      exact ⟨v, hv1, (hΓ cb cs hg c (List.mem_of_getElem? hc)).1 _ _ _ hv2⟩
    · cases hc
  refine (h.2 _ w vs h0 (flatWs_rel _ _ ha hvs)).mono ?_
  rintro e w' ⟨ae, g1, H1, h1, h2, h3, rfl⟩
  obtain ⟨k1, k2⟩ := hw.keep h3.same h3.grow h3.io
  obtain ⟨cv, rfl, hcv⟩ := h1
  exact ⟨.ret v, g, H, ⟨cv, rfl, flatW_rel _ _ hv hcv⟩, k1, k2, rfl, rfl⟩

/-- The kit's contract of a function of plain values. -/
theorem pure_of_calls {Γ : Globs} {P : Program} {f : Nat} {args : List AVal} {v : AVal} (ok : FnOk P f) (h : ∀ g H w (vs : Array Value), WRel Γ g H w → VRels g args vs.toList →
    Calls P f vs w fun e w' => (∃ cv, e = .returned cv ∧ VRel g v cv) ∧ (∀ i, i < w.heap.size → w'.heap[i]? = w.heap[i]?) ∧ w.heap.size ≤ w'.heap.size ∧ Io w w') : Pure Γ P f args v := by
  intro H
  refine ⟨ok, fun g w vs hw hvs => (h g H w vs hw hvs).mono ?_⟩
  rintro e w' ⟨⟨cv, rfl, hcv⟩, k1, k2, k3⟩
  obtain ⟨j1, j2⟩ := hw.keep k1 k2 k3
  exact ⟨.ret v, g, H, ⟨cv, rfl, hcv⟩, j1, j2, rfl, rfl⟩

theorem Is.pure {Γ : Globs} {P : Program} {os : List AOper} {K : Fr → AHeap → Prop} {Q : AExit → Fr → AHeap → Prop} {fr : Fr} {H : AHeap} {dst : Option Nat} {f : Nat} {xs : List AArg} {v : AVal} (h : Pure Γ P f (xs.map fun x => x.ev Γ fr.t) v)
    (k : Is (awOps Γ P os K Q (fr.put dst v) H)) : Is (awOps Γ P (⟨dst, .call f xs, none⟩ :: os) K Q fr H) := Is.call v (h H) k

end Go.Aw

/- More steps of a walk by hand. -/
namespace Go.Aw

section
variable {Γ : Globs} {P : Program} {a b : ACode} {os : List AOper} {K : Fr → AHeap → Prop} {Q Q' : AExit → Fr → AHeap → Prop} {fr : Fr} {H : AHeap} {x : AArg} {dst : Option Nat} {n : Nat}

theorem Is.block (h : Is (aw Γ P a (blockQ n Q) fr H)) : Is (aw Γ P (.block n a) Q fr H) := ⟨h.out⟩
theorem Is.ret (h : Is (Q .ret fr H)) : Is (aw Γ P .ret Q fr H) := ⟨h.out⟩
theorem Is.exit (h : Is (Q (.exit n) fr H)) : Is (aw Γ P (.exit n) Q fr H) := ⟨h.out⟩
theorem Is.skip' (h : Is (Q .normal fr H)) : Is (aw Γ P .skip Q fr H) := ⟨h.out⟩
theorem Is.nil (h : Is (K fr H)) : Is (awOps Γ P [] K Q fr H) := ⟨h.out⟩
theorem Is.sqN (h : Is (K fr H)) : Is (seqQ Q K .normal fr H) := ⟨h.out⟩
theorem Is.sqR (h : Is (Q .ret fr H)) : Is (seqQ Q K .ret fr H) := ⟨h.out⟩
theorem Is.sqX (h : Is (Q (.exit n) fr H)) : Is (seqQ Q K (.exit n) fr H) := ⟨h.out⟩
theorem Is.bkN (h : Is (Q .normal fr H)) : Is (blockQ n Q .normal fr H) := ⟨h.out⟩
theorem Is.bkR (h : Is (Q .ret fr H)) : Is (blockQ n Q .ret fr H) := ⟨h.out⟩
theorem Is.bkX (h : Is (Q .normal fr H)) : Is (blockQ n Q (.exit n) fr H) := ⟨by simp only [blockQ]; rw [if_pos trivial]; exact h.out⟩
theorem Is.bkY {m : Nat} (hm : Nat.beq m n = false) (h : Is (Q (.exit m) fr H)) : Is (blockQ n Q (.exit m) fr H) := ⟨by
  simp only [blockQ]; rw [if_neg (fun e => by subst e; rw [show Nat.beq m m = true from Nat.beq_refl m] at hm; cases hm)]; exact h.out⟩

/-- A step that yields this. -/
theorem Is.op {op : AOp} {v : AVal} {H' : AHeap} (h : astep Γ fr.t H op = some (v, H')) (hs : simpleOp op = true) (k : Is (awOps Γ P os K Q (fr.put dst v) H')) : Is (awOps Γ P (⟨dst, op, none⟩ :: os) K Q fr H) := Is.step (v, H') h hs k

theorem Is.opT {op : AOp} {v : AVal} {H' : AHeap} {gu : Nat × Bool} (hg : gd fr.t (some gu) = some true) (h : astep Γ fr.t H op = some (v, H')) (hs : simpleOp op = true) (k : Is (awOps Γ P os K Q (fr.put dst v) H')) : Is (awOps Γ P (⟨dst, op, some gu⟩ :: os) K Q fr H) := by
  have := (Is.step (Γ := Γ) (P := P) (os := os) (K := K) (Q := Q) (dst := dst) (v, H') h hs k).out
  refine ⟨?_⟩
  simp only [awOps] at this ⊢
  rw [hg]
  exact this

theorem Is.opF {op : AOp} {gu : Nat × Bool} (hg : gd fr.t (some gu) = some false) (k : Is (awOps Γ P os K Q (fr.put dst (.tup [])) H)) : Is (awOps Γ P (⟨dst, op, some gu⟩ :: os) K Q fr H) := by
  refine ⟨?_⟩
  simp only [awOps]
  rw [hg]
  exact k.out

theorem Is.pureT {f : Nat} {xs : List AArg} {v : AVal} {gu : Nat × Bool} (hg : gd fr.t (some gu) = some true) (h : Pure Γ P f (xs.map fun x => x.ev Γ fr.t) v)
    (k : Is (awOps Γ P os K Q (fr.put dst v) H)) : Is (awOps Γ P (⟨dst, .call f xs, some gu⟩ :: os) K Q fr H) := by
  have := (Is.pure (Γ := Γ) (P := P) (os := os) (K := K) (Q := Q) (dst := dst) h k).out
  refine ⟨?_⟩
  simp only [awOps] at this ⊢
  rw [hg]
  exact this

theorem Is.loop (I : Nat → Fr → AHeap → Prop) (k : Nat) (h0 : I k fr H) (hr : ∀ k fr H, I k fr H → Is (aw Γ P a (seqQ Q fun fr' H' => ∃ m, m < k ∧ I m fr' H') fr H)) : Is (aw Γ P (.loop a) Q fr H) :=
  ⟨I, k, h0, fun k fr H hI => (hr k fr H hI).out⟩

theorem Is.pureE {f : Nat} {xs : List AArg} {v : AVal} {args : List AVal} (h : Pure Γ P f args v) (hx : (xs.map fun x => x.ev Γ fr.t) = args)
    (k : Is (awOps Γ P os K Q (fr.put dst v) H)) : Is (awOps Γ P (⟨dst, .call f xs, none⟩ :: os) K Q fr H) := Is.pure (by rw [hx]; exact h) k

theorem Is.pureTE {f : Nat} {xs : List AArg} {v : AVal} {args : List AVal} {gu : Nat × Bool} (h : Pure Γ P f args v) (hg : gd fr.t (some gu) = some true) (hx : (xs.map fun x => x.ev Γ fr.t) = args)
    (k : Is (awOps Γ P os K Q (fr.put dst v) H)) : Is (awOps Γ P (⟨dst, .call f xs, some gu⟩ :: os) K Q fr H) := Is.pureT hg (by rw [hx]; exact h) k

end
end Go.Aw

/- A contract whose new blocks are forgotten. -/
namespace Go.Aw

def AHeap.at (H : AHeap) (n : Nat) : AHeap := ⟨n, H.t⟩

theorem AHeap.at_get (H : AHeap) (n b : Nat) : (H.at n).get b = H.get b := by obtain ⟨m, t⟩ := H; rfl
theorem AHeap.at_next (H : AHeap) (n : Nat) : (H.at n).next = n := rfl
theorem AHeap.at_at (H : AHeap) (n m : Nat) : (H.at n).at m = H.at m := rfl
theorem AHeap.at_self (H : AHeap) : H.at H.next = H := rfl

/-- It comes to this, and what was there is as it was. -/
def Kp (H : AHeap) (v : AVal) (e : AEnd) (H' : AHeap) : Prop := e = .ret v ∧ ∃ n, H.next ≤ n ∧ H' = H.at n

theorem acalls_forget {Γ : Globs} {P : Program} {f : Nat} {args : List AVal} {H : AHeap} {R : AEnd → AHeap → Prop} {v : AVal} (h : ACalls Γ P f args H R)
    (hr : ∀ e H', R e H' → e = .ret v ∧ H.next ≤ H'.next ∧ ∀ b o, b < H.next → H.get b = some o → H'.get b = some o) : ACalls Γ P f args H (Kp H v) := by
  refine ⟨h.1, fun g w vs hw hvs => (h.2 g w vs hw hvs).mono ?_⟩
  rintro e w' ⟨ae, g', H', h1, h2, h3, h4⟩
  obtain ⟨rfl, hn, hk⟩ := hr _ _ h4
  have hs : ∀ b o, (H.at H'.next).get b = some o → H'.get b = some o := fun b o hb => by
    rw [AHeap.at_get] at hb
    exact hk b o (Nat.lt_of_not_le fun hle => hw.fresh b hle (hw.decl b (by rw [hb]; exact fun e => by cases e))) hb
  exact ⟨_, g', H.at H'.next, h1, h2.sub hs (Nat.le_refl _), h3.trans (Ext.sub hs (Nat.le_refl _)), rfl, _, hn, rfl⟩

theorem Kp.of_pure {Γ : Globs} {P : Program} {f : Nat} {args : List AVal} {v : AVal} (h : Pure Γ P f args v) (H : AHeap) : ACalls Γ P f args H (Kp H v) :=
  (h H).mono fun e H' ⟨h1, h2⟩ => ⟨h1, H.next, Nat.le_refl _, h2⟩

/-- A call that keeps what is there. -/
theorem Is.kp {Γ : Globs} {P : Program} {os : List AOper} {K : Fr → AHeap → Prop} {Q : AExit → Fr → AHeap → Prop} {fr : Fr} {H : AHeap} {dst : Option Nat} {f : Nat} {xs : List AArg} {v : AVal} (h : ACalls Γ P f (xs.map fun x => x.ev Γ fr.t) H (Kp H v))
    (k : ∀ n, H.next ≤ n → Is (awOps Γ P os K Q (fr.put dst v) (H.at n))) : Is (awOps Γ P (⟨dst, .call f xs, none⟩ :: os) K Q fr H) := by
  refine ⟨?_⟩
  show awOp Γ P (.call f xs) _ _ fr.t H
  refine ⟨_, h, ?_⟩
  rintro e H' ⟨rfl, n, hn, rfl⟩
  exact (k n hn).out

theorem Is.kpv {Γ : Globs} {P : Program} {os : List AOper} {K : Fr → AHeap → Prop} {Q : AExit → Fr → AHeap → Prop} {fr : Fr} {H : AHeap} {dst : Option Nat} {f : Nat} {x : AArg} {xs : List AArg} {cap : List AVal} {v : AVal} (hx : x.ev Γ fr.t = .fn f cap)
    (h : ACalls Γ P f ((xs.map fun x => x.ev Γ fr.t) ++ cap) H (Kp H v))
    (k : ∀ n, H.next ≤ n → Is (awOps Γ P os K Q (fr.put dst v) (H.at n))) : Is (awOps Γ P (⟨dst, .callv x xs, none⟩ :: os) K Q fr H) := by
  refine ⟨?_⟩
  show awOp Γ P (.callv x xs) _ _ fr.t H
  simp only [awOp, hx]
  refine ⟨_, h, ?_⟩
  rintro e H' ⟨rfl, n, hn, rfl⟩
  exact (k n hn).out

theorem wrc3 {H : AHeap} {b : Nat} {p q r : AVal} {k1 k2 k3 : IntKind} {x y z : Int} (h : H.get b = some (.cells [p, q, r])) : wrc H (.ptr b 0) 0 [.int k1 x, .int k2 y, .int k3 z] = some (H.put b (.cells [.int k1 x, .int k2 y, .int k3 z])) := by
  simp only [wrc, h]; rfl
theorem rdc3 {H : AHeap} {b : Nat} {p q r : AVal} (h : H.get b = some (.cells [p, q, r])) : rdc H (.ptr b 0) 3 = some [p, q, r] := by
  simp only [rdc, h]; rfl
theorem rdc1 {H : AHeap} {b : Nat} {p : AVal} (h : H.get b = some (.cells [p])) : rdc H (.ptr b 0) 1 = some [p] := by
  simp only [rdc, h]; rfl

theorem AHeap.new_next (H : AHeap) (o : AObj) : (H.new o).next = H.next + 1 := by obtain ⟨n, t⟩ := H; rfl
theorem AHeap.put_next (H : AHeap) (b : Nat) (o : AObj) : (H.put b o).next = H.next := by obtain ⟨n, t⟩ := H; rfl
theorem AHeap.get_new_lt (H : AHeap) (o : AObj) {b : Nat} (h : b < H.next) : (H.new o).get b = H.get b := by rw [AHeap.get_new, if_neg (by omega)]

end Go.Aw
