import Derived.Test.YtkamgngihebpoaaGreatDoorHoRf
import Derived.Test.YtkamgngihebpoaaGreatDoorHoRound
/- A run of the program, by fuel. -/
set_option linter.all false
noncomputable section
namespace Go.Aw

section
variable {Γ : Globs} {P : Program} {T : TTab}

theorem awOps_mono : ∀ {os : List AOper} {K K' : Fr → AHeap → Prop} {Q Q' : AExit → Fr → AHeap → Prop} {fr : Fr} {H : AHeap}, (∀ fr H, K fr H → K' fr H) → (∀ v fr H, Q (.panic v) fr H → Q' (.panic v) fr H) → awOps Γ P os K Q fr H → awOps Γ P os K' Q' fr H := by
  intro os
  induction os with
  | nil => intro K K' Q Q' fr H hK hQ h; exact hK _ _ h
  | cons o os ih =>
    intro K K' Q Q' fr H hK hQ h
    simp only [awOps] at h ⊢
    split at h
    · rename_i hg
      try rw [hg]
      try simp only
      by_cases hdf : ∃ x, o.op = .dfr x
      · obtain ⟨x, hx⟩ := hdf
        rw [hx] at h ⊢
        simp only at h ⊢
        split at h
        · rename_i he
          try rw [he]
          exact ih hK hQ h
        · exact h.elim
      · have h' : awOp Γ P o.op (fun v H' => awOps Γ P os K Q (fr.put o.dst v) H') (fun v H' => Q (.panic v) fr H') fr.t H := by
          cases hoo : o.op <;> rw [hoo] at h <;> first | exact h | exact absurd ⟨_, hoo⟩ hdf
        have goal := awOp_mono (K' := fun v H' => awOps Γ P os K' Q' (fr.put o.dst v) H') (X' := fun v H' => Q' (.panic v) fr H') (fun v H h => ih hK hQ h) (fun v H h => hQ _ _ _ h) h'
        cases hoo : o.op <;> rw [hoo] at goal <;> first | exact goal | exact absurd ⟨_, hoo⟩ hdf
    · rename_i hg
      try rw [hg]
      exact ih hK hQ h
    · exact h.elim

theorem drawW_mono {base : Nat} {K K' : List AVal → AHeap → Prop} {X X' : AVal → AHeap → Prop} (hK : ∀ t H, K t H → K' t H) (hX : ∀ v H, X v H → X' v H) : ∀ {L : List DOp} {rs : List DRec} {t : List AVal} {H : AHeap}, drawW Γ P base K X L rs t H → drawW Γ P base K' X' L rs t H := by
  intro L
  induction L with
  | nil => intro rs t H h; exact hK _ _ h
  | cons d ds ih =>
    intro rs t H h
    simp only [drawW] at h ⊢
    split at h
    · exact h.elim
    · rename_i hg
      try rw [hg]
      exact ih h
    · rename_i hg
      try rw [hg]
      try simp only
      split at h
      · rename_i hk
        try rw [hk]
        try simp only
        split at h
        · rename_i hr; (try rw [hr]); exact ih h
        · exact h.elim
      · rename_i hk
        try rw [hk]
        try simp only
        split at h
        · rename_i hr; (try rw [hr]); exact ih h
        · exact h.elim
      · rename_i hk
        try rw [hk]
        try simp only
        split at h
        · rename_i hr; (try rw [hr]); exact ih h
        · exact h.elim
      · rename_i hk
        try rw [hk]
        try simp only
        exact awOp_mono (fun v V h => ⟨h.1, ih h.2⟩) hX h

theorem aw_mono : ∀ {c : ACode} {Q Q' : AExit → Fr → AHeap → Prop} {fr : Fr} {H : AHeap}, (∀ e fr H, Q e fr H → Q' e fr H) → aw Γ P c Q fr H → aw Γ P c Q' fr H := by
  intro c
  induction c with
  | skip => intro Q Q' fr H hq h; exact hq _ _ _ h
  | ret => intro Q Q' fr H hq h; exact hq _ _ _ h
  | exit n => intro Q Q' fr H hq h; exact hq _ _ _ h
  | region os => intro Q Q' fr H hq h; exact awOps_mono (hq .normal) (fun v => hq (.panic v)) h
  | draw m L => intro Q Q' fr H hq h; exact drawW_mono (fun t H h => hq _ _ _ h) (fun v H h t' ht => hq _ _ _ (h t' ht)) h
  | seq a b iha ihb =>
    intro Q Q' fr H hq h
    refine iha ?_ h
    intro e fr' H' h'
    cases e <;> first | exact ihb hq h' | exact hq _ _ _ h'
  | cond x a b iha ihb =>
    intro Q Q' fr H hq h
    simp only [aw] at h ⊢
    split at h
    · exact iha hq h
    · exact ihb hq h
    · exact h.elim
  | block n c ih =>
    intro Q Q' fr H hq h
    refine ih ?_ h
    intro e fr' H' h'
    cases e <;> simp only [blockQ] at h' ⊢ <;> first | exact hq _ _ _ h' | skip
    split
    · rename_i e; rw [if_pos e] at h'; exact hq _ _ _ h'
    · rename_i e; rw [if_neg e] at h'; exact hq _ _ _ h'
  | loop c ih =>
    intro Q Q' fr H hq h
    obtain ⟨I, n, h0, hr⟩ := h
    refine ⟨I, n, h0, fun n fr H hI => ih ?_ (hr n fr H hI)⟩
    intro e fr' H' h'
    cases e <;> first | exact h' | exact hq _ _ _ h'
  | rcv => intro Q Q' fr H hq h; exact h.elim
  | rfun x ps a b _ _ =>
    intro Q Q' fr H hq h
    simp only [aw] at h ⊢
    split at h
    · rename_i f cap hx
      exact h.mono fun H' h' => hq _ _ _ h'
    · exact h.elim
  | bad => intro Q Q' fr H hq h; exact h.elim

end

abbrev ARun := ACode → Fr → AHeap → ARes

/-- What a run goes by: the functions; those that are slices.Backward's closures; the calls that are known. -/
structure Tb where
  fn : Nat → Option AFun
  bk : Nat → Option Nat
  kn : Nat → List AVal → Option KRes

structure TbOk (Γ : Globs) (P : Program) (T : TTab) (tb : Tb) : Prop where
  fn : ∀ f F, tb.fn f = some F → FunIn P T f F
  bk : ∀ f es, tb.bk f = some es → FunIn P T f (bwd es)
  kn : ∀ f args r, tb.kn f args = some r → ∀ H, ACalls Γ P f args H (EvPostF (knEnd r H))

/-- What is left of a function behind its code: the one that it deferred, its results. -/
def evBack (Γ : Globs) (res : List AOp) (t : List AVal) : ARes → Option (AEnd × AHeap)
  | some (.normal, fr, H) | some (.ret, fr, H) => match fr.d with
    | [] => (evRess Γ t H res).map fun vs => (.ret (resVal vs), H)
    | _ => none
  | _ => none

def evDef (Γ : Globs) (run : ARun) (D : AFun) (cap : List AVal) (pn : AVal) (res : List AOp) (t : List AVal) (H : AHeap) : Option (AEnd × AHeap) :=
  match D.body with
  | .seq (.rcv dst os) c => match D.res with
    | [] => match evOps Γ (fun _ _ _ => none) os ((D.start cap).put dst pn) H with
      | some (.normal, fr, H1) => evBack Γ res t (run c fr H1)
      | _ => none
    | _ => none
  | _ => none

def resClear (t : List AVal) : List AOp → Bool
  | [] => true
  | o :: os => bAll (fun s => !isJunk (lget t s)) o.slots && resClear t os

def isIface : AVal → Bool
  | .iface _ _ => true
  | _ => false

def evF (Γ : Globs) (tab : Tb) (run : ARun) : ACall := fun f args H =>
  match tab.kn f args with
  | some r => some (knEnd r H)
  | none => match tab.fn f with
  | none => none
  | some F => match run F.body (F.start args) H with
    | some (.panic v, fr, H') => match fr.d with
      | [] => some (.pan v, H')
      | [.fn df cap] => match tab.fn df with
        | some D => bif resClear fr.t F.res && isIface v then evDef Γ run D cap v F.res fr.t H' else none
        | none => none
      | _ => none
    | some (.normal, fr, H') | some (.ret, fr, H') => match fr.d with
      | [] => (evRess Γ fr.t H' F.res).map fun vs => (.ret (resVal vs), H')
      | [.nilm] => (evRess Γ fr.t H' F.res).map fun vs => (.ret (resVal vs), H')
      | [.fn df cap] => match tab.fn df with
        | some D => evDef Γ run D cap .nili F.res fr.t H'
        | none => none
      | _ => none
    | _ => none

/-- An element of the slice that a cell holds. -/
def rfElem (Γ : Globs) (bk es n : Nat) (H : AHeap) : Option AVal :=
  match astep Γ [.ptr bk 0] H (.ld (.t 0)) with
  | some (s, _) => match astep Γ [s, .int .i64 n] H (.iad es (.t 0) (.t 1)) with
    | some (p, _) => match astep Γ [p] H (.ldn es (.t 0)) with
      | some (v, _) => some v
      | none => none
    | none => none
  | none => none

/-- What a range over a slice from behind goes by: its two variables, the slice's cell, an element's size, how many there are. -/
def rfHead (Γ : Globs) (bkt : Nat → Option Nat) (v : AVal) (ps : List Nat) (a b : ACode) (H : AHeap) : Option (Nat × Nat × Nat × Nat × Nat) :=
  match v with
  | .fn f [.ptr bk 0] => match bkt f with
    | some es => match ps with
      | [p1, p2] => match astep Γ [.ptr bk 0] H (.ld (.t 0)) with
        | some (s, _) => match slLen s with
          | some n => bif Nat.ble n limit && quietC a && quietC b then some (p1, p2, bk, es, n) else none
          | none => none
        | none => none
      | _ => none
    | none => none
  | _ => none

def evRounds (Γ : Globs) (run : ARun) (a b : ACode) (t : List AVal) (p1 p2 bk es : Nat) : Nat → AHeap → Option AHeap
  | 0, H => some H
  | n + 1, H => match rfElem Γ bk es n H with
    | some v => match run a ⟨(t.set p1 (.int .i64 n)).set p2 v, []⟩ H with
      | some (.normal, ⟨t1, []⟩, H1) => match run b ⟨t1, []⟩ H1 with
        | some (.normal, ⟨_, []⟩, H2) => evRounds Γ run a b t p1 p2 bk es n H2
        | _ => none
      | _ => none
    | none => none

def evStep (Γ : Globs) (tab : Tb) (run : ARun) : ARun := fun c fr H =>
  match c with
  | .skip => some (.normal, fr, H)
  | .ret => some (.ret, fr, H)
  | .exit k => some (.exit k, fr, H)
  | .region os => evOps Γ (evF Γ tab run) os fr H
  | .draw m L => match evDraw Γ (evF Γ tab run) H.next L fr.t L [] fr.t (H.bump m) with
    | some (e, t, H') => some (e, ⟨t, fr.d⟩, H')
    | none => none
  | .seq a b => match run a fr H with
    | some (.normal, fr', H') => run b fr' H'
    | r => r
  | .cond x a b => match x.ev Γ fr.t with
    | .bool true => run a fr H
    | .bool false => run b fr H
    | _ => none
  | .block k c => match run c fr H with
    | some (.exit j, fr', H') => bif Nat.beq j k then some (.normal, fr', H') else some (.exit j, fr', H')
    | r => r
  | .loop c => match run c fr H with
    | some (.normal, fr', H') => run (.loop c) fr' H'
    | r => r
  | .rfun x ps a b => match rfHead Γ tab.bk (x.ev Γ fr.t) ps a b H with
    | some (p1, p2, bk, es, n) => match evRounds Γ run a b fr.t p1 p2 bk es n H with
      | some H' => some (.normal, ⟨fr.t, .nilm :: fr.d⟩, H')
      | none => none
    | none => none
  | _ => none

def ev (Γ : Globs) (tab : Tb) : Nat → ARun
  | 0 => fun _ _ _ => none
  | n + 1 => evStep Γ tab (ev Γ tab n)

section
variable {Γ : Globs} {P : Program} {T : TTab}

def RunOk (Γ : Globs) (P : Program) (run : ARun) : Prop := ∀ c fr H r, run c fr H = some r → aw Γ P c (EvPost r) fr H

theorem evRess_congr {t t' : List AVal} {H : AHeap} : ∀ {res : List AOp} {vs : List AVal}, resClear t res = true → (∀ s, isJunk (lget t s) = false → lget t' s = lget t s) → evRess Γ t H res = some vs → evRess Γ t' H res = some vs
  | [], _, _, _, h => h
  | o :: os, vs, hc, hj, h => by
    rw [resClear, Bool.and_eq_true] at hc
    simp only [evRess] at h ⊢
    have : astep Γ t' H o = astep Γ t H o := astep_congr fun s hs => hj s (by have := bAll_iff hc.1 s hs; simpa using this)
    rw [this]
    split at h
    · rename_i q hq
      simp only [Option.map_eq_some_iff] at h
      obtain ⟨vs', h1, rfl⟩ := h
      rw [evRess_congr hc.2 hj h1]
      rfl
    · cases h

theorem evBack_some {res : List AOp} {t : List AVal} {r : ARes} {q : AEnd × AHeap} (h : evBack Γ res t r = some q) : ∃ e fr H vs, r = some (e, fr, H) ∧ (e = .normal ∨ e = .ret) ∧ fr.d = [] ∧ evRess Γ t H res = some vs ∧ q = (.ret (resVal vs), H) := by
  unfold evBack at h
  split at h
  · split at h
    · rename_i hd
      simp only [Option.map_eq_some_iff] at h
      obtain ⟨vs, h1, rfl⟩ := h
      exact ⟨_, _, _, vs, rfl, .inl rfl, hd, h1, rfl⟩
    · cases h
  · split at h
    · rename_i hd
      simp only [Option.map_eq_some_iff] at h
      obtain ⟨vs, h1, rfl⟩ := h
      exact ⟨_, _, _, vs, rfl, .inr rfl, hd, h1, rfl⟩
    · cases h
  · cases h

theorem evDef_sound {run : ARun} (hr : RunOk Γ P run) {D : AFun} {cap : List AVal} {pn : AVal} {res : List AOp} {t t' : List AVal} {H : AHeap} {q : AEnd × AHeap} (h : evDef Γ run D cap pn res t H = some q)
    (ht : ∀ H vs, evRess Γ t H res = some vs → evRess Γ t' H res = some vs) : defW Γ P D cap pn (fun H => ∃ vs, evRess Γ t' H res = some vs ∧ EvPostF q (.ret (resVal vs)) H) H := by
  unfold evDef at h
  unfold defW
  split at h
  · rename_i dst os c hb
    rw [hb]
    simp only
    split at h
    · rename_i hres
      refine ⟨?_, hres⟩
      split at h
      · rename_i fr H1 he
        obtain ⟨e, fr2, H2, vs, h1, h2, h3, h4, rfl⟩ := evBack_some h
        refine awOps_mono ?_ ?_ (evOps_sound (P := P) (call := fun _ _ _ => none) (fun _ _ _ _ h => by cases h) he)
        · rintro fr' H' ⟨_, rfl, _, h5, _⟩
          have := h5 (fun v hc => by cases hc)
          subst this
          refine aw_mono ?_ (hr _ _ _ _ h1)
          rintro e' fr3 H3 ⟨rfl, rfl, h6, _, _⟩
          exact ⟨h2, h6.trans h3, vs, ht _ _ h4, rfl, rfl⟩
        · rintro v fr' H' ⟨h7, _⟩
          cases h7
      · cases h
    · cases h
  · cases h

theorem evF_sound (hT : TOk P T) (hmx : P.follows .mixedOrders = true) {tab : Tb} (hTb : TbOk Γ P T tab) {run : ARun} (hr : RunOk Γ P run) : CallOk Γ P (evF Γ tab run) := by
  intro f args H r h
  have htab := hTb.fn
  unfold evF at h
  split at h
  · rename_i r' hk
    cases h
    exact hTb.kn _ _ _ hk H
  split at h
  · cases h
  · rename_i F hF
    have fin : ∀ (fr : Fr) (H' : AHeap) (e0 : AExit), run F.body (F.start args) H = some (e0, fr, H') → (e0 = .normal ∨ e0 = .ret) → (match fr.d with
        | [] => (evRess Γ fr.t H' F.res).map fun vs => (.ret (resVal vs), H')
        | [.nilm] => (evRess Γ fr.t H' F.res).map fun vs => (.ret (resVal vs), H')
        | [.fn df cap] => match tab.fn df with
          | some D => evDef Γ run D cap .nili F.res fr.t H'
          | none => none
        | _ => none) = some r → ACalls Γ P f args H (EvPostF r) := by
      intro fr H' e0 hrun he0 h
      split at h
      · rename_i hd
        simp only [Option.map_eq_some_iff] at h
        obtain ⟨vs, h1, rfl⟩ := h
        refine acalls_of_aw hT hmx (htab _ _ hF) (aw_mono ?_ (hr _ _ _ _ hrun))
        rintro e fr2 H2 ⟨rfl, rfl, h2, h3, _⟩
        have := h3 (by rcases he0 with rfl | rfl <;> exact fun v hc => by cases hc)
        subst this
        rcases he0 with rfl | rfl
        · exact ⟨hd, vs, h1, rfl, rfl⟩
        · exact ⟨hd, vs, h1, rfl, rfl⟩
      · rename_i hd
        simp only [Option.map_eq_some_iff] at h
        obtain ⟨vs, h1, rfl⟩ := h
        refine acalls_of_aw_marks hT hmx (htab _ _ hF) (aw_mono ?_ (hr _ _ _ _ hrun))
        rintro e fr2 H2 ⟨rfl, rfl, h2, h3, _⟩
        have := h3 (by rcases he0 with rfl | rfl <;> exact fun v hc => by cases hc)
        subst this
        rcases he0 with rfl | rfl
        · exact ⟨.inr hd, vs, h1, rfl, rfl⟩
        · exact ⟨.inr hd, vs, h1, rfl, rfl⟩
      · rename_i df cap hd
        split at h
        · rename_i D hD
          have hdw := evDef_sound hr h (t' := fr.t) (fun _ _ h => h)
          refine acalls_of_aw_defer hT hmx (htab _ _ hF) (htab _ _ hD) (aw_mono ?_ (hr _ _ _ _ hrun))
          rintro e fr2 H2 ⟨rfl, rfl, h2, h3, _⟩
          have := h3 (by rcases he0 with rfl | rfl <;> exact fun v hc => by cases hc)
          subst this
          rcases he0 with rfl | rfl
          · exact ⟨cap, hd, hdw⟩
          · exact ⟨cap, hd, hdw⟩
        · cases h
      · cases h
    split at h
    · rename_i v fr H' hrun
      split at h
      · rename_i hd
        cases h
        refine acalls_of_aw hT hmx (htab _ _ hF) (aw_mono ?_ (hr _ _ _ _ hrun))
        rintro e fr2 H2 ⟨rfl, rfl, h2, h3, _⟩
        exact ⟨h2.trans hd, rfl, rfl⟩
      · rename_i df cap hd
        split at h
        · rename_i D hD
          cases hc : (resClear fr.t F.res && isIface v) with
          | false => rw [hc] at h; cases h
          | true =>
            rw [hc] at h
            simp only [cond_true] at h
            rw [Bool.and_eq_true] at hc
            refine acalls_of_aw_defer hT hmx (htab _ _ hF) (htab _ _ hD) (aw_mono ?_ (hr _ _ _ _ hrun))
            rintro e fr2 H2 ⟨rfl, rfl, h2, _, h4⟩
            refine ⟨cap, h2.trans hd, ?_, evDef_sound hr h (t' := fr2.t) fun H vs hvs => evRess_congr hc.1 h4 hvs⟩
            have := hc.2
            cases v <;> simp only [isIface, Bool.false_eq_true] at this
            exact ⟨_, _, rfl⟩
        · cases h
      · cases h
    · rename_i fr H' hrun
      exact fin fr H' _ hrun (.inl rfl) h
    · rename_i fr H' hrun
      exact fin fr H' _ hrun (.inr rfl) h
    · cases h

theorem astep_ld_heap {t : List AVal} {H H' : AHeap} {x : AArg} {v : AVal} (h : astep Γ t H (.ld x) = some (v, H')) : H' = H := by
  simp only [astep] at h
  split at h
  · simp only [Option.bind_eq_some_iff] at h
    obtain ⟨cs, _, h⟩ := h
    split at h <;> cases h
    rfl
  · simp only [Option.bind_eq_some_iff] at h
    obtain ⟨cs, _, h⟩ := h
    split at h <;> cases h
    rfl
  · cases h

theorem astep_ldn_heap {t : List AVal} {H H' : AHeap} {n : Nat} {x : AArg} {v : AVal} (h : astep Γ t H (.ldn n x) = some (v, H')) : H' = H := by
  simp only [astep] at h
  split at h
  · simp only [Option.map_eq_some_iff] at h
    obtain ⟨cs, _, h⟩ := h
    cases h; rfl
  · simp only [Option.map_eq_some_iff] at h
    obtain ⟨cs, _, h⟩ := h
    cases h; rfl
  · cases h

theorem astep_iad_heap {t : List AVal} {H H' : AHeap} {n : Nat} {x y : AArg} {v : AVal} (h : astep Γ t H (.iad n x y) = some (v, H')) : H' = H := by
  simp only [astep] at h
  split at h
  · split at h <;> cases h
    rfl
  · split at h <;> cases h
    rfl
  · cases h

theorem rfElem_some {bk es n : Nat} {H : AHeap} {v : AVal} (h : rfElem Γ bk es n H = some v) : ∃ s p, astep Γ [.ptr bk 0] H (.ld (.t 0)) = some (s, H) ∧ astep Γ [s, .int .i64 n] H (.iad es (.t 0) (.t 1)) = some (p, H) ∧ astep Γ [p] H (.ldn es (.t 0)) = some (v, H) := by
  unfold rfElem at h
  split at h
  · rename_i s H1 h1
    split at h
    · rename_i p H2 h2
      split at h
      · rename_i v' H3 h3
        cases h
        have e1 := astep_ld_heap h1
        have e2 := astep_iad_heap h2
        have e3 := astep_ldn_heap h3
        subst e1 e2 e3
        exact ⟨s, p, h1, h2, h3⟩
      · cases h
    · cases h
  · cases h

theorem rfHead_some {bkt : Nat → Option Nat} {v : AVal} {ps : List Nat} {a b : ACode} {H : AHeap} {p1 p2 bk es n : Nat} (h : rfHead Γ bkt v ps a b H = some (p1, p2, bk, es, n)) :
    ∃ f s, v = .fn f [.ptr bk 0] ∧ bkt f = some es ∧ ps = [p1, p2] ∧ astep Γ [.ptr bk 0] H (.ld (.t 0)) = some (s, H) ∧ slLen s = some n ∧ n ≤ limit ∧ quietC a = true ∧ quietC b = true := by
  unfold rfHead at h
  split at h
  · rename_i f bk'
    split at h
    · rename_i es' hes
      split at h
      · rename_i q1 q2
        split at h
        · rename_i s H1 h1
          split at h
          · rename_i n' hn
            cases hc : (Nat.ble n' limit && quietC a && quietC b) with
            | false => rw [hc] at h; cases h
            | true =>
              rw [hc] at h
              cases h
              simp only [Bool.and_eq_true] at hc
              have e1 := astep_ld_heap h1
              subst e1
              exact ⟨f, s, rfl, hes, rfl, h1, hn, Nat.le_of_ble_eq_true hc.1.1, hc.1.2, hc.2⟩
          · cases h
        · cases h
      · cases h
    · cases h
  · cases h

theorem evRounds_sound {run : ARun} (hr : RunOk Γ P run) {a b : ACode} {t : List AVal} {p1 p2 bk es : Nat} {K : AHeap → Prop} {H' : AHeap} (hK : K H') : ∀ {n : Nat} {H : AHeap}, evRounds Γ run a b t p1 p2 bk es n H = some H' → backL Γ P a b t p1 p2 bk es K n H
  | 0, H, h => by cases h; exact hK
  | n + 1, H, h => by
    simp only [evRounds] at h
    split at h
    · rename_i v hv
      obtain ⟨s, p, h1, h2, h3⟩ := rfElem_some hv
      refine ⟨s, p, v, h1, h2, h3, ?_⟩
      split at h
      · rename_i t1 H1 ha
        split at h
        · rename_i t2 H2 hb
          refine aw_mono ?_ (hr _ _ _ _ ha)
          rintro e fr2 H2' ⟨rfl, rfl, k2, k3, _⟩
          have := k3 (fun v hc => by cases hc)
          subst this
          refine ⟨rfl, rfl, aw_mono ?_ (hr _ _ _ _ hb)⟩
          rintro e fr3 H3' ⟨rfl, rfl, k2, _, _⟩
          exact ⟨rfl, k2, evRounds_sound hr hK h⟩
        · cases h
      · cases h
    · cases h

theorem ev_sound (hT : TOk P T) (hmx : P.follows .mixedOrders = true) {tab : Tb} (hTb : TbOk Γ P T tab) : ∀ n, RunOk Γ P (ev Γ tab n) := by
  intro n
  induction n using Nat.strongRecOn with
  | _ n ih =>
    intro c fr H r h
    cases n with
    | zero => cases h
    | succ n =>
      have ihn := ih n (Nat.lt_succ_self n)
      have hcall := evF_sound (Γ := Γ) hT hmx hTb ihn
      simp only [ev, evStep] at h
      cases c with
      | skip => cases h; exact ⟨rfl, rfl, rfl, fun _ => rfl, fun _ _ => rfl⟩
      | ret => cases h; exact ⟨rfl, rfl, rfl, fun _ => rfl, fun _ _ => rfl⟩
      | exit k => cases h; exact ⟨rfl, rfl, rfl, fun _ => rfl, fun _ _ => rfl⟩
      | region os => exact evOps_sound hcall h
      | draw m L =>
        simp only at h
        split at h
        · rename_i e t H' he
          cases h
          exact evDraw_sound hcall he
        · cases h
      | seq a b =>
        simp only at h
        show aw Γ P a (seqQ (EvPost r) (aw Γ P b (EvPost r))) fr H
        split at h
        · rename_i fr' H' ha
          refine aw_mono ?_ (ihn _ _ _ _ ha)
          rintro e fr2 H2 ⟨rfl, rfl, _, h3, _⟩
          have := h3 (fun v hc => by cases hc)
          subst this
          exact ihn _ _ _ _ h
        · rename_i hne
          refine aw_mono ?_ (ihn _ _ _ _ h)
          rintro e fr2 H2 hp
          have he := hp.1
          obtain ⟨e0, fr0, H0⟩ := r
          simp only at he
          subst he
          cases e <;> first | exact hp | exact absurd h (hne _ _)
      | cond x a b =>
        simp only at h
        simp only [aw]
        split at h
        · rename_i he; (try rw [he]); exact ihn _ _ _ _ h
        · rename_i he; (try rw [he]); exact ihn _ _ _ _ h
        · cases h
      | block k c =>
        simp only at h
        simp only [aw]
        split at h
        · rename_i j fr' H' hc
          refine aw_mono ?_ (ihn _ _ _ _ hc)
          rintro e fr2 H2 ⟨rfl, rfl, h2, h3, h4⟩
          have := h3 (fun v hc => by cases hc)
          subst this
          simp only [blockQ]
          cases hj : Nat.beq j k with
          | true =>
            rw [hj] at h; cases h
            rw [if_pos (Nat.eq_of_beq_eq_true hj)]
            exact ⟨rfl, rfl, rfl, fun _ => rfl, fun _ _ => rfl⟩
          | false =>
            rw [hj] at h; cases h
            rw [if_neg (fun e => by subst e; rw [show Nat.beq j j = true from Nat.beq_refl j] at hj; cases hj)]
            exact ⟨rfl, rfl, rfl, fun _ => rfl, fun _ _ => rfl⟩
        · rename_i hne
          refine aw_mono ?_ (ihn _ _ _ _ h)
          rintro e fr2 H2 hp
          have he := hp.1
          obtain ⟨e0, fr0, H0⟩ := r
          simp only at he
          subst he
          cases e <;> simp only [blockQ] <;> first | exact hp | exact absurd h (hne _ _ _)
      | loop c =>
        refine ⟨fun k fr H => k ≤ n + 1 ∧ ev Γ tab k (.loop c) fr H = some r, n + 1, ⟨Nat.le_refl _, h⟩, ?_⟩
        rintro k fr H ⟨hk, h⟩
        cases k with
        | zero => cases h
        | succ k =>
          simp only [ev, evStep] at h
          have ihk := ih k (by omega)
          split at h
          · rename_i fr' H' hc
            refine aw_mono ?_ (ihk _ _ _ _ hc)
            rintro e fr2 H2 ⟨rfl, rfl, _, h3, _⟩
            have := h3 (fun v hc => by cases hc)
            subst this
            exact ⟨k, Nat.lt_succ_self k, by omega, h⟩
          · rename_i hne
            refine aw_mono ?_ (ihk _ _ _ _ h)
            rintro e fr2 H2 hp
            have he := hp.1
            obtain ⟨e0, fr0, H0⟩ := r
            simp only at he
            subst he
            cases e <;> first | exact hp | exact absurd h (hne _ _)
      | rcv => cases h
      | rfun x ps a b =>
        simp only at h
        split at h
        · rename_i p1 p2 bk es n hh
          split at h
          · rename_i H' he
            cases h
            obtain ⟨f, s, hx, hes, rfl, h1, hn, hlim, qa, qb⟩ := rfHead_some hh
            simp only [aw, hx]
            exact back_iter hT (hTb.bk _ _ hes) qa qb h1 hn hlim (evRounds_sound ihn ⟨rfl, rfl, rfl, fun _ => rfl, fun _ _ => rfl⟩ he)
          · cases h
        · cases h
      | bad => cases h

/-- A RUN, AND WHAT IT COMES TO. -/
theorem acalls_of_run (hT : TOk P T) (hmx : P.follows .mixedOrders = true) {tab : Tb} (hTb : TbOk Γ P T tab) (n : Nat) {f : Nat} {args : List AVal} {H : AHeap} {r : AEnd × AHeap}
    (h : evF Γ tab (ev Γ tab n) f args H = some r) : ACalls Γ P f args H (EvPostF r) :=
  evF_sound hT hmx hTb (ev_sound hT hmx hTb n) f args H r h

end
end Go.Aw

/- Tables by number. -/
namespace Go.Aw

inductive TTr (α : Type) where
  | leaf
  | node (l : TTr α) (v : Option α) (r : TTr α)

def TTr.get {α : Type} : TTr α → Nat → Option α
  | .leaf, _ => none
  | .node l v r, k => bif Nat.beq k 0 then v else bif Nat.beq (k % 2) 1 then l.get (k / 2) else r.get (k / 2 - 1)

/-- Every entry is so; an entry's number is 'a * place + b'. -/
def TTr.every {α : Type} (p : Nat → α → Bool) : TTr α → Nat → Nat → Bool
  | .leaf, _, _ => true
  | .node l v r, a, b => (match v with
    | some x => p b x
    | none => true) && l.every p (2 * a) (a + b) && r.every p (2 * a) (2 * a + b)

theorem TTr.every_get {α : Type} {p : Nat → α → Bool} : ∀ {t : TTr α} {a b k : Nat} {x : α}, t.every p a b = true → t.get k = some x → p (a * k + b) x = true
  | .leaf, _, _, _, _, _, h => by cases h
  | .node l v r, a, b, k, x, he, h => by
    simp only [every, Bool.and_eq_true] at he
    simp only [get] at h
    obtain ⟨⟨h1, h2⟩, h3⟩ := he
    cases h0 : Nat.beq k 0 with
    | true =>
      rw [h0] at h
      simp only [cond_true] at h
      have := Nat.eq_of_beq_eq_true h0
      subst this
      rw [h] at h1
      simpa using h1
    | false =>
      rw [h0] at h
      simp only [cond_false] at h
      cases hm : Nat.beq (k % 2) 1 with
      | true =>
        rw [hm] at h
        have hm := Nat.eq_of_beq_eq_true hm
        have := TTr.every_get h2 h
        have e : 2 * a * (k / 2) + (a + b) = a * k + b := by
          have hk : k = 2 * (k / 2) + 1 := by omega
          calc 2 * a * (k / 2) + (a + b) = a * (2 * (k / 2) + 1) + b := by rw [Nat.mul_add, Nat.mul_comm 2 a, Nat.mul_assoc]; omega
            _ = a * k + b := by rw [← hk]
        rw [e] at this; exact this
      | false =>
        rw [hm] at h
        have hk0 : k ≠ 0 := fun e => by subst e; cases h0
        have hm1 : k % 2 ≠ 1 := fun e => by rw [e] at hm; cases hm
        have := TTr.every_get h3 h
        have e : 2 * a * (k / 2 - 1) + (2 * a + b) = a * k + b := by
          have hk : k = 2 * (k / 2 - 1) + 2 := by omega
          calc 2 * a * (k / 2 - 1) + (2 * a + b) = a * (2 * (k / 2 - 1) + 2) + b := by rw [Nat.mul_add, Nat.mul_comm 2 a, Nat.mul_assoc]; omega
            _ = a * k + b := by rw [← hk]
        rw [e] at this; exact this

theorem TTr.every_at {α : Type} {p : Nat → α → Bool} {t : TTr α} {k : Nat} {x : α} (he : t.every p 1 0 = true) (h : t.get k = some x) : p k x = true := by
  have := TTr.every_get he h
  simpa using this

/-- As 'every', told by a proposition. -/
def TTr.All {α : Type} (p : Nat → α → Prop) : TTr α → Nat → Nat → Prop
  | .leaf, _, _ => True
  | .node l v r, a, b => (match v with
    | some x => p b x
    | none => True) ∧ l.All p (2 * a) (a + b) ∧ r.All p (2 * a) (2 * a + b)

theorem TTr.All_get {α : Type} {p : Nat → α → Prop} : ∀ {t : TTr α} {a b k : Nat} {x : α}, t.All p a b → t.get k = some x → p (a * k + b) x
  | .leaf, _, _, _, _, _, h => by cases h
  | .node l v r, a, b, k, x, he, h => by
    simp only [All] at he
    simp only [get] at h
    obtain ⟨h1, h2, h3⟩ := he
    cases h0 : Nat.beq k 0 with
    | true =>
      rw [h0] at h
      simp only [cond_true] at h
      have := Nat.eq_of_beq_eq_true h0
      subst this
      rw [h] at h1
      simpa using h1
    | false =>
      rw [h0] at h
      simp only [cond_false] at h
      cases hm : Nat.beq (k % 2) 1 with
      | true =>
        rw [hm] at h
        have hm := Nat.eq_of_beq_eq_true hm
        have := TTr.All_get h2 h
        have e : 2 * a * (k / 2) + (a + b) = a * k + b := by
          have hk : k = 2 * (k / 2) + 1 := by omega
          calc 2 * a * (k / 2) + (a + b) = a * (2 * (k / 2) + 1) + b := by rw [Nat.mul_add, Nat.mul_comm 2 a, Nat.mul_assoc]; omega
            _ = a * k + b := by rw [← hk]
        rw [e] at this; exact this
      | false =>
        rw [hm] at h
        have hk0 : k ≠ 0 := fun e => by subst e; cases h0
        have hm1 : k % 2 ≠ 1 := fun e => by rw [e] at hm; cases hm
        have := TTr.All_get h3 h
        have e : 2 * a * (k / 2 - 1) + (2 * a + b) = a * k + b := by
          have hk : k = 2 * (k / 2 - 1) + 2 := by omega
          calc 2 * a * (k / 2 - 1) + (2 * a + b) = a * (2 * (k / 2 - 1) + 2) + b := by rw [Nat.mul_add, Nat.mul_comm 2 a, Nat.mul_assoc]; omega
            _ = a * k + b := by rw [← hk]
        rw [e] at this; exact this

theorem TTr.All_at {α : Type} {p : Nat → α → Prop} {t : TTr α} {k : Nat} {x : α} (he : t.All p 1 0) (h : t.get k = some x) : p k x := by
  have := TTr.All_get he h
  simpa using this

end Go.Aw

/- The same run, over frames kept as trees. -/
namespace Go.Aw

inductive VT where
  | leaf
  | node (v : AVal) (a b c d : VT)

noncomputable def VT.getP (p : Pth) : VT → AVal :=
  Pth.rec (motive := fun _ => VT → AVal)
    (fun t => VT.rec (motive := fun _ => AVal) (.tup []) (fun v _ _ _ _ _ _ _ _ => v) t)
    (fun _ ih t => VT.rec (motive := fun _ => AVal) (.tup []) (fun _ a _ _ _ _ _ _ _ => ih a) t)
    (fun _ ih t => VT.rec (motive := fun _ => AVal) (.tup []) (fun _ _ b _ _ _ _ _ _ => ih b) t)
    (fun _ ih t => VT.rec (motive := fun _ => AVal) (.tup []) (fun _ _ _ c _ _ _ _ _ => ih c) t)
    (fun _ ih t => VT.rec (motive := fun _ => AVal) (.tup []) (fun _ _ _ _ d _ _ _ _ => ih d) t) p

noncomputable def VT.setP (v : AVal) (p : Pth) : VT → VT :=
  Pth.rec (motive := fun _ => VT → VT)
    (fun t => VT.rec (motive := fun _ => VT) (.node v .leaf .leaf .leaf .leaf) (fun _ a b c d _ _ _ _ => .node v a b c d) t)
    (fun _ ih t => VT.rec (motive := fun _ => VT) (.node (.tup []) (ih .leaf) .leaf .leaf .leaf) (fun x a b c d _ _ _ _ => .node x (ih a) b c d) t)
    (fun _ ih t => VT.rec (motive := fun _ => VT) (.node (.tup []) .leaf (ih .leaf) .leaf .leaf) (fun x a b c d _ _ _ _ => .node x a (ih b) c d) t)
    (fun _ ih t => VT.rec (motive := fun _ => VT) (.node (.tup []) .leaf .leaf (ih .leaf) .leaf) (fun x a b c d _ _ _ _ => .node x a b (ih c) d) t)
    (fun _ ih t => VT.rec (motive := fun _ => VT) (.node (.tup []) .leaf .leaf .leaf (ih .leaf)) (fun x a b c d _ _ _ _ => .node x a b c (ih d)) t) p

theorem VT.getP_leaf (p : Pth) : VT.getP p .leaf = .tup [] := by cases p <;> rfl

theorem VT.getP_setP (v : AVal) : ∀ (p q : Pth) (t : VT), VT.getP q (VT.setP v p t) = open Classical in if q = p then v else VT.getP q t := by
  intro p
  induction p with
  | h =>
    intro q t
    by_cases e : q = .h
    · subst e; rw [if_pos rfl]; cases t <;> rfl
    · rw [if_neg e]
      cases q <;> cases t <;> first | exact absurd rfl e | rfl | exact VT.getP_leaf _
  | a p ih =>
    intro q t
    cases q with
    | a r =>
      by_cases e : r = p
      · subst e
        rw [if_pos rfl]
        cases t with
        | leaf => exact (ih r .leaf).trans (by rw [if_pos rfl])
        | node x a b c d => exact (ih r a).trans (by rw [if_pos rfl])
      · rw [if_neg (by intro h; cases h; exact e rfl)]
        cases t with
        | leaf => exact (ih r .leaf).trans (by rw [if_neg e, VT.getP_leaf, VT.getP_leaf])
        | node x a b c d => exact (ih r a).trans (by rw [if_neg e]; rfl)
    | _ =>
      rw [if_neg (by intro e; cases e)]
      cases t <;> first | rfl | exact VT.getP_leaf _
  | b p ih =>
    intro q t
    cases q with
    | b r =>
      by_cases e : r = p
      · subst e
        rw [if_pos rfl]
        cases t with
        | leaf => exact (ih r .leaf).trans (by rw [if_pos rfl])
        | node x a b c d => exact (ih r b).trans (by rw [if_pos rfl])
      · rw [if_neg (by intro h; cases h; exact e rfl)]
        cases t with
        | leaf => exact (ih r .leaf).trans (by rw [if_neg e, VT.getP_leaf, VT.getP_leaf])
        | node x a b c d => exact (ih r b).trans (by rw [if_neg e]; rfl)
    | _ =>
      rw [if_neg (by intro e; cases e)]
      cases t <;> first | rfl | exact VT.getP_leaf _
  | c p ih =>
    intro q t
    cases q with
    | c r =>
      by_cases e : r = p
      · subst e
        rw [if_pos rfl]
        cases t with
        | leaf => exact (ih r .leaf).trans (by rw [if_pos rfl])
        | node x a b c d => exact (ih r c).trans (by rw [if_pos rfl])
      · rw [if_neg (by intro h; cases h; exact e rfl)]
        cases t with
        | leaf => exact (ih r .leaf).trans (by rw [if_neg e, VT.getP_leaf, VT.getP_leaf])
        | node x a b c d => exact (ih r c).trans (by rw [if_neg e]; rfl)
    | _ =>
      rw [if_neg (by intro e; cases e)]
      cases t <;> first | rfl | exact VT.getP_leaf _
  | d p ih =>
    intro q t
    cases q with
    | d r =>
      by_cases e : r = p
      · subst e
        rw [if_pos rfl]
        cases t with
        | leaf => exact (ih r .leaf).trans (by rw [if_pos rfl])
        | node x a b c d => exact (ih r d).trans (by rw [if_pos rfl])
      · rw [if_neg (by intro h; cases h; exact e rfl)]
        cases t with
        | leaf => exact (ih r .leaf).trans (by rw [if_neg e, VT.getP_leaf, VT.getP_leaf])
        | node x a b c d => exact (ih r d).trans (by rw [if_neg e]; rfl)
    | _ =>
      rw [if_neg (by intro e; cases e)]
      cases t <;> first | rfl | exact VT.getP_leaf _

noncomputable def VT.get (t : VT) (k : Nat) : AVal := VT.getP (pth k) t
noncomputable def VT.set (v : AVal) (t : VT) (k : Nat) : VT := VT.setP v (pth k) t

theorem VT.get_leaf (k : Nat) : VT.leaf.get k = .tup [] := VT.getP_leaf _

theorem VT.get_set (v : AVal) (t : VT) (k j : Nat) : (VT.set v t k).get j = if j = k then v else t.get j := by
  unfold VT.get VT.set
  rw [VT.getP_setP]
  by_cases e : j = k
  · subst e; simp
  · rw [if_neg e, if_neg fun e' => e (pth_inj e')]

/-- An operand, over whatever tells what a slot holds. -/
noncomputable def AArg.evG (Γ : Globs) (t : Nat → AVal) (x : AArg) : AVal :=
  AArg.rec (motive := fun _ => AVal) (fun n => t n) (fun v => v) (fun n => .rptr ((Γ n).getD [])) (fun n => .fn n []) x

theorem evG_eq (Γ : Globs) (t : List AVal) (x : AArg) : x.evG Γ (lget t) = x.ev Γ t := by cases x <;> rfl

noncomputable def afillG (Γ : Globs) (t : Nat → AVal) : List AVal → List (Nat × Nat × AArg) → Option (List AVal)
  | cs, [] => some cs
  | cs, (off, n, x) :: ps =>
    let v := acells (x.evG Γ t)
    bif Nat.beq v.length n && Nat.ble (off + n) cs.length then afillG Γ t (splice cs off v) ps else none

theorem afillG_eq (Γ : Globs) (t : List AVal) : ∀ (cs : List AVal) (ps : List (Nat × Nat × AArg)), afillG Γ (lget t) cs ps = afill Γ t cs ps
  | cs, [] => rfl
  | cs, (off, n, x) :: ps => by
    simp only [afillG, afill, evG_eq, afillG_eq]

noncomputable def g_mv (Γ : Globs) (t : Nat → AVal) (H : AHeap) (x : AArg) : Option (AVal × AHeap) :=
  some (x.evG Γ t, H)
noncomputable def g_pick (Γ : Globs) (t : Nat → AVal) (H : AHeap) (c : AArg) (a : AArg) (b : AArg) : Option (AVal × AHeap) :=
  match c.evG Γ t with
    | .bool true => some (a.evG Γ t, H)
    | .bool false => some (b.evG Γ t, H)
    | _ => none
noncomputable def g_box (Γ : Globs) (t : Nat → AVal) (H : AHeap) (x : AArg) : Option (AVal × AHeap) :=
  some (.ptr H.next 0, H.new (.cells (acells (x.evG Γ t))))
noncomputable def g_alloc (Γ : Globs) (t : Nat → AVal) (H : AHeap) (zs : List AVal) : Option (AVal × AHeap) :=
  some (.ptr H.next 0, H.new (.cells zs))
noncomputable def g_build (Γ : Globs) (t : Nat → AVal) (H : AHeap) (zs : List AVal) (ps : List (Nat × Nat × AArg)) : Option (AVal × AHeap) :=
  (afillG Γ t zs ps).map fun cs => (.agg cs, H)
noncomputable def g_bslice (Γ : Globs) (t : Nat → AVal) (H : AHeap) (es : Nat) (n : Nat) (zs : List AVal) (ps : List (Nat × Nat × AArg)) : Option (AVal × AHeap) :=
  (afillG Γ t zs ps).map fun cs => (.sl H.next 0 es n n true, H.new (.cells cs))
noncomputable def g_ld (Γ : Globs) (t : Nat → AVal) (H : AHeap) (x : AArg) : Option (AVal × AHeap) :=
  match x.evG Γ t with
    | .ptr b off => (rdc H (.ptr b off) 1).bind fun cs => match cs with
      | [v] => some (v, H)
      | _ => none
    | .rptr cs => (rdc H (.rptr cs) 1).bind fun cs => match cs with
      | [v] => some (v, H)
      | _ => none
    | _ => none
noncomputable def g_ldn (Γ : Globs) (t : Nat → AVal) (H : AHeap) (n : Nat) (x : AArg) : Option (AVal × AHeap) :=
  match x.evG Γ t with
    | .ptr b off => (rdc H (.ptr b off) n).map fun cs => (.agg cs, H)
    | .rptr cs => (rdc H (.rptr cs) n).map fun cs => (.agg cs, H)
    | _ => none
noncomputable def g_st (Γ : Globs) (t : Nat → AVal) (H : AHeap) (n : Nat) (x : AArg) (v : AArg) : Option (AVal × AHeap) :=
  match x.evG Γ t with
    | .ptr b off => let vs := acells (v.evG Γ t); bif Nat.beq vs.length n then (wrc H (.ptr b off) 0 vs).map fun H' => (.tup [], H') else none
    | _ => none
noncomputable def g_nilchk (Γ : Globs) (t : Nat → AVal) (H : AHeap) (x : AArg) : Option (AVal × AHeap) :=
  match x.evG Γ t with
    | .ptr b off => some (.ptr b off, H)
    | .rptr cs => some (.rptr cs, H)
    | _ => none
noncomputable def g_bin (Γ : Globs) (t : Nat → AVal) (H : AHeap) (op : BinOp) (ek : EK) (x : AArg) (y : AArg) : Option (AVal × AHeap) :=
  asn (abin op ek (x.evG Γ t) (y.evG Γ t)) H
noncomputable def g_neg (Γ : Globs) (t : Nat → AVal) (H : AHeap) (x : AArg) : Option (AVal × AHeap) :=
  match x.evG Γ t with
    | .int k n => some (.int k (k.wrap (0 - n)), H)
    | _ => none
noncomputable def g_not (Γ : Globs) (t : Nat → AVal) (H : AHeap) (x : AArg) : Option (AVal × AHeap) :=
  match x.evG Γ t with
    | .bool b => some (.bool (!b), H)
    | _ => none
noncomputable def g_cvi (Γ : Globs) (t : Nat → AVal) (H : AHeap) (k : IntKind) (x : AArg) : Option (AVal × AHeap) :=
  match x.evG Γ t with
    | .int _ n => some (.int k (k.wrap n), H)
    | _ => none
noncomputable def g_cvis (Γ : Globs) (t : Nat → AVal) (H : AHeap) (x : AArg) : Option (AVal × AHeap) :=
  match x.evG Γ t with
    | .int _ n => some (.str (Utf8.encode n).data.toList, H)
    | _ => none
noncomputable def g_cvbs (Γ : Globs) (t : Nat → AVal) (H : AHeap) (x : AArg) : Option (AVal × AHeap) :=
  match x.evG Γ t with
    | .nils => some (.str [], H)
    | v => (slLen v).bind fun n => (rdc H v n).bind fun cs => (ofBytes cs).map fun s => (.str s, H)
noncomputable def g_cvsb (Γ : Globs) (t : Nat → AVal) (H : AHeap) (x : AArg) : Option (AVal × AHeap) :=
  match x.evG Γ t with
    | .str s => bif Nat.ble s.length limit then some (.sl H.next 0 1 s.length s.length false, H.new (.cells (bytesOf s))) else none
    | _ => none
noncomputable def g_mkif (Γ : Globs) (t : Nat → AVal) (H : AHeap) (n : Nat) (x : AArg) : Option (AVal × AHeap) :=
  some (.iface n (x.evG Γ t), H)
noncomputable def g_mkfn (Γ : Globs) (t : Nat → AVal) (H : AHeap) (f : Nat) (caps : List AArg) : Option (AVal × AHeap) :=
  some (.fn f (caps.map (·.evG Γ t)), H)
noncomputable def g_mkmap (Γ : Globs) (t : Nat → AVal) (H : AHeap) : Option (AVal × AHeap) :=
  some (.map H.next, H.new (.amap []))
noncomputable def g_mksl (Γ : Globs) (t : Nat → AVal) (H : AHeap) (es : Nat) (zs : List AVal) (l : AArg) (c : AArg) : Option (AVal × AHeap) :=
  match l.evG Γ t, c.evG Γ t with
    | .int _ l, .int _ c => if 0 ≤ l ∧ l ≤ c ∧ c ≤ limit then some (.sl H.next 0 es l.toNat c.toNat true, H.new (.cells (lrep zs c.toNat))) else none
    | _, _ => none
noncomputable def g_slc (Γ : Globs) (t : Nat → AVal) (H : AHeap) (es : Nat) (x : AArg) (lo : Option AArg) (hi : Option AArg) : Option (AVal × AHeap) :=
  bif slEs es (x.evG Γ t) then asn (aslice (x.evG Γ t) (lo.map (fun a => a.evG Γ t)) (hi.map (fun a => a.evG Γ t))) H else none
noncomputable def g_slcs (Γ : Globs) (t : Nat → AVal) (H : AHeap) (x : AArg) (lo : Option AArg) (hi : Option AArg) : Option (AVal × AHeap) :=
  bif isStr (x.evG Γ t) then asn (aslice (x.evG Γ t) (lo.map (fun a => a.evG Γ t)) (hi.map (fun a => a.evG Γ t))) H else none
noncomputable def g_fad (Γ : Globs) (t : Nat → AVal) (H : AHeap) (off : Nat) (x : AArg) : Option (AVal × AHeap) :=
  match x.evG Γ t with
    | .ptr b o => some (.ptr b (o + off), H)
    | .rptr cs => some (.rptr (cs.drop off), H)
    | _ => none
noncomputable def g_iad (Γ : Globs) (t : Nat → AVal) (H : AHeap) (es : Nat) (x : AArg) (i : AArg) : Option (AVal × AHeap) :=
  match x.evG Γ t, i.evG Γ t with
    | .sl b off es' len _ _, .int _ i => if 0 ≤ i ∧ i < len ∧ es = es' then some (.ptr b (off + i.toNat * es), H) else none
    | .rs cs es' len, .int _ i => if 0 ≤ i ∧ i < len ∧ es = es' then some (.rptr (cs.drop (i.toNat * es)), H) else none
    | _, _ => none
noncomputable def g_iada (Γ : Globs) (t : Nat → AVal) (H : AHeap) (es : Nat) (n : Nat) (x : AArg) (i : AArg) : Option (AVal × AHeap) :=
  match x.evG Γ t, i.evG Γ t with
    | .ptr b off, .int _ i => if 0 ≤ i ∧ i < n then some (.ptr b (off + i.toNat * es), H) else none
    | .rptr cs, .int _ i => if 0 ≤ i ∧ i < n then some (.rptr (cs.drop (i.toNat * es)), H) else none
    | _, _ => none
noncomputable def g_fld (Γ : Globs) (t : Nat → AVal) (H : AHeap) (off : Nat) (size : Option Nat) (x : AArg) : Option (AVal × AHeap) :=
  match x.evG Γ t, size with
    | .agg cs, some n => (lcut cs off n).map fun vs => (.agg vs, H)
    | .agg cs, none => (lcut cs off 1).bind fun vs => match vs with
      | [v] => some (v, H)
      | _ => none
    | _, _ => none
noncomputable def g_idxs (Γ : Globs) (t : Nat → AVal) (H : AHeap) (x : AArg) (i : AArg) : Option (AVal × AHeap) :=
  match x.evG Γ t, i.evG Γ t with
    | .str s, .int _ i => if 0 ≤ i then (s[i.toNat]?).map fun b => (.int .u8 b.toNat, H) else none
    | _, _ => none
noncomputable def g_idxa (Γ : Globs) (t : Nat → AVal) (H : AHeap) (n : Nat) (es : Nat) (agg : Bool) (x : AArg) (i : AArg) : Option (AVal × AHeap) :=
  match x.evG Γ t, i.evG Γ t with
    | .agg cs, .int _ i => if 0 ≤ i ∧ i < n then (lcut cs (i.toNat * es) es).bind fun vs => match agg, vs with
        | true, vs => some (.agg vs, H)
        | false, [v] => some (v, H)
        | _, _ => none
      else none
    | _, _ => none
noncomputable def g_lkp (Γ : Globs) (t : Nat → AVal) (H : AHeap) (kn : Option Nat) (z : AVal) (ok : Bool) (m : AArg) (k : AArg) : Option (AVal × AHeap) :=
  
    bif kShape kn (k.evG Γ t) then (amFind H (m.evG Γ t) (k.evG Γ t)).map fun (r : Option AVal) => (bif ok then .tup [r.getD z, .bool r.isSome] else r.getD z, H) else none
noncomputable def g_mput (Γ : Globs) (t : Nat → AVal) (H : AHeap) (kn : Option Nat) (m : AArg) (k : AArg) (v : AArg) : Option (AVal × AHeap) :=
  bif kShape kn (k.evG Γ t) then match m.evG Γ t with
      | .map b => match H.get b with
        | some (.amap es) => (aput (k.evG Γ t) (v.evG Γ t) es).map fun es' => (.tup [], H.put b (.amap es'))
        | _ => none
      | _ => none
    else none
noncomputable def g_rng (Γ : Globs) (t : Nat → AVal) (H : AHeap) (x : AArg) : Option (AVal × AHeap) :=
  match x.evG Γ t with
    | .str s => some (.ptr H.next 0, H.new (.siter s 0))
    | _ => none
noncomputable def g_nxt (Γ : Globs) (t : Nat → AVal) (H : AHeap) (x : AArg) : Option (AVal × AHeap) :=
  match x.evG Γ t with
    | .ptr b 0 => match H.get b with
      | some (.siter s pos) =>
        bif Nat.blt pos s.length then
          let r := Utf8.decode ⟨s.toArray⟩ pos
          some (.tup [.bool true, i64v pos, .int .i32 r.1], H.put b (.siter s (pos + r.2)))
        else some (.tup [.bool false], H)
      | _ => none
    | _ => none
noncomputable def g_ext (Γ : Globs) (t : Nat → AVal) (H : AHeap) (x : AArg) (i : Nat) : Option (AVal × AHeap) :=
  match x.evG Γ t with
    | .tup vs => (vs[i]?).map fun v => (v, H)
    | _ => none
noncomputable def g_lens (Γ : Globs) (t : Nat → AVal) (H : AHeap) (x : AArg) : Option (AVal × AHeap) :=
  match x.evG Γ t with
    | .str s => some (i64v s.length, H)
    | _ => none
noncomputable def g_lensl (Γ : Globs) (t : Nat → AVal) (H : AHeap) (x : AArg) : Option (AVal × AHeap) :=
  (slLen (x.evG Γ t)).map fun n => (i64v n, H)
noncomputable def g_app (Γ : Globs) (t : Nat → AVal) (H : AHeap) (es : Nat) (x : AArg) (y : AArg) : Option (AVal × AHeap) :=
  (slLen (y.evG Γ t)).bind fun n => (rdc H (y.evG Γ t) (n * es)).bind fun new => aapp H es (x.evG Γ t) n new
noncomputable def g_apps (Γ : Globs) (t : Nat → AVal) (H : AHeap) (x : AArg) (y : AArg) : Option (AVal × AHeap) :=
  match y.evG Γ t with
    | .str s => aapp H 1 (x.evG Γ t) s.length (bytesOf s)
    | _ => none
noncomputable def g_cpy (Γ : Globs) (t : Nat → AVal) (H : AHeap) (es : Nat) (x : AArg) (y : AArg) : Option (AVal × AHeap) :=
  (slLen (x.evG Γ t)).bind fun dn => (slLen (y.evG Γ t)).bind fun sn =>
      (rdc H (y.evG Γ t) (min sn dn * es)).bind fun vs => (wrc H (x.evG Γ t) 0 vs).map fun H' => (i64v (min sn dn), H')
noncomputable def g_clr (Γ : Globs) (t : Nat → AVal) (H : AHeap) (zs : List AVal) (x : AArg) : Option (AVal × AHeap) :=
  (slLen (x.evG Γ t)).bind fun n => bif Nat.beq n 0 then some (.tup [], H) else (wrc H (x.evG Γ t) 0 (lrep zs n)).map fun H' => (.tup [], H')
noncomputable def g_mn (Γ : Globs) (t : Nat → AVal) (H : AHeap) (xs : List AArg) : Option (AVal × AHeap) :=
  match (xs.map (fun x => x.evG Γ t) : List AVal) with
    | .int k a :: vs => asn (minInts k a vs) H
    | _ => none
noncomputable def g_mx (Γ : Globs) (t : Nat → AVal) (H : AHeap) (xs : List AArg) : Option (AVal × AHeap) :=
  match (xs.map (fun x => x.evG Γ t) : List AVal) with
    | .int k a :: vs => asn (maxInts k a vs) H
    | _ => none
noncomputable def g_tas (Γ : Globs) (t : Nat → AVal) (H : AHeap) (n : Nat) (z : AVal) (x : AArg) : Option (AVal × AHeap) :=
  match x.evG Γ t with
    | .iface m v => bif Nat.beq m n then some (.tup [v, .bool true], H) else some (.tup [z, .bool false], H)
    | .nili => some (.tup [z, .bool false], H)
    | _ => none

noncomputable def astepG (Γ : Globs) (t : Nat → AVal) (H : AHeap) : AOp → Option (AVal × AHeap)
  | .mv x => g_mv Γ t H x
  | .pick c a b => g_pick Γ t H c a b
  | .box x => g_box Γ t H x
  | .alloc zs => g_alloc Γ t H zs
  | .build zs ps => g_build Γ t H zs ps
  | .bslice es n zs ps => g_bslice Γ t H es n zs ps
  | .ld x => g_ld Γ t H x
  | .ldn n x => g_ldn Γ t H n x
  | .st n x v => g_st Γ t H n x v
  | .nilchk x => g_nilchk Γ t H x
  | .bin op ek x y => g_bin Γ t H op ek x y
  | .neg x => g_neg Γ t H x
  | .not x => g_not Γ t H x
  | .cvi k x => g_cvi Γ t H k x
  | .cvis x => g_cvis Γ t H x
  | .cvbs x => g_cvbs Γ t H x
  | .cvsb x => g_cvsb Γ t H x
  | .mkif n x => g_mkif Γ t H n x
  | .mkfn f caps => g_mkfn Γ t H f caps
  | .mkmap => g_mkmap Γ t H
  | .mksl es zs l c => g_mksl Γ t H es zs l c
  | .slc es x lo hi => g_slc Γ t H es x lo hi
  | .slcs x lo hi => g_slcs Γ t H x lo hi
  | .fad off x => g_fad Γ t H off x
  | .iad es x i => g_iad Γ t H es x i
  | .iada es n x i => g_iada Γ t H es n x i
  | .fld off size x => g_fld Γ t H off size x
  | .idxs x i => g_idxs Γ t H x i
  | .idxa n es agg x i => g_idxa Γ t H n es agg x i
  | .lkp kn z ok m k => g_lkp Γ t H kn z ok m k
  | .mput kn m k v => g_mput Γ t H kn m k v
  | .rng x => g_rng Γ t H x
  | .nxt x => g_nxt Γ t H x
  | .ext x i => g_ext Γ t H x i
  | .lens x => g_lens Γ t H x
  | .lensl x => g_lensl Γ t H x
  | .app es x y => g_app Γ t H es x y
  | .apps x y => g_apps Γ t H x y
  | .cpy es x y => g_cpy Γ t H es x y
  | .clr zs x => g_clr Γ t H zs x
  | .mn xs => g_mn Γ t H xs
  | .mx xs => g_mx Γ t H xs
  | .tas n z x => g_tas Γ t H n z x
  | _ => none

/-- An operation, told apart once. -/
inductive KOp where
  | step (f : Globs → (Nat → AVal) → AHeap → Option (AVal × AHeap))
  | call (f : Nat) (xs : List AArg)
  | callv (x : AArg) (xs : List AArg)
  | pan (x : AArg)
  | bin (op : BinOp) (ek : EK) (x y : AArg)
  | dfr (x : AArg)
  | bad

noncomputable def kop : AOp → KOp
  | .call f xs => .call f xs
  | .callv x xs => .callv x xs
  | .pan x => .pan x
  | .bin op ek x y => .bin op ek x y
  | .dfr x => .dfr x
  | .mv x => .step fun Γ t H => g_mv Γ t H x
  | .pick c a b => .step fun Γ t H => g_pick Γ t H c a b
  | .box x => .step fun Γ t H => g_box Γ t H x
  | .alloc zs => .step fun Γ t H => g_alloc Γ t H zs
  | .build zs ps => .step fun Γ t H => g_build Γ t H zs ps
  | .bslice es n zs ps => .step fun Γ t H => g_bslice Γ t H es n zs ps
  | .ld x => .step fun Γ t H => g_ld Γ t H x
  | .ldn n x => .step fun Γ t H => g_ldn Γ t H n x
  | .st n x v => .step fun Γ t H => g_st Γ t H n x v
  | .nilchk x => .step fun Γ t H => g_nilchk Γ t H x
  | .neg x => .step fun Γ t H => g_neg Γ t H x
  | .not x => .step fun Γ t H => g_not Γ t H x
  | .cvi k x => .step fun Γ t H => g_cvi Γ t H k x
  | .cvis x => .step fun Γ t H => g_cvis Γ t H x
  | .cvbs x => .step fun Γ t H => g_cvbs Γ t H x
  | .cvsb x => .step fun Γ t H => g_cvsb Γ t H x
  | .mkif n x => .step fun Γ t H => g_mkif Γ t H n x
  | .mkfn f caps => .step fun Γ t H => g_mkfn Γ t H f caps
  | .mkmap => .step fun Γ t H => g_mkmap Γ t H
  | .mksl es zs l c => .step fun Γ t H => g_mksl Γ t H es zs l c
  | .slc es x lo hi => .step fun Γ t H => g_slc Γ t H es x lo hi
  | .slcs x lo hi => .step fun Γ t H => g_slcs Γ t H x lo hi
  | .fad off x => .step fun Γ t H => g_fad Γ t H off x
  | .iad es x i => .step fun Γ t H => g_iad Γ t H es x i
  | .iada es n x i => .step fun Γ t H => g_iada Γ t H es n x i
  | .fld off size x => .step fun Γ t H => g_fld Γ t H off size x
  | .idxs x i => .step fun Γ t H => g_idxs Γ t H x i
  | .idxa n es agg x i => .step fun Γ t H => g_idxa Γ t H n es agg x i
  | .lkp kn z ok m k => .step fun Γ t H => g_lkp Γ t H kn z ok m k
  | .mput kn m k v => .step fun Γ t H => g_mput Γ t H kn m k v
  | .rng x => .step fun Γ t H => g_rng Γ t H x
  | .nxt x => .step fun Γ t H => g_nxt Γ t H x
  | .ext x i => .step fun Γ t H => g_ext Γ t H x i
  | .lens x => .step fun Γ t H => g_lens Γ t H x
  | .lensl x => .step fun Γ t H => g_lensl Γ t H x
  | .app es x y => .step fun Γ t H => g_app Γ t H es x y
  | .apps x y => .step fun Γ t H => g_apps Γ t H x y
  | .cpy es x y => .step fun Γ t H => g_cpy Γ t H es x y
  | .clr zs x => .step fun Γ t H => g_clr Γ t H zs x
  | .mn xs => .step fun Γ t H => g_mn Γ t H xs
  | .mx xs => .step fun Γ t H => g_mx Γ t H xs
  | .tas n z x => .step fun Γ t H => g_tas Γ t H n z x
  | _ => .bad

noncomputable def astepK (Γ : Globs) (t : Nat → AVal) (H : AHeap) (op : AOp) : Option (AVal × AHeap) :=
  match kop op with
  | .step f => f Γ t H
  | .bin op ek x y => g_bin Γ t H op ek x y
  | _ => none

theorem astepK_eq (Γ : Globs) (t : Nat → AVal) (H : AHeap) (op : AOp) : astepK Γ t H op = astepG Γ t H op := by cases op <;> rfl

theorem kop_dfr {op : AOp} {x : AArg} (h : kop op = .dfr x) : op = .dfr x := by
  cases op <;> simp only [kop, reduceCtorEq, KOp.dfr.injEq] at h
  rw [h]

noncomputable def allocG (Γ : Globs) (t : Nat → AVal) : AOp → Option (AObj × (Nat → AVal))
  | .box x => some (.cells (acells (x.evG Γ t)), fun b => .ptr b 0)
  | .alloc zs => some (.cells zs, fun b => .ptr b 0)
  | .bslice es n zs ps => (afillG Γ t zs ps).map fun cs => (.cells cs, fun b => .sl b 0 es n n true)
  | .mkmap => some (.amap [], fun b => .map b)
  | .mksl es zs l c => match l.evG Γ t, c.evG Γ t with
    | .int _ l, .int _ c => if 0 ≤ l ∧ l ≤ c ∧ c ≤ limit then some (.cells (lrep zs c.toNat), fun b => .sl b 0 es l.toNat c.toNat true) else none
    | _, _ => none
  | .rng x => match x.evG Γ t with
    | .str s => some (.siter s 0, fun b => .ptr b 0)
    | _ => none
  | _ => none


theorem astepG_eq (Γ : Globs) (t : List AVal) (H : AHeap) (op : AOp) : astepG Γ (lget t) H op = astep Γ t H op := by
  cases op <;> simp only [astepG, astep, evG_eq, afillG_eq, g_mv, g_pick, g_box, g_alloc, g_build, g_bslice, g_ld, g_ldn, g_st, g_nilchk, g_bin, g_neg, g_not, g_cvi, g_cvis, g_cvbs, g_cvsb, g_mkif, g_mkfn, g_mkmap, g_mksl, g_slc, g_slcs, g_fad, g_iad, g_iada, g_fld, g_idxs, g_idxa, g_lkp, g_mput, g_rng, g_nxt, g_ext, g_lens, g_lensl, g_app, g_apps, g_cpy, g_clr, g_mn, g_mx, g_tas] <;> rfl

theorem allocG_eq (Γ : Globs) (t : List AVal) (op : AOp) : allocG Γ (lget t) op = allocOf Γ t op := by
  cases op <;> simp only [allocG, allocOf, evG_eq, afillG_eq] <;> rfl

end Go.Aw

/- A run over frames kept as trees, and that it is the run over rows. -/
namespace Go.Aw

structure FrT where
  t : VT
  n : Nat
  d : List AVal

def RelF (fr : Fr) (ft : FrT) : Prop := fr.t.length = ft.n ∧ fr.d = ft.d ∧ lget fr.t = ft.t.get

noncomputable def tputT (t : VT) (n : Nat) (dst : Option Nat) (v : AVal) : Option VT :=
  match dst with
  | none => some t
  | some d => bif Nat.blt d n then some (VT.set v t d) else none

theorem lget_nil (k : Nat) : lget [] k = .tup [] := rfl

theorem tputT_rel {t : List AVal} {τ τ' : VT} {n : Nat} {dst : Option Nat} {v : AVal} (hl : t.length = n) (hg : lget t = τ.get) (h : tputT τ n dst v = some τ') : (tput t dst v).length = n ∧ lget (tput t dst v) = τ'.get := by
  cases dst with
  | none => cases h; exact ⟨hl, hg⟩
  | some d =>
    simp only [tputT] at h
    cases hb : Nat.blt d n with
    | false => rw [hb] at h; cases h
    | true =>
      rw [hb] at h
      cases h
      have hd : d < t.length := by rw [hl]; exact Nat.blt_eq.mp hb
      refine ⟨by simp [tput, hl], funext fun k => ?_⟩
      rw [VT.get_set, ← hg]
      simp only [tput]
      rw [lget_eq, List.getElem?_set]
      by_cases e : d = k
      · subst e; simp [hd]
      · rw [if_neg e, if_neg (fun e' => e e'.symm), lget_eq]

noncomputable def FrT.put (ft : FrT) (dst : Option Nat) (v : AVal) : Option FrT :=
  match ft with
  | ⟨t, n, d⟩ => match tputT t n dst v with
    | some t => some ⟨t, n, d⟩
    | none => none

theorem put_rel {fr : Fr} {ft ft' : FrT} {dst : Option Nat} {v : AVal} (hr : RelF fr ft) (h : ft.put dst v = some ft') : RelF (fr.put dst v) ft' := by
  obtain ⟨τ, n, d⟩ := ft
  simp only [FrT.put] at h
  split at h
  · rename_i t ht
    cases h
    obtain ⟨h1, h2, h3⟩ := hr
    have := tputT_rel h1 h3 ht
    cases dst with
    | none => exact ⟨this.1, h2, this.2⟩
    | some d => exact ⟨this.1, h2, this.2⟩
  · cases h

noncomputable def gdG (t : Nat → AVal) : Option (Nat × Bool) → Option Bool
  | none => some true
  | some (s, want) => match t s with
    | .bool b => some (b == want)
    | .tup _ => some false
    | _ => none

theorem gdG_eq (t : List AVal) (g : Option (Nat × Bool)) : gdG (lget t) g = gd t g := by
  cases g with
  | none => rfl
  | some q => obtain ⟨s, b⟩ := q; rfl

noncomputable def evOpG (Γ : Globs) (call : ACall) (op : AOp) (t : Nat → AVal) (H : AHeap) : Option (AEnd × AHeap) :=
  match op with
  | .call f xs => call f (xs.map fun x => x.evG Γ t) H
  | .callv x xs => match x.evG Γ t with
    | .fn f cap => call f ((xs.map fun x => x.evG Γ t) ++ cap) H
    | _ => none
  | .pan x => match x.evG Γ t with
    | .iface n v => some (.pan (.iface n v), H)
    | _ => none
  | .bin op ek x y => bif openNil op ek (x.evG Γ t) (y.evG Γ t) then none else ofStep (astepG Γ t H (.bin op ek x y))
  | op => ofStep (astepG Γ t H op)

noncomputable def evOpK (Γ : Globs) (call : ACall) (op : AOp) (t : Nat → AVal) (H : AHeap) : Option (AEnd × AHeap) :=
  match kop op with
  | .step f => ofStep (f Γ t H)
  | .bin op ek x y => bif openNil op ek (x.evG Γ t) (y.evG Γ t) then none else ofStep (g_bin Γ t H op ek x y)
  | .call f xs => call f (xs.map fun x => x.evG Γ t) H
  | .callv x xs => match x.evG Γ t with
    | .fn f cap => call f ((xs.map fun x => x.evG Γ t) ++ cap) H
    | _ => none
  | .pan x => match x.evG Γ t with
    | .iface n v => some (.pan (.iface n v), H)
    | _ => none
  | _ => none

theorem evOpK_eq (Γ : Globs) (call : ACall) (op : AOp) (t : Nat → AVal) (H : AHeap) : evOpK Γ call op t H = evOpG Γ call op t H := by cases op <;> rfl

theorem evOpG_eq (Γ : Globs) (call : ACall) (op : AOp) (t : List AVal) (H : AHeap) : evOpG Γ call op (lget t) H = evOp Γ call op t H := by
  cases op <;> simp only [evOpG, evOp, astepG_eq, evG_eq] <;> rfl

abbrev TRes := Option (AExit × FrT × AHeap)

noncomputable def evOpsT (Γ : Globs) (call : ACall) : List AOper → FrT → AHeap → TRes
  | [], fr, H => some (.normal, fr, H)
  | o :: os, fr, H => match gdG fr.t.get o.guard with
    | some true => match kop o.op with
      | .dfr x => match x.evG Γ fr.t.get with
        | .fn f cap => match FrT.put { fr with d := .fn f cap :: fr.d } o.dst (.tup []) with
          | some fr => evOpsT Γ call os fr H
          | none => none
        | _ => none
      | _ => match evOpK Γ call o.op fr.t.get H with
        | some (.ret v, H') => match fr.put o.dst v with
          | some fr => evOpsT Γ call os fr H'
          | none => none
        | some (.pan v, H') => some (.panic v, fr, H')
        | none => none
    | some false => match fr.put o.dst (.tup []) with
      | some fr => evOpsT Γ call os fr H
      | none => none
    | none => none

def ResRel (r : AExit × Fr × AHeap) (q : AExit × FrT × AHeap) : Prop := r.1 = q.1 ∧ r.2.2 = q.2.2 ∧ RelF r.2.1 q.2.1

theorem evOpsT_sim {Γ : Globs} {call : ACall} : ∀ {os : List AOper} {ft : FrT} {H : AHeap} {q : AExit × FrT × AHeap}, evOpsT Γ call os ft H = some q → ∀ fr, RelF fr ft → ∃ r, evOps Γ call os fr H = some r ∧ ResRel r q := by
  intro os
  induction os with
  | nil => intro ft H q h fr hr; cases h; exact ⟨_, rfl, rfl, rfl, hr⟩
  | cons o os ih =>
    intro ft H q h fr hr
    have hg := hr.2.2
    simp only [evOpsT] at h
    simp only [evOps]
    rw [← hg, gdG_eq] at h
    cases hgd : gd fr.t o.guard with
    | none => rw [hgd] at h; cases h
    | some b =>
      rw [hgd] at h
      cases b with
      | false =>
        simp only at h ⊢
        split at h
        · rename_i ft' hp
          exact ih h _ (put_rel hr hp)
        · cases h
      | true =>
        simp only at h ⊢
        by_cases hdf : ∃ x, o.op = .dfr x
        · obtain ⟨x, hx⟩ := hdf
          rw [hx] at h ⊢
          simp only [kop, evG_eq] at h ⊢
          cases he : x.ev Γ fr.t <;> rw [he] at h <;> try (cases h)
          rename_i f cap
          simp only at h ⊢
          split at h
          · rename_i ft' hp
            exact ih h _ (put_rel (fr := { fr with d := .fn f cap :: fr.d }) (ft := { ft with d := .fn f cap :: ft.d }) ⟨hr.1, by simp [hr.2.1], hr.2.2⟩ hp)
          · cases h
        · have h' : (match evOp Γ call o.op fr.t H with
            | some (.ret v, H') => match ft.put o.dst v with
              | some fr => evOpsT Γ call os fr H'
              | none => none
            | some (.pan v, H') => some (.panic v, ft, H')
            | none => none) = some q := by
            rw [← evOpG_eq, ← evOpK_eq]
            split at h
            · rename_i x hk
              exact absurd ⟨x, kop_dfr hk⟩ hdf
            · exact h
          have goal : ∃ r, (match evOp Γ call o.op fr.t H with
            | some (.ret v, H') => evOps Γ call os (fr.put o.dst v) H'
            | some (.pan v, H') => some (.panic v, fr, H')
            | none => none) = some r ∧ ResRel r q := by
            split at h'
            · rename_i v H1 he
              (try rw [he])
              (try simp only)
              split at h'
              · rename_i ft' hp
                exact ih h' _ (put_rel hr hp)
              · cases h'
            · rename_i v H1 he
              (try rw [he])
              cases h'
              exact ⟨_, rfl, rfl, rfl, hr⟩
            · cases h'
          cases hoo : o.op <;> rw [hoo] at goal <;> first | exact goal | exact absurd ⟨_, hoo⟩ hdf

structure DRecT where
  d : DOp
  v : AVal
  t : VT
  k : RK

def RR : List DRec → List DRecT → Prop
  | [], l => l = []
  | r :: rs, l => ∃ q l', l = q :: l' ∧ r.d = q.d ∧ r.v = q.v ∧ lget r.t = q.t.get ∧ r.k = q.k ∧ RR rs l'

def hideLT (bef : List Nat) (H : AHeap) : List DRecT → AHeap
  | [] => H
  | r :: rs => match r.k with
    | .alloc id _ => bif nmem r.d.idx bef then hideLT bef H rs else (hideLT bef H rs).del id
    | _ => hideLT bef H rs

def unhideLT (bef : List Nat) (H V : AHeap) : List DRecT → AHeap
  | [] => V
  | r :: rs => match r.k with
    | .alloc id _ => bif nmem r.d.idx bef then unhideLT bef H V rs else match H.get id with
      | some o => (unhideLT bef H V rs).put id o
      | none => unhideLT bef H V rs
    | _ => unhideLT bef H V rs

theorem hideLT_eq (bef : List Nat) (H : AHeap) : ∀ (rs : List DRec) (l : List DRecT), RR rs l → hideLT bef H l = hideL bef H rs
  | [], l, h => by cases h; rfl
  | r :: rs, l, h => by
    obtain ⟨q, l', rfl, h1, h2, h3, h4, h5⟩ := h
    simp only [hideL, hideLT, h4, h1, hideLT_eq bef H rs l' h5]
    cases q.k <;> rfl

theorem unhideLT_eq (bef : List Nat) (H V : AHeap) : ∀ (rs : List DRec) (l : List DRecT), RR rs l → unhideLT bef H V l = unhideL bef H V rs
  | [], l, h => by cases h; rfl
  | r :: rs, l, h => by
    obtain ⟨q, l', rfl, h1, h2, h3, h4, h5⟩ := h
    simp only [unhideL, unhideLT, h4, h1, unhideLT_eq bef H V rs l' h5]
    cases q.k <;> rfl

noncomputable def recheckT (Γ : Globs) (bef : List Nat) (H : AHeap) (all : List DRecT) : List DRecT → Bool
  | [] => true
  | r :: rs => (match r.k with
    | .read => nmem r.d.idx bef || (match astepK Γ r.t.get (hideLT r.d.bef H all) r.d.o.op with
      | some q => veq q.1 r.v
      | none => false)
    | _ => true) && recheckT Γ bef H all rs

theorem recheckT_eq {Γ : Globs} {bef : List Nat} {H : AHeap} {all : List DRec} {allT : List DRecT} (ha : RR all allT) : ∀ (rs : List DRec) (l : List DRecT), RR rs l → recheckT Γ bef H allT l = recheckB Γ bef H all rs
  | [], l, h => by cases h; rfl
  | r :: rs, l, h => by
    obtain ⟨q, l', rfl, h1, h2, h3, h4, h5⟩ := h
    simp only [recheckT, recheckB, recheckT_eq ha rs l' h5, h4, h1, ← h3, astepK_eq, astepG_eq, hideLT_eq _ _ _ _ ha, h2]
    cases q.k <;> rfl

noncomputable def junkT (n : Nat) : List DOp → VT → Option VT
  | [], t => some t
  | d :: ds, t => match junkT n ds t with
    | some t => tputT t n d.o.dst junk
    | none => none

theorem junkT_rel {n : Nat} : ∀ {L : List DOp} {t : List AVal} {τ τ' : VT}, t.length = n → lget t = τ.get → junkT n L τ = some τ' → dstsIn n L = true ∧ lget (junkAll L t) = τ'.get
  | [], t, τ, τ', hl, hg, h => by cases h; exact ⟨rfl, hg⟩
  | d :: ds, t, τ, τ', hl, hg, h => by
    simp only [junkT] at h
    split at h
    · rename_i τ1 h1
      obtain ⟨h2, h3⟩ := junkT_rel hl hg h1
      have h4 := tputT_rel (t := junkAll ds t) (by rw [junkAll_length, hl]) h3 h
      refine ⟨?_, h4.2⟩
      rw [dstsIn, Bool.and_eq_true]
      refine ⟨?_, h2⟩
      cases hd : d.o.dst with
      | none => rfl
      | some s =>
        rw [hd] at h
        simp only [tputT] at h
        cases hb : Nat.blt s n with
        | true => exact hb
        | false => rw [hb] at h; cases h
    · cases h

noncomputable def evDrawT (Γ : Globs) (call : ACall) (base n : Nat) (L0 : List DOp) (t0 : VT) : List DOp → List DRecT → VT → AHeap → Option (AExit × VT × AHeap)
  | [], _, t, H => some (.normal, t, H)
  | d :: ds, rs, t, H => match gdG t.get d.o.guard with
    | none => none
    | some false => match tputT t n d.o.dst (.tup []) with
      | some t' => evDrawT Γ call base n L0 t0 ds (⟨d, .tup [], t, .skip⟩ :: rs) t' H
      | none => none
    | some true => match d.kind with
      | .pure => match astepK Γ t.get H d.o.op with
        | some r => match tputT t n d.o.dst r.1 with
          | some t' => evDrawT Γ call base n L0 t0 ds (⟨d, r.1, t, .pure⟩ :: rs) t' H
          | none => none
        | none => none
      | .read => match astepK Γ t.get (hideLT d.bef H rs) d.o.op with
        | some r => match tputT t n d.o.dst r.1 with
          | some t' => evDrawT Γ call base n L0 t0 ds (⟨d, r.1, t, .read⟩ :: rs) t' H
          | none => none
        | none => none
      | .alloc k => match allocG Γ t.get d.o.op with
        | some r => match tputT t n d.o.dst (r.2 (base + k)) with
          | some t' => evDrawT Γ call base n L0 t0 ds (⟨d, r.2 (base + k), t, .alloc (base + k) r.1⟩ :: rs) t' (H.put (base + k) r.1)
          | none => none
        | none => none
      | .eff => match evOpK Γ call d.o.op t.get (hideLT d.bef H rs) with
        | some (.ret v, V) => bif recheckT Γ d.bef (unhideLT d.bef H V rs) rs rs then match tputT t n d.o.dst v with
            | some t' => evDrawT Γ call base n L0 t0 ds (⟨d, v, t, .eff⟩ :: rs) t' (unhideLT d.bef H V rs)
            | none => none
          else none
        | some (.pan v, V) => match junkT n L0 t0 with
          | some t' => some (.panic v, t', V)
          | none => none
        | none => none

theorem evDrawT_sim {Γ : Globs} {call : ACall} {base n : Nat} {L0 : List DOp} {t0 : List AVal} {τ0 : VT} (hl0 : t0.length = n) (hg0 : lget t0 = τ0.get) : ∀ {L : List DOp} {rs : List DRec} {l : List DRecT} {t : List AVal} {τ : VT} {H : AHeap} {q : AExit × VT × AHeap},
    evDrawT Γ call base n L0 τ0 L l τ H = some q → RR rs l → t.length = n → lget t = τ.get → ∃ t', evDraw Γ call base L0 t0 L rs t H = some (q.1, t', q.2.2) ∧ t'.length = n ∧ lget t' = q.2.1.get := by
  intro L
  induction L with
  | nil => intro rs l t τ H q h hr hl hg; cases h; exact ⟨t, rfl, hl, hg⟩
  | cons d ds ih =>
    intro rs l t τ H q h hr hl hg
    simp only [evDrawT, ← hg, gdG_eq, astepK_eq, astepG_eq, allocG_eq, evOpK_eq, evOpG_eq, hideLT_eq _ _ _ _ hr, unhideLT_eq _ _ _ _ _ hr, recheckT_eq hr _ _ hr] at h
    simp only [evDraw]
    have next : ∀ (v : AVal) (k : RK) (τ' : VT) (H' : AHeap) , tputT τ n d.o.dst v = some τ' → evDrawT Γ call base n L0 τ0 ds (⟨d, v, τ, k⟩ :: l) τ' H' = some q →
        ∃ t', evDraw Γ call base L0 t0 ds ({ d := d, v := v, t := t, k := k } :: rs) (tput t d.o.dst v) H' = some (q.1, t', q.2.2) ∧ t'.length = n ∧ lget t' = q.2.1.get := by
      intro v k τ' H' hp h
      obtain ⟨h1, h2⟩ := tputT_rel hl hg hp
      exact ih h ⟨_, _, rfl, rfl, rfl, hg, rfl, hr⟩ h1 h2
    cases hgd : gd t d.o.guard with
    | none => rw [hgd] at h; cases h
    | some b =>
      rw [hgd] at h
      cases b with
      | false =>
        simp only at h ⊢
        split at h
        · rename_i τ' hp; exact next _ _ _ _ hp h
        · cases h
      | true =>
        simp only at h ⊢
        cases hk : d.kind with
        | pure =>
          rw [hk] at h
          simp only at h ⊢
          split at h
          · rename_i r hs
            (try rw [hs])
            simp only
            split at h
            · rename_i τ' hp; exact next _ _ _ _ hp h
            · cases h
          · cases h
        | read =>
          rw [hk] at h
          simp only at h ⊢
          split at h
          · rename_i r hs
            (try rw [hs])
            simp only
            split at h
            · rename_i τ' hp; exact next _ _ _ _ hp h
            · cases h
          · cases h
        | alloc k =>
          rw [hk] at h
          simp only at h ⊢
          split at h
          · rename_i r hs
            (try rw [hs])
            simp only
            split at h
            · rename_i τ' hp; exact next _ _ _ _ hp h
            · cases h
          · cases h
        | eff =>
          rw [hk] at h
          simp only at h ⊢
          split at h
          · rename_i v V hs
            (try rw [hs])
            simp only
            cases hre : recheckB Γ d.bef (unhideL d.bef H V rs) rs rs with
            | false => rw [hre] at h; cases h
            | true =>
              rw [hre] at h
              simp only [cond_true] at h ⊢
              split at h
              · rename_i τ' hp; exact next _ _ _ _ hp h
              · cases h
          · rename_i v V hs
            (try rw [hs])
            simp only
            split at h
            · rename_i τ' hj
              cases h
              obtain ⟨h1, h2⟩ := junkT_rel hl0 hg0 hj
              rw [hl0, h1]
              exact ⟨_, rfl, by rw [junkAll_length, hl0], h2⟩
            · cases h
          · cases h

end Go.Aw
