import Derived.Test.YtkamgngihebpoaaGreatDoorHoSoundD
/- Every operation that calls nothing, one by one: if it is matched, and steps on the abstract heap, the model does so. -/
set_option linter.all false
noncomputable section
namespace Go.Aw

section
variable {Γ : Globs} {P : Program} {T : TTab} {g : Gh} {H H' : AHeap} {w : World} {t : List AVal} {a : Act} {v : AVal}

theorem snd_mv (hT : TOk P T) (hw : WRel Γ g H w) (hf : VRels g t a.tmps.toList) {o : Oper} {x : AArg} (hm : mop T o.op (.mv x) = true) (hs : astep Γ t H (.mv x) = some (v, H')) : Good Γ P o a g H w v H' := by
  have _ := hT
  obtain ⟨dst, op, ty, pos, after, guard⟩ := o
  simp only at hm
  cases op <;> simp only [mop, mcall, Bool.false_eq_true] at hm
  all_goals
    simp only [astep, Option.some.injEq, Prod.mk.injEq] at hs
    obtain ⟨rfl, rfl⟩ := hs
    exact Good.val hw (marg_rel hw hf hm) rfl

theorem snd_pick (hT : TOk P T) (hw : WRel Γ g H w) (hf : VRels g t a.tmps.toList) {o : Oper} {x y z : AArg} (hm : mop T o.op (.pick x y z) = true) (hs : astep Γ t H (.pick x y z) = some (v, H')) : Good Γ P o a g H w v H' := by
  have _ := hT
  obtain ⟨dst, op, ty, pos, after, guard⟩ := o
  simp only at hm
  cases op <;> simp only [mop, mcall, Bool.false_eq_true] at hm
  rename_i c b d
  rw [Bool.and_eq_true, Bool.and_eq_true] at hm
  have h1 := marg_rel hw hf hm.1.1
  have h2 := marg_rel hw hf hm.1.2
  have h3 := marg_rel hw hf hm.2
  simp only [astep] at hs
  split at hs
  · rename_i hc
    cases hs
    rw [hc] at h1
    simp only [VRel] at h1
    exact Good.val hw h2 (by simp [execOp, h1, asBool])
  · rename_i hc
    cases hs
    rw [hc] at h1
    simp only [VRel] at h1
    exact Good.val hw h3 (by simp [execOp, h1, asBool])
  · cases hs

theorem snd_box (hT : TOk P T) (hw : WRel Γ g H w) (hf : VRels g t a.tmps.toList) {o : Oper} {x : AArg} (hm : mop T o.op (.box x) = true) (hs : astep Γ t H (.box x) = some (v, H')) : Good Γ P o a g H w v H' := by
  have _ := hT
  obtain ⟨dst, op, ty, pos, after, guard⟩ := o
  simp only at hm
  cases op <;> simp only [mop, mcall, Bool.false_eq_true] at hm
  simp only [astep, Option.some.injEq, Prod.mk.injEq] at hs
  obtain ⟨rfl, rfl⟩ := hs
  exact .of_ran (ran_box hw (marg_rel hw hf hm) _) rfl

theorem snd_alloc (hT : TOk P T) (hw : WRel Γ g H w) (hf : VRels g t a.tmps.toList) {o : Oper} {zs : List AVal} (hm : mop T o.op (.alloc zs) = true) (hs : astep Γ t H (.alloc zs) = some (v, H')) : Good Γ P o a g H w v H' := by
  have _ := hf
  obtain ⟨dst, op, ty, pos, after, guard⟩ := o
  simp only at hm
  cases op <;> simp only [mop, mcall, Bool.false_eq_true] at hm
  split at hm
  · rename_i ti hti
    simp only [astep, Option.some.injEq, Prod.mk.injEq] at hs
    obtain ⟨rfl, rfl⟩ := hs
    obtain ⟨i, z, hi, _, _, _, hz, hv, _⟩ := (hT _ _ hti).info
    rw [← aveqs_eq _ _ hm]
    exact .of_ran (ran_alloc hw hi hz (hv g)) rfl
  · cases hm

theorem snd_build (hT : TOk P T) (hw : WRel Γ g H w) (hf : VRels g t a.tmps.toList) {o : Oper} {zs : List AVal} {ps : List (Nat × Nat × AArg)} (hm : mop T o.op (.build zs ps) = true) (hs : astep Γ t H (.build zs ps) = some (v, H')) : Good Γ P o a g H w v H' := by
  obtain ⟨dst, op, ty, pos, after, guard⟩ := o
  simp only at hm
  cases op <;> simp only [mop, mcall, Bool.false_eq_true] at hm
  rename_i t0 parts
  simp only [astep, Option.map_eq_some_iff, Prod.mk.injEq] at hs
  obtain ⟨cs, hcs, rfl, rfl⟩ := hs
  have hmap : (parts.map fun (i, x) => (i, a.eval x)).toList = parts.toList.map fun (i, x) => (i, a.eval x) := by simp
  split at hm
  · rename_i ti hti
    rw [Bool.and_eq_true] at hm
    obtain ⟨h1, h2⟩ := hm
    rw [← aveqs_eq _ _ h1] at hcs
    obtain ⟨i, z, hi, _, _, _, hz, hv, _⟩ := (hT _ _ hti).info
    obtain ⟨kind, size, zero, small⟩ := ti
    split at h2
    · rename_i fs ints hk
      simp only at hk
      subst hk
      rw [Bool.and_eq_true] at h2
      obtain ⟨h3, h4⟩ := h2
      obtain ⟨gs, hu, hfo, _⟩ := st_fact hT hti
      have hget := (fieldsOk_get hfo).2
      have hlen := (fieldsOk_get hfo).1
      refine .of_ran (ran_build (t := t) (Γ := Γ) (fs := gs) (qs := ps) hw hi hz (hv g) hu (fun f hff => ?_) ?_ hcs) rfl
      · obtain ⟨k, hk, rfl⟩ := List.mem_iff_getElem.1 (Array.mem_toList_iff.2 hff)
        have hk' : k < fs.length := by rw [hlen]; exact hk
        obtain ⟨q, hq, _, hqt⟩ := hget k fs[k] (List.getElem?_eq_getElem hk')
        rw [List.getElem?_eq_getElem hk] at hq
        cases hq
        rw [hqt]
        have := List.all_eq_true.1 h3 fs[k] (List.getElem_mem hk')
        obtain ⟨tj, htj⟩ := Option.isSome_iff_exists.1 this
        obtain ⟨j, _, hj, _⟩ := (hT _ _ htj).info
        rw [hj]; rfl
      · rw [hmap]
        have hp := mparts_rel hw hf h4
        have hplace : ∀ (k : Nat) (r : Nat × Nat), ((fs[k]?).bind fun f => (T f.2).map fun tj => (f.1, tj.size)) = some r → ((gs[k]?).map fun f => (f.offset, P.cellsOf f.type)) = some r := by
          intro k r hr
          rw [Option.bind_eq_some_iff] at hr
          obtain ⟨f, hf1, hf2⟩ := hr
          rw [Option.map_eq_some_iff] at hf2
          obtain ⟨tj, htj, rfl⟩ := hf2
          obtain ⟨q, hq, e1, e2⟩ := hget k f hf1
          obtain ⟨j, _, hj, hjs, _⟩ := (hT _ _ htj).info
          have hq' : gs[k]? = some q := by simpa using hq
          rw [hq']
          simp only [Option.map_some, e1, e2, Program.cellsOf, hj, Option.getD_some, hjs]
        revert hp
        generalize parts.toList.map (fun (i, x) => (i, a.eval x)) = ls
        clear h4 hcs hmap
        induction ls generalizing ps with
        | nil => intro hp; cases ps with
          | nil => trivial
          | cons q qs => exact hp.elim
        | cons l ls ih => intro hp; cases ps with
          | nil => exact hp.elim
          | cons q qs =>
            obtain ⟨k, u⟩ := l
            obtain ⟨off, n, x⟩ := q
            obtain ⟨p1, p2, p3⟩ := hp
            exact ⟨hplace k _ p1, p2, ih p3⟩
    · rename_i m e hk
      simp only at hk
      subst hk
      split at h2
      · rename_i tj htj
        obtain ⟨j, _, hj, hjs, _⟩ := (hT _ _ htj).info
        refine .of_ran (ran_buildA (t := t) (Γ := Γ) (qs := ps) hw hi hz (hv g) (arr_fact hT hti) hj ?_ hcs) rfl
        rw [hmap, hjs]
        exact mparts_rel hw hf h2
      · cases h2
    · cases h2
  · cases hm

theorem snd_bslice (hT : TOk P T) (hw : WRel Γ g H w) (hf : VRels g t a.tmps.toList) {o : Oper} {es n : Nat} {zs : List AVal} {ps : List (Nat × Nat × AArg)} (hm : mop T o.op (.bslice es n zs ps) = true) (hs : astep Γ t H (.bslice es n zs ps) = some (v, H')) : Good Γ P o a g H w v H' := by
  obtain ⟨dst, op, ty, pos, after, guard⟩ := o
  simp only at hm
  cases op <;> simp only [mop, mcall, Bool.false_eq_true] at hm
  rename_i t0 len parts
  simp only [astep, Option.map_eq_some_iff, Prod.mk.injEq] at hs
  obtain ⟨cs, hcs, rfl, rfl⟩ := hs
  have hmap : (parts.map fun (i, x) => (i, a.eval x)).toList = parts.toList.map fun (i, x) => (i, a.eval x) := by simp
  split at hm
  · rename_i e _ _ _ hti
    split at hm
    · rename_i tj htj
      simp only [Bool.and_eq_true] at hm
      obtain ⟨⟨⟨⟨h1, h2⟩, h3⟩, h4⟩, h5⟩ := hm
      obtain ⟨j, z, hj, hjs, _, _, hz, hv, hzs, _⟩ := (hT _ _ htj).info
      have e1 := Nat.eq_of_beq_eq_true h1
      have e2 := Nat.eq_of_beq_eq_true h2
      subst e1
      rw [← hjs] at e2
      subst e2
      have hle := Nat.le_of_ble_eq_true h3
      rw [← aveqs_eq _ _ h4] at hcs
      have hvz := lrep_rel (hv g) len
      rw [hzs, ← hjs] at hvz
      refine .of_ran (ran_bslice (t := t) (Γ := Γ) (qs := ps) hw (sl_fact hT hti) hj hz hvz hle ?_ hcs) rfl
      rw [hmap]
      exact mparts_rel hw hf h5
    · cases hm
  · cases hm

theorem snd_ld (hT : TOk P T) (hw : WRel Γ g H w) (hf : VRels g t a.tmps.toList) {o : Oper} {x : AArg} (hm : mop T o.op (.ld x) = true) (hs : astep Γ t H (.ld x) = some (v, H')) : Good Γ P o a g H w v H' := by
  obtain ⟨dst, op, ty, pos, after, guard⟩ := o
  simp only at hm
  cases op <;> simp only [mop, mcall, Bool.false_eq_true] at hm
  split at hm
  · rename_i ti hti
    rw [Bool.and_eq_true] at hm
    obtain ⟨d, hd, hk⟩ := (hT _ _ hti).kind
    have hagg : isAggD d = false := by rw [isAggK_eq hk]; simpa using hm.1
    have hx := marg_rel hw hf hm.2
    simp only [astep] at hs
    have one : ∀ (cs : Option (List AVal)), (cs.bind fun cs => match cs with | [v] => some (v, H) | _ => none) = some (v, H') → cs = some [v] ∧ H' = H := by
      intro cs h
      cases cs with
      | none => simp at h
      | some cs => cases cs with
        | nil => simp at h
        | cons c cs => cases cs with
          | nil => simp at h; exact ⟨by rw [h.1], h.2.symm⟩
          | cons _ _ => simp at h
    split at hs
    · rename_i hev
      obtain ⟨h1, rfl⟩ := one _ hs
      rw [hev] at hx
      exact .of_ran (ran_ld hw hx (.inl ⟨_, _, rfl⟩) h1 hd hagg) rfl
    · rename_i hev
      obtain ⟨h1, rfl⟩ := one _ hs
      rw [hev] at hx
      exact .of_ran (ran_ld hw hx (.inr ⟨_, rfl⟩) h1 hd hagg) rfl
    · cases hs
  · cases hm

theorem snd_ldn (hT : TOk P T) (hw : WRel Γ g H w) (hf : VRels g t a.tmps.toList) {o : Oper} {n : Nat} {x : AArg} (hm : mop T o.op (.ldn n x) = true) (hs : astep Γ t H (.ldn n x) = some (v, H')) : Good Γ P o a g H w v H' := by
  obtain ⟨dst, op, ty, pos, after, guard⟩ := o
  simp only at hm
  cases op <;> simp only [mop, mcall, Bool.false_eq_true] at hm
  split at hm
  · rename_i ti hti
    simp only [Bool.and_eq_true] at hm
    obtain ⟨d, hd, hk⟩ := (hT _ _ hti).kind
    obtain ⟨i, z, hi, his, _⟩ := (hT _ _ hti).info
    have hn : i.size = n := by rw [his]; exact Nat.eq_of_beq_eq_true hm.1.2
    have hagg : isAggD d = true := by rw [isAggK_eq hk]; exact hm.1.1
    have hx := marg_rel hw hf hm.2
    simp only [astep] at hs
    split at hs
    · rename_i hev
      simp only [Option.map_eq_some_iff, Prod.mk.injEq] at hs
      obtain ⟨cs, h1, rfl, rfl⟩ := hs
      rw [hev] at hx
      exact .of_ran (ran_ldn hw hx (.inl ⟨_, _, rfl⟩) h1 hd hagg hi hn) rfl
    · rename_i hev
      simp only [Option.map_eq_some_iff, Prod.mk.injEq] at hs
      obtain ⟨cs, h1, rfl, rfl⟩ := hs
      rw [hev] at hx
      exact .of_ran (ran_ldn hw hx (.inr ⟨_, rfl⟩) h1 hd hagg hi hn) rfl
    · cases hs
  · cases hm

theorem snd_st (hT : TOk P T) (hw : WRel Γ g H w) (hf : VRels g t a.tmps.toList) {o : Oper} {n : Nat} {x y : AArg} (hm : mop T o.op (.st n x y) = true) (hs : astep Γ t H (.st n x y) = some (v, H')) : Good Γ P o a g H w v H' := by
  obtain ⟨dst, op, ty, pos, after, guard⟩ := o
  simp only at hm
  cases op <;> simp only [mop, mcall, Bool.false_eq_true] at hm
  simp only [Bool.and_eq_true] at hm
  obtain ⟨⟨h1, h2⟩, h3⟩ := hm
  obtain ⟨i, hi, hn⟩ := size_fact hT h1
  have hx := marg_rel hw hf h2
  have hy := marg_rel hw hf h3
  simp only [astep] at hs
  split at hs
  · rename_i hev
    rw [hev] at hx
    cases hl : Nat.beq (acells (y.ev Γ t)).length n with
    | false => rw [hl] at hs; cases hs
    | true =>
      rw [hl] at hs
      simp only [cond_true, Option.map_eq_some_iff, Prod.mk.injEq] at hs
      obtain ⟨H1, h4, rfl, rfl⟩ := hs
      exact .of_ranU (ran_st hw hx hy (Nat.eq_of_beq_eq_true hl) h4 hi hn) rfl
  · cases hs

theorem snd_nilchk (hT : TOk P T) (hw : WRel Γ g H w) (hf : VRels g t a.tmps.toList) {o : Oper} {x : AArg} (hm : mop T o.op (.nilchk x) = true) (hs : astep Γ t H (.nilchk x) = some (v, H')) : Good Γ P o a g H w v H' := by
  have _ := hT
  obtain ⟨dst, op, ty, pos, after, guard⟩ := o
  simp only at hm
  cases op <;> simp only [mop, mcall, Bool.false_eq_true] at hm
  have hx := marg_rel hw hf hm
  simp only [astep] at hs
  split at hs
  · rename_i hev
    cases hs
    rw [hev] at hx
    have hx' := hx
    obtain ⟨b, hb, _⟩ := hx
    exact Good.val hw hx' (by simp only [execOp, hb])
  · rename_i hev
    cases hs
    rw [hev] at hx
    have hx' := hx
    obtain ⟨cb, off, hb, _⟩ := hx
    exact Good.val hw hx' (by simp only [execOp, hb])
  · cases hs

theorem snd_bin (hT : TOk P T) (hw : WRel Γ g H w) (hf : VRels g t a.tmps.toList) {o : Oper} {op : BinOp} {ek : EK} {x y : AArg} (hm : mop T o.op (.bin op ek x y) = true) (hs : astep Γ t H (.bin op ek x y) = some (v, H')) : Good Γ P o a g H w v H' := by
  obtain ⟨dst, op, ty, pos, after, guard⟩ := o
  simp only at hm
  cases op <;> simp only [mop, mcall, Bool.false_eq_true] at hm
  rename_i op' t0 ox oy yt
  simp only [Bool.and_eq_true, decide_eq_true_eq] at hm
  obtain ⟨⟨⟨⟨rfl, h1⟩, h2⟩, h3⟩, h4⟩ := hm
  have hx := marg_rel hw hf h3
  have hy := marg_rel hw hf h4
  simp only [astep, asn, Option.map_eq_some_iff, Prod.mk.injEq] at hs
  obtain ⟨v', hb, rfl, rfl⟩ := hs
  have key : ∃ cv, (do eqGuard op' t0 ox oy (a.eval ox) (a.eval oy); binOp op' t0 (a.eval ox) (a.eval oy) : Sem Value).run P w = .ok cv w ∧ VRel g v' cv := by
    unfold abin at hb
    split at hb
    · rename_i k n k' m e1 e2
      rw [e1] at hx; rw [e2] at hy
      simp only [VRel] at hx hy
      rw [hx, hy]
      cases hsh : isShift op' with
      | true =>
        rw [hsh] at hb
        exact run_ishift hb hsh t0 ox oy
      | false =>
        rw [hsh] at hb
        simp only [cond_false] at hb
        split at hb
        · rename_i hk; subst hk
          exact run_ibin hb hsh t0 ox oy
        · cases hb
    · rename_i s1 s2 e1 e2
      rw [e1] at hx; rw [e2] at hy
      simp only [VRel] at hx hy
      rw [hx, hy]
      exact run_sbin hb t0 ox oy
    · have gen : ∀ r, aeq ek (x.ev Γ t) (y.ev Γ t) = some r → (eqGuard op' t0 ox oy (a.eval ox) (a.eval oy)).run P w = .ok () w ∧ (Op.equal t0 (a.eval ox) (a.eval oy)).run P w = .ok r w := by
        intro r hr
        refine ⟨?_, run_aeq hr hx hy (ekOk_t hT h1)⟩
        have ht := ekOk_t hT h1
        cases ek with
        | n => simp [aeq] at hr
        | b =>
          cases hxe : x.ev Γ t <;> rw [hxe] at hr <;> (try (simp [aeq] at hr; done))
          rw [hxe] at hx; simp only [VRel] at hx; rw [hx, eqGuard_at_bool]; rfl
        | p =>
          have : ∃ q, a.eval ox = .pointer q := by
            cases hxe : x.ev Γ t <;> rw [hxe] at hr hx <;> (try (simp [aeq] at hr; done))
            · exact ⟨_, hx⟩
            · obtain ⟨q, hq, _⟩ := hx; exact ⟨_, hq⟩
            · obtain ⟨q, o, hq, _⟩ := hx; exact ⟨_, hq⟩
          obtain ⟨q, hq⟩ := this
          rw [hq, eqGuard_at_pointer]; rfl
        | s =>
          have : ∃ q n c, a.eval ox = .slice q n c := by
            cases hxe : x.ev Γ t <;> rw [hxe] at hr hx <;> (try (simp [aeq] at hr; done))
            · exact ⟨_, _, _, hx⟩
            · obtain ⟨q, c, hq, _⟩ := hx; exact ⟨_, _, _, hq⟩
            · obtain ⟨q, c, hq, _⟩ := hx; exact ⟨_, _, _, hq⟩
          obtain ⟨q, n, c, hq⟩ := this
          rw [hq, eqGuard_at_slice]; rfl
        | f =>
          have : a.eval ox = .nilFunc ∨ ∃ f b c, a.eval ox = .func f b c := by
            cases hxe : x.ev Γ t <;> rw [hxe] at hr hx <;> (try (simp [aeq] at hr; done))
            · obtain ⟨q, hq, _⟩ := hx; exact .inr ⟨_, _, _, hq⟩
            · exact .inl hx
          rcases this with hq | ⟨f, b, c, hq⟩
          · rw [hq, eqGuard_at_nilFunc]; rfl
          · rw [hq, eqGuard_at_func]; rfl
        | i =>
          have hlit : litNil ox oy = true := by simpa using h2
          have hcase : (∃ d u, a.eval ox = .iface d u) ∨ (a.eval ox = .nilIface ∧ ((∃ d u, a.eval oy = .iface d u) ∨ a.eval oy = .nilIface)) := by
            cases hxe : x.ev Γ t <;> rw [hxe] at hr hx <;> (try (simp [aeq] at hr; done))
            · obtain ⟨q, hq, _⟩ := hx; exact .inl ⟨_, _, hq⟩
            · refine .inr ⟨hx, ?_⟩
              cases hye : y.ev Γ t <;> rw [hye] at hr hy <;> (try (simp [aeq] at hr; done))
              · obtain ⟨q, hq, _⟩ := hy; exact .inl ⟨_, _, hq⟩
              · exact .inr hy
          rcases hcase with ⟨d, u, hq⟩ | ⟨hq, ⟨d, u, hq2⟩ | hq2⟩
          · rw [hq, eqGuard_at_iface]; rfl
          · rw [hq, hq2, eqGuard_nil_iface]; rfl
          · rw [hq, hq2]
            cases ox with
            | const c => rw [eqGuard_nil_constL]; rfl
            | _ => cases oy with
              | const c => rw [eqGuard_nil_constR]; rfl
              | _ => simp [litNil] at hlit
        | st n =>
          have hg : P.eqGuardType P.depth t0 = false := by
            simp only [tEk] at ht
            split at ht
            · simp only [Bool.and_eq_true, Bool.not_eq_true'] at ht; exact ht.1.2
            · cases ht
          cases hxe : x.ev Γ t <;> rw [hxe] at hr hx <;> (try (simp [aeq] at hr; done))
          cases hye : y.ev Γ t <;> rw [hye] at hr hy <;> (try (simp [aeq] at hr; done))
          obtain ⟨q, hq, _⟩ := hx
          obtain ⟨q2, hq2, _⟩ := hy
          rw [hq, hq2]
          exact run_eqGuard_agg w op' t0 ox oy q q2 hg
      have hnotint : ∀ r, aeq ek (x.ev Γ t) (y.ev Γ t) = some r → ∀ (f : Bool → Sem Value), (f = fun b => pure (.bool b)) ∨ (f = fun b => pure (.bool !b)) → True := fun _ _ _ _ => trivial
      have shape : ∀ r, aeq ek (x.ev Γ t) (y.ev Γ t) = some r → (binOp .eql t0 (a.eval ox) (a.eval oy) = do pure (.bool (← Op.equal t0 (a.eval ox) (a.eval oy)))) ∧ (binOp .neq t0 (a.eval ox) (a.eval oy) = do pure (.bool (!(← Op.equal t0 (a.eval ox) (a.eval oy))))) := by
        intro r hr
        have hne : ∀ k n, a.eval ox ≠ .int k n := by
          intro k n he
          rw [he] at hx
          cases hxe : x.ev Γ t <;> rw [hxe] at hr hx <;> simp only [VRel, reduceCtorEq, false_and, exists_false] at hx
          cases ek <;> simp [aeq] at hr
        have hns : ∀ s, a.eval ox ≠ .string s := by
          intro s he
          rw [he] at hx
          cases hxe : x.ev Γ t <;> rw [hxe] at hr hx <;> simp only [VRel, reduceCtorEq, false_and, exists_false] at hx
          cases ek <;> simp [aeq] at hr
        have hnf : ∀ k n, a.eval ox ≠ .float k n := by
          intro k n he
          rw [he] at hx
          cases hxe : x.ev Γ t <;> rw [hxe] at hr hx <;> simp only [VRel, reduceCtorEq, false_and, exists_false] at hx
        have hnc : ∀ k n m, a.eval ox ≠ .complex k n m := by
          intro k n m he
          rw [he] at hx
          cases hxe : x.ev Γ t <;> rw [hxe] at hr hx <;> simp only [VRel, reduceCtorEq, false_and, exists_false] at hx
        revert hne hns hnf hnc
        generalize a.eval ox = p
        generalize a.eval oy = q
        intro hne hns hnf hnc
        cases p <;> first | exact absurd rfl (hne _ _) | exact absurd rfl (hns _) | exact absurd rfl (hnf _ _) | exact absurd rfl (hnc _ _ _) | exact ⟨rfl, rfl⟩
      split at hb
      · rw [Option.map_eq_some_iff] at hb
        obtain ⟨r, hr, rfl⟩ := hb
        obtain ⟨g1, g2⟩ := gen r hr
        refine ⟨.bool r, ?_, rfl⟩
        simp only [Sem.run_bind, g1, Result.andThen_ok, (shape r hr).1, g2, Sem.run_pure]
      · rw [Option.map_eq_some_iff] at hb
        obtain ⟨r, hr, rfl⟩ := hb
        obtain ⟨g1, g2⟩ := gen r hr
        refine ⟨.bool (!r), ?_, rfl⟩
        simp only [Sem.run_bind, g1, Result.andThen_ok, (shape r hr).2, g2, Sem.run_pure]
      · cases hb
  obtain ⟨cv, h5, h6⟩ := key
  exact .of_ran (.pure h5 hw h6) rfl

theorem snd_neg (hT : TOk P T) (hw : WRel Γ g H w) (hf : VRels g t a.tmps.toList) {o : Oper} {x : AArg} (hm : mop T o.op (.neg x) = true) (hs : astep Γ t H (.neg x) = some (v, H')) : Good Γ P o a g H w v H' := by
  have _ := hT
  obtain ⟨dst, op, ty, pos, after, guard⟩ := o
  simp only at hm
  cases op <;> simp only [mop, mcall, Bool.false_eq_true] at hm
  rename_i op t0 ox
  cases op <;> (try simp only [Bool.false_eq_true] at hm)
  have hx := marg_rel hw hf hm
  simp only [astep] at hs
  split at hs
  · rename_i hev
    cases hs
    rw [hev] at hx
    simp only [VRel] at hx
    refine .of_ran (.pure (cv := .int _ _) ?_ hw rfl) rfl
    simp only [hx, Op.unary, Op.intArith, Sem.run_pure]
  · cases hs

theorem snd_not (hT : TOk P T) (hw : WRel Γ g H w) (hf : VRels g t a.tmps.toList) {o : Oper} {x : AArg} (hm : mop T o.op (.not x) = true) (hs : astep Γ t H (.not x) = some (v, H')) : Good Γ P o a g H w v H' := by
  have _ := hT
  obtain ⟨dst, op, ty, pos, after, guard⟩ := o
  simp only at hm
  cases op <;> simp only [mop, mcall, Bool.false_eq_true] at hm
  rename_i op t0 ox
  cases op <;> (try simp only [Bool.false_eq_true] at hm)
  have hx := marg_rel hw hf hm
  simp only [astep] at hs
  split at hs
  · rename_i hev
    cases hs
    rw [hev] at hx
    simp only [VRel] at hx
    refine .of_ran (.pure (cv := .bool _) ?_ hw rfl) rfl
    simp only [hx, Op.unary, Sem.run_pure]
  · cases hs

end
end Go.Aw

/- Every operation that calls nothing, one by one: if it is matched, and steps on the abstract heap, the model does so. -/
namespace Go.Aw

section
variable {Γ : Globs} {P : Program} {T : TTab} {g : Gh} {H H' : AHeap} {w : World} {t : List AVal} {a : Act} {v : AVal}

theorem snd_cvi (hT : TOk P T) (hw : WRel Γ g H w) (hf : VRels g t a.tmps.toList) {o : Oper} {k : IntKind} {x : AArg} (hm : mop T o.op (.cvi k x) = true) (hs : astep Γ t H (.cvi k x) = some (v, H')) : Good Γ P o a g H w v H' := by
  obtain ⟨dst, op, ty, pos, after, guard⟩ := o
  simp only at hm
  cases op <;> simp only [mop, mcall, Bool.false_eq_true] at hm
  rename_i s d ox
  simp only [Bool.and_eq_true] at hm
  obtain ⟨⟨h1, h2⟩, h3⟩ := hm
  have hx := marg_rel hw hf h3
  obtain ⟨ts, hts⟩ := Option.isSome_iff_exists.1 h1
  obtain ⟨ds, hds, _⟩ := (hT _ _ hts).kind
  split at h2
  · rename_i j _ _ _ htd
    have hd := int_fact hT htd
    rw [decide_eq_true_eq] at h2
    subst h2
    simp only [astep] at hs
    split at hs
    · rename_i hev
      cases hs
      rw [hev] at hx
      simp only [VRel] at hx
      refine .of_ran (.pure (cv := .int _ _) ?_ hw rfl) rfl
      simp [hx, convert, run_underlying hds, run_underlying hd, Conv.intToInt]
    · cases hs
  · cases h2

theorem snd_cvis (hT : TOk P T) (hw : WRel Γ g H w) (hf : VRels g t a.tmps.toList) {o : Oper} {x : AArg} (hm : mop T o.op (.cvis x) = true) (hs : astep Γ t H (.cvis x) = some (v, H')) : Good Γ P o a g H w v H' := by
  obtain ⟨dst, op, ty, pos, after, guard⟩ := o
  simp only at hm
  cases op <;> simp only [mop, mcall, Bool.false_eq_true] at hm
  rename_i s d ox
  simp only [Bool.and_eq_true] at hm
  obtain ⟨⟨h1, h2⟩, h3⟩ := hm
  have hx := marg_rel hw hf h3
  obtain ⟨ts, hts⟩ := Option.isSome_iff_exists.1 h1
  obtain ⟨ds, hds, _⟩ := (hT _ _ hts).kind
  split at h2
  · rename_i htd
    have hd := str_fact hT htd
    simp only [astep] at hs
    split at hs
    · rename_i hev
      cases hs
      rw [hev] at hx
      simp only [VRel] at hx
      refine .of_ran (.pure (cv := .string _) ?_ hw rfl) rfl
      simp [hx, convert, run_underlying hds, run_underlying hd, Conv.intToString]
    · cases hs
  · cases h2

theorem snd_cvbs (hT : TOk P T) (hw : WRel Γ g H w) (hf : VRels g t a.tmps.toList) {o : Oper} {x : AArg} (hm : mop T o.op (.cvbs x) = true) (hs : astep Γ t H (.cvbs x) = some (v, H')) : Good Γ P o a g H w v H' := by
  obtain ⟨dst, op, ty, pos, after, guard⟩ := o
  simp only at hm
  cases op <;> simp only [mop, mcall, Bool.false_eq_true] at hm
  rename_i s d ox
  simp only [Bool.and_eq_true] at hm
  obtain ⟨⟨h1, h2⟩, h3⟩ := hm
  have hx := marg_rel hw hf h3
  split at h1
  · rename_i hts
    split at h1
    · rename_i hte
      split at h2
      · rename_i htd
        simp only [astep] at hs
        split at hs
        · rename_i hev
          cases hs
          rw [hev] at hx
          exact .of_ran (ran_cvbs hw hx (n := 0) (cs := []) rfl rfl rfl (sl_fact hT hts) (int_fact hT hte) (str_fact hT htd)) rfl
        · simp only [Option.bind_eq_some_iff, Option.map_eq_some_iff, Prod.mk.injEq] at hs
          obtain ⟨n, e1, cs, e2, s, e3, rfl, rfl⟩ := hs
          exact .of_ran (ran_cvbs hw hx e1 e2 e3 (sl_fact hT hts) (int_fact hT hte) (str_fact hT htd)) rfl
      · cases h2
    · cases h1
  · cases h1

theorem snd_cvsb (hT : TOk P T) (hw : WRel Γ g H w) (hf : VRels g t a.tmps.toList) {o : Oper} {x : AArg} (hm : mop T o.op (.cvsb x) = true) (hs : astep Γ t H (.cvsb x) = some (v, H')) : Good Γ P o a g H w v H' := by
  obtain ⟨dst, op, ty, pos, after, guard⟩ := o
  simp only at hm
  cases op <;> simp only [mop, mcall, Bool.false_eq_true] at hm
  rename_i s d ox
  simp only [Bool.and_eq_true] at hm
  obtain ⟨⟨h1, h2⟩, h3⟩ := hm
  have hx := marg_rel hw hf h3
  split at h1
  · rename_i htd
    split at h1
    · rename_i hte
      split at h2
      · rename_i hts
        simp only [astep] at hs
        split at hs
        · rename_i str hev
          rw [hev] at hx
          cases hl : Nat.ble str.length limit with
          | false => rw [hl] at hs; cases hs
          | true =>
            rw [hl] at hs
            cases hs
            exact .of_ran (ran_cvsb hw hx (str_fact hT hts) (sl_fact hT htd) (int_fact hT hte)) rfl
        · cases hs
      · cases h2
    · cases h1
  · cases h1

theorem snd_mkif (hT : TOk P T) (hw : WRel Γ g H w) (hf : VRels g t a.tmps.toList) {o : Oper} {n : Nat} {x : AArg} (hm : mop T o.op (.mkif n x) = true) (hs : astep Γ t H (.mkif n x) = some (v, H')) : Good Γ P o a g H w v H' := by
  obtain ⟨dst, op, ty, pos, after, guard⟩ := o
  simp only at hm
  cases op <;> simp only [mop, mcall, Bool.false_eq_true] at hm
  rename_i t0 ox
  simp only [Bool.and_eq_true] at hm
  obtain ⟨⟨h1, h2⟩, h3⟩ := hm
  have hx := marg_rel hw hf h3
  have e1 := Nat.eq_of_beq_eq_true h1
  subst e1
  simp only [astep, Option.some.injEq, Prod.mk.injEq] at hs
  obtain ⟨rfl, rfl⟩ := hs
  refine .of_ran (.pure (cv := .iface t0 (a.eval ox)) ?_ hw ⟨_, rfl, hx⟩) rfl
  split at h2
  · cases h2
  · rename_i ti hti hne
    obtain ⟨d, hd, hk⟩ := (hT _ _ hne).kind
    simp only [Instr.makeInterface, Sem.run_bind, run_underlying hd, Result.andThen_ok]
    cases d <;> first | rfl | skip
    obtain ⟨kind, size, zero, small⟩ := ti
    cases kind <;> simp only [kindOk, Bool.false_eq_true] at hk
    exact (hti _ _ _ rfl).elim
  · cases h2

theorem snd_mkfn (hT : TOk P T) (hw : WRel Γ g H w) (hf : VRels g t a.tmps.toList) {o : Oper} {n : Nat} {xs : List AArg} (hm : mop T o.op (.mkfn n xs) = true) (hs : astep Γ t H (.mkfn n xs) = some (v, H')) : Good Γ P o a g H w v H' := by
  have _ := hT
  obtain ⟨dst, op, ty, pos, after, guard⟩ := o
  simp only at hm
  cases op <;> simp only [mop, mcall, Bool.false_eq_true] at hm
  rename_i fn first caps
  cases fn <;> (try simp only [Bool.false_eq_true, Bool.and_eq_true] at hm)
  rename_i f
  obtain ⟨⟨h1, h2⟩, h3⟩ := hm
  have hx := margs_rel hw hf h3
  have e1 := Nat.eq_of_beq_eq_true h1
  subst e1
  simp only [astep, Option.some.injEq, Prod.mk.injEq] at hs
  obtain ⟨rfl, rfl⟩ := hs
  have hfe : first.map a.eval = #[] := by
    have : first = #[] := by simpa using h2
    rw [this]; simp
  refine .of_ran (.pure (cv := .func (.func f) #[] (caps.map a.eval)) ?_ hw ⟨_, rfl, ?_⟩) rfl
  · simp only [hfe, Instr.makeFunc, Sem.run_pure]
  · simpa using hx

theorem snd_mkmap (hT : TOk P T) (hw : WRel Γ g H w) (hf : VRels g t a.tmps.toList) {o : Oper}  (hm : mop T o.op (.mkmap) = true) (hs : astep Γ t H (.mkmap) = some (v, H')) : Good Γ P o a g H w v H' := by
  have _ := hT
  have _ := hf
  obtain ⟨dst, op, ty, pos, after, guard⟩ := o
  simp only at hm
  cases op <;> simp only [mop, mcall, Bool.false_eq_true] at hm
  rename_i t0 r
  cases r <;> (try simp only [Bool.false_eq_true] at hm)
  simp only [astep, Option.some.injEq, Prod.mk.injEq] at hs
  obtain ⟨rfl, rfl⟩ := hs
  have hfr := hw.fresh H.next (Nat.le_refl _)
  obtain ⟨h1, h2⟩ := hw.newAt (o := .amap []) (w' := w.alloc (.map #[] 0)) 0 H.next hfr (Nat.le_refl _) (Nat.lt_succ_self _) (Nat.le_succ _) (fun x => AHeap.get_new _ _ _) (by rw [alloc_heap]; simp)
    (fun c hc => by rw [alloc_heap, Array.getElem?_push, if_neg (by omega)]) ⟨rfl, #[], 0, by rw [alloc_heap]; simp, rfl⟩ ⟨rfl, rfl⟩
  refine .of_ran (s := Instr.makeMap t0 none) ⟨.map (some w.heap.size), _, g.new H.next w.heap.size 0 0, ?_, ⟨_, rfl, Or.inr rfl, fun cb base hm => ?_⟩, h1, h2⟩ rfl
  · simp only [Instr.makeMap, Sem.run_bind, Sem.run_pure, Result.andThen_ok, run_newObj]
    rfl
  · have : (if H.next = H.next then some (w.heap.size, 0) else g.mu H.next) = some (cb, base) := hm
    rw [if_pos rfl] at this; cases this; rfl

theorem snd_mksl (hT : TOk P T) (hw : WRel Γ g H w) (hf : VRels g t a.tmps.toList) {o : Oper} {es : Nat} {zs : List AVal} {x y : AArg} (hm : mop T o.op (.mksl es zs x y) = true) (hs : astep Γ t H (.mksl es zs x y) = some (v, H')) : Good Γ P o a g H w v H' := by
  obtain ⟨dst, op, ty, pos, after, guard⟩ := o
  simp only at hm
  cases op <;> simp only [mop, mcall, Bool.false_eq_true] at hm
  rename_i t0 ol oc
  split at hm
  · rename_i hti
    split at hm
    · rename_i tj htj
      simp only [Bool.and_eq_true] at hm
      obtain ⟨⟨⟨⟨h1, h2⟩, h3⟩, h4⟩, h5⟩ := hm
      have hx := marg_rel hw hf h4
      have hy := marg_rel hw hf h5
      obtain ⟨i, z, hi, his, _, hsm, hz, hv, hzs, _⟩ := (hT _ _ htj).info
      simp only [astep] at hs
      split at hs
      · rename_i k1 l k2 c e1 e2
        rw [e1] at hx; rw [e2] at hy
        simp only [VRel] at hx hy
        split at hs
        · rename_i hc
          cases hs
          have e3 := Nat.eq_of_beq_eq_true h1
          rw [← his] at e3
          subst e3
          rw [← aveqs_eq _ _ h3]
          refine .of_ran (s := Instr.makeSlice t0 (a.eval ol) (a.eval oc)) ?_ rfl
          rw [hx, hy]
          exact ran_mksl hw (sl_fact hT hti) hi hz (hv g) (by rw [hzs, his]) (hsm h2) hc.1 hc.2.1 hc.2.2
        · cases hs
      · cases hs
    · cases hm
  · cases hm

theorem snd_slc (hT : TOk P T) (hw : WRel Γ g H w) (hf : VRels g t a.tmps.toList) {o : Oper} {es : Nat} {x : AArg} {lo hi : Option AArg} (hm : mop T o.op (.slc es x lo hi) = true) (hs : astep Γ t H (.slc es x lo hi) = some (v, H')) : Good Γ P o a g H w v H' := by
  obtain ⟨dst, op, ty, pos, after, guard⟩ := o
  simp only at hm
  cases op <;> simp only [mop, mcall, Bool.false_eq_true] at hm
  rename_i t0 ox lo0 hi0 mx
  cases mx <;> (try simp only [Bool.false_eq_true, Bool.and_eq_true] at hm)
  obtain ⟨⟨⟨h1, h2⟩, h3⟩, h4⟩ := hm
  have hx := marg_rel hw hf h2
  have hl := margO_rel hw hf h3
  have hh := margO_rel hw hf h4
  simp only [astep] at hs
  split at h1
  · rename_i e _ _ _ hti
    obtain ⟨i, hi', hn⟩ := size_fact hT h1
    cases hse : slEs es (x.ev Γ t) with
    | false => rw [hse] at hs; cases hs
    | true =>
      rw [hse] at hs
      simp only [cond_true, asn, Option.map_eq_some_iff, Prod.mk.injEq] at hs
      obtain ⟨v', hb, rfl, rfl⟩ := hs
      refine .of_ran (ran_slc hw hx hl hh hb ?_) rfl
      have hu := sl_fact hT hti
      cases hxe : x.ev Γ t <;> rw [hxe] at hse <;> simp only [slEs, Bool.false_eq_true] at hse <;> simp only [tCut, hu, hi', Option.isSome_some]
      all_goals
        have := Nat.eq_of_beq_eq_true hse
        rw [hn, this]; exact Nat.beq_refl _
  · cases h1

theorem snd_slcs (hT : TOk P T) (hw : WRel Γ g H w) (hf : VRels g t a.tmps.toList) {o : Oper} {x : AArg} {lo hi : Option AArg} (hm : mop T o.op (.slcs x lo hi) = true) (hs : astep Γ t H (.slcs x lo hi) = some (v, H')) : Good Γ P o a g H w v H' := by
  obtain ⟨dst, op, ty, pos, after, guard⟩ := o
  simp only at hm
  cases op <;> simp only [mop, mcall, Bool.false_eq_true] at hm
  rename_i t0 ox lo0 hi0 mx
  cases mx <;> (try simp only [Bool.false_eq_true, Bool.and_eq_true] at hm)
  obtain ⟨⟨⟨h1, h2⟩, h3⟩, h4⟩ := hm
  have hx := marg_rel hw hf h2
  have hl := margO_rel hw hf h3
  have hh := margO_rel hw hf h4
  simp only [astep] at hs
  split at h1
  · rename_i hti
    cases hse : isStr (x.ev Γ t) with
    | false => rw [hse] at hs; cases hs
    | true =>
      rw [hse] at hs
      simp only [cond_true, asn, Option.map_eq_some_iff, Prod.mk.injEq] at hs
      obtain ⟨v', hb, rfl, rfl⟩ := hs
      refine .of_ran (ran_slc hw hx hl hh hb ?_) rfl
      have hu := str_fact hT hti
      cases hxe : x.ev Γ t <;> rw [hxe] at hse <;> simp only [isStr, Bool.false_eq_true] at hse <;> simp only [tCut, hu]
  · cases h1

theorem snd_fad (hT : TOk P T) (hw : WRel Γ g H w) (hf : VRels g t a.tmps.toList) {o : Oper} {off : Nat} {x : AArg} (hm : mop T o.op (.fad off x) = true) (hs : astep Γ t H (.fad off x) = some (v, H')) : Good Γ P o a g H w v H' := by
  obtain ⟨dst, op, ty, pos, after, guard⟩ := o
  simp only at hm
  cases op <;> simp only [mop, mcall, Bool.false_eq_true] at hm
  rename_i t0 ox k
  rw [Bool.and_eq_true] at hm
  obtain ⟨h1, h2⟩ := hm
  have hx := marg_rel hw hf h2
  split at h1
  · rename_i fs ints _ _ _ hti
    split at h1
    · rename_i f hfk
      rw [Bool.and_eq_true] at h1
      obtain ⟨h3, h4⟩ := h1
      split at h4
      · rename_i tj htj
        obtain ⟨gs, hu, hfo, _⟩ := st_fact hT hti
        obtain ⟨q, hq, e1, e2⟩ := (fieldsOk_get hfo).2 k f hfk
        obtain ⟨i, z, hi, his, _⟩ := (hT _ _ htj).info
        have hpos : 0 < i.size := by rw [his]; exact Nat.le_of_ble_eq_true h4
        simp only [astep] at hs
        have hq' : gs[k]? = some q := by simpa using hq
        have eoff : q.offset = off := by rw [e1]; exact Nat.eq_of_beq_eq_true h3
        split at hs
        · rename_i e3
          cases hs
          rw [e3] at hx
          exact .of_ran (ran_fad (off := off) hw hx hu hq' (by rw [e2]; exact hi) hpos eoff rfl) rfl
        · rename_i e3
          cases hs
          rw [e3] at hx
          exact .of_ran (ran_fad (off := off) hw hx hu hq' (by rw [e2]; exact hi) hpos eoff rfl) rfl
        · cases hs
      · cases h4
    · cases h1
  · cases h1

theorem snd_iad (hT : TOk P T) (hw : WRel Γ g H w) (hf : VRels g t a.tmps.toList) {o : Oper} {es : Nat} {x y : AArg} (hm : mop T o.op (.iad es x y) = true) (hs : astep Γ t H (.iad es x y) = some (v, H')) : Good Γ P o a g H w v H' := by
  obtain ⟨dst, op, ty, pos, after, guard⟩ := o
  simp only at hm
  cases op <;> simp only [mop, mcall, Bool.false_eq_true] at hm
  rename_i t0 ox oi
  simp only [Bool.and_eq_true] at hm
  obtain ⟨⟨h1, h2⟩, h3⟩ := hm
  have hx := marg_rel hw hf h2
  have hy := marg_rel hw hf h3
  simp only [astep] at hs
  split at h1
  · rename_i e _ _ _ hti
    obtain ⟨i, hi, hn⟩ := size_fact hT h1
    have hu := sl_fact hT hti
    subst hn
    split at hs
    · rename_i b off es' len cap ex k n e1 e2
      rw [e1] at hx; rw [e2] at hy
      split at hs
      · rename_i hc
        cases hs
        exact .of_ran (ran_iad hw hx hy hu hi (by simp only; rw [if_pos hc])) rfl
      · cases hs
    · rename_i cs es' len k n e1 e2
      rw [e1] at hx; rw [e2] at hy
      split at hs
      · rename_i hc
        cases hs
        exact .of_ran (ran_iad hw hx hy hu hi (by simp only; rw [if_pos hc])) rfl
      · cases hs
    · cases hs
  · cases h1

theorem snd_iada (hT : TOk P T) (hw : WRel Γ g H w) (hf : VRels g t a.tmps.toList) {o : Oper} {es n : Nat} {x y : AArg} (hm : mop T o.op (.iada es n x y) = true) (hs : astep Γ t H (.iada es n x y) = some (v, H')) : Good Γ P o a g H w v H' := by
  obtain ⟨dst, op, ty, pos, after, guard⟩ := o
  simp only at hm
  cases op <;> simp only [mop, mcall, Bool.false_eq_true] at hm
  rename_i t0 ox oi
  simp only [Bool.and_eq_true] at hm
  obtain ⟨⟨h1, h2⟩, h3⟩ := hm
  have hx := marg_rel hw hf h2
  have hy := marg_rel hw hf h3
  simp only [astep] at hs
  split at h1
  · rename_i m e _ _ _ hti
    rw [Bool.and_eq_true] at h1
    obtain ⟨i, hi, hn⟩ := size_fact hT h1.2
    have hu := arr_fact hT hti
    have e0 := Nat.eq_of_beq_eq_true h1.1
    subst hn
    subst e0
    split at hs
    · rename_i b off k n e1 e2
      rw [e1] at hx; rw [e2] at hy
      split at hs
      · rename_i hc
        cases hs
        exact .of_ran (ran_iada hw hx hy hu hi (by simp only; rw [if_pos hc])) rfl
      · cases hs
    · rename_i cs k n e1 e2
      rw [e1] at hx; rw [e2] at hy
      split at hs
      · rename_i hc
        cases hs
        exact .of_ran (ran_iada hw hx hy hu hi (by simp only; rw [if_pos hc])) rfl
      · cases hs
    · cases hs
  · cases h1

theorem snd_fld (hT : TOk P T) (hw : WRel Γ g H w) (hf : VRels g t a.tmps.toList) {o : Oper} {off : Nat} {size : Option Nat} {x : AArg} (hm : mop T o.op (.fld off size x) = true) (hs : astep Γ t H (.fld off size x) = some (v, H')) : Good Γ P o a g H w v H' := by
  obtain ⟨dst, op, ty, pos, after, guard⟩ := o
  simp only at hm
  cases op <;> simp only [mop, mcall, Bool.false_eq_true] at hm
  rename_i t0 ox k
  rw [Bool.and_eq_true] at hm
  obtain ⟨h1, h2⟩ := hm
  have hx := marg_rel hw hf h2
  split at h1
  · rename_i fs ints _ _ _ hti
    split at h1
    · rename_i f hfk
      rw [Bool.and_eq_true] at h1
      obtain ⟨h3, h4⟩ := h1
      obtain ⟨gs, hu, hfo, _⟩ := st_fact hT hti
      obtain ⟨q, hq, e1, e2⟩ := (fieldsOk_get hfo).2 k f hfk
      have hq' : gs[k]? = some q := by simpa using hq
      have eoff : q.offset = off := by rw [e1]; exact Nat.eq_of_beq_eq_true h3
      split at h4
      · rename_i tj n htj
        obtain ⟨i, z, hi, his, _⟩ := (hT _ _ htj).info
        obtain ⟨d, hd, hk⟩ := (hT _ _ htj).kind
        rw [Bool.and_eq_true] at h4
        have hn : i.size = n := by rw [his]; exact Nat.eq_of_beq_eq_true h4.2
        simp only [astep] at hs
        split at hs
        · rename_i cs n' e3 e4
          cases e4
          rw [e3] at hx
          simp only [Option.map_eq_some_iff, Prod.mk.injEq] at hs
          obtain ⟨vs, h5, rfl, rfl⟩ := hs
          exact .of_ran (ran_fldN hw hx hu hq' (by rw [e2]; exact hd) (by rw [isAggK_eq hk]; exact h4.1) (by rw [e2]; exact hi) (by rw [eoff, hn]; exact h5)) rfl
        · rename_i e4; cases e4
        · cases hs
      · rename_i tj htj
        obtain ⟨d, hd, hk⟩ := (hT _ _ htj).kind
        simp only [astep] at hs
        split at hs
        · rename_i e4; cases e4
        · rename_i cs e3 e4
          rw [e3] at hx
          cases hlc : lcut cs off 1 with
          | none => rw [hlc] at hs; simp at hs
          | some vs =>
            rw [hlc] at hs
            cases vs with
            | nil => simp at hs
            | cons u us => cases us with
              | cons _ _ => simp at hs
              | nil =>
                simp only [Option.bind_some, Option.some.injEq, Prod.mk.injEq] at hs
                obtain ⟨rfl, rfl⟩ := hs
                exact .of_ran (ran_fld1 hw hx hu hq' (by rw [e2]; exact hd) (by rw [isAggK_eq hk]; simpa using h4) (by rw [eoff]; exact hlc)) rfl
        · cases hs
      · cases h4
    · cases h1
  · cases h1

theorem snd_idxs (hT : TOk P T) (hw : WRel Γ g H w) (hf : VRels g t a.tmps.toList) {o : Oper} {x y : AArg} (hm : mop T o.op (.idxs x y) = true) (hs : astep Γ t H (.idxs x y) = some (v, H')) : Good Γ P o a g H w v H' := by
  obtain ⟨dst, op, ty, pos, after, guard⟩ := o
  simp only at hm
  cases op <;> simp only [mop, mcall, Bool.false_eq_true] at hm
  rename_i t0 ox oi
  simp only [Bool.and_eq_true] at hm
  obtain ⟨⟨h1, h2⟩, h3⟩ := hm
  have hx := marg_rel hw hf h2
  have hy := marg_rel hw hf h3
  simp only [astep] at hs
  split at h1
  · rename_i hti
    have hu := str_fact hT hti
    split at hs
    · rename_i s k n e1 e2
      rw [e1] at hx; rw [e2] at hy
      split at hs
      · rename_i hc
        simp only [Option.map_eq_some_iff, Prod.mk.injEq] at hs
        obtain ⟨b, hb, rfl, rfl⟩ := hs
        exact .of_ran (ran_idxs hw hx hy hu hc hb) rfl
      · cases hs
    · cases hs
  · cases h1

theorem snd_idxa (hT : TOk P T) (hw : WRel Γ g H w) (hf : VRels g t a.tmps.toList) {o : Oper} {n es : Nat} {agg : Bool} {x y : AArg} (hm : mop T o.op (.idxa n es agg x y) = true) (hs : astep Γ t H (.idxa n es agg x y) = some (v, H')) : Good Γ P o a g H w v H' := by
  obtain ⟨dst, op, ty, pos, after, guard⟩ := o
  simp only at hm
  cases op <;> simp only [mop, mcall, Bool.false_eq_true] at hm
  rename_i t0 ox oi
  simp only [Bool.and_eq_true] at hm
  obtain ⟨⟨h1, h2⟩, h3⟩ := hm
  have hx := marg_rel hw hf h2
  have hy := marg_rel hw hf h3
  simp only [astep] at hs
  split at h1
  · rename_i m e _ _ _ hti
    rw [Bool.and_eq_true] at h1
    obtain ⟨h4, h5⟩ := h1
    have hu := arr_fact hT hti
    have e0 := Nat.eq_of_beq_eq_true h4
    subst e0
    split at h5
    · rename_i tj htj
      rw [Bool.and_eq_true] at h5
      obtain ⟨h6, h7⟩ := h5
      obtain ⟨i, z, hi, his, _⟩ := (hT _ _ htj).info
      obtain ⟨d, hd, hk⟩ := (hT _ _ htj).kind
      have hn : i.size = es := by rw [his]; exact Nat.eq_of_beq_eq_true h6
      split at hs
      · rename_i cs k n e1 e2
        rw [e1] at hx; rw [e2] at hy
        split at hs
        · rename_i hc
          cases hlc : lcut cs (n.toNat * es) es with
          | none => rw [hlc] at hs; simp at hs
          | some vs =>
            rw [hlc] at hs
            simp only [Option.bind_some] at hs
            cases agg with
            | true =>
              simp only [Option.some.injEq, Prod.mk.injEq] at hs
              obtain ⟨rfl, rfl⟩ := hs
              exact .of_ran (ran_idxaN hw hx hy hu hd (by rw [isAggK_eq hk]; exact h7) hi hc (by rw [hn]; exact hlc)) rfl
            | false =>
              simp only [Bool.false_eq_true, if_false, Bool.and_eq_true, Bool.not_eq_true'] at h7
              cases vs with
              | nil => simp at hs
              | cons u us => cases us with
                | cons _ _ => simp at hs
                | nil =>
                  simp only [Option.some.injEq, Prod.mk.injEq] at hs
                  obtain ⟨rfl, rfl⟩ := hs
                  exact .of_ran (ran_idxa1 hw hx hy hu hd (by rw [isAggK_eq hk]; exact h7.1) hi (by rw [hn]; exact Nat.eq_of_beq_eq_true h7.2) hc (by rw [hn]; exact hlc)) rfl
        · cases hs
      · cases hs
    · cases h5
  · cases h1

end
end Go.Aw

/- Every operation that calls nothing, one by one: if it is matched, and steps on the abstract heap, the model does so. -/
namespace Go.Aw

section
variable {Γ : Globs} {P : Program} {T : TTab} {g : Gh} {H H' : AHeap} {w : World} {t : List AVal} {a : Act} {v : AVal}

theorem snd_lkp (hT : TOk P T) (hw : WRel Γ g H w) (hf : VRels g t a.tmps.toList) {o : Oper} {kn : Option Nat} {z : AVal} {ok : Bool} {x y : AArg} (hm : mop T o.op (.lkp kn z ok x y) = true) (hs : astep Γ t H (.lkp kn z ok x y) = some (v, H')) : Good Γ P o a g H w v H' := by
  obtain ⟨dst, op, ty, pos, after, guard⟩ := o
  simp only at hm
  cases op <;> simp only [mop, mcall, Bool.false_eq_true] at hm
  rename_i t0 om ok0 b0
  simp only [Bool.and_eq_true, beq_iff_eq] at hm
  obtain ⟨⟨⟨h1, h2⟩, h3⟩, h4⟩ := hm
  subst h2
  have hx := marg_rel hw hf h3
  have hy := marg_rel hw hf h4
  split at h1
  · rename_i kt et _ _ _ hti
    rw [Bool.and_eq_true] at h1
    obtain ⟨h5, h6⟩ := h1
    split at h6
    · rename_i tj htj
      obtain ⟨i, cz, hi, _, _, _, hz, _, _, hzr⟩ := (hT _ _ htj).info
      rw [← aveq_eq _ _ h6] at hs
      simp only [astep] at hs
      cases hk : kShape kn (y.ev Γ t) with
      | false => rw [hk] at hs; cases hs
      | true =>
        rw [hk] at hs
        simp only [cond_true, Option.map_eq_some_iff, Prod.mk.injEq] at hs
        obtain ⟨r, hr, h7, rfl⟩ := hs
        exact .of_ran (ran_lkp hw (map_fact hT hti) (keyOk_t hT h5) hk hx hy hi hz (hzr g) hr h7.symm) rfl
    · cases h6
  · cases h1

theorem snd_mput (hT : TOk P T) (hw : WRel Γ g H w) (hf : VRels g t a.tmps.toList) {o : Oper} {kn : Option Nat} {x y z : AArg} (hm : mop T o.op (.mput kn x y z) = true) (hs : astep Γ t H (.mput kn x y z) = some (v, H')) : Good Γ P o a g H w v H' := by
  obtain ⟨dst, op, ty, pos, after, guard⟩ := o
  simp only at hm
  cases op <;> simp only [mop, mcall, Bool.false_eq_true] at hm
  rename_i t0 om ok0 ov
  simp only [Bool.and_eq_true] at hm
  obtain ⟨⟨⟨h1, h2⟩, h3⟩, h4⟩ := hm
  have hx := marg_rel hw hf h2
  have hy := marg_rel hw hf h3
  have hz := marg_rel hw hf h4
  split at h1
  · rename_i kt et _ _ _ hti
    simp only [astep] at hs
    cases hk : kShape kn (y.ev Γ t) with
    | false => rw [hk] at hs; cases hs
    | true =>
      rw [hk] at hs
      simp only [cond_true] at hs
      split at hs
      · rename_i b hb
        split at hs
        · rename_i es hes
          simp only [Option.map_eq_some_iff, Prod.mk.injEq] at hs
          obtain ⟨es', h5, rfl, rfl⟩ := hs
          rw [hb] at hx
          exact .of_ranU (ran_mput hw (map_fact hT hti) (keyOk_t hT h1) hk hx hy hz hes h5) rfl
        · cases hs
      · cases hs
  · cases h1

theorem snd_rng (hT : TOk P T) (hw : WRel Γ g H w) (hf : VRels g t a.tmps.toList) {o : Oper} {x : AArg} (hm : mop T o.op (.rng x) = true) (hs : astep Γ t H (.rng x) = some (v, H')) : Good Γ P o a g H w v H' := by
  obtain ⟨dst, op, ty, pos, after, guard⟩ := o
  simp only at hm
  cases op <;> simp only [mop, mcall, Bool.false_eq_true] at hm
  rename_i t0 ox
  rw [Bool.and_eq_true] at hm
  obtain ⟨h1, h2⟩ := hm
  have hx := marg_rel hw hf h2
  split at h1
  · rename_i hti
    simp only [astep] at hs
    split at hs
    · rename_i s hev
      cases hs
      rw [hev] at hx
      exact .of_ran (ran_rng hw hx (str_fact hT hti)) rfl
    · cases hs
  · cases h1

theorem snd_nxt (hT : TOk P T) (hw : WRel Γ g H w) (hf : VRels g t a.tmps.toList) {o : Oper} {x : AArg} (hm : mop T o.op (.nxt x) = true) (hs : astep Γ t H (.nxt x) = some (v, H')) : Good Γ P o a g H w v H' := by
  have _ := hT
  obtain ⟨dst, op, ty, pos, after, guard⟩ := o
  simp only at hm
  cases op <;> simp only [mop, mcall, Bool.false_eq_true] at hm
  rename_i ox isS
  cases isS <;> (try simp only [Bool.false_eq_true] at hm)
  have hx := marg_rel hw hf hm
  simp only [astep] at hs
  split at hs
  · rename_i b hev
    rw [hev] at hx
    split at hs
    · rename_i s pos hb
      exact .of_ran (ran_nxt hw hx hb ty hs) rfl
    · cases hs
  · cases hs

theorem snd_ext (hT : TOk P T) (hw : WRel Γ g H w) (hf : VRels g t a.tmps.toList) {o : Oper} {x : AArg} {i : Nat} (hm : mop T o.op (.ext x i) = true) (hs : astep Γ t H (.ext x i) = some (v, H')) : Good Γ P o a g H w v H' := by
  have _ := hT
  obtain ⟨dst, op, ty, pos, after, guard⟩ := o
  simp only at hm
  cases op <;> simp only [mop, mcall, Bool.false_eq_true] at hm
  rename_i ox j
  rw [Bool.and_eq_true] at hm
  obtain ⟨h1, h2⟩ := hm
  have hx := marg_rel hw hf h2
  have e1 := Nat.eq_of_beq_eq_true h1
  subst e1
  simp only [astep] at hs
  split at hs
  · rename_i vs hev
    simp only [Option.map_eq_some_iff, Prod.mk.injEq] at hs
    obtain ⟨u, hu, rfl, rfl⟩ := hs
    rw [hev] at hx
    obtain ⟨cvs, hcv, hv⟩ := hx
    obtain ⟨cv, h3, h4⟩ := hv.arr j u hu
    refine .of_ran (.pure (cv := cv) ?_ hw h4) rfl
    simp only [hcv, Instr.extract, h3, Sem.run_pure]
  · cases hs

theorem snd_lens (hT : TOk P T) (hw : WRel Γ g H w) (hf : VRels g t a.tmps.toList) {o : Oper} {x : AArg} (hm : mop T o.op (.lens x) = true) (hs : astep Γ t H (.lens x) = some (v, H')) : Good Γ P o a g H w v H' := by
  obtain ⟨dst, op, ty, pos, after, guard⟩ := o
  simp only at hm
  cases op <;> simp only [mop, mcall, Bool.false_eq_true] at hm
  rename_i c
  obtain ⟨callee, args, ats⟩ := c
  simp only at hm
  split at hm
  · rename_i hats
    rw [Bool.and_eq_true] at hm
    obtain ⟨h1, h2⟩ := hm
    have hv := margs_rel hw hf h2
    obtain ⟨cx, r1, hargs, hx, hnil⟩ := hv
    simp only [List.map_nil, VRels] at hnil
    subst hnil
    have hats' : ats = #[_] := Array.ext' (by simpa using hats)
    have hargs' : args.map a.eval = #[cx] := Array.ext' (by simpa using hargs)
    unfold kIsStr at h1
    split at h1
    · rename_i hti
      simp only [astep] at hs
      split at hs
      · rename_i s hev
        cases hs
        simp only [hev, VRel] at hx
        refine .of_ran (s := Builtin.len_ ats ty (args.map a.eval)) (.pure (cv := goInt s.length) ?_ hw rfl) (by simp [execOp, resolve, invoke, builtin])
        rw [hats', hargs', hx]
        have hsz : (ByteArray.mk s.toArray).size = s.length := by simp [ByteArray.size]
        simp [Builtin.len_, run_underlying (str_fact hT hti), hsz]
      · cases hs
    · cases h1
  · cases hm

theorem snd_lensl (hT : TOk P T) (hw : WRel Γ g H w) (hf : VRels g t a.tmps.toList) {o : Oper} {x : AArg} (hm : mop T o.op (.lensl x) = true) (hs : astep Γ t H (.lensl x) = some (v, H')) : Good Γ P o a g H w v H' := by
  obtain ⟨dst, op, ty, pos, after, guard⟩ := o
  simp only at hm
  cases op <;> simp only [mop, mcall, Bool.false_eq_true] at hm
  rename_i c
  obtain ⟨callee, args, ats⟩ := c
  simp only at hm
  split at hm
  · rename_i hats
    rw [Bool.and_eq_true] at hm
    obtain ⟨h1, h2⟩ := hm
    have hv := margs_rel hw hf h2
    obtain ⟨cx, r1, hargs, hx, hnil⟩ := hv
    simp only [List.map_nil, VRels] at hnil
    subst hnil
    have hats' : ats = #[_] := Array.ext' (by simpa using hats)
    have hargs' : args.map a.eval = #[cx] := Array.ext' (by simpa using hargs)
    unfold kIsSl at h1
    split at h1
    · rename_i hti
      simp only [astep, Option.map_eq_some_iff, Prod.mk.injEq] at hs
      obtain ⟨n, hn, rfl, rfl⟩ := hs
      obtain ⟨_, q, c, hcx⟩ := run_lenOf (P := P) (w := w) hx hn
      refine .of_ran (s := Builtin.len_ ats ty (args.map a.eval)) (.pure (cv := goInt n) ?_ hw rfl) (by simp [execOp, resolve, invoke, builtin])
      rw [hats', hargs', hcx]
      simp [Builtin.len_, run_underlying (sl_fact hT hti)]
    · cases h1
  · cases hm

theorem snd_app (hT : TOk P T) (hw : WRel Γ g H w) (hf : VRels g t a.tmps.toList) {o : Oper} {es : Nat} {x y : AArg} (hm : mop T o.op (.app es x y) = true) (hs : astep Γ t H (.app es x y) = some (v, H')) : Good Γ P o a g H w v H' := by
  obtain ⟨dst, op, ty, pos, after, guard⟩ := o
  simp only at hm
  cases op <;> simp only [mop, mcall, Bool.false_eq_true] at hm
  rename_i c
  obtain ⟨callee, args, ats⟩ := c
  simp only at hm
  split at hm
  · rename_i t0 u0 hats
    simp only [Bool.and_eq_true] at hm
    obtain ⟨⟨h1, h2⟩, h3⟩ := hm
    obtain ⟨cx, r1, hargs, hx, cy, r2, hargs2, hy, hnil⟩ := margs_rel hw hf h3
    simp only [List.map_nil, VRels] at hnil
    subst hnil
    subst hargs2
    have hats' : ats = #[t0, u0] := Array.ext' (by simpa using hats)
    have hargs' : args.map a.eval = #[cx, cy] := Array.ext' (by simpa using hargs)
    split at h1
    · rename_i e _ _ _ hti
      split at h1
      · rename_i tj htj
        rw [Bool.and_eq_true] at h1
        obtain ⟨i, z, hi, his, _, hsm, hz, _, hzs, _⟩ := (hT _ _ htj).info
        have hes := Nat.eq_of_beq_eq_true h1.1
        unfold kIsSl at h2
        split at h2
        · rename_i htu
          simp only [astep, Option.bind_eq_some_iff] at hs
          obtain ⟨n, hn, new, hnew, hap⟩ := hs
          refine .of_ran (s := Builtin.append_ ats ty (args.map a.eval)) ?_ (by simp [execOp, resolve, invoke, builtin])
          rw [hats', hargs']
          refine ran_aapp hw hx hap (sl_fact hT hti) hi hz (by rw [hzs, his]) (by rw [his]; exact hes) (hsm h1.2) (sl_fact hT htu) (fun k h => by cases h) (fun w => (run_lenOf hy hn).1) (fun w' hh => ?_) ?_
          · obtain ⟨news, e1, e2⟩ := run_first (P := P) (w' := w') hw hy hn hnew hh
            exact ⟨news, e1, e2⟩
          · exact (rdc_stands hw hy hnew).1
        · cases h2
      · cases h1
    · cases h1
  · cases hm

theorem snd_apps (hT : TOk P T) (hw : WRel Γ g H w) (hf : VRels g t a.tmps.toList) {o : Oper} {x y : AArg} (hm : mop T o.op (.apps x y) = true) (hs : astep Γ t H (.apps x y) = some (v, H')) : Good Γ P o a g H w v H' := by
  obtain ⟨dst, op, ty, pos, after, guard⟩ := o
  simp only at hm
  cases op <;> simp only [mop, mcall, Bool.false_eq_true] at hm
  rename_i c
  obtain ⟨callee, args, ats⟩ := c
  simp only at hm
  split at hm
  · rename_i t0 u0 hats
    simp only [Bool.and_eq_true] at hm
    obtain ⟨⟨h1, h2⟩, h3⟩ := hm
    obtain ⟨cx, r1, hargs, hx, cy, r2, hargs2, hy, hnil⟩ := margs_rel hw hf h3
    simp only [List.map_nil, VRels] at hnil
    subst hnil
    subst hargs2
    have hats' : ats = #[t0, u0] := Array.ext' (by simpa using hats)
    have hargs' : args.map a.eval = #[cx, cy] := Array.ext' (by simpa using hargs)
    split at h1
    · rename_i e _ _ _ hti
      split at h1
      · rename_i tj htj
        rw [Bool.and_eq_true] at h1
        obtain ⟨i, z, hi, his, _, hsm, hz, _, hzs, _⟩ := (hT _ _ htj).info
        have hes := Nat.eq_of_beq_eq_true h1.1
        unfold kIsStr at h2
        split at h2
        · rename_i htu
          simp only [astep] at hs
          split at hs
          · rename_i s hev
            simp only [hev] at hy
            refine .of_ran (s := Builtin.append_ ats ty (args.map a.eval)) ?_ (by simp [execOp, resolve, invoke, builtin])
            rw [hats', hargs']
            exact ran_apps hw hx hy hs (sl_fact hT hti) hi hz (by rw [hzs, his]) (by rw [his]; exact hes) (hsm h1.2) (str_fact hT htu)
          · cases hs
        · cases h2
      · cases h1
    · cases h1
  · cases hm

theorem snd_cpy (hT : TOk P T) (hw : WRel Γ g H w) (hf : VRels g t a.tmps.toList) {o : Oper} {es : Nat} {x y : AArg} (hm : mop T o.op (.cpy es x y) = true) (hs : astep Γ t H (.cpy es x y) = some (v, H')) : Good Γ P o a g H w v H' := by
  obtain ⟨dst, op, ty, pos, after, guard⟩ := o
  simp only at hm
  cases op <;> simp only [mop, mcall, Bool.false_eq_true] at hm
  rename_i c
  obtain ⟨callee, args, ats⟩ := c
  simp only at hm
  split at hm
  · rename_i t0 u0 hats
    simp only [Bool.and_eq_true] at hm
    obtain ⟨h1, h3⟩ := hm
    obtain ⟨cx, r1, hargs, hx, cy, r2, hargs2, hy, hnil⟩ := margs_rel hw hf h3
    simp only [List.map_nil, VRels] at hnil
    subst hnil
    subst hargs2
    have hats' : ats = #[t0, u0] := Array.ext' (by simpa using hats)
    have hargs' : args.map a.eval = #[cx, cy] := Array.ext' (by simpa using hargs)
    split at h1
    · rename_i e _ _ _ hti
      obtain ⟨i, hi, hn⟩ := size_fact hT h1
      simp only [astep, Option.bind_eq_some_iff, Option.map_eq_some_iff, Prod.mk.injEq] at hs
      obtain ⟨dn, e1, sn, e2, vs, e3, H1, e4, rfl, rfl⟩ := hs
      refine .of_ran (s := Builtin.copy_ ats ty (args.map a.eval)) ?_ (by simp [execOp, resolve, invoke, builtin])
      rw [hats', hargs']
      exact ran_cpy hw hx hy e1 e2 e3 e4 (sl_fact hT hti) hi hn
    · cases h1
  · cases hm

theorem snd_clr (hT : TOk P T) (hw : WRel Γ g H w) (hf : VRels g t a.tmps.toList) {o : Oper} {zs : List AVal} {x : AArg} (hm : mop T o.op (.clr zs x) = true) (hs : astep Γ t H (.clr zs x) = some (v, H')) : Good Γ P o a g H w v H' := by
  obtain ⟨dst, op, ty, pos, after, guard⟩ := o
  simp only at hm
  cases op <;> simp only [mop, mcall, Bool.false_eq_true] at hm
  rename_i c
  obtain ⟨callee, args, ats⟩ := c
  simp only at hm
  split at hm
  · rename_i t0 hats
    simp only [Bool.and_eq_true] at hm
    obtain ⟨h1, h3⟩ := hm
    obtain ⟨cx, r1, hargs, hx, hnil⟩ := margs_rel hw hf h3
    simp only [List.map_nil, VRels] at hnil
    subst hnil
    have hats' : ats = #[t0] := Array.ext' (by simpa using hats)
    have hargs' : args.map a.eval = #[cx] := Array.ext' (by simpa using hargs)
    split at h1
    · rename_i e _ _ _ hti
      split at h1
      · rename_i tj htj
        rw [Bool.and_eq_true] at h1
        obtain ⟨i, z, hi, his, _, hsm, hz, hv, hzs, _⟩ := (hT _ _ htj).info
        rw [← aveqs_eq _ _ h1.1] at hs
        simp only [astep, Option.bind_eq_some_iff] at hs
        obtain ⟨n, hn, hs⟩ := hs
        refine .of_ran (s := Builtin.clear_ ats ty (args.map a.eval)) ?_ (by simp [execOp, resolve, invoke, builtin])
        rw [hats', hargs']
        cases hb : Nat.beq n 0 with
        | true =>
          rw [hb] at hs
          cases hs
          have := Nat.eq_of_beq_eq_true hb
          subst this
          exact ran_clr0 hw hx hn (sl_fact hT hti)
        | false =>
          rw [hb] at hs
          simp only [cond_false, Option.map_eq_some_iff, Prod.mk.injEq] at hs
          obtain ⟨H1, e4, rfl, rfl⟩ := hs
          exact ran_clr hw hx hn (fun e => by subst e; cases hb) e4 (sl_fact hT hti) hi hz (hv g) (by rw [hzs]; exact Nat.le_of_ble_eq_true h1.2)
      · cases h1
    · cases h1
  · cases hm

theorem snd_mn (hT : TOk P T) (hw : WRel Γ g H w) (hf : VRels g t a.tmps.toList) {o : Oper} {xs : List AArg} (hm : mop T o.op (.mn xs) = true) (hs : astep Γ t H (.mn xs) = some (v, H')) : Good Γ P o a g H w v H' := by
  have _ := hT
  obtain ⟨dst, op, ty, pos, after, guard⟩ := o
  simp only at hm
  cases op <;> simp only [mop, mcall, Bool.false_eq_true] at hm
  rename_i c
  obtain ⟨callee, args, ats⟩ := c
  simp only at hm
  split at hm
  · have hv := margs_rel hw hf hm
    simp only [astep] at hs
    split at hs
    · rename_i k n vs hev
      simp only [asn, Option.map_eq_some_iff, Prod.mk.injEq] at hs
      obtain ⟨v', hb, rfl, rfl⟩ := hs
      rw [hev] at hv
      obtain ⟨cv, r1, hargs, hx, hrest⟩ := hv
      simp only [VRel] at hx
      subst hx
      obtain ⟨cr, h5, h6⟩ := run_mins (P := P) (w := w) vs n v' r1 hb hrest
      refine .of_ran (s := Builtin.min_ ats ty (args.map a.eval)) (.pure (cv := cr) ?_ hw h6) (by simp [execOp, resolve, invoke, builtin])
      simp only [Builtin.min_, Array.toList_map, hargs]
      exact h5
    · cases hs
  · cases hm

theorem snd_mx (hT : TOk P T) (hw : WRel Γ g H w) (hf : VRels g t a.tmps.toList) {o : Oper} {xs : List AArg} (hm : mop T o.op (.mx xs) = true) (hs : astep Γ t H (.mx xs) = some (v, H')) : Good Γ P o a g H w v H' := by
  have _ := hT
  obtain ⟨dst, op, ty, pos, after, guard⟩ := o
  simp only at hm
  cases op <;> simp only [mop, mcall, Bool.false_eq_true] at hm
  rename_i c
  obtain ⟨callee, args, ats⟩ := c
  simp only at hm
  split at hm
  · have hv := margs_rel hw hf hm
    simp only [astep] at hs
    split at hs
    · rename_i k n vs hev
      simp only [asn, Option.map_eq_some_iff, Prod.mk.injEq] at hs
      obtain ⟨v', hb, rfl, rfl⟩ := hs
      rw [hev] at hv
      obtain ⟨cv, r1, hargs, hx, hrest⟩ := hv
      simp only [VRel] at hx
      subst hx
      obtain ⟨cr, h5, h6⟩ := run_maxs (P := P) (w := w) vs n v' r1 hb hrest
      refine .of_ran (s := Builtin.max_ ats ty (args.map a.eval)) (.pure (cv := cr) ?_ hw h6) (by simp [execOp, resolve, invoke, builtin])
      simp only [Builtin.max_, Array.toList_map, hargs]
      exact h5
    · cases hs
  · cases hm

theorem snd_tas (hT : TOk P T) (hw : WRel Γ g H w) (hf : VRels g t a.tmps.toList) {o : Oper} {n : Nat} {z : AVal} {x : AArg} (hm : mop T o.op (.tas n z x) = true) (hs : astep Γ t H (.tas n z x) = some (v, H')) : Good Γ P o a g H w v H' := by
  obtain ⟨dst, op, ty, pos, after, guard⟩ := o
  simp only at hm
  cases op <;> simp only [mop, mcall, Bool.false_eq_true] at hm
  rename_i ox xt at0 ok0
  cases ok0 <;> (try simp only [Bool.false_eq_true, Bool.and_eq_true] at hm)
  obtain ⟨⟨h1, h2⟩, h3⟩ := hm
  have hx := marg_rel hw hf h3
  have e1 := Nat.eq_of_beq_eq_true h1
  subst e1
  split at h2
  · cases h2
  · rename_i tj hni htj
    obtain ⟨d, hd, hk⟩ := (hT _ _ htj).kind
    obtain ⟨i, cz, hi, _, _, _, hz, _, _, hzr⟩ := (hT _ _ htj).info
    have hni' : ∀ ms, d ≠ .interface ms := by
      intro ms he
      subst he
      obtain ⟨kind, size, zero, small⟩ := tj
      cases kind <;> simp only [kindOk, Bool.false_eq_true] at hk
      exact hni _ _ _ rfl
    have hzv : (zeroValue at0).run P w = .ok cz w := by simp [zeroValue, typeInfo, hi, hz]
    rw [← aveq_eq _ _ h2] at hs
    simp only [astep] at hs
    split at hs
    · rename_i m u hev
      rw [hev] at hx
      obtain ⟨cu, hcx, hu⟩ := hx
      cases hb : Nat.beq m at0 with
      | true =>
        rw [hb] at hs
        cases hs
        have := Nat.eq_of_beq_eq_true hb
        subst this
        refine .of_ran (.pure (cv := .tuple #[cu, .bool true]) ?_ hw ⟨_, rfl, _, _, rfl, hu, _, _, rfl, rfl, rfl⟩) rfl
        simp only [hcx, Instr.typeAssert, Sem.run_bind, run_underlying hd, Result.andThen_ok]
        cases d <;> first | exact absurd rfl (hni' _) | simp
      | false =>
        rw [hb] at hs
        cases hs
        have hne : m ≠ at0 := fun e => by subst e; rw [show Nat.beq m m = true from Nat.beq_refl m] at hb; cases hb
        refine .of_ran (.pure (cv := .tuple #[cz, .bool false]) ?_ hw ⟨_, rfl, _, _, rfl, hzr g, _, _, rfl, rfl, rfl⟩) rfl
        simp only [hcx, Instr.typeAssert, Sem.run_bind, run_underlying hd, Result.andThen_ok]
        cases d <;> first | exact absurd rfl (hni' _) | simp [hne, hzv]
    · rename_i hev
      cases hs
      rw [hev] at hx
      simp only [VRel] at hx
      refine .of_ran (.pure (cv := .tuple #[cz, .bool false]) ?_ hw ⟨_, rfl, _, _, rfl, hzr g, _, _, rfl, rfl, rfl⟩) rfl
      simp only [hx, Instr.typeAssert, Sem.run_bind, run_underlying hd, Result.andThen_ok]
      cases d <;> first | exact absurd rfl (hni' _) | simp [hzv]
    · cases hs
  · cases h2

/-- EVERY OPERATION THAT CALLS NOTHING. -/
theorem mop_sound (hT : TOk P T) (hw : WRel Γ g H w) (hf : VRels g t a.tmps.toList) {o : Oper} {ao : AOp} (hm : mop T o.op ao = true) (hs : astep Γ t H ao = some (v, H')) : Good Γ P o a g H w v H' := by
  cases ao with
  | mv _ => exact snd_mv hT hw hf hm hs
  | pick _ _ _ => exact snd_pick hT hw hf hm hs
  | box _ => exact snd_box hT hw hf hm hs
  | alloc _ => exact snd_alloc hT hw hf hm hs
  | build _ _ => exact snd_build hT hw hf hm hs
  | bslice _ _ _ _ => exact snd_bslice hT hw hf hm hs
  | ld _ => exact snd_ld hT hw hf hm hs
  | ldn _ _ => exact snd_ldn hT hw hf hm hs
  | st _ _ _ => exact snd_st hT hw hf hm hs
  | nilchk _ => exact snd_nilchk hT hw hf hm hs
  | bin _ _ _ _ => exact snd_bin hT hw hf hm hs
  | neg _ => exact snd_neg hT hw hf hm hs
  | not _ => exact snd_not hT hw hf hm hs
  | cvi _ _ => exact snd_cvi hT hw hf hm hs
  | cvis _ => exact snd_cvis hT hw hf hm hs
  | cvbs _ => exact snd_cvbs hT hw hf hm hs
  | cvsb _ => exact snd_cvsb hT hw hf hm hs
  | mkif _ _ => exact snd_mkif hT hw hf hm hs
  | mkfn _ _ => exact snd_mkfn hT hw hf hm hs
  | mkmap => exact snd_mkmap hT hw hf hm hs
  | mksl _ _ _ _ => exact snd_mksl hT hw hf hm hs
  | slc _ _ _ _ => exact snd_slc hT hw hf hm hs
  | slcs _ _ _ => exact snd_slcs hT hw hf hm hs
  | fad _ _ => exact snd_fad hT hw hf hm hs
  | iad _ _ _ => exact snd_iad hT hw hf hm hs
  | iada _ _ _ _ => exact snd_iada hT hw hf hm hs
  | fld _ _ _ => exact snd_fld hT hw hf hm hs
  | idxs _ _ => exact snd_idxs hT hw hf hm hs
  | idxa _ _ _ _ _ => exact snd_idxa hT hw hf hm hs
  | lkp _ _ _ _ _ => exact snd_lkp hT hw hf hm hs
  | mput _ _ _ _ => exact snd_mput hT hw hf hm hs
  | rng _ => exact snd_rng hT hw hf hm hs
  | nxt _ => exact snd_nxt hT hw hf hm hs
  | ext _ _ => exact snd_ext hT hw hf hm hs
  | lens _ => exact snd_lens hT hw hf hm hs
  | lensl _ => exact snd_lensl hT hw hf hm hs
  | app _ _ _ => exact snd_app hT hw hf hm hs
  | apps _ _ => exact snd_apps hT hw hf hm hs
  | cpy _ _ _ => exact snd_cpy hT hw hf hm hs
  | clr _ _ => exact snd_clr hT hw hf hm hs
  | mn _ => exact snd_mn hT hw hf hm hs
  | mx _ => exact snd_mx hT hw hf hm hs
  | tas _ _ _ => exact snd_tas hT hw hf hm hs
  | call f xs => cases hs
  | callv x xs => cases hs
  | pan x => cases hs
  | dfr x => cases hs
  | rcv => cases hs
  | bad => cases hs

end
end Go.Aw
