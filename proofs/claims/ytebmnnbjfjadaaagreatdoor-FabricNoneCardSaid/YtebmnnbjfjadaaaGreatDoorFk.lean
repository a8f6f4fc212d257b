/- Soundness of each operation that makes no call: the rest, and all together. -/
import Derived.Test.YtebmnnbjfjadaaaGreatDoorFj
namespace Go.Ab
open Go

section
variable {P : Program} {G : Glob} {ι : Inj} {H : AHeap} {w : World} {N : Nat} {σ : Env} {a : Act}

theorem op_bin (hr : Rel G ι H w) (he : EnvR ι N σ a) {bop x y} {o : Oper} (hc : chkOp P G.n (.bin bop x y) o.op = true) {call : ACall} {meth} {v : Value} {H' : AHeap}
    (h : evOp call meth σ H (.bin bop x y) = some (v, H')) : OpR P G ι H w (execOp a.eval o) v H' := by
  obtain ⟨dst, op, ty, pos, aft, gd⟩ := o
  cases op <;> simp only [chkOp, Bool.false_eq_true, Bool.and_eq_true, decide_eq_true_eq] at hc
  rename_i op t x' y' yt
  obtain ⟨⟨rfl, hx⟩, hy⟩ := hc
  simp only [evOp] at h
  split at h
  · rename_i u u' hu hu'
    split at h
    · rename_i r hres
      cases h
      obtain ⟨h1, h2, h3, h4⟩ := aBin_sound (P := P) (w := w) (ι := ι) (t := t) hres x' y'
      rw [← h3 _ (rd_sound hr he hx hu), ← h4 _ (rd_sound hr he hy hu')] at h1
      exact OpR.value hr h1 (closedIn_vr ι 0 _ h2)
    · cases h
  · cases h

theorem isBoolT_spec {t : TypeId} (h : isBoolT P t = true) : P.underlying t = some .bool := by
  unfold isBoolT at h; split at h
  · assumption
  · cases h

theorem isIntT_spec {t : TypeId} {k : IntKind} (h : isIntT P t k = true) : P.underlying t = some (.int k) := by
  unfold isIntT at h; split at h
  · simp only [decide_eq_true_eq] at h; subst h; assumption
  · cases h

theorem run_equalIn_bool {t : TypeId} (hu : P.underlying t = some .bool) (p q : Bool) (d : Nat) : (Op.equalIn (d + 1) t (.bool p) (.bool q)).run P w = .ok (p == q) w := by
  simp only [Op.equalIn, Sem.run_bind, run_underlying hu, Result.andThen_ok]
  rfl

theorem op_eqB (hr : Rel G ι H w) (he : EnvR ι N σ a) {neg x y} {o : Oper} (hc : chkOp P G.n (.eqB neg x y) o.op = true) {call : ACall} {meth} {v : Value} {H' : AHeap}
    (h : evOp call meth σ H (.eqB neg x y) = some (v, H')) : OpR P G ι H w (execOp a.eval o) v H' := by
  obtain ⟨dst, op, ty, pos, aft, gd⟩ := o
  cases op <;> simp only [chkOp, Bool.false_eq_true, Bool.and_eq_true, decide_eq_true_eq] at hc
  rename_i op t x' y' yt
  obtain ⟨⟨⟨rfl, ht⟩, hx⟩, hy⟩ := hc
  have ht := isBoolT_spec ht
  simp only [evOp] at h
  split at h
  · rename_i p q hu hu'
    cases h
    have h1 := bool_inv (rd_sound hr he hx hu)
    have h2 := bool_inv (rd_sound hr he hy hu')
    refine OpR.value hr (v' := .bool (if neg then !(p == q) else p == q)) ?_ (.bool _)
    rw [h1, h2]
    have hg : ∀ op, (eqGuard op t x' y' (.bool p) (.bool q)).run P w = .ok () w := by
      intro op; unfold eqGuard; split <;> rfl
    have heq := run_equalIn_bool (P := P) (w := w) ht p q 9999
    cases neg
    · simp only [Sem.run_bind, hg, Result.andThen_ok, binOp, Op.equal, Op.maxDepth]
      simp [heq]
    · simp only [Sem.run_bind, hg, Result.andThen_ok, binOp, Op.equal, Op.maxDepth]
      simp [heq]
  · cases h

theorem nil_spec {k : NilKind} {d : TypeDesc} {c : Value} (h : nilDesc k d c = true) : isNilV k c = some true ∧ closedIn 0 c = true := by
  unfold nilDesc at h
  split at h <;> first | exact ⟨rfl, rfl⟩ | cases h

theorem run_eq_nil {k : NilKind} {t : TypeId} {d : TypeDesc} (hu : P.underlying t = some d) {c v : Value} (hd : nilDesc k d c = true) {b : Bool} (hv : isNilV k v = some b) (n : Nat) :
    (Op.equalIn (n + 1) t v c).run P w = .ok b w := by
  unfold nilDesc at hd
  split at hd <;> (first | cases hd; done | skip)
  · cases v <;> simp only [isNilV, Option.some.injEq] at hv <;> (first | cases hv; done | skip)
    rename_i p
    subst hv
    cases p <;> (simp only [Op.equalIn, Sem.run_bind, run_underlying hu, Result.andThen_ok]; rfl)
  · cases v <;> simp only [isNilV, Option.some.injEq] at hv <;> (first | cases hv; done | skip)
    rename_i p _ _
    subst hv
    cases p <;> (simp only [Op.equalIn, Sem.run_bind, run_underlying hu, Result.andThen_ok]; rfl)
  · cases v <;> simp only [isNilV, Option.some.injEq] at hv <;> (first | cases hv; done | skip)
    · subst hv; simp only [Op.equalIn, Sem.run_bind, run_underlying hu, Result.andThen_ok]; rfl
    · subst hv; simp only [Op.equalIn, Sem.run_bind, run_underlying hu, Result.andThen_ok]; rfl
  · cases v <;> simp only [isNilV, Option.some.injEq] at hv <;> (first | cases hv; done | skip)
    · subst hv; simp only [Op.equalIn, Sem.run_bind, run_underlying hu, Result.andThen_ok]; rfl
    · subst hv; simp only [Op.equalIn, Sem.run_bind, run_underlying hu, Result.andThen_ok]; rfl

theorem isNilV_vr {k : NilKind} {v v' : Value} (h : VR ι v v') : isNilV k v' = isNilV k v := by
  cases h <;> cases k <;> rfl

theorem op_isNil (hr : Rel G ι H w) (he : EnvR ι N σ a) {k neg x} {o : Oper} (hc : chkOp P G.n (.isNil k neg x) o.op = true) {call : ACall} {meth} {v : Value} {H' : AHeap}
    (h : evOp call meth σ H (.isNil k neg x) = some (v, H')) : OpR P G ι H w (execOp a.eval o) v H' := by
  obtain ⟨dst, op, ty, pos, aft, gd⟩ := o
  cases op <;> simp only [chkOp, Bool.false_eq_true] at hc
  rename_i op t x' y' yt
  split at hc
  · rename_i op' t' x'' c yt' heq
    injection heq with e1 e2 e3 e4 e5
    subst e1; subst e2; subst e3; subst e4; subst e5
    simp only [Bool.and_eq_true, decide_eq_true_eq] at hc
    obtain ⟨⟨rfl, hx⟩, hd⟩ := hc
    split at hd
    · rename_i d hu
      simp only [evOp] at h
      split at h
      · rename_i u hxu
        split at h
        · rename_i b hb
          cases h
          have hv' := rd_sound hr he hx hxu
          have hb' := hb
          rw [← isNilV_vr hv'] at hb'
          refine OpR.value hr (v' := .bool (if neg then !b else b)) ?_ (.bool _)
          have heq := run_eq_nil (P := P) (w := w) hu hd hb' 9999
          have hg : ∀ op, (eqGuard op t x' (.const c) (a.eval x') c).run P w = .ok () w := by
            intro op
            unfold nilDesc at hd
            split at hd <;> (first | cases hd; done | skip)
            all_goals
              cases hq : a.eval x' <;> rw [hq] at hb' <;> simp only [isNilV] at hb' <;> (first | cases hb'; done | skip)
              all_goals (unfold eqGuard; split <;> first | rfl | simp)
          have hbin : ∀ r, binOp (if neg then .neq else .eql) t (a.eval x') c = r → r = (if neg then (do pure (.bool (!(← Op.equal t (a.eval x') c))) : Sem Value) else do pure (.bool (← Op.equal t (a.eval x') c))) := by
            intro r hr
            subst hr
            unfold nilDesc at hd
            split at hd <;> (first | cases hd; done | skip)
            all_goals
              cases hq : a.eval x' <;> rw [hq] at hb' <;> simp only [isNilV] at hb' <;> (first | cases hb'; done | skip)
              all_goals cases neg <;> rfl
          show (do eqGuard _ t x' (.const c) (a.eval x') (a.eval (.const c)); binOp _ t (a.eval x') (a.eval (.const c)) : Sem Value).run P w = _
          have e1 : a.eval (.const c) = c := rfl
          rw [e1]
          simp only [Sem.run_bind, hg, Result.andThen_ok]
          rw [hbin _ rfl]
          cases neg
          · simp only [Bool.false_eq_true, if_false, Sem.run_bind, Op.equal, Op.maxDepth, heq, Result.andThen_ok, Sem.run_pure]
          · simp only [if_true, Sem.run_bind, Op.equal, Op.maxDepth, heq, Result.andThen_ok, Sem.run_pure]
        · cases h
      · cases h
    · cases hd
  · cases hc

theorem op_un (hr : Rel G ι H w) (he : EnvR ι N σ a) {uop x} {o : Oper} (hc : chkOp P G.n (.un uop x) o.op = true) {call : ACall} {meth} {v : Value} {H' : AHeap}
    (h : evOp call meth σ H (.un uop x) = some (v, H')) : OpR P G ι H w (execOp a.eval o) v H' := by
  obtain ⟨dst, op, ty, pos, aft, gd⟩ := o
  cases op <;> simp only [chkOp, Bool.false_eq_true, Bool.and_eq_true, decide_eq_true_eq] at hc
  obtain ⟨rfl, hx⟩ := hc
  simp only [evOp] at h
  split at h
  · rename_i u hu
    split at h
    · rename_i r hres
      cases h
      have hu' := rd_sound hr he hx hu
      unfold aUn at hres
      split at hres
      · cases hres
        refine OpR.value hr (v' := .bool _) ?_ (.bool _)
        rw [bool_inv hu']; rfl
      · cases hres
        refine OpR.value hr (v' := .int _ _) ?_ (.int _ _)
        rw [int_inv hu']; rfl
      · cases hres
        refine OpR.value hr (v' := .int _ _) ?_ (.int _ _)
        rw [int_inv hu']; rfl
      · cases hres
    · cases h
  · cases h

theorem op_conv (hr : Rel G ι H w) (he : EnvR ι N σ a) {k x} {o : Oper} (hc : chkOp P G.n (.conv k x) o.op = true) {call : ACall} {meth} {v : Value} {H' : AHeap}
    (h : evOp call meth σ H (.conv k x) = some (v, H')) : OpR P G ι H w (execOp a.eval o) v H' := by
  obtain ⟨dst, op, ty, pos, aft, gd⟩ := o
  cases op <;> simp only [chkOp, Bool.false_eq_true, Bool.and_eq_true] at hc
  rename_i src dst' y
  obtain ⟨⟨hs, hd⟩, hx⟩ := hc
  have hd := isIntT_spec hd
  obtain ⟨ds, hs⟩ := Option.isSome_iff_exists.1 hs
  simp only [evOp] at h
  split at h
  · rename_i k' n hu
    cases h
    have hu' := int_inv (rd_sound hr he hx hu)
    refine OpR.value hr (v' := .int k (k.wrap n)) ?_ (.int _ _)
    rw [hu']
    simp only [convert, Sem.run_bind, run_underlying hs, run_underlying hd, Result.andThen_ok]
    cases ds <;> rfl
  · cases h

theorem op_mkIface (hr : Rel G ι H w) (he : EnvR ι N σ a) {t x} {o : Oper} (hc : chkOp P G.n (.mkIface t x) o.op = true) {call : ACall} {meth} {v : Value} {H' : AHeap}
    (h : evOp call meth σ H (.mkIface t x) = some (v, H')) : OpR P G ι H w (execOp a.eval o) v H' := by
  obtain ⟨dst, op, ty, pos, aft, gd⟩ := o
  cases op <;> simp only [chkOp, Bool.false_eq_true, Bool.and_eq_true, decide_eq_true_eq] at hc
  rename_i t' y
  obtain ⟨⟨rfl, ht⟩, hx⟩ := hc
  simp only [evOp] at h
  split at h
  · rename_i u hu
    cases h
    exact OpR.value hr (run_makeInterface w t _ ht) (.iface _ _ _ (rd_sound hr he hx hu))
  · cases h

theorem op_mkFunc (hr : Rel G ι H w) (he : EnvR ι N σ a) {fn fs cs} {o : Oper} (hc : chkOp P G.n (.mkFunc fn fs cs) o.op = true) {call : ACall} {meth} {v : Value} {H' : AHeap}
    (h : evOp call meth σ H (.mkFunc fn fs cs) = some (v, H')) : OpR P G ι H w (execOp a.eval o) v H' := by
  obtain ⟨dst, op, ty, pos, aft, gd⟩ := o
  cases op <;> simp only [chkOp, Bool.false_eq_true, Bool.and_eq_true, decide_eq_true_eq] at hc
  rename_i fn' fs' cs'
  obtain ⟨⟨rfl, hx⟩, hy⟩ := hc
  simp only [evOp] at h
  split at h
  · rename_i us vs hus hvs
    cases h
    have h1 := (rds_sound hr he hx hus).avr
    have h2 := (rds_sound hr he hy hvs).avr
    refine OpR.value hr (v' := .func fn (fs'.map a.eval) (cs'.map a.eval)) rfl (.func _ _ _ _ _ ?_ ?_ ?_ ?_)
    · simpa using h1.1
    · intro k p q hp hq; exact h1.2 k p q hp (by simpa using hq)
    · simpa using h2.1
    · intro k p q hp hq; exact h2.2 k p q hp (by simpa using hq)
  · cases h

theorem info_pair {e : TypeId} {size bytes : Nat} (h : (P.info? e).map (fun i => (i.size, i.bytes)) = some (size, bytes)) : ∃ ei, P.info? e = some ei ∧ ei.size = size ∧ ei.bytes = bytes := by
  rw [Option.map_eq_some_iff] at h
  obtain ⟨ei, h1, h2⟩ := h
  cases h2
  exact ⟨ei, h1, rfl, rfl⟩

theorem op_mkSlice (hr : Rel G ι H w) (he : EnvR ι N σ a) {size bytes zero l} {o : Oper} (hc : chkOp P G.n (.mkSlice size bytes zero l) o.op = true) {call : ACall} {meth} {v : Value} {H' : AHeap}
    (h : evOp call meth σ H (.mkSlice size bytes zero l) = some (v, H')) : OpR P G ι H w (execOp a.eval o) v H' := by
  obtain ⟨dst, op, ty, pos, aft, gd⟩ := o
  cases op <;> simp only [chkOp, Bool.false_eq_true, Bool.and_eq_true] at hc
  rename_i t x y
  obtain ⟨⟨hx, hy⟩, hc⟩ := hc
  split at hc
  · rename_i e hu
    simp only [Bool.and_eq_true, decide_eq_true_eq] at hc
    obtain ⟨⟨hp, hz⟩, hzs⟩ := hc
    obtain ⟨ei, hei, h1, h2⟩ := info_pair hp
    obtain ⟨i, z, hi, hzz, hzc, hcl⟩ := zeroIs_spec hz
    rw [hei] at hi; cases hi
    subst hzc
    simp only [evOp] at h
    split at h
    · rename_i n hn
      obtain ⟨⟨c1, c2, c3, c4⟩, h⟩ := ite_some h
      cases h
      have e1 := int_inv (rd_sound hr he hx hn)
      have e2 := int_inv (rd_sound hr he hy hn)
      subst h1; subst h2
      obtain ⟨v', w', ι', g1, g2, g3⟩ := makeSlice_sound (P := P) hr hu hei hzz hcl hzs c1 c2 c3 c4
      refine OpR.value' (v' := v') (w' := w') ?_ g2 g3
      rw [e1, e2]; exact g1
    · cases h
  · cases hc

theorem op_slice (hr : Rel G ι H w) (he : EnvR ι N σ a) {size x lo hi} {o : Oper} (hc : chkOp P G.n (.slice size x lo hi) o.op = true) {call : ACall} {meth} {v : Value} {H' : AHeap}
    (h : evOp call meth σ H (.slice size x lo hi) = some (v, H')) : OpR P G ι H w (execOp a.eval o) v H' := by
  obtain ⟨dst, op, ty, pos, aft, gd⟩ := o
  cases op <;> simp only [chkOp, Bool.false_eq_true] at hc
  rename_i t x' lo' hi' mx
  split at hc
  · rename_i t₁ x₁ lo₁ hi₁ heq
    injection heq with e1 e2 e3 e4 e5
    subst e1; subst e2; subst e3; subst e4; subst e5
    simp only [Bool.and_eq_true] at hc
    obtain ⟨⟨⟨hx, hlo⟩, hhi⟩, hc⟩ := hc
    split at hc
    · rename_i e hu
      simp only [decide_eq_true_eq, sizeT, Option.map_eq_some_iff] at hc
      obtain ⟨ei, hei, rfl⟩ := hc
      simp only [evOp] at h
      split at h
      · rename_i aa len c lov hiv hxv hlov hhiv
        split at h
        · rename_i l hh hb
          split at h
          · rename_i r hres
            cases h
            obtain ⟨v', g1, g2⟩ := slice_sound (P := P) hr hu hei (rdo_sound hr he hlo hlov) (rdo_sound hr he hhi hhiv) hb (rd_sound hr he hx hxv) hres
            exact OpR.value hr (v' := v') g1 g2
          · cases h
        · cases h
      · cases h
    · cases hc
  · cases hc

theorem op_fieldAddr (hr : Rel G ι H w) (he : EnvR ι N σ a) {off x} {o : Oper} (hc : chkOp P G.n (.fieldAddr off x) o.op = true) {call : ACall} {meth} {v : Value} {H' : AHeap}
    (h : evOp call meth σ H (.fieldAddr off x) = some (v, H')) : OpR P G ι H w (execOp a.eval o) v H' := by
  obtain ⟨dst, op, ty, pos, aft, gd⟩ := o
  cases op <;> simp only [chkOp, Bool.false_eq_true, Bool.and_eq_true] at hc
  rename_i s y f
  obtain ⟨hx, hc⟩ := hc
  split at hc
  · rename_i fields hu
    split at hc
    · rename_i fl hfl
      simp only [Bool.and_eq_true, decide_eq_true_eq] at hc
      obtain ⟨rfl, hne⟩ := hc
      simp only [evOp] at h
      split at h
      · rename_i b off hb
        cases h
        obtain ⟨e, h1, h2⟩ := ptr_inv (rd_sound hr he hx hb)
        have hsz : ∃ fi, P.info? fl.type = some fi ∧ fi.size ≠ 0 := by
          unfold Program.cellsOf at hne
          cases hfi : P.info? fl.type with
          | none => rw [hfi] at hne; simp at hne
          | some fi => rw [hfi] at hne; exact ⟨fi, rfl, by simpa using hne⟩
        obtain ⟨fi, hfi, hne⟩ := hsz
        refine OpR.value hr (v' := .pointer (some ⟨e.blk, e.base + (off + fl.offset), none⟩)) ?_ (.ptr h1)
        rw [h2]
        simp only [Instr.fieldAt, Sem.run_bind, run_underlying hu, Result.andThen_ok, hfl, Instr.sureAddr, Sem.run_pure, fieldPlace, run_sizeOf_of hfi, if_neg hne, addr_add, Nat.add_assoc]
      · cases h
    · cases hc
  · cases hc

theorem op_field (hr : Rel G ι H w) (he : EnvR ι N σ a) {off n x} {o : Oper} (hc : chkOp P G.n (.field off n x) o.op = true) {call : ACall} {meth} {v : Value} {H' : AHeap}
    (h : evOp call meth σ H (.field off n x) = some (v, H')) : OpR P G ι H w (execOp a.eval o) v H' := by
  obtain ⟨dst, op, ty, pos, aft, gd⟩ := o
  cases op <;> simp only [chkOp, Bool.false_eq_true, Bool.and_eq_true] at hc
  rename_i s y f
  obtain ⟨hx, hc⟩ := hc
  split at hc
  · rename_i fields hu
    split at hc
    · rename_i fl hfl
      simp only [Bool.and_eq_true, decide_eq_true_eq] at hc
      obtain ⟨rfl, hagg⟩ := hc
      simp only [evOp] at h
      split at h
      · rename_i cs hcs
        split at h
        · rename_i r hres
          cases h
          have hx' := rd_sound hr he hx hcs
          obtain ⟨ds, h2, hav⟩ : ∃ ds, a.eval y = .agg ds ∧ AVR ι cs ds := by
            generalize a.eval y = y' at *
            cases hx'
            rename_i h1 h2
            exact ⟨_, rfl, h1, h2⟩
          obtain ⟨v', g1, g2⟩ := part_sound (P := P) (w := w) hagg hav hres
          refine OpR.value hr (v' := v') ?_ g2
          rw [h2]
          simp only [Instr.field, Sem.run_bind, run_underlying hu, Result.andThen_ok, hfl, asAgg, Sem.run_pure, g1]
        · cases h
      · cases h
    · cases hc
  · cases hc

theorem op_indexAddr (hr : Rel G ι H w) (he : EnvR ι N σ a) {arr size x i} {o : Oper} (hc : chkOp P G.n (.indexAddr arr size x i) o.op = true) {call : ACall} {meth} {v : Value} {H' : AHeap}
    (h : evOp call meth σ H (.indexAddr arr size x i) = some (v, H')) : OpR P G ι H w (execOp a.eval o) v H' := by
  obtain ⟨dst, op, ty, pos, aft, gd⟩ := o
  cases op <;> simp only [chkOp, Bool.false_eq_true, Bool.and_eq_true] at hc
  rename_i t x' i'
  obtain ⟨⟨hx, hi⟩, hc⟩ := hc
  simp only [evOp] at h
  split at h
  · rename_i k n hn
    have e1 := int_inv (rd_sound hr he hi hn)
    split at hc
    · rename_i len e hu
      simp only [Bool.and_eq_true, decide_eq_true_eq, sizeT, Option.map_eq_some_iff] at hc
      obtain ⟨rfl, ei, hei, rfl⟩ := hc
      split at h
      · rename_i len' b off heq hxv
        cases heq
        obtain ⟨⟨c1, c2⟩, h⟩ := ite_some h
        cases h
        obtain ⟨ent, h1, h2⟩ := ptr_inv (rd_sound hr he hx hxv)
        refine OpR.value hr (v' := .pointer (some ⟨ent.blk, ent.base + (off + n.toNat * ei.size), none⟩)) ?_ (.ptr h1)
        rw [e1, h2]
        have hcond : 0 ≤ n ∧ n < (len : Int) := ⟨c1, c2⟩
        simp only [Instr.indexAt, Sem.run_bind, asIntOf, Sem.run_pure, Result.andThen_ok, run_underlying hu, Instr.sureAddr, if_pos hcond, run_sizeOf_of hei, addr_add, Nat.add_assoc]
      · rename_i heq _; cases heq
      · cases h
    · rename_i e hu
      simp only [Bool.and_eq_true, decide_eq_true_eq, sizeT, Option.map_eq_some_iff] at hc
      obtain ⟨rfl, ei, hei, rfl⟩ := hc
      split at h
      · rename_i heq _; cases heq
      · rename_i b off len c _ hxv
        obtain ⟨⟨c1, c2⟩, h⟩ := ite_some h
        cases h
        have hx' := rd_sound hr he hx hxv
        have hcond : 0 ≤ n ∧ n < (len : Int) := ⟨c1, c2⟩
        have key : ∃ ent cap, ι b = some ent ∧ a.eval x' = .slice (some ⟨ent.blk, ent.base + off, none⟩) len cap := by
          generalize a.eval x' = y' at *
          cases hx' with
          | slE => omega
          | sl h1 _ _ => exact ⟨_, _, h1, rfl⟩
        obtain ⟨ent, cap, h1, h2⟩ := key
        refine OpR.value hr (v' := .pointer (some ⟨ent.blk, ent.base + (off + n.toNat * ei.size), none⟩)) ?_ (.ptr h1)
        rw [e1, h2]
        simp only [Instr.indexAt, Sem.run_bind, asIntOf, Sem.run_pure, Result.andThen_ok, run_underlying hu, if_pos hcond, run_sizeOf_of hei, addr_add, Nat.add_assoc]
      · cases h
    · cases hc
  · cases h

theorem op_index (hr : Rel G ι H w) (he : EnvR ι N σ a) {len size n x i} {o : Oper} (hc : chkOp P G.n (.index len size n x i) o.op = true) {call : ACall} {meth} {v : Value} {H' : AHeap}
    (h : evOp call meth σ H (.index len size n x i) = some (v, H')) : OpR P G ι H w (execOp a.eval o) v H' := by
  obtain ⟨dst, op, ty, pos, aft, gd⟩ := o
  cases op <;> simp only [chkOp, Bool.false_eq_true, Bool.and_eq_true] at hc
  rename_i t x' i'
  obtain ⟨⟨hx, hi⟩, hc⟩ := hc
  split at hc
  · rename_i len' e hu
    simp only [Bool.and_eq_true, decide_eq_true_eq, sizeT, Option.map_eq_some_iff] at hc
    obtain ⟨⟨rfl, ei, hei, rfl⟩, hagg⟩ := hc
    simp only [evOp] at h
    split at h
    · rename_i cs k m hcs hm
      split at h
      · rename_i hcond
        split at h
        · rename_i r hres
          cases h
          have e1 := int_inv (rd_sound hr he hi hm)
          have hx' := rd_sound hr he hx hcs
          obtain ⟨ds, h2, hav⟩ : ∃ ds, a.eval x' = .agg ds ∧ AVR ι cs ds := by
            generalize a.eval x' = y' at *
            cases hx'
            rename_i h1 h2
            exact ⟨_, rfl, h1, h2⟩
          obtain ⟨v', g1, g2⟩ := part_sound (P := P) (w := w) hagg hav hres
          refine OpR.value hr (v' := v') ?_ g2
          rw [e1, h2]
          simp only [Instr.index, Sem.run_bind, asIntOf, Sem.run_pure, Result.andThen_ok, run_underlying hu, if_pos hcond, run_sizeOf_of hei, g1]
        · cases h
      · cases h
    · cases h
  · cases hc

theorem op_extract (hr : Rel G ι H w) (he : EnvR ι N σ a) {x i} {o : Oper} (hc : chkOp P G.n (.extract x i) o.op = true) {call : ACall} {meth} {v : Value} {H' : AHeap}
    (h : evOp call meth σ H (.extract x i) = some (v, H')) : OpR P G ι H w (execOp a.eval o) v H' := by
  obtain ⟨dst, op, ty, pos, aft, gd⟩ := o
  cases op <;> simp only [chkOp, Bool.false_eq_true, Bool.and_eq_true, decide_eq_true_eq] at hc
  rename_i y j
  obtain ⟨rfl, hx⟩ := hc
  simp only [evOp] at h
  split at h
  · rename_i cs hcs
    split at h
    · rename_i r hres
      cases h
      have hx' := rd_sound hr he hx hcs
      obtain ⟨ds, h2, hav⟩ : ∃ ds, a.eval y = .tuple ds ∧ AVR ι cs ds := by
        generalize a.eval y = y' at *
        cases hx'
        rename_i h1 h2
        exact ⟨_, rfl, h1, h2⟩
      obtain ⟨v', g1, g2⟩ := hav.get hres
      refine OpR.value hr (v' := v') ?_ g2
      rw [h2]
      simp [Instr.extract, g1]
    · cases h
  · cases h

theorem arr1 {α : Type} {l : Array α} {x : α} (h : l.toList = [x]) : l = #[x] := Array.ext' (by simpa using h)
theorem arr2 {α : Type} {l : Array α} {x y : α} (h : l.toList = [x, y]) : l = #[x, y] := Array.ext' (by simpa using h)

theorem op_len (hr : Rel G ι H w) (he : EnvR ι N σ a) {str x} {o : Oper} (hc : chkOp P G.n (.len str x) o.op = true) {call : ACall} {meth} {v : Value} {H' : AHeap}
    (h : evOp call meth σ H (.len str x) = some (v, H')) : OpR P G ι H w (execOp a.eval o) v H' := by
  obtain ⟨dst, op, ty, pos, aft, gd⟩ := o
  cases op <;> simp only [chkOp, Bool.false_eq_true] at hc
  rename_i c
  obtain ⟨callee, args, argTypes⟩ := c
  cases callee <;> try (simp only [Bool.false_eq_true] at hc)
  rename_i b
  cases b <;> try simp only [Bool.false_eq_true] at hc
  split at hc
  · rename_i y t ha ht
    obtain rfl := arr1 ha
    obtain rfl := arr1 ht
    simp only [Bool.and_eq_true] at hc
    obtain ⟨hx, hc⟩ := hc
    simp only [evOp] at h
    split at h
    · rename_i p n c hv
      cases h
      have hx' := rd_sound hr he hx hv
      split at hc
      · cases hc
      · rename_i e hu
        obtain ⟨p', c', h2⟩ : ∃ p' c', a.eval y = .slice p' n c' := by
          generalize a.eval y = y' at *
          cases hx' <;> exact ⟨_, _, rfl⟩
        refine ⟨_, .int .i64 n, w, ι, ?_, .inl rfl, Post.refl hr, .int _ _⟩
        simp [execOp, resolve, invoke, builtin, Builtin.len_, h2, run_underlying hu, goInt]
      · cases hc
    · rename_i s hv
      cases h
      have hx' := rd_sound hr he hx hv
      split at hc
      · rename_i hu
        have h2 := string_inv hx'
        refine ⟨_, .int .i64 s.size, w, ι, ?_, .inl rfl, Post.refl hr, .int _ _⟩
        simp [execOp, resolve, invoke, builtin, Builtin.len_, h2, run_underlying hu, goInt]
      · cases hc
      · cases hc
    · cases h
  · cases hc

theorem op_append (hr : Rel G ι H w) (he : EnvR ι N σ a) {size bytes x y} {o : Oper} (hc : chkOp P G.n (.append size bytes x y) o.op = true) {call : ACall} {meth} {v : Value} {H' : AHeap}
    (h : evOp call meth σ H (.append size bytes x y) = some (v, H')) : OpR P G ι H w (execOp a.eval o) v H' := by
  obtain ⟨dst, op, ty, pos, aft, gd⟩ := o
  cases op <;> simp only [chkOp, Bool.false_eq_true] at hc
  rename_i c
  obtain ⟨callee, args, argTypes⟩ := c
  cases callee <;> try (simp only [Bool.false_eq_true] at hc)
  rename_i b
  cases b <;> try simp only [Bool.false_eq_true] at hc
  split at hc
  · rename_i x' y' t u ha ht
    obtain rfl := arr2 ha
    obtain rfl := arr2 ht
    simp only [Bool.and_eq_true, decide_eq_true_eq] at hc
    obtain ⟨⟨⟨rfl, hx⟩, hy⟩, hc⟩ := hc
    split at hc
    · rename_i e hu
      simp only [Bool.and_eq_true, decide_eq_true_eq] at hc
      obtain ⟨hp, hz⟩ := hc
      obtain ⟨ei, hei, rfl, rfl⟩ := info_pair hp
      split at hz
      · rename_i z hz0
        simp only [decide_eq_true_eq] at hz
        obtain ⟨i, z', hi, hzz, rfl, hcl⟩ := zeroOf_spec hz0
        rw [hei] at hi; cases hi
        simp only [evOp] at h
        split at h
        · rename_i p n c q m d hxv hyv
          obtain ⟨v', w', ι', g1, g2, g3⟩ := append_sound (P := P) (ty := ty) hr hu hei hzz hz (rd_sound hr he hx hxv) (rd_sound hr he hy hyv) h
          refine ⟨_, v', w', ι', ?_, .inl rfl, g2, g3⟩
          simp [execOp, resolve, invoke, builtin, g1]
        · cases h
      · cases hz
    · cases hc
  · cases hc

theorem op_minmax (hr : Rel G ι H w) (he : EnvR ι N σ a) {mx x y} {o : Oper} (hc : chkOp P G.n (.minmax mx x y) o.op = true) {call : ACall} {meth} {v : Value} {H' : AHeap}
    (h : evOp call meth σ H (.minmax mx x y) = some (v, H')) : OpR P G ι H w (execOp a.eval o) v H' := by
  obtain ⟨dst, op, ty, pos, aft, gd⟩ := o
  cases op <;> simp only [chkOp, Bool.false_eq_true] at hc
  rename_i c
  obtain ⟨callee, args, argTypes⟩ := c
  cases callee <;> simp only [Bool.false_eq_true] at hc
  rename_i b
  simp only [Bool.and_eq_true] at hc
  obtain ⟨hb, hc⟩ := hc
  split at hc
  · rename_i x' y' ha
    obtain rfl := arr2 ha
    simp only [Bool.and_eq_true] at hc
    obtain ⟨hx, hy⟩ := hc
    simp only [evOp] at h
    split at h
    · rename_i k p k' q hxv hyv
      cases h
      have e1 := int_inv (rd_sound hr he hx hxv)
      have e2 := int_inv (rd_sound hr he hy hyv)
      cases b <;> simp only [Bool.false_eq_true] at hb
      · subst hb
        refine ⟨_, _, w, ι, ?_, .inl rfl, Post.refl hr, .int _ _⟩
        simp [execOp, resolve, invoke, builtin, Builtin.max_, Builtin.max2, e1, e2]
      · rw [Bool.not_eq_true'] at hb
        subst hb
        refine ⟨_, _, w, ι, ?_, .inl rfl, Post.refl hr, .int _ _⟩
        simp [execOp, resolve, invoke, builtin, Builtin.min_, Builtin.min2, e1, e2]
    · cases h
  · cases hc

/-- Does an operation call? -/
def AOp.calls : AOp → Bool
  | .call .. | .callQ .. | .callE .. | .invoke .. | .callV .. => true
  | .hold _ op => op.calls
  | _ => false

theorem op_sound (hr : Rel G ι H w) (he : EnvR ι N σ a) {ao : AOp} {o : Oper} (hc : chkOp P G.n ao o.op = true) {call : ACall} {meth} {v : Value} {H' : AHeap}
    (h : evOp call meth σ H ao = some (v, H')) : OpR P G ι H w (execOp a.eval o) v H' := by
  cases ao with
  | mov x => exact op_mov hr he hc h
  | pick c x y => exact op_pick hr he hc h
  | alloc z => exact op_alloc hr hc h
  | box x => exact op_box hr he hc h
  | build z ps => exact op_build hr he hc h
  | buildSlice s z n ps => exact op_buildSlice hr he hc h
  | load n x => exact op_load hr he hc h
  | store n x y => exact op_store hr he hc h
  | nilChk x => exact op_nilChk hr he hc h
  | bin op x y => exact op_bin hr he hc h
  | eqB n x y => exact op_eqB hr he hc h
  | isNil k n x => exact op_isNil hr he hc h
  | un op x => exact op_un hr he hc h
  | conv k x => exact op_conv hr he hc h
  | mkIface t x => exact op_mkIface hr he hc h
  | mkFunc fn x y => exact op_mkFunc hr he hc h
  | mkSlice s b z l => exact op_mkSlice hr he hc h
  | slice s x l r => exact op_slice hr he hc h
  | fieldAddr n x => exact op_fieldAddr hr he hc h
  | field n m x => exact op_field hr he hc h
  | indexAddr arr s x i => exact op_indexAddr hr he hc h
  | index l s n x i => exact op_index hr he hc h
  | extract x i => exact op_extract hr he hc h
  | len s x => exact op_len hr he hc h
  | append s b x y => exact op_append hr he hc h
  | minmax m x y => exact op_minmax hr he hc h
  | call f xs => simp [chkOp] at hc
  | callQ f xs => simp [chkOp] at hc
  | callE g f xs => simp [chkOp] at hc
  | invoke m x xs => simp [chkOp] at hc
  | callV x xs => simp [chkOp] at hc
  | hold ds op => simp [chkOp] at hc
end
end Go.Ab
