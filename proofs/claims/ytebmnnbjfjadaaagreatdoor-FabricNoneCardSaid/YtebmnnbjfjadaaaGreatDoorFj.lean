/- Soundness of each operation that makes no call. -/
import Derived.Test.YtebmnnbjfjadaaaGreatDoorFi
namespace Go.Ab
open Go

section
variable {P : Program} {G : Glob} {ι : Inj} {H : AHeap} {w : World} {N : Nat} {σ : Env} {a : Act}

theorem partsS_sound (hr : Rel G ι H w) (he : EnvR ι N σ a) {fields : Array Field} : ∀ {ps : List ((Nat × Nat) × AOpd)} {qs : List (Nat × Operand)} {vs : List Value},
    chkPartsS G.n fields P ps qs = true → σ.rds (vals ps) = some vs →
    PartsR ι (fun i => (fields[i]?).map fun f => (f.offset, P.cellsOf f.type)) (zipParts ps vs) (qs.map fun p => (p.1, a.eval p.2))
  | [], [], vs, _, h => by simp [vals, Env.rds] at h; subst h; exact .nil
  | (p, x) :: r, (i, y) :: r', vs, hc, h => by
    simp only [chkPartsS, Bool.and_eq_true] at hc
    simp only [vals, List.map_cons, Env.rds] at h
    split at h
    · cases h
    · rename_i v hv
      split at h
      · cases h
      · rename_i us hus
        cases h
        simp only [zipParts, List.map_cons]
        refine .cons ?_ (rd_sound hr he hc.1.2 hv) (partsS_sound hr he hc.2 hus)
        have h1 := hc.1.1
        split at h1
        · rename_i f hf
          rw [hf]
          simp only [decide_eq_true_eq] at h1
          simp [h1]
        · cases h1
  | [], _ :: _, _, h, _ => by simp [chkPartsS] at h
  | _ :: _, [], _, h, _ => by simp [chkPartsS] at h

theorem partsA_sound (hr : Rel G ι H w) (he : EnvR ι N σ a) {size : Nat} : ∀ {ps : List ((Nat × Nat) × AOpd)} {qs : List (Nat × Operand)} {vs : List Value},
    chkPartsA G.n size ps qs = true → σ.rds (vals ps) = some vs →
    PartsR ι (fun i => some (i * size, size)) (zipParts ps vs) (qs.map fun p => (p.1, a.eval p.2))
  | [], [], vs, _, h => by simp [vals, Env.rds] at h; subst h; exact .nil
  | (p, x) :: r, (i, y) :: r', vs, hc, h => by
    simp only [chkPartsA, Bool.and_eq_true, decide_eq_true_eq] at hc
    simp only [vals, List.map_cons, Env.rds] at h
    split at h
    · cases h
    · rename_i v hv
      split at h
      · cases h
      · rename_i us hus
        cases h
        simp only [zipParts, List.map_cons]
        refine .cons ?_ (rd_sound hr he hc.1.2 hv) (partsA_sound hr he hc.2 hus)
        simp [hc.1.1]
  | [], _ :: _, _, h, _ => by simp [chkPartsA] at h
  | _ :: _, [], _, h, _ => by simp [chkPartsA] at h

theorem partsI_A {size : Nat} : ∀ {ps : List (Nat × AOpd)} {qs : List (Nat × Operand)}, chkPartsI G.n ps qs = true → chkPartsA G.n size (ps.map fun p => ((p.1 * size, size), p.2)) qs = true
  | [], [], _ => rfl
  | (p, x) :: r, (i, y) :: r', hc => by
    simp only [chkPartsI, Bool.and_eq_true, decide_eq_true_eq] at hc
    simp only [List.map_cons, chkPartsA, Bool.and_eq_true, decide_eq_true_eq]
    exact ⟨⟨by rw [hc.1.1], hc.1.2⟩, partsI_A hc.2⟩
  | [], _ :: _, h => by simp [chkPartsI] at h
  | _ :: _, [], h => by simp [chkPartsI] at h

theorem rdo_sound (hr : Rel G ι H w) (he : EnvR ι N σ a) {x : Option AOpd} {y : Option Operand} (hc : chkOpdO G.n x y = true) {v : Option Value} (hv : σ.rdo x = some v) : OVR ι v (y.map a.eval) := by
  cases x with
  | none => cases y <;> simp [chkOpdO] at hc; simp [Env.rdo] at hv; subst hv; exact .none
  | some x =>
    cases y <;> simp [chkOpdO] at hc
    simp only [Env.rdo, Option.map_eq_some_iff] at hv
    obtain ⟨u, hu, rfl⟩ := hv
    exact .some (rd_sound hr he hc hu)

theorem part_one {t : TypeId} {d : TypeDesc} (hd : P.underlying t = some d) (hn : isAggT d = false) {cs : Array Value} {off : Nat} {v : Value} (h : cs[off]? = some v) :
    (part t cs off).run P w = .ok v w := by
  simp only [part, Sem.run_bind, run_isAgg_of hd, Result.andThen_ok, hn]
  simp [h]

theorem part_row {t : TypeId} {d : TypeDesc} (hd : P.underlying t = some d) (hn : isAggT d = true) {ti : TypeInfo} (hi : P.info? t = some ti) {cs : Array Value} {off : Nat} :
    (part t cs off).run P w = .ok (.agg (cs.extract off (off + ti.size))) w := by
  simp only [part, Sem.run_bind, run_isAgg_of hd, Result.andThen_ok, hn, if_true, run_sizeOf_of hi, Sem.run_pure]

theorem AVR.extract {x y : Array Value} (h : AVR ι x y) (i j : Nat) : AVR ι (x.extract i j) (y.extract i j) := by
  refine ⟨by simp [h.1], fun k v v' hv hv' => ?_⟩
  rw [Array.getElem?_extract] at hv hv'
  split at hv
  · split at hv'
    · exact h.2 _ v v' hv hv'
    · cases hv'
  · cases hv

theorem aggOf_spec {t : TypeId} {n : Option Nat} (h : aggOf P t = some n) : ∃ d i, P.underlying t = some d ∧ P.info? t = some i ∧ n = if isAggT d then some i.size else none := by
  unfold aggOf at h
  split at h
  · rename_i d i hd hi
    refine ⟨d, i, hd, hi, ?_⟩
    split at h <;> cases h <;> simp_all
  · cases h

/-- The part of an aggregate. -/
theorem part_sound {t : TypeId} {n : Option Nat} (h : aggOf P t = some n) {x y : Array Value} (hxy : AVR ι x y) {off : Nat} {v : Value}
    (hv : aPart x off n = some v) : ∃ v', (part t y off).run P w = .ok v' w ∧ VR ι v v' := by
  obtain ⟨d, i, hd, hi, rfl⟩ := aggOf_spec h
  cases hg : isAggT d with
  | false =>
    rw [hg] at hv
    simp only [Bool.false_eq_true, if_false, aPart] at hv
    obtain ⟨v', h1, h2⟩ := hxy.get hv
    exact ⟨v', part_one hd hg h1, h2⟩
  | true =>
    rw [hg] at hv
    simp only [if_true, aPart] at hv
    split at hv
    · cases hv
      have := hxy.extract off (off + i.size)
      exact ⟨_, part_row hd hg hi, .agg _ _ this.1 this.2⟩
    · cases hv

theorem ite_some {α : Type} {c : Prop} [Decidable c] {x y : α} (h : (if c then some x else none) = some y) : c ∧ x = y := by
  split at h
  · rename_i hc; exact ⟨hc, Option.some.inj h⟩
  · cases h

theorem op_mov (hr : Rel G ι H w) (he : EnvR ι N σ a) {x : AOpd} {o : Oper} (hc : chkOp P G.n (.mov x) o.op = true) {call : ACall} {meth} {v : Value} {H' : AHeap}
    (h : evOp call meth σ H (.mov x) = some (v, H')) : OpR P G ι H w (execOp a.eval o) v H' := by
  obtain ⟨dst, op, ty, pos, aft, gd⟩ := o
  cases op <;> simp [chkOp] at hc
  all_goals
    simp only [evOp] at h
    split at h
    · rename_i u hu; cases h; exact OpR.here hr (rd_sound hr he hc hu)
    · cases h

theorem op_pick (hr : Rel G ι H w) (he : EnvR ι N σ a) {c x y : AOpd} {o : Oper} (hc : chkOp P G.n (.pick c x y) o.op = true) {call : ACall} {meth} {v : Value} {H' : AHeap}
    (h : evOp call meth σ H (.pick c x y) = some (v, H')) : OpR P G ι H w (execOp a.eval o) v H' := by
  obtain ⟨dst, op, ty, pos, aft, gd⟩ := o
  cases op <;> simp [chkOp] at hc
  simp only [evOp] at h
  split at h
  · rename_i hcv
    have h1 := bool_inv (rd_sound hr he hc.1.1 hcv)
    split at h
    · rename_i u hu
      cases h
      exact ⟨_, _, w, ι, by simp [execOp, h1, asBool], .inl rfl, Post.refl hr, rd_sound hr he hc.1.2 hu⟩
    · cases h
  · rename_i hcv
    have h1 := bool_inv (rd_sound hr he hc.1.1 hcv)
    split at h
    · rename_i u hu
      cases h
      exact ⟨_, _, w, ι, by simp [execOp, h1, asBool], .inl rfl, Post.refl hr, rd_sound hr he hc.2 hu⟩
    · cases h
  · cases h

theorem op_alloc (hr : Rel G ι H w) {zero : List Value} {o : Oper} (hc : chkOp P G.n (.alloc zero) o.op = true) {call : ACall} {meth} {v : Value} {H' : AHeap}
    (h : evOp call meth σ H (.alloc zero) = some (v, H')) : OpR P G ι H w (execOp a.eval o) v H' := by
  obtain ⟨dst, op, ty, pos, aft, gd⟩ := o
  cases op <;> simp [chkOp] at hc
  rename_i t
  obtain ⟨i, z, hi, hz, hzc, hcl⟩ := zeroIs_spec hc
  simp only [evOp] at h
  cases h
  have hav : AVR ι zero.toArray z.cells := by rw [hzc]; exact AVR.refl_closed hcl
  obtain ⟨g1, g2, g3⟩ := new_row (P := P) hr t zero.length hav
  exact OpR.value' (by
    simp only [Instr.alloc, Sem.run_bind, run_zeroValue_of hi hz, Result.andThen_ok, newVar, g1, Sem.run_pure]; rfl) (by simpa using g2) g3

theorem op_box (hr : Rel G ι H w) (he : EnvR ι N σ a) {x : AOpd} {o : Oper} (hc : chkOp P G.n (.box x) o.op = true) {call : ACall} {meth} {v : Value} {H' : AHeap}
    (h : evOp call meth σ H (.box x) = some (v, H')) : OpR P G ι H w (execOp a.eval o) v H' := by
  obtain ⟨dst, op, ty, pos, aft, gd⟩ := o
  cases op <;> simp [chkOp] at hc
  rename_i t y
  simp only [evOp] at h
  split at h
  · rename_i u hu
    cases h
    obtain ⟨g1, g2, g3⟩ := new_row (P := P) hr t u.cells.size (rd_sound hr he hc hu).cells
    exact OpR.value' (by simp only [Instr.box, Sem.run_bind, newVar, g1, Result.andThen_ok, Sem.run_pure]) g2 g3
  · cases h

theorem op_build (hr : Rel G ι H w) (he : EnvR ι N σ a) {zero ps} {o : Oper} (hc : chkOp P G.n (.build zero ps) o.op = true) {call : ACall} {meth} {v : Value} {H' : AHeap}
    (h : evOp call meth σ H (.build zero ps) = some (v, H')) : OpR P G ι H w (execOp a.eval o) v H' := by
  obtain ⟨dst, op, ty, pos, aft, gd⟩ := o
  cases op <;> simp only [chkOp, Bool.false_eq_true, Bool.and_eq_true] at hc
  rename_i t qs
  obtain ⟨hz, hc⟩ := hc
  obtain ⟨i, z, hi, hzz, hzc, hcl⟩ := zeroIs_spec hz
  subst hzc
  simp only [evOp] at h
  split at h
  · rename_i vs hvs
    split at h
    · rename_i cs hcs
      cases h
      have key : ∃ v', (Instr.build t (qs.toList.map fun p => (p.1, a.eval p.2)).toArray).run P w = .ok v' w ∧ VR ι (.agg cs) v' := by
        split at hc
        · rename_i fields hu
          simp only [Bool.and_eq_true, List.all_eq_true] at hc
          exact build_struct hu hi hzz hc.1 hcl (partsS_sound hr he hc.2 hvs) hcs
        · rename_i n e hu
          split at hc
          · rename_i size hsz
            unfold sizeT at hsz
            rw [Option.map_eq_some_iff] at hsz
            obtain ⟨ei, hei, rfl⟩ := hsz
            exact build_array hu hi hzz hei hcl (partsA_sound hr he hc hvs) hcs
          · cases hc
        · cases hc
      obtain ⟨v', h1, h2⟩ := key
      refine OpR.value hr (v' := v') ?_ h2
      rw [← h1]
      congr 2
      apply Array.ext'
      simp
    · cases h
  · cases h

theorem op_buildSlice (hr : Rel G ι H w) (he : EnvR ι N σ a) {size zero len ps} {o : Oper} (hc : chkOp P G.n (.buildSlice size zero len ps) o.op = true) {call : ACall} {meth} {v : Value} {H' : AHeap}
    (h : evOp call meth σ H (.buildSlice size zero len ps) = some (v, H')) : OpR P G ι H w (execOp a.eval o) v H' := by
  obtain ⟨dst, op, ty, pos, aft, gd⟩ := o
  cases op <;> simp only [chkOp, Bool.false_eq_true, Bool.and_eq_true, decide_eq_true_eq] at hc
  rename_i t len' qs
  obtain ⟨rfl, hc⟩ := hc
  simp only [evOp] at h
  split at h
  · rename_i vs hvs
    split at h
    · rename_i cs hcs
      split at h
      · cases h
      · cases h
        split at hc
        · rename_i e hu
          simp only [Bool.and_eq_true, decide_eq_true_eq] at hc
          obtain ⟨⟨⟨⟨hsz, hz⟩, hzs⟩, hbig⟩, hparts⟩ := hc
          unfold sizeT at hsz
          rw [Option.map_eq_some_iff] at hsz
          obtain ⟨ei, hei, hsize⟩ := hsz
          obtain ⟨i, z, hi, hzz, hzc, hcl⟩ := zeroIs_spec hz
          rw [hei] at hi; cases hi
          subst hsize
          subst hzc
          have hvs' : σ.rds (vals (ps.map fun p => ((p.1 * ei.size, ei.size), p.2))) = some vs := by
            rw [← hvs]; congr 1; simp [vals]
          obtain ⟨v', w', ι', g1, g2, g3⟩ := buildSlice_sound (P := P) (len := len) hr hu hei hzz hcl hzs hbig (partsA_sound hr he (partsI_A hparts) hvs') hcs
          refine OpR.value' (w' := w') (v' := v') ?_ g2 g3
          rw [← g1]
          congr 2
          apply Array.ext'
          simp
        · cases hc
    · cases h
  · cases h

theorem load_sound (hr : Rel G ι H w) {t : TypeId} {n : Option Nat} (hagg : aggOf P t = some n) {p p' v : Value} (hp : VR ι p p') (h : aLoad H n p = some v) :
    ∃ v', (Instr.loadAt t p').run P w = .ok v' w ∧ VR ι v v' := by
  obtain ⟨d, i, hd, hi, rfl⟩ := aggOf_spec hagg
  unfold aLoad at h
  split at h
  · cases hg : isAggT d with
    | false =>
      rw [hg] at h
      simp only [Bool.false_eq_true, if_false] at h
      split at h
      · rename_i ob hob
        exact load_one (P := P) hr hd hg hp hob h
      · cases h
    | true =>
      rw [hg] at h
      simp only [if_true] at h
      split at h
      · rename_i cs hcs
        cases h
        exact load_row (P := P) hr hd hg hi hp hcs
      · cases h
  · cases h

theorem op_load (hr : Rel G ι H w) (he : EnvR ι N σ a) {n x} {o : Oper} (hc : chkOp P G.n (.load n x) o.op = true) {call : ACall} {meth} {v : Value} {H' : AHeap}
    (h : evOp call meth σ H (.load n x) = some (v, H')) : OpR P G ι H w (execOp a.eval o) v H' := by
  obtain ⟨dst, op, ty, pos, aft, gd⟩ := o
  cases op <;> simp only [chkOp, Bool.false_eq_true, Bool.and_eq_true, decide_eq_true_eq] at hc
  simp only [evOp] at h
  split at h
  · rename_i p hx
    split at h
    · rename_i u hu
      cases h
      obtain ⟨v', h1, h2⟩ := load_sound hr hc.1 (rd_sound hr he hc.2 hx) hu
      exact OpR.value hr h1 h2
    · cases h
  · cases h

theorem op_store (hr : Rel G ι H w) (he : EnvR ι N σ a) {n x y} {o : Oper} (hc : chkOp P G.n (.store n x y) o.op = true) {call : ACall} {meth} {v : Value} {H' : AHeap}
    (h : evOp call meth σ H (.store n x y) = some (v, H')) : OpR P G ι H w (execOp a.eval o) v H' := by
  obtain ⟨dst, op, ty, pos, aft, gd⟩ := o
  cases op <;> simp only [chkOp, Bool.false_eq_true, Bool.and_eq_true, decide_eq_true_eq] at hc
  rename_i t p q
  obtain ⟨⟨hsz, hp⟩, hq⟩ := hc
  unfold sizeT at hsz
  rw [Option.map_eq_some_iff] at hsz
  obtain ⟨ti, hti, rfl⟩ := hsz
  simp only [evOp] at h
  split at h
  · rename_i i off u hx hy
    split at h
    · rename_i ob hob
      obtain ⟨⟨c1, c2, c3, c4⟩, h⟩ := ite_some h
      cases h
      obtain ⟨e, hent, hpv⟩ := ptr_inv (rd_sound hr he hp hx)
      have hqv := rd_sound hr he hq hy
      obtain ⟨w', g1, g2⟩ := store_cells (P := P) hent hqv.cells.lvr (off := off) (j := 0) hr c1 hob c4 (by simp; omega)
      have hundef : VR ι undef undef := .tuple _ _ rfl (by simp)
      refine ⟨.skip, undef, w', ι, ?_, .inr ⟨rfl, rfl⟩, by simpa using g2, hundef⟩
      have hcs : ¬ ((a.eval q).cells.size ≠ ti.size) := by rw [← hqv.cells.1]; omega
      simp only [execOp, Instr.storeAt, hpv, Instr.sureAddr, storeVar, Sem.run_bind, Sem.run_pure, Result.andThen_ok, run_sizeOf_of hti, if_neg hcs, g1]
    · cases h
  · cases h

theorem op_nilChk (hr : Rel G ι H w) (he : EnvR ι N σ a) {x} {o : Oper} (hc : chkOp P G.n (.nilChk x) o.op = true) {call : ACall} {meth} {v : Value} {H' : AHeap}
    (h : evOp call meth σ H (.nilChk x) = some (v, H')) : OpR P G ι H w (execOp a.eval o) v H' := by
  obtain ⟨dst, op, ty, pos, aft, gd⟩ := o
  cases op <;> simp only [chkOp, Bool.false_eq_true] at hc
  rename_i y
  simp only [evOp] at h
  split at h
  · rename_i p hx
    have hx' := rd_sound hr he hc hx
    cases h
    simp only [execOp]
    obtain ⟨e, h1, h2⟩ : ∃ e, ι p.block = some e ∧ a.eval y = .pointer (some ⟨e.blk, e.base + p.off, none⟩) ∧ p.spot = none := by
      generalize a.eval y = y' at *
      cases hx'
      rename_i h1
      exact ⟨_, h1, rfl, rfl⟩
    rw [h2.1]
    obtain ⟨pb, po, ps⟩ := p
    obtain rfl := h2.2
    exact ⟨_, _, w, ι, rfl, .inl rfl, Post.refl hr, .ptr h1⟩
  · rename_i f p c hx
    have hx' := rd_sound hr he hc hx
    cases h
    simp only [execOp]
    generalize a.eval _ = y' at *
    cases hx'
    rename_i h1 h2 h3 h4
    exact ⟨_, _, w, ι, rfl, .inl rfl, Post.refl hr, .func _ _ _ _ _ h1 h2 h3 h4⟩
  · rename_i t u hx
    have hx' := rd_sound hr he hc hx
    cases h
    simp only [execOp]
    generalize a.eval _ = y' at *
    cases hx'
    rename_i h1
    exact ⟨_, _, w, ι, rfl, .inl rfl, Post.refl hr, .iface _ _ _ h1⟩
  · cases h
end
end Go.Ab
