/- EngineNone: whatever its arguments are, it comes to true. -/
import Derived.Test.YtebmnnbjfjadaaaGreatDoorENRun
namespace Go.Ab
open Go Go.Proofs

set_option maxRecDepth 100000 in
theorem law_none (ι : Inj) (H : AHeap) (avs : List Value) (W : World) (vs : List Value) (_ : Ext ι1 H1 ι H) (hr : Ro G1 ι H W) (hl : LVR ι avs vs)
    (ht : All2 (fun t av => TyArg Tryz.prog H 9 t av) Tryz.f3.params.toList avs) :
    ∃ ι' H' avs', Ro G1 ι' H' W ∧ LVR ι' avs' vs ∧ ∃ k H'', evFn T k 3 avs' H' = some (.bool true, H'') := by
  rw [Tryz.params3] at ht
  obtain ⟨_, _, rfl, t0, ht⟩ := All2.cons_inv ht
  obtain ⟨_, _, rfl, t1, ht⟩ := All2.cons_inv ht
  obtain rfl := All2.nil_inv ht
  obtain ⟨t, rfl, _⟩ := TyArg.int Tryz.underlying3 t0
  obtain ⟨parts, rfl, hp⟩ := TyArg.struct Tryz.underlying24 t1
  obtain ⟨_, _, rfl, p0, hp⟩ := All2.cons_inv hp
  obtain ⟨_, _, rfl, p1, hp⟩ := All2.cons_inv hp
  obtain ⟨_, _, rfl, p2, hp⟩ := All2.cons_inv hp
  obtain rfl := All2.nil_inv hp
  obtain ⟨op, rfl, _⟩ := Ty.int Tryz.underlying3 p0.2
  obtain ⟨n, rfl, _⟩ := Ty.int Tryz.underlying3 p1.2
  obtain ⟨v0, _, rfl, l0, hl⟩ := hl.cons_inv
  obtain ⟨v1, _, rfl, l1, hl⟩ := hl.cons_inv
  obtain rfl := hl.nil_inv
  obtain ⟨w1, rfl, k1⟩ := l1.agg_list
  obtain ⟨x0, _, rfl, m0, k1⟩ := LVR.cons_inv k1
  obtain ⟨x1, _, rfl, m1, k1⟩ := LVR.cons_inv k1
  rcases Ty.slice Tryz.underlying22 p2.2 with rfl | ⟨i, q, rfl, _⟩
  · obtain ⟨x2, _, rfl, m2, k1⟩ := LVR.cons_inv k1
    obtain rfl := LVR.nil_inv k1
    exact ⟨ιs ι [], _, _, hr.forget [], .cons l0.int_any (.cons (VR.of_list (.cons m0.int_any (.cons m1.int_any (.cons m2.slNil_any .nil)))) .nil), 100, isTrue_some (none_run1 t op n)⟩
  · obtain ⟨x2, _, rfl, m2, k1⟩ := LVR.cons_inv k1
    obtain rfl := LVR.nil_inv k1
    exact ⟨ιs ι [i], _, _, hr.forget [i], .cons l0.int_any (.cons (VR.of_list (.cons m0.int_any (.cons m1.int_any (.cons (m2.slice_to (j := 1) fun e he => he) .nil)))) .nil), 100, isTrue_some (none_run2 t op n q.length)⟩
end Go.Ab
