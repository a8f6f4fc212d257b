/- Soundness of the operations that make no call: memory. -/
import Derived.Test.YtebmnnbjfjadaaaGreatDoorFd
import Derived.Laws.AppendOwn
namespace Go.Ab
open Go

theorem run_sizeOf_of {P : Program} {t : TypeId} {i : TypeInfo} (h : P.info? t = some i) (w : World) : (sizeOf t).run P w = .ok i.size w := by
  simp [sizeOf, typeInfo, h]
theorem run_zeroValue_of {P : Program} {t : TypeId} {i : TypeInfo} {z : Value} (h : P.info? t = some i) (hz : i.zero = some z) (w : World) : (zeroValue t).run P w = .ok z w := by
  simp [zeroValue, typeInfo, h, hz]
def isAggT : TypeDesc → Bool
  | .struct _ | .array _ _ => true
  | _ => false

theorem run_isAgg_of {P : Program} {t : TypeId} {d : TypeDesc} (h : P.underlying t = some d) (w : World) :
    (isAgg t).run P w = .ok (isAggT d) w := by
  simp only [isAgg, Sem.run_bind, run_underlying h, Result.andThen_ok]
  cases d <;> rfl

section
variable {P : Program} {G : Glob} {ι : Inj} {H : AHeap} {w : World}

/-- What an object says of its block. -/
theorem Rel.cellAt (hr : Rel G ι H w) {i : Nat} {o : AObj} (ho : H.get i = some o) {e : Ent} (he : ι i = some e) {k : Nat} {v : Value} (hv : o.cells[k]? = some v) :
    ∃ v', w.cell? ⟨e.blk, e.base + k, none⟩ = some v' ∧ VR ι v v' := by
  obtain ⟨e', c, t, fz, h1, _, h3, _, _, h6, _⟩ := hr.obj i o ho
  rw [he] at h1; cases h1
  obtain ⟨v', hv', hr'⟩ := h6 k v hv
  exact ⟨v', by rw [World.cell_of h3]; exact hv', hr'⟩

theorem addr_add (b o n : Nat) : (⟨b, o, none⟩ : Addr).add n = ⟨b, o + n, none⟩ := by
  unfold Addr.add; split <;> simp_all

theorem readN_get {cells : List Value} {off n : Nat} {l : List Value} (h : readN cells off n = some l) : l.length = n ∧ ∀ (k : Nat) v, l[k]? = some v → cells[off + k]? = some v := by
  unfold readN at h
  split at h
  · cases h
    refine ⟨by simp; omega, fun k v hk => ?_⟩
    rw [List.getElem?_take] at hk
    split at hk
    · simpa [List.getElem?_drop] using hk
    · cases hk
  · cases h

/-- A row of cells is read. -/
theorem read_cells (hr : Rel G ι H w) {i off n : Nat} {e : Ent} (he : ι i = some e) {l : List Value} (h : H.read i off n = some l) :
    ∃ l', l'.length = n ∧ LVR ι l l' ∧ ∀ (j : Nat) v, l'[j]? = some v → w.cell? ((⟨e.blk, e.base + off, none⟩ : Addr).add j) = some v := by
  unfold AHeap.read at h
  split at h
  · cases h
  · rename_i o ho
    obtain ⟨hl, hg⟩ := readN_get h
    have key : ∀ k, k < n → ∃ v', w.cell? ⟨e.blk, e.base + (off + k), none⟩ = some v' ∧ ∀ v, l[k]? = some v → VR ι v v' := by
      intro k hk
      have hlk : l[k]? = some (l[k]'(by omega)) := List.getElem?_eq_getElem _
      obtain ⟨v', h1, h2⟩ := hr.cellAt ho he (hg k _ hlk)
      exact ⟨v', h1, fun v hv => by rw [hlk] at hv; cases hv; exact h2⟩
    refine ⟨(List.range n).map fun k => if h : k < n then (key k h).choose else undef, by simp, ?_, ?_⟩
    · refine LVR.of_get (by simp [hl]) fun k v v' hv hv' => ?_
      have hk : k < n := by
        rcases Nat.lt_or_ge k n with h | h
        · exact h
        · rw [List.getElem?_eq_none (by omega)] at hv; cases hv
      rw [List.getElem?_map, List.getElem?_range hk] at hv'
      simp only [Option.map_some, hk, dif_pos, Option.some.injEq] at hv'
      subst hv'
      exact (key k hk).choose_spec.2 v hv
    · intro j v hv
      have hk : j < n := by
        rcases Nat.lt_or_ge j n with h | h
        · exact h
        · rw [List.getElem?_eq_none (by simpa using h)] at hv; cases hv
      rw [List.getElem?_map, List.getElem?_range hk] at hv
      simp only [Option.map_some, hk, dif_pos, Option.some.injEq] at hv
      subst hv
      rw [addr_add, Nat.add_assoc]
      exact (key j hk).choose_spec.1

theorem ptr_inv {i off : Nat} {v' : Value} (h : VR ι (.pointer (some ⟨i, off, none⟩)) v') : ∃ e, ι i = some e ∧ v' = .pointer (some ⟨e.blk, e.base + off, none⟩) := by
  cases h with
  | ptr h => exact ⟨_, h, rfl⟩

/-- LOAD, one cell. -/
theorem load_one (hr : Rel G ι H w) {t : TypeId} {d : TypeDesc} (hd : P.underlying t = some d) (hn : isAggT d = false)
    {i off : Nat} {x' : Value} (hx : VR ι (.pointer (some ⟨i, off, none⟩)) x') {o : AObj} (ho : H.get i = some o) {v : Value} (hv : o.cells[off]? = some v) :
    ∃ v', (Instr.loadAt t x').run P w = .ok v' w ∧ VR ι v v' := by
  obtain ⟨e, he, rfl⟩ := ptr_inv hx
  obtain ⟨v', h1, h2⟩ := hr.cellAt ho he hv
  refine ⟨v', ?_, h2⟩
  simp only [Instr.loadAt, Instr.sureAddr, loadVar, Sem.run_bind, Sem.run_pure, Result.andThen_ok, run_isAgg_of hd, hn]
  simp [h1]

/-- LOAD, a row of cells. -/
theorem load_row (hr : Rel G ι H w) {t : TypeId} {d : TypeDesc} (hd : P.underlying t = some d) (hn : isAggT d = true)
    {ti : TypeInfo} (hi : P.info? t = some ti) {i off : Nat} {x' : Value} (hx : VR ι (.pointer (some ⟨i, off, none⟩)) x') {l : List Value} (h : H.read i off ti.size = some l) :
    ∃ v', (Instr.loadAt t x').run P w = .ok v' w ∧ VR ι (.agg l.toArray) v' := by
  obtain ⟨e, he, rfl⟩ := ptr_inv hx
  obtain ⟨l', h1, h2, h3⟩ := read_cells hr he h
  refine ⟨.agg l'.toArray, ?_, .agg _ _ h2.avr.1 h2.avr.2⟩
  have := run_loadCells_list (P := P) w ⟨e.blk, e.base + off, none⟩ l' h3
  rw [h1] at this
  simp only [Instr.loadAt, Instr.sureAddr, loadVar, Sem.run_bind, Sem.run_pure, Result.andThen_ok, run_isAgg_of hd, hn, run_sizeOf_of hi, if_true, this]

theorem Tr.put_put : ∀ (bs : List Bool) (t : Tr) (u v : Option AObj), Tr.put bs (Tr.put bs t u) v = Tr.put bs t v
  | [], .nil, _, _ => rfl
  | [], .node _ _ _, _, _ => rfl
  | true :: bs, .nil, u, v => by simp [Tr.put, Tr.put_put bs]
  | false :: bs, .nil, u, v => by simp [Tr.put, Tr.put_put bs]
  | true :: bs, .node _ _ _, u, v => by simp [Tr.put, Tr.put_put bs]
  | false :: bs, .node _ _ _, u, v => by simp [Tr.put, Tr.put_put bs]

theorem AHeap.set_set (H : AHeap) (i : Nat) (o p : AObj) : (H.set i o).set i p = H.set i p := by
  simp [AHeap.set, Tr.put_put]

/-- A heap that tells the same. -/
theorem Rel.same {H' : AHeap} (hr : Rel G ι H w) (hg : ∀ i, H'.get i = H.get i) (hn : H'.next = H.next) (hl : H'.lo = H.lo) : Rel G ι H' w where
  obj i o ho := by rw [hg] at ho; rw [hl]; exact hr.obj i o ho
  ent i e he := by rw [hn]; exact hr.ent i e he
  sep i j e f o p ho hp := by rw [hg] at ho hp; rw [hl]; exact hr.sep i j e f o p ho hp
  lo := by rw [hl, hn]; exact hr.lo
  glb := hr.glb
  top i e o hi ho he := by rw [hg] at ho; rw [hl] at hi; exact hr.top i e o hi ho he
  env := hr.env

theorem Post.same {ι' : Inj} {H₁ H' : AHeap} {w' : World} (h : Post G ι H w ι' H₁ w') (hg : ∀ i, H'.get i = H₁.get i) (hn : H'.next = H₁.next) (hl : H'.lo = H₁.lo) : Post G ι H w ι' H' w' where
  rel := h.rel.same hg hn hl
  ext := h.ext
  lo := hl.trans h.lo
  next := hn ▸ h.next
  size := h.size
  frame := h.frame
  own i e o hi ho he := by rw [hg] at ho; exact h.own i e o hi ho he
  os := h.os
  out := h.out
  tape := h.tape

theorem AHeap.set_same_get (H : AHeap) {i : Nat} {o : AObj} (h : H.get i = some o) (j : Nat) : (H.set i o).get j = H.get j := by
  rw [AHeap.get_set]
  split
  · rename_i x; rw [x.1, h]
  · rfl

/-- STORE: a row of cells. -/
theorem store_cells {i : Nat} {e : Ent} (he : ι i = some e) : ∀ {vs vs' : List Value}, LVR ι vs vs' → ∀ {H : AHeap} {w : World} {o : AObj} {off j : Nat}, Rel G ι H w → H.lo ≤ i →
    H.get i = some o → vs.all one = true → off + j + vs.length ≤ o.cells.length →
    ∃ w', (storeCells ⟨e.blk, e.base + off, none⟩ vs' j).run P w = .ok () w' ∧ Post G ι H w ι (H.set i { o with cells := writeN o.cells (off + j) vs }) w' := by
  intro vs vs' hvs
  induction hvs with
  | nil =>
    intro H w o off j hr hlo ho _ _
    exact ⟨w, rfl, (Post.refl hr).same (fun k => AHeap.set_same_get H ho k) rfl rfl⟩
  | @cons v v' l l' hv hl ih =>
    intro H w o off j hr hlo ho hone hlen
    simp only [List.all_cons, Bool.and_eq_true] at hone
    simp only [List.length_cons] at hlen
    have hoff : off + j < o.cells.length := by omega
    obtain ⟨u, hu, _⟩ := hr.cellAt ho he (List.getElem?_eq_getElem hoff)
    obtain ⟨e', c, t, fz, g1, _, g3, _, _, _, g7⟩ := hr.obj i o ho
    rw [he] at g1; cases g1
    have hfz : w.frozen? ⟨e.blk, e.base + (off + j), none⟩ = false := by
      simp [World.frozen?, g3, g7 hlo]
    have h1 := Post.set hr ho he hlo hoff hv
    have ho' : (H.set i { o with cells := o.cells.set (off + j) v }).get i = some { o with cells := o.cells.set (off + j) v } := AHeap.get_set_same _ _ _ (AHeap.get_lt ho)
    obtain ⟨w', h2, h3⟩ := ih (off := off) (j := j + 1) h1.rel hlo ho' hone.2 (by simp; omega)
    refine ⟨w', ?_, ?_⟩
    · have hst : (store ((⟨e.blk, e.base + off, none⟩ : Addr).add j) v').run P w = .ok () (w.setCell ⟨e.blk, e.base + (off + j), none⟩ v') := by
        rw [addr_add, Nat.add_assoc, run_store P w _ v' _ (one_vr hv hone.1), hu]
        simp [hfz]
      simp only [storeCells, Sem.run_bind, hst, Result.andThen_ok, h2]
    · have := h1.trans h3
      rw [AHeap.set_set] at this
      simpa [writeN, Nat.add_assoc] using this

/-- A new variable or row. -/
theorem new_row (hr : Rel G ι H w) (t : TypeId) (esz : Nat) {c c' : Array Value} (hc : AVR ι c c') :
    (newRow t c').run P w = .ok ⟨w.heap.size, 0, none⟩ { w with heap := w.heap.push (.cells c' t) } ∧
    Post G ι H w (ι.put H.next ⟨w.heap.size, 0, c'.size, esz⟩) (H.new ⟨c.toList, esz⟩) { w with heap := w.heap.push (.cells c' t) } ∧
    VR (ι.put H.next ⟨w.heap.size, 0, c'.size, esz⟩) (.pointer (some ⟨H.next, 0, none⟩)) (.pointer (some ⟨w.heap.size, 0, none⟩)) := by
  refine ⟨rfl, Post.new hr c' t c.toList esz (by simp [hc.1]) (fun k v hk => hc.get (by simpa using hk)), ?_⟩
  have := VR.ptr (ι := ι.put H.next ⟨w.heap.size, 0, c'.size, esz⟩) (off := 0) (Inj.put_same ι H.next ⟨w.heap.size, 0, c'.size, esz⟩)
  simpa using this

end
end Go.Ab
