/- Soundness: aggregates, new rows, cuts, append. -/
import Derived.Test.YtebmnnbjfjadaaaGreatDoorFe
namespace Go.Ab
open Go

section
variable {P : Program} {G : Glob} {ι : Inj} {H : AHeap} {w : World}

theorem AVR.set {a b : Array Value} (h : AVR ι a b) {v v' : Value} (hv : VR ι v v') (k : Nat) : AVR ι (a.setIfInBounds k v) (b.setIfInBounds k v') := by
  refine ⟨by simp [h.1], fun j u u' hu hu' => ?_⟩
  rw [Array.getElem?_setIfInBounds] at hu hu'
  split at hu
  · rename_i e
    rw [if_pos e] at hu'
    split at hu
    · split at hu'
      · cases hu; cases hu'; exact hv
      · cases hu'
    · cases hu
  · rename_i e
    rw [if_neg e] at hu'
    exact h.2 j u u' hu hu'

theorem fold_avr (off : Nat) : ∀ {l l' : List Value}, LVR ι l l' → ∀ (n : Nat) {a b : Array Value}, AVR ι a b →
    AVR ι ((l.zipIdx n).foldl (fun cs (c, j) => cs.setIfInBounds (off + j) c) a) ((l'.zipIdx n).foldl (fun cs (c, j) => cs.setIfInBounds (off + j) c) b) := by
  intro l l' h
  induction h with
  | nil => intro n a b h; exact h
  | cons hv _ ih => intro n a b h; simp only [List.zipIdx_cons, List.foldl_cons]; exact ih (n + 1) (h.set hv _)

theorem fold_avr' {v v' : Value} (hv : VR ι v v') (off : Nat) {a b : Array Value} (h : AVR ι a b) :
    AVR ι (v.cells.zipIdx.foldl (fun cs (c, j) => cs.setIfInBounds (off + j) c) a) (v'.cells.zipIdx.foldl (fun cs (c, j) => cs.setIfInBounds (off + j) c) b) := by
  rw [← Array.foldl_toList, ← Array.foldl_toList, Array.toList_zipIdx, Array.toList_zipIdx]
  exact fold_avr off hv.cells.lvr 0 h

/-- The parts of a literal: where each goes, and what it is. -/
inductive PartsR (ι : Inj) (place : Nat → Option (Nat × Nat)) : List ((Nat × Nat) × Value) → List (Nat × Value) → Prop
  | nil : PartsR ι place [] []
  | cons {p : Nat × Nat} {i : Nat} {v v' : Value} {l l'} : place i = some p → VR ι v v' → PartsR ι place l l' → PartsR ι place ((p, v) :: l) ((i, v') :: l')

theorem fill_sound {place : Nat → Option (Nat × Nat)} {l : List ((Nat × Nat) × Value)} {l' : List (Nat × Value)} (h : PartsR ι place l l') :
    ∀ {a b : Array Value}, AVR ι a b → ∀ {cs : Array Value}, fillIn a l = some cs → ∃ cs', Instr.fill place b l' = some cs' ∧ AVR ι cs cs' := by
  induction h with
  | nil => intro a b hab cs h; simp [fillIn] at h; subst h; exact ⟨b, rfl, hab⟩
  | @cons p i v v' l l' hp hv _ ih =>
    intro a b hab cs h
    obtain ⟨off, size⟩ := p
    simp only [fillIn] at h
    split at h
    · cases h
    · rename_i hc
      obtain ⟨cs', h1, h2⟩ := ih (fold_avr' hv off hab) h
      refine ⟨cs', ?_, h2⟩
      simp only [Instr.fill, hp]
      rw [← hv.cells.1, ← hab.1, if_neg hc]
      exact h1

theorem AVR.refl_closed {c : Array Value} {d : Nat} (h : c.toList.all (closedIn d) = true) : AVR ι c c := by
  refine ⟨rfl, fun k v v' hv hv' => ?_⟩
  rw [hv] at hv'; cases hv'
  rw [List.all_eq_true] at h
  exact closedIn_vr ι d v (h v (Array.mem_toList_iff.2 (Array.mem_of_getElem? hv)))

theorem mapM_sizes (fields : List Field) (hf : ∀ f ∈ fields, (P.info? f.type).isSome = true) (w : World) :
    (fields.mapM (m := Sem) fun f => do pure (f.offset, ← sizeOf f.type)).run P w = .ok (fields.map fun f => (f.offset, P.cellsOf f.type)) w := by
  induction fields with
  | nil => rfl
  | cons f r ih =>
    obtain ⟨i, hi⟩ := Option.isSome_iff_exists.1 (hf f (by simp))
    have := ih (fun g hg => hf g (by simp [hg]))
    simp only [List.mapM_cons, Sem.run_bind, run_sizeOf_of hi, Result.andThen_ok, Sem.run_pure, this, List.map_cons, Program.cellsOf, hi, Option.map_some, Option.getD_some]

/-- A struct's literal. -/
theorem build_struct {t : TypeId} {fields : Array Field} {ti : TypeInfo} {z : Value} (hu : P.underlying t = some (.struct fields)) (hi : P.info? t = some ti) (hz : ti.zero = some z)
    (hf : ∀ f ∈ fields.toList, (P.info? f.type).isSome = true) (hcl : z.cells.toList.all (closedIn 4) = true)
    {l : List ((Nat × Nat) × Value)} {l' : List (Nat × Value)} (hp : PartsR ι (fun i => (fields[i]?).map fun f => (f.offset, P.cellsOf f.type)) l l') {cs : Array Value} (h : fillIn z.cells l = some cs) :
    ∃ v', (Instr.build t l'.toArray).run P w = .ok v' w ∧ VR ι (.agg cs) v' := by
  have hm : (fields.mapM (m := Sem) fun f => do pure (f.offset, ← sizeOf f.type)).run P w = .ok (fields.map fun f => (f.offset, P.cellsOf f.type)) w := by
    have e : fields.mapM (m := Sem) (fun f => do pure (f.offset, ← sizeOf f.type)) = List.toArray <$> fields.toList.mapM (m := Sem) (fun f => do pure (f.offset, ← sizeOf f.type)) := by
      rw [Array.mapM_eq_mapM_toList]
    rw [e, Sem.run_map, mapM_sizes _ hf]
    simp only [Result.andThen_ok]
    congr 1
    apply Array.ext'
    simp
  have hplace : (fun (i : Nat) => (fields.map fun (f : Field) => (f.offset, P.cellsOf f.type))[i]?) = fun (i : Nat) => (fields[i]?).map fun (f : Field) => (f.offset, P.cellsOf f.type) := by
    funext i; simp
  obtain ⟨cs', h1, h2⟩ := fill_sound hp (AVR.refl_closed hcl) h
  refine ⟨.agg cs', ?_, .agg _ _ h2.1 h2.2⟩
  simp only [Instr.build, Sem.run_bind, run_zeroValue_of hi hz, Result.andThen_ok, run_underlying hu, hm]
  simp only [hplace, h1, Sem.run_pure]

/-- An array's literal. -/
theorem build_array {t e : TypeId} {n : Nat} {ti ei : TypeInfo} {z : Value} (hu : P.underlying t = some (.array n e)) (hi : P.info? t = some ti) (hz : ti.zero = some z) (he : P.info? e = some ei)
    (hcl : z.cells.toList.all (closedIn 4) = true)
    {l : List ((Nat × Nat) × Value)} {l' : List (Nat × Value)} (hp : PartsR ι (fun i => some (i * ei.size, ei.size)) l l') {cs : Array Value} (h : fillIn z.cells l = some cs) :
    ∃ v', (Instr.build t l'.toArray).run P w = .ok v' w ∧ VR ι (.agg cs) v' := by
  obtain ⟨cs', h1, h2⟩ := fill_sound hp (AVR.refl_closed hcl) h
  refine ⟨.agg cs', ?_, .agg _ _ h2.1 h2.2⟩
  simp only [Instr.build, Sem.run_bind, run_zeroValue_of hi hz, Result.andThen_ok, run_underlying hu, run_sizeOf_of he]
  simp [h1]

theorem sl_put {c' : Array Value} {n esz : Nat} (h : n * esz = c'.size) (i : Nat) (b cap : Nat) (hcap : cap = n) (c : Nat) :
    VR (ι.put i ⟨b, 0, c'.size, esz⟩) (.slice (some ⟨i, 0, none⟩) n c) (.slice (some ⟨b, 0, none⟩) n cap) := by
  have := VR.sl (ι := ι.put i ⟨b, 0, c'.size, esz⟩) (off := 0) (len := n) (cap := cap) (c := c) (Inj.put_same ι i ⟨b, 0, c'.size, esz⟩) (by omega) (by subst hcap; simp; omega)
  simpa using this

theorem size_repeat (z : Array Value) (n : Nat) : (repeatCells z n).size = n := by simp [repeatCells]

theorem closed_repeat {z : Array Value} (h : z.toList.all (closedIn 4) = true) (n : Nat) (h0 : n = 0 ∨ 0 < z.size) : (repeatCells z n).toList.all (closedIn 4) = true := by
  rw [List.all_eq_true]
  intro v hv
  simp only [repeatCells, Array.toList_map, List.mem_map] at hv
  obtain ⟨k, hk, rfl⟩ := hv
  have hz : 0 < z.size := by
    rcases h0 with h0 | h0
    · subst h0; simp at hk
    · exact h0
  rw [List.all_eq_true] at h
  have hlt : k % z.size < z.size := Nat.mod_lt _ hz
  simp only [getElem!_pos z (k % z.size) hlt]
  exact h _ (Array.mem_toList_iff.2 (Array.getElem_mem _))

/-- A slice's literal. -/
theorem buildSlice_sound (hr : Rel G ι H w) {t e : TypeId} {ei : TypeInfo} {z : Value} (hu : P.underlying t = some (.slice e)) (he : P.info? e = some ei) (hz : ei.zero = some z)
    (hcl : z.cells.toList.all (closedIn 4) = true) (hzs : z.cells.size = ei.size) {len : Nat} (hbig : len * ei.size ≤ 2 ^ 24)
    {l : List ((Nat × Nat) × Value)} {l' : List (Nat × Value)} (hp : PartsR ι (fun i => some (i * ei.size, ei.size)) l l') {cs : Array Value} (h : fillIn (repeatCells z.cells (len * ei.size)) l = some cs) :
    ∃ v' w' ι', (Instr.buildSlice t len l'.toArray).run P w = .ok v' w' ∧ Post G ι H w ι' (H.new ⟨cs.toList, ei.size⟩) w' ∧ VR ι' (.slice (some ⟨H.next, 0, none⟩) len len) v' := by
  have size_fill : ∀ (l : List ((Nat × Nat) × Value)) (a b : Array Value), fillIn a l = some b → b.size = a.size := by
    intro l
    induction l with
    | nil => intro a b h; simp [fillIn] at h; rw [h]
    | cons p r ih =>
      intro a b h
      obtain ⟨⟨off, size⟩, v⟩ := p
      simp only [fillIn] at h
      split at h
      · cases h
      · rw [ih _ _ h]
        have key : ∀ (q : List (Value × Nat)) (a : Array Value), (q.foldl (fun cs (c, j) => cs.setIfInBounds (off + j) c) a).size = a.size := by
          intro q
          induction q with
          | nil => intro a; rfl
          | cons x q ihq => intro a; simp only [List.foldl_cons]; rw [ihq]; simp
        rw [← Array.foldl_toList]
        exact key _ _
  obtain ⟨cs', h1, h2⟩ := fill_sound hp (AVR.refl_closed (closed_repeat hcl (len * ei.size) (by
    rcases Nat.eq_zero_or_pos (len * ei.size) with h | h
    · exact .inl h
    · exact .inr (by rw [hzs]; exact Nat.pos_of_mul_pos_left h)))) h
  have hsz : cs'.size = len * ei.size := by rw [← h2.1, size_fill _ _ _ h, size_repeat]
  obtain ⟨g1, g2, _⟩ := new_row (P := P) hr e ei.size h2
  refine ⟨.slice (some ⟨w.heap.size, 0, none⟩) len len, _, _, ?_, g2, sl_put hsz.symm _ _ _ rfl _⟩
  have hn : ¬ (len * ei.size > 2 ^ 24) := by omega
  simp only [Instr.buildSlice, Sem.run_bind, run_underlying hu, Result.andThen_ok, run_sizeOf_of he, if_neg hn]
  by_cases h0 : len * ei.size = 0
  · have harr : (Array.range (len * ei.size)).map ((#[] : Array Value)[· % (#[] : Array Value).size]!) = repeatCells z.cells (len * ei.size) := by
      simp [h0, repeatCells]
    rw [if_pos h0]
    simp only [Sem.run_bind, Sem.run_pure, Result.andThen_ok, harr, h1, g1]
  · rw [if_neg h0]
    have harr : (Array.range (len * ei.size)).map (z.cells[· % z.cells.size]!) = repeatCells z.cells (len * ei.size) := rfl
    simp only [Sem.run_bind, Sem.run_pure, Result.andThen_ok, run_zeroValue_of he hz, harr, h1, g1]

end
end Go.Ab
