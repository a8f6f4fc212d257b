/- A table of abstract functions, and the heap that holds the one table of the library. -/
import Derived.Test.YtebmnnbjfjadaaaGreatDoorFp
import Derived.KernelRfl
import Derived.Below
namespace Go.Ab
open Go Go.RowKit

def tblFind : List (Nat × AFn) → Nat → Option AFn
  | [], _ => none
  | (k, v) :: r, n => if k = n then some v else tblFind r n

def allOk (P : Program) (gl : Nat) : List (Nat × AFn) → Prop
  | [] => True
  | p :: r => chkFn P gl p.1 p.2 = true ∧ allOk P gl r

theorem tblFind_ok {P : Program} {gl : Nat} : ∀ {l : List (Nat × AFn)}, allOk P gl l → ∀ f fn, tblFind l f = some fn → chkFn P gl f fn = true
  | [], _, _, _, h => by cases h
  | (k, v) :: r, h, f, fn, hf => by
    unfold tblFind at hf
    split at hf
    · rename_i hk; subst hk; cases hf; exact h.1
    · exact tblFind_ok h.2 f fn hf

def tabCells : List Value := [0, 1, 56, 2, 57, 49, 28, 3, 61, 58, 42, 50, 38, 29, 17, 4, 62, 47, 59, 36, 45, 43, 51, 22, 53, 39, 33, 30, 24, 18, 12, 5, 63, 55, 48, 27, 60, 41, 37, 16, 46, 35, 44, 21, 52, 32, 23, 11, 54, 26, 40, 15, 34, 20, 31, 10, 25, 14, 19, 9, 13, 8, 7, 6].map (Value.int .u8 ·)

/-- The world begins with the library's table. -/
def G1 : Glob where
  n := 1
  S w := ∃ t fz, w.heap[0]? = some (.cells tabCells.toArray t fz)
  st w w' h hb := by obtain ⟨t, fz, h⟩ := h; exact ⟨t, fz, by rw [hb 0 (by omega)]; exact h⟩

/-- The heap that holds the table alone. -/
def H1 : AHeap := ⟨Tr.put (key 0) .nil (some ⟨tabCells, 1⟩), 1, 1⟩
def ι1 : Inj := fun i => if i = 0 then some ⟨0, 0, 64, 1⟩ else none

theorem H1_get (i : Nat) (o : AObj) (h : H1.get i = some o) : i = 0 ∧ o = ⟨tabCells, 1⟩ := by
  have hi := AHeap.get_lt h
  have : i = 0 := by simp [H1] at hi; omega
  subst this
  refine ⟨rfl, ?_⟩
  have : H1.get 0 = some ⟨tabCells, 1⟩ := by kernel_rfl
  rw [this] at h; cases h; rfl

theorem tab_closed : ∀ v ∈ tabCells, closedIn 0 v = true := by
  intro v hv
  simp only [tabCells, List.mem_map] at hv
  obtain ⟨n, _, rfl⟩ := hv
  rfl

theorem rel1 {w : World} (h : G1.S w) : Rel G1 ι1 H1 w := by
  obtain ⟨t, fz, hw⟩ := h
  have hsz : 0 < w.heap.size := by
    rcases Nat.eq_zero_or_pos w.heap.size with e | e
    · rw [Array.getElem?_eq_none (by omega)] at hw; cases hw
    · exact e
  refine ⟨?_, ?_, ?_, Nat.le_refl _, ?_, ?_, ⟨t, fz, hw⟩⟩
  · intro i o ho
    obtain ⟨rfl, rfl⟩ := H1_get i o ho
    refine ⟨⟨0, 0, 64, 1⟩, tabCells.toArray, t, fz, rfl, rfl, hw, rfl, Nat.le_refl _, ?_, fun h => absurd h (by decide)⟩
    intro k v hv
    refine ⟨v, ?_, closedIn_vr _ 0 v (tab_closed v (List.mem_of_getElem? hv))⟩
    rw [Nat.zero_add, List.getElem?_toArray]; exact hv
  · intro i e he
    unfold ι1 at he
    split at he
    · cases he; subst_vars; exact ⟨by decide, hsz⟩
    · cases he
  · intro i j e f o p hi hj _ _ _ hne
    exact absurd ((H1_get i o hi).1.trans (H1_get j p hj).1.symm) hne
  · intro g hg
    have : g = 0 := by simp [G1] at hg; omega
    subst this
    exact ⟨_, rfl, rfl, rfl⟩
  · intro i e o hlo ho _
    obtain ⟨rfl, _⟩ := H1_get i o ho
    exact absurd hlo (by decide)

theorem lvr_closed (ι : Inj) : ∀ vs : List Value, vs.all (closedIn 0) = true → LVR ι vs vs
  | [], _ => .nil
  | v :: r, h => by
    simp only [List.all_cons, Bool.and_eq_true] at h
    exact .cons (closedIn_vr ι 0 v h.1) (lvr_closed ι r h.2)

/-- Nothing that lay has turned. -/
theorem Post.below {G : Glob} {ι : Inj} {H : AHeap} {w w' : World} (h : Rel G ι H w) (hb : Below w.heap.size w w') (hG : G.n ≤ w.heap.size) : Post G ι H w ι H w' := by
  refine ⟨⟨?_, fun i e he => ?_, h.sep, h.lo, h.glb, h.top, G.st w w' h.env fun b hbn => hb.block b (by omega)⟩, ι.le_refl, rfl, Nat.le_refl _, hb.size, fun b hbn _ => hb.block b hbn, fun i e o hi ho he => .inr ⟨i, e, o, hi, ho, he, rfl⟩, hb.os, hb.output, hb.tape⟩
  · intro i o ho
    obtain ⟨e, c, t, fz, h1, h2, h3, h4⟩ := h.obj i o ho
    exact ⟨e, c, t, fz, h1, h2, (hb.block _ (h.ent i e h1).2).trans h3, h4⟩
  · have := h.ent i e he
    exact ⟨this.1, Nat.lt_of_lt_of_le this.2 hb.size⟩

/-- A block that was not there is told by a new object. -/
theorem Post.fresh {G : Glob} {ι : Inj} {H : AHeap} {w w' : World} (h : Rel G ι H w) (hb : Below w.heap.size w w') (hG : G.n ≤ w.heap.size)
    {b : Nat} {c : Array Value} {t : TypeId} (hbn : w.heap.size ≤ b) (hw : w'.heap[b]? = some (.cells c t (0, 0))) (l : List Value) (esz : Nat)
    (hl : l.length ≤ c.size) (hv : ∀ (k : Nat) v, l[k]? = some v → ∃ v', c[k]? = some v' ∧ VR ι v v') :
    Post G ι H w (ι.put H.next ⟨b, 0, c.size, esz⟩) (H.new ⟨l, esz⟩) w' := by
  have hle : ι.le (ι.put H.next ⟨b, 0, c.size, esz⟩) := Inj.le_put h _
  have hbs : b < w'.heap.size := (Array.getElem?_eq_some_iff.1 hw).1
  refine ⟨⟨?_, ?_, ?_, ?_, fun g hg => ?_, fun i e o hi ho he => ?_, G.st w _ h.env fun b hb' => hb.block b (by omega)⟩, hle, rfl, by simp [AHeap.new], hb.size, fun k hk _ => hb.block k hk, ?_, hb.os, hb.output, hb.tape⟩
  case refine_6 =>
    rw [AHeap.get_new] at ho
    by_cases h1 : i = H.next
    · subst h1; rw [Inj.put_same] at he; cases he; exact Nat.le_trans hG hbn
    · rw [if_neg h1] at ho; rw [Inj.put_ne _ _ h1] at he; exact h.top i e o hi ho he
  case refine_5 => obtain ⟨e, he, h1, h2⟩ := h.glb g hg; exact ⟨e, hle _ _ he, h1, h2⟩
  · intro i o ho
    rw [AHeap.get_new] at ho
    split at ho
    · rename_i e
      cases ho
      refine ⟨_, c, t, (0, 0), by rw [e, Inj.put_same], rfl, hw, rfl, by simpa using hl, ?_, fun _ => rfl⟩
      intro k v hk
      obtain ⟨v', hv', hr⟩ := hv k v hk
      exact ⟨v', by simpa using hv', hr.mono hle⟩
    · rename_i hne
      obtain ⟨e, c', t', fz, h1, h2, h3, h4, h5, h6, h7⟩ := h.obj i o ho
      refine ⟨e, c', t', fz, by rw [Inj.put_ne _ _ hne]; exact h1, h2, (hb.block _ (h.ent i e h1).2).trans h3, h4, h5, ?_, h7⟩
      intro k v hk
      obtain ⟨v', hv', hr⟩ := h6 k v hk
      exact ⟨v', hv', hr.mono hle⟩
  · intro i e he
    by_cases hi : i = H.next
    · subst hi; rw [Inj.put_same] at he; cases he; exact ⟨by simp [AHeap.new], hbs⟩
    · rw [Inj.put_ne _ _ hi] at he
      have := h.ent i e he
      exact ⟨by simp [AHeap.new]; omega, Nat.lt_of_lt_of_le this.2 hb.size⟩
  · intro i j e f o p ho hp he hf hi hij
    rw [AHeap.get_new] at ho hp
    by_cases h1 : i = H.next
    · subst h1
      rw [Inj.put_same] at he; cases he
      have hj : j ≠ H.next := fun x => hij x.symm
      rw [Inj.put_ne _ _ hj] at hf
      have := (h.ent j f hf).2
      intro hx
      simp only at hx
      omega
    · rw [Inj.put_ne _ _ h1] at he
      rw [if_neg h1] at ho
      by_cases h2 : j = H.next
      · subst h2
        rw [Inj.put_same] at hf; cases hf
        have := (h.ent i e he).2
        intro hx
        simp only at hx
        omega
      · rw [Inj.put_ne _ _ h2] at hf
        rw [if_neg h2] at hp
        exact h.sep i j e f o p ho hp he hf hi hij
  · have := h.lo
    simp [AHeap.new]; omega
  · intro i e o hi ho he
    by_cases h1 : i = H.next
    · subst h1; rw [Inj.put_same] at he; cases he; exact .inl hbn
    · rw [Inj.put_ne _ _ h1] at he
      rw [AHeap.get_new, if_neg h1] at ho
      exact .inr ⟨i, e, o, hi, ho, he, rfl⟩
end Go.Ab
