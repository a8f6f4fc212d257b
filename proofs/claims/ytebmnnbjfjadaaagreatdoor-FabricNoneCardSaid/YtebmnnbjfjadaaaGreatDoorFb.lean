/- How an abstract heap tells a world: the relation, and what keeps it. -/
import Derived.Test.YtebmnnbjfjadaaaGreatDoorFa
namespace Go.Ab
open Go

structure Ent where
  blk : Nat
  base : Nat
  size : Nat
  esz : Nat

abbrev Inj := Nat → Option Ent

inductive VR (ι : Inj) : Value → Value → Prop
  | bool (b : Bool) : VR ι (.bool b) (.bool b)
  | int (k : IntKind) (n : Int) : VR ι (.int k n) (.int k n)
  | float (k : FloatKind) (n : Nat) : VR ι (.float k n) (.float k n)
  | complex (k : FloatKind) (a b : Nat) : VR ι (.complex k a b) (.complex k a b)
  | string (s : ByteArray) : VR ι (.string s) (.string s)
  | ptrNil : VR ι (.pointer none) (.pointer none)
  | ptr {i off : Nat} {e : Ent} : ι i = some e → VR ι (.pointer (some ⟨i, off, none⟩)) (.pointer (some ⟨e.blk, e.base + off, none⟩))
  | slNil : VR ι (.slice none 0 0) (.slice none 0 0)
  | sl {i off len cap c : Nat} {e : Ent} : ι i = some e → len ≤ cap → e.base + off + cap * e.esz ≤ e.size →
      VR ι (.slice (some ⟨i, off, none⟩) len c) (.slice (some ⟨e.blk, e.base + off, none⟩) len cap)
  | slE {i off c : Nat} {a' : Addr} : VR ι (.slice (some ⟨i, off, none⟩) 0 c) (.slice (some a') 0 0)
  | mapNil : VR ι (.map none) (.map none)
  | chanNil : VR ι (.chan none) (.chan none)
  | nilFunc : VR ι .nilFunc .nilFunc
  | nilIface : VR ι .nilIface .nilIface
  | func (fn : Fn) (f c f' c' : Array Value) : f.size = f'.size → (∀ (k : Nat) v v', f[k]? = some v → f'[k]? = some v' → VR ι v v') →
      c.size = c'.size → (∀ (k : Nat) v v', c[k]? = some v → c'[k]? = some v' → VR ι v v') → VR ι (.func fn f c) (.func fn f' c')
  | iface (t : TypeId) (v v' : Value) : VR ι v v' → VR ι (.iface t v) (.iface t v')
  | agg (c c' : Array Value) : c.size = c'.size → (∀ (k : Nat) v v', c[k]? = some v → c'[k]? = some v' → VR ι v v') → VR ι (.agg c) (.agg c')
  | tuple (c c' : Array Value) : c.size = c'.size → (∀ (k : Nat) v v', c[k]? = some v → c'[k]? = some v' → VR ι v v') → VR ι (.tuple c) (.tuple c')

/-- Two rows of values, one by one. -/
def AVR (ι : Inj) (a b : Array Value) : Prop := a.size = b.size ∧ ∀ (k : Nat) v v', a[k]? = some v → b[k]? = some v' → VR ι v v'

def Inj.le (ι ι' : Inj) : Prop := ∀ i e, ι i = some e → ι' i = some e

theorem Inj.le_refl (ι : Inj) : ι.le ι := fun _ _ h => h
theorem Inj.le_trans {a b c : Inj} (h : a.le b) (h' : b.le c) : a.le c := fun i e x => h' i e (h i e x)

theorem VR.mono {ι ι' : Inj} (hl : ι.le ι') {v v' : Value} (h : VR ι v v') : VR ι' v v' := by
  induction h with
  | bool b => exact .bool b
  | int k n => exact .int k n
  | float k n => exact .float k n
  | complex k a b => exact .complex k a b
  | string s => exact .string s
  | ptrNil => exact .ptrNil
  | ptr h => exact .ptr (hl _ _ h)
  | slNil => exact .slNil
  | sl h h1 h2 => exact .sl (hl _ _ h) h1 h2
  | slE => exact .slE
  | mapNil => exact .mapNil
  | chanNil => exact .chanNil
  | nilFunc => exact .nilFunc
  | nilIface => exact .nilIface
  | func fn f c f' c' h1 _ h3 _ i1 i2 => exact .func fn f c f' c' h1 (fun k v v' a b => i1 k v v' a b) h3 (fun k v v' a b => i2 k v v' a b)
  | iface t v v' _ ih => exact .iface t v v' ih
  | agg c c' h _ ih => exact .agg c c' h (fun k v v' a b => ih k v v' a b)
  | tuple c c' h _ ih => exact .tuple c c' h (fun k v v' a b => ih k v v' a b)

theorem AVR.mono {ι ι' : Inj} (hl : ι.le ι') {a b : Array Value} (h : AVR ι a b) : AVR ι' a b :=
  ⟨h.1, fun k v v' x y => (h.2 k v v' x y).mono hl⟩

theorem AVR.get {ι : Inj} {a b : Array Value} (h : AVR ι a b) {k : Nat} {v : Value} (hv : a[k]? = some v) : ∃ v', b[k]? = some v' ∧ VR ι v v' := by
  have hk : k < a.size := by
    rcases Nat.lt_or_ge k a.size with h | h
    · exact h
    · rw [Array.getElem?_eq_none h] at hv; cases hv
  have hk' : k < b.size := h.1 ▸ hk
  exact ⟨b[k], Array.getElem?_eq_getElem hk', h.2 k v _ hv (Array.getElem?_eq_getElem hk')⟩

/-- A value without addresses is told by itself alone. -/
def closedIn : Nat → Value → Bool
  | _, .bool _ | _, .int .. | _, .float .. | _, .complex .. | _, .string _ | _, .pointer none | _, .slice none 0 0 | _, .map none | _, .chan none | _, .nilFunc | _, .nilIface => true
  | 0, _ => false
  | d + 1, .iface _ v => closedIn d v
  | d + 1, .func _ f c => f.toList.all (closedIn d) && c.toList.all (closedIn d)
  | d + 1, .agg c => c.toList.all (closedIn d)
  | d + 1, .tuple c => c.toList.all (closedIn d)
  | _, _ => false

theorem closedIn_vr (ι : Inj) : ∀ d v, closedIn d v = true → VR ι v v := by
  have row : ∀ d (c : Array Value), (∀ v, closedIn d v = true → VR ι v v) → c.toList.all (closedIn d) = true →
      ∀ (k : Nat) v v', c[k]? = some v → c[k]? = some v' → VR ι v v' := by
    intro d c ih hc k v v' hv hv'
    rw [hv] at hv'; cases hv'
    refine ih v ?_
    rw [List.all_eq_true] at hc
    exact hc v (Array.mem_toList_iff.2 (Array.mem_of_getElem? hv))
  intro d
  induction d with
  | zero =>
    intro v h
    cases v <;> try (first | exact .bool _ | exact .int _ _ | exact .float _ _ | exact .complex _ _ _ | exact .string _ | exact .nilFunc | exact .nilIface)
    case pointer a => cases a <;> simp [closedIn] at h; exact .ptrNil
    case slice a l c =>
      cases a <;> cases l <;> cases c <;> simp [closedIn] at h
      exact .slNil
    case map a => cases a <;> simp [closedIn] at h; exact .mapNil
    case chan a => cases a <;> simp [closedIn] at h; exact .chanNil
    all_goals simp [closedIn] at h
  | succ d ih =>
    intro v h
    cases v <;> try (first | exact .bool _ | exact .int _ _ | exact .float _ _ | exact .complex _ _ _ | exact .string _ | exact .nilFunc | exact .nilIface)
    case pointer a => cases a <;> simp [closedIn] at h; exact .ptrNil
    case slice a l c =>
      cases a <;> cases l <;> cases c <;> simp [closedIn] at h
      exact .slNil
    case map a => cases a <;> simp [closedIn] at h; exact .mapNil
    case chan a => cases a <;> simp [closedIn] at h; exact .chanNil
    case iface t v => simp only [closedIn] at h; exact .iface _ _ _ (ih _ h)
    case func fn f c =>
      simp only [closedIn, Bool.and_eq_true] at h
      exact .func _ _ _ _ _ rfl (row d f ih h.1) rfl (row d c ih h.2)
    case agg c => simp only [closedIn] at h; exact .agg _ _ rfl (row d c ih h)
    case tuple c => simp only [closedIn] at h; exact .tuple _ _ rfl (row d c ih h)

theorem closedIn_eq {ι : Inj} : ∀ d v v', closedIn d v = true → VR ι v v' → v' = v := by
  have row : ∀ d (c c' : Array Value), (∀ v v', closedIn d v = true → VR ι v v' → v' = v) → c.toList.all (closedIn d) = true → c.size = c'.size →
      (∀ (k : Nat) v v', c[k]? = some v → c'[k]? = some v' → VR ι v v') → c' = c := by
    intro d c c' ih hc hs h
    apply Array.ext hs.symm
    intro k hk hk'
    refine ih _ _ ?_ (h k c[k] c'[k] (Array.getElem?_eq_getElem _) (Array.getElem?_eq_getElem _))
    rw [List.all_eq_true] at hc
    exact hc _ (Array.mem_toList_iff.2 (Array.getElem_mem _))
  intro d
  induction d with
  | zero =>
    intro v v' h hv
    cases hv <;> first | rfl | simp [closedIn] at h
  | succ d ih =>
    intro v v' h hv
    cases hv <;> try rfl
    case ptr => simp [closedIn] at h
    case sl => simp [closedIn] at h
    case slE => simp [closedIn] at h
    case iface t v v' hv => simp only [closedIn] at h; rw [ih _ _ h hv]
    case func fn f c f' c' h1 h2 h3 h4 =>
      simp only [closedIn, Bool.and_eq_true] at h
      rw [row d f f' ih h.1 h1 h2, row d c c' ih h.2 h3 h4]
    case agg c c' h1 h2 => simp only [closedIn] at h; rw [row d c c' ih h h1 h2]
    case tuple c c' h1 h2 => simp only [closedIn] at h; rw [row d c c' ih h h1 h2]

/-- The first blocks, which nobody writes, and what holds of them. -/
structure Glob where
  n : Nat
  S : World → Prop
  st : ∀ w w' : World, S w → (∀ b, b < n → w'.heap[b]? = w.heap[b]?) → S w'

structure Rel (G : Glob) (ι : Inj) (H : AHeap) (w : World) : Prop where
  obj : ∀ i o, H.get i = some o → ∃ e c t fz, ι i = some e ∧ e.esz = o.esz ∧ w.heap[e.blk]? = some (.cells c t fz) ∧ c.size = e.size ∧
    e.base + o.cells.length ≤ e.size ∧ (∀ (k : Nat) v, o.cells[k]? = some v → ∃ v', c[e.base + k]? = some v' ∧ VR ι v v') ∧ (H.lo ≤ i → fz = (0, 0))
  ent : ∀ i e, ι i = some e → i < H.next ∧ e.blk < w.heap.size
  sep : ∀ i j e f o p, H.get i = some o → H.get j = some p → ι i = some e → ι j = some f → H.lo ≤ i → i ≠ j → e.blk ≠ f.blk
  lo : H.lo ≤ H.next
  glb : ∀ g, g < G.n → ∃ e, ι g = some e ∧ e.blk = g ∧ e.base = 0
  top : ∀ i e o, H.lo ≤ i → H.get i = some o → ι i = some e → G.n ≤ e.blk
  env : G.S w

structure Post (G : Glob) (ι : Inj) (H : AHeap) (w : World) (ι' : Inj) (H' : AHeap) (w' : World) : Prop where
  rel : Rel G ι' H' w'
  ext : ι.le ι'
  lo : H'.lo = H.lo
  next : H.next ≤ H'.next
  size : w.heap.size ≤ w'.heap.size
  frame : ∀ b, b < w.heap.size → (∀ i e o, H.lo ≤ i → H.get i = some o → ι i = some e → e.blk ≠ b) → w'.heap[b]? = w.heap[b]?
  own : ∀ i e o, H.lo ≤ i → H'.get i = some o → ι' i = some e → w.heap.size ≤ e.blk ∨ ∃ j f p, H.lo ≤ j ∧ H.get j = some p ∧ ι j = some f ∧ f.blk = e.blk
  os : w'.os = w.os
  out : w'.output = w.output
  tape : w'.tape = w.tape

theorem Post.refl {G : Glob} {ι : Inj} {H : AHeap} {w : World} (h : Rel G ι H w) : Post G ι H w ι H w :=
  ⟨h, ι.le_refl, rfl, Nat.le_refl _, Nat.le_refl _, fun _ _ _ => rfl, fun i e o hi ho he => .inr ⟨i, e, o, hi, ho, he, rfl⟩, rfl, rfl, rfl⟩

theorem Post.trans {G : Glob} {ι ι₁ ι₂ : Inj} {H H₁ H₂ : AHeap} {w w₁ w₂ : World} (h : Post G ι H w ι₁ H₁ w₁) (h' : Post G ι₁ H₁ w₁ ι₂ H₂ w₂) : Post G ι H w ι₂ H₂ w₂ where
  rel := h'.rel
  ext := Inj.le_trans h.ext h'.ext
  lo := h'.lo.trans h.lo
  next := Nat.le_trans h.next h'.next
  size := Nat.le_trans h.size h'.size
  frame b hb hn := by
    rw [h'.frame b (Nat.lt_of_lt_of_le hb h.size) ?_, h.frame b hb hn]
    intro i e o hi ho he heb
    rcases h.own i e o (h.lo ▸ hi) ho he with hx | ⟨j, f, p, hj, hp, hf, hfe⟩
    · omega
    · exact hn j f p hj hp hf (hfe.trans heb)
  own i e o hi ho he := by
    rcases h'.own i e o (h.lo ▸ hi) ho he with hx | ⟨j, f, p, hj, hp, hf, hfe⟩
    · exact .inl (Nat.le_trans h.size hx)
    · rcases h.own j f p (h.lo ▸ hj) hp hf with hx | ⟨j', f', p', h1, h2, h3, h4⟩
      · exact .inl (hfe ▸ hx)
      · exact .inr ⟨j', f', p', h1, h2, h3, h4.trans hfe⟩
  os := h'.os.trans h.os
  out := h'.out.trans h.out
  tape := h'.tape.trans h.tape

/-- A world that differs in its draws alone. -/
theorem Post.drew {G : Glob} {ι : Inj} {H : AHeap} {w : World} (h : Rel G ι H w) (n : Nat) : Post G ι H w ι H { w with drawn := n } :=
  ⟨⟨h.obj, h.ent, h.sep, h.lo, h.glb, h.top, G.st w _ h.env (fun _ _ => rfl)⟩, ι.le_refl, rfl, Nat.le_refl _, Nat.le_refl _, fun _ _ _ => rfl, fun i e o hi ho he => .inr ⟨i, e, o, hi, ho, he, rfl⟩, rfl, rfl, rfl⟩

def Inj.put (ι : Inj) (i : Nat) (e : Ent) : Inj := fun j => if j = i then some e else ι j
theorem Inj.put_same (ι : Inj) (i : Nat) (e : Ent) : ι.put i e i = some e := by simp [Inj.put]
theorem Inj.put_ne (ι : Inj) {i j : Nat} (e : Ent) (h : j ≠ i) : ι.put i e j = ι j := by simp [Inj.put, h]
theorem Inj.le_put {G : Glob} {ι : Inj} {H : AHeap} {w : World} (h : Rel G ι H w) (e : Ent) : ι.le (ι.put H.next e) := fun i f hi => by
  rw [Inj.put_ne _ _ (by have := (h.ent i f hi).1; omega)]; exact hi

theorem heap_push_get {w : World} {b : Nat} {o x : Obj} (h : w.heap[b]? = some x) : (w.heap.push o)[b]? = some x := by
  have : b < w.heap.size := by
    rcases Nat.lt_or_ge b w.heap.size with h1 | h1
    · exact h1
    · rw [Array.getElem?_eq_none h1] at h; cases h
  rw [Array.getElem?_push_lt this, ← h, Array.getElem?_eq_getElem this]

/-- A new object. -/
theorem Post.new {G : Glob} {ι : Inj} {H : AHeap} {w : World} (h : Rel G ι H w) (c : Array Value) (t : TypeId) (l : List Value) (esz : Nat)
    (hl : l.length ≤ c.size) (hv : ∀ (k : Nat) v, l[k]? = some v → ∃ v', c[k]? = some v' ∧ VR ι v v') :
    Post G ι H w (ι.put H.next ⟨w.heap.size, 0, c.size, esz⟩) (H.new ⟨l, esz⟩) { w with heap := w.heap.push (.cells c t) } := by
  have hle : ι.le (ι.put H.next ⟨w.heap.size, 0, c.size, esz⟩) := Inj.le_put h _
  have hgl : G.n ≤ w.heap.size := by
    rcases Nat.lt_or_ge w.heap.size G.n with hlt | hge
    · obtain ⟨e, he, h1, _⟩ := h.glb w.heap.size hlt
      have := (h.ent _ e he).2
      omega
    · exact hge
  refine ⟨⟨?_, ?_, ?_, ?_, fun g hg => ?_, fun i e o hi ho he => ?_, G.st w _ h.env fun b hb => ?_⟩, hle, rfl, by simp, by simp, ?_, ?_, rfl, rfl, rfl⟩
  case refine_6 =>
    rw [AHeap.get_new] at ho
    by_cases h1 : i = H.next
    · subst h1; rw [Inj.put_same] at he; cases he; exact hgl
    · rw [if_neg h1] at ho; rw [Inj.put_ne _ _ h1] at he; exact h.top i e o hi ho he
  case refine_7 =>
    have hb' : b < w.heap.size := by omega
    simp only []
    rw [Array.getElem?_push_lt hb', Array.getElem?_eq_getElem hb']
  case refine_5 => obtain ⟨e, he, h1, h2⟩ := h.glb g hg; exact ⟨e, hle _ _ he, h1, h2⟩
  · intro i o ho
    rw [AHeap.get_new] at ho
    split at ho
    · rename_i e
      cases ho
      refine ⟨_, c, t, (0, 0), by rw [e, Inj.put_same], rfl, by simp, rfl, by simpa using hl, ?_, fun _ => rfl⟩
      intro k v hk
      obtain ⟨v', hv', hr⟩ := hv k v hk
      exact ⟨v', by simpa using hv', hr.mono hle⟩
    · rename_i hne
      obtain ⟨e, c', t', fz, h1, h2, h3, h4, h5, h6, h7⟩ := h.obj i o ho
      refine ⟨e, c', t', fz, by rw [Inj.put_ne _ _ hne]; exact h1, h2, heap_push_get h3, h4, h5, ?_, h7⟩
      intro k v hk
      obtain ⟨v', hv', hr⟩ := h6 k v hk
      exact ⟨v', hv', hr.mono hle⟩
  · intro i e he
    by_cases hi : i = H.next
    · subst hi; rw [Inj.put_same] at he; cases he; simp
    · rw [Inj.put_ne _ _ hi] at he
      have := h.ent i e he
      simp; omega
  · intro i j e f o p ho hp he hf hi hij
    rw [AHeap.get_new] at ho hp
    by_cases h1 : i = H.next
    · subst h1
      have h2 : j ≠ H.next := fun x => hij x.symm
      rw [Inj.put_same] at he; cases he
      rw [Inj.put_ne _ _ h2] at hf
      have := (h.ent j f hf).2
      simp; omega
    · rw [if_neg h1] at ho
      rw [Inj.put_ne _ _ h1] at he
      by_cases h2 : j = H.next
      · subst h2
        rw [Inj.put_same] at hf; cases hf
        have := (h.ent i e he).2
        simp; omega
      · rw [if_neg h2] at hp
        rw [Inj.put_ne _ _ h2] at hf
        exact h.sep i j e f o p ho hp he hf hi hij
  · have := h.lo; simp; omega
  · intro b hb _
    simp only []
    rw [Array.getElem?_push_lt hb, Array.getElem?_eq_getElem hb]
  · intro i e o hi ho he
    rw [AHeap.get_new] at ho
    by_cases h1 : i = H.next
    · subst h1; rw [Inj.put_same] at he; cases he; exact .inl (Nat.le_refl _)
    · rw [if_neg h1] at ho
      rw [Inj.put_ne _ _ h1] at he
      exact .inr ⟨i, e, o, hi, ho, he, rfl⟩

/-- A dropped object. -/
theorem Rel.del {G : Glob} {ι : Inj} {H : AHeap} {w : World} (h : Rel G ι H w) (i : Nat) : Rel G ι (H.del i) w where
  obj j o ho := by
    rw [AHeap.get_del] at ho
    split at ho
    · cases ho
    · exact h.obj j o ho
  ent := h.ent
  sep j k e f o p ho hp := by
    rw [AHeap.get_del] at ho hp
    split at ho
    · cases ho
    · split at hp
      · cases hp
      · exact h.sep j k e f o p ho hp
  lo := h.lo
  glb := h.glb
  top j e o hj ho he := by
    rw [AHeap.get_del] at ho
    split at ho
    · cases ho
    · exact h.top j e o hj ho he
  env := h.env

theorem Post.del {G : Glob} {ι ι' : Inj} {H H' : AHeap} {w w' : World} (h : Post G ι H w ι' H' w') (i : Nat) : Post G ι H w ι' (H'.del i) w' where
  rel := h.rel.del i
  ext := h.ext
  lo := h.lo
  next := h.next
  size := h.size
  frame := h.frame
  own j e o hj ho he := by
    rw [AHeap.get_del] at ho
    split at ho
    · cases ho
    · exact h.own j e o hj ho he
  os := h.os
  out := h.out
  tape := h.tape

theorem World.cell_of {w : World} {b off : Nat} {c : Array Value} {t : TypeId} {fz : Nat × Nat} (h : w.heap[b]? = some (.cells c t fz)) :
    w.cell? ⟨b, off, none⟩ = c[off]? := by
  simp [World.cell?, h]

theorem World.setCell_heap {w : World} {b off : Nat} {v : Value} {c : Array Value} {t : TypeId} {fz : Nat × Nat} (h : w.heap[b]? = some (.cells c t fz)) :
    (w.setCell ⟨b, off, none⟩ v).heap[b]? = some (.cells (c.setIfInBounds off v) t fz) := by
  simp [World.setCell, Array.getElem?_modify, h]

theorem World.setCell_heap_ne {w : World} {b off b' : Nat} {v : Value} (h : b' ≠ b) : (w.setCell ⟨b, off, none⟩ v).heap[b']? = w.heap[b']? := by
  have : ¬ b = b' := fun e => h e.symm
  simp [World.setCell, Array.getElem?_modify, this]

/-- One cell of an object that may be written. -/
theorem Post.set {G : Glob} {ι : Inj} {H : AHeap} {w : World} (h : Rel G ι H w) {i off : Nat} {o : AObj} {e : Ent} {v v' : Value}
    (ho : H.get i = some o) (he : ι i = some e) (hlo : H.lo ≤ i) (hoff : off < o.cells.length) (hv : VR ι v v') :
    Post G ι H w ι (H.set i { o with cells := o.cells.set off v }) (w.setCell ⟨e.blk, e.base + off, none⟩ v') := by
  have hin : i < H.next := AHeap.get_lt ho
  obtain ⟨e', c, t, fz, h1, h2, h3, h4, h5, h6, h7⟩ := h.obj i o ho
  rw [he] at h1; cases h1
  have hsz : (w.setCell ⟨e.blk, e.base + off, none⟩ v').heap.size = w.heap.size := by simp [World.setCell]
  refine ⟨⟨?_, ?_, ?_, ?_, h.glb, fun j f p hj hp hf => ?_, G.st w _ h.env fun b hb => World.setCell_heap_ne (fun x => ?_)⟩, ι.le_refl, rfl, by simp, by rw [hsz]; exact Nat.le_refl _, ?_, ?_, rfl, rfl, rfl⟩
  case refine_5 =>
    rw [AHeap.get_set] at hp
    split at hp
    · rename_i x; rw [x.1, he] at hf; cases hf; exact h.top i e o hlo ho he
    · exact h.top j f p hj hp hf
  case refine_6 => have := h.top i e o hlo ho he; omega
  · intro j p hp
    rw [AHeap.get_set] at hp
    split at hp
    · rename_i hj
      cases hp
      obtain ⟨rfl, _⟩ := hj
      refine ⟨e, c.setIfInBounds (e.base + off) v', t, fz, he, h2, World.setCell_heap h3, by simpa using h4, by simpa using h5, ?_, h7⟩
      intro k u hk
      simp only [List.getElem?_set] at hk
      split at hk
      · rename_i hk0
        subst hk0
        cases hk
        refine ⟨v', ?_, hv⟩
        rw [Array.getElem?_setIfInBounds, if_pos rfl, if_pos (by omega)]
      · rename_i hk0
        obtain ⟨u', hu, hr⟩ := h6 k u hk
        exact ⟨u', by rw [Array.getElem?_setIfInBounds_ne (by omega)]; exact hu, hr⟩
    · rename_i hj
      have hji : j ≠ i := fun x => hj ⟨x, hin⟩
      obtain ⟨f, c', t', fz', g1, g2, g3, g4, g5, g6, g7⟩ := h.obj j p hp
      have hbe : f.blk ≠ e.blk := fun x => h.sep i j e f o p ho hp he g1 hlo (fun y => hji y.symm) x.symm
      exact ⟨f, c', t', fz', g1, g2, by rw [World.setCell_heap_ne hbe]; exact g3, g4, g5, g6, g7⟩
  · intro j f hf
    have := h.ent j f hf
    rw [hsz]; exact this
  · intro j k f g p q hp hq hf hg hj hjk
    rw [AHeap.get_set] at hp hq
    have hp' : ∃ p', H.get j = some p' := by
      split at hp
      · rename_i x; exact ⟨o, by rw [x.1]; exact ho⟩
      · exact ⟨p, hp⟩
    have hq' : ∃ p', H.get k = some p' := by
      split at hq
      · rename_i x; exact ⟨o, by rw [x.1]; exact ho⟩
      · exact ⟨q, hq⟩
    obtain ⟨p', hp'⟩ := hp'
    obtain ⟨q', hq'⟩ := hq'
    exact h.sep j k f g p' q' hp' hq' hf hg hj hjk
  · exact h.lo
  · intro b hb hn
    exact World.setCell_heap_ne (fun x => hn i e o hlo ho he x.symm)
  · intro j f p hj hp hf
    rw [AHeap.get_set] at hp
    split at hp
    · rename_i x; exact .inr ⟨i, e, o, hlo, ho, he, by have := x.1; subst this; rw [he] at hf; cases hf; rfl⟩
    · exact .inr ⟨j, f, p, hj, hp, hf, rfl⟩

end Go.Ab
