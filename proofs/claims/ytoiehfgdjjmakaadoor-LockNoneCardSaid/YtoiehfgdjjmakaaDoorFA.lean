/- The framework, in one text. -/
import Derived.Calls
import Derived.Orders
import Derived.Scope
import Derived.Laws.Sem
import Derived.Laws.Entries
import Derived.Laws.Cells
import Derived.Laws.Append
import Derived.Laws.CopyRow
import Derived.Laws.Slices
import Derived.Laws.Build
import Derived.Laws.AppendOwn
import Derived.Laws.Concat
/- The abstract heap: a trie of objects, its lookup laws. -/
namespace Go.Ab
open Go

/-- An abstract object: its tracked cells, and the cells that one element takes. -/
structure AObj where
  cells : List Value
  esz : Nat
  deriving Inhabited

inductive Tr where
  | nil
  | node (v : Option AObj) (l r : Tr)
  deriving Inhabited

def Tr.find : Tr → List Bool → Option AObj
  | .nil, _ => none
  | .node v _ _, [] => v
  | .node _ l _, true :: bs => l.find bs
  | .node _ _ r, false :: bs => r.find bs

def Tr.put : List Bool → Tr → Option AObj → Tr
  | [], .nil, v => .node v .nil .nil
  | [], .node _ l r, v => .node v l r
  | true :: bs, .nil, v => .node none (Tr.put bs .nil v) .nil
  | false :: bs, .nil, v => .node none .nil (Tr.put bs .nil v)
  | true :: bs, .node u l r, v => .node u (Tr.put bs l v) r
  | false :: bs, .node u l r, v => .node u l (Tr.put bs r v)

theorem Tr.find_put_same : ∀ (bs : List Bool) (t : Tr) (v : Option AObj), (Tr.put bs t v).find bs = v
  | [], .nil, v => rfl
  | [], .node _ _ _, v => rfl
  | true :: bs, .nil, v => by simp [Tr.put, Tr.find, Tr.find_put_same bs]
  | false :: bs, .nil, v => by simp [Tr.put, Tr.find, Tr.find_put_same bs]
  | true :: bs, .node _ _ _, v => by simp [Tr.put, Tr.find, Tr.find_put_same bs]
  | false :: bs, .node _ _ _, v => by simp [Tr.put, Tr.find, Tr.find_put_same bs]

theorem Tr.find_nil (bs : List Bool) : Tr.nil.find bs = none := by cases bs <;> rfl

theorem Tr.find_put_ne : ∀ (bs cs : List Bool) (t : Tr) (v : Option AObj), bs ≠ cs → (Tr.put bs t v).find cs = t.find cs
  | [], [], _, _, h => absurd rfl h
  | [], c :: cs, .nil, v, _ => by cases c <;> simp only [Tr.put, Tr.find]
  | [], c :: cs, .node _ _ _, v, _ => by cases c <;> simp [Tr.put, Tr.find]
  | b :: bs, [], .nil, v, _ => by cases b <;> simp [Tr.put, Tr.find]
  | b :: bs, [], .node _ _ _, v, _ => by cases b <;> simp [Tr.put, Tr.find]
  | b :: bs, c :: cs, .nil, v, h => by
    cases b <;> cases c <;> simp only [Tr.put, Tr.find]
    · rw [Tr.find_put_ne bs cs _ _ (by simpa using h), Tr.find_nil]
    · rw [Tr.find_put_ne bs cs _ _ (by simpa using h), Tr.find_nil]
  | b :: bs, c :: cs, .node _ _ _, v, h => by
    cases b <;> cases c <;> simp [Tr.put, Tr.find]
    · exact Tr.find_put_ne bs cs _ _ (by simpa using h)
    · exact Tr.find_put_ne bs cs _ _ (by simpa using h)

def bits : Nat → Nat → List Bool
  | 0, _ => []
  | f + 1, n => if n = 0 then [] else (n % 2 == 1) :: bits f (n / 2)

def unbits : List Bool → Nat
  | [] => 0
  | b :: bs => (if b then 1 else 0) + 2 * unbits bs

theorem unbits_bits : ∀ f n, n ≤ f → unbits (bits f n) = n
  | 0, n, h => by simp [bits, unbits]; omega
  | f + 1, n, h => by
    unfold bits
    split
    · simp [unbits, *]
    · simp only [unbits]
      rw [unbits_bits f (n / 2) (by omega)]
      by_cases hn : n % 2 = 1 <;> simp [hn] <;> omega

def key (n : Nat) : List Bool := bits n n

theorem key_inj {a b : Nat} (h : key a = key b) : a = b := by
  have := congrArg unbits h
  simpa [key, unbits_bits a a (Nat.le_refl _), unbits_bits b b (Nat.le_refl _)] using this

/-- The abstract heap. Objects below 'lo' are read only. -/
structure AHeap where
  tr : Tr
  next : Nat
  lo : Nat
  deriving Inhabited

def AHeap.get (H : AHeap) (i : Nat) : Option AObj := if i < H.next then H.tr.find (key i) else none
def AHeap.new (H : AHeap) (o : AObj) : AHeap := { H with tr := Tr.put (key H.next) H.tr (some o), next := H.next + 1 }
def AHeap.set (H : AHeap) (i : Nat) (o : AObj) : AHeap := { H with tr := Tr.put (key i) H.tr (some o) }
def AHeap.del (H : AHeap) (i : Nat) : AHeap := { H with tr := Tr.put (key i) H.tr none }
def AHeap.froz (H : AHeap) : AHeap := { H with lo := H.next }

theorem AHeap.get_lt {H : AHeap} {i : Nat} {o : AObj} (h : H.get i = some o) : i < H.next := by
  unfold AHeap.get at h; split at h
  · assumption
  · cases h

theorem AHeap.get_new (H : AHeap) (o : AObj) (j : Nat) : (H.new o).get j = if j = H.next then some o else H.get j := by
  unfold AHeap.get AHeap.new
  by_cases e : j = H.next
  · subst e; simp [Tr.find_put_same]
  · rw [if_neg e]
    simp only []
    rw [Tr.find_put_ne _ _ _ _ (fun h => e (key_inj h).symm)]
    by_cases h : j < H.next
    · rw [if_pos h, if_pos (by omega)]
    · rw [if_neg h, if_neg (by omega)]

theorem AHeap.get_set (H : AHeap) (i : Nat) (o : AObj) (j : Nat) : (H.set i o).get j = if j = i ∧ i < H.next then some o else H.get j := by
  unfold AHeap.get AHeap.set
  by_cases e : j = i
  · subst e; by_cases h : j < H.next <;> simp [Tr.find_put_same, h]
  · simp [e, Tr.find_put_ne _ _ _ _ (fun h => e (key_inj h).symm)]

theorem AHeap.get_del (H : AHeap) (i : Nat) (j : Nat) : (H.del i).get j = if j = i then none else H.get j := by
  unfold AHeap.get AHeap.del
  by_cases e : j = i
  · subst e; simp [Tr.find_put_same]
  · simp [e, Tr.find_put_ne _ _ _ _ (fun h => e (key_inj h).symm)]

@[simp] theorem AHeap.next_new (H : AHeap) (o : AObj) : (H.new o).next = H.next + 1 := rfl
@[simp] theorem AHeap.next_set (H : AHeap) (i : Nat) (o : AObj) : (H.set i o).next = H.next := rfl
@[simp] theorem AHeap.next_del (H : AHeap) (i : Nat) : (H.del i).next = H.next := rfl
@[simp] theorem AHeap.lo_new (H : AHeap) (o : AObj) : (H.new o).lo = H.lo := rfl
@[simp] theorem AHeap.lo_set (H : AHeap) (i : Nat) (o : AObj) : (H.set i o).lo = H.lo := rfl
@[simp] theorem AHeap.lo_del (H : AHeap) (i : Nat) : (H.del i).lo = H.lo := rfl
@[simp] theorem AHeap.next_froz (H : AHeap) : H.froz.next = H.next := rfl
@[simp] theorem AHeap.lo_froz (H : AHeap) : H.froz.lo = H.next := rfl
@[simp] theorem AHeap.get_froz (H : AHeap) (i : Nat) : H.froz.get i = H.get i := rfl
theorem AHeap.get_new_next (H : AHeap) (o : AObj) : (H.new o).get H.next = some o := by rw [AHeap.get_new, if_pos rfl]
theorem AHeap.get_new_ne (H : AHeap) (o : AObj) {j : Nat} (h : j ≠ H.next) : (H.new o).get j = H.get j := by rw [AHeap.get_new, if_neg h]
theorem AHeap.get_set_ne (H : AHeap) (i : Nat) (o : AObj) {j : Nat} (h : j ≠ i) : (H.set i o).get j = H.get j := by rw [AHeap.get_set, if_neg (fun x => h x.1)]
theorem AHeap.get_set_same (H : AHeap) (i : Nat) (o : AObj) (h : i < H.next) : (H.set i o).get i = some o := by rw [AHeap.get_set, if_pos ⟨rfl, h⟩]

end Go.Ab

/- How an abstract heap tells a world: the relation, and what keeps it. -/
namespace Go.Ab
open Go

structure Ent where
  blk : Nat
  base : Nat
  size : Nat
  esz : Nat

abbrev Inj := Nat → Option Ent

inductive VR (ι : Inj) : Value → Value → Prop
  | bool (b : Bool) : VR ι (.bool b) (.bool b)
  | int (k : IntKind) (n : Int) : VR ι (.int k n) (.int k n)
  | float (k : FloatKind) (n : Nat) : VR ι (.float k n) (.float k n)
  | complex (k : FloatKind) (a b : Nat) : VR ι (.complex k a b) (.complex k a b)
  | string (s : ByteArray) : VR ι (.string s) (.string s)
  | ptrNil : VR ι (.pointer none) (.pointer none)
  | ptr {i off : Nat} {e : Ent} : ι i = some e → VR ι (.pointer (some ⟨i, off, none⟩)) (.pointer (some ⟨e.blk, e.base + off, none⟩))
  | slNil : VR ι (.slice none 0 0) (.slice none 0 0)
  | sl {i off len cap c : Nat} {e : Ent} : ι i = some e → len ≤ cap → e.base + off + cap * e.esz ≤ e.size →
      VR ι (.slice (some ⟨i, off, none⟩) len c) (.slice (some ⟨e.blk, e.base + off, none⟩) len cap)
  | slE {i off c : Nat} {a' : Addr} : VR ι (.slice (some ⟨i, off, none⟩) 0 c) (.slice (some a') 0 0)
  | mapNil : VR ι (.map none) (.map none)
  | chanNil : VR ι (.chan none) (.chan none)
  | nilFunc : VR ι .nilFunc .nilFunc
  | nilIface : VR ι .nilIface .nilIface
  | func (fn : Fn) (f c f' c' : Array Value) : f.size = f'.size → (∀ (k : Nat) v v', f[k]? = some v → f'[k]? = some v' → VR ι v v') →
      c.size = c'.size → (∀ (k : Nat) v v', c[k]? = some v → c'[k]? = some v' → VR ι v v') → VR ι (.func fn f c) (.func fn f' c')
  | iface (t : TypeId) (v v' : Value) : VR ι v v' → VR ι (.iface t v) (.iface t v')
  | agg (c c' : Array Value) : c.size = c'.size → (∀ (k : Nat) v v', c[k]? = some v → c'[k]? = some v' → VR ι v v') → VR ι (.agg c) (.agg c')
  | tuple (c c' : Array Value) : c.size = c'.size → (∀ (k : Nat) v v', c[k]? = some v → c'[k]? = some v' → VR ι v v') → VR ι (.tuple c) (.tuple c')

/-- Two rows of values, one by one. -/
def AVR (ι : Inj) (a b : Array Value) : Prop := a.size = b.size ∧ ∀ (k : Nat) v v', a[k]? = some v → b[k]? = some v' → VR ι v v'

def Inj.le (ι ι' : Inj) : Prop := ∀ i e, ι i = some e → ι' i = some e

theorem Inj.le_refl (ι : Inj) : ι.le ι := fun _ _ h => h
theorem Inj.le_trans {a b c : Inj} (h : a.le b) (h' : b.le c) : a.le c := fun i e x => h' i e (h i e x)

theorem VR.mono {ι ι' : Inj} (hl : ι.le ι') {v v' : Value} (h : VR ι v v') : VR ι' v v' := by
  induction h with
  | bool b => exact .bool b
  | int k n => exact .int k n
  | float k n => exact .float k n
  | complex k a b => exact .complex k a b
  | string s => exact .string s
  | ptrNil => exact .ptrNil
  | ptr h => exact .ptr (hl _ _ h)
  | slNil => exact .slNil
  | sl h h1 h2 => exact .sl (hl _ _ h) h1 h2
  | slE => exact .slE
  | mapNil => exact .mapNil
  | chanNil => exact .chanNil
  | nilFunc => exact .nilFunc
  | nilIface => exact .nilIface
  | func fn f c f' c' h1 _ h3 _ i1 i2 => exact .func fn f c f' c' h1 (fun k v v' a b => i1 k v v' a b) h3 (fun k v v' a b => i2 k v v' a b)
  | iface t v v' _ ih => exact .iface t v v' ih
  | agg c c' h _ ih => exact .agg c c' h (fun k v v' a b => ih k v v' a b)
  | tuple c c' h _ ih => exact .tuple c c' h (fun k v v' a b => ih k v v' a b)

theorem AVR.mono {ι ι' : Inj} (hl : ι.le ι') {a b : Array Value} (h : AVR ι a b) : AVR ι' a b :=
  ⟨h.1, fun k v v' x y => (h.2 k v v' x y).mono hl⟩

theorem AVR.get {ι : Inj} {a b : Array Value} (h : AVR ι a b) {k : Nat} {v : Value} (hv : a[k]? = some v) : ∃ v', b[k]? = some v' ∧ VR ι v v' := by
  have hk : k < a.size := by
    rcases Nat.lt_or_ge k a.size with h | h
    · exact h
    · rw [Array.getElem?_eq_none h] at hv; cases hv
  have hk' : k < b.size := h.1 ▸ hk
  exact ⟨b[k], Array.getElem?_eq_getElem hk', h.2 k v _ hv (Array.getElem?_eq_getElem hk')⟩

/-- A value without addresses is told by itself alone. -/
def closedIn : Nat → Value → Bool
  | _, .bool _ | _, .int .. | _, .float .. | _, .complex .. | _, .string _ | _, .pointer none | _, .slice none 0 0 | _, .map none | _, .chan none | _, .nilFunc | _, .nilIface => true
  | 0, _ => false
  | d + 1, .iface _ v => closedIn d v
  | d + 1, .func _ f c => f.toList.all (closedIn d) && c.toList.all (closedIn d)
  | d + 1, .agg c => c.toList.all (closedIn d)
  | d + 1, .tuple c => c.toList.all (closedIn d)
  | _, _ => false

theorem closedIn_vr (ι : Inj) : ∀ d v, closedIn d v = true → VR ι v v := by
  have row : ∀ d (c : Array Value), (∀ v, closedIn d v = true → VR ι v v) → c.toList.all (closedIn d) = true →
      ∀ (k : Nat) v v', c[k]? = some v → c[k]? = some v' → VR ι v v' := by
    intro d c ih hc k v v' hv hv'
    rw [hv] at hv'; cases hv'
    refine ih v ?_
    rw [List.all_eq_true] at hc
    exact hc v (Array.mem_toList_iff.2 (Array.mem_of_getElem? hv))
  intro d
  induction d with
  | zero =>
    intro v h
    cases v <;> try (first | exact .bool _ | exact .int _ _ | exact .float _ _ | exact .complex _ _ _ | exact .string _ | exact .nilFunc | exact .nilIface)
    case pointer a => cases a <;> simp [closedIn] at h; exact .ptrNil
    case slice a l c =>
      cases a <;> cases l <;> cases c <;> simp [closedIn] at h
      exact .slNil
    case map a => cases a <;> simp [closedIn] at h; exact .mapNil
    case chan a => cases a <;> simp [closedIn] at h; exact .chanNil
    all_goals simp [closedIn] at h
  | succ d ih =>
    intro v h
    cases v <;> try (first | exact .bool _ | exact .int _ _ | exact .float _ _ | exact .complex _ _ _ | exact .string _ | exact .nilFunc | exact .nilIface)
    case pointer a => cases a <;> simp [closedIn] at h; exact .ptrNil
    case slice a l c =>
      cases a <;> cases l <;> cases c <;> simp [closedIn] at h
      exact .slNil
    case map a => cases a <;> simp [closedIn] at h; exact .mapNil
    case chan a => cases a <;> simp [closedIn] at h; exact .chanNil
    case iface t v => simp only [closedIn] at h; exact .iface _ _ _ (ih _ h)
    case func fn f c =>
      simp only [closedIn, Bool.and_eq_true] at h
      exact .func _ _ _ _ _ rfl (row d f ih h.1) rfl (row d c ih h.2)
    case agg c => simp only [closedIn] at h; exact .agg _ _ rfl (row d c ih h)
    case tuple c => simp only [closedIn] at h; exact .tuple _ _ rfl (row d c ih h)

theorem closedIn_eq {ι : Inj} : ∀ d v v', closedIn d v = true → VR ι v v' → v' = v := by
  have row : ∀ d (c c' : Array Value), (∀ v v', closedIn d v = true → VR ι v v' → v' = v) → c.toList.all (closedIn d) = true → c.size = c'.size →
      (∀ (k : Nat) v v', c[k]? = some v → c'[k]? = some v' → VR ι v v') → c' = c := by
    intro d c c' ih hc hs h
    apply Array.ext hs.symm
    intro k hk hk'
    refine ih _ _ ?_ (h k c[k] c'[k] (Array.getElem?_eq_getElem _) (Array.getElem?_eq_getElem _))
    rw [List.all_eq_true] at hc
    exact hc _ (Array.mem_toList_iff.2 (Array.getElem_mem _))
  intro d
  induction d with
  | zero =>
    intro v v' h hv
    cases hv <;> first | rfl | simp [closedIn] at h
  | succ d ih =>
    intro v v' h hv
    cases hv <;> try rfl
    case ptr => simp [closedIn] at h
    case sl => simp [closedIn] at h
    case slE => simp [closedIn] at h
    case iface t v v' hv => simp only [closedIn] at h; rw [ih _ _ h hv]
    case func fn f c f' c' h1 h2 h3 h4 =>
      simp only [closedIn, Bool.and_eq_true] at h
      rw [row d f f' ih h.1 h1 h2, row d c c' ih h.2 h3 h4]
    case agg c c' h1 h2 => simp only [closedIn] at h; rw [row d c c' ih h h1 h2]
    case tuple c c' h1 h2 => simp only [closedIn] at h; rw [row d c c' ih h h1 h2]

/-- The first blocks, which nobody writes, and what holds of them. -/
structure Glob where
  n : Nat
  S : World → Prop
  st : ∀ w w' : World, S w → (∀ b, b < n → w'.heap[b]? = w.heap[b]?) → S w'

structure Rel (G : Glob) (ι : Inj) (H : AHeap) (w : World) : Prop where
  obj : ∀ i o, H.get i = some o → ∃ e c t fz, ι i = some e ∧ e.esz = o.esz ∧ w.heap[e.blk]? = some (.cells c t fz) ∧ c.size = e.size ∧
    e.base + o.cells.length ≤ e.size ∧ (∀ (k : Nat) v, o.cells[k]? = some v → ∃ v', c[e.base + k]? = some v' ∧ VR ι v v') ∧ (H.lo ≤ i → fz = (0, 0))
  ent : ∀ i e, ι i = some e → i < H.next ∧ e.blk < w.heap.size
  sep : ∀ i j e f o p, H.get i = some o → H.get j = some p → ι i = some e → ι j = some f → H.lo ≤ i → i ≠ j → e.blk ≠ f.blk
  lo : H.lo ≤ H.next
  glb : ∀ g, g < G.n → ∃ e, ι g = some e ∧ e.blk = g ∧ e.base = 0
  top : ∀ i e o, H.lo ≤ i → H.get i = some o → ι i = some e → G.n ≤ e.blk
  env : G.S w

structure Post (G : Glob) (ι : Inj) (H : AHeap) (w : World) (ι' : Inj) (H' : AHeap) (w' : World) : Prop where
  rel : Rel G ι' H' w'
  ext : ι.le ι'
  lo : H'.lo = H.lo
  next : H.next ≤ H'.next
  size : w.heap.size ≤ w'.heap.size
  frame : ∀ b, b < w.heap.size → (∀ i e o, H.lo ≤ i → H.get i = some o → ι i = some e → e.blk ≠ b) → w'.heap[b]? = w.heap[b]?
  own : ∀ i e o, H.lo ≤ i → H'.get i = some o → ι' i = some e → w.heap.size ≤ e.blk ∨ ∃ j f p, H.lo ≤ j ∧ H.get j = some p ∧ ι j = some f ∧ f.blk = e.blk
  os : w'.os = w.os
  out : w'.output = w.output
  tape : w'.tape = w.tape

theorem Post.refl {G : Glob} {ι : Inj} {H : AHeap} {w : World} (h : Rel G ι H w) : Post G ι H w ι H w :=
  ⟨h, ι.le_refl, rfl, Nat.le_refl _, Nat.le_refl _, fun _ _ _ => rfl, fun i e o hi ho he => .inr ⟨i, e, o, hi, ho, he, rfl⟩, rfl, rfl, rfl⟩

theorem Post.trans {G : Glob} {ι ι₁ ι₂ : Inj} {H H₁ H₂ : AHeap} {w w₁ w₂ : World} (h : Post G ι H w ι₁ H₁ w₁) (h' : Post G ι₁ H₁ w₁ ι₂ H₂ w₂) : Post G ι H w ι₂ H₂ w₂ where
  rel := h'.rel
  ext := Inj.le_trans h.ext h'.ext
  lo := h'.lo.trans h.lo
  next := Nat.le_trans h.next h'.next
  size := Nat.le_trans h.size h'.size
  frame b hb hn := by
    rw [h'.frame b (Nat.lt_of_lt_of_le hb h.size) ?_, h.frame b hb hn]
    intro i e o hi ho he heb
    rcases h.own i e o (h.lo ▸ hi) ho he with hx | ⟨j, f, p, hj, hp, hf, hfe⟩
    · omega
    · exact hn j f p hj hp hf (hfe.trans heb)
  own i e o hi ho he := by
    rcases h'.own i e o (h.lo ▸ hi) ho he with hx | ⟨j, f, p, hj, hp, hf, hfe⟩
    · exact .inl (Nat.le_trans h.size hx)
    · rcases h.own j f p (h.lo ▸ hj) hp hf with hx | ⟨j', f', p', h1, h2, h3, h4⟩
      · exact .inl (hfe ▸ hx)
      · exact .inr ⟨j', f', p', h1, h2, h3, h4.trans hfe⟩
  os := h'.os.trans h.os
  out := h'.out.trans h.out
  tape := h'.tape.trans h.tape

/-- A world that differs in its draws alone. -/
theorem Post.drew {G : Glob} {ι : Inj} {H : AHeap} {w : World} (h : Rel G ι H w) (n : Nat) : Post G ι H w ι H { w with drawn := n } :=
  ⟨⟨h.obj, h.ent, h.sep, h.lo, h.glb, h.top, G.st w _ h.env (fun _ _ => rfl)⟩, ι.le_refl, rfl, Nat.le_refl _, Nat.le_refl _, fun _ _ _ => rfl, fun i e o hi ho he => .inr ⟨i, e, o, hi, ho, he, rfl⟩, rfl, rfl, rfl⟩

def Inj.put (ι : Inj) (i : Nat) (e : Ent) : Inj := fun j => if j = i then some e else ι j
theorem Inj.put_same (ι : Inj) (i : Nat) (e : Ent) : ι.put i e i = some e := by simp [Inj.put]
theorem Inj.put_ne (ι : Inj) {i j : Nat} (e : Ent) (h : j ≠ i) : ι.put i e j = ι j := by simp [Inj.put, h]
theorem Inj.le_put {G : Glob} {ι : Inj} {H : AHeap} {w : World} (h : Rel G ι H w) (e : Ent) : ι.le (ι.put H.next e) := fun i f hi => by
  rw [Inj.put_ne _ _ (by have := (h.ent i f hi).1; omega)]; exact hi

theorem heap_push_get {w : World} {b : Nat} {o x : Obj} (h : w.heap[b]? = some x) : (w.heap.push o)[b]? = some x := by
  have : b < w.heap.size := by
    rcases Nat.lt_or_ge b w.heap.size with h1 | h1
    · exact h1
    · rw [Array.getElem?_eq_none h1] at h; cases h
  rw [Array.getElem?_push_lt this, ← h, Array.getElem?_eq_getElem this]

/-- A new object. -/
theorem Post.new {G : Glob} {ι : Inj} {H : AHeap} {w : World} (h : Rel G ι H w) (c : Array Value) (t : TypeId) (l : List Value) (esz : Nat)
    (hl : l.length ≤ c.size) (hv : ∀ (k : Nat) v, l[k]? = some v → ∃ v', c[k]? = some v' ∧ VR ι v v') :
    Post G ι H w (ι.put H.next ⟨w.heap.size, 0, c.size, esz⟩) (H.new ⟨l, esz⟩) { w with heap := w.heap.push (.cells c t) } := by
  have hle : ι.le (ι.put H.next ⟨w.heap.size, 0, c.size, esz⟩) := Inj.le_put h _
  have hgl : G.n ≤ w.heap.size := by
    rcases Nat.lt_or_ge w.heap.size G.n with hlt | hge
    · obtain ⟨e, he, h1, _⟩ := h.glb w.heap.size hlt
      have := (h.ent _ e he).2
      omega
    · exact hge
  refine ⟨⟨?_, ?_, ?_, ?_, fun g hg => ?_, fun i e o hi ho he => ?_, G.st w _ h.env fun b hb => ?_⟩, hle, rfl, by simp, by simp, ?_, ?_, rfl, rfl, rfl⟩
  case refine_6 =>
    rw [AHeap.get_new] at ho
    by_cases h1 : i = H.next
    · subst h1; rw [Inj.put_same] at he; cases he; exact hgl
    · rw [if_neg h1] at ho; rw [Inj.put_ne _ _ h1] at he; exact h.top i e o hi ho he
  case refine_7 =>
    have hb' : b < w.heap.size := by omega
    simp only []
    rw [Array.getElem?_push_lt hb', Array.getElem?_eq_getElem hb']
  case refine_5 => obtain ⟨e, he, h1, h2⟩ := h.glb g hg; exact ⟨e, hle _ _ he, h1, h2⟩
  · intro i o ho
    rw [AHeap.get_new] at ho
    split at ho
    · rename_i e
      cases ho
      refine ⟨_, c, t, (0, 0), by rw [e, Inj.put_same], rfl, by simp, rfl, by simpa using hl, ?_, fun _ => rfl⟩
      intro k v hk
      obtain ⟨v', hv', hr⟩ := hv k v hk
      exact ⟨v', by simpa using hv', hr.mono hle⟩
    · rename_i hne
      obtain ⟨e, c', t', fz, h1, h2, h3, h4, h5, h6, h7⟩ := h.obj i o ho
      refine ⟨e, c', t', fz, by rw [Inj.put_ne _ _ hne]; exact h1, h2, heap_push_get h3, h4, h5, ?_, h7⟩
      intro k v hk
      obtain ⟨v', hv', hr⟩ := h6 k v hk
      exact ⟨v', hv', hr.mono hle⟩
  · intro i e he
    by_cases hi : i = H.next
    · subst hi; rw [Inj.put_same] at he; cases he; simp
    · rw [Inj.put_ne _ _ hi] at he
      have := h.ent i e he
      simp; omega
  · intro i j e f o p ho hp he hf hi hij
    rw [AHeap.get_new] at ho hp
    by_cases h1 : i = H.next
    · subst h1
      have h2 : j ≠ H.next := fun x => hij x.symm
      rw [Inj.put_same] at he; cases he
      rw [Inj.put_ne _ _ h2] at hf
      have := (h.ent j f hf).2
      simp; omega
    · rw [if_neg h1] at ho
      rw [Inj.put_ne _ _ h1] at he
      by_cases h2 : j = H.next
      · subst h2
        rw [Inj.put_same] at hf; cases hf
        have := (h.ent i e he).2
        simp; omega
      · rw [if_neg h2] at hp
        rw [Inj.put_ne _ _ h2] at hf
        exact h.sep i j e f o p ho hp he hf hi hij
  · have := h.lo; simp; omega
  · intro b hb _
    simp only []
    rw [Array.getElem?_push_lt hb, Array.getElem?_eq_getElem hb]
  · intro i e o hi ho he
    rw [AHeap.get_new] at ho
    by_cases h1 : i = H.next
    · subst h1; rw [Inj.put_same] at he; cases he; exact .inl (Nat.le_refl _)
    · rw [if_neg h1] at ho
      rw [Inj.put_ne _ _ h1] at he
      exact .inr ⟨i, e, o, hi, ho, he, rfl⟩

/-- A dropped object. -/
theorem Rel.del {G : Glob} {ι : Inj} {H : AHeap} {w : World} (h : Rel G ι H w) (i : Nat) : Rel G ι (H.del i) w where
  obj j o ho := by
    rw [AHeap.get_del] at ho
    split at ho
    · cases ho
    · exact h.obj j o ho
  ent := h.ent
  sep j k e f o p ho hp := by
    rw [AHeap.get_del] at ho hp
    split at ho
    · cases ho
    · split at hp
      · cases hp
      · exact h.sep j k e f o p ho hp
  lo := h.lo
  glb := h.glb
  top j e o hj ho he := by
    rw [AHeap.get_del] at ho
    split at ho
    · cases ho
    · exact h.top j e o hj ho he
  env := h.env

theorem Post.del {G : Glob} {ι ι' : Inj} {H H' : AHeap} {w w' : World} (h : Post G ι H w ι' H' w') (i : Nat) : Post G ι H w ι' (H'.del i) w' where
  rel := h.rel.del i
  ext := h.ext
  lo := h.lo
  next := h.next
  size := h.size
  frame := h.frame
  own j e o hj ho he := by
    rw [AHeap.get_del] at ho
    split at ho
    · cases ho
    · exact h.own j e o hj ho he
  os := h.os
  out := h.out
  tape := h.tape

theorem World.cell_of {w : World} {b off : Nat} {c : Array Value} {t : TypeId} {fz : Nat × Nat} (h : w.heap[b]? = some (.cells c t fz)) :
    w.cell? ⟨b, off, none⟩ = c[off]? := by
  simp [World.cell?, h]

theorem World.setCell_heap {w : World} {b off : Nat} {v : Value} {c : Array Value} {t : TypeId} {fz : Nat × Nat} (h : w.heap[b]? = some (.cells c t fz)) :
    (w.setCell ⟨b, off, none⟩ v).heap[b]? = some (.cells (c.setIfInBounds off v) t fz) := by
  simp [World.setCell, Array.getElem?_modify, h]

theorem World.setCell_heap_ne {w : World} {b off b' : Nat} {v : Value} (h : b' ≠ b) : (w.setCell ⟨b, off, none⟩ v).heap[b']? = w.heap[b']? := by
  have : ¬ b = b' := fun e => h e.symm
  simp [World.setCell, Array.getElem?_modify, this]

/-- One cell of an object that may be written. -/
theorem Post.set {G : Glob} {ι : Inj} {H : AHeap} {w : World} (h : Rel G ι H w) {i off : Nat} {o : AObj} {e : Ent} {v v' : Value}
    (ho : H.get i = some o) (he : ι i = some e) (hlo : H.lo ≤ i) (hoff : off < o.cells.length) (hv : VR ι v v') :
    Post G ι H w ι (H.set i { o with cells := o.cells.set off v }) (w.setCell ⟨e.blk, e.base + off, none⟩ v') := by
  have hin : i < H.next := AHeap.get_lt ho
  obtain ⟨e', c, t, fz, h1, h2, h3, h4, h5, h6, h7⟩ := h.obj i o ho
  rw [he] at h1; cases h1
  have hsz : (w.setCell ⟨e.blk, e.base + off, none⟩ v').heap.size = w.heap.size := by simp [World.setCell]
  refine ⟨⟨?_, ?_, ?_, ?_, h.glb, fun j f p hj hp hf => ?_, G.st w _ h.env fun b hb => World.setCell_heap_ne (fun x => ?_)⟩, ι.le_refl, rfl, by simp, by rw [hsz]; exact Nat.le_refl _, ?_, ?_, rfl, rfl, rfl⟩
  case refine_5 =>
    rw [AHeap.get_set] at hp
    split at hp
    · rename_i x; rw [x.1, he] at hf; cases hf; exact h.top i e o hlo ho he
    · exact h.top j f p hj hp hf
  case refine_6 => have := h.top i e o hlo ho he; omega
  · intro j p hp
    rw [AHeap.get_set] at hp
    split at hp
    · rename_i hj
      cases hp
      obtain ⟨rfl, _⟩ := hj
      refine ⟨e, c.setIfInBounds (e.base + off) v', t, fz, he, h2, World.setCell_heap h3, by simpa using h4, by simpa using h5, ?_, h7⟩
      intro k u hk
      simp only [List.getElem?_set] at hk
      split at hk
      · rename_i hk0
        subst hk0
        cases hk
        refine ⟨v', ?_, hv⟩
        rw [Array.getElem?_setIfInBounds, if_pos rfl, if_pos (by omega)]
      · rename_i hk0
        obtain ⟨u', hu, hr⟩ := h6 k u hk
        exact ⟨u', by rw [Array.getElem?_setIfInBounds_ne (by omega)]; exact hu, hr⟩
    · rename_i hj
      have hji : j ≠ i := fun x => hj ⟨x, hin⟩
      obtain ⟨f, c', t', fz', g1, g2, g3, g4, g5, g6, g7⟩ := h.obj j p hp
      have hbe : f.blk ≠ e.blk := fun x => h.sep i j e f o p ho hp he g1 hlo (fun y => hji y.symm) x.symm
      exact ⟨f, c', t', fz', g1, g2, by rw [World.setCell_heap_ne hbe]; exact g3, g4, g5, g6, g7⟩
  · intro j f hf
    have := h.ent j f hf
    rw [hsz]; exact this
  · intro j k f g p q hp hq hf hg hj hjk
    rw [AHeap.get_set] at hp hq
    have hp' : ∃ p', H.get j = some p' := by
      split at hp
      · rename_i x; exact ⟨o, by rw [x.1]; exact ho⟩
      · exact ⟨p, hp⟩
    have hq' : ∃ p', H.get k = some p' := by
      split at hq
      · rename_i x; exact ⟨o, by rw [x.1]; exact ho⟩
      · exact ⟨q, hq⟩
    obtain ⟨p', hp'⟩ := hp'
    obtain ⟨q', hq'⟩ := hq'
    exact h.sep j k f g p' q' hp' hq' hf hg hj hjk
  · exact h.lo
  · intro b hb hn
    exact World.setCell_heap_ne (fun x => hn i e o hlo ho he x.symm)
  · intro j f p hj hp hf
    rw [AHeap.get_set] at hp
    split at hp
    · rename_i x; exact .inr ⟨i, e, o, hlo, ho, he, by have := x.1; subst this; rw [he] at hf; cases hf; rfl⟩
    · exact .inr ⟨j, f, p, hj, hp, hf, rfl⟩

end Go.Ab

/- The abstract code: operations, their evaluation. -/
namespace Go.Ab
open Go

inductive AOpd where
  | t (n : Nat)
  | c (v : Value)
  deriving Inhabited

abbrev Env := List (Nat × Value)

def Env.find : Env → Nat → Option Value
  | [], _ => none
  | (k, v) :: r, n => if k = n then some v else Env.find r n

def Env.put : Env → Nat → Value → Env
  | [], n, v => [(n, v)]
  | (k, u) :: r, n, v => if k = n then (k, v) :: r else (k, u) :: Env.put r n v

def Env.keep (σ : Env) (l : List Nat) : Env := σ.filter fun p => l.contains p.1

def Env.rd (σ : Env) : AOpd → Option Value
  | .t n => σ.find n
  | .c v => some v

def Env.rds (σ : Env) : List AOpd → Option (List Value)
  | [] => some []
  | x :: r => match σ.rd x with
    | none => none
    | some v => match Env.rds σ r with
      | none => none
      | some vs => some (v :: vs)

inductive NilKind where
  | ptr | sl | iface | fn
  deriving Inhabited

inductive AOp where
  | mov (x : AOpd)
  | pick (c a b : AOpd)
  | alloc (zero : List Value)
  | box (x : AOpd)
  | build (zero : Array Value) (parts : List ((Nat × Nat) × AOpd))
  | buildSlice (size : Nat) (zero : Array Value) (len : Nat) (parts : List (Nat × AOpd))
  | load (n : Option Nat) (x : AOpd)
  | store (n : Nat) (a x : AOpd)
  | nilChk (x : AOpd)
  | bin (op : BinOp) (x y : AOpd)
  | eqB (neg : Bool) (x y : AOpd)
  | isNil (k : NilKind) (neg : Bool) (x : AOpd)
  | un (op : UnOp) (x : AOpd)
  | conv (k : IntKind) (x : AOpd)
  | mkIface (t : TypeId) (x : AOpd)
  | mkFunc (fn : Fn) (first captured : List AOpd)
  | mkSlice (size bytes : Nat) (zero : Array Value) (l : AOpd)
  | slice (size : Nat) (x : AOpd) (lo hi : Option AOpd)
  | fieldAddr (off : Nat) (x : AOpd)
  | field (off : Nat) (n : Option Nat) (x : AOpd)
  | indexAddr (arr : Option Nat) (size : Nat) (x i : AOpd)
  | index (len size : Nat) (n : Option Nat) (x i : AOpd)
  | extract (x : AOpd) (i : Nat)
  | len (str : Bool) (x : AOpd)
  | append (size bytes : Nat) (x y : AOpd)
  | minmax (mx : Bool) (x y : AOpd)
  | call (f : FuncId) (args : List AOpd)
  | callQ (f : FuncId) (args : List AOpd)
  | callE (gl : Nat) (f : FuncId) (args : List AOpd)
  | invoke (m : String) (x : AOpd) (args : List AOpd)
  | callV (x : AOpd) (args : List AOpd)
  | hold (ds : List (Option Nat × AOpd)) (op : AOp)
  deriving Inhabited

structure AItem where
  dst : Option Nat
  guard : Option (Nat × Bool)
  op : AOp
  deriving Inhabited

inductive ACode where
  | skip
  | reg (ops : List AItem) (live : List Nat)
  | regd (ord : List Nat) (ops : List AItem) (live : List Nat)
  | seq (a b : ACode)
  | cond (c : AOpd) (a b : ACode)
  | block (id : Nat) (b : ACode)
  | loop (b : ACode)
  | exit (id : Nat)
  | scope (b : ACode)
  | label (l : Nat)
  | goto (l : Nat)
  | ret
  deriving Inhabited

inductive AEx where
  | norm
  | exit (id : Nat)
  | goto (l : Nat)
  | ret

abbrev ACall := FuncId → List Value → AHeap → Option (Value × AHeap)

/-- The cells from an offset on. -/
def readN (cells : List Value) (off n : Nat) : Option (List Value) :=
  if off + n ≤ cells.length then some ((cells.drop off).take n) else none

def writeN (cells : List Value) : Nat → List Value → List Value
  | _, [] => cells
  | off, v :: vs => writeN (cells.set off v) (off + 1) vs

def one : Value → Bool
  | .agg _ | .tuple _ => false
  | _ => true

def AHeap.read (H : AHeap) (i off n : Nat) : Option (List Value) :=
  match H.get i with
  | none => none
  | some o => readN o.cells off n

def aBinInt (op : BinOp) (k : IntKind) (a : Int) (yk : IntKind) (b : Int) : Option Value :=
  match op with
  | .add => if k = yk then some (.int k (k.wrap (a + b))) else none
  | .sub => if k = yk then some (.int k (k.wrap (a - b))) else none
  | .mul => if k = yk then some (.int k (k.wrap (a * b))) else none
  | .quo => if k = yk ∧ b ≠ 0 then some (.int k (k.wrap (a.tdiv b))) else none
  | .rem => if k = yk ∧ b ≠ 0 then some (.int k (a.tmod b)) else none
  | .and => if k = yk then some (.int k (k.wrap (BitVec.ofInt k.bits a &&& BitVec.ofInt k.bits b).toNat)) else none
  | .or => if k = yk then some (.int k (k.wrap (BitVec.ofInt k.bits a ||| BitVec.ofInt k.bits b).toNat)) else none
  | .xor => if k = yk then some (.int k (k.wrap (BitVec.ofInt k.bits a ^^^ BitVec.ofInt k.bits b).toNat)) else none
  | .andNot => if k = yk then some (.int k (k.wrap (BitVec.ofInt k.bits a &&& ~~~ BitVec.ofInt k.bits b).toNat)) else none
  | .shl => if 0 ≤ b then some (.int k (k.wrap (a * 2 ^ (min b.toNat k.bits)))) else none
  | .shr => if 0 ≤ b then some (.int k (a.fdiv (2 ^ (min b.toNat k.bits)))) else none
  | .eql => if k = yk then some (.bool (a == b)) else none
  | .neq => if k = yk then some (.bool (a != b)) else none
  | .lss => if k = yk then some (.bool (decide (a < b))) else none
  | .leq => if k = yk then some (.bool (decide (a ≤ b))) else none
  | .gtr => if k = yk then some (.bool (decide (a > b))) else none
  | .geq => if k = yk then some (.bool (decide (a ≥ b))) else none

/-- Is it nil? -/
def isNilV : NilKind → Value → Option Bool
  | .ptr, .pointer p => some p.isNone
  | .sl, .slice p _ _ => some p.isNone
  | .iface, .nilIface => some true
  | .iface, .iface _ _ => some false
  | .fn, .nilFunc => some true
  | .fn, .func .. => some false
  | _, _ => none

def aBin (op : BinOp) (x y : Value) : Option Value :=
  match x, y with
  | .int k a, .int yk b => aBinInt op k a yk b
  | .string a, .string b => match op with
    | .eql => some (.bool (a.toList == b.toList))
    | .neq => some (.bool (!(a.toList == b.toList)))
    | .add => if a.size + b.size ≤ 2 ^ 62 then some (.string (a ++ b)) else none
    | _ => none
  | _, _ => none

def aUn (op : UnOp) (x : Value) : Option Value :=
  match op, x with
  | .not, .bool b => some (.bool (!b))
  | .neg, .int k n => some (.int k (k.wrap (0 - n)))
  | .xor, .int k n => some (.int k (k.wrap (BitVec.ofInt k.bits (if k.signed then -1 else k.max) ^^^ BitVec.ofInt k.bits n).toNat))
  | _, _ => none

/-- A load's answer. -/
def aLoad (H : AHeap) (n : Option Nat) : Value → Option Value
  | .pointer (some ⟨i, off, none⟩) => match n with
    | none => match H.get i with
      | some o => o.cells[off]?
      | none => none
    | some n => match H.read i off n with
      | some cs => some (.agg cs.toArray)
      | none => none
  | _ => none

def eqVs (f : Value → Value → Bool) : List Value → List Value → Bool
  | [], [] => true
  | a :: as, b :: bs => f a b && eqVs f as bs
  | _, _ => false

def eqV : Nat → Value → Value → Bool
  | _, .bool a, .bool b => a == b
  | _, .int k a, .int k' b => decide (k = k') && decide (a = b)
  | _, .float k a, .float k' b => decide (k = k') && decide (a = b)
  | _, .complex k a c, .complex k' b d => decide (k = k') && decide (a = b) && decide (c = d)
  | _, .string a, .string b => decide (a = b)
  | _, .pointer a, .pointer b => decide (a = b)
  | _, .slice a n c, .slice b m d => decide (a = b) && decide (n = m) && decide (c = d)
  | _, .map a, .map b => decide (a = b)
  | _, .chan a, .chan b => decide (a = b) && a.isNone
  | _, .nilFunc, .nilFunc => true
  | _, .nilIface, .nilIface => true
  | d + 1, .func f a c, .func g b e => decide (f = g) && eqVs (eqV d) a.toList b.toList && eqVs (eqV d) c.toList e.toList
  | d + 1, .iface t a, .iface u b => decide (t = u) && eqV d a b
  | d + 1, .agg a, .agg b => eqVs (eqV d) a.toList b.toList
  | d + 1, .tuple a, .tuple b => eqVs (eqV d) a.toList b.toList
  | _, _, _ => false

/-- Does a load tell the same in two heaps? -/
def heldB (σ : Env) (H H' : AHeap) (d : Option Nat × AOpd) : Bool :=
  match σ.rd d.2 with
  | some p => match aLoad H d.1 p, aLoad H' d.1 p with
    | some u, some u' => eqV 4 u u'
    | _, _ => false
  | none => false

def vals (ps : List ((Nat × Nat) × AOpd)) : List AOpd := ps.map (·.2)

def zipParts : List ((Nat × Nat) × AOpd) → List Value → List ((Nat × Nat) × Value)
  | (p, _) :: r, v :: vs => (p, v) :: zipParts r vs
  | _, _ => []

def fillIn (cells : Array Value) : List ((Nat × Nat) × Value) → Option (Array Value)
  | [] => some cells
  | ((off, size), v) :: rest =>
    if v.cells.size ≠ size || off + v.cells.size > cells.size then none
    else fillIn (v.cells.zipIdx.foldl (fun cs (c, j) => cs.setIfInBounds (off + j) c) cells) rest

def repeatCells (zero : Array Value) (n : Nat) : Array Value := (Array.range n).map (zero[· % zero.size]!)

def aBound (v : Value) (y : Nat) : Option Nat :=
  match v with
  | .int _ i => if 0 ≤ i ∧ i ≤ y then some i.toNat else none
  | _ => none
def aHi (len : Nat) : Option Value → Option Nat
  | none => some len
  | some v => aBound v len
def aLo (h : Nat) : Option Value → Option Nat
  | none => some 0
  | some v => aBound v h
def aSliceBounds (len : Nat) (lo hi : Option Value) : Option (Nat × Nat) :=
  match aHi len hi with
  | none => none
  | some h => match aLo h lo with
    | none => none
    | some l => some (l, h)

def Env.rdo (σ : Env) : Option AOpd → Option (Option Value)
  | none => some none
  | some x => (σ.rd x).map some

def aAppend (H : AHeap) (size bytes : Nat) (a : Option Addr) (n c : Nat) (b : Option Addr) (m : Nat) : Option (Value × AHeap) :=
  if m = 0 then some (.slice a n c, H) else
  match b with
  | some ⟨j, joff, none⟩ => match H.read j joff (m * size) with
    | none => none
    | some news =>
      if !((n + m) * bytes ≤ 2 ^ 46 && 0 < bytes && 0 < size && (H.get j).any (fun o => o.esz == size) && news.all one) then none else
      match a with
      | none => if n = 0 then some (.slice (some ⟨H.next, 0, none⟩) m m, H.new ⟨news, size⟩) else none
      | some ⟨i, off, none⟩ => match H.get i with
        | none => none
        | some o => if H.lo ≤ i ∧ off + n * size = o.cells.length ∧ o.esz = size ∧ i ≠ j then
            some (.slice (some ⟨H.next, 0, none⟩) (n + m) (n + m), (H.del i).new ⟨o.cells.drop off ++ news, size⟩) else none
      | _ => none
  | _ => none

/-- The part of an aggregate: one cell, or a row of them. -/
def aPart (cs : Array Value) (off : Nat) : Option Nat → Option Value
  | none => cs[off]?
  | some n => if off + n ≤ cs.size then some (.agg (cs.extract off (off + n))) else none

def aCut (H : AHeap) (size : Nat) (a : Option Addr) (len l h : Nat) : Option Value :=
  match a with
  | some ⟨i, off, none⟩ => if (H.get i).any (fun o => o.esz == size) then some (.slice (some ⟨i, off + l * size, none⟩) (h - l) (h - l)) else none
  | none => if len = 0 then some (.slice none 0 0) else none
  | _ => none

/-- One operation, calls beside. -/
def evOp (call : ACall) (meth : TypeId → String → Option FuncId) (σ : Env) (H : AHeap) : AOp → Option (Value × AHeap)
  | .mov x => match σ.rd x with
    | some v => some (v, H)
    | none => none
  | .pick c a b => match σ.rd c with
    | some (.bool true) => match σ.rd a with | some v => some (v, H) | none => none
    | some (.bool false) => match σ.rd b with | some v => some (v, H) | none => none
    | _ => none
  | .alloc zero => some (.pointer (some ⟨H.next, 0, none⟩), H.new ⟨zero, zero.length⟩)
  | .box x => match σ.rd x with
    | some v => some (.pointer (some ⟨H.next, 0, none⟩), H.new ⟨v.cells.toList, v.cells.size⟩)
    | none => none
  | .build zero ps => match σ.rds (vals ps) with
    | some vs => match fillIn zero (zipParts ps vs) with
      | some cs => some (.agg cs, H)
      | none => none
    | none => none
  | .buildSlice size zero len ps => match σ.rds (ps.map (·.2)) with
    | some vs => match fillIn (repeatCells zero (len * size)) (zipParts (ps.map fun p => ((p.1 * size, size), p.2)) vs) with
      | some cs => if size = 0 then none else some (.slice (some ⟨H.next, 0, none⟩) len len, H.new ⟨cs.toList, size⟩)
      | none => none
    | none => none
  | .load n x => match σ.rd x with
    | some p => match aLoad H n p with
      | some v => some (v, H)
      | none => none
    | none => none
  | .store n a x => match σ.rd a, σ.rd x with
    | some (.pointer (some ⟨i, off, none⟩)), some v => match H.get i with
      | some o => if H.lo ≤ i ∧ v.cells.size = n ∧ off + n ≤ o.cells.length ∧ v.cells.toList.all one then some (undef, H.set i { o with cells := writeN o.cells off v.cells.toList }) else none
      | none => none
    | _, _ => none
  | .nilChk x => match σ.rd x with
    | some (.pointer (some a)) => some (.pointer (some a), H)
    | some (.func (.func f) a c) => some (.func (.func f) a c, H)
    | some (.iface t v) => some (.iface t v, H)
    | _ => none
  | .bin op x y => match σ.rd x, σ.rd y with
    | some a, some b => match aBin op a b with
      | some v => some (v, H)
      | none => none
    | _, _ => none
  | .eqB neg x y => match σ.rd x, σ.rd y with
    | some (.bool a), some (.bool b) => some (.bool (if neg then !(a == b) else a == b), H)
    | _, _ => none
  | .isNil k neg x => match σ.rd x with
    | some v => match isNilV k v with
      | some b => some (.bool (if neg then !b else b), H)
      | none => none
    | none => none
  | .un op x => match σ.rd x with
    | some a => match aUn op a with
      | some v => some (v, H)
      | none => none
    | none => none
  | .conv k x => match σ.rd x with
    | some (.int _ n) => some (.int k (k.wrap n), H)
    | _ => none
  | .mkIface t x => match σ.rd x with
    | some v => some (.iface t v, H)
    | none => none
  | .mkFunc fn a c => match σ.rds a, σ.rds c with
    | some a, some c => some (.func fn a.toArray c.toArray, H)
    | _, _ => none
  | .mkSlice size bytes zero l => match σ.rd l with
    | some (.int .i64 n) => if 0 ≤ n ∧ n * bytes ≤ 2 ^ 47 ∧ n < 2 ^ 63 ∧ 0 < size then
        some (.slice (some ⟨H.next, 0, none⟩) n.toNat n.toNat, H.new ⟨(repeatCells zero (n.toNat * size)).toList, size⟩) else none
    | _ => none
  | .slice size x lo hi => match σ.rd x, σ.rdo lo, σ.rdo hi with
    | some (.slice a len _), some lo, some hi => match aSliceBounds len lo hi with
      | some (l, h) => match aCut H size a len l h with
        | some v => some (v, H)
        | none => none
      | none => none
    | _, _, _ => none
  | .fieldAddr off x => match σ.rd x with
    | some (.pointer (some ⟨i, o, none⟩)) => some (.pointer (some ⟨i, o + off, none⟩), H)
    | _ => none
  | .field off n x => match σ.rd x with
    | some (.agg cs) => match aPart cs off n with
      | some v => some (v, H)
      | none => none
    | _ => none
  | .indexAddr arr size x i => match σ.rd i with
    | some (.int _ i) => match arr, σ.rd x with
      | some len, some (.pointer (some ⟨b, off, none⟩)) => if 0 ≤ i ∧ i < len then some (.pointer (some ⟨b, off + i.toNat * size, none⟩), H) else none
      | none, some (.slice (some ⟨b, off, none⟩) len _) => if 0 ≤ i ∧ i < len then some (.pointer (some ⟨b, off + i.toNat * size, none⟩), H) else none
      | _, _ => none
    | _ => none
  | .index len size n x i => match σ.rd x, σ.rd i with
    | some (.agg cs), some (.int _ i) => if 0 ≤ i ∧ i < len then
        match aPart cs (i.toNat * size) n with
        | some v => some (v, H)
        | none => none
      else none
    | _, _ => none
  | .extract x i => match σ.rd x with
    | some (.tuple vs) => match vs[i]? with | some v => some (v, H) | none => none
    | _ => none
  | .len str x => match str, σ.rd x with
    | false, some (.slice _ n _) => some (.int .i64 n, H)
    | true, some (.string s) => some (.int .i64 s.size, H)
    | _, _ => none
  | .append size bytes x y => match σ.rd x, σ.rd y with
    | some (.slice a n c), some (.slice b m _) => aAppend H size bytes a n c b m
    | _, _ => none
  | .minmax mx x y => match σ.rd x, σ.rd y with
    | some (.int k a), some (.int _ b) => some (.int k (if mx then (if b > a then b else a) else (if b < a then b else a)), H)
    | _, _ => none
  | .call f args => match σ.rds args with
    | some vs => call f vs H
    | none => none
  | .callQ f args => match σ.rds args with
    | some vs => match call f vs H.froz with
      | some (v, _) => if closedIn 4 v then some (v, H) else none
      | none => none
    | none => none
  | .callE gl f args => match σ.rds args with
    | some vs => match call f vs ⟨.nil, gl, gl⟩ with
      | some (v, _) => if closedIn 4 v && vs.all (closedIn 4) then some (v, H) else none
      | none => none
    | none => none
  | .invoke m x args => match σ.rd x, σ.rds args with
    | some (.iface t v), some vs => match meth t m with
      | some f => call f (v :: vs) H
      | none => none
    | _, _ => none
  | .callV x args => match σ.rd x, σ.rds args with
    | some (.func (.func f) a c), some vs => call f (a.toList ++ vs ++ c.toList) H
    | _, _ => none
  | .hold ds op => match evOp call meth σ H op with
    | some (v, H') => if ds.all (heldB σ H H') then some (v, H') else none
    | none => none

def evItems (call : ACall) (meth : TypeId → String → Option FuncId) : List AItem → Env → AHeap → Option (Env × AHeap)
  | [], σ, H => some (σ, H)
  | it :: rest, σ, H =>
    let go (σ : Env) (H : AHeap) (v : Value) := evItems call meth rest (match it.dst with | some d => σ.put d v | none => σ) H
    match it.guard with
    | none => match evOp call meth σ H it.op with
      | some (v, H') => go σ H' v
      | none => none
    | some (g, want) => match σ.find g with
      | some (.bool b) => if b = want then match evOp call meth σ H it.op with
          | some (v, H') => go σ H' v
          | none => none
        else go σ H undef
      | some _ => none
      | none => none

def hasLabel : ACode → Nat → Bool
  | .seq a b, l => hasLabel a l || hasLabel b l
  | .label l', l => l' == l
  | _, _ => false

abbrev I (d : Nat) (op : AOp) : AItem := ⟨some d, none, op⟩
abbrev I0 (op : AOp) : AItem := ⟨none, none, op⟩
abbrev IG (d : Option Nat) (g : Nat × Bool) (op : AOp) : AItem := ⟨d, some g, op⟩

abbrev ARes := Option (AEx × Env × AHeap)

def loopN (body : Env → AHeap → ARes) : Nat → Env → AHeap → ARes
  | 0, _, _ => none
  | k + 1, σ, H => match body σ H with
    | some (.norm, σ', H') => loopN body k σ' H'
    | r => r

def jumpN (body : Option Nat → Env → AHeap → ARes) (has : Nat → Bool) : Nat → Option Nat → Env → AHeap → ARes
  | 0, _, _, _ => none
  | k + 1, l, σ, H => match body l σ H with
    | some (.goto l', σ', H') => if has l' then jumpN body has k (some l') σ' H' else some (.goto l', σ', H')
    | r => r

def evC (call : ACall) (meth : TypeId → String → Option FuncId) (k : Nat) : ACode → Option Nat → Env → AHeap → ARes
  | .skip, none, σ, H => some (.norm, σ, H)
  | .reg ops live, none, σ, H => match evItems call meth ops σ H with
    | some (σ', H') => some (.norm, σ'.keep live, H')
    | none => none
  | .regd _ ops live, none, σ, H => match evItems call meth ops σ H with
    | some (σ', H') => some (.norm, σ'.keep live, H')
    | none => none
  | .seq a b, none, σ, H => match evC call meth k a none σ H with
    | some (.norm, σ', H') => evC call meth k b none σ' H'
    | r => r
  | .seq a b, some l, σ, H => if hasLabel a l then match evC call meth k a (some l) σ H with
      | some (.norm, σ', H') => evC call meth k b none σ' H'
      | r => r
    else evC call meth k b (some l) σ H
  | .cond c a b, none, σ, H => match σ.rd c with
    | some (.bool true) => evC call meth k a none σ H
    | some (.bool false) => evC call meth k b none σ H
    | _ => none
  | .block id b, none, σ, H => match evC call meth k b none σ H with
    | some (.exit id', σ', H') => if id' = id then some (.norm, σ', H') else some (.exit id', σ', H')
    | r => r
  | .loop b, none, σ, H => loopN (evC call meth k b none) k σ H
  | .exit id, none, σ, H => some (.exit id, σ, H)
  | .scope b, none, σ, H => jumpN (evC call meth k b) (hasLabel b) k none σ H
  | .label _, none, σ, H => some (.norm, σ, H)
  | .label l', some l, σ, H => if l' = l then some (.norm, σ, H) else none
  | .goto l, none, σ, H => some (.goto l, σ, H)
  | .ret, none, σ, H => some (.ret, σ, H)
  | _, some _, _, _ => none

inductive ARv where
  | tmp (t : Nat)
  | cell (a : Nat) (n : Option Nat)
  deriving Inhabited

structure AFn where
  nargs : Nat
  res : List ARv
  body : ACode
  deriving Inhabited

def argEnv : Nat → List Value → Env
  | _, [] => []
  | n, v :: vs => (n, v) :: argEnv (n + 1) vs

def evRes (σ : Env) (H : AHeap) : List ARv → Option (List Value)
  | [] => some []
  | r :: rs => match (match r with
      | .tmp t => σ.find t
      | .cell a n => match σ.find a with
        | some p => aLoad H n p
        | none => none) with
    | none => none
    | some v => match evRes σ H rs with
      | none => none
      | some vs => some (v :: vs)

def asResult : List Value → Value
  | [v] => v
  | vs => .tuple vs.toArray

structure AProg where
  fn : FuncId → Option AFn
  prim : FuncId → Option (List Value → AHeap → Option (Value × AHeap))
  meth : TypeId → String → Option FuncId

def evFn (T : AProg) : Nat → ACall
  | 0, _, _, _ => none
  | k + 1, f, args, H => match T.prim f with
    | some p => p args H
    | none => match T.fn f with
      | none => none
      | some fn => if args.length ≠ fn.nargs then none else match evC (evFn T k) T.meth k fn.body none (argEnv 0 args) H with
        | some (.norm, σ, H') => match evRes σ H' fn.res with
          | some vs => some (asResult vs, H')
          | none => none
        | some (.ret, σ, H') => match evRes σ H' fn.res with
          | some vs => some (asResult vs, H')
          | none => none
        | _ => none

end Go.Ab

/- The check of an abstract operation against the program's own, and its soundness: operands. -/
namespace Go.Ab
open Go

theorem eqVs_eq {f : Value → Value → Bool} (hf : ∀ a b, f a b = true → a = b) : ∀ l m, eqVs f l m = true → l = m
  | [], [], _ => rfl
  | a :: as, b :: bs, h => by
    simp only [eqVs, Bool.and_eq_true] at h
    rw [hf a b h.1, eqVs_eq hf as bs h.2]
  | [], _ :: _, h => by simp [eqVs] at h
  | _ :: _, [], h => by simp [eqVs] at h

theorem arr_eq {a b : Array Value} (h : a.toList = b.toList) : a = b := Array.ext' h

theorem eqV_eq : ∀ d a b, eqV d a b = true → a = b := by
  intro d
  induction d with
  | zero =>
    intro a b h
    cases a <;> cases b <;> simp_all [eqV]
  | succ d ih =>
    intro a b h
    cases a <;> cases b <;> simp_all [eqV]
    case func f a c g b e => exact ⟨arr_eq (eqVs_eq ih _ _ h.1.2), arr_eq (eqVs_eq ih _ _ h.2)⟩
    case iface t a u b => exact ih _ _ h.2
    case agg a b => exact arr_eq (eqVs_eq ih _ _ h)
    case tuple a b => exact arr_eq (eqVs_eq ih _ _ h)

def chkOpd (gl : Nat) : AOpd → Operand → Bool
  | .t n, .tmp m => n == m
  | .c v, .const u => eqV 4 v u && closedIn 4 u
  | .c v, .global g => eqV 0 v (.pointer (some ⟨g, 0, none⟩)) && decide (g < gl)
  | .c v, .func f => eqV 1 v (.func (.func f) #[] #[])
  | _, _ => false

structure EnvR (ι : Inj) (N : Nat) (σ : Env) (a : Act) : Prop where
  val : ∀ n v, σ.find n = some v → ∃ v', a.tmps[n]? = some v' ∧ VR ι v v'
  size : a.tmps.size = N
  defers : a.defers = []

theorem EnvR.mono {ι ι' : Inj} {N : Nat} {σ : Env} {a : Act} (hl : ι.le ι') (h : EnvR ι N σ a) : EnvR ι' N σ a :=
  ⟨fun n v hn => let ⟨v', h1, h2⟩ := h.val n v hn; ⟨v', h1, h2.mono hl⟩, h.size, h.defers⟩

theorem Env.find_put (σ : Env) (n : Nat) (v : Value) (m : Nat) : (σ.put n v).find m = if n = m then some v else σ.find m := by
  induction σ with
  | nil => simp [Env.put, Env.find]
  | cons p r ih =>
    obtain ⟨k, u⟩ := p
    simp only [Env.put]
    split
    · rename_i h; subst h
      simp only [Env.find]
      split <;> simp_all
    · rename_i h
      simp only [Env.find]
      split
      · rename_i h2; subst h2; rw [if_neg (fun x => h x.symm)]
      · exact ih

theorem Env.find_keep {σ : Env} {l : List Nat} {n : Nat} {v : Value} (h : (σ.keep l).find n = some v) : σ.find n = some v := by
  induction σ with
  | nil => simp [Env.keep, Env.find] at h
  | cons p r ih =>
    obtain ⟨k, u⟩ := p
    simp only [Env.keep, List.filter_cons] at h ih
    split at h
    · simp only [Env.find] at h ⊢
      split
      · rename_i e; rw [if_pos e] at h; exact h
      · rename_i e; rw [if_neg e] at h; exact ih h
    · rename_i hk
      simp only [Env.find]
      split
      · rename_i e; subst e
        exfalso
        have key : ∀ (r : Env), Env.find (List.filter (fun p => l.contains p.1) r) k = none := by
          intro r
          induction r with
          | nil => rfl
          | cons q s ihs =>
            obtain ⟨k', u'⟩ := q
            simp only [List.filter_cons]
            split
            · rename_i hq
              simp only [Env.find]
              split
              · rename_i e; subst e; exact absurd hq hk
              · exact ihs
            · exact ihs
        rw [key r] at h; cases h
      · exact ih h

theorem EnvR.keep {ι : Inj} {N : Nat} {σ : Env} {a : Act} (h : EnvR ι N σ a) (l : List Nat) : EnvR ι N (σ.keep l) a :=
  ⟨fun n v hn => h.val n v (Env.find_keep hn), h.size, h.defers⟩

theorem EnvR.put {ι : Inj} {N : Nat} {σ : Env} {a : Act} (h : EnvR ι N σ a) {n : Nat} (hn : n < N) {v v' : Value} (hv : VR ι v v') :
    EnvR ι N (σ.put n v) (a.put (some n) v') := by
  refine ⟨?_, by simp [Act.put, h.size], h.defers⟩
  intro m u hm
  rw [Env.find_put] at hm
  split at hm
  · rename_i e; subst e; cases hm
    exact ⟨v', by simp [Act.put, h.size, hn], hv⟩
  · rename_i e
    obtain ⟨u', h1, h2⟩ := h.val m u hm
    exact ⟨u', by simpa [Act.put, Array.getElem?_setIfInBounds_ne e] using h1, h2⟩

section
variable {G : Glob} {ι : Inj} {H : AHeap} {w : World} {N : Nat} {σ : Env} {a : Act}

theorem rd_sound (hr : Rel G ι H w) (he : EnvR ι N σ a) {x : AOpd} {y : Operand} (hc : chkOpd G.n x y = true) {v : Value} (hv : σ.rd x = some v) : VR ι v (a.eval y) := by
  cases x with
  | t n =>
    cases y <;> simp [chkOpd] at hc
    case tmp m =>
      subst hc
      obtain ⟨v', h1, h2⟩ := he.val n v hv
      simpa [Act.eval, h1] using h2
  | c u =>
    simp only [Env.rd, Option.some.injEq] at hv
    subst hv
    cases y <;> simp [chkOpd] at hc
    case const x => rw [eqV_eq _ _ _ hc.1]; exact closedIn_vr ι 4 x hc.2
    case global g =>
      rw [eqV_eq _ _ _ hc.1]
      obtain ⟨e, h1, h2, h3⟩ := hr.glb g hc.2
      have := VR.ptr (off := 0) h1
      rw [h2, h3] at this
      exact this
    case func f =>
      rw [eqV_eq _ _ _ hc]
      exact .func _ _ _ _ _ rfl (by simp) rfl (by simp)

/-- Lists of values, one by one. -/
inductive LVR (ι : Inj) : List Value → List Value → Prop
  | nil : LVR ι [] []
  | cons {v v' : Value} {l l' : List Value} : VR ι v v' → LVR ι l l' → LVR ι (v :: l) (v' :: l')

theorem LVR.length {ι : Inj} {l l' : List Value} (h : LVR ι l l') : l.length = l'.length := by
  induction h <;> simp_all

theorem LVR.get {ι : Inj} {l l' : List Value} (h : LVR ι l l') : ∀ (k : Nat) v, l[k]? = some v → ∃ v', l'[k]? = some v' ∧ VR ι v v' := by
  induction h with
  | nil => intro k v h; simp at h
  | cons hv _ ih =>
    intro k v h
    cases k with
    | zero => simp at h; subst h; exact ⟨_, by simp, hv⟩
    | succ k => simpa using ih k v (by simpa using h)

theorem LVR.avr {ι : Inj} {l l' : List Value} (h : LVR ι l l') : AVR ι l.toArray l'.toArray := by
  refine ⟨by simp [h.length], fun k v v' h1 h2 => ?_⟩
  obtain ⟨u, hu, hr⟩ := h.get k v (by simpa using h1)
  rw [show l'.toArray[k]? = l'[k]? by simp, hu] at h2
  cases h2; exact hr

theorem LVR.of_get {ι : Inj} : ∀ {l l' : List Value}, l.length = l'.length → (∀ (k : Nat) v v', l[k]? = some v → l'[k]? = some v' → VR ι v v') → LVR ι l l'
  | [], [], _, _ => .nil
  | v :: l, v' :: l', h, hk => .cons (hk 0 v v' rfl rfl) (LVR.of_get (by simpa using h) fun k u u' a b => hk (k + 1) u u' (by simpa using a) (by simpa using b))
  | [], _ :: _, h, _ => by simp at h
  | _ :: _, [], h, _ => by simp at h

theorem AVR.lvr {ι : Inj} {a b : Array Value} (h : AVR ι a b) : LVR ι a.toList b.toList :=
  LVR.of_get (by simpa using h.1) fun k v v' h1 h2 => h.2 k v v' (by simpa using h1) (by simpa using h2)

theorem LVR.mono {ι ι' : Inj} (hl : ι.le ι') {l l' : List Value} (h : LVR ι l l') : LVR ι' l l' := by
  induction h with
  | nil => exact .nil
  | cons hv _ ih => exact .cons (hv.mono hl) ih

theorem LVR.append {ι : Inj} {a b c d : List Value} (h : LVR ι a b) (h' : LVR ι c d) : LVR ι (a ++ c) (b ++ d) := by
  induction h with
  | nil => exact h'
  | cons hv _ ih => exact .cons hv ih

def chkOpds (gl : Nat) : List AOpd → List Operand → Bool
  | [], [] => true
  | x :: xs, y :: ys => chkOpd gl x y && chkOpds gl xs ys
  | _, _ => false

theorem rds_sound (hr : Rel G ι H w) (he : EnvR ι N σ a) : ∀ {xs : List AOpd} {ys : List Operand}, chkOpds G.n xs ys = true → ∀ {vs : List Value}, σ.rds xs = some vs → LVR ι vs (ys.map a.eval)
  | [], [], _, vs, h => by simp [Env.rds] at h; subst h; exact .nil
  | x :: xs, y :: ys, hc, vs, h => by
    simp only [chkOpds, Bool.and_eq_true] at hc
    simp only [Env.rds] at h
    split at h
    · cases h
    · rename_i v hv
      split at h
      · cases h
      · rename_i us hus
        cases h
        exact .cons (rd_sound hr he hc.1 hv) (rds_sound hr he hc.2 hus)
  | [], _ :: _, h, _, _ => by simp [chkOpds] at h
  | _ :: _, [], h, _, _ => by simp [chkOpds] at h

theorem VR.cells {v v' : Value} (h : VR ι v v') : AVR ι v.cells v'.cells := by
  have one : ∀ {u u' : Value}, VR ι u u' → AVR ι #[u] #[u'] := fun {u u'} hu => (LVR.cons hu .nil).avr
  cases h with
  | agg c c' h1 h2 => exact ⟨h1, h2⟩
  | sl h1 h2 h3 => exact one (.sl h1 h2 h3)
  | slE => exact one .slE
  | ptr h => exact one (.ptr h)
  | func fn f c f' c' h1 h2 h3 h4 => exact one (.func fn f c f' c' h1 h2 h3 h4)
  | iface t v v' h => exact one (.iface t v v' h)
  | tuple c c' h1 h2 => exact one (.tuple c c' h1 h2)
  | bool b => exact one (.bool b)
  | int k n => exact one (.int k n)
  | float k n => exact one (.float k n)
  | complex k a b => exact one (.complex k a b)
  | string s => exact one (.string s)
  | ptrNil => exact one .ptrNil
  | slNil => exact one .slNil
  | mapNil => exact one .mapNil
  | chanNil => exact one .chanNil
  | nilFunc => exact one .nilFunc
  | nilIface => exact one .nilIface

theorem one_vr {v v' : Value} (h : VR ι v v') (ho : one v = true) : v'.oneCell' = true := by
  cases h <;> first | rfl | simp [one] at ho
end
end Go.Ab

/- Soundness of the operations that make no call: memory. -/
namespace Go.Ab
open Go

theorem run_sizeOf_of {P : Program} {t : TypeId} {i : TypeInfo} (h : P.info? t = some i) (w : World) : (sizeOf t).run P w = .ok i.size w := by
  simp [sizeOf, typeInfo, h]
theorem run_zeroValue_of {P : Program} {t : TypeId} {i : TypeInfo} {z : Value} (h : P.info? t = some i) (hz : i.zero = some z) (w : World) : (zeroValue t).run P w = .ok z w := by
  simp [zeroValue, typeInfo, h, hz]
def isAggT : TypeDesc → Bool
  | .struct _ | .array _ _ => true
  | _ => false

theorem run_isAgg_of {P : Program} {t : TypeId} {d : TypeDesc} (h : P.underlying t = some d) (w : World) :
    (isAgg t).run P w = .ok (isAggT d) w := by
  simp only [isAgg, Sem.run_bind, run_underlying h, Result.andThen_ok]
  cases d <;> rfl

section
variable {P : Program} {G : Glob} {ι : Inj} {H : AHeap} {w : World}

/-- What an object says of its block. -/
theorem Rel.cellAt (hr : Rel G ι H w) {i : Nat} {o : AObj} (ho : H.get i = some o) {e : Ent} (he : ι i = some e) {k : Nat} {v : Value} (hv : o.cells[k]? = some v) :
    ∃ v', w.cell? ⟨e.blk, e.base + k, none⟩ = some v' ∧ VR ι v v' := by
  obtain ⟨e', c, t, fz, h1, _, h3, _, _, h6, _⟩ := hr.obj i o ho
  rw [he] at h1; cases h1
  obtain ⟨v', hv', hr'⟩ := h6 k v hv
  exact ⟨v', by rw [World.cell_of h3]; exact hv', hr'⟩

theorem addr_add (b o n : Nat) : (⟨b, o, none⟩ : Addr).add n = ⟨b, o + n, none⟩ := by
  unfold Addr.add; split <;> simp_all

theorem readN_get {cells : List Value} {off n : Nat} {l : List Value} (h : readN cells off n = some l) : l.length = n ∧ ∀ (k : Nat) v, l[k]? = some v → cells[off + k]? = some v := by
  unfold readN at h
  split at h
  · cases h
    refine ⟨by simp; omega, fun k v hk => ?_⟩
    rw [List.getElem?_take] at hk
    split at hk
    · simpa [List.getElem?_drop] using hk
    · cases hk
  · cases h

/-- A row of cells is read. -/
theorem read_cells (hr : Rel G ι H w) {i off n : Nat} {e : Ent} (he : ι i = some e) {l : List Value} (h : H.read i off n = some l) :
    ∃ l', l'.length = n ∧ LVR ι l l' ∧ ∀ (j : Nat) v, l'[j]? = some v → w.cell? ((⟨e.blk, e.base + off, none⟩ : Addr).add j) = some v := by
  unfold AHeap.read at h
  split at h
  · cases h
  · rename_i o ho
    obtain ⟨hl, hg⟩ := readN_get h
    have key : ∀ k, k < n → ∃ v', w.cell? ⟨e.blk, e.base + (off + k), none⟩ = some v' ∧ ∀ v, l[k]? = some v → VR ι v v' := by
      intro k hk
      have hlk : l[k]? = some (l[k]'(by omega)) := List.getElem?_eq_getElem _
      obtain ⟨v', h1, h2⟩ := hr.cellAt ho he (hg k _ hlk)
      exact ⟨v', h1, fun v hv => by rw [hlk] at hv; cases hv; exact h2⟩
    refine ⟨(List.range n).map fun k => if h : k < n then (key k h).choose else undef, by simp, ?_, ?_⟩
    · refine LVR.of_get (by simp [hl]) fun k v v' hv hv' => ?_
      have hk : k < n := by
        rcases Nat.lt_or_ge k n with h | h
        · exact h
        · rw [List.getElem?_eq_none (by omega)] at hv; cases hv
      rw [List.getElem?_map, List.getElem?_range hk] at hv'
      simp only [Option.map_some, hk, dif_pos, Option.some.injEq] at hv'
      subst hv'
      exact (key k hk).choose_spec.2 v hv
    · intro j v hv
      have hk : j < n := by
        rcases Nat.lt_or_ge j n with h | h
        · exact h
        · rw [List.getElem?_eq_none (by simpa using h)] at hv; cases hv
      rw [List.getElem?_map, List.getElem?_range hk] at hv
      simp only [Option.map_some, hk, dif_pos, Option.some.injEq] at hv
      subst hv
      rw [addr_add, Nat.add_assoc]
      exact (key j hk).choose_spec.1

theorem ptr_inv {i off : Nat} {v' : Value} (h : VR ι (.pointer (some ⟨i, off, none⟩)) v') : ∃ e, ι i = some e ∧ v' = .pointer (some ⟨e.blk, e.base + off, none⟩) := by
  cases h with
  | ptr h => exact ⟨_, h, rfl⟩

/-- LOAD, one cell. -/
theorem load_one (hr : Rel G ι H w) {t : TypeId} {d : TypeDesc} (hd : P.underlying t = some d) (hn : isAggT d = false)
    {i off : Nat} {x' : Value} (hx : VR ι (.pointer (some ⟨i, off, none⟩)) x') {o : AObj} (ho : H.get i = some o) {v : Value} (hv : o.cells[off]? = some v) :
    ∃ v', (Instr.loadAt t x').run P w = .ok v' w ∧ VR ι v v' := by
  obtain ⟨e, he, rfl⟩ := ptr_inv hx
  obtain ⟨v', h1, h2⟩ := hr.cellAt ho he hv
  refine ⟨v', ?_, h2⟩
  simp only [Instr.loadAt, Instr.sureAddr, loadVar, Sem.run_bind, Sem.run_pure, Result.andThen_ok, run_isAgg_of hd, hn]
  simp [h1]

/-- LOAD, a row of cells. -/
theorem load_row (hr : Rel G ι H w) {t : TypeId} {d : TypeDesc} (hd : P.underlying t = some d) (hn : isAggT d = true)
    {ti : TypeInfo} (hi : P.info? t = some ti) {i off : Nat} {x' : Value} (hx : VR ι (.pointer (some ⟨i, off, none⟩)) x') {l : List Value} (h : H.read i off ti.size = some l) :
    ∃ v', (Instr.loadAt t x').run P w = .ok v' w ∧ VR ι (.agg l.toArray) v' := by
  obtain ⟨e, he, rfl⟩ := ptr_inv hx
  obtain ⟨l', h1, h2, h3⟩ := read_cells hr he h
  refine ⟨.agg l'.toArray, ?_, .agg _ _ h2.avr.1 h2.avr.2⟩
  have := run_loadCells_list (P := P) w ⟨e.blk, e.base + off, none⟩ l' h3
  rw [h1] at this
  simp only [Instr.loadAt, Instr.sureAddr, loadVar, Sem.run_bind, Sem.run_pure, Result.andThen_ok, run_isAgg_of hd, hn, run_sizeOf_of hi, if_true, this]

theorem Tr.put_put : ∀ (bs : List Bool) (t : Tr) (u v : Option AObj), Tr.put bs (Tr.put bs t u) v = Tr.put bs t v
  | [], .nil, _, _ => rfl
  | [], .node _ _ _, _, _ => rfl
  | true :: bs, .nil, u, v => by simp [Tr.put, Tr.put_put bs]
  | false :: bs, .nil, u, v => by simp [Tr.put, Tr.put_put bs]
  | true :: bs, .node _ _ _, u, v => by simp [Tr.put, Tr.put_put bs]
  | false :: bs, .node _ _ _, u, v => by simp [Tr.put, Tr.put_put bs]

theorem AHeap.set_set (H : AHeap) (i : Nat) (o p : AObj) : (H.set i o).set i p = H.set i p := by
  simp [AHeap.set, Tr.put_put]

/-- A heap that tells the same. -/
theorem Rel.same {H' : AHeap} (hr : Rel G ι H w) (hg : ∀ i, H'.get i = H.get i) (hn : H'.next = H.next) (hl : H'.lo = H.lo) : Rel G ι H' w where
  obj i o ho := by rw [hg] at ho; rw [hl]; exact hr.obj i o ho
  ent i e he := by rw [hn]; exact hr.ent i e he
  sep i j e f o p ho hp := by rw [hg] at ho hp; rw [hl]; exact hr.sep i j e f o p ho hp
  lo := by rw [hl, hn]; exact hr.lo
  glb := hr.glb
  top i e o hi ho he := by rw [hg] at ho; rw [hl] at hi; exact hr.top i e o hi ho he
  env := hr.env

theorem Post.same {ι' : Inj} {H₁ H' : AHeap} {w' : World} (h : Post G ι H w ι' H₁ w') (hg : ∀ i, H'.get i = H₁.get i) (hn : H'.next = H₁.next) (hl : H'.lo = H₁.lo) : Post G ι H w ι' H' w' where
  rel := h.rel.same hg hn hl
  ext := h.ext
  lo := hl.trans h.lo
  next := hn ▸ h.next
  size := h.size
  frame := h.frame
  own i e o hi ho he := by rw [hg] at ho; exact h.own i e o hi ho he
  os := h.os
  out := h.out
  tape := h.tape

theorem AHeap.set_same_get (H : AHeap) {i : Nat} {o : AObj} (h : H.get i = some o) (j : Nat) : (H.set i o).get j = H.get j := by
  rw [AHeap.get_set]
  split
  · rename_i x; rw [x.1, h]
  · rfl

/-- STORE: a row of cells. -/
theorem store_cells {i : Nat} {e : Ent} (he : ι i = some e) : ∀ {vs vs' : List Value}, LVR ι vs vs' → ∀ {H : AHeap} {w : World} {o : AObj} {off j : Nat}, Rel G ι H w → H.lo ≤ i →
    H.get i = some o → vs.all one = true → off + j + vs.length ≤ o.cells.length →
    ∃ w', (storeCells ⟨e.blk, e.base + off, none⟩ vs' j).run P w = .ok () w' ∧ Post G ι H w ι (H.set i { o with cells := writeN o.cells (off + j) vs }) w' := by
  intro vs vs' hvs
  induction hvs with
  | nil =>
    intro H w o off j hr hlo ho _ _
    exact ⟨w, rfl, (Post.refl hr).same (fun k => AHeap.set_same_get H ho k) rfl rfl⟩
  | @cons v v' l l' hv hl ih =>
    intro H w o off j hr hlo ho hone hlen
    simp only [List.all_cons, Bool.and_eq_true] at hone
    simp only [List.length_cons] at hlen
    have hoff : off + j < o.cells.length := by omega
    obtain ⟨u, hu, _⟩ := hr.cellAt ho he (List.getElem?_eq_getElem hoff)
    obtain ⟨e', c, t, fz, g1, _, g3, _, _, _, g7⟩ := hr.obj i o ho
    rw [he] at g1; cases g1
    have hfz : w.frozen? ⟨e.blk, e.base + (off + j), none⟩ = false := by
      simp [World.frozen?, g3, g7 hlo]
    have h1 := Post.set hr ho he hlo hoff hv
    have ho' : (H.set i { o with cells := o.cells.set (off + j) v }).get i = some { o with cells := o.cells.set (off + j) v } := AHeap.get_set_same _ _ _ (AHeap.get_lt ho)
    obtain ⟨w', h2, h3⟩ := ih (off := off) (j := j + 1) h1.rel hlo ho' hone.2 (by simp; omega)
    refine ⟨w', ?_, ?_⟩
    · have hst : (store ((⟨e.blk, e.base + off, none⟩ : Addr).add j) v').run P w = .ok () (w.setCell ⟨e.blk, e.base + (off + j), none⟩ v') := by
        rw [addr_add, Nat.add_assoc, run_store P w _ v' _ (one_vr hv hone.1), hu]
        simp [hfz]
      simp only [storeCells, Sem.run_bind, hst, Result.andThen_ok, h2]
    · have := h1.trans h3
      rw [AHeap.set_set] at this
      simpa [writeN, Nat.add_assoc] using this

/-- A new variable or row. -/
theorem new_row (hr : Rel G ι H w) (t : TypeId) (esz : Nat) {c c' : Array Value} (hc : AVR ι c c') :
    (newRow t c').run P w = .ok ⟨w.heap.size, 0, none⟩ { w with heap := w.heap.push (.cells c' t) } ∧
    Post G ι H w (ι.put H.next ⟨w.heap.size, 0, c'.size, esz⟩) (H.new ⟨c.toList, esz⟩) { w with heap := w.heap.push (.cells c' t) } ∧
    VR (ι.put H.next ⟨w.heap.size, 0, c'.size, esz⟩) (.pointer (some ⟨H.next, 0, none⟩)) (.pointer (some ⟨w.heap.size, 0, none⟩)) := by
  refine ⟨rfl, Post.new hr c' t c.toList esz (by simp [hc.1]) (fun k v hk => hc.get (by simpa using hk)), ?_⟩
  have := VR.ptr (ι := ι.put H.next ⟨w.heap.size, 0, c'.size, esz⟩) (off := 0) (Inj.put_same ι H.next ⟨w.heap.size, 0, c'.size, esz⟩)
  simpa using this

end
end Go.Ab

/- Soundness: aggregates, new rows, cuts, append. -/
namespace Go.Ab
open Go

section
variable {P : Program} {G : Glob} {ι : Inj} {H : AHeap} {w : World}

theorem AVR.set {a b : Array Value} (h : AVR ι a b) {v v' : Value} (hv : VR ι v v') (k : Nat) : AVR ι (a.setIfInBounds k v) (b.setIfInBounds k v') := by
  refine ⟨by simp [h.1], fun j u u' hu hu' => ?_⟩
  rw [Array.getElem?_setIfInBounds] at hu hu'
  split at hu
  · rename_i e
    rw [if_pos e] at hu'
    split at hu
    · split at hu'
      · cases hu; cases hu'; exact hv
      · cases hu'
    · cases hu
  · rename_i e
    rw [if_neg e] at hu'
    exact h.2 j u u' hu hu'

theorem fold_avr (off : Nat) : ∀ {l l' : List Value}, LVR ι l l' → ∀ (n : Nat) {a b : Array Value}, AVR ι a b →
    AVR ι ((l.zipIdx n).foldl (fun cs (c, j) => cs.setIfInBounds (off + j) c) a) ((l'.zipIdx n).foldl (fun cs (c, j) => cs.setIfInBounds (off + j) c) b) := by
  intro l l' h
  induction h with
  | nil => intro n a b h; exact h
  | cons hv _ ih => intro n a b h; simp only [List.zipIdx_cons, List.foldl_cons]; exact ih (n + 1) (h.set hv _)

theorem fold_avr' {v v' : Value} (hv : VR ι v v') (off : Nat) {a b : Array Value} (h : AVR ι a b) :
    AVR ι (v.cells.zipIdx.foldl (fun cs (c, j) => cs.setIfInBounds (off + j) c) a) (v'.cells.zipIdx.foldl (fun cs (c, j) => cs.setIfInBounds (off + j) c) b) := by
  rw [← Array.foldl_toList, ← Array.foldl_toList, Array.toList_zipIdx, Array.toList_zipIdx]
  exact fold_avr off hv.cells.lvr 0 h

/-- The parts of a literal: where each goes, and what it is. -/
inductive PartsR (ι : Inj) (place : Nat → Option (Nat × Nat)) : List ((Nat × Nat) × Value) → List (Nat × Value) → Prop
  | nil : PartsR ι place [] []
  | cons {p : Nat × Nat} {i : Nat} {v v' : Value} {l l'} : place i = some p → VR ι v v' → PartsR ι place l l' → PartsR ι place ((p, v) :: l) ((i, v') :: l')

theorem fill_sound {place : Nat → Option (Nat × Nat)} {l : List ((Nat × Nat) × Value)} {l' : List (Nat × Value)} (h : PartsR ι place l l') :
    ∀ {a b : Array Value}, AVR ι a b → ∀ {cs : Array Value}, fillIn a l = some cs → ∃ cs', Instr.fill place b l' = some cs' ∧ AVR ι cs cs' := by
  induction h with
  | nil => intro a b hab cs h; simp [fillIn] at h; subst h; exact ⟨b, rfl, hab⟩
  | @cons p i v v' l l' hp hv _ ih =>
    intro a b hab cs h
    obtain ⟨off, size⟩ := p
    simp only [fillIn] at h
    split at h
    · cases h
    · rename_i hc
      obtain ⟨cs', h1, h2⟩ := ih (fold_avr' hv off hab) h
      refine ⟨cs', ?_, h2⟩
      simp only [Instr.fill, hp]
      rw [← hv.cells.1, ← hab.1, if_neg hc]
      exact h1

theorem AVR.refl_closed {c : Array Value} {d : Nat} (h : c.toList.all (closedIn d) = true) : AVR ι c c := by
  refine ⟨rfl, fun k v v' hv hv' => ?_⟩
  rw [hv] at hv'; cases hv'
  rw [List.all_eq_true] at h
  exact closedIn_vr ι d v (h v (Array.mem_toList_iff.2 (Array.mem_of_getElem? hv)))

theorem mapM_sizes (fields : List Field) (hf : ∀ f ∈ fields, (P.info? f.type).isSome = true) (w : World) :
    (fields.mapM (m := Sem) fun f => do pure (f.offset, ← sizeOf f.type)).run P w = .ok (fields.map fun f => (f.offset, P.cellsOf f.type)) w := by
  induction fields with
  | nil => rfl
  | cons f r ih =>
    obtain ⟨i, hi⟩ := Option.isSome_iff_exists.1 (hf f (by simp))
    have := ih (fun g hg => hf g (by simp [hg]))
    simp only [List.mapM_cons, Sem.run_bind, run_sizeOf_of hi, Result.andThen_ok, Sem.run_pure, this, List.map_cons, Program.cellsOf, hi, Option.map_some, Option.getD_some]

/-- A struct's literal. -/
theorem build_struct {t : TypeId} {fields : Array Field} {ti : TypeInfo} {z : Value} (hu : P.underlying t = some (.struct fields)) (hi : P.info? t = some ti) (hz : ti.zero = some z)
    (hf : ∀ f ∈ fields.toList, (P.info? f.type).isSome = true) (hcl : z.cells.toList.all (closedIn 4) = true)
    {l : List ((Nat × Nat) × Value)} {l' : List (Nat × Value)} (hp : PartsR ι (fun i => (fields[i]?).map fun f => (f.offset, P.cellsOf f.type)) l l') {cs : Array Value} (h : fillIn z.cells l = some cs) :
    ∃ v', (Instr.build t l'.toArray).run P w = .ok v' w ∧ VR ι (.agg cs) v' := by
  have hm : (fields.mapM (m := Sem) fun f => do pure (f.offset, ← sizeOf f.type)).run P w = .ok (fields.map fun f => (f.offset, P.cellsOf f.type)) w := by
    have e : fields.mapM (m := Sem) (fun f => do pure (f.offset, ← sizeOf f.type)) = List.toArray <$> fields.toList.mapM (m := Sem) (fun f => do pure (f.offset, ← sizeOf f.type)) := by
      rw [Array.mapM_eq_mapM_toList]
    rw [e, Sem.run_map, mapM_sizes _ hf]
    simp only [Result.andThen_ok]
    congr 1
    apply Array.ext'
    simp
  have hplace : (fun (i : Nat) => (fields.map fun (f : Field) => (f.offset, P.cellsOf f.type))[i]?) = fun (i : Nat) => (fields[i]?).map fun (f : Field) => (f.offset, P.cellsOf f.type) := by
    funext i; simp
  obtain ⟨cs', h1, h2⟩ := fill_sound hp (AVR.refl_closed hcl) h
  refine ⟨.agg cs', ?_, .agg _ _ h2.1 h2.2⟩
  simp only [Instr.build, Sem.run_bind, run_zeroValue_of hi hz, Result.andThen_ok, run_underlying hu, hm]
  simp only [hplace, h1, Sem.run_pure]

/-- An array's literal. -/
theorem build_array {t e : TypeId} {n : Nat} {ti ei : TypeInfo} {z : Value} (hu : P.underlying t = some (.array n e)) (hi : P.info? t = some ti) (hz : ti.zero = some z) (he : P.info? e = some ei)
    (hcl : z.cells.toList.all (closedIn 4) = true)
    {l : List ((Nat × Nat) × Value)} {l' : List (Nat × Value)} (hp : PartsR ι (fun i => some (i * ei.size, ei.size)) l l') {cs : Array Value} (h : fillIn z.cells l = some cs) :
    ∃ v', (Instr.build t l'.toArray).run P w = .ok v' w ∧ VR ι (.agg cs) v' := by
  obtain ⟨cs', h1, h2⟩ := fill_sound hp (AVR.refl_closed hcl) h
  refine ⟨.agg cs', ?_, .agg _ _ h2.1 h2.2⟩
  simp only [Instr.build, Sem.run_bind, run_zeroValue_of hi hz, Result.andThen_ok, run_underlying hu, run_sizeOf_of he]
  simp [h1]

theorem sl_put {c' : Array Value} {n esz : Nat} (h : n * esz = c'.size) (i : Nat) (b cap : Nat) (hcap : cap = n) (c : Nat) :
    VR (ι.put i ⟨b, 0, c'.size, esz⟩) (.slice (some ⟨i, 0, none⟩) n c) (.slice (some ⟨b, 0, none⟩) n cap) := by
  have := VR.sl (ι := ι.put i ⟨b, 0, c'.size, esz⟩) (off := 0) (len := n) (cap := cap) (c := c) (Inj.put_same ι i ⟨b, 0, c'.size, esz⟩) (by omega) (by subst hcap; simp; omega)
  simpa using this

theorem size_repeat (z : Array Value) (n : Nat) : (repeatCells z n).size = n := by simp [repeatCells]

theorem closed_repeat {z : Array Value} (h : z.toList.all (closedIn 4) = true) (n : Nat) (h0 : n = 0 ∨ 0 < z.size) : (repeatCells z n).toList.all (closedIn 4) = true := by
  rw [List.all_eq_true]
  intro v hv
  simp only [repeatCells, Array.toList_map, List.mem_map] at hv
  obtain ⟨k, hk, rfl⟩ := hv
  have hz : 0 < z.size := by
    rcases h0 with h0 | h0
    · subst h0; simp at hk
    · exact h0
  rw [List.all_eq_true] at h
  have hlt : k % z.size < z.size := Nat.mod_lt _ hz
  simp only [getElem!_pos z (k % z.size) hlt]
  exact h _ (Array.mem_toList_iff.2 (Array.getElem_mem _))

/-- A slice's literal. -/
theorem buildSlice_sound (hr : Rel G ι H w) {t e : TypeId} {ei : TypeInfo} {z : Value} (hu : P.underlying t = some (.slice e)) (he : P.info? e = some ei) (hz : ei.zero = some z)
    (hcl : z.cells.toList.all (closedIn 4) = true) (hzs : z.cells.size = ei.size) {len : Nat} (hbig : len * ei.size ≤ 2 ^ 24)
    {l : List ((Nat × Nat) × Value)} {l' : List (Nat × Value)} (hp : PartsR ι (fun i => some (i * ei.size, ei.size)) l l') {cs : Array Value} (h : fillIn (repeatCells z.cells (len * ei.size)) l = some cs) :
    ∃ v' w' ι', (Instr.buildSlice t len l'.toArray).run P w = .ok v' w' ∧ Post G ι H w ι' (H.new ⟨cs.toList, ei.size⟩) w' ∧ VR ι' (.slice (some ⟨H.next, 0, none⟩) len len) v' := by
  have size_fill : ∀ (l : List ((Nat × Nat) × Value)) (a b : Array Value), fillIn a l = some b → b.size = a.size := by
    intro l
    induction l with
    | nil => intro a b h; simp [fillIn] at h; rw [h]
    | cons p r ih =>
      intro a b h
      obtain ⟨⟨off, size⟩, v⟩ := p
      simp only [fillIn] at h
      split at h
      · cases h
      · rw [ih _ _ h]
        have key : ∀ (q : List (Value × Nat)) (a : Array Value), (q.foldl (fun cs (c, j) => cs.setIfInBounds (off + j) c) a).size = a.size := by
          intro q
          induction q with
          | nil => intro a; rfl
          | cons x q ihq => intro a; simp only [List.foldl_cons]; rw [ihq]; simp
        rw [← Array.foldl_toList]
        exact key _ _
  obtain ⟨cs', h1, h2⟩ := fill_sound hp (AVR.refl_closed (closed_repeat hcl (len * ei.size) (by
    rcases Nat.eq_zero_or_pos (len * ei.size) with h | h
    · exact .inl h
    · exact .inr (by rw [hzs]; exact Nat.pos_of_mul_pos_left h)))) h
  have hsz : cs'.size = len * ei.size := by rw [← h2.1, size_fill _ _ _ h, size_repeat]
  obtain ⟨g1, g2, _⟩ := new_row (P := P) hr e ei.size h2
  refine ⟨.slice (some ⟨w.heap.size, 0, none⟩) len len, _, _, ?_, g2, sl_put hsz.symm _ _ _ rfl _⟩
  have hn : ¬ (len * ei.size > 2 ^ 24) := by omega
  simp only [Instr.buildSlice, Sem.run_bind, run_underlying hu, Result.andThen_ok, run_sizeOf_of he, if_neg hn]
  by_cases h0 : len * ei.size = 0
  · have harr : (Array.range (len * ei.size)).map ((#[] : Array Value)[· % (#[] : Array Value).size]!) = repeatCells z.cells (len * ei.size) := by
      simp [h0, repeatCells]
    rw [if_pos h0]
    simp only [Sem.run_bind, Sem.run_pure, Result.andThen_ok, harr, h1, g1]
  · rw [if_neg h0]
    have harr : (Array.range (len * ei.size)).map (z.cells[· % z.cells.size]!) = repeatCells z.cells (len * ei.size) := rfl
    simp only [Sem.run_bind, Sem.run_pure, Result.andThen_ok, run_zeroValue_of he hz, harr, h1, g1]

end
end Go.Ab

/- Soundness: made slices, cuts, append. -/
namespace Go.Ab
open Go

section
variable {P : Program} {G : Glob} {ι : Inj} {H : AHeap} {w : World}

theorem zeroCells_eq (z : Array Value) (n : Nat) : Builtin.zeroCells z n = repeatCells z (n * z.size) := rfl

theorem wrap64_of {n : Int} (h0 : 0 ≤ n) (h1 : n < 2 ^ 63) : IntKind.i64.wrap n = n := by
  have e : IntKind.i64.wrap n = if n % 18446744073709551616 ≥ 9223372036854775808 then n % 18446744073709551616 - 18446744073709551616 else n % 18446744073709551616 := by
    simp [IntKind.wrap, IntKind.bits, IntKind.signed]
  rw [e]
  split <;> omega

theorem makeSlice_sound (hr : Rel G ι H w) {t e : TypeId} {ei : TypeInfo} {z : Value} (hu : P.underlying t = some (.slice e)) (he : P.info? e = some ei) (hz : ei.zero = some z)
    (hcl : z.cells.toList.all (closedIn 4) = true) (hzs : z.cells.size = ei.size) {n : Int} (h0 : 0 ≤ n) (h1 : n * ei.bytes ≤ 2 ^ 47) (h2 : n < 2 ^ 63) (h3 : 0 < ei.size) :
    ∃ v' w' ι', (Instr.makeSlice t (.int .i64 n) (.int .i64 n)).run P w = .ok v' w' ∧ Post G ι H w ι' (H.new ⟨(repeatCells z.cells (n.toNat * ei.size)).toList, ei.size⟩) w' ∧
      VR ι' (.slice (some ⟨H.next, 0, none⟩) n.toNat n.toNat) v' := by
  have hc := AVR.refl_closed (ι := ι) (closed_repeat hcl (n.toNat * ei.size) (.inr (by omega)))
  obtain ⟨g1, g2, _⟩ := new_row (P := P) hr e ei.size hc
  refine ⟨.slice (some ⟨w.heap.size, 0, none⟩) n.toNat n.toNat, _, _, ?_, g2, sl_put (by rw [size_repeat]) _ _ _ rfl _⟩
  have hw := wrap64_of h0 h2
  have hb : (ei.bytes : Int) * n ≤ 2 ^ 47 := by rw [Int.mul_comm]; exact h1
  have hb' : ¬ ((ei.bytes : Int) * n > 2 ^ 48) := by omega
  have hroom : ¬ (n.toNat * ei.bytes > roomBytes) := by
    unfold roomBytes
    have : ((n.toNat * ei.bytes : Nat) : Int) = n * ei.bytes := by
      rw [Int.natCast_mul, Int.toNat_of_nonneg h0]
    omega
  simp only [Instr.makeSlice, Sem.run_bind, run_underlying hu, Result.andThen_ok, asInt, asIntOf, Sem.run_pure, typeInfo, hw]
  have e1 : (program : Sem Program).run P w = .ok P w := rfl
  simp only [e1, Result.andThen_ok, he, Sem.run_pure]
  have hcond : ¬ ((decide (n < 0) || decide ((ei.bytes : Int) * n > 2 ^ 48)) = true ∨ n < 0 ∨ n > n) := by
    simp only [Bool.or_eq_true, decide_eq_true_eq]; omega
  have hcond' : ((decide (n < 0) || decide ((ei.bytes : Int) * n > 2 ^ 48)) || decide (n < 0) || decide (n > n)) = false := by
    simp only [Bool.or_eq_false_iff, decide_eq_false_iff_not]; omega
  simp only [hcond']
  simp only [Bool.false_eq_true, if_false, Sem.run_bind, Sem.run_pure, Result.andThen_ok, askRoom, if_neg hroom, run_sizeOf_of he]
  by_cases hn0 : n.toNat * ei.size = 0
  · have harr : (Array.range (n.toNat * ei.size)).map ((#[] : Array Value)[· % (#[] : Array Value).size]!) = repeatCells z.cells (n.toNat * ei.size) := by
      simp [hn0, repeatCells]
    rw [if_pos hn0]
    simp only [Sem.run_bind, Sem.run_pure, Result.andThen_ok, harr, g1]
  · rw [if_neg hn0]
    have harr : (Array.range (n.toNat * ei.size)).map (z.cells[· % z.cells.size]!) = repeatCells z.cells (n.toNat * ei.size) := rfl
    simp only [Sem.run_bind, Sem.run_pure, Result.andThen_ok, run_zeroValue_of he hz, harr, g1]

/-- An optional bound. -/
inductive OVR (ι : Inj) : Option Value → Option Value → Prop
  | none : OVR ι none none
  | some {v v' : Value} : VR ι v v' → OVR ι (some v) (some v')

theorem bounds_sound {lo hi lo' hi' : Option Value} (hlo : OVR ι lo lo') (hhi : OVR ι hi hi') {len l h : Nat} (hb : aSliceBounds len lo hi = some (l, h)) :
    h ≤ len ∧ l ≤ h ∧ ∀ cap, len ≤ cap → (Instr.sliceBounds true len cap lo' hi' none).run P w = .ok (l, h, cap) w := by
  have bd : ∀ {v : Value} {y n : Nat}, aBound v y = some n → ∃ k i, v = .int k i ∧ 0 ≤ i ∧ i ≤ (y : Int) ∧ n = i.toNat := by
    intro v y n h
    cases v <;> simp [aBound] at h
    exact ⟨_, _, rfl, h.1.1, h.1.2, h.2.symm⟩
  have low : ∀ h₁ : Nat, aLo h₁ lo = some l →
      l ≤ h₁ ∧ ((lo' = none ∧ l = 0) ∨ ∃ k n, lo' = some (.int k n) ∧ 0 ≤ n ∧ n ≤ (h₁ : Int) ∧ l = n.toNat) := by
    intro h₁ hl
    cases hlo with
    | none => simp only [aLo, Option.some.injEq] at hl; subst hl; exact ⟨Nat.zero_le _, .inl ⟨rfl, rfl⟩⟩
    | some hv =>
      obtain ⟨k, n, rfl, h0, h1, h2⟩ := bd hl
      cases hv
      exact ⟨by omega, .inr ⟨k, n, rfl, h0, h1, h2⟩⟩
  have high : ∀ h₁ : Nat, aHi len hi = some h₁ →
      h₁ ≤ len ∧ ((hi' = none ∧ h₁ = len) ∨ ∃ k n, hi' = some (.int k n) ∧ 0 ≤ n ∧ n ≤ (len : Int) ∧ h₁ = n.toNat) := by
    intro h₁ hl
    cases hhi with
    | none => simp only [aHi, Option.some.injEq] at hl; subst hl; exact ⟨Nat.le_refl _, .inl ⟨rfl, rfl⟩⟩
    | some hv =>
      obtain ⟨k, n, rfl, h0, h1, h2⟩ := bd hl
      cases hv
      exact ⟨by omega, .inr ⟨k, n, rfl, h0, h1, h2⟩⟩
  unfold aSliceBounds at hb
  split at hb
  · cases hb
  · rename_i h₁ hh
    split at hb
    · cases hb
    · rename_i l₁ hl
      cases hb
      obtain ⟨p1, p2⟩ := high _ hh
      obtain ⟨q1, q2⟩ := low _ hl
      refine ⟨p1, q1, fun cap hcap => ?_⟩
      rcases p2 with ⟨rfl, rfl⟩ | ⟨k, n, rfl, h0, h1, rfl⟩ <;> rcases q2 with ⟨rfl, rfl⟩ | ⟨k', n', rfl, h0', h1', rfl⟩
      · rfl
      · simp only [Instr.sliceBounds, Sem.run_bind, Sem.run_pure, Result.andThen_ok, run_sliceBound w k' n' _ _ h0' h1']
      · simp only [Instr.sliceBounds, Sem.run_bind, Sem.run_pure, Result.andThen_ok, run_sliceBound w k n cap _ h0 (by omega)]
      · simp only [Instr.sliceBounds, Sem.run_bind, Sem.run_pure, Result.andThen_ok, run_sliceBound w k n cap _ h0 (by omega), run_sliceBound w k' n' _ _ h0' h1']

theorem slice_sound (hr : Rel G ι H w) {t e : TypeId} {ei : TypeInfo} (hu : P.underlying t = some (.slice e)) (he : P.info? e = some ei)
    {lo hi lo' hi' : Option Value} (hlo : OVR ι lo lo') (hhi : OVR ι hi hi') {a : Option Addr} {len c l h : Nat} (hb : aSliceBounds len lo hi = some (l, h)) {x' : Value} (hx : VR ι (.slice a len c) x')
    {v : Value} (hv : aCut H ei.size a len l h = some v) :
    ∃ v', (Instr.sliceAt t x' lo' hi' none).run P w = .ok v' w ∧ VR ι v v' := by
  have hbounds := bounds_sound (P := P) (w := w) hlo hhi hb
  obtain ⟨g1, g2, g3⟩ := hbounds
  have hrun : ∀ (b : Option Addr) (cap : Nat), len ≤ cap → (Instr.sliceAt t (.slice b len cap) lo' hi' none).run P w =
      .ok (.slice (if cap = l then b else b.map (·.add (l * ei.size))) (h - l) (cap - l)) w := by
    intro b cap hcap
    simp only [Instr.sliceAt, Sem.run_bind, run_underlying hu, Result.andThen_ok, Instr.slice, g3 cap hcap, run_sizeOf_of he, Sem.run_pure]
  cases hx with
  | slNil =>
    simp only [aCut, if_true, Option.some.injEq] at hv
    subst hv
    have hl : l = 0 := by omega
    have hh : h = 0 := by omega
    refine ⟨_, hrun none 0 (Nat.le_refl _), ?_⟩
    subst hl; subst hh
    simp
    exact .slNil
  | slE =>
    simp only [aCut] at hv
    split at hv
    · cases hv
      have hl : l = 0 := by omega
      have hh : h = 0 := by omega
      refine ⟨_, hrun _ 0 (Nat.le_refl _), ?_⟩
      subst hl; subst hh
      simp
      exact .slE
    · cases hv
  | @sl i off _ cap _ ent h1 h2 h3 =>
    simp only [aCut] at hv
    split at hv
    · rename_i hsz
      cases hv
      refine ⟨_, hrun _ cap h2, ?_⟩
      cases hgo : H.get i with
      | none => rw [hgo] at hsz; simp at hsz
      | some o =>
        rw [hgo] at hsz
        simp only [Option.any_some, beq_iff_eq] at hsz
        obtain ⟨e', c', t', fz, k1, k2, _⟩ := hr.obj i o hgo
        rw [h1] at k1; cases k1
        by_cases hc : cap = l
        · have : h - l = 0 := by omega
          rw [if_pos hc, this, show cap - l = 0 by omega]
          exact .slE
        · rw [if_neg hc]
          simp only [Option.map_some, addr_add]
          rw [Nat.add_assoc]
          refine .sl h1 (by omega) ?_
          rw [k2, hsz] at h3 ⊢
          have hle : l ≤ cap := by omega
          have : cap * ei.size = l * ei.size + (cap - l) * ei.size := by rw [← Nat.add_mul]; congr 1; omega
          omega
    · cases hv
end
end Go.Ab

/- Soundness: append. -/
namespace Go.Ab
open Go

section
variable {P : Program} {G : Glob} {ι : Inj} {H : AHeap} {w : World}

theorem setRow_ne (w : World) (g b : Nat) (c : Array Value) (h : b ≠ g) : (w.setRow g c).heap[b]? = w.heap[b]? := by
  have : ¬ g = b := fun e => h e.symm
  unfold World.setRow
  simp [Array.getElem?_modify, this]

theorem setRow_size (w : World) (g : Nat) (c : Array Value) : (w.setRow g c).heap.size = w.heap.size := by
  unfold World.setRow
  simp

theorem firstCells_at (size n : Nat) (b : Addr) (len cap : Nat) (cs : List Value) (hl : cs.length = n * size) (h : ∀ (j : Nat) v, cs[j]? = some v → w.cell? (b.add j) = some v) :
    (Builtin.firstCells size n (.slice (some b) len cap)).run P w = .ok cs.toArray w := by
  exact run_firstCells_some (P := P) w size n b len cap cs hl h

/-- append, nothing. -/
theorem append_none (t ty e : TypeId) (ti : TypeInfo) (hu : P.underlying t = some (.slice e)) (he : P.info? e = some ti) (a b : Option Addr) (n c d : Nat) (hc : n ≤ c) :
    (Builtin.append_ #[t, t] ty #[.slice a n c, .slice b 0 d]).run P w = .ok (.slice a n c) w := by
  have hnew : (Builtin.firstCells ti.size 0 (.slice b 0 d)).run P w = .ok #[] w := by
    cases b with
    | none => rfl
    | some b => simpa using firstCells_at (P := P) (w := w) ti.size 0 b 0 d [] (by simp) (by simp)
  cases a with
  | none => simp [Builtin.append_, run_underlying hu, sizeOf, typeInfo, he, Builtin.lenOf, hc, hnew]
  | some a => simp [Builtin.append_, run_underlying hu, sizeOf, typeInfo, he, Builtin.lenOf, hc, hnew, storeCells]

/-- append, in place. -/
theorem append_room (t ty e : TypeId) (ti : TypeInfo) (hu : P.underlying t = some (.slice e)) (he : P.info? e = some ti)
    (g b0 sLen sCap : Nat) (cur : Array Value) (tt : TypeId) (hg : w.heap[g]? = some (.cells cur tt (0, 0)))
    (a : Addr) (m c : Nat) (news : List Value) (hl : news.length = m * ti.size) (hnews : ∀ (j : Nat) u, news[j]? = some u → w.cell? (a.add j) = some u) (h1 : ∀ u ∈ news, u.oneCell' = true)
    (hroom : sLen + m ≤ sCap) (hfit : b0 + sLen * ti.size + news.length ≤ cur.size) :
    (Builtin.append_ #[t, t] ty #[.slice (some ⟨g, b0, none⟩) sLen sCap, .slice (some a) m c]).run P w =
      .ok (.slice (some ⟨g, b0, none⟩) (sLen + m) sCap) (w.setRow g (cur.toList.take (b0 + sLen * ti.size) ++ news ++ cur.toList.drop (b0 + sLen * ti.size + news.length)).toArray) := by
  have hf := firstCells_at (P := P) (w := w) ti.size m a m c news hl hnews
  have hst := run_storeCells_at P g (b0 + sLen * ti.size) tt news 0 cur w hg (by simpa using hfit) h1
  simp only [Nat.add_zero] at hst
  simp [Builtin.append_, run_underlying hu, sizeOf, typeInfo, he, Builtin.lenOf, hroom, hf, addr_add, hst]

theorem append_sound (hr : Rel G ι H w) {t ty e : TypeId} {ei : TypeInfo} {z : Value} (hu : P.underlying t = some (.slice e)) (he : P.info? e = some ei) (hz : ei.zero = some z)
    (hzs : z.cells.size = ei.size) {a b : Option Addr} {n c m d : Nat} {x' y' : Value} (hx : VR ι (.slice a n c) x') (hy : VR ι (.slice b m d) y') {v : Value} {H' : AHeap}
    (h : aAppend H ei.size ei.bytes a n c b m = some (v, H')) :
    ∃ v' w' ι', (Builtin.append_ #[t, t] ty #[x', y']).run P w = .ok v' w' ∧ Post G ι H w ι' H' w' ∧ VR ι' v v' := by
  unfold aAppend at h
  by_cases hm : m = 0
  · rw [if_pos hm] at h
    cases h
    subst hm
    have hy' : ∃ b' d', y' = .slice b' 0 d' := by cases hy <;> exact ⟨_, _, rfl⟩
    obtain ⟨b', d', rfl⟩ := hy'
    have hx' : ∃ a' c', x' = .slice a' n c' ∧ n ≤ c' := by
      cases hx with
      | slNil => exact ⟨_, _, rfl, Nat.le_refl _⟩
      | slE => exact ⟨_, _, rfl, Nat.le_refl _⟩
      | sl h1 h2 h3 => exact ⟨_, _, rfl, h2⟩
    obtain ⟨a', c', rfl, hc'⟩ := hx'
    exact ⟨_, w, ι, append_none t ty e ei hu he a' b' n c' d' hc', Post.refl hr, hx⟩
  · rw [if_neg hm] at h
    split at h
    · rename_i j joff
      split at h
      · cases h
      · rename_i news hnews
        split at h
        · cases h
        · rename_i hcond
          simp only [Bool.not_eq_true', Bool.not_eq_false, Bool.and_eq_true, decide_eq_true_eq] at hcond
          obtain ⟨⟨⟨⟨hb1, hb2⟩, hb3⟩, hb4⟩, hb5⟩ := hcond
          -- the source
          cases hy with
          | slE => exact absurd rfl hm
          | @sl _ _ _ cap2 _ ent2 k1 k2 k3 =>
            obtain ⟨news', q1, q2, q3⟩ := read_cells hr k1 hnews
            have hone : ∀ u ∈ news', u.oneCell' = true := by
              intro u hu'
              obtain ⟨k, hk, rfl⟩ := List.mem_iff_getElem.1 hu'
              have hk2 : k < news.length := by rw [q2.length]; exact hk
              obtain ⟨u', hu1, hu2⟩ := q2.get k _ (List.getElem?_eq_getElem hk2)
              rw [List.getElem?_eq_getElem hk] at hu1
              cases hu1
              rw [List.all_eq_true] at hb5
              exact one_vr hu2 (hb5 _ (List.getElem_mem hk2))
            have hm1 : 0 < m := Nat.pos_of_ne_zero hm
            have hle : n + m ≤ (n + m) * ei.bytes := Nat.le_mul_of_pos_right _ hb2
            split at h
            · -- nil
              split at h
              · rename_i hn0
                cases h
                subst hn0
                cases hx
                have hrun := run_append_nil (P := P) w t ty e ei z hu he hz ⟨ent2.blk, ent2.base + joff, none⟩ m cap2 news' q1 q3 hm1 (by omega) (by
                  have : m * ei.bytes ≤ (0 + m) * ei.bytes := by rw [Nat.zero_add]; exact Nat.le_refl _
                  omega)
                have hc : AVR ι news.toArray news'.toArray := q2.avr
                have hnew := Post.new (Post.drew hr (w.drawn + 1)).rel (news'.toArray ++ Builtin.zeroCells z.cells (grownCap w m 0 e - m)) e news ei.size (by
                  have := q2.length; simp; omega) (fun k u hk => by
                    obtain ⟨u', h1, h2⟩ := q2.get k u hk
                    refine ⟨u', ?_, h2⟩
                    have hk' : k < news'.length := by
                      rcases Nat.lt_or_ge k news'.length with h | h
                      · exact h
                      · rw [List.getElem?_eq_none h] at h1; cases h1
                    rw [Array.getElem?_append_left (by simpa using hk')]
                    simpa using h1)
                refine ⟨_, _, _, hrun, (Post.drew hr (w.drawn + 1)).trans hnew, ?_⟩
                have hge := grownCap_ge w m 0 e
                have := VR.sl (ι := ι.put H.next ⟨w.heap.size, 0, (news'.toArray ++ Builtin.zeroCells z.cells (grownCap w m 0 e - m)).size, ei.size⟩) (i := H.next) (off := 0) (len := m) (cap := grownCap w m 0 e) (c := m) (Inj.put_same _ _ _) hge (by
                  simp only [Array.size_append, List.size_toArray, q1, size_zeroCells, hzs, Nat.zero_add, Nat.add_zero]
                  rw [← Nat.add_mul]
                  have : m + (grownCap w m 0 e - m) = grownCap w m 0 e := by omega
                  rw [this]
                  exact Nat.le_refl _)
                simpa using this
              · cases h
            · rename_i i off
              split at h
              · cases h
              · rename_i o ho
                split at h
                · rename_i hcond2
                  obtain ⟨c1, c2, c3, c4⟩ := hcond2
                  cases h
                  have hnews_len : news.length = m * ei.size := by have := q2.length; omega
                  have hdrop : ∀ (k : Nat) u, (o.cells.drop off)[k]? = some u → o.cells[off + k]? = some u := by
                    intro k u hk; simpa [List.getElem?_drop] using hk
                  -- the case that it grows
                  have grow : ∀ (bb : Addr) (cap olds), olds.length = n * ei.size → LVR ι (o.cells.drop off) olds → (∀ (k : Nat) u, olds[k]? = some u → w.cell? (bb.add k) = some u) → cap < n + m →
                      ∃ v' w' ι', (Builtin.append_ #[t, t] ty #[.slice (some bb) n cap, .slice (some ⟨ent2.blk, ent2.base + joff, none⟩) m cap2]).run P w = .ok v' w' ∧
                        Post G ι H w ι' ((H.del i).new ⟨o.cells.drop off ++ news, ei.size⟩) w' ∧ VR ι' (.slice (some ⟨H.next, 0, none⟩) (n + m) (n + m)) v' := by
                    intro bb cap olds ho1 ho2 ho3 hg
                    have hrun := run_append_grow (P := P) w t ty e ei z hu he hz bb n cap olds ho1 ho3 ⟨ent2.blk, ent2.base + joff, none⟩ m cap2 news' q1 q3 hg (by omega)
                      (growslice_fits hg (by omega))
                    have hrd := ((Post.drew hr (w.drawn + 1)).del i)
                    have hall := ho2.append q2
                    have hnew := Post.new hrd.rel (olds.toArray ++ news'.toArray ++ Builtin.zeroCells z.cells (grownCap w (n + m) cap e - (n + m))) e (o.cells.drop off ++ news) ei.size (by
                      have := hall.length; simp at this; simp; omega) (fun k u hk => by
                        obtain ⟨u', h1, h2⟩ := hall.get k u hk
                        refine ⟨u', ?_, h2⟩
                        have hk' : k < (olds ++ news').length := by
                          rcases Nat.lt_or_ge k (olds ++ news').length with h | h
                          · exact h
                          · rw [List.getElem?_eq_none h] at h1; cases h1
                        have e1 : olds.toArray ++ news'.toArray = (olds ++ news').toArray := by simp
                        rw [e1, Array.getElem?_append_left (by simpa using hk')]
                        simpa using h1)
                    refine ⟨_, _, _, hrun, hrd.trans hnew, ?_⟩
                    have hge := grownCap_ge w (n + m) cap e
                    have := VR.sl (ι := ι.put H.next ⟨w.heap.size, 0, (olds.toArray ++ news'.toArray ++ Builtin.zeroCells z.cells (grownCap w (n + m) cap e - (n + m))).size, ei.size⟩) (i := H.next) (off := 0) (len := n + m) (cap := grownCap w (n + m) cap e) (c := n + m) (Inj.put_same _ _ _) hge (by
                      simp only [Array.size_append, List.size_toArray, ho1, q1, size_zeroCells, hzs, Nat.zero_add, Nat.add_zero]
                      rw [← Nat.add_mul, ← Nat.add_mul]
                      have : n + m + (grownCap w (n + m) cap e - (n + m)) = grownCap w (n + m) cap e := by omega
                      rw [this]
                      exact Nat.le_refl _)
                    simpa using this
                  cases hx with
                  | slE =>
                    have h0 : o.cells.drop off = [] := by
                      apply List.drop_eq_nil_of_le; omega
                    exact grow _ 0 [] (by simp) (by rw [h0]; exact .nil) (by simp) (by omega)
                  | @sl _ _ _ cap _ ent g1 g2 g3 =>
                    by_cases hg : cap < n + m
                    · -- grows
                      have hread : H.read i off (n * ei.size) = some (o.cells.drop off) := by
                        unfold AHeap.read readN
                        rw [ho]
                        simp only []
                        rw [if_pos (by omega), List.take_of_length_le (by simp; omega)]
                      obtain ⟨olds, p1, p2, p3⟩ := read_cells hr g1 hread
                      exact grow _ cap olds p1 p2 p3 hg
                    · -- in place
                      obtain ⟨ent', cur, tt, fz, r1, r2, r3, r4, r5, r6, r7⟩ := hr.obj i o ho
                      rw [g1] at r1; cases r1
                      have hfz := r7 c1
                      subst hfz
                      have hsz : ent.esz = ei.size := by rw [r2, c3]
                      rw [hsz] at g3
                      have hcapm : (n + m) * ei.size ≤ cap * ei.size := Nat.mul_le_mul_right _ (by omega)
                      rw [Nat.add_mul] at hcapm
                      have hfit : ent.base + off + n * ei.size + news'.length ≤ cur.size := by rw [q1, r4]; omega
                      have hrun := append_room (P := P) (w := w) t ty e ei hu he ent.blk (ent.base + off) n cap cur tt r3 ⟨ent2.blk, ent2.base + joff, none⟩ m cap2 news' q1 q3 hone (by omega) hfit
                      have hkeep : ∀ k, k < ent.base + off + n * ei.size → ∀ u, cur[k]? = some u → (cur.toList.take (ent.base + off + n * ei.size) ++ news' ++ cur.toList.drop (ent.base + off + n * ei.size + news'.length)).toArray[k]? = some u := by
                        intro k hk u hu'
                        have hk2 : k < cur.toList.length := by simp; omega
                        simp only [List.getElem?_toArray]
                        rw [List.append_assoc, List.getElem?_append_left (by simp; omega), List.getElem?_take, if_pos hk]
                        simpa using hu'
                      have hnewat : ∀ (k : Nat) u, news'[k]? = some u → (cur.toList.take (ent.base + off + n * ei.size) ++ news' ++ cur.toList.drop (ent.base + off + n * ei.size + news'.length)).toArray[ent.base + off + n * ei.size + k]? = some u := by
                        intro k u hk
                        have hk2 : k < news'.length := by
                          rcases Nat.lt_or_ge k news'.length with h | h
                          · exact h
                          · rw [List.getElem?_eq_none h] at hk; cases hk
                        simp only [List.getElem?_toArray]
                        have hlt : (cur.toList.take (ent.base + off + n * ei.size)).length = ent.base + off + n * ei.size := by simp; omega
                        rw [List.append_assoc, List.getElem?_append_right (by omega), hlt, List.getElem?_append_left (by omega)]
                        rw [show ent.base + off + n * ei.size + k - (ent.base + off + n * ei.size) = k by omega]
                        exact hk
                      have hfin : (cur.toList.take (ent.base + off + n * ei.size) ++ news' ++ cur.toList.drop (ent.base + off + n * ei.size + news'.length)).toArray.size = cur.size := by
                        simp; omega
                      have hheap := setRow_heap w ent.blk cur (cur.toList.take (ent.base + off + n * ei.size) ++ news' ++ cur.toList.drop (ent.base + off + n * ei.size + news'.length)).toArray tt (0, 0) r3
                      generalize (cur.toList.take (ent.base + off + n * ei.size) ++ news' ++ cur.toList.drop (ent.base + off + n * ei.size + news'.length)).toArray = fin at *
                      have hin : i < H.next := AHeap.get_lt ho
                      have hle2 : ι.le (ι.put H.next ⟨ent.blk, ent.base + off, ent.size, ei.size⟩) := Inj.le_put hr _
                      refine ⟨_, _, ι.put H.next ⟨ent.blk, ent.base + off, ent.size, ei.size⟩, hrun, ⟨⟨?_, ?_, ?_, ?_, ?_, fun k f p hk hp hf => ?_, G.st w _ hr.env fun bb hbb => setRow_ne _ _ _ _ (fun x => ?_)⟩, hle2, rfl, by simp, by rw [setRow_size]; exact Nat.le_refl _, ?_, ?_, rfl, rfl, rfl⟩, ?_⟩
                      case refine_6 =>
                        rw [AHeap.get_new] at hp
                        simp only [AHeap.next_del, AHeap.get_del] at hp
                        by_cases hk1 : k = H.next
                        · subst hk1
                          rw [Inj.put_same] at hf; cases hf
                          exact hr.top i ent o c1 ho g1
                        · rw [if_neg hk1] at hp
                          rw [Inj.put_ne _ _ hk1] at hf
                          split at hp
                          · cases hp
                          · exact hr.top k f p hk hp hf
                      case refine_7 => have := hr.top i ent o c1 ho g1; omega
                      · -- objects
                        intro k p hp
                        rw [AHeap.get_new] at hp
                        split at hp
                        · rename_i hk
                          cases hp
                          simp only [AHeap.next_del] at hk
                          subst hk
                          refine ⟨_, fin, tt, (0, 0), Inj.put_same _ _ _, rfl, hheap, by rw [hfin]; exact r4, ?_, ?_, fun _ => rfl⟩
                          · simp; omega
                          · intro q u hq
                            simp only []
                            by_cases hq1 : q < (o.cells.drop off).length
                            · rw [List.getElem?_append_left hq1] at hq
                              obtain ⟨u', s1, s2⟩ := r6 (off + q) u (hdrop q u hq)
                              refine ⟨u', hkeep _ (by simp at hq1; omega) u' (by rw [Nat.add_assoc]; exact s1), s2.mono hle2⟩
                            · rw [List.getElem?_append_right (by omega)] at hq
                              obtain ⟨u', s1, s2⟩ := q2.get _ u hq
                              have := hnewat _ u' s1
                              refine ⟨u', ?_, s2.mono hle2⟩
                              rw [show ent.base + off + q = ent.base + off + n * ei.size + (q - (o.cells.drop off).length) by simp at hq1 ⊢; omega]
                              exact this
                        · rename_i hk
                          simp only [AHeap.next_del] at hk
                          rw [AHeap.get_del] at hp
                          split at hp
                          · cases hp
                          · rename_i hki
                            obtain ⟨f, cc, t', fz', s1, s2, s3, s4, s5, s6, s7⟩ := hr.obj k p hp
                            have hne : f.blk ≠ ent.blk := fun x => hr.sep i k ent f o p ho hp g1 s1 c1 (fun y => hki y.symm) x.symm
                            refine ⟨f, cc, t', fz', by rw [Inj.put_ne _ _ hk]; exact s1, s2, by rw [setRow_ne _ _ _ _ hne]; exact s3, s4, s5, fun q u hq => ?_, s7⟩
                            obtain ⟨u', z1, z2⟩ := s6 q u hq
                            exact ⟨u', z1, z2.mono hle2⟩
                      · intro k f hf
                        by_cases hk : k = H.next
                        · subst hk
                          rw [Inj.put_same] at hf; cases hf
                          have := hr.ent i ent g1
                          rw [setRow_size]
                          simp; omega
                        · rw [Inj.put_ne _ _ hk] at hf
                          have := hr.ent k f hf
                          rw [setRow_size]
                          simp; omega
                      · intro k l f g p q hp hq hf hg hk hkl
                        rw [AHeap.get_new] at hp hq
                        simp only [AHeap.next_del, AHeap.get_del] at hp hq
                        by_cases hk1 : k = H.next
                        · subst hk1
                          have hl1 : l ≠ H.next := fun x => hkl x.symm
                          rw [if_neg hl1] at hq
                          rw [Inj.put_same] at hf; cases hf
                          rw [Inj.put_ne _ _ hl1] at hg
                          split at hq
                          · cases hq
                          · rename_i hli
                            exact hr.sep i l ent g o q ho hq g1 hg c1 (fun y => hli y.symm)
                        · rw [if_neg hk1] at hp
                          rw [Inj.put_ne _ _ hk1] at hf
                          split at hp
                          · cases hp
                          · rename_i hki
                            by_cases hl1 : l = H.next
                            · subst hl1
                              rw [Inj.put_same] at hg; cases hg
                              exact fun x => hr.sep k i f ent p o hp ho hf g1 hk hki x
                            · rw [if_neg hl1] at hq
                              rw [Inj.put_ne _ _ hl1] at hg
                              split at hq
                              · cases hq
                              · exact hr.sep k l f g p q hp hq hf hg hk hkl
                      · have := hr.lo
                        simp; omega
                      · intro g hg
                        obtain ⟨f, s1, s2, s3⟩ := hr.glb g hg
                        exact ⟨f, hle2 _ _ s1, s2, s3⟩
                      · intro bb hbb hnb
                        exact setRow_ne _ _ _ _ (fun x => hnb i ent o c1 ho g1 x.symm)
                      · intro k f p hk hp hf
                        rw [AHeap.get_new] at hp
                        simp only [AHeap.next_del, AHeap.get_del] at hp
                        by_cases hk1 : k = H.next
                        · subst hk1
                          rw [Inj.put_same] at hf; cases hf
                          exact .inr ⟨i, ent, o, c1, ho, g1, rfl⟩
                        · rw [if_neg hk1] at hp
                          rw [Inj.put_ne _ _ hk1] at hf
                          split at hp
                          · cases hp
                          · exact .inr ⟨k, f, p, hk, hp, hf, rfl⟩
                      · have := VR.sl (ι := ι.put H.next ⟨ent.blk, ent.base + off, ent.size, ei.size⟩) (i := H.next) (off := 0) (len := n + m) (cap := cap) (c := n + m) (Inj.put_same _ _ _) (by omega) (by simp only []; omega)
                        simpa using this
                · cases h
            · cases h
    · cases h
end
end Go.Ab

/- The check of an operation that makes no call, and its soundness. -/
namespace Go.Ab
open Go

def isBoolT (P : Program) (t : TypeId) : Bool :=
  match P.underlying t with
  | some .bool => true
  | _ => false

def isIntT (P : Program) (t : TypeId) (k : IntKind) : Bool :=
  match P.underlying t with
  | some (.int k') => decide (k' = k)
  | _ => false

/-- How many cells a value of a type takes, if it is an aggregate. -/
def aggOf (P : Program) (t : TypeId) : Option (Option Nat) :=
  match P.underlying t, P.info? t with
  | some d, some i => if isAggT d then some (some i.size) else some none
  | _, _ => none

def zeroOf (P : Program) (t : TypeId) : Option (Array Value) :=
  match P.info? t with
  | some i => match i.zero with
    | some z => if z.cells.toList.all (closedIn 4) then some z.cells else none
    | none => none
  | none => none

def sizeT (P : Program) (t : TypeId) : Option Nat := (P.info? t).map (·.size)

def chkPartsS (gl : Nat) (fields : Array Field) (P : Program) : List ((Nat × Nat) × AOpd) → List (Nat × Operand) → Bool
  | [], [] => true
  | (p, x) :: r, (i, y) :: r' => (match fields[i]? with
      | some f => decide (p = (f.offset, P.cellsOf f.type))
      | none => false) && chkOpd gl x y && chkPartsS gl fields P r r'
  | _, _ => false

def chkPartsA (gl : Nat) (size : Nat) : List ((Nat × Nat) × AOpd) → List (Nat × Operand) → Bool
  | [], [] => true
  | (p, x) :: r, (i, y) :: r' => decide (p = (i * size, size)) && chkOpd gl x y && chkPartsA gl size r r'
  | _, _ => false

def chkPartsI (gl : Nat) : List (Nat × AOpd) → List (Nat × Operand) → Bool
  | [], [] => true
  | (p, x) :: r, (i, y) :: r' => decide (p = i) && chkOpd gl x y && chkPartsI gl r r'
  | _, _ => false

def chkOpdO (gl : Nat) : Option AOpd → Option Operand → Bool
  | none, none => true
  | some x, some y => chkOpd gl x y
  | _, _ => false

def zeroIs (P : Program) (t : TypeId) (z : Array Value) : Bool :=
  match zeroOf P t with
  | some z' => eqVs (eqV 4) z'.toList z.toList
  | none => false

def nilDesc : NilKind → TypeDesc → Value → Bool
  | .ptr, .pointer _, .pointer none => true
  | .sl, .slice _, .slice none 0 0 => true
  | .iface, .interface _, .nilIface => true
  | .fn, .func .., .nilFunc => true
  | _, _, _ => false

def chkOp (P : Program) (gl : Nat) (ao : AOp) (o : Op) : Bool :=
  match ao with
  | .mov x => match o with
    | .move y | .assign y => chkOpd gl x y
    | _ => false
  | .pick c a b => match o with
    | .pick c' a' b' => chkOpd gl c c' && chkOpd gl a a' && chkOpd gl b b'
    | _ => false
  | .alloc zero => match o with
    | .alloc t => zeroIs P t zero.toArray
    | _ => false
  | .box x => match o with
    | .box _ y => chkOpd gl x y
    | _ => false
  | .build zero ps => match o with
    | .build t qs => zeroIs P t zero && (match P.underlying t with
      | some (.struct fields) => fields.toList.all (fun f => (P.info? f.type).isSome) && chkPartsS gl fields P ps qs.toList
      | some (.array _ e) => match sizeT P e with
        | some size => chkPartsA gl size ps qs.toList
        | none => false
      | _ => false)
    | _ => false
  | .buildSlice size zero len ps => match o with
    | .buildSlice t len' qs => decide (len = len') && (match P.underlying t with
      | some (.slice e) => decide (sizeT P e = some size) && zeroIs P e zero && decide (zero.size = size) && decide (len * size ≤ 2 ^ 24) && chkPartsI gl ps qs.toList
      | _ => false)
    | _ => false
  | .load n x => match o with
    | .load t y => decide (aggOf P t = some n) && chkOpd gl x y
    | _ => false
  | .store n a x => match o with
    | .store t b y => decide (sizeT P t = some n) && chkOpd gl a b && chkOpd gl x y
    | _ => false
  | .nilChk x => match o with
    | .nilCheck y => chkOpd gl x y
    | _ => false
  | .bin op x y => match o with
    | .binOp op' _ x' y' _ => decide (op = op') && chkOpd gl x x' && chkOpd gl y y'
    | _ => false
  | .eqB neg x y => match o with
    | .binOp op t x' y' _ => decide (op = if neg then .neq else .eql) && isBoolT P t && chkOpd gl x x' && chkOpd gl y y'
    | _ => false
  | .isNil k neg x => match o with
    | .binOp op t x' (.const v) _ => decide (op = if neg then .neq else .eql) && chkOpd gl x x' && (match P.underlying t with
      | some d => nilDesc k d v
      | none => false)
    | _ => false
  | .un op x => match o with
    | .unOp op' _ y => decide (op = op') && chkOpd gl x y
    | _ => false
  | .conv k x => match o with
    | .convert src dst y => (P.underlying src).isSome && isIntT P dst k && chkOpd gl x y
    | _ => false
  | .mkIface t x => match o with
    | .makeInterface t' y => decide (t = t') && P.concrete t && chkOpd gl x y
    | _ => false
  | .mkFunc fn a c => match o with
    | .makeFunc fn' a' c' => decide (fn = fn') && chkOpds gl a a'.toList && chkOpds gl c c'.toList
    | _ => false
  | .mkSlice size bytes zero l => match o with
    | .makeSlice t x y => chkOpd gl l x && chkOpd gl l y && (match P.underlying t with
      | some (.slice e) => decide ((P.info? e).map (fun i => (i.size, i.bytes)) = some (size, bytes)) && zeroIs P e zero && decide (zero.size = size)
      | _ => false)
    | _ => false
  | .slice size x lo hi => match o with
    | .slice t x' lo' hi' none => chkOpd gl x x' && chkOpdO gl lo lo' && chkOpdO gl hi hi' && (match P.underlying t with
      | some (.slice e) => decide (sizeT P e = some size)
      | _ => false)
    | _ => false
  | .fieldAddr off x => match o with
    | .fieldAddr s y f => chkOpd gl x y && (match P.underlying s with
      | some (.struct fields) => match fields[f]? with
        | some fl => decide (fl.offset = off) && decide (P.cellsOf fl.type ≠ 0)
        | none => false
      | _ => false)
    | _ => false
  | .field off n x => match o with
    | .field s y f => chkOpd gl x y && (match P.underlying s with
      | some (.struct fields) => match fields[f]? with
        | some fl => decide (fl.offset = off) && decide (aggOf P fl.type = some n)
        | none => false
      | _ => false)
    | _ => false
  | .indexAddr arr size x i => match o with
    | .indexAddr t x' i' => chkOpd gl x x' && chkOpd gl i i' && (match P.underlying t with
      | some (.array len e) => decide (arr = some len) && decide (sizeT P e = some size)
      | some (.slice e) => decide (arr = none) && decide (sizeT P e = some size)
      | _ => false)
    | _ => false
  | .index len size n x i => match o with
    | .index t x' i' => chkOpd gl x x' && chkOpd gl i i' && (match P.underlying t with
      | some (.array len' e) => decide (len = len') && decide (sizeT P e = some size) && decide (aggOf P e = some n)
      | _ => false)
    | _ => false
  | .extract x i => match o with
    | .extract y j => decide (i = j) && chkOpd gl x y
    | _ => false
  | .len str x => match o with
    | .call { callee := .builtin .len, args, argTypes } => match args.toList, argTypes.toList with
      | [y], [t] => chkOpd gl x y && (match P.underlying t with
        | some .string => str
        | some (.slice _) => !str
        | _ => false)
      | _, _ => false
    | _ => false
  | .append size bytes x y => match o with
    | .call { callee := .builtin .append, args, argTypes } => match args.toList, argTypes.toList with
      | [x', y'], [t, u] => decide (t = u) && chkOpd gl x x' && chkOpd gl y y' && (match P.underlying t with
        | some (.slice e) => decide ((P.info? e).map (fun i => (i.size, i.bytes)) = some (size, bytes)) && (match zeroOf P e with
          | some z => decide (z.size = size)
          | none => false)
        | _ => false)
      | _, _ => false
    | _ => false
  | .minmax mx x y => match o with
    | .call { callee := .builtin b, args, .. } => (match b with | .max => mx | .min => !mx | _ => false) && (match args.toList with
      | [x', y'] => chkOpd gl x x' && chkOpd gl y y'
      | _ => false)
    | _ => false
  | _ => false

/-- What an operation comes to. -/
def OpR (P : Program) (G : Glob) (ι : Inj) (H : AHeap) (w : World) (s : Sem Next) (v : Value) (H' : AHeap) : Prop :=
  ∃ nx v' w' ι', s.run P w = .ok nx w' ∧ (nx = Next.value v' ∨ (nx = Next.skip ∧ v' = undef)) ∧ Post G ι H w ι' H' w' ∧ VR ι' v v'

section
variable {P : Program} {G : Glob} {ι : Inj} {H : AHeap} {w : World}

theorem OpR.value (hr : Rel G ι H w) {s : Sem Value} {v v' : Value} (h : s.run P w = .ok v' w) (hv : VR ι v v') : OpR P G ι H w (do pure (Next.value (← s))) v H :=
  ⟨Next.value v', v', w, ι, by simp [h], .inl rfl, Post.refl hr, hv⟩

theorem OpR.here (hr : Rel G ι H w) {v v' : Value} (hv : VR ι v v') : OpR P G ι H w (Pure.pure (Next.value v')) v H :=
  ⟨Next.value v', v', w, ι, rfl, .inl rfl, Post.refl hr, hv⟩

theorem OpR.value' {s : Sem Value} {v v' : Value} {w' : World} {ι' : Inj} {H' : AHeap} (h : s.run P w = .ok v' w') (hp : Post G ι H w ι' H' w') (hv : VR ι' v v') :
    OpR P G ι H w (do pure (Next.value (← s))) v H' :=
  ⟨Next.value v', v', w', ι', by simp [h], .inl rfl, hp, hv⟩

theorem zeroOf_spec {t : TypeId} {z : Array Value} (h : zeroOf P t = some z) : ∃ i z', P.info? t = some i ∧ i.zero = some z' ∧ z'.cells = z ∧ z.toList.all (closedIn 4) = true := by
  unfold zeroOf at h
  split at h
  · rename_i i hi
    split at h
    · rename_i z' hz
      split at h
      · rename_i hc; cases h; exact ⟨i, z', hi, hz, rfl, hc⟩
      · cases h
    · cases h
  · cases h

theorem zeroIs_spec {t : TypeId} {z : Array Value} (h : zeroIs P t z = true) : ∃ i z', P.info? t = some i ∧ i.zero = some z' ∧ z'.cells = z ∧ z.toList.all (closedIn 4) = true := by
  unfold zeroIs at h
  split at h
  · rename_i z' hz
    have := arr_eq (eqVs_eq (eqV_eq 4) _ _ h)
    subst this
    exact zeroOf_spec hz
  · cases h

theorem int_inv {k : IntKind} {n : Int} {v' : Value} (h : VR ι (.int k n) v') : v' = .int k n := by cases h; rfl
theorem bool_inv {b : Bool} {v' : Value} (h : VR ι (.bool b) v') : v' = .bool b := by cases h; rfl
theorem string_inv {s : ByteArray} {v' : Value} (h : VR ι (.string s) v') : v' = .string s := by cases h; rfl

theorem aBinInt_sound {op : BinOp} {k yk : IntKind} {a b : Int} {t : TypeId} {v : Value} (h : aBinInt op k a yk b = some v) :
    (binOp op t (.int k a) (.int yk b)).run P w = .ok v w ∧ closedIn 0 v = true := by
  cases op <;> simp only [aBinInt] at h <;> split at h <;> (first | (cases h; done) | skip)
  all_goals (rename_i hc; cases h)
  case quo => obtain ⟨rfl, hb⟩ := hc; refine ⟨?_, rfl⟩; simp [binOp, Op.intDiv, hb]
  case rem => obtain ⟨rfl, hb⟩ := hc; refine ⟨?_, rfl⟩; simp [binOp, Op.intDiv, hb]
  case shl =>
    refine ⟨?_, rfl⟩
    have : ¬ b < 0 := by omega
    simp [binOp, Op.shift, this]
  case shr =>
    refine ⟨?_, rfl⟩
    have : ¬ b < 0 := by omega
    simp [binOp, Op.shift, this]
  all_goals (subst hc; refine ⟨?_, rfl⟩; simp [binOp, Op.intArith, Op.intBits, Op.intCmp])

theorem aBin_sound {op : BinOp} {x y : Value} {t : TypeId} {v : Value} (h : aBin op x y = some v) (ox oy : Operand) :
    (do eqGuard op t ox oy x y; binOp op t x y : Sem Value).run P w = .ok v w ∧ closedIn 0 v = true ∧ (∀ x', VR ι x x' → x' = x) ∧ (∀ y', VR ι y y' → y' = y) := by
  cases x <;> cases y <;> simp only [aBin] at h <;> (first | (cases h; done) | skip)
  case int.int k a yk b =>
    obtain ⟨h1, h2⟩ := aBinInt_sound (P := P) (w := w) (t := t) h
    refine ⟨?_, h2, fun _ h => int_inv h, fun _ h => int_inv h⟩
    have hg : (eqGuard op t ox oy (.int k a) (.int yk b)).run P w = .ok () w := by
      unfold eqGuard; split <;> rfl
    simp only [Sem.run_bind, hg, Result.andThen_ok, h1]
  case string.string a b =>
    have hg : (eqGuard op t ox oy (.string a) (.string b)).run P w = .ok () w := by
      unfold eqGuard; split <;> rfl
    refine ⟨?_, ?_, fun _ h => string_inv h, fun _ h => string_inv h⟩
    · simp only [Sem.run_bind, hg, Result.andThen_ok]
      split at h
      · cases h; rfl
      · cases h; rfl
      · split at h
        · rename_i hc
          cases h
          simp only [binOp]
          exact run_string_add_sum w a b (by omega)
        · cases h
      · cases h
    · split at h
      · cases h; rfl
      · cases h; rfl
      · split at h
        · cases h; rfl
        · cases h
      · cases h
end
end Go.Ab

/- Soundness of each operation that makes no call. -/
namespace Go.Ab
open Go

section
variable {P : Program} {G : Glob} {ι : Inj} {H : AHeap} {w : World} {N : Nat} {σ : Env} {a : Act}

theorem partsS_sound (hr : Rel G ι H w) (he : EnvR ι N σ a) {fields : Array Field} : ∀ {ps : List ((Nat × Nat) × AOpd)} {qs : List (Nat × Operand)} {vs : List Value},
    chkPartsS G.n fields P ps qs = true → σ.rds (vals ps) = some vs →
    PartsR ι (fun i => (fields[i]?).map fun f => (f.offset, P.cellsOf f.type)) (zipParts ps vs) (qs.map fun p => (p.1, a.eval p.2))
  | [], [], vs, _, h => by simp [vals, Env.rds] at h; subst h; exact .nil
  | (p, x) :: r, (i, y) :: r', vs, hc, h => by
    simp only [chkPartsS, Bool.and_eq_true] at hc
    simp only [vals, List.map_cons, Env.rds] at h
    split at h
    · cases h
    · rename_i v hv
      split at h
      · cases h
      · rename_i us hus
        cases h
        simp only [zipParts, List.map_cons]
        refine .cons ?_ (rd_sound hr he hc.1.2 hv) (partsS_sound hr he hc.2 hus)
        have h1 := hc.1.1
        split at h1
        · rename_i f hf
          rw [hf]
          simp only [decide_eq_true_eq] at h1
          simp [h1]
        · cases h1
  | [], _ :: _, _, h, _ => by simp [chkPartsS] at h
  | _ :: _, [], _, h, _ => by simp [chkPartsS] at h

theorem partsA_sound (hr : Rel G ι H w) (he : EnvR ι N σ a) {size : Nat} : ∀ {ps : List ((Nat × Nat) × AOpd)} {qs : List (Nat × Operand)} {vs : List Value},
    chkPartsA G.n size ps qs = true → σ.rds (vals ps) = some vs →
    PartsR ι (fun i => some (i * size, size)) (zipParts ps vs) (qs.map fun p => (p.1, a.eval p.2))
  | [], [], vs, _, h => by simp [vals, Env.rds] at h; subst h; exact .nil
  | (p, x) :: r, (i, y) :: r', vs, hc, h => by
    simp only [chkPartsA, Bool.and_eq_true, decide_eq_true_eq] at hc
    simp only [vals, List.map_cons, Env.rds] at h
    split at h
    · cases h
    · rename_i v hv
      split at h
      · cases h
      · rename_i us hus
        cases h
        simp only [zipParts, List.map_cons]
        refine .cons ?_ (rd_sound hr he hc.1.2 hv) (partsA_sound hr he hc.2 hus)
        simp [hc.1.1]
  | [], _ :: _, _, h, _ => by simp [chkPartsA] at h
  | _ :: _, [], _, h, _ => by simp [chkPartsA] at h

theorem partsI_A {size : Nat} : ∀ {ps : List (Nat × AOpd)} {qs : List (Nat × Operand)}, chkPartsI G.n ps qs = true → chkPartsA G.n size (ps.map fun p => ((p.1 * size, size), p.2)) qs = true
  | [], [], _ => rfl
  | (p, x) :: r, (i, y) :: r', hc => by
    simp only [chkPartsI, Bool.and_eq_true, decide_eq_true_eq] at hc
    simp only [List.map_cons, chkPartsA, Bool.and_eq_true, decide_eq_true_eq]
    exact ⟨⟨by rw [hc.1.1], hc.1.2⟩, partsI_A hc.2⟩
  | [], _ :: _, h => by simp [chkPartsI] at h
  | _ :: _, [], h => by simp [chkPartsI] at h

theorem rdo_sound (hr : Rel G ι H w) (he : EnvR ι N σ a) {x : Option AOpd} {y : Option Operand} (hc : chkOpdO G.n x y = true) {v : Option Value} (hv : σ.rdo x = some v) : OVR ι v (y.map a.eval) := by
  cases x with
  | none => cases y <;> simp [chkOpdO] at hc; simp [Env.rdo] at hv; subst hv; exact .none
  | some x =>
    cases y <;> simp [chkOpdO] at hc
    simp only [Env.rdo, Option.map_eq_some_iff] at hv
    obtain ⟨u, hu, rfl⟩ := hv
    exact .some (rd_sound hr he hc hu)

theorem part_one {t : TypeId} {d : TypeDesc} (hd : P.underlying t = some d) (hn : isAggT d = false) {cs : Array Value} {off : Nat} {v : Value} (h : cs[off]? = some v) :
    (part t cs off).run P w = .ok v w := by
  simp only [part, Sem.run_bind, run_isAgg_of hd, Result.andThen_ok, hn]
  simp [h]

theorem part_row {t : TypeId} {d : TypeDesc} (hd : P.underlying t = some d) (hn : isAggT d = true) {ti : TypeInfo} (hi : P.info? t = some ti) {cs : Array Value} {off : Nat} :
    (part t cs off).run P w = .ok (.agg (cs.extract off (off + ti.size))) w := by
  simp only [part, Sem.run_bind, run_isAgg_of hd, Result.andThen_ok, hn, if_true, run_sizeOf_of hi, Sem.run_pure]

theorem AVR.extract {x y : Array Value} (h : AVR ι x y) (i j : Nat) : AVR ι (x.extract i j) (y.extract i j) := by
  refine ⟨by simp [h.1], fun k v v' hv hv' => ?_⟩
  rw [Array.getElem?_extract] at hv hv'
  split at hv
  · split at hv'
    · exact h.2 _ v v' hv hv'
    · cases hv'
  · cases hv

theorem aggOf_spec {t : TypeId} {n : Option Nat} (h : aggOf P t = some n) : ∃ d i, P.underlying t = some d ∧ P.info? t = some i ∧ n = if isAggT d then some i.size else none := by
  unfold aggOf at h
  split at h
  · rename_i d i hd hi
    refine ⟨d, i, hd, hi, ?_⟩
    split at h <;> cases h <;> simp_all
  · cases h

/-- The part of an aggregate. -/
theorem part_sound {t : TypeId} {n : Option Nat} (h : aggOf P t = some n) {x y : Array Value} (hxy : AVR ι x y) {off : Nat} {v : Value}
    (hv : aPart x off n = some v) : ∃ v', (part t y off).run P w = .ok v' w ∧ VR ι v v' := by
  obtain ⟨d, i, hd, hi, rfl⟩ := aggOf_spec h
  cases hg : isAggT d with
  | false =>
    rw [hg] at hv
    simp only [Bool.false_eq_true, if_false, aPart] at hv
    obtain ⟨v', h1, h2⟩ := hxy.get hv
    exact ⟨v', part_one hd hg h1, h2⟩
  | true =>
    rw [hg] at hv
    simp only [if_true, aPart] at hv
    split at hv
    · cases hv
      have := hxy.extract off (off + i.size)
      exact ⟨_, part_row hd hg hi, .agg _ _ this.1 this.2⟩
    · cases hv

theorem ite_some {α : Type} {c : Prop} [Decidable c] {x y : α} (h : (if c then some x else none) = some y) : c ∧ x = y := by
  split at h
  · rename_i hc; exact ⟨hc, Option.some.inj h⟩
  · cases h

theorem op_mov (hr : Rel G ι H w) (he : EnvR ι N σ a) {x : AOpd} {o : Oper} (hc : chkOp P G.n (.mov x) o.op = true) {call : ACall} {meth} {v : Value} {H' : AHeap}
    (h : evOp call meth σ H (.mov x) = some (v, H')) : OpR P G ι H w (execOp a.eval o) v H' := by
  obtain ⟨dst, op, ty, pos, aft, gd⟩ := o
  cases op <;> simp [chkOp] at hc
  all_goals
    simp only [evOp] at h
    split at h
    · rename_i u hu; cases h; exact OpR.here hr (rd_sound hr he hc hu)
    · cases h

theorem op_pick (hr : Rel G ι H w) (he : EnvR ι N σ a) {c x y : AOpd} {o : Oper} (hc : chkOp P G.n (.pick c x y) o.op = true) {call : ACall} {meth} {v : Value} {H' : AHeap}
    (h : evOp call meth σ H (.pick c x y) = some (v, H')) : OpR P G ι H w (execOp a.eval o) v H' := by
  obtain ⟨dst, op, ty, pos, aft, gd⟩ := o
  cases op <;> simp [chkOp] at hc
  simp only [evOp] at h
  split at h
  · rename_i hcv
    have h1 := bool_inv (rd_sound hr he hc.1.1 hcv)
    split at h
    · rename_i u hu
      cases h
      exact ⟨_, _, w, ι, by simp [execOp, h1, asBool], .inl rfl, Post.refl hr, rd_sound hr he hc.1.2 hu⟩
    · cases h
  · rename_i hcv
    have h1 := bool_inv (rd_sound hr he hc.1.1 hcv)
    split at h
    · rename_i u hu
      cases h
      exact ⟨_, _, w, ι, by simp [execOp, h1, asBool], .inl rfl, Post.refl hr, rd_sound hr he hc.2 hu⟩
    · cases h
  · cases h

theorem op_alloc (hr : Rel G ι H w) {zero : List Value} {o : Oper} (hc : chkOp P G.n (.alloc zero) o.op = true) {call : ACall} {meth} {v : Value} {H' : AHeap}
    (h : evOp call meth σ H (.alloc zero) = some (v, H')) : OpR P G ι H w (execOp a.eval o) v H' := by
  obtain ⟨dst, op, ty, pos, aft, gd⟩ := o
  cases op <;> simp [chkOp] at hc
  rename_i t
  obtain ⟨i, z, hi, hz, hzc, hcl⟩ := zeroIs_spec hc
  simp only [evOp] at h
  cases h
  have hav : AVR ι zero.toArray z.cells := by rw [hzc]; exact AVR.refl_closed hcl
  obtain ⟨g1, g2, g3⟩ := new_row (P := P) hr t zero.length hav
  exact OpR.value' (by
    simp only [Instr.alloc, Sem.run_bind, run_zeroValue_of hi hz, Result.andThen_ok, newVar, g1, Sem.run_pure]; rfl) (by simpa using g2) g3

theorem op_box (hr : Rel G ι H w) (he : EnvR ι N σ a) {x : AOpd} {o : Oper} (hc : chkOp P G.n (.box x) o.op = true) {call : ACall} {meth} {v : Value} {H' : AHeap}
    (h : evOp call meth σ H (.box x) = some (v, H')) : OpR P G ι H w (execOp a.eval o) v H' := by
  obtain ⟨dst, op, ty, pos, aft, gd⟩ := o
  cases op <;> simp [chkOp] at hc
  rename_i t y
  simp only [evOp] at h
  split at h
  · rename_i u hu
    cases h
    obtain ⟨g1, g2, g3⟩ := new_row (P := P) hr t u.cells.size (rd_sound hr he hc hu).cells
    exact OpR.value' (by simp only [Instr.box, Sem.run_bind, newVar, g1, Result.andThen_ok, Sem.run_pure]) g2 g3
  · cases h

theorem op_build (hr : Rel G ι H w) (he : EnvR ι N σ a) {zero ps} {o : Oper} (hc : chkOp P G.n (.build zero ps) o.op = true) {call : ACall} {meth} {v : Value} {H' : AHeap}
    (h : evOp call meth σ H (.build zero ps) = some (v, H')) : OpR P G ι H w (execOp a.eval o) v H' := by
  obtain ⟨dst, op, ty, pos, aft, gd⟩ := o
  cases op <;> simp only [chkOp, Bool.false_eq_true, Bool.and_eq_true] at hc
  rename_i t qs
  obtain ⟨hz, hc⟩ := hc
  obtain ⟨i, z, hi, hzz, hzc, hcl⟩ := zeroIs_spec hz
  subst hzc
  simp only [evOp] at h
  split at h
  · rename_i vs hvs
    split at h
    · rename_i cs hcs
      cases h
      have key : ∃ v', (Instr.build t (qs.toList.map fun p => (p.1, a.eval p.2)).toArray).run P w = .ok v' w ∧ VR ι (.agg cs) v' := by
        split at hc
        · rename_i fields hu
          simp only [Bool.and_eq_true, List.all_eq_true] at hc
          exact build_struct hu hi hzz hc.1 hcl (partsS_sound hr he hc.2 hvs) hcs
        · rename_i n e hu
          split at hc
          · rename_i size hsz
            unfold sizeT at hsz
            rw [Option.map_eq_some_iff] at hsz
            obtain ⟨ei, hei, rfl⟩ := hsz
            exact build_array hu hi hzz hei hcl (partsA_sound hr he hc hvs) hcs
          · cases hc
        · cases hc
      obtain ⟨v', h1, h2⟩ := key
      refine OpR.value hr (v' := v') ?_ h2
      rw [← h1]
      congr 2
      apply Array.ext'
      simp
    · cases h
  · cases h

theorem op_buildSlice (hr : Rel G ι H w) (he : EnvR ι N σ a) {size zero len ps} {o : Oper} (hc : chkOp P G.n (.buildSlice size zero len ps) o.op = true) {call : ACall} {meth} {v : Value} {H' : AHeap}
    (h : evOp call meth σ H (.buildSlice size zero len ps) = some (v, H')) : OpR P G ι H w (execOp a.eval o) v H' := by
  obtain ⟨dst, op, ty, pos, aft, gd⟩ := o
  cases op <;> simp only [chkOp, Bool.false_eq_true, Bool.and_eq_true, decide_eq_true_eq] at hc
  rename_i t len' qs
  obtain ⟨rfl, hc⟩ := hc
  simp only [evOp] at h
  split at h
  · rename_i vs hvs
    split at h
    · rename_i cs hcs
      split at h
      · cases h
      · cases h
        split at hc
        · rename_i e hu
          simp only [Bool.and_eq_true, decide_eq_true_eq] at hc
          obtain ⟨⟨⟨⟨hsz, hz⟩, hzs⟩, hbig⟩, hparts⟩ := hc
          unfold sizeT at hsz
          rw [Option.map_eq_some_iff] at hsz
          obtain ⟨ei, hei, hsize⟩ := hsz
          obtain ⟨i, z, hi, hzz, hzc, hcl⟩ := zeroIs_spec hz
          rw [hei] at hi; cases hi
          subst hsize
          subst hzc
          have hvs' : σ.rds (vals (ps.map fun p => ((p.1 * ei.size, ei.size), p.2))) = some vs := by
            rw [← hvs]; congr 1; simp [vals]
          obtain ⟨v', w', ι', g1, g2, g3⟩ := buildSlice_sound (P := P) (len := len) hr hu hei hzz hcl hzs hbig (partsA_sound hr he (partsI_A hparts) hvs') hcs
          refine OpR.value' (w' := w') (v' := v') ?_ g2 g3
          rw [← g1]
          congr 2
          apply Array.ext'
          simp
        · cases hc
    · cases h
  · cases h

theorem load_sound (hr : Rel G ι H w) {t : TypeId} {n : Option Nat} (hagg : aggOf P t = some n) {p p' v : Value} (hp : VR ι p p') (h : aLoad H n p = some v) :
    ∃ v', (Instr.loadAt t p').run P w = .ok v' w ∧ VR ι v v' := by
  obtain ⟨d, i, hd, hi, rfl⟩ := aggOf_spec hagg
  unfold aLoad at h
  split at h
  · cases hg : isAggT d with
    | false =>
      rw [hg] at h
      simp only [Bool.false_eq_true, if_false] at h
      split at h
      · rename_i ob hob
        exact load_one (P := P) hr hd hg hp hob h
      · cases h
    | true =>
      rw [hg] at h
      simp only [if_true] at h
      split at h
      · rename_i cs hcs
        cases h
        exact load_row (P := P) hr hd hg hi hp hcs
      · cases h
  · cases h

theorem op_load (hr : Rel G ι H w) (he : EnvR ι N σ a) {n x} {o : Oper} (hc : chkOp P G.n (.load n x) o.op = true) {call : ACall} {meth} {v : Value} {H' : AHeap}
    (h : evOp call meth σ H (.load n x) = some (v, H')) : OpR P G ι H w (execOp a.eval o) v H' := by
  obtain ⟨dst, op, ty, pos, aft, gd⟩ := o
  cases op <;> simp only [chkOp, Bool.false_eq_true, Bool.and_eq_true, decide_eq_true_eq] at hc
  simp only [evOp] at h
  split at h
  · rename_i p hx
    split at h
    · rename_i u hu
      cases h
      obtain ⟨v', h1, h2⟩ := load_sound hr hc.1 (rd_sound hr he hc.2 hx) hu
      exact OpR.value hr h1 h2
    · cases h
  · cases h

theorem op_store (hr : Rel G ι H w) (he : EnvR ι N σ a) {n x y} {o : Oper} (hc : chkOp P G.n (.store n x y) o.op = true) {call : ACall} {meth} {v : Value} {H' : AHeap}
    (h : evOp call meth σ H (.store n x y) = some (v, H')) : OpR P G ι H w (execOp a.eval o) v H' := by
  obtain ⟨dst, op, ty, pos, aft, gd⟩ := o
  cases op <;> simp only [chkOp, Bool.false_eq_true, Bool.and_eq_true, decide_eq_true_eq] at hc
  rename_i t p q
  obtain ⟨⟨hsz, hp⟩, hq⟩ := hc
  unfold sizeT at hsz
  rw [Option.map_eq_some_iff] at hsz
  obtain ⟨ti, hti, rfl⟩ := hsz
  simp only [evOp] at h
  split at h
  · rename_i i off u hx hy
    split at h
    · rename_i ob hob
      obtain ⟨⟨c1, c2, c3, c4⟩, h⟩ := ite_some h
      cases h
      obtain ⟨e, hent, hpv⟩ := ptr_inv (rd_sound hr he hp hx)
      have hqv := rd_sound hr he hq hy
      obtain ⟨w', g1, g2⟩ := store_cells (P := P) hent hqv.cells.lvr (off := off) (j := 0) hr c1 hob c4 (by simp; omega)
      have hundef : VR ι undef undef := .tuple _ _ rfl (by simp)
      refine ⟨.skip, undef, w', ι, ?_, .inr ⟨rfl, rfl⟩, by simpa using g2, hundef⟩
      have hcs : ¬ ((a.eval q).cells.size ≠ ti.size) := by rw [← hqv.cells.1]; omega
      simp only [execOp, Instr.storeAt, hpv, Instr.sureAddr, storeVar, Sem.run_bind, Sem.run_pure, Result.andThen_ok, run_sizeOf_of hti, if_neg hcs, g1]
    · cases h
  · cases h

theorem op_nilChk (hr : Rel G ι H w) (he : EnvR ι N σ a) {x} {o : Oper} (hc : chkOp P G.n (.nilChk x) o.op = true) {call : ACall} {meth} {v : Value} {H' : AHeap}
    (h : evOp call meth σ H (.nilChk x) = some (v, H')) : OpR P G ι H w (execOp a.eval o) v H' := by
  obtain ⟨dst, op, ty, pos, aft, gd⟩ := o
  cases op <;> simp only [chkOp, Bool.false_eq_true] at hc
  rename_i y
  simp only [evOp] at h
  split at h
  · rename_i p hx
    have hx' := rd_sound hr he hc hx
    cases h
    simp only [execOp]
    obtain ⟨e, h1, h2⟩ : ∃ e, ι p.block = some e ∧ a.eval y = .pointer (some ⟨e.blk, e.base + p.off, none⟩) ∧ p.spot = none := by
      generalize a.eval y = y' at *
      cases hx'
      rename_i h1
      exact ⟨_, h1, rfl, rfl⟩
    rw [h2.1]
    obtain ⟨pb, po, ps⟩ := p
    obtain rfl := h2.2
    exact ⟨_, _, w, ι, rfl, .inl rfl, Post.refl hr, .ptr h1⟩
  · rename_i f p c hx
    have hx' := rd_sound hr he hc hx
    cases h
    simp only [execOp]
    generalize a.eval _ = y' at *
    cases hx'
    rename_i h1 h2 h3 h4
    exact ⟨_, _, w, ι, rfl, .inl rfl, Post.refl hr, .func _ _ _ _ _ h1 h2 h3 h4⟩
  · rename_i t u hx
    have hx' := rd_sound hr he hc hx
    cases h
    simp only [execOp]
    generalize a.eval _ = y' at *
    cases hx'
    rename_i h1
    exact ⟨_, _, w, ι, rfl, .inl rfl, Post.refl hr, .iface _ _ _ h1⟩
  · cases h
end
end Go.Ab

/- Soundness of each operation that makes no call: the rest, and all together. -/
namespace Go.Ab
open Go

section
variable {P : Program} {G : Glob} {ι : Inj} {H : AHeap} {w : World} {N : Nat} {σ : Env} {a : Act}

theorem op_bin (hr : Rel G ι H w) (he : EnvR ι N σ a) {bop x y} {o : Oper} (hc : chkOp P G.n (.bin bop x y) o.op = true) {call : ACall} {meth} {v : Value} {H' : AHeap}
    (h : evOp call meth σ H (.bin bop x y) = some (v, H')) : OpR P G ι H w (execOp a.eval o) v H' := by
  obtain ⟨dst, op, ty, pos, aft, gd⟩ := o
  cases op <;> simp only [chkOp, Bool.false_eq_true, Bool.and_eq_true, decide_eq_true_eq] at hc
  rename_i op t x' y' yt
  obtain ⟨⟨rfl, hx⟩, hy⟩ := hc
  simp only [evOp] at h
  split at h
  · rename_i u u' hu hu'
    split at h
    · rename_i r hres
      cases h
      obtain ⟨h1, h2, h3, h4⟩ := aBin_sound (P := P) (w := w) (ι := ι) (t := t) hres x' y'
      rw [← h3 _ (rd_sound hr he hx hu), ← h4 _ (rd_sound hr he hy hu')] at h1
      exact OpR.value hr h1 (closedIn_vr ι 0 _ h2)
    · cases h
  · cases h

theorem isBoolT_spec {t : TypeId} (h : isBoolT P t = true) : P.underlying t = some .bool := by
  unfold isBoolT at h; split at h
  · assumption
  · cases h

theorem isIntT_spec {t : TypeId} {k : IntKind} (h : isIntT P t k = true) : P.underlying t = some (.int k) := by
  unfold isIntT at h; split at h
  · simp only [decide_eq_true_eq] at h; subst h; assumption
  · cases h

theorem run_equalIn_bool {t : TypeId} (hu : P.underlying t = some .bool) (p q : Bool) (d : Nat) : (Op.equalIn (d + 1) t (.bool p) (.bool q)).run P w = .ok (p == q) w := by
  simp only [Op.equalIn, Sem.run_bind, run_underlying hu, Result.andThen_ok]
  rfl

theorem op_eqB (hr : Rel G ι H w) (he : EnvR ι N σ a) {neg x y} {o : Oper} (hc : chkOp P G.n (.eqB neg x y) o.op = true) {call : ACall} {meth} {v : Value} {H' : AHeap}
    (h : evOp call meth σ H (.eqB neg x y) = some (v, H')) : OpR P G ι H w (execOp a.eval o) v H' := by
  obtain ⟨dst, op, ty, pos, aft, gd⟩ := o
  cases op <;> simp only [chkOp, Bool.false_eq_true, Bool.and_eq_true, decide_eq_true_eq] at hc
  rename_i op t x' y' yt
  obtain ⟨⟨⟨rfl, ht⟩, hx⟩, hy⟩ := hc
  have ht := isBoolT_spec ht
  simp only [evOp] at h
  split at h
  · rename_i p q hu hu'
    cases h
    have h1 := bool_inv (rd_sound hr he hx hu)
    have h2 := bool_inv (rd_sound hr he hy hu')
    refine OpR.value hr (v' := .bool (if neg then !(p == q) else p == q)) ?_ (.bool _)
    rw [h1, h2]
    have hg : ∀ op, (eqGuard op t x' y' (.bool p) (.bool q)).run P w = .ok () w := by
      intro op; unfold eqGuard; split <;> rfl
    have heq := run_equalIn_bool (P := P) (w := w) ht p q 9999
    cases neg
    · simp only [Sem.run_bind, hg, Result.andThen_ok, binOp, Op.equal, Op.maxDepth]
      simp [heq]
    · simp only [Sem.run_bind, hg, Result.andThen_ok, binOp, Op.equal, Op.maxDepth]
      simp [heq]
  · cases h

theorem nil_spec {k : NilKind} {d : TypeDesc} {c : Value} (h : nilDesc k d c = true) : isNilV k c = some true ∧ closedIn 0 c = true := by
  unfold nilDesc at h
  split at h <;> first | exact ⟨rfl, rfl⟩ | cases h

theorem run_eq_nil {k : NilKind} {t : TypeId} {d : TypeDesc} (hu : P.underlying t = some d) {c v : Value} (hd : nilDesc k d c = true) {b : Bool} (hv : isNilV k v = some b) (n : Nat) :
    (Op.equalIn (n + 1) t v c).run P w = .ok b w := by
  unfold nilDesc at hd
  split at hd <;> (first | cases hd; done | skip)
  · cases v <;> simp only [isNilV, Option.some.injEq] at hv <;> (first | cases hv; done | skip)
    rename_i p
    subst hv
    cases p <;> (simp only [Op.equalIn, Sem.run_bind, run_underlying hu, Result.andThen_ok]; rfl)
  · cases v <;> simp only [isNilV, Option.some.injEq] at hv <;> (first | cases hv; done | skip)
    rename_i p _ _
    subst hv
    cases p <;> (simp only [Op.equalIn, Sem.run_bind, run_underlying hu, Result.andThen_ok]; rfl)
  · cases v <;> simp only [isNilV, Option.some.injEq] at hv <;> (first | cases hv; done | skip)
    · subst hv; simp only [Op.equalIn, Sem.run_bind, run_underlying hu, Result.andThen_ok]; rfl
    · subst hv; simp only [Op.equalIn, Sem.run_bind, run_underlying hu, Result.andThen_ok]; rfl
  · cases v <;> simp only [isNilV, Option.some.injEq] at hv <;> (first | cases hv; done | skip)
    · subst hv; simp only [Op.equalIn, Sem.run_bind, run_underlying hu, Result.andThen_ok]; rfl
    · subst hv; simp only [Op.equalIn, Sem.run_bind, run_underlying hu, Result.andThen_ok]; rfl

theorem isNilV_vr {k : NilKind} {v v' : Value} (h : VR ι v v') : isNilV k v' = isNilV k v := by
  cases h <;> cases k <;> rfl

theorem op_isNil (hr : Rel G ι H w) (he : EnvR ι N σ a) {k neg x} {o : Oper} (hc : chkOp P G.n (.isNil k neg x) o.op = true) {call : ACall} {meth} {v : Value} {H' : AHeap}
    (h : evOp call meth σ H (.isNil k neg x) = some (v, H')) : OpR P G ι H w (execOp a.eval o) v H' := by
  obtain ⟨dst, op, ty, pos, aft, gd⟩ := o
  cases op <;> simp only [chkOp, Bool.false_eq_true] at hc
  rename_i op t x' y' yt
  split at hc
  · rename_i op' t' x'' c yt' heq
    injection heq with e1 e2 e3 e4 e5
    subst e1; subst e2; subst e3; subst e4; subst e5
    simp only [Bool.and_eq_true, decide_eq_true_eq] at hc
    obtain ⟨⟨rfl, hx⟩, hd⟩ := hc
    split at hd
    · rename_i d hu
      simp only [evOp] at h
      split at h
      · rename_i u hxu
        split at h
        · rename_i b hb
          cases h
          have hv' := rd_sound hr he hx hxu
          have hb' := hb
          rw [← isNilV_vr hv'] at hb'
          refine OpR.value hr (v' := .bool (if neg then !b else b)) ?_ (.bool _)
          have heq := run_eq_nil (P := P) (w := w) hu hd hb' 9999
          have hg : ∀ op, (eqGuard op t x' (.const c) (a.eval x') c).run P w = .ok () w := by
            intro op
            unfold nilDesc at hd
            split at hd <;> (first | cases hd; done | skip)
            all_goals
              cases hq : a.eval x' <;> rw [hq] at hb' <;> simp only [isNilV] at hb' <;> (first | cases hb'; done | skip)
              all_goals (unfold eqGuard; split <;> first | rfl | simp)
          have hbin : ∀ r, binOp (if neg then .neq else .eql) t (a.eval x') c = r → r = (if neg then (do pure (.bool (!(← Op.equal t (a.eval x') c))) : Sem Value) else do pure (.bool (← Op.equal t (a.eval x') c))) := by
            intro r hr
            subst hr
            unfold nilDesc at hd
            split at hd <;> (first | cases hd; done | skip)
            all_goals
              cases hq : a.eval x' <;> rw [hq] at hb' <;> simp only [isNilV] at hb' <;> (first | cases hb'; done | skip)
              all_goals cases neg <;> rfl
          show (do eqGuard _ t x' (.const c) (a.eval x') (a.eval (.const c)); binOp _ t (a.eval x') (a.eval (.const c)) : Sem Value).run P w = _
          have e1 : a.eval (.const c) = c := rfl
          rw [e1]
          simp only [Sem.run_bind, hg, Result.andThen_ok]
          rw [hbin _ rfl]
          cases neg
          · simp only [Bool.false_eq_true, if_false, Sem.run_bind, Op.equal, Op.maxDepth, heq, Result.andThen_ok, Sem.run_pure]
          · simp only [if_true, Sem.run_bind, Op.equal, Op.maxDepth, heq, Result.andThen_ok, Sem.run_pure]
        · cases h
      · cases h
    · cases hd
  · cases hc

theorem op_un (hr : Rel G ι H w) (he : EnvR ι N σ a) {uop x} {o : Oper} (hc : chkOp P G.n (.un uop x) o.op = true) {call : ACall} {meth} {v : Value} {H' : AHeap}
    (h : evOp call meth σ H (.un uop x) = some (v, H')) : OpR P G ι H w (execOp a.eval o) v H' := by
  obtain ⟨dst, op, ty, pos, aft, gd⟩ := o
  cases op <;> simp only [chkOp, Bool.false_eq_true, Bool.and_eq_true, decide_eq_true_eq] at hc
  obtain ⟨rfl, hx⟩ := hc
  simp only [evOp] at h
  split at h
  · rename_i u hu
    split at h
    · rename_i r hres
      cases h
      have hu' := rd_sound hr he hx hu
      unfold aUn at hres
      split at hres
      · cases hres
        refine OpR.value hr (v' := .bool _) ?_ (.bool _)
        rw [bool_inv hu']; rfl
      · cases hres
        refine OpR.value hr (v' := .int _ _) ?_ (.int _ _)
        rw [int_inv hu']; rfl
      · cases hres
        refine OpR.value hr (v' := .int _ _) ?_ (.int _ _)
        rw [int_inv hu']; rfl
      · cases hres
    · cases h
  · cases h

theorem op_conv (hr : Rel G ι H w) (he : EnvR ι N σ a) {k x} {o : Oper} (hc : chkOp P G.n (.conv k x) o.op = true) {call : ACall} {meth} {v : Value} {H' : AHeap}
    (h : evOp call meth σ H (.conv k x) = some (v, H')) : OpR P G ι H w (execOp a.eval o) v H' := by
  obtain ⟨dst, op, ty, pos, aft, gd⟩ := o
  cases op <;> simp only [chkOp, Bool.false_eq_true, Bool.and_eq_true] at hc
  rename_i src dst' y
  obtain ⟨⟨hs, hd⟩, hx⟩ := hc
  have hd := isIntT_spec hd
  obtain ⟨ds, hs⟩ := Option.isSome_iff_exists.1 hs
  simp only [evOp] at h
  split at h
  · rename_i k' n hu
    cases h
    have hu' := int_inv (rd_sound hr he hx hu)
    refine OpR.value hr (v' := .int k (k.wrap n)) ?_ (.int _ _)
    rw [hu']
    simp only [convert, Sem.run_bind, run_underlying hs, run_underlying hd, Result.andThen_ok]
    cases ds <;> rfl
  · cases h

theorem op_mkIface (hr : Rel G ι H w) (he : EnvR ι N σ a) {t x} {o : Oper} (hc : chkOp P G.n (.mkIface t x) o.op = true) {call : ACall} {meth} {v : Value} {H' : AHeap}
    (h : evOp call meth σ H (.mkIface t x) = some (v, H')) : OpR P G ι H w (execOp a.eval o) v H' := by
  obtain ⟨dst, op, ty, pos, aft, gd⟩ := o
  cases op <;> simp only [chkOp, Bool.false_eq_true, Bool.and_eq_true, decide_eq_true_eq] at hc
  rename_i t' y
  obtain ⟨⟨rfl, ht⟩, hx⟩ := hc
  simp only [evOp] at h
  split at h
  · rename_i u hu
    cases h
    exact OpR.value hr (run_makeInterface w t _ ht) (.iface _ _ _ (rd_sound hr he hx hu))
  · cases h

theorem op_mkFunc (hr : Rel G ι H w) (he : EnvR ι N σ a) {fn fs cs} {o : Oper} (hc : chkOp P G.n (.mkFunc fn fs cs) o.op = true) {call : ACall} {meth} {v : Value} {H' : AHeap}
    (h : evOp call meth σ H (.mkFunc fn fs cs) = some (v, H')) : OpR P G ι H w (execOp a.eval o) v H' := by
  obtain ⟨dst, op, ty, pos, aft, gd⟩ := o
  cases op <;> simp only [chkOp, Bool.false_eq_true, Bool.and_eq_true, decide_eq_true_eq] at hc
  rename_i fn' fs' cs'
  obtain ⟨⟨rfl, hx⟩, hy⟩ := hc
  simp only [evOp] at h
  split at h
  · rename_i us vs hus hvs
    cases h
    have h1 := (rds_sound hr he hx hus).avr
    have h2 := (rds_sound hr he hy hvs).avr
    refine OpR.value hr (v' := .func fn (fs'.map a.eval) (cs'.map a.eval)) rfl (.func _ _ _ _ _ ?_ ?_ ?_ ?_)
    · simpa using h1.1
    · intro k p q hp hq; exact h1.2 k p q hp (by simpa using hq)
    · simpa using h2.1
    · intro k p q hp hq; exact h2.2 k p q hp (by simpa using hq)
  · cases h

theorem info_pair {e : TypeId} {size bytes : Nat} (h : (P.info? e).map (fun i => (i.size, i.bytes)) = some (size, bytes)) : ∃ ei, P.info? e = some ei ∧ ei.size = size ∧ ei.bytes = bytes := by
  rw [Option.map_eq_some_iff] at h
  obtain ⟨ei, h1, h2⟩ := h
  cases h2
  exact ⟨ei, h1, rfl, rfl⟩

theorem op_mkSlice (hr : Rel G ι H w) (he : EnvR ι N σ a) {size bytes zero l} {o : Oper} (hc : chkOp P G.n (.mkSlice size bytes zero l) o.op = true) {call : ACall} {meth} {v : Value} {H' : AHeap}
    (h : evOp call meth σ H (.mkSlice size bytes zero l) = some (v, H')) : OpR P G ι H w (execOp a.eval o) v H' := by
  obtain ⟨dst, op, ty, pos, aft, gd⟩ := o
  cases op <;> simp only [chkOp, Bool.false_eq_true, Bool.and_eq_true] at hc
  rename_i t x y
  obtain ⟨⟨hx, hy⟩, hc⟩ := hc
  split at hc
  · rename_i e hu
    simp only [Bool.and_eq_true, decide_eq_true_eq] at hc
    obtain ⟨⟨hp, hz⟩, hzs⟩ := hc
    obtain ⟨ei, hei, h1, h2⟩ := info_pair hp
    obtain ⟨i, z, hi, hzz, hzc, hcl⟩ := zeroIs_spec hz
    rw [hei] at hi; cases hi
    subst hzc
    simp only [evOp] at h
    split at h
    · rename_i n hn
      obtain ⟨⟨c1, c2, c3, c4⟩, h⟩ := ite_some h
      cases h
      have e1 := int_inv (rd_sound hr he hx hn)
      have e2 := int_inv (rd_sound hr he hy hn)
      subst h1; subst h2
      obtain ⟨v', w', ι', g1, g2, g3⟩ := makeSlice_sound (P := P) hr hu hei hzz hcl hzs c1 c2 c3 c4
      refine OpR.value' (v' := v') (w' := w') ?_ g2 g3
      rw [e1, e2]; exact g1
    · cases h
  · cases hc

theorem op_slice (hr : Rel G ι H w) (he : EnvR ι N σ a) {size x lo hi} {o : Oper} (hc : chkOp P G.n (.slice size x lo hi) o.op = true) {call : ACall} {meth} {v : Value} {H' : AHeap}
    (h : evOp call meth σ H (.slice size x lo hi) = some (v, H')) : OpR P G ι H w (execOp a.eval o) v H' := by
  obtain ⟨dst, op, ty, pos, aft, gd⟩ := o
  cases op <;> simp only [chkOp, Bool.false_eq_true] at hc
  rename_i t x' lo' hi' mx
  split at hc
  · rename_i t₁ x₁ lo₁ hi₁ heq
    injection heq with e1 e2 e3 e4 e5
    subst e1; subst e2; subst e3; subst e4; subst e5
    simp only [Bool.and_eq_true] at hc
    obtain ⟨⟨⟨hx, hlo⟩, hhi⟩, hc⟩ := hc
    split at hc
    · rename_i e hu
      simp only [decide_eq_true_eq, sizeT, Option.map_eq_some_iff] at hc
      obtain ⟨ei, hei, rfl⟩ := hc
      simp only [evOp] at h
      split at h
      · rename_i aa len c lov hiv hxv hlov hhiv
        split at h
        · rename_i l hh hb
          split at h
          · rename_i r hres
            cases h
            obtain ⟨v', g1, g2⟩ := slice_sound (P := P) hr hu hei (rdo_sound hr he hlo hlov) (rdo_sound hr he hhi hhiv) hb (rd_sound hr he hx hxv) hres
            exact OpR.value hr (v' := v') g1 g2
          · cases h
        · cases h
      · cases h
    · cases hc
  · cases hc

theorem op_fieldAddr (hr : Rel G ι H w) (he : EnvR ι N σ a) {off x} {o : Oper} (hc : chkOp P G.n (.fieldAddr off x) o.op = true) {call : ACall} {meth} {v : Value} {H' : AHeap}
    (h : evOp call meth σ H (.fieldAddr off x) = some (v, H')) : OpR P G ι H w (execOp a.eval o) v H' := by
  obtain ⟨dst, op, ty, pos, aft, gd⟩ := o
  cases op <;> simp only [chkOp, Bool.false_eq_true, Bool.and_eq_true] at hc
  rename_i s y f
  obtain ⟨hx, hc⟩ := hc
  split at hc
  · rename_i fields hu
    split at hc
    · rename_i fl hfl
      simp only [Bool.and_eq_true, decide_eq_true_eq] at hc
      obtain ⟨rfl, hne⟩ := hc
      simp only [evOp] at h
      split at h
      · rename_i b off hb
        cases h
        obtain ⟨e, h1, h2⟩ := ptr_inv (rd_sound hr he hx hb)
        have hsz : ∃ fi, P.info? fl.type = some fi ∧ fi.size ≠ 0 := by
          unfold Program.cellsOf at hne
          cases hfi : P.info? fl.type with
          | none => rw [hfi] at hne; simp at hne
          | some fi => rw [hfi] at hne; exact ⟨fi, rfl, by simpa using hne⟩
        obtain ⟨fi, hfi, hne⟩ := hsz
        refine OpR.value hr (v' := .pointer (some ⟨e.blk, e.base + (off + fl.offset), none⟩)) ?_ (.ptr h1)
        rw [h2]
        simp only [Instr.fieldAt, Sem.run_bind, run_underlying hu, Result.andThen_ok, hfl, Instr.sureAddr, Sem.run_pure, fieldPlace, run_sizeOf_of hfi, if_neg hne, addr_add, Nat.add_assoc]
      · cases h
    · cases hc
  · cases hc

theorem op_field (hr : Rel G ι H w) (he : EnvR ι N σ a) {off n x} {o : Oper} (hc : chkOp P G.n (.field off n x) o.op = true) {call : ACall} {meth} {v : Value} {H' : AHeap}
    (h : evOp call meth σ H (.field off n x) = some (v, H')) : OpR P G ι H w (execOp a.eval o) v H' := by
  obtain ⟨dst, op, ty, pos, aft, gd⟩ := o
  cases op <;> simp only [chkOp, Bool.false_eq_true, Bool.and_eq_true] at hc
  rename_i s y f
  obtain ⟨hx, hc⟩ := hc
  split at hc
  · rename_i fields hu
    split at hc
    · rename_i fl hfl
      simp only [Bool.and_eq_true, decide_eq_true_eq] at hc
      obtain ⟨rfl, hagg⟩ := hc
      simp only [evOp] at h
      split at h
      · rename_i cs hcs
        split at h
        · rename_i r hres
          cases h
          have hx' := rd_sound hr he hx hcs
          obtain ⟨ds, h2, hav⟩ : ∃ ds, a.eval y = .agg ds ∧ AVR ι cs ds := by
            generalize a.eval y = y' at *
            cases hx'
            rename_i h1 h2
            exact ⟨_, rfl, h1, h2⟩
          obtain ⟨v', g1, g2⟩ := part_sound (P := P) (w := w) hagg hav hres
          refine OpR.value hr (v' := v') ?_ g2
          rw [h2]
          simp only [Instr.field, Sem.run_bind, run_underlying hu, Result.andThen_ok, hfl, asAgg, Sem.run_pure, g1]
        · cases h
      · cases h
    · cases hc
  · cases hc

theorem op_indexAddr (hr : Rel G ι H w) (he : EnvR ι N σ a) {arr size x i} {o : Oper} (hc : chkOp P G.n (.indexAddr arr size x i) o.op = true) {call : ACall} {meth} {v : Value} {H' : AHeap}
    (h : evOp call meth σ H (.indexAddr arr size x i) = some (v, H')) : OpR P G ι H w (execOp a.eval o) v H' := by
  obtain ⟨dst, op, ty, pos, aft, gd⟩ := o
  cases op <;> simp only [chkOp, Bool.false_eq_true, Bool.and_eq_true] at hc
  rename_i t x' i'
  obtain ⟨⟨hx, hi⟩, hc⟩ := hc
  simp only [evOp] at h
  split at h
  · rename_i k n hn
    have e1 := int_inv (rd_sound hr he hi hn)
    split at hc
    · rename_i len e hu
      simp only [Bool.and_eq_true, decide_eq_true_eq, sizeT, Option.map_eq_some_iff] at hc
      obtain ⟨rfl, ei, hei, rfl⟩ := hc
      split at h
      · rename_i len' b off heq hxv
        cases heq
        obtain ⟨⟨c1, c2⟩, h⟩ := ite_some h
        cases h
        obtain ⟨ent, h1, h2⟩ := ptr_inv (rd_sound hr he hx hxv)
        refine OpR.value hr (v' := .pointer (some ⟨ent.blk, ent.base + (off + n.toNat * ei.size), none⟩)) ?_ (.ptr h1)
        rw [e1, h2]
        have hcond : 0 ≤ n ∧ n < (len : Int) := ⟨c1, c2⟩
        simp only [Instr.indexAt, Sem.run_bind, asIntOf, Sem.run_pure, Result.andThen_ok, run_underlying hu, Instr.sureAddr, if_pos hcond, run_sizeOf_of hei, addr_add, Nat.add_assoc]
      · rename_i heq _; cases heq
      · cases h
    · rename_i e hu
      simp only [Bool.and_eq_true, decide_eq_true_eq, sizeT, Option.map_eq_some_iff] at hc
      obtain ⟨rfl, ei, hei, rfl⟩ := hc
      split at h
      · rename_i heq _; cases heq
      · rename_i b off len c _ hxv
        obtain ⟨⟨c1, c2⟩, h⟩ := ite_some h
        cases h
        have hx' := rd_sound hr he hx hxv
        have hcond : 0 ≤ n ∧ n < (len : Int) := ⟨c1, c2⟩
        have key : ∃ ent cap, ι b = some ent ∧ a.eval x' = .slice (some ⟨ent.blk, ent.base + off, none⟩) len cap := by
          generalize a.eval x' = y' at *
          cases hx' with
          | slE => omega
          | sl h1 _ _ => exact ⟨_, _, h1, rfl⟩
        obtain ⟨ent, cap, h1, h2⟩ := key
        refine OpR.value hr (v' := .pointer (some ⟨ent.blk, ent.base + (off + n.toNat * ei.size), none⟩)) ?_ (.ptr h1)
        rw [e1, h2]
        simp only [Instr.indexAt, Sem.run_bind, asIntOf, Sem.run_pure, Result.andThen_ok, run_underlying hu, if_pos hcond, run_sizeOf_of hei, addr_add, Nat.add_assoc]
      · cases h
    · cases hc
  · cases h

theorem op_index (hr : Rel G ι H w) (he : EnvR ι N σ a) {len size n x i} {o : Oper} (hc : chkOp P G.n (.index len size n x i) o.op = true) {call : ACall} {meth} {v : Value} {H' : AHeap}
    (h : evOp call meth σ H (.index len size n x i) = some (v, H')) : OpR P G ι H w (execOp a.eval o) v H' := by
  obtain ⟨dst, op, ty, pos, aft, gd⟩ := o
  cases op <;> simp only [chkOp, Bool.false_eq_true, Bool.and_eq_true] at hc
  rename_i t x' i'
  obtain ⟨⟨hx, hi⟩, hc⟩ := hc
  split at hc
  · rename_i len' e hu
    simp only [Bool.and_eq_true, decide_eq_true_eq, sizeT, Option.map_eq_some_iff] at hc
    obtain ⟨⟨rfl, ei, hei, rfl⟩, hagg⟩ := hc
    simp only [evOp] at h
    split at h
    · rename_i cs k m hcs hm
      split at h
      · rename_i hcond
        split at h
        · rename_i r hres
          cases h
          have e1 := int_inv (rd_sound hr he hi hm)
          have hx' := rd_sound hr he hx hcs
          obtain ⟨ds, h2, hav⟩ : ∃ ds, a.eval x' = .agg ds ∧ AVR ι cs ds := by
            generalize a.eval x' = y' at *
            cases hx'
            rename_i h1 h2
            exact ⟨_, rfl, h1, h2⟩
          obtain ⟨v', g1, g2⟩ := part_sound (P := P) (w := w) hagg hav hres
          refine OpR.value hr (v' := v') ?_ g2
          rw [e1, h2]
          simp only [Instr.index, Sem.run_bind, asIntOf, Sem.run_pure, Result.andThen_ok, run_underlying hu, if_pos hcond, run_sizeOf_of hei, g1]
        · cases h
      · cases h
    · cases h
  · cases hc

theorem op_extract (hr : Rel G ι H w) (he : EnvR ι N σ a) {x i} {o : Oper} (hc : chkOp P G.n (.extract x i) o.op = true) {call : ACall} {meth} {v : Value} {H' : AHeap}
    (h : evOp call meth σ H (.extract x i) = some (v, H')) : OpR P G ι H w (execOp a.eval o) v H' := by
  obtain ⟨dst, op, ty, pos, aft, gd⟩ := o
  cases op <;> simp only [chkOp, Bool.false_eq_true, Bool.and_eq_true, decide_eq_true_eq] at hc
  rename_i y j
  obtain ⟨rfl, hx⟩ := hc
  simp only [evOp] at h
  split at h
  · rename_i cs hcs
    split at h
    · rename_i r hres
      cases h
      have hx' := rd_sound hr he hx hcs
      obtain ⟨ds, h2, hav⟩ : ∃ ds, a.eval y = .tuple ds ∧ AVR ι cs ds := by
        generalize a.eval y = y' at *
        cases hx'
        rename_i h1 h2
        exact ⟨_, rfl, h1, h2⟩
      obtain ⟨v', g1, g2⟩ := hav.get hres
      refine OpR.value hr (v' := v') ?_ g2
      rw [h2]
      simp [Instr.extract, g1]
    · cases h
  · cases h

theorem arr1 {α : Type} {l : Array α} {x : α} (h : l.toList = [x]) : l = #[x] := Array.ext' (by simpa using h)
theorem arr2 {α : Type} {l : Array α} {x y : α} (h : l.toList = [x, y]) : l = #[x, y] := Array.ext' (by simpa using h)

theorem op_len (hr : Rel G ι H w) (he : EnvR ι N σ a) {str x} {o : Oper} (hc : chkOp P G.n (.len str x) o.op = true) {call : ACall} {meth} {v : Value} {H' : AHeap}
    (h : evOp call meth σ H (.len str x) = some (v, H')) : OpR P G ι H w (execOp a.eval o) v H' := by
  obtain ⟨dst, op, ty, pos, aft, gd⟩ := o
  cases op <;> simp only [chkOp, Bool.false_eq_true] at hc
  rename_i c
  obtain ⟨callee, args, argTypes⟩ := c
  cases callee <;> try (simp only [Bool.false_eq_true] at hc)
  rename_i b
  cases b <;> try simp only [Bool.false_eq_true] at hc
  split at hc
  · rename_i y t ha ht
    obtain rfl := arr1 ha
    obtain rfl := arr1 ht
    simp only [Bool.and_eq_true] at hc
    obtain ⟨hx, hc⟩ := hc
    simp only [evOp] at h
    split at h
    · rename_i p n c hv
      cases h
      have hx' := rd_sound hr he hx hv
      split at hc
      · cases hc
      · rename_i e hu
        obtain ⟨p', c', h2⟩ : ∃ p' c', a.eval y = .slice p' n c' := by
          generalize a.eval y = y' at *
          cases hx' <;> exact ⟨_, _, rfl⟩
        refine ⟨_, .int .i64 n, w, ι, ?_, .inl rfl, Post.refl hr, .int _ _⟩
        simp [execOp, resolve, invoke, builtin, Builtin.len_, h2, run_underlying hu, goInt]
      · cases hc
    · rename_i s hv
      cases h
      have hx' := rd_sound hr he hx hv
      split at hc
      · rename_i hu
        have h2 := string_inv hx'
        refine ⟨_, .int .i64 s.size, w, ι, ?_, .inl rfl, Post.refl hr, .int _ _⟩
        simp [execOp, resolve, invoke, builtin, Builtin.len_, h2, run_underlying hu, goInt]
      · cases hc
      · cases hc
    · cases h
  · cases hc

theorem op_append (hr : Rel G ι H w) (he : EnvR ι N σ a) {size bytes x y} {o : Oper} (hc : chkOp P G.n (.append size bytes x y) o.op = true) {call : ACall} {meth} {v : Value} {H' : AHeap}
    (h : evOp call meth σ H (.append size bytes x y) = some (v, H')) : OpR P G ι H w (execOp a.eval o) v H' := by
  obtain ⟨dst, op, ty, pos, aft, gd⟩ := o
  cases op <;> simp only [chkOp, Bool.false_eq_true] at hc
  rename_i c
  obtain ⟨callee, args, argTypes⟩ := c
  cases callee <;> try (simp only [Bool.false_eq_true] at hc)
  rename_i b
  cases b <;> try simp only [Bool.false_eq_true] at hc
  split at hc
  · rename_i x' y' t u ha ht
    obtain rfl := arr2 ha
    obtain rfl := arr2 ht
    simp only [Bool.and_eq_true, decide_eq_true_eq] at hc
    obtain ⟨⟨⟨rfl, hx⟩, hy⟩, hc⟩ := hc
    split at hc
    · rename_i e hu
      simp only [Bool.and_eq_true, decide_eq_true_eq] at hc
      obtain ⟨hp, hz⟩ := hc
      obtain ⟨ei, hei, rfl, rfl⟩ := info_pair hp
      split at hz
      · rename_i z hz0
        simp only [decide_eq_true_eq] at hz
        obtain ⟨i, z', hi, hzz, rfl, hcl⟩ := zeroOf_spec hz0
        rw [hei] at hi; cases hi
        simp only [evOp] at h
        split at h
        · rename_i p n c q m d hxv hyv
          obtain ⟨v', w', ι', g1, g2, g3⟩ := append_sound (P := P) (ty := ty) hr hu hei hzz hz (rd_sound hr he hx hxv) (rd_sound hr he hy hyv) h
          refine ⟨_, v', w', ι', ?_, .inl rfl, g2, g3⟩
          simp [execOp, resolve, invoke, builtin, g1]
        · cases h
      · cases hz
    · cases hc
  · cases hc

theorem op_minmax (hr : Rel G ι H w) (he : EnvR ι N σ a) {mx x y} {o : Oper} (hc : chkOp P G.n (.minmax mx x y) o.op = true) {call : ACall} {meth} {v : Value} {H' : AHeap}
    (h : evOp call meth σ H (.minmax mx x y) = some (v, H')) : OpR P G ι H w (execOp a.eval o) v H' := by
  obtain ⟨dst, op, ty, pos, aft, gd⟩ := o
  cases op <;> simp only [chkOp, Bool.false_eq_true] at hc
  rename_i c
  obtain ⟨callee, args, argTypes⟩ := c
  cases callee <;> simp only [Bool.false_eq_true] at hc
  rename_i b
  simp only [Bool.and_eq_true] at hc
  obtain ⟨hb, hc⟩ := hc
  split at hc
  · rename_i x' y' ha
    obtain rfl := arr2 ha
    simp only [Bool.and_eq_true] at hc
    obtain ⟨hx, hy⟩ := hc
    simp only [evOp] at h
    split at h
    · rename_i k p k' q hxv hyv
      cases h
      have e1 := int_inv (rd_sound hr he hx hxv)
      have e2 := int_inv (rd_sound hr he hy hyv)
      cases b <;> simp only [Bool.false_eq_true] at hb
      · subst hb
        refine ⟨_, _, w, ι, ?_, .inl rfl, Post.refl hr, .int _ _⟩
        simp [execOp, resolve, invoke, builtin, Builtin.max_, Builtin.max2, e1, e2]
      · rw [Bool.not_eq_true'] at hb
        subst hb
        refine ⟨_, _, w, ι, ?_, .inl rfl, Post.refl hr, .int _ _⟩
        simp [execOp, resolve, invoke, builtin, Builtin.min_, Builtin.min2, e1, e2]
    · cases h
  · cases hc

/-- Does an operation call? -/
def AOp.calls : AOp → Bool
  | .call .. | .callQ .. | .callE .. | .invoke .. | .callV .. => true
  | .hold _ op => op.calls
  | _ => false

theorem op_sound (hr : Rel G ι H w) (he : EnvR ι N σ a) {ao : AOp} {o : Oper} (hc : chkOp P G.n ao o.op = true) {call : ACall} {meth} {v : Value} {H' : AHeap}
    (h : evOp call meth σ H ao = some (v, H')) : OpR P G ι H w (execOp a.eval o) v H' := by
  cases ao with
  | mov x => exact op_mov hr he hc h
  | pick c x y => exact op_pick hr he hc h
  | alloc z => exact op_alloc hr hc h
  | box x => exact op_box hr he hc h
  | build z ps => exact op_build hr he hc h
  | buildSlice s z n ps => exact op_buildSlice hr he hc h
  | load n x => exact op_load hr he hc h
  | store n x y => exact op_store hr he hc h
  | nilChk x => exact op_nilChk hr he hc h
  | bin op x y => exact op_bin hr he hc h
  | eqB n x y => exact op_eqB hr he hc h
  | isNil k n x => exact op_isNil hr he hc h
  | un op x => exact op_un hr he hc h
  | conv k x => exact op_conv hr he hc h
  | mkIface t x => exact op_mkIface hr he hc h
  | mkFunc fn x y => exact op_mkFunc hr he hc h
  | mkSlice s b z l => exact op_mkSlice hr he hc h
  | slice s x l r => exact op_slice hr he hc h
  | fieldAddr n x => exact op_fieldAddr hr he hc h
  | field n m x => exact op_field hr he hc h
  | indexAddr arr s x i => exact op_indexAddr hr he hc h
  | index l s n x i => exact op_index hr he hc h
  | extract x i => exact op_extract hr he hc h
  | len s x => exact op_len hr he hc h
  | append s b x y => exact op_append hr he hc h
  | minmax m x y => exact op_minmax hr he hc h
  | call f xs => simp [chkOp] at hc
  | callQ f xs => simp [chkOp] at hc
  | callE g f xs => simp [chkOp] at hc
  | invoke m x xs => simp [chkOp] at hc
  | callV x xs => simp [chkOp] at hc
  | hold ds op => simp [chkOp] at hc
end
end Go.Ab

/- Soundness of calls, and of operations in a row. -/
namespace Go.Ab
open Go

def callable (P : Program) (f : FuncId) : Bool :=
  match P.funcs[f]? with
  | some fn => !(fn.name == "runtime.NumGoroutine") && fn.body.isSome
  | none => false

def CallS (P : Program) (G : Glob) (call : ACall) : Prop :=
  ∀ f vs H v H', call f vs H = some (v, H') → callable P f = true ∧ ∀ ι w vs', Rel G ι H w → LVR ι vs vs' →
    Calls P f vs'.toArray w fun e w' => ∃ v' ι', e = .returned v' ∧ Post G ι H w ι' H' w' ∧ VR ι' v v'

def MethS (P : Program) (meth : TypeId → String → Option FuncId) : Prop :=
  ∀ t m f, meth t m = some f → ∀ v w, (method (P.types.size + Made.depth) t v m).run P w = .ok (f, v) w

def chkCall (gl : Nat) (ao : AOp) (o : Op) : Bool :=
  match ao with
  | .call f xs | .callQ f xs => match o with
    | .call { callee := .value (.func f'), args, .. } => decide (f = f') && chkOpds gl xs args.toList
    | _ => false
  | .callE g f xs => match o with
    | .call { callee := .value (.func f'), args, .. } => decide (g = gl) && decide (f = f') && chkOpds gl xs args.toList
    | _ => false
  | .invoke m x xs => match o with
    | .call { callee := .invoke y m', args, .. } => decide (m = m') && chkOpd gl x y && chkOpds gl xs args.toList
    | _ => false
  | .callV x xs => match o with
    | .call { callee := .value y, args, .. } => chkOpd gl x y && chkOpds gl xs args.toList
    | _ => false
  | _ => false

def chkBare (P : Program) (gl : Nat) (ao : AOp) (o : Op) : Bool := if ao.calls then chkCall gl ao o else chkOp P gl ao o

def chkAny (P : Program) (gl : Nat) (ao : AOp) (o : Op) : Bool :=
  match ao with
  | .hold _ op => chkBare P gl op o
  | ao => chkBare P gl ao o

section
variable {P : Program} {G : Glob} {ι : Inj} {H : AHeap} {w : World} {N : Nat} {σ : Env} {a : Act}

theorem run_callFunc {f : FuncId} (h : callable P f = true) (args : Array Value) (w : World) : (callFunc f args).run P w = .ok (.enter f args) w := by
  unfold callable at h
  split at h
  · rename_i fn hf
    simp only [Bool.and_eq_true, Bool.not_eq_true'] at h
    have e1 : (program : Sem Program).run P w = .ok P w := rfl
    obtain ⟨b, hb⟩ := Option.isSome_iff_exists.1 h.2
    simp only [callFunc, Sem.run_bind, e1, Result.andThen_ok, hf, h.1, hb]
    rfl
  · cases h

theorem Rel.froz (hr : Rel G ι H w) : Rel G ι H.froz w where
  obj i o ho := by
    rw [AHeap.get_froz] at ho
    obtain ⟨e, c, t, fz, h1, h2, h3, h4, h5, h6, _⟩ := hr.obj i o ho
    refine ⟨e, c, t, fz, h1, h2, h3, h4, h5, h6, fun hx => ?_⟩
    have := AHeap.get_lt ho
    simp at hx
    omega
  ent := hr.ent
  sep i j e f o p ho _ _ _ hi _ := by
    rw [AHeap.get_froz] at ho
    have := AHeap.get_lt ho
    simp at hi
    omega
  lo := Nat.le_refl _
  glb := hr.glb
  top i e o hi ho _ := by
    rw [AHeap.get_froz] at ho
    have := AHeap.get_lt ho
    simp at hi
    omega
  env := hr.env

/-- A world that has the same blocks, and more. -/
theorem Post.more (hr : Rel G ι H w) {w' : World} (hsame : ∀ b, b < w.heap.size → w'.heap[b]? = w.heap[b]?) (hsize : w.heap.size ≤ w'.heap.size) (h1 : w'.os = w.os) (h2 : w'.output = w.output)
    (h3 : w'.tape = w.tape) : Post G ι H w ι H w' := by
  have hgl : ∀ b, b < G.n → b < w.heap.size := fun b hb => by
    obtain ⟨e, he, h1, _⟩ := hr.glb b hb
    have := (hr.ent _ e he).2
    omega
  refine ⟨⟨?_, ?_, hr.sep, hr.lo, hr.glb, hr.top, G.st w _ hr.env fun b hb => hsame b (hgl b hb)⟩, ι.le_refl, rfl, Nat.le_refl _, hsize, fun b hb _ => hsame b hb, fun i e o hi ho he => .inr ⟨i, e, o, hi, ho, he, rfl⟩, h1, h2, h3⟩
  · intro i o ho
    obtain ⟨e, c, t, fz, h1, h2, h3, h4, h5, h6, h7⟩ := hr.obj i o ho
    exact ⟨e, c, t, fz, h1, h2, by rw [hsame _ (hr.ent i e h1).2]; exact h3, h4, h5, h6, h7⟩
  · intro i e he
    have := hr.ent i e he
    omega

/-- A quiet call has changed nothing that was there. -/
theorem Post.thaw (hr : Rel G ι H w) {ι' : Inj} {H' : AHeap} {w' : World} (h : Post G ι H.froz w ι' H' w') : Post G ι H w ι H w' :=
  Post.more hr (fun b hb => h.frame b hb fun i e o hi ho _ => by
    rw [AHeap.get_froz] at ho
    have := AHeap.get_lt ho
    simp at hi
    omega) h.size h.os h.out h.tape

theorem get_nil (n m i : Nat) : (⟨.nil, n, m⟩ : AHeap).get i = none := by
  unfold AHeap.get; split
  · exact Tr.find_nil _
  · rfl

theorem Rel.bare (hr : Rel G ι H w) : Rel G (fun i => if i < G.n then ι i else none) ⟨.nil, G.n, G.n⟩ w where
  obj i o ho := by
    rw [get_nil] at ho; cases ho
  ent i e he := by
    split at he
    · rename_i h; exact ⟨h, (hr.ent i e he).2⟩
    · cases he
  sep i j e f o p ho := by
    rw [get_nil] at ho; cases ho
  lo := Nat.le_refl _
  glb g hg := by
    obtain ⟨e, h1, h2, h3⟩ := hr.glb g hg
    exact ⟨e, by simp [hg, h1], h2, h3⟩
  top i e o _ ho := by rw [get_nil] at ho; cases ho
  env := hr.env

theorem LVR.closed {ι ι' : Inj} {vs vs' : List Value} (h : LVR ι vs vs') (hc : vs.all (closedIn 4) = true) : LVR ι' vs vs' := by
  induction h with
  | nil => exact .nil
  | cons hv _ ih =>
    simp only [List.all_cons, Bool.and_eq_true] at hc
    rw [closedIn_eq 4 _ _ hc.1 hv]
    exact .cons (closedIn_vr _ 4 _ hc.1) (ih hc.2)

/-- What an operation does to the rest. -/
def StepR (P : Program) (G : Glob) (ι : Inj) (H : AHeap) (w : World) (o : Oper) (a : Act) (v : Value) (H' : AHeap) : Prop :=
  ∀ (next : Act → World → Prop) (Q : Exit → Act → World → Prop),
    (∀ v' w' ι', Post G ι H w ι' H' w' → VR ι' v v' → next (a.put o.dst v') w') → o.wp P a w next Q

theorem StepR.of_op {o : Oper} {v : Value} {H' : AHeap} (h : OpR P G ι H w (execOp a.eval o) v H') : StepR P G ι H w o a v H' := by
  intro next Q hn
  obtain ⟨nx, v', w', ι', h1, h2, h3, h4⟩ := h
  unfold Oper.wp
  rw [h1]
  rcases h2 with rfl | ⟨rfl, rfl⟩
  · exact hn _ _ _ h3 h4
  · exact hn _ _ _ h3 h4

theorem StepR.of_calls {o : Oper} {v : Value} {H' : AHeap} {f : FuncId} {args : Array Value} (h : (execOp a.eval o).run P w = .ok (.enter f args) w)
    (hc : Calls P f args w fun e w' => ∃ v' ι', e = .returned v' ∧ Post G ι H w ι' H' w' ∧ VR ι' v v') : StepR P G ι H w o a v H' := by
  intro next Q hn
  unfold Oper.wp
  rw [h]
  refine hc.mono ?_
  rintro e w' ⟨v', ι', rfl, h1, h2⟩
  exact hn _ _ _ h1 h2

theorem step_call {call : ACall} {meth} (hcs : CallS P G call) (hms : MethS P meth) (hr : Rel G ι H w) (he : EnvR ι N σ a) {ao : AOp} {o : Oper} (hc : chkCall G.n ao o.op = true)
    {v : Value} {H' : AHeap} (h : evOp call meth σ H ao = some (v, H')) : StepR P G ι H w o a v H' := by
  obtain ⟨dst, op, ty, pos, aft, gd⟩ := o
  cases ao <;> simp only [chkCall, Bool.false_eq_true] at hc
  case call f xs =>
    split at hc
    · rename_i f' args ts
      simp only [Bool.and_eq_true, decide_eq_true_eq] at hc
      obtain ⟨rfl, hx⟩ := hc
      simp only [evOp] at h
      split at h
      · rename_i vs hvs
        obtain ⟨h1, h2⟩ := hcs f vs H v H' h
        have h3 := h2 ι w _ hr (rds_sound hr he hx hvs)
        refine StepR.of_calls (f := f) (args := (args.toList.map a.eval).toArray) ?_ h3
        simp only [execOp, resolve, Act.eval, Deferred.ofValue, Sem.run_bind, Sem.run_pure, Result.andThen_ok, invoke]
        rw [run_callFunc h1]
        congr 2
        apply Array.ext'
        simp
      · cases h
    · cases hc
  case callQ f xs =>
    split at hc
    · rename_i f' args ts
      simp only [Bool.and_eq_true, decide_eq_true_eq] at hc
      obtain ⟨rfl, hx⟩ := hc
      simp only [evOp] at h
      split at h
      · rename_i vs hvs
        split at h
        · rename_i u H1 hcall
          split at h
          · rename_i hcl
            cases h
            obtain ⟨h1, h2⟩ := hcs f vs H.froz v H1 hcall
            have h3 := h2 ι w _ hr.froz (rds_sound hr he hx hvs)
            refine StepR.of_calls (f := f) (args := (args.toList.map a.eval).toArray) ?_ (h3.mono ?_)
            · simp only [execOp, resolve, Act.eval, Deferred.ofValue, Sem.run_bind, Sem.run_pure, Result.andThen_ok, invoke]
              rw [run_callFunc h1]
              congr 2
              apply Array.ext'
              simp
            · rintro e w' ⟨v', ι', rfl, g1, g2⟩
              rw [closedIn_eq 4 _ _ hcl g2]
              exact ⟨v, ι, rfl, Post.thaw hr g1, closedIn_vr ι 4 v hcl⟩
          · cases h
        · cases h
      · cases h
    · cases hc
  case callE g f xs =>
    split at hc
    · rename_i f' args ts
      simp only [Bool.and_eq_true, decide_eq_true_eq] at hc
      obtain ⟨⟨rfl, rfl⟩, hx⟩ := hc
      simp only [evOp] at h
      split at h
      · rename_i vs hvs
        split at h
        · rename_i u H1 hcall
          split at h
          · rename_i hcl
            cases h
            simp only [Bool.and_eq_true] at hcl
            obtain ⟨h1, h2⟩ := hcs f vs _ v H1 hcall
            have h3 := h2 _ w _ hr.bare ((rds_sound hr he hx hvs).closed hcl.2)
            refine StepR.of_calls (f := f) (args := (args.toList.map a.eval).toArray) ?_ (h3.mono ?_)
            · simp only [execOp, resolve, Act.eval, Deferred.ofValue, Sem.run_bind, Sem.run_pure, Result.andThen_ok, invoke]
              rw [run_callFunc h1]
              congr 2
              apply Array.ext'
              simp
            · rintro e w' ⟨v', ι', rfl, g1, g2⟩
              rw [closedIn_eq 4 _ _ hcl.1 g2]
              refine ⟨v, ι, rfl, Post.more hr (fun b hb => g1.frame b hb fun i e o _ ho _ => ?_) g1.size g1.os g1.out g1.tape, closedIn_vr ι 4 v hcl.1⟩
              rw [get_nil] at ho; cases ho
          · cases h
        · cases h
      · cases h
    · cases hc
  case invoke m x xs =>
    split at hc
    · rename_i y m' args ts
      simp only [Bool.and_eq_true, decide_eq_true_eq] at hc
      obtain ⟨⟨rfl, hy⟩, hx⟩ := hc
      simp only [evOp] at h
      split at h
      · rename_i t u vs hu hvs
        split at h
        · rename_i f hf
          obtain ⟨h1, h2⟩ := hcs f _ H v H' h
          have hu' := rd_sound hr he hy hu
          obtain ⟨u', e1, e2⟩ : ∃ u', a.eval y = .iface t u' ∧ VR ι u u' := by
            generalize a.eval y = y' at *
            cases hu'
            rename_i hz
            exact ⟨_, rfl, hz⟩
          have h3 := h2 ι w _ hr (.cons e2 (rds_sound hr he hx hvs))
          refine StepR.of_calls (f := f) (args := (u' :: args.toList.map a.eval).toArray) ?_ h3
          have e3 : (program : Sem Program).run P w = .ok P w := rfl
          have e4 : (#[Value.iface t u'] ++ args.map a.eval)[0]? = some (.iface t u') := by rw [Array.getElem?_append_left (by simp)]; rfl
          simp only [execOp, resolve, Sem.run_bind, Sem.run_pure, Result.andThen_ok, invoke, e1, e4, callMethod, e3, hms t m f hf]
          rw [run_callFunc h1]
          congr 2
          apply Array.ext'
          simp
          exact List.take_of_length_le (by simp)
        · cases h
      · cases h
    · cases hc
  case callV x xs =>
    split at hc
    · rename_i y args ts
      simp only [Bool.and_eq_true] at hc
      obtain ⟨hy, hx⟩ := hc
      simp only [evOp] at h
      split at h
      · rename_i f p q vs hu hvs
        obtain ⟨h1, h2⟩ := hcs f _ H v H' h
        have hu' := rd_sound hr he hy hu
        obtain ⟨p', q', e1, e2, e3⟩ : ∃ p' q', a.eval y = .func (.func f) p' q' ∧ AVR ι p p' ∧ AVR ι q q' := by
          generalize a.eval y = y' at *
          cases hu'
          rename_i z1 z2 z3 z4
          exact ⟨_, _, rfl, ⟨z1, z2⟩, ⟨z3, z4⟩⟩
        have h3 := h2 ι w _ hr ((e2.lvr.append (rds_sound hr he hx hvs)).append e3.lvr)
        refine StepR.of_calls (f := f) (args := (p'.toList ++ args.toList.map a.eval ++ q'.toList).toArray) ?_ h3
        simp only [execOp, resolve, e1, Deferred.ofValue, Sem.run_bind, Sem.run_pure, Result.andThen_ok, invoke]
        rw [run_callFunc h1]
        congr 2
        apply Array.ext'
        simp
      · cases h
    · cases hc

theorem step_bare {call : ACall} {meth} (hcs : CallS P G call) (hms : MethS P meth) (hr : Rel G ι H w) (he : EnvR ι N σ a) {ao : AOp} {o : Oper} (hc : chkBare P G.n ao o.op = true)
    {v : Value} {H' : AHeap} (h : evOp call meth σ H ao = some (v, H')) : StepR P G ι H w o a v H' := by
  unfold chkBare at hc
  split at hc
  · exact step_call hcs hms hr he hc h
  · exact StepR.of_op (op_sound hr he hc h)

theorem step_any {call : ACall} {meth} (hcs : CallS P G call) (hms : MethS P meth) (hr : Rel G ι H w) (he : EnvR ι N σ a) {ao : AOp} {o : Oper} (hc : chkAny P G.n ao o.op = true)
    {v : Value} {H' : AHeap} (h : evOp call meth σ H ao = some (v, H')) : StepR P G ι H w o a v H' := by
  unfold chkAny at hc
  split at hc
  · rename_i ds op
    simp only [evOp] at h
    split at h
    · rename_i u H1 hu
      obtain ⟨_, h⟩ := ite_some h
      cases h
      exact step_bare hcs hms hr he hc hu
    · cases h
  · exact step_bare hcs hms hr he hc h

def chkDst (N : Nat) : Option Nat → Option Nat → Bool
  | none, none => true
  | some d, some e => d == e && decide (d < N)
  | _, _ => false

def chkGuard (ops : Array Oper) : Option (Nat × Bool) → Option (Nat × Bool) → Bool
  | none, none => true
  | some (g, b), some (j, c) => b == c && decide ((ops[j]?).bind (·.dst) = some g)
  | _, _ => false

def chkItem (P : Program) (gl N : Nat) (ops : Array Oper) (it : AItem) (o : Oper) : Bool :=
  chkDst N it.dst o.dst && chkGuard ops it.guard o.guard && chkAny P gl it.op o.op

/-- One item, by itself. -/
def evItem (call : ACall) (meth : TypeId → String → Option FuncId) (σ : Env) (H : AHeap) (it : AItem) : Option (Value × AHeap) :=
  match it.guard with
  | none => evOp call meth σ H it.op
  | some (g, want) => match σ.find g with
    | some (.bool b) => if b = want then evOp call meth σ H it.op else some (undef, H)
    | _ => none

def Env.putO (σ : Env) : Option Nat → Value → Env
  | some d, v => σ.put d v
  | none, _ => σ

theorem evItems_cons (call : ACall) (meth : TypeId → String → Option FuncId) (it : AItem) (rest : List AItem) (σ : Env) (H : AHeap) :
    evItems call meth (it :: rest) σ H = match evItem call meth σ H it with
      | some (v, H') => evItems call meth rest (σ.putO it.dst v) H'
      | none => none := by
  obtain ⟨dst, guard, op⟩ := it
  simp only [evItems, evItem]
  cases guard with
  | none => cases dst <;> (simp only [Env.putO]; try (cases evOp call meth σ H op <;> rfl))
  | some g =>
    obtain ⟨g, want⟩ := g
    simp only []
    cases hf : σ.find g with
    | none => rfl
    | some u =>
      cases u <;> try rfl
      rename_i b
      simp only []
      by_cases hb : b = want
      · simp only [if_pos hb]; cases dst <;> (simp only [Env.putO]; try (cases evOp call meth σ H op <;> rfl))
      · simp only [if_neg hb]; cases dst <;> rfl

theorem EnvR.putO {ι : Inj} {N : Nat} {σ : Env} {a : Act} (h : EnvR ι N σ a) {d e : Option Nat} (hd : chkDst N d e = true) {v v' : Value} (hv : VR ι v v') :
    EnvR ι N (σ.putO d v) (a.put e v') := by
  cases d <;> cases e <;> simp [chkDst] at hd
  · exact h
  · obtain ⟨rfl, hd⟩ := hd
    exact h.put hd hv

/-- One item, as the machine meets it. -/
theorem item_sound {call : ACall} {meth} (hcs : CallS P G call) (hms : MethS P meth) (hr : Rel G ι H w) (he : EnvR ι N σ a) {ops : Array Oper} {it : AItem} {o : Oper}
    (hc : chkItem P G.n N ops it o = true) {v : Value} {H' : AHeap} (h : evItem call meth σ H it = some (v, H')) {i : Nat} (hi : ops[i]? = some o)
    {K : Act → World → Prop} {Q : Exit → Act → World → Prop}
    (hK : ∀ ι' a' w', Post G ι H w ι' H' w' → EnvR ι' N (σ.putO it.dst v) a' → K a' w') : wpOp P ops Q i K a w := by
  simp only [chkItem, Bool.and_eq_true] at hc
  obtain ⟨⟨hd, hg⟩, hop⟩ := hc
  have hval : ∀ v' w' ι', Post G ι H w ι' H' w' → VR ι' v v' → K (a.put o.dst v') w' := fun v' w' ι' hp hv =>
    hK ι' _ _ hp ((he.mono hp.ext).putO hd hv)
  have hundef : VR ι undef undef := .tuple _ _ rfl (by simp)
  unfold wpOp
  rw [hi]
  simp only []
  obtain ⟨dst, guard, op⟩ := it
  obtain ⟨odst, oop, oty, opos, oaft, oguard⟩ := o
  cases guard with
  | none =>
    cases oguard <;> simp [chkGuard] at hg
    have : Region.wanted ⟨odst, oop, oty, opos, oaft, none⟩ (yielded ops a.tmps) = true := rfl
    rw [if_pos this]
    exact .inl (step_any hcs hms hr he hop h _ _ hval)
  | some g =>
    obtain ⟨g, want⟩ := g
    cases oguard with
    | none => simp [chkGuard] at hg
    | some j =>
      obtain ⟨j, want'⟩ := j
      simp only [chkGuard, Bool.and_eq_true, beq_iff_eq, decide_eq_true_eq] at hg
      obtain ⟨rfl, hg⟩ := hg
      simp only [evItem] at h
      split at h
      · rename_i b hb
        obtain ⟨v', h1, h2⟩ := he.val g _ hb
        have h2 := bool_inv h2
        subst h2
        have hy : yielded ops a.tmps j = some b := by simp [yielded, hg, h1]
        by_cases hbw : b = want
        · have hw : Region.wanted ⟨odst, oop, oty, opos, oaft, some (j, want)⟩ (yielded ops a.tmps) = true := by simp [Region.wanted, hy, hbw]
          rw [if_pos hw]
          rw [if_pos hbw] at h
          exact .inl (step_any hcs hms hr he hop h _ _ hval)
        · have hw : ¬ (Region.wanted ⟨odst, oop, oty, opos, oaft, some (j, want)⟩ (yielded ops a.tmps) = true) := by simp [Region.wanted, hy, hbw]
          rw [if_neg hw]
          rw [if_neg hbw] at h
          cases h
          exact hval _ _ _ (Post.refl hr) hundef
      · cases h

def chkItems (P : Program) (gl N : Nat) (ops : Array Oper) : List AItem → List Nat → Bool
  | [], [] => true
  | it :: its, i :: is => (match ops[i]? with | some o => chkItem P gl N ops it o | none => false) && chkItems P gl N ops its is
  | _, _ => false

/-- Items in a row. -/
theorem items_sound {call : ACall} {meth} (hcs : CallS P G call) (hms : MethS P meth) {ops : Array Oper} {Q : Exit → Act → World → Prop} : ∀ {its : List AItem} {is : List Nat}
    {ι : Inj} {H : AHeap} {w : World} {σ : Env} {a : Act}, Rel G ι H w → EnvR ι N σ a → chkItems P G.n N ops its is = true →
    ∀ {σ' : Env} {H' : AHeap}, evItems call meth its σ H = some (σ', H') → (∀ ι' a' w', Post G ι H w ι' H' w' → EnvR ι' N σ' a' → Q .normal a' w') → wpOps P ops Q is a w
  | [], [], ι, H, w, σ, a, hr, he, _, σ', H', h, hq => by
    simp only [evItems, Option.some.injEq, Prod.mk.injEq] at h
    obtain ⟨rfl, rfl⟩ := h
    exact hq ι a w (Post.refl hr) he
  | it :: its, i :: is, ι, H, w, σ, a, hr, he, hc, σ', H', h, hq => by
    simp only [chkItems, Bool.and_eq_true] at hc
    obtain ⟨h1, h2⟩ := hc
    split at h1
    · rename_i o ho
      rw [evItems_cons] at h
      split at h
      · rename_i v H1 hv
        rw [wpOps_cons]
        refine item_sound hcs hms hr he h1 hv ho fun ι' a' w' hp he' => ?_
        exact items_sound hcs hms hp.rel he' h2 h fun ι'' a'' w'' hp' he'' => hq ι'' a'' w'' (hp.trans hp') he''
      · cases h
    · cases h1
  | [], _ :: _, _, _, _, _, _, _, _, h, _, _, _, _ => by simp [chkItems] at h
  | _ :: _, [], _, _, _, _, _, _, _, h, _, _, _, _ => by simp [chkItems] at h
end
end Go.Ab

/- Soundness of regions that draw their order. -/
namespace Go.Ab
open Go

inductive Cls where
  | p | q1 | q2 | a | w
  deriving DecidableEq

def AOp.cls : AOp → Cls
  | .load .. | .slice .. => .q1
  | .callQ .. => .q2
  | .alloc .. | .box .. | .buildSlice .. | .mkSlice .. => .a
  | .store .. | .append .. | .call .. | .invoke .. | .callV .. | .hold .. => .w
  | _ => .p

def Cls.ok : Cls → Cls → Bool
  | .p, _ | _, .p => true
  | .q1, .q1 | .q1, .q2 | .q2, .q1 | .q2, .q2 => true
  | .q1, .a => true
  | _, _ => false

def AOp.opds : AOp → List AOpd
  | .mov x | .box x | .load _ x | .nilChk x | .isNil _ _ x | .un _ x | .conv _ x | .mkIface _ x | .mkSlice _ _ _ x | .fieldAddr _ x | .field _ _ x | .extract x _ | .len _ x => [x]
  | .pick c a b => [c, a, b]
  | .alloc _ => []
  | .build _ ps => vals ps
  | .buildSlice _ _ _ ps => ps.map (·.2)
  | .store _ a x | .bin _ a x | .eqB _ a x | .indexAddr _ _ a x | .index _ _ _ a x | .append _ _ a x | .minmax _ a x => [a, x]
  | .mkFunc _ a c => a ++ c
  | .slice _ x lo hi => [x] ++ lo.toList ++ hi.toList
  | .call _ xs | .callQ _ xs | .callE _ _ xs => xs
  | .invoke _ x xs | .callV x xs => x :: xs
  | .hold ds op => op.opds ++ ds.map (·.2)

def AOpd.tmp : AOpd → List Nat
  | .t n => [n]
  | .c _ => []

def AItem.reads (it : AItem) : List Nat := it.op.opds.flatMap AOpd.tmp ++ (match it.guard with | some (g, _) => [g] | none => [])

def writesInto (d : Option Nat) (l : List Nat) : Bool := match d with | some d => l.contains d | none => false

def AItem.apart (x y : AItem) : Bool := !writesInto x.dst y.reads && !writesInto y.dst x.reads && (match x.dst, y.dst with | some d, some e => d != e | _, _ => true)

def sameLoad (n : Option Nat) (p : AOpd) (d : Option Nat × AOpd) : Bool := match p, d.2 with
  | .t a, .t b => a == b && decide (n = d.1)
  | _, _ => false

/-- Does the second one see to it that the first one, a load, tells the same? -/
def AItem.holds (x y : AItem) : Bool := match x.op, y.op with
  | .load n p, .hold ds _ => decide (x.guard = y.guard) && ds.any (sameLoad n p)
  | _, _ => false

def AItem.compat (x y : AItem) : Bool := x.apart y && (x.op.cls.ok y.op.cls || x.holds y)

def Env.eqv (σ τ : Env) : Prop := ∀ n, σ.find n = τ.find n

section
variable {call : ACall} {meth : TypeId → String → Option FuncId}

theorem rd_congr {σ τ : Env} {x : AOpd} (h : ∀ n ∈ x.tmp, σ.find n = τ.find n) : σ.rd x = τ.rd x := by
  cases x with
  | t n => exact h n (by simp [AOpd.tmp])
  | c v => rfl

theorem rds_congr {σ τ : Env} : ∀ {xs : List AOpd}, (∀ x ∈ xs, σ.rd x = τ.rd x) → σ.rds xs = τ.rds xs
  | [], _ => rfl
  | x :: xs, h => by
    simp only [Env.rds, h x (by simp), rds_congr (xs := xs) fun y hy => h y (by simp [hy])]

theorem rdo_congr {σ τ : Env} {x : Option AOpd} (h : ∀ y ∈ x.toList, σ.rd y = τ.rd y) : σ.rdo x = τ.rdo x := by
  cases x with
  | none => rfl
  | some y => simp only [Env.rdo, h y (by simp)]

theorem evOp_congr {σ τ : Env} {H : AHeap} {op : AOp} (h : ∀ x ∈ op.opds, σ.rd x = τ.rd x) : evOp call meth σ H op = evOp call meth τ H op := by
  induction op with
  | hold ds op ih =>
    have h1 := ih fun x hx => h x (by simp [AOp.opds, hx])
    have h2 : ∀ H', ds.all (heldB σ H H') = ds.all (heldB τ H H') := by
      intro H'
      rw [Bool.eq_iff_iff, List.all_eq_true, List.all_eq_true]
      have e : ∀ d ∈ ds, heldB σ H H' d = heldB τ H H' d := fun d hd => by
        unfold heldB; rw [h d.2 (by simp only [AOp.opds, List.mem_append, List.mem_map]; exact .inr ⟨d, hd, rfl⟩)]
      exact ⟨fun k d hd => by rw [← e d hd]; exact k d hd, fun k d hd => by rw [e d hd]; exact k d hd⟩
    simp only [evOp, h1, h2]
  | mov x => simp only [evOp, h x (by simp [AOp.opds])]
  | pick c x y => simp only [evOp, h c (by simp [AOp.opds]), h x (by simp [AOp.opds]), h y (by simp [AOp.opds])]
  | alloc z => rfl
  | box x => simp only [evOp, h x (by simp [AOp.opds])]
  | build z ps => simp only [evOp, rds_congr (xs := vals ps) h]
  | buildSlice s z n ps => simp only [evOp]; rw [rds_congr (xs := ps.map (fun (p : Nat × AOpd) => p.2)) h]
  | load n x => simp only [evOp, h x (by simp [AOp.opds])]
  | store n x y => simp only [evOp, h x (by simp [AOp.opds]), h y (by simp [AOp.opds])]
  | nilChk x => simp only [evOp, h x (by simp [AOp.opds])]
  | bin op x y => simp only [evOp, h x (by simp [AOp.opds]), h y (by simp [AOp.opds])]
  | eqB n x y => simp only [evOp, h x (by simp [AOp.opds]), h y (by simp [AOp.opds])]
  | isNil k n x => simp only [evOp, h x (by simp [AOp.opds])]
  | un op x => simp only [evOp, h x (by simp [AOp.opds])]
  | conv k x => simp only [evOp, h x (by simp [AOp.opds])]
  | mkIface t x => simp only [evOp, h x (by simp [AOp.opds])]
  | mkFunc fn x y => simp only [evOp, rds_congr (xs := x) fun z hz => h z (by simp [AOp.opds, hz]), rds_congr (xs := y) fun z hz => h z (by simp [AOp.opds, hz])]
  | mkSlice s b z l => simp only [evOp, h l (by simp [AOp.opds])]
  | slice s x l r =>
    simp only [evOp, h x (by simp [AOp.opds]), rdo_congr (x := l) fun z hz => h z (by simp [AOp.opds] at hz ⊢; simp [hz]), rdo_congr (x := r) fun z hz => h z (by simp [AOp.opds] at hz ⊢; simp [hz])]
  | fieldAddr n x => simp only [evOp, h x (by simp [AOp.opds])]
  | field n m x => simp only [evOp, h x (by simp [AOp.opds])]
  | indexAddr arr s x i => simp only [evOp, h x (by simp [AOp.opds]), h i (by simp [AOp.opds])]
  | index l s n x i => simp only [evOp, h x (by simp [AOp.opds]), h i (by simp [AOp.opds])]
  | extract x i => simp only [evOp, h x (by simp [AOp.opds])]
  | len s x => simp only [evOp, h x (by simp [AOp.opds])]
  | append s b x y => simp only [evOp, h x (by simp [AOp.opds]), h y (by simp [AOp.opds])]
  | minmax m x y => simp only [evOp, h x (by simp [AOp.opds]), h y (by simp [AOp.opds])]
  | call f xs => simp only [evOp, rds_congr (xs := xs) h]
  | callQ f xs => simp only [evOp, rds_congr (xs := xs) h]
  | callE g f xs => simp only [evOp, rds_congr (xs := xs) h]
  | invoke m x xs => simp only [evOp, h x (by simp [AOp.opds]), rds_congr (xs := xs) fun z hz => h z (by simp [AOp.opds, hz])]
  | callV x xs => simp only [evOp, h x (by simp [AOp.opds]), rds_congr (xs := xs) fun z hz => h z (by simp [AOp.opds, hz])]

theorem evItem_congr {σ τ : Env} {H : AHeap} {it : AItem} (h : ∀ n ∈ it.reads, σ.find n = τ.find n) : evItem call meth σ H it = evItem call meth τ H it := by
  have hop : evOp call meth σ H it.op = evOp call meth τ H it.op := evOp_congr fun x hx => rd_congr fun n hn => h n (by
    simp only [AItem.reads, List.mem_append, List.mem_flatMap]; exact .inl ⟨x, hx, hn⟩)
  unfold evItem
  rw [hop]
  obtain ⟨dst, guard, op⟩ := it
  cases guard with
  | none => rfl
  | some g =>
    obtain ⟨g, b⟩ := g
    simp only []
    rw [h g (by simp [AItem.reads])]

theorem find_putO {σ : Env} {d : Option Nat} {v : Value} {n : Nat} (h : d ≠ some n) : (σ.putO d v).find n = σ.find n := by
  cases d with
  | none => rfl
  | some d =>
    simp only [Env.putO, Env.find_put]
    rw [if_neg (fun e => h (by rw [e]))]

theorem Env.eqv.putO {σ τ : Env} (h : σ.eqv τ) (d : Option Nat) (v : Value) : (σ.putO d v).eqv (τ.putO d v) := by
  intro n
  cases d with
  | none => exact h n
  | some d => simp only [Env.putO, Env.find_put, h n]

theorem evItems_eqv : ∀ {its : List AItem} {σ τ : Env} {H : AHeap} {σ' : Env} {H' : AHeap}, σ.eqv τ → evItems call meth its σ H = some (σ', H') →
    ∃ τ', evItems call meth its τ H = some (τ', H') ∧ σ'.eqv τ'
  | [], σ, τ, H, σ', H', he, h => by
    simp only [evItems, Option.some.injEq, Prod.mk.injEq] at h
    obtain ⟨rfl, rfl⟩ := h
    exact ⟨τ, rfl, he⟩
  | it :: its, σ, τ, H, σ', H', he, h => by
    rw [evItems_cons] at h ⊢
    rw [← evItem_congr (fun n _ => he n)]
    split at h
    · rename_i v H1 hv
      exact evItems_eqv (he.putO it.dst v) h
    · cases h

/-- What a class says. -/
theorem cls_p {σ : Env} {H : AHeap} {op : AOp} (hc : op.cls = .p) {v : Value} {H' : AHeap} (h : evOp call meth σ H op = some (v, H')) : H' = H ∧ ∀ H₂, evOp call meth σ H₂ op = some (v, H₂) := by
  cases op <;> simp [AOp.cls] at hc
  all_goals
    simp only [evOp] at h ⊢
    (repeat' split at h) <;> (first | (cases h; done) | (cases h; refine ⟨rfl, fun H₂ => ?_⟩; first | (simp_all; done) | (simp_all; omega)))

theorem get_new_old {H : AHeap} {o p : AObj} {i : Nat} (h : H.get i = some p) : (H.new o).get i = some p := by
  rw [AHeap.get_new_ne]
  · exact h
  · have := AHeap.get_lt h; omega

theorem read_new_old {H : AHeap} {o : AObj} {i off n : Nat} {l : List Value} (h : H.read i off n = some l) : (H.new o).read i off n = some l := by
  unfold AHeap.read at h ⊢
  split at h
  · cases h
  · rename_i p hp; rw [get_new_old hp]; exact h

theorem aLoad_new {H : AHeap} {o : AObj} {n : Option Nat} {p v : Value} (h : aLoad H n p = some v) : aLoad (H.new o) n p = some v := by
  unfold aLoad at h ⊢
  split at h
  · cases n with
    | none =>
      simp only [] at h ⊢
      split at h
      · rename_i q hq; simp only [get_new_old hq]; exact h
      · cases h
    | some n =>
      simp only [] at h ⊢
      split at h
      · rename_i cs hcs; simp only [read_new_old hcs]; exact h
      · cases h
  · cases h

theorem cls_q1 {σ : Env} {H : AHeap} {op : AOp} (hc : op.cls = .q1) {v : Value} {H' : AHeap} (h : evOp call meth σ H op = some (v, H')) : H' = H ∧ ∀ o, evOp call meth σ (H.new o) op = some (v, H.new o) := by
  cases op <;> simp [AOp.cls] at hc
  case load n x =>
    simp only [evOp] at h ⊢
    split at h
    · rename_i p hp
      split at h
      · rename_i u hu
        cases h
        exact ⟨rfl, fun o => by simp only [aLoad_new hu]⟩
      · cases h
    · cases h
  case slice s x lo hi =>
    simp only [evOp] at h ⊢
    split at h
    · rename_i aa len c lov hiv h1 h2 h3
      split at h
      · rename_i l hh hb
        split at h
        · rename_i r hres
          cases h
          refine ⟨rfl, fun o => ?_⟩
          have : aCut (H.new o) s aa len l hh = some v := by
            unfold aCut at hres ⊢
            split at hres
            · split at hres
              · rename_i i off hany
                cases hres
                cases hg : H.get i with
                | none => rw [hg] at hany; simp at hany
                | some p => rw [hg] at hany; simp only [get_new_old hg, hany, if_true]
              · cases hres
            · exact hres
            · cases hres
          simp only [this]
        · cases h
      · cases h
    · cases h

theorem cls_q2 {σ : Env} {H : AHeap} {op : AOp} (hc : op.cls = .q2) {v : Value} {H' : AHeap} (h : evOp call meth σ H op = some (v, H')) : H' = H := by
  cases op <;> simp [AOp.cls] at hc
  simp only [evOp] at h
  (repeat' split at h) <;> (first | (cases h; done) | (cases h; rfl))

theorem cls_a {σ : Env} {H : AHeap} {op : AOp} (hc : op.cls = .a) {v : Value} {H' : AHeap} (h : evOp call meth σ H op = some (v, H')) : ∃ o, H' = H.new o := by
  cases op <;> simp [AOp.cls] at hc
  all_goals
    simp only [evOp] at h
    (repeat' split at h) <;> (first | (cases h; done) | (cases h; exact ⟨_, rfl⟩))

/-- The same of items. -/
theorem it_p {σ : Env} {H : AHeap} {it : AItem} (hc : it.op.cls = .p) {v : Value} {H' : AHeap} (h : evItem call meth σ H it = some (v, H')) : H' = H ∧ ∀ H₂, evItem call meth σ H₂ it = some (v, H₂) := by
  unfold evItem at h ⊢
  split at h
  · exact cls_p hc h
  · split at h
    · split at h
      · rename_i hbw; simp only [hbw, if_true]; exact cls_p hc h
      · rename_i hbw; cases h; simp [hbw]
    · cases h

theorem it_q1 {σ : Env} {H : AHeap} {it : AItem} (hc : it.op.cls = .q1) {v : Value} {H' : AHeap} (h : evItem call meth σ H it = some (v, H')) : H' = H ∧ ∀ o, evItem call meth σ (H.new o) it = some (v, H.new o) := by
  unfold evItem at h ⊢
  split at h
  · exact cls_q1 hc h
  · split at h
    · split at h
      · rename_i hbw; simp only [hbw, if_true]; exact cls_q1 hc h
      · rename_i hbw; cases h; simp [hbw]
    · cases h

theorem it_q2 {σ : Env} {H : AHeap} {it : AItem} (hc : it.op.cls = .q2) {v : Value} {H' : AHeap} (h : evItem call meth σ H it = some (v, H')) : H' = H := by
  unfold evItem at h
  split at h
  · exact cls_q2 hc h
  · split at h
    · split at h
      · exact cls_q2 hc h
      · cases h; rfl
    · cases h

theorem it_a {σ : Env} {H : AHeap} {it : AItem} (hc : it.op.cls = .a) {v : Value} {H' : AHeap} (h : evItem call meth σ H it = some (v, H')) : H' = H ∨ ∃ o, H' = H.new o := by
  unfold evItem at h
  split at h
  · exact .inr (cls_a hc h)
  · split at h
    · split at h
      · exact .inr (cls_a hc h)
      · cases h; exact .inl rfl
    · cases h

theorem contains_false {l : List Nat} {d n : Nat} (h : l.contains d = false) (hn : n ∈ l) : d ≠ n := by
  intro e; subst e
  rw [← Bool.not_eq_true, List.contains_iff_mem] at h
  exact h hn

/-- Two neighbours change places. -/
theorem swap {x y : AItem} {rest : List AItem} (hc : x.compat y = true) {σ : Env} {H : AHeap} {σ' : Env} {H' : AHeap} (h : evItems call meth (x :: y :: rest) σ H = some (σ', H')) :
    ∃ τ', evItems call meth (y :: x :: rest) σ H = some (τ', H') ∧ σ'.eqv τ' := by
  simp only [AItem.compat, AItem.apart, Bool.and_eq_true, Bool.not_eq_true'] at hc
  obtain ⟨⟨⟨h1, h2⟩, h3⟩, h4⟩ := hc
  rw [Bool.or_eq_true] at h4
  rw [evItems_cons] at h
  split at h
  · rename_i vx Hx hx
    rw [evItems_cons] at h
    split at h
    · rename_i vy Hy hy
      have ny : ∀ (τ : Env) (K : AHeap) v, evItem call meth (τ.putO x.dst v) K y = evItem call meth τ K y := fun τ K v =>
        evItem_congr fun n hn => find_putO fun e => by rw [e] at h1; exact contains_false h1 hn rfl
      have nx : ∀ (τ : Env) (K : AHeap) v, evItem call meth (τ.putO y.dst v) K x = evItem call meth τ K x := fun τ K v =>
        evItem_congr fun n hn => find_putO fun e => by rw [e] at h2; exact contains_false h2 hn rfl
      rw [ny] at hy
      have key : ∃ K, evItem call meth σ H y = some (vy, K) ∧ evItem call meth σ K x = some (vx, Hy) := by
        rcases h4 with h4 | h4
        case inr =>
          unfold AItem.holds at h4
          split at h4
          · rename_i n p ds op hxo hyo
            simp only [Bool.and_eq_true, decide_eq_true_eq] at h4
            obtain ⟨hgd, h4⟩ := h4
            rw [List.any_eq_true] at h4
            obtain ⟨d, hd, hsd⟩ := h4
            have main : ∀ {vx Hx vy Hy}, evOp call meth σ H x.op = some (vx, Hx) → evOp call meth σ Hx y.op = some (vy, Hy) → ∃ K, evOp call meth σ H y.op = some (vy, K) ∧ evOp call meth σ K x.op = some (vx, Hy) := by
              intro vx Hx vy Hy hx hy
              rw [hxo] at hx ⊢
              rw [hyo] at hy ⊢
              simp only [evOp] at hx hy ⊢
              split at hx
              · rename_i q hq
                split at hx
                · rename_i u hu
                  cases hx
                  split at hy
                  · rename_i z Hz hz
                    obtain ⟨hall, hy⟩ := ite_some hy
                    cases hy
                    refine ⟨Hy, by rw [if_pos hall], ?_⟩
                    rw [List.all_eq_true] at hall
                    have hh := hall d hd
                    have hpd : p = d.2 ∧ n = d.1 := by
                      unfold sameLoad at hsd
                      split at hsd
                      · rename_i a b ha hb
                        simp only [Bool.and_eq_true, beq_iff_eq, decide_eq_true_eq] at hsd
                        exact ⟨by rw [hb, hsd.1], hsd.2⟩
                      · cases hsd
                    unfold heldB at hh
                    rw [← hpd.1, ← hpd.2, hq] at hh
                    simp only [hu] at hh
                    split at hh
                    · rename_i u₁ u₂ e1 e2
                      cases e1
                      rw [eqV_eq _ _ _ hh]
                      simp only [e2]
                    · cases hh
                  · cases hy
                · cases hx
              · cases hx
            unfold evItem at hx hy ⊢
            rw [← hgd] at hy ⊢
            cases hgx : x.guard with
            | none => rw [hgx] at hx hy; exact main hx hy
            | some g =>
              obtain ⟨g, want⟩ := g
              rw [hgx] at hx hy
              simp only [] at hx hy ⊢
              cases hf : σ.find g with
              | none => rw [hf] at hx; cases hx
              | some ub =>
                rw [hf] at hx hy
                cases ub <;> simp only [] at hx hy ⊢ <;> (first | (cases hx; done) | skip)
                rename_i b
                by_cases hbw : b = want
                · simp only [if_pos hbw] at hx hy ⊢; exact main hx hy
                · simp only [if_neg hbw] at hx hy ⊢; cases hx; cases hy; exact ⟨_, rfl, rfl⟩
          · cases h4
        cases hcx : x.op.cls
        case p =>
          obtain ⟨rfl, hp⟩ := it_p hcx hx
          exact ⟨Hy, hy, hp Hy⟩
        all_goals cases hcy : y.op.cls <;> rw [hcx, hcy] at h4 <;> simp only [Cls.ok, Bool.false_eq_true] at h4
        case q1.p => obtain ⟨rfl, hp⟩ := it_p hcy hy; exact ⟨H, hp H, hx⟩
        case q2.p => obtain ⟨rfl, hp⟩ := it_p hcy hy; exact ⟨H, hp H, hx⟩
        case a.p => obtain ⟨rfl, hp⟩ := it_p hcy hy; exact ⟨H, hp H, hx⟩
        case w.p => obtain ⟨rfl, hp⟩ := it_p hcy hy; exact ⟨H, hp H, hx⟩
        case q1.q1 => obtain ⟨rfl, _⟩ := it_q1 hcx hx; obtain ⟨rfl, _⟩ := it_q1 hcy hy; exact ⟨_, hy, hx⟩
        case q1.q2 => obtain ⟨rfl, _⟩ := it_q1 hcx hx; obtain rfl := it_q2 hcy hy; exact ⟨_, hy, hx⟩
        case q2.q1 => obtain rfl := it_q2 hcx hx; obtain ⟨rfl, _⟩ := it_q1 hcy hy; exact ⟨_, hy, hx⟩
        case q2.q2 => obtain rfl := it_q2 hcx hx; obtain rfl := it_q2 hcy hy; exact ⟨_, hy, hx⟩
        case q1.a =>
          obtain ⟨rfl, hp⟩ := it_q1 hcx hx
          rcases it_a hcy hy with rfl | ⟨o, rfl⟩
          · exact ⟨_, hy, hx⟩
          · exact ⟨_, hy, hp o⟩
      obtain ⟨K, k1, k2⟩ := key
      have hne : ∀ d e, x.dst = some d → y.dst = some e → d ≠ e := by
        intro d e hd he
        rw [hd, he] at h3
        simpa using h3
      have hcomm : ((σ.putO x.dst vx).putO y.dst vy).eqv ((σ.putO y.dst vy).putO x.dst vx) := by
        intro n
        cases hdx : x.dst with
        | none => rfl
        | some d =>
          cases hdy : y.dst with
          | none => rfl
          | some e =>
            have := hne d e hdx hdy
            simp only [Env.putO, Env.find_put]
            by_cases h5 : e = n
            · by_cases h6 : d = n
              · omega
              · simp [h5, h6]
            · simp [h5]
      obtain ⟨τ', t1, t2⟩ := evItems_eqv hcomm h
      refine ⟨τ', ?_, t2⟩
      rw [evItems_cons, k1]
      simp only []
      rw [evItems_cons, nx, k2]
      exact t1
    · cases h
  · cases h

theorem Env.eqv.trans {σ τ υ : Env} (h : σ.eqv τ) (h' : τ.eqv υ) : σ.eqv υ := fun n => (h n).trans (h' n)

/-- One of a row goes first. -/
theorem to_front {y : AItem} {l₂ : List AItem} : ∀ {l₁ : List AItem} {σ : Env} {H : AHeap} {σ' : Env} {H' : AHeap}, (∀ x ∈ l₁, x.compat y = true) →
    evItems call meth (l₁ ++ y :: l₂) σ H = some (σ', H') → ∃ τ', evItems call meth (y :: (l₁ ++ l₂)) σ H = some (τ', H') ∧ σ'.eqv τ'
  | [], σ, H, σ', H', _, h => ⟨σ', h, fun _ => rfl⟩
  | x :: l₁, σ, H, σ', H', hc, h => by
    rw [List.cons_append, evItems_cons] at h
    split at h
    · rename_i v H1 hv
      obtain ⟨τ, t1, t2⟩ := to_front (fun z hz => hc z (by simp [hz])) h
      have h2 : evItems call meth (x :: y :: (l₁ ++ l₂)) σ H = some (τ, H') := by rw [evItems_cons, hv]; exact t1
      obtain ⟨υ, u1, u2⟩ := swap (hc x (by simp)) h2
      exact ⟨υ, u1, t2.trans u2⟩
    · cases h

def AOp.strip : AOp → AOp
  | .hold _ op => op
  | op => op

def AItem.strip (it : AItem) : AItem := { it with op := it.op.strip }

theorem evItem_strip {σ : Env} {H : AHeap} {it : AItem} {v : Value} {H' : AHeap} (h : evItem call meth σ H it = some (v, H')) : evItem call meth σ H it.strip = some (v, H') := by
  obtain ⟨dst, guard, op⟩ := it
  cases op <;> try exact h
  rename_i ds op
  have main : ∀ {v H'}, evOp call meth σ H (.hold ds op) = some (v, H') → evOp call meth σ H op = some (v, H') := by
    intro v H' h
    simp only [evOp] at h
    split at h
    · rename_i z Hz hz
      split at h
      · cases h; exact hz
      · cases h
    · cases h
  unfold evItem AItem.strip AOp.strip at *
  cases guard with
  | none => exact main h
  | some g =>
    obtain ⟨g, want⟩ := g
    simp only [] at h ⊢
    cases hf : σ.find g with
    | none => rw [hf] at h; cases h
    | some ub =>
      rw [hf] at h
      cases ub <;> simp only [] at h ⊢ <;> (first | (cases h; done) | skip)
      rename_i b
      by_cases hbw : b = want
      · simp only [if_pos hbw] at h ⊢; exact main h
      · simp only [if_neg hbw] at h ⊢; exact h

theorem evItems_strip {σ : Env} {H : AHeap} {it : AItem} {l : List AItem} {r : Env × AHeap} (h : evItems call meth (it :: l) σ H = some r) : evItems call meth (it.strip :: l) σ H = some r := by
  rw [evItems_cons] at h ⊢
  split at h
  · rename_i v H1 hv
    rw [evItem_strip hv]
    exact h
  · cases h

/-- One of a row goes first, without what it holds. -/
def arrOk (y : AItem) : List AItem → Bool
  | [] => true
  | x :: r => if x.compat y.strip then arrOk y r else x.compat y && r.all (fun z => z.compat y)

theorem to_front_strip {y : AItem} {l₂ : List AItem} : ∀ {l₁ : List AItem} {σ : Env} {H : AHeap} {σ' : Env} {H' : AHeap}, arrOk y l₁ = true →
    evItems call meth (l₁ ++ y :: l₂) σ H = some (σ', H') → ∃ τ', evItems call meth (y.strip :: (l₁ ++ l₂)) σ H = some (τ', H') ∧ σ'.eqv τ'
  | [], σ, H, σ', H', _, h => ⟨σ', evItems_strip h, fun _ => rfl⟩
  | x :: l₁, σ, H, σ', H', hc, h => by
    simp only [arrOk] at hc
    split at hc
    · rename_i hx
      rw [List.cons_append, evItems_cons] at h
      split at h
      · rename_i v H1 hv
        obtain ⟨τ, t1, t2⟩ := to_front_strip hc h
        have h2 : evItems call meth (x :: y.strip :: (l₁ ++ l₂)) σ H = some (τ, H') := by rw [evItems_cons, hv]; exact t1
        obtain ⟨υ, u1, u2⟩ := swap hx h2
        exact ⟨υ, u1, t2.trans u2⟩
      · cases h
    · simp only [Bool.and_eq_true, List.all_eq_true] at hc
      obtain ⟨τ, t1, t2⟩ := to_front (l₁ := x :: l₁) (fun z hz => by
        cases hz with
        | head => exact hc.1
        | tail _ hz => exact hc.2 z hz) h
      exact ⟨τ, evItems_strip t1, t2⟩
end
end Go.Ab

/- Soundness of code and of functions. -/
namespace Go.Ab
open Go

def maskOk (ops : Array Oper) (m : Array Nat) : Bool := (List.range ops.size).all fun i =>
  match ops[i]? with
  | some o => o.after.toList.all (fun e => !Region.binds .any e || decide (e.on < i)) &&
      (m.getD i 0 == o.after.toList.foldl (fun s e => if Region.binds .any e then s ||| 2 ^ e.on ||| m.getD e.on 0 else s) 0)
  | none => false

/-- A pair that may be met in either order. -/
def pairOk (m : Array Nat) (x y : Nat × AItem) : Bool := (m.getD y.1 0).testBit x.1 || x.2.compat y.2.strip || x.2.compat y.2

def triOk (m : Array Nat) (x z y : Nat × AItem) : Bool := (m.getD y.1 0).testBit x.1 || (m.getD y.1 0).testBit z.1 || x.2.compat y.2.strip || z.2.compat y.2

def triIn (m : Array Nat) (x : Nat × AItem) : List (Nat × AItem) → Bool
  | [] => true
  | z :: r => r.all (triOk m x z) && triIn m x r

def pairsOk (m : Array Nat) : List (Nat × AItem) → Bool
  | [] => true
  | x :: r => r.all (pairOk m x) && triIn m x r && pairsOk m r

def nodupB : List Nat → Bool
  | [] => true
  | x :: r => !r.contains x && nodupB r

def chkRegd (P : Program) (gl N : Nat) (ops : Array Oper) (ord : List Nat) (its : List AItem) : Bool :=
  let m := Region.before ops
  maskOk ops m && decide (ord.length = ops.size) && nodupB ord && (List.range ops.size).all (fun i => ord.contains i) && chkItems P gl N ops its ord && pairsOk m (ord.zip its)

def Down (ops : Array Oper) (listed : Array Bool) : Prop :=
  ∀ i o, ops[i]? = some o → listed.getD i true = true → ∀ e ∈ o.after.toList, Region.binds .any e = true → listed.getD e.on false = true

theorem ready_spec {ops : Array Oper} {listed : Array Bool} {i : Nat} (h : i ∈ Region.ready .any ops listed) :
    i < ops.size ∧ listed.getD i true = false ∧ ∀ o, ops[i]? = some o → ∀ e ∈ o.after.toList, Region.binds .any e = true → listed.getD e.on false = true := by
  simp only [Region.ready, List.mem_filter, List.mem_range, Bool.and_eq_true, Bool.not_eq_true'] at h
  refine ⟨h.1, h.2.1, fun o ho e he hb => ?_⟩
  have h2 := h.2.2
  rw [ho] at h2
  simp only [Option.map_some, Option.getD_some, Array.all_eq_true] at h2
  rw [Array.mem_toList_iff, Array.mem_iff_getElem] at he
  obtain ⟨k, hk, rfl⟩ := he
  have := h2 k hk
  rw [hb] at this
  simpa using this

theorem ready_of {ops : Array Oper} {listed : Array Bool} {i : Nat} {o : Oper} (ho : ops[i]? = some o) (h1 : listed.getD i true = false)
    (h2 : ∀ e ∈ o.after.toList, Region.binds .any e = true → listed.getD e.on false = true) : i ∈ Region.ready .any ops listed := by
  have hi : i < ops.size := by
    rcases Nat.lt_or_ge i ops.size with h | h
    · exact h
    · rw [Array.getElem?_eq_none h] at ho; cases ho
  simp only [Region.ready, List.mem_filter, List.mem_range, Bool.and_eq_true, Bool.not_eq_true']
  refine ⟨hi, h1, ?_⟩
  rw [ho]
  simp only [Option.map_some, Option.getD_some, Array.all_eq_true]
  intro k hk
  by_cases hb : Region.binds .any o.after[k] = true
  · have := h2 o.after[k] (by simp) hb
    simp [hb, this]
  · simp at hb; simp [hb]

theorem maskOk_spec {ops : Array Oper} {m : Array Nat} (h : maskOk ops m = true) {i : Nat} {o : Oper} (ho : ops[i]? = some o) :
    (∀ e ∈ o.after.toList, Region.binds .any e = true → e.on < i) ∧
    m.getD i 0 = o.after.toList.foldl (fun s e => if Region.binds .any e then s ||| 2 ^ e.on ||| m.getD e.on 0 else s) 0 := by
  have hi : i < ops.size := by
    rcases Nat.lt_or_ge i ops.size with h | h
    · exact h
    · rw [Array.getElem?_eq_none h] at ho; cases ho
  simp only [maskOk, List.all_eq_true, List.mem_range] at h
  have := h i hi
  rw [ho] at this
  simp only [Bool.and_eq_true, List.all_eq_true, beq_iff_eq] at this
  refine ⟨fun e he hb => ?_, this.2⟩
  have h1 := this.1 e he
  rw [hb] at h1
  simpa using h1

theorem fold_bit (m : Array Nat) (j : Nat) : ∀ (l : List Edge) (s : Nat), (l.foldl (fun s e => if Region.binds .any e then s ||| 2 ^ e.on ||| m.getD e.on 0 else s) s).testBit j = true →
    s.testBit j = true ∨ ∃ e ∈ l, Region.binds .any e = true ∧ (e.on = j ∨ (m.getD e.on 0).testBit j = true)
  | [], s, h => .inl h
  | e :: l, s, h => by
    simp only [List.foldl_cons] at h
    rcases fold_bit m j l _ h with h1 | ⟨e', he', h1⟩
    · split at h1
      · rename_i hb
        rw [Nat.testBit_or, Nat.testBit_or, Bool.or_eq_true, Bool.or_eq_true] at h1
        rcases h1 with (h1 | h1) | h1
        · exact .inl h1
        · rw [Nat.testBit_two_pow] at h1
          exact .inr ⟨e, by simp, hb, .inl (by simpa using h1)⟩
        · exact .inr ⟨e, by simp, hb, .inr h1⟩
      · exact .inl h1
    · exact .inr ⟨e', by simp [he'], h1⟩

theorem getD_true_false {l : Array Bool} {i : Nat} (h : l.getD i false = true) : l.getD i true = true := by
  simp only [Array.getD_eq_getD_getElem?] at h ⊢
  cases hl : l[i]? with
  | none => rfl
  | some b => rw [hl] at h; simpa using h

/-- Whatever stands ahead of one that is ready has been done. -/
theorem anc_listed {ops : Array Oper} {m : Array Nat} (hm : maskOk ops m = true) {listed : Array Bool} (hd : Down ops listed) : ∀ (i : Nat) (o : Oper), ops[i]? = some o →
    (∀ e ∈ o.after.toList, Region.binds .any e = true → listed.getD e.on false = true) → ∀ j, (m.getD i 0).testBit j = true → listed.getD j false = true := by
  intro i
  induction i using Nat.strongRecOn with
  | _ i ih =>
    intro o ho hp j hj
    obtain ⟨h1, h2⟩ := maskOk_spec hm ho
    rw [h2] at hj
    rcases fold_bit m j _ _ hj with h3 | ⟨e, he, hb, h3⟩
    · simp at h3
    · have hl := hp e he hb
      rcases h3 with rfl | h3
      · exact hl
      · have hlt := h1 e he hb
        have hin : e.on < ops.size := by
          have : i < ops.size := by
            rcases Nat.lt_or_ge i ops.size with h | h
            · exact h
            · rw [Array.getElem?_eq_none h] at ho; cases ho
          omega
        have ho' : ops[e.on]? = some ops[e.on] := Array.getElem?_eq_getElem hin
        exact ih e.on hlt _ ho' (hd _ _ ho' (getD_true_false hl)) j h3

theorem ready_ex {ops : Array Oper} {m : Array Nat} (hm : maskOk ops m = true) {listed : Array Bool} (hsz : listed.size = ops.size) : ∀ (i : Nat), i < ops.size → listed.getD i true = false → Region.ready .any ops listed ≠ [] := by
  intro i
  induction i using Nat.strongRecOn with
  | _ i ih =>
    intro hi hl
    have ho : ops[i]? = some ops[i] := Array.getElem?_eq_getElem hi
    by_cases hall : ∀ e ∈ (ops[i]).after.toList, Region.binds .any e = true → listed.getD e.on false = true
    · intro hr
      have := ready_of ho hl hall
      rw [hr] at this
      cases this
    · simp only [Classical.not_forall] at hall
      obtain ⟨e, he, hb, hn⟩ := hall
      have hlt := (maskOk_spec hm ho).1 e he hb
      refine ih e.on hlt (by omega) ?_
      have he2 : e.on < listed.size := by omega
      simp only [Array.getD_eq_getD_getElem?, Array.getElem?_eq_getElem he2, Option.getD_some] at hn ⊢
      simpa using hn

section
variable {P : Program} {G : Glob} {N : Nat} {call : ACall} {meth : TypeId → String → Option FuncId}

theorem triIn_spec {m : Array Nat} {x y : Nat × AItem} {l₂ : List (Nat × AItem)} : ∀ {l₁ : List (Nat × AItem)}, triIn m x (l₁ ++ y :: l₂) = true →
    (∀ z ∈ l₁, triOk m x z y = true) ∧ triIn m x (l₁ ++ l₂) = true
  | [], h => by
    simp only [List.nil_append, triIn, Bool.and_eq_true] at h
    exact ⟨fun x hx => (by cases hx), h.2⟩
  | z :: l₁, h => by
    simp only [List.cons_append, triIn, Bool.and_eq_true, List.all_eq_true] at h
    obtain ⟨h1, h2⟩ := triIn_spec h.2
    refine ⟨fun u hu => ?_, ?_⟩
    · cases hu with
      | head => exact h.1 y (by simp)
      | tail _ hu => exact h1 u hu
    · simp only [List.cons_append, triIn, Bool.and_eq_true, List.all_eq_true]
      exact ⟨fun u hu => h.1 u (by simp at hu ⊢; rcases hu with hu | hu <;> simp [hu]), h2⟩

theorem pairsOk_spec {m : Array Nat} {y : Nat × AItem} {l₂ : List (Nat × AItem)} : ∀ {l₁ : List (Nat × AItem)}, pairsOk m (l₁ ++ y :: l₂) = true →
    ((∀ x ∈ l₁, (m.getD y.1 0).testBit x.1 = false) → arrOk y.2 (l₁.map (·.2)) = true) ∧ pairsOk m (l₁ ++ l₂) = true
  | [], h => by
    simp only [List.nil_append, pairsOk, Bool.and_eq_true] at h
    exact ⟨fun _ => rfl, h.2⟩
  | x :: l₁, h => by
    simp only [List.cons_append, pairsOk, Bool.and_eq_true, List.all_eq_true] at h
    obtain ⟨h1, h2⟩ := pairsOk_spec h.2
    obtain ⟨h3, h4⟩ := triIn_spec h.1.2
    refine ⟨fun hno => ?_, ?_⟩
    · have hx := hno x (by simp)
      have hp := h.1.1 y (by simp)
      simp only [pairOk, hx, Bool.false_or, Bool.or_eq_true] at hp
      simp only [List.map_cons, arrOk]
      split
      · exact h1 fun z hz => hno z (by simp [hz])
      · rename_i hns
        simp only [Bool.and_eq_true, List.all_eq_true]
        refine ⟨hp.resolve_left hns, fun z hz => ?_⟩
        rw [List.mem_map] at hz
        obtain ⟨u, hu, rfl⟩ := hz
        have ht := h3 u hu
        simp only [triOk, hx, hno u (by simp [hu]), Bool.false_or, Bool.or_eq_true] at ht
        exact ht.resolve_left hns
    · simp only [List.cons_append, pairsOk, Bool.and_eq_true, List.all_eq_true]
      exact ⟨⟨fun z hz => h.1.1 z (by simp at hz ⊢; rcases hz with hz | hz <;> simp [hz]), h4⟩, h2⟩

theorem chkItem_strip {ops : Array Oper} {it : AItem} {o : Oper} (h : chkItem P G.n N ops it o = true) : chkItem P G.n N ops it.strip o = true := by
  simp only [chkItem, Bool.and_eq_true] at h ⊢
  refine ⟨h.1, ?_⟩
  have h2 := h.2
  obtain ⟨dst, guard, op⟩ := it
  cases op <;> try exact h2
  rename_i ds op
  simp only [chkAny] at h2
  show chkAny P G.n op o.op = true
  cases op <;> try exact h2
  rename_i ds' op'
  exfalso
  unfold chkBare at h2
  split at h2
  · simp [chkCall] at h2
  · simp [chkOp] at h2

/-- A region's operations, in whatever order. -/
theorem any_sound (hcs : CallS P G call) (hms : MethS P meth) {ops : Array Oper} {m : Array Nat} (hm : maskOk ops m = true) {Q : Exit → Act → World → Prop} :
    ∀ (n : Nat) (L : List (Nat × AItem)) (listed : Array Bool) {ι : Inj} {H : AHeap} {w : World} {σ : Env} {a : Act}, L.length = n → Rel G ι H w → EnvR ι N σ a → listed.size = ops.size →
      (∀ x ∈ L, ∃ o, ops[x.1]? = some o ∧ chkItem P G.n N ops x.2 o = true) → (∀ i, i < ops.size → (listed.getD i true = false ↔ i ∈ L.map (·.1))) → (L.map (·.1)).Nodup →
      pairsOk m L = true → Down ops listed → ∀ {σ' : Env} {H' : AHeap}, evItems call meth (L.map (·.2)) σ H = some (σ', H') →
      (∀ ι' σ'' a' w', Post G ι H w ι' H' w' → σ'.eqv σ'' → EnvR ι' N σ'' a' → Q .normal a' w') → wpAny P .any ops Q n listed a w := by
  intro n
  induction n with
  | zero =>
    intro L listed ι H w σ a hL hr he hsz hchk hset hnd hpairs hdown σ' H' hev hq
    have hnil : L = [] := List.eq_nil_of_length_eq_zero hL
    subst hnil
    simp only [List.map_nil, evItems, Option.some.injEq, Prod.mk.injEq] at hev
    obtain ⟨rfl, rfl⟩ := hev
    refine ⟨?_, hq ι σ a w (Post.refl hr) (fun _ => rfl) he⟩
    cases hrd : Region.ready .any ops listed with
    | nil => rfl
    | cons i r =>
      have hi : i ∈ Region.ready .any ops listed := by rw [hrd]; simp
      obtain ⟨h1, h2, _⟩ := ready_spec hi
      have := (hset i h1).1 h2
      simp at this
  | succ n ih =>
    intro L listed ι H w σ a hL hr he hsz hchk hset hnd hpairs hdown σ' H' hev hq
    refine ⟨fun hnone => ?_, fun i hi => ?_⟩
    · exfalso
      cases L with
      | nil => simp at hL
      | cons x L =>
        obtain ⟨o, ho, _⟩ := hchk x (by simp)
        have hx : x.1 < ops.size := by
          rcases Nat.lt_or_ge x.1 ops.size with h | h
          · exact h
          · rw [Array.getElem?_eq_none h] at ho; cases ho
        exact ready_ex hm hsz x.1 hx ((hset x.1 hx).2 (by simp)) hnone
    · obtain ⟨h1, h2, h3⟩ := ready_spec hi
      have hmem := (hset i h1).1 h2
      rw [List.mem_map] at hmem
      obtain ⟨y, hy, rfl⟩ := hmem
      obtain ⟨l₁, l₂, rfl⟩ := List.append_of_mem hy
      obtain ⟨o, ho, hc⟩ := hchk y hy
      obtain ⟨p1, p2⟩ := pairsOk_spec hpairs
      have harr : arrOk y.2 (l₁.map (·.2)) = true := by
        refine p1 fun z hz => ?_
        cases hb : (m.getD y.1 0).testBit z.1 with
        | false => rfl
        | true =>
          exfalso
          have hl := anc_listed hm hdown y.1 o ho (h3 o ho) z.1 hb
          obtain ⟨oz, hoz, _⟩ := hchk z (by simp [hz])
          have hzs : z.1 < ops.size := by
            rcases Nat.lt_or_ge z.1 ops.size with h | h
            · exact h
            · rw [Array.getElem?_eq_none h] at hoz; cases hoz
          have := (hset z.1 hzs).2 (by simp; exact .inl ⟨z.2, hz⟩)
          rw [getD_true_false hl] at this
          cases this
      rw [List.map_append, List.map_cons] at hev
      obtain ⟨τ', t1, t2⟩ := to_front_strip harr hev
      rw [evItems_cons] at t1
      split at t1
      · rename_i v H1 hv
        refine item_sound hcs hms hr he (chkItem_strip hc) hv ho fun ι' a' w' hp he' => ?_
        have hsub : ∀ x, x ∈ l₁ ++ l₂ → x ∈ l₁ ++ y :: l₂ := by
          intro x hx; simp at hx ⊢; rcases hx with hx | hx <;> simp [hx]
        have hnd' : y.1 ∉ (l₁ ++ l₂).map (·.1) ∧ ((l₁ ++ l₂).map (·.1)).Nodup := by
          rw [List.map_append, List.map_cons] at hnd
          rw [List.map_append]
          have hperm : (l₁.map (·.1) ++ y.1 :: l₂.map (·.1)).Perm (y.1 :: (l₁.map (·.1) ++ l₂.map (·.1))) := List.perm_middle
          have := hperm.nodup_iff.1 hnd
          exact List.nodup_cons.1 this
        refine ih (l₁ ++ l₂) (listed.setIfInBounds y.1 true) (by simp at hL ⊢; omega) hp.rel he' (by simpa using hsz) (fun x hx => hchk x (hsub x hx)) ?_ hnd'.2 p2 ?_ (by rw [List.map_append]; exact t1) ?_
        · intro k hk
          have hk' : k < listed.size := by omega
          have hset' := hset k hk
          simp only [Array.getD_eq_getD_getElem?, Array.getElem?_setIfInBounds] at hset' ⊢
          by_cases e : y.1 = k
          · subst e
            simp [hk']
            simpa using hnd'.1
          · rw [if_neg e, hset']
            simp
            constructor
            · rintro (h | h | h)
              · exact .inl h
              · exact absurd h.symm e
              · exact .inr h
            · rintro (h | h)
              · exact .inl h
              · exact .inr (.inr h)
        · intro k ok hok hlk e he hb
          have mono : ∀ q, listed.getD q false = true → (listed.setIfInBounds y.1 true).getD q false = true := by
            intro q hq
            simp only [Array.getD_eq_getD_getElem?, Array.getElem?_setIfInBounds] at hq ⊢
            split
            · rename_i e; subst e
              split
              · rfl
              · rw [Array.getElem?_eq_none (by omega)] at hq; simp at hq
            · exact hq
          by_cases e' : y.1 = k
          · subst e'
            rw [ho] at hok; cases hok
            exact mono _ (h3 o ho e he hb)
          · have : listed.getD k true = true := by
              simp only [Array.getD_eq_getD_getElem?, Array.getElem?_setIfInBounds, if_neg e'] at hlk ⊢
              exact hlk
            exact mono _ (hdown k ok hok this e he hb)
        · intro ι'' σ'' a'' w'' hp' heq he''
          exact hq ι'' σ'' a'' w'' (hp.trans hp') (t2.trans heq) he''
      · cases t1

theorem nodupB_spec : ∀ {l : List Nat}, nodupB l = true → l.Nodup
  | [], _ => List.nodup_nil
  | x :: r, h => by
    simp only [nodupB, Bool.and_eq_true, Bool.not_eq_true'] at h
    refine List.nodup_cons.2 ⟨fun hm => ?_, nodupB_spec h.2⟩
    have := h.1
    rw [← Bool.not_eq_true, List.contains_iff_mem] at this
    exact this hm

theorem chkItems_spec {ops : Array Oper} : ∀ {its : List AItem} {is : List Nat}, chkItems P G.n N ops its is = true → its.length = is.length ∧ ∀ x ∈ is.zip its, ∃ o, ops[x.1]? = some o ∧ chkItem P G.n N ops x.2 o = true
  | [], [], _ => ⟨rfl, by simp⟩
  | it :: its, i :: is, h => by
    simp only [chkItems, Bool.and_eq_true] at h
    obtain ⟨h1, h2⟩ := chkItems_spec h.2
    refine ⟨by simp [h1], ?_⟩
    intro x hx
    simp only [List.zip_cons_cons, List.mem_cons] at hx
    rcases hx with rfl | hx
    · have := h.1
      split at this
      · rename_i o ho; exact ⟨o, ho, this⟩
      · cases this
    · exact h2 x hx
  | [], _ :: _, h => by simp [chkItems] at h
  | _ :: _, [], h => by simp [chkItems] at h

theorem zip_fst : ∀ {a : List Nat} {b : List AItem}, b.length = a.length → (a.zip b).map (·.1) = a
  | [], [], _ => rfl
  | x :: a, y :: b, h => by simp [zip_fst (a := a) (b := b) (by simpa using h)]
  | [], _ :: _, h => by simp at h
  | _ :: _, [], h => by simp at h

theorem zip_snd : ∀ {a : List Nat} {b : List AItem}, b.length = a.length → (a.zip b).map (·.2) = b
  | [], [], _ => rfl
  | x :: a, y :: b, h => by simp [zip_snd (a := a) (b := b) (by simpa using h)]
  | [], _ :: _, h => by simp at h
  | _ :: _, [], h => by simp at h

theorem EnvR.eqv {ι : Inj} {σ τ : Env} {a : Act} (h : EnvR ι N τ a) (he : σ.eqv τ) : EnvR ι N σ a :=
  ⟨fun n v hn => h.val n v (by rw [← he n]; exact hn), h.size, h.defers⟩

theorem regd_sound (hcs : CallS P G call) (hms : MethS P meth) (hmix : P.follows .mixedOrders = true) {ops : Array Oper} {ord : List Nat} {its : List AItem} {id : Nat} {Q : Exit → Act → World → Prop}
    {ι : Inj} {H : AHeap} {w : World} {σ : Env} {a : Act} (hr : Rel G ι H w) (he : EnvR ι N σ a) (hc : chkRegd P G.n N ops ord its = true)
    {σ' : Env} {H' : AHeap} (h : evItems call meth its σ H = some (σ', H')) (hq : ∀ ι' a' w', Post G ι H w ι' H' w' → EnvR ι' N σ' a' → Q .normal a' w') :
    (Code.region id ops true).wp P Q a w := by
  simp only [chkRegd, Bool.and_eq_true, decide_eq_true_eq, List.all_eq_true, List.mem_range] at hc
  obtain ⟨⟨⟨⟨⟨hm, hlen⟩, hnd⟩, hall⟩, hitems⟩, hpairs⟩ := hc
  obtain ⟨hl2, hchk⟩ := chkItems_spec hitems
  refine wp_region_any hmix ?_
  have hp0 := Post.drew hr (w.drawn + 1)
  have hin : ∀ i ∈ ord, i < ops.size := by
    intro i hi
    rw [← zip_fst hl2, List.mem_map] at hi
    obtain ⟨x, hx, rfl⟩ := hi
    obtain ⟨o, ho, _⟩ := hchk x hx
    rcases Nat.lt_or_ge x.1 ops.size with h | h
    · exact h
    · rw [Array.getElem?_eq_none h] at ho; cases ho
  refine any_sound hcs hms hm ops.size (ord.zip its) _ (by rw [List.length_zip]; omega) hp0.rel he (by simp) hchk ?_ (by rw [zip_fst hl2]; exact nodupB_spec hnd) hpairs ?_ (by rw [zip_snd hl2]; exact h) ?_
  · intro i hi
    rw [zip_fst hl2]
    have h1 : (Array.replicate ops.size false).getD i true = false := by simp [hi]
    rw [h1]
    simp only [true_iff]
    exact List.contains_iff_mem.1 (hall i hi)
  · intro i o ho hl
    have hi : i < ops.size := by
      rcases Nat.lt_or_ge i ops.size with h | h
      · exact h
      · rw [Array.getElem?_eq_none h] at ho; cases ho
    simp [hi] at hl
  · intro ι' σ'' a' w' hp heq he'
    exact hq ι' a' w' (hp0.trans hp) (he'.eqv heq)
end
end Go.Ab

/- Soundness of code and of functions. -/
namespace Go.Ab
open Go

def chkC (P : Program) (gl N : Nat) : ACode → Code → Bool
  | .skip, .skip => true
  | .reg its _, .region _ ops false => chkItems P gl N ops its (List.range ops.size)
  | .regd ord its _, .region _ ops true => chkRegd P gl N ops ord its
  | .seq a b, .seq c d => chkC P gl N a c && chkC P gl N b d
  | .cond x a b, .cond y c d => chkOpd gl x y && chkC P gl N a c && chkC P gl N b d
  | .block i b, .block j c => i == j && chkC P gl N b c
  | .loop b, .loop c => chkC P gl N b c
  | .exit i, .exit j => i == j
  | .scope b, .scope c => chkC P gl N b c
  | .label l, .label m => l == m
  | .goto l, .goto m => l == m
  | .ret, .ret => true
  | _, _ => false

def AEx.to : AEx → Exit
  | .norm => .normal
  | .exit i => .exit i
  | .goto l => .goto l
  | .ret => .ret

def LoopRun (P : Program) (c : Code) (Q : Exit → Act → World → Prop) (a : Act) (w : World) : Prop :=
  ∀ (b : Frame) (k : List Item) (cs : List Frame), ∃ e a' w', Q e a' w' ∧ Arrives P (lone (b.at a (.code c :: .inLoop c :: k)) cs w) b k cs e a' w'

def ScopeRun (P : Program) (c x : Code) (Q : Exit → Act → World → Prop) (a : Act) (w : World) : Prop :=
  ∀ (b : Frame) (k : List Item) (cs : List Frame), ∃ e a' w', Q e a' w' ∧ Arrives P (lone (b.at a (.code x :: .inScope c :: k)) cs w) b k cs e a' w'

section
variable {P : Program} {Q : Exit → Act → World → Prop}

theorem loop_wp {c : Code} {a : Act} {w : World} (h : LoopRun P c Q a w) : (Code.loop c).wp P Q a w := by
  intro b k cs
  obtain ⟨e, a', w', hq, harr⟩ := h b k cs
  exact ⟨e, a', w', hq, .of_steps (.one step_loop) harr⟩

theorem loop_step {c : Code} {a : Act} {w : World} (h : c.wp P (Exit.then (LoopRun P c Q) Q) a w) : LoopRun P c Q a w := by
  intro b k cs
  obtain ⟨e, a₁, w₁, hq, harr⟩ := h b (.inLoop c :: k) cs
  cases e with
  | normal =>
    obtain ⟨e₂, a₂, w₂, hq₂, harr₂⟩ := hq b k cs
    exact ⟨e₂, a₂, w₂, hq₂, .of_steps (Steps.trans harr (.one step_inLoop)) harr₂⟩
  | exit id => exact ⟨_, a₁, w₁, hq, .pass (x := .inLoop c) rfl (fun _ _ => .inl (by simp)) harr⟩
  | goto l => exact ⟨_, a₁, w₁, hq, .pass (x := .inLoop c) rfl (fun _ _ => .inl (by simp)) harr⟩
  | ret => exact ⟨_, a₁, w₁, hq, .pass (x := .inLoop c) rfl (fun _ _ => .inl (by simp)) harr⟩
  | panic ch => exact ⟨_, a₁, w₁, hq, .pass (x := .inLoop c) rfl (fun _ _ => .inl (by simp)) harr⟩
  | outgrown => exact ⟨_, a₁, w₁, hq, .pass (x := .inLoop c) rfl (fun _ _ => .inl (by simp)) harr⟩

theorem scope_wp {c : Code} {a : Act} {w : World} (h : ScopeRun P c c Q a w) : (Code.scope c).wp P Q a w := by
  intro b k cs
  obtain ⟨e, a', w', hq, harr⟩ := h b k cs
  exact ⟨e, a', w', hq, .of_steps (.one step_scope) harr⟩

def scopeQ (P : Program) (c : Code) (Q : Exit → Act → World → Prop) : Exit → Act → World → Prop
  | .goto l, a, w => (∃ rest, findLabel c l = some rest ∧ ScopeRun P c rest Q a w) ∨ (findLabel c l = none ∧ Q (.goto l) a w)
  | e, a, w => Q e a w

theorem scope_step {c x : Code} {a : Act} {w : World} (h : x.wp P (scopeQ P c Q) a w) : ScopeRun P c x Q a w := by
  intro b k cs
  obtain ⟨e, a₁, w₁, hq, harr⟩ := h b (.inScope c :: k) cs
  cases e with
  | normal => exact ⟨.normal, a₁, w₁, hq, Steps.trans harr (.one step_inScope)⟩
  | exit id => exact ⟨.exit id, a₁, w₁, hq, fun k' hk => harr k' (by simp [exitTo, hk])⟩
  | goto l =>
    rcases hq with ⟨rest, hf, hrun⟩ | ⟨hf, hq⟩
    · obtain ⟨e₂, a₂, w₂, hq₂, harr₂⟩ := hrun b k cs
      exact ⟨e₂, a₂, w₂, hq₂, .of_steps (harr _ (by simp [gotoIn, hf])) harr₂⟩
    · exact ⟨.goto l, a₁, w₁, hq, fun k' hk => harr k' (by simp [gotoIn, hf, hk])⟩
  | ret => exact ⟨_, a₁, w₁, hq, harr⟩
  | panic ch => exact ⟨_, a₁, w₁, hq, harr⟩
  | outgrown => exact ⟨_, a₁, w₁, hq, harr⟩

theorem label_same {G : Glob} {N : Nat} : ∀ {ac : ACode} {c : Code} {l : Nat}, chkC P G.n N ac c = true → hasLabel ac l = (findLabel c l).isSome := by
  intro ac
  induction ac with
  | seq a b iha ihb =>
    intro c l h
    cases c <;> simp only [chkC, Bool.false_eq_true] at h
    rename_i c d
    simp only [Bool.and_eq_true] at h
    simp only [hasLabel, iha h.1, ihb h.2, findLabel]
    cases findLabel c l <;> simp
  | label m =>
    intro c l h
    cases c <;> simp only [chkC, Bool.false_eq_true, beq_iff_eq] at h
    subst h
    simp only [hasLabel, findLabel]
    split <;> simp_all
  | reg its live =>
    intro c l h
    cases c <;> (try simp only [chkC, Bool.false_eq_true] at h)
    rfl
  | regd ord its live =>
    intro c l h
    cases c <;> (try simp only [chkC, Bool.false_eq_true] at h)
    rfl
  | _ =>
    intro c l h
    cases c <;> simp only [chkC, Bool.false_eq_true] at h
    try rfl

section
variable {G : Glob} {N : Nat} {call : ACall} {meth : TypeId → String → Option FuncId}

/-- What code comes to. -/
def CodeR (P : Program) (G : Glob) (N : Nat) (ι : Inj) (H : AHeap) (w : World) (a : Act) (c : Code) (ex : AEx) (σ' : Env) (H' : AHeap) : Prop :=
  ∀ (Q : Exit → Act → World → Prop), (∀ ι' a' w', Post G ι H w ι' H' w' → EnvR ι' N σ' a' → Q ex.to a' w') → c.wp P Q a w

theorem code_sound (hcs : CallS P G call) (hms : MethS P meth) (hmix : P.follows .mixedOrders = true) (k : Nat) : ∀ (ac : ACode) (c : Code), chkC P G.n N ac c = true →
    ∀ (l : Option Nat) {ι : Inj} {H : AHeap} {w : World} {σ : Env} {a : Act} {ex : AEx} {σ' : Env} {H' : AHeap}, Rel G ι H w → EnvR ι N σ a → evC call meth k ac l σ H = some (ex, σ', H') →
      match l with
      | none => CodeR P G N ι H w a c ex σ' H'
      | some l => ∃ rest, findLabel c l = some rest ∧ CodeR P G N ι H w a rest ex σ' H' := by
  intro ac
  induction ac with
  | skip =>
    intro c hc l ι H w σ a ex σ' H' hr he h
    cases c <;> simp only [chkC, Bool.false_eq_true] at hc
    cases l <;> simp only [evC] at h
    · cases h
      exact fun Q hq => wp_skip (hq ι a w (Post.refl hr) he)
    · cases h
  | reg its live =>
    intro c hc l ι H w σ a ex σ' H' hr he h
    cases l with
    | some l => simp [evC] at h
    | none =>
      cases c <;> (try simp only [chkC, Bool.false_eq_true] at hc)
      rename_i id ops draw
      cases draw <;> (try simp only [chkC, Bool.false_eq_true] at hc)
      simp only [evC] at h
      split at h
      · rename_i σ₁ H₁ hev
        cases h
        exact fun Q hq => wp_region (items_sound hcs hms hr he hc hev fun ι' a' w' hp he' => hq ι' a' w' hp (he'.keep live))
      · cases h
  | regd ord its live =>
    intro c hc l ι H w σ a ex σ' H' hr he h
    cases l with
    | some l => simp [evC] at h
    | none =>
      cases c <;> (try simp only [chkC, Bool.false_eq_true] at hc)
      rename_i id ops draw
      cases draw <;> (try simp only [chkC, Bool.false_eq_true] at hc)
      simp only [evC] at h
      split at h
      · rename_i σ₁ H₁ hev
        cases h
        exact fun Q hq => regd_sound hcs hms hmix hr he hc hev fun ι' a' w' hp he' => hq ι' a' w' hp (he'.keep live)
      · cases h
  | seq x y ihx ihy =>
    intro c hc l ι H w σ a ex σ' H' hr he h
    cases c <;> simp only [chkC, Bool.false_eq_true] at hc
    rename_i c d
    simp only [Bool.and_eq_true] at hc
    have both : ∀ {c' : Code}, (∀ {ex σ₁ H₁}, evC call meth k x l σ H = some (ex, σ₁, H₁) → CodeR P G N ι H w a c' ex σ₁ H₁) →
        (match evC call meth k x l σ H with
          | some (.norm, σ₁, H₁) => evC call meth k y none σ₁ H₁
          | r => r) = some (ex, σ', H') → CodeR P G N ι H w a (.seq c' d) ex σ' H' := by
      intro c' hx h
      split at h
      · rename_i σ₁ H₁ hev
        intro Q hq
        refine wp_seq (hx hev _ fun ι₁ a₁ w₁ hp₁ he₁ => ?_)
        exact ihy d hc.2 none hp₁.rel he₁ h Q fun ι₂ a₂ w₂ hp₂ he₂ => hq ι₂ a₂ w₂ (hp₁.trans hp₂) he₂
      · rename_i hne
        intro Q hq
        refine wp_seq (hx h _ fun ι₁ a₁ w₁ hp₁ he₁ => ?_)
        have := hq ι₁ a₁ w₁ hp₁ he₁
        cases ex with
        | norm => exact absurd h (hne σ' H')
        | exit i => exact this
        | goto l => exact this
        | ret => exact this
    cases l with
    | none =>
      simp only [evC] at h
      exact both (fun hev => ihx c hc.1 none hr he hev) h
    | some l =>
      simp only [evC] at h
      have hlab := label_same (l := l) hc.1
      split at h
      · rename_i hl
        rw [hlab] at hl
        obtain ⟨rest, hrest⟩ := Option.isSome_iff_exists.1 hl
        refine ⟨.seq rest d, by simp [findLabel, hrest], both (fun hev => ?_) h⟩
        obtain ⟨rest', h1, h2⟩ := ihx c hc.1 (some l) hr he hev
        rw [hrest] at h1; cases h1
        exact h2
      · rename_i hl
        have hn : findLabel c l = none := by
          cases hf : findLabel c l with
          | none => rfl
          | some r => rw [hlab, hf] at hl; simp at hl
        obtain ⟨rest, h1, h2⟩ := ihy d hc.2 (some l) hr he h
        exact ⟨rest, by simp [findLabel, hn, h1], h2⟩
  | cond x y z ihy ihz =>
    intro c hc l ι H w σ a ex σ' H' hr he h
    cases l with
    | some l => simp [evC] at h
    | none =>
      cases c <;> simp only [chkC, Bool.false_eq_true] at hc
      simp only [Bool.and_eq_true] at hc
      simp only [evC] at h
      split at h
      · rename_i hx
        have := bool_inv (rd_sound hr he hc.1.1 hx)
        exact fun Q hq => wp_cond_true this (ihy _ hc.1.2 none hr he h Q hq)
      · rename_i hx
        have := bool_inv (rd_sound hr he hc.1.1 hx)
        exact fun Q hq => wp_cond_false this (ihz _ hc.2 none hr he h Q hq)
      · cases h
  | block id b ih =>
    intro c hc l ι H w σ a ex σ' H' hr he h
    cases l with
    | some l => simp [evC] at h
    | none =>
      cases c <;> simp only [chkC, Bool.false_eq_true] at hc
      simp only [Bool.and_eq_true, beq_iff_eq] at hc
      obtain ⟨rfl, hc⟩ := hc
      simp only [evC] at h
      intro Q hq
      refine wp_block ?_
      split at h
      · rename_i id' σ₁ H₁ hev
        refine ih _ hc none hr he hev _ fun ι₁ a₁ w₁ hp₁ he₁ => ?_
        simp only [AEx.to, Exit.inBlock]
        split at h
        · rename_i e; cases h; rw [if_pos e]; exact hq ι₁ a₁ w₁ hp₁ he₁
        · rename_i e; cases h; rw [if_neg e]; exact hq ι₁ a₁ w₁ hp₁ he₁
      · rename_i hne
        refine ih _ hc none hr he h _ fun ι₁ a₁ w₁ hp₁ he₁ => ?_
        have := hq ι₁ a₁ w₁ hp₁ he₁
        cases ex with
        | norm => exact this
        | exit i => exact absurd h (hne i σ' H')
        | goto l => exact this
        | ret => exact this
  | loop b ih =>
    intro c hc l ι H w σ a ex σ' H' hr he h
    cases l with
    | some l => simp [evC] at h
    | none =>
      cases c <;> simp only [chkC, Bool.false_eq_true] at hc
      rename_i c
      simp only [evC] at h
      have key : ∀ (n : Nat) {ι : Inj} {H : AHeap} {w : World} {σ : Env} {a : Act}, Rel G ι H w → EnvR ι N σ a → loopN (evC call meth k b none) n σ H = some (ex, σ', H') →
          ∀ Q, (∀ ι' a' w', Post G ι H w ι' H' w' → EnvR ι' N σ' a' → Q ex.to a' w') → LoopRun P c Q a w := by
        intro n
        induction n with
        | zero => intro ι H w σ a hr he h; simp [loopN] at h
        | succ n ihn =>
          intro ι H w σ a hr he h Q hq
          simp only [loopN] at h
          split at h
          · rename_i σ₁ H₁ hev
            refine loop_step (ih c hc none hr he hev _ fun ι₁ a₁ w₁ hp₁ he₁ => ?_)
            exact ihn hp₁.rel he₁ h Q fun ι₂ a₂ w₂ hp₂ he₂ => hq ι₂ a₂ w₂ (hp₁.trans hp₂) he₂
          · rename_i hne
            refine loop_step (ih c hc none hr he h _ fun ι₁ a₁ w₁ hp₁ he₁ => ?_)
            have := hq ι₁ a₁ w₁ hp₁ he₁
            cases ex with
            | norm => exact absurd h (hne σ' H')
            | exit i => exact this
            | goto l => exact this
            | ret => exact this
      exact fun Q hq => loop_wp (key k hr he h Q hq)
  | exit id =>
    intro c hc l ι H w σ a ex σ' H' hr he h
    cases l with
    | some l => simp [evC] at h
    | none =>
      cases c <;> simp only [chkC, Bool.false_eq_true, beq_iff_eq] at hc
      subst hc
      simp only [evC] at h
      cases h
      exact fun Q hq => wp_exit (hq ι a w (Post.refl hr) he)
  | scope b ih =>
    intro c hc l ι H w σ a ex σ' H' hr he h
    cases l with
    | some l => simp [evC] at h
    | none =>
      cases c <;> simp only [chkC, Bool.false_eq_true] at hc
      rename_i c
      simp only [evC] at h
      have key : ∀ (n : Nat) (l : Option Nat) {ι : Inj} {H : AHeap} {w : World} {σ : Env} {a : Act}, Rel G ι H w → EnvR ι N σ a → jumpN (evC call meth k b) (hasLabel b) n l σ H = some (ex, σ', H') →
          ∀ Q, (∀ ι' a' w', Post G ι H w ι' H' w' → EnvR ι' N σ' a' → Q ex.to a' w') →
            match l with
            | none => ScopeRun P c c Q a w
            | some l => ∃ rest, findLabel c l = some rest ∧ ScopeRun P c rest Q a w := by
        intro n
        induction n with
        | zero => intro l ι H w σ a hr he h; simp [jumpN] at h
        | succ n ihn =>
          intro l ι H w σ a hr he h Q hq
          have one : ∀ {x : Code}, (∀ {ex σ₁ H₁}, evC call meth k b l σ H = some (ex, σ₁, H₁) → CodeR P G N ι H w a x ex σ₁ H₁) → ScopeRun P c x Q a w := by
            intro x hx
            simp only [jumpN] at h
            split at h
            · rename_i l' σ₁ H₁ hev
              refine scope_step (hx hev _ fun ι₁ a₁ w₁ hp₁ he₁ => ?_)
              have hlab := label_same (l := l') hc
              split at h
              · exact .inl (ihn (some l') hp₁.rel he₁ h Q fun ι₂ a₂ w₂ hp₂ he₂ => hq ι₂ a₂ w₂ (hp₁.trans hp₂) he₂)
              · rename_i hl
                cases h
                refine .inr ⟨?_, hq ι₁ a₁ w₁ hp₁ he₁⟩
                cases hf : findLabel c l' with
                | none => rfl
                | some r => rw [hlab, hf] at hl; simp at hl
            · rename_i hne
              refine scope_step (hx h _ fun ι₁ a₁ w₁ hp₁ he₁ => ?_)
              have := hq ι₁ a₁ w₁ hp₁ he₁
              cases ex with
              | norm => exact this
              | exit i => exact this
              | goto l => exact absurd h (hne l σ' H')
              | ret => exact this
          cases l with
          | none => exact one fun hev => ih c hc none hr he hev
          | some l =>
            have hex : ∃ ex₁ σ₁ H₁, evC call meth k b (some l) σ H = some (ex₁, σ₁, H₁) := by
              simp only [jumpN] at h
              split at h
              · rename_i hev; exact ⟨_, _, _, hev⟩
              · exact ⟨_, _, _, h⟩
            obtain ⟨ex₁, σ₁, H₁, hev⟩ := hex
            obtain ⟨rest, h1, _⟩ := ih c hc (some l) hr he hev
            refine ⟨rest, h1, one fun hev' => ?_⟩
            obtain ⟨rest', h1', h2'⟩ := ih c hc (some l) hr he hev'
            rw [h1] at h1'; cases h1'
            exact h2'
      exact fun Q hq => scope_wp (key k none hr he h Q hq)
  | label m =>
    intro c hc l ι H w σ a ex σ' H' hr he h
    cases c <;> simp only [chkC, Bool.false_eq_true, beq_iff_eq] at hc
    subst hc
    cases l with
    | none => simp only [evC] at h; cases h; exact fun Q hq => wp_label (hq ι a w (Post.refl hr) he)
    | some l =>
      simp only [evC] at h
      split at h
      · rename_i e
        cases h
        exact ⟨.skip, by simp [findLabel, e], fun Q hq => wp_skip (hq ι a w (Post.refl hr) he)⟩
      · cases h
  | goto m =>
    intro c hc l ι H w σ a ex σ' H' hr he h
    cases l with
    | some l => simp [evC] at h
    | none =>
      cases c <;> simp only [chkC, Bool.false_eq_true, beq_iff_eq] at hc
      subst hc
      simp only [evC] at h
      cases h
      exact fun Q hq => wp_goto (hq ι a w (Post.refl hr) he)
  | ret =>
    intro c hc l ι H w σ a ex σ' H' hr he h
    cases l with
    | some l => simp [evC] at h
    | none =>
      cases c <;> simp only [chkC, Bool.false_eq_true] at hc
      simp only [evC] at h
      cases h
      exact fun Q hq => wp_ret (hq ι a w (Post.refl hr) he)

def chkRes (P : Program) : List ARv → List ResultVar → Bool
  | [], [] => true
  | .tmp t :: r, .tmp u :: s => t == u && chkRes P r s
  | .cell x n :: r, .cell y t :: s => x == y && decide (aggOf P t = some n) && chkRes P r s
  | _, _ => false

def chkFn (P : Program) (gl : Nat) (f : FuncId) (fn : AFn) : Bool :=
  match P.funcs[f]? with
  | some g => match g.body with
    | some c => callable P f && decide (fn.nargs ≤ g.ntmps) && chkRes P fn.res g.results.toList && chkC P gl g.ntmps fn.body c
    | none => false
  | none => false

def resM (tmps : Array Value) : ResultVar → Sem Value
  | .tmp t => pure (tmps.getD t undef)
  | .cell a t => do loadVar t (← asAddr (tmps.getD a undef))

theorem res_sound {ι : Inj} {H : AHeap} {w : World} {σ : Env} {a : Act} (hr : Rel G ι H w) (he : EnvR ι N σ a) : ∀ {rs : List ARv} {qs : List ResultVar} {vs : List Value}, chkRes P rs qs = true → evRes σ H rs = some vs →
    ∃ vs', (qs.mapM (resM a.tmps)).run P w = .ok vs' w ∧ LVR ι vs vs'
  | [], [], vs, _, h => by simp only [evRes, Option.some.injEq] at h; subst h; exact ⟨[], rfl, .nil⟩
  | .tmp t :: rs, .tmp u :: qs, vs, hc, h => by
    simp only [chkRes, Bool.and_eq_true, beq_iff_eq] at hc
    obtain ⟨rfl, hc⟩ := hc
    simp only [evRes] at h
    split at h
    · cases h
    · rename_i v hv
      split at h
      · cases h
      · rename_i us hus
        cases h
        obtain ⟨v', h1, h2⟩ := he.val t v hv
        obtain ⟨us', g1, g2⟩ := res_sound hr he hc hus
        refine ⟨v' :: us', ?_, .cons h2 g2⟩
        simp only [List.mapM_cons, Sem.run_bind, resM, Sem.run_pure, Result.andThen_ok, g1]
        simp [h1]
  | .cell x n :: rs, .cell y t :: qs, vs, hc, h => by
    simp only [chkRes, Bool.and_eq_true, beq_iff_eq, decide_eq_true_eq] at hc
    obtain ⟨⟨rfl, hagg⟩, hc⟩ := hc
    simp only [evRes] at h
    split at h
    · cases h
    · rename_i v hv
      split at h
      · cases h
      · rename_i us hus
        cases h
        obtain ⟨us', g1, g2⟩ := res_sound hr he hc hus
        split at hv
        · rename_i p hx
          obtain ⟨p', h1, h2⟩ := he.val x _ hx
          obtain ⟨v', k1, k2⟩ := load_sound hr hagg h2 hv
          obtain ⟨e, rfl⟩ : ∃ e, p' = .pointer (some e) := by
            unfold aLoad at hv
            split at hv
            · obtain ⟨e, _, rfl⟩ := ptr_inv h2; exact ⟨_, rfl⟩
            · cases hv
          refine ⟨v' :: us', ?_, .cons k2 g2⟩
          have hp : a.tmps.getD x undef = .pointer (some e) := by simp [h1]
          simp only [Instr.loadAt, Instr.sureAddr, Sem.run_bind, Sem.run_pure, Result.andThen_ok] at k1
          simp only [List.mapM_cons, Sem.run_bind, resM, hp, asAddr, Sem.run_pure, Result.andThen_ok, k1, g1]
        · cases hv
  | [], _ :: _, _, h, _ => by simp [chkRes] at h
  | .tmp _ :: _, [], _, h, _ => by simp [chkRes] at h
  | .cell _ _ :: _, [], _, h, _ => by simp [chkRes] at h
  | .tmp _ :: _, .cell _ _ :: _, _, h, _ => by simp [chkRes] at h
  | .cell _ _ :: _, .tmp _ :: _, _, h, _ => by simp [chkRes] at h

theorem results_run {fn : Func} {tmps : Array Value} {vs : List Value} {w : World} (h : (fn.results.toList.mapM (resM tmps)).run P w = .ok vs w) : (results fn tmps).run P w = .ok (asResult vs) w := by
  have e : results fn tmps = fn.results.mapM (resM tmps) >>= fun vs => pure (if h : vs.size = 1 then vs[0] else .tuple vs) := by
    unfold results
    congr 1
  rw [e, Array.mapM_eq_mapM_toList]
  simp only [Sem.run_bind, Sem.run_map, h, Result.andThen_ok, Sem.run_pure]
  congr 1
  cases vs with
  | nil => rfl
  | cons v vs =>
    cases vs with
    | nil => rfl
    | cons u us => simp [asResult]

theorem asResult_vr {ι : Inj} {vs vs' : List Value} (h : LVR ι vs vs') : VR ι (asResult vs) (asResult vs') := by
  cases h with
  | nil => exact .tuple _ _ rfl (by simp)
  | cons h1 h2 =>
    cases h2 with
    | nil => exact h1
    | cons h3 h4 =>
      have := (LVR.cons h1 (LVR.cons h3 h4)).avr
      exact .tuple _ _ this.1 this.2

theorem argEnv_find : ∀ (vs : List Value) (n m : Nat), (argEnv n vs).find m = if n ≤ m then vs[m - n]? else none
  | [], n, m => by simp [argEnv, Env.find]
  | v :: vs, n, m => by
    simp only [argEnv, Env.find]
    by_cases e : n = m
    · subst e; simp
    · rw [if_neg e, argEnv_find vs (n + 1) m]
      by_cases h : n ≤ m
      · rw [if_pos h, if_pos (by omega)]
        obtain ⟨k, hk⟩ : ∃ k, m - n = k + 1 := ⟨m - n - 1, by omega⟩
        rw [hk, show m - (n + 1) = k by omega]
        simp
      · rw [if_neg h, if_neg (by omega)]

/-- What a program of abstract functions owes. -/
structure ProgOk (P : Program) (G : Glob) (T : AProg) : Prop where
  fn : ∀ f fn, T.fn f = some fn → chkFn P G.n f fn = true
  prim : ∀ f p, T.prim f = some p → callable P f = true ∧ ∀ vs H v H', p vs H = some (v, H') → ∀ ι w vs', Rel G ι H w → LVR ι vs vs' →
    Calls P f vs'.toArray w fun e w' => ∃ v' ι', e = .returned v' ∧ Post G ι H w ι' H' w' ∧ VR ι' v v'
  meth : MethS P T.meth

theorem fn_sound {T : AProg} (hT : ProgOk P G T) (hmix : P.follows .mixedOrders = true) : ∀ (k : Nat), CallS P G (evFn T k) := by
  intro k
  induction k with
  | zero => intro f vs H v H' h; simp [evFn] at h
  | succ k ih =>
    intro f vs H v H' h
    simp only [evFn] at h
    split at h
    · rename_i p hp
      obtain ⟨h1, h2⟩ := hT.prim f p hp
      exact ⟨h1, h2 vs H v H' h⟩
    · split at h
      · cases h
      · rename_i fn hfn
        have hc := hT.fn f fn hfn
        unfold chkFn at hc
        split at hc
        · rename_i g hg
          split at hc
          · rename_i c hb
            simp only [Bool.and_eq_true, decide_eq_true_eq] at hc
            obtain ⟨⟨⟨hcall, hn⟩, hres⟩, hcode⟩ := hc
            split at h
            · cases h
            · rename_i hlen
              refine ⟨hcall, fun ι w vs' hr hvs => calls_of_wp hg hb ?_⟩
              have hl' := hvs.length
              have he : EnvR ι g.ntmps (argEnv 0 vs) { tmps := vs'.toArray ++ Array.replicate (g.ntmps - vs'.toArray.size) undef, defers := [] } := by
                refine ⟨fun n u hu => ?_, by simp; omega, rfl⟩
                rw [argEnv_find] at hu
                simp only [Nat.zero_le, if_true, Nat.sub_zero] at hu
                obtain ⟨u', h1, h2⟩ := hvs.get n u hu
                refine ⟨u', ?_, h2⟩
                have hlt : n < vs'.length := by
                  rcases Nat.lt_or_ge n vs'.length with h | h
                  · exact h
                  · rw [List.getElem?_eq_none h] at h1; cases h1
                rw [Array.getElem?_append_left (by simpa using hlt)]
                simpa using h1
              have fin : ∀ {σ' H₁ us}, evRes σ' H₁ fn.res = some us → ∀ ι' a' w', Post G ι H w ι' H₁ w' → EnvR ι' g.ntmps σ' a' →
                  a'.defers = [] ∧ ∃ v, (results g a'.tmps).run P w' = .ok v w' ∧ ∃ v' ι'', Ending.returned v = .returned v' ∧ Post G ι H w ι'' H₁ w' ∧ VR ι'' (asResult us) v' := by
                intro σ' H₁ us hus ι' a' w' hp he'
                obtain ⟨us', g1, g2⟩ := res_sound hp.rel he' hres hus
                exact ⟨he'.defers, _, results_run g1, _, ι', rfl, hp, asResult_vr g2⟩
              split at h
              · rename_i σ' H₁ hev
                split at h
                · rename_i us hus
                  cases h
                  exact code_sound ih hT.meth hmix k fn.body c hcode none hr he hev _ fun ι' a' w' hp he' => fin hus ι' a' w' hp he'
                · cases h
              · rename_i σ' H₁ hev
                split at h
                · rename_i us hus
                  cases h
                  exact code_sound ih hT.meth hmix k fn.body c hcode none hr he hev _ fun ι' a' w' hp he' => fin hus ι' a' w' hp he'
                · cases h
              · cases h
          · cases hc
        · cases hc
end
end
end Go.Ab
