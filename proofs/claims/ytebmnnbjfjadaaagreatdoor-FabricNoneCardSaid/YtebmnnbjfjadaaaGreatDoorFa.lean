/- The abstract heap: a trie of objects, its lookup laws. -/
import Derived.Calls
import Derived.Orders
import Derived.Scope
namespace Go.Ab
open Go

/-- An abstract object: its tracked cells, and the cells that one element takes. -/
structure AObj where
  cells : List Value
  esz : Nat
  deriving Inhabited

inductive Tr where
  | nil
  | node (v : Option AObj) (l r : Tr)
  deriving Inhabited

def Tr.find : Tr → List Bool → Option AObj
  | .nil, _ => none
  | .node v _ _, [] => v
  | .node _ l _, true :: bs => l.find bs
  | .node _ _ r, false :: bs => r.find bs

def Tr.put : List Bool → Tr → Option AObj → Tr
  | [], .nil, v => .node v .nil .nil
  | [], .node _ l r, v => .node v l r
  | true :: bs, .nil, v => .node none (Tr.put bs .nil v) .nil
  | false :: bs, .nil, v => .node none .nil (Tr.put bs .nil v)
  | true :: bs, .node u l r, v => .node u (Tr.put bs l v) r
  | false :: bs, .node u l r, v => .node u l (Tr.put bs r v)

theorem Tr.find_put_same : ∀ (bs : List Bool) (t : Tr) (v : Option AObj), (Tr.put bs t v).find bs = v
  | [], .nil, v => rfl
  | [], .node _ _ _, v => rfl
  | true :: bs, .nil, v => by simp [Tr.put, Tr.find, Tr.find_put_same bs]
  | false :: bs, .nil, v => by simp [Tr.put, Tr.find, Tr.find_put_same bs]
  | true :: bs, .node _ _ _, v => by simp [Tr.put, Tr.find, Tr.find_put_same bs]
  | false :: bs, .node _ _ _, v => by simp [Tr.put, Tr.find, Tr.find_put_same bs]

theorem Tr.find_nil (bs : List Bool) : Tr.nil.find bs = none := by cases bs <;> rfl

theorem Tr.find_put_ne : ∀ (bs cs : List Bool) (t : Tr) (v : Option AObj), bs ≠ cs → (Tr.put bs t v).find cs = t.find cs
  | [], [], _, _, h => absurd rfl h
  | [], c :: cs, .nil, v, _ => by cases c <;> simp only [Tr.put, Tr.find]
  | [], c :: cs, .node _ _ _, v, _ => by cases c <;> simp [Tr.put, Tr.find]
  | b :: bs, [], .nil, v, _ => by cases b <;> simp [Tr.put, Tr.find]
  | b :: bs, [], .node _ _ _, v, _ => by cases b <;> simp [Tr.put, Tr.find]
  | b :: bs, c :: cs, .nil, v, h => by
    cases b <;> cases c <;> simp only [Tr.put, Tr.find]
    · rw [Tr.find_put_ne bs cs _ _ (by simpa using h), Tr.find_nil]
    · rw [Tr.find_put_ne bs cs _ _ (by simpa using h), Tr.find_nil]
  | b :: bs, c :: cs, .node _ _ _, v, h => by
    cases b <;> cases c <;> simp [Tr.put, Tr.find]
    · exact Tr.find_put_ne bs cs _ _ (by simpa using h)
    · exact Tr.find_put_ne bs cs _ _ (by simpa using h)

def bits : Nat → Nat → List Bool
  | 0, _ => []
  | f + 1, n => if n = 0 then [] else (n % 2 == 1) :: bits f (n / 2)

def unbits : List Bool → Nat
  | [] => 0
  | b :: bs => (if b then 1 else 0) + 2 * unbits bs

theorem unbits_bits : ∀ f n, n ≤ f → unbits (bits f n) = n
  | 0, n, h => by simp [bits, unbits]; omega
  | f + 1, n, h => by
    unfold bits
    split
    · simp [unbits, *]
    · simp only [unbits]
      rw [unbits_bits f (n / 2) (by omega)]
      by_cases hn : n % 2 = 1 <;> simp [hn] <;> omega

def key (n : Nat) : List Bool := bits n n

theorem key_inj {a b : Nat} (h : key a = key b) : a = b := by
  have := congrArg unbits h
  simpa [key, unbits_bits a a (Nat.le_refl _), unbits_bits b b (Nat.le_refl _)] using this

/-- The abstract heap. Objects below 'lo' are read only. -/
structure AHeap where
  tr : Tr
  next : Nat
  lo : Nat
  deriving Inhabited

def AHeap.get (H : AHeap) (i : Nat) : Option AObj := if i < H.next then H.tr.find (key i) else none
def AHeap.new (H : AHeap) (o : AObj) : AHeap := { H with tr := Tr.put (key H.next) H.tr (some o), next := H.next + 1 }
def AHeap.set (H : AHeap) (i : Nat) (o : AObj) : AHeap := { H with tr := Tr.put (key i) H.tr (some o) }
def AHeap.del (H : AHeap) (i : Nat) : AHeap := { H with tr := Tr.put (key i) H.tr none }
def AHeap.froz (H : AHeap) : AHeap := { H with lo := H.next }

theorem AHeap.get_lt {H : AHeap} {i : Nat} {o : AObj} (h : H.get i = some o) : i < H.next := by
  unfold AHeap.get at h; split at h
  · assumption
  · cases h

theorem AHeap.get_new (H : AHeap) (o : AObj) (j : Nat) : (H.new o).get j = if j = H.next then some o else H.get j := by
  unfold AHeap.get AHeap.new
  by_cases e : j = H.next
  · subst e; simp [Tr.find_put_same]
  · rw [if_neg e]
    simp only []
    rw [Tr.find_put_ne _ _ _ _ (fun h => e (key_inj h).symm)]
    by_cases h : j < H.next
    · rw [if_pos h, if_pos (by omega)]
    · rw [if_neg h, if_neg (by omega)]

theorem AHeap.get_set (H : AHeap) (i : Nat) (o : AObj) (j : Nat) : (H.set i o).get j = if j = i ∧ i < H.next then some o else H.get j := by
  unfold AHeap.get AHeap.set
  by_cases e : j = i
  · subst e; by_cases h : j < H.next <;> simp [Tr.find_put_same, h]
  · simp [e, Tr.find_put_ne _ _ _ _ (fun h => e (key_inj h).symm)]

theorem AHeap.get_del (H : AHeap) (i : Nat) (j : Nat) : (H.del i).get j = if j = i then none else H.get j := by
  unfold AHeap.get AHeap.del
  by_cases e : j = i
  · subst e; simp [Tr.find_put_same]
  · simp [e, Tr.find_put_ne _ _ _ _ (fun h => e (key_inj h).symm)]

@[simp] theorem AHeap.next_new (H : AHeap) (o : AObj) : (H.new o).next = H.next + 1 := rfl
@[simp] theorem AHeap.next_set (H : AHeap) (i : Nat) (o : AObj) : (H.set i o).next = H.next := rfl
@[simp] theorem AHeap.next_del (H : AHeap) (i : Nat) : (H.del i).next = H.next := rfl
@[simp] theorem AHeap.lo_new (H : AHeap) (o : AObj) : (H.new o).lo = H.lo := rfl
@[simp] theorem AHeap.lo_set (H : AHeap) (i : Nat) (o : AObj) : (H.set i o).lo = H.lo := rfl
@[simp] theorem AHeap.lo_del (H : AHeap) (i : Nat) : (H.del i).lo = H.lo := rfl
@[simp] theorem AHeap.next_froz (H : AHeap) : H.froz.next = H.next := rfl
@[simp] theorem AHeap.lo_froz (H : AHeap) : H.froz.lo = H.next := rfl
@[simp] theorem AHeap.get_froz (H : AHeap) (i : Nat) : H.froz.get i = H.get i := rfl
theorem AHeap.get_new_next (H : AHeap) (o : AObj) : (H.new o).get H.next = some o := by rw [AHeap.get_new, if_pos rfl]
theorem AHeap.get_new_ne (H : AHeap) (o : AObj) {j : Nat} (h : j ≠ H.next) : (H.new o).get j = H.get j := by rw [AHeap.get_new, if_neg h]
theorem AHeap.get_set_ne (H : AHeap) (i : Nat) (o : AObj) {j : Nat} (h : j ≠ i) : (H.set i o).get j = H.get j := by rw [AHeap.get_set, if_neg (fun x => h x.1)]
theorem AHeap.get_set_same (H : AHeap) (i : Nat) (o : AObj) (h : i < H.next) : (H.set i o).get i = some o := by rw [AHeap.get_set, if_pos ⟨rfl, h⟩]

end Go.Ab
