/- The framework, in one text. -/
import Derived.Test.YtoiehfgdjjmakaaDoorFB
/- Two abstract heaps, one inside the other: how their values and objects stand for each other. -/
namespace Go.Ab
open Go

/-- Which object of the right heap stands for one of the left, by spot and number. -/
abbrev Mp := Option Nat → Nat → Option Nat

/-- A value of which nothing is known. -/
abbrev wild : Value := .chan (some 0)

inductive SV (μ : Mp) : Value → Value → Prop
  | wild {u : Value} : one u = true → SV μ wild u
  | bool (b : Bool) : SV μ (.bool b) (.bool b)
  | int (k : IntKind) (n : Int) : SV μ (.int k n) (.int k n)
  | float (k : FloatKind) (n : Nat) : SV μ (.float k n) (.float k n)
  | complex (k : FloatKind) (a b : Nat) : SV μ (.complex k a b) (.complex k a b)
  | string (s : ByteArray) : SV μ (.string s) (.string s)
  | ptrNil : SV μ (.pointer none) (.pointer none)
  | ptr {s : Option Nat} {i j off : Nat} : μ s i = some j → SV μ (.pointer (some ⟨i, off, s⟩)) (.pointer (some ⟨j, off, none⟩))
  | slNil (n c : Nat) : SV μ (.slice none n c) (.slice none n c)
  | sl {s : Option Nat} {i j off : Nat} (n c : Nat) : μ s i = some j → SV μ (.slice (some ⟨i, off, s⟩) n c) (.slice (some ⟨j, off, none⟩) n c)
  | map (r : Option Nat) : SV μ (.map r) (.map r)
  | chan : SV μ (.chan none) (.chan none)
  | nilFunc : SV μ .nilFunc .nilFunc
  | nilIface : SV μ .nilIface .nilIface
  | func (fn : Fn) (f c f' c' : Array Value) : f.size = f'.size → (∀ (k : Nat) v v', f[k]? = some v → f'[k]? = some v' → SV μ v v') →
      c.size = c'.size → (∀ (k : Nat) v v', c[k]? = some v → c'[k]? = some v' → SV μ v v') → SV μ (.func fn f c) (.func fn f' c')
  | iface (t : TypeId) (v v' : Value) : SV μ v v' → SV μ (.iface t v) (.iface t v')
  | agg (c c' : Array Value) : c.size = c'.size → (∀ (k : Nat) v v', c[k]? = some v → c'[k]? = some v' → SV μ v v') → SV μ (.agg c) (.agg c')
  | tuple (c c' : Array Value) : c.size = c'.size → (∀ (k : Nat) v v', c[k]? = some v → c'[k]? = some v' → SV μ v v') → SV μ (.tuple c) (.tuple c')

def ASV (μ : Mp) (a b : Array Value) : Prop := a.size = b.size ∧ ∀ (k : Nat) v v', a[k]? = some v → b[k]? = some v' → SV μ v v'

def Mp.le (μ ν : Mp) : Prop := ∀ s i j, μ s i = some j → ν s i = some j
theorem Mp.le_refl (μ : Mp) : μ.le μ := fun _ _ _ h => h
theorem Mp.le_trans {a b c : Mp} (h : a.le b) (h' : b.le c) : a.le c := fun s i j x => h' s i j (h s i j x)

theorem SV.mono {μ ν : Mp} (hl : μ.le ν) {v v' : Value} (h : SV μ v v') : SV ν v v' := by
  induction h with
  | wild h => exact .wild h
  | bool b => exact .bool b
  | int k n => exact .int k n
  | float k n => exact .float k n
  | complex k a b => exact .complex k a b
  | string s => exact .string s
  | ptrNil => exact .ptrNil
  | ptr h => exact .ptr (hl _ _ _ h)
  | slNil n c => exact .slNil n c
  | sl n c h => exact .sl n c (hl _ _ _ h)
  | map r => exact .map r
  | chan => exact .chan
  | nilFunc => exact .nilFunc
  | nilIface => exact .nilIface
  | func fn f c f' c' h1 _ h3 _ i1 i2 => exact .func fn f c f' c' h1 (fun k v v' a b => i1 k v v' a b) h3 (fun k v v' a b => i2 k v v' a b)
  | iface t v v' _ ih => exact .iface t v v' ih
  | agg c c' h _ ih => exact .agg c c' h (fun k v v' a b => ih k v v' a b)
  | tuple c c' h _ ih => exact .tuple c c' h (fun k v v' a b => ih k v v' a b)

/-- A value without addresses stands for itself. -/
theorem closedIn_sv (μ : Mp) : ∀ d v, closedIn d v = true → SV μ v v := by
  have row : ∀ d (c : Array Value), (∀ v, closedIn d v = true → SV μ v v) → c.toList.all (closedIn d) = true →
      ∀ (k : Nat) v v', c[k]? = some v → c[k]? = some v' → SV μ v v' := by
    intro d c ih hc k v v' hv hv'
    rw [hv] at hv'; cases hv'
    refine ih v ?_
    rw [List.all_eq_true] at hc
    exact hc v (Array.mem_toList_iff.2 (Array.mem_of_getElem? hv))
  intro d
  induction d with
  | zero =>
    intro v h
    cases v <;> try (first | exact .bool _ | exact .int _ _ | exact .float _ _ | exact .complex _ _ _ | exact .string _ | exact .nilFunc | exact .nilIface | exact .map _)
    case pointer a => cases a <;> simp [closedIn] at h; exact .ptrNil
    case chan a => cases a <;> simp [closedIn] at h; exact .chan
    case slice a l c =>
      cases a <;> cases l <;> cases c <;> simp [closedIn] at h
      exact .slNil _ _
    all_goals simp [closedIn] at h
  | succ d ih =>
    intro v h
    cases v <;> try (first | exact .bool _ | exact .int _ _ | exact .float _ _ | exact .complex _ _ _ | exact .string _ | exact .nilFunc | exact .nilIface | exact .map _)
    case pointer a => cases a <;> simp [closedIn] at h; exact .ptrNil
    case chan a => cases a <;> simp [closedIn] at h; exact .chan
    case slice a l c =>
      cases a <;> cases l <;> cases c <;> simp [closedIn] at h
      exact .slNil _ _
    case iface t v => simp only [closedIn] at h; exact .iface _ _ _ (ih _ h)
    case func fn f c =>
      simp only [closedIn, Bool.and_eq_true] at h
      exact .func _ _ _ _ _ rfl (row d f ih h.1) rfl (row d c ih h.2)
    case agg c => simp only [closedIn] at h; exact .agg _ _ rfl (row d c ih h)
    case tuple c => simp only [closedIn] at h; exact .tuple _ _ rfl (row d c ih h)

theorem closedIn_seq {μ : Mp} : ∀ d v v', closedIn d v = true → SV μ v v' → v' = v := by
  have row : ∀ d (c c' : Array Value), (∀ v v', closedIn d v = true → SV μ v v' → v' = v) → c.toList.all (closedIn d) = true → c.size = c'.size →
      (∀ (k : Nat) v v', c[k]? = some v → c'[k]? = some v' → SV μ v v') → c' = c := by
    intro d c c' ih hc hs h
    apply Array.ext hs.symm
    intro k hk hk'
    refine ih _ _ ?_ (h k c[k] c'[k] (Array.getElem?_eq_getElem _) (Array.getElem?_eq_getElem _))
    rw [List.all_eq_true] at hc
    exact hc _ (Array.mem_toList_iff.2 (Array.getElem_mem _))
  intro d
  induction d with
  | zero =>
    intro v v' h hv
    cases hv <;> first | rfl | simp [closedIn] at h
  | succ d ih =>
    intro v v' h hv
    cases hv <;> try rfl
    case wild => simp [closedIn] at h
    case ptr => simp [closedIn] at h
    case sl => simp [closedIn] at h
    case iface t v v' hv => simp only [closedIn] at h; rw [ih _ _ h hv]
    case func fn f c f' c' h1 h2 h3 h4 =>
      simp only [closedIn, Bool.and_eq_true] at h
      rw [row d f f' ih h.1 h1 h2, row d c c' ih h.2 h3 h4]
    case agg c c' h1 h2 => simp only [closedIn] at h; rw [row d c c' ih h h1 h2]
    case tuple c c' h1 h2 => simp only [closedIn] at h; rw [row d c c' ih h h1 h2]

/-- Lists of values, one by one. -/
inductive LSV (μ : Mp) : List Value → List Value → Prop
  | nil : LSV μ [] []
  | cons {v v' : Value} {l l' : List Value} : SV μ v v' → LSV μ l l' → LSV μ (v :: l) (v' :: l')

theorem LSV.length {μ : Mp} {l l' : List Value} (h : LSV μ l l') : l.length = l'.length := by
  induction h <;> simp_all

theorem LSV.get {μ : Mp} {l l' : List Value} (h : LSV μ l l') : ∀ (k : Nat) v, l[k]? = some v → ∃ v', l'[k]? = some v' ∧ SV μ v v' := by
  induction h with
  | nil => intro k v h; simp at h
  | cons hv _ ih =>
    intro k v h
    cases k with
    | zero => simp at h; subst h; exact ⟨_, by simp, hv⟩
    | succ k => simpa using ih k v (by simpa using h)

theorem LSV.asv {μ : Mp} {l l' : List Value} (h : LSV μ l l') : ASV μ l.toArray l'.toArray := by
  refine ⟨by simp [h.length], fun k v v' h1 h2 => ?_⟩
  obtain ⟨u, hu, hr⟩ := h.get k v (by simpa using h1)
  rw [show l'.toArray[k]? = l'[k]? by simp, hu] at h2
  cases h2; exact hr

theorem LSV.of_get {μ : Mp} : ∀ {l l' : List Value}, l.length = l'.length → (∀ (k : Nat) v v', l[k]? = some v → l'[k]? = some v' → SV μ v v') → LSV μ l l'
  | [], [], _, _ => .nil
  | v :: l, v' :: l', h, hk => .cons (hk 0 v v' rfl rfl) (LSV.of_get (by simpa using h) fun k u u' a b => hk (k + 1) u u' (by simpa using a) (by simpa using b))
  | [], _ :: _, h, _ => by simp at h
  | _ :: _, [], h, _ => by simp at h

theorem ASV.lsv {μ : Mp} {a b : Array Value} (h : ASV μ a b) : LSV μ a.toList b.toList :=
  LSV.of_get (by simpa using h.1) fun k v v' h1 h2 => h.2 k v v' (by simpa using h1) (by simpa using h2)

theorem LSV.mono {μ ν : Mp} (hl : μ.le ν) {l l' : List Value} (h : LSV μ l l') : LSV ν l l' := by
  induction h with
  | nil => exact .nil
  | cons hv _ ih => exact .cons (hv.mono hl) ih

theorem LSV.append {μ : Mp} {a b c d : List Value} (h : LSV μ a b) (h' : LSV μ c d) : LSV μ (a ++ c) (b ++ d) := by
  induction h with
  | nil => exact h'
  | cons hv _ ih => exact .cons hv ih

theorem LSV.drop {μ : Mp} {a b : List Value} (h : LSV μ a b) : ∀ n, LSV μ (a.drop n) (b.drop n) := by
  induction h with
  | nil => intro n; simp; exact .nil
  | cons hv h ih => intro n; cases n with
    | zero => exact .cons hv h
    | succ n => simpa using ih n

theorem LSV.take {μ : Mp} {a b : List Value} (h : LSV μ a b) : ∀ n, LSV μ (a.take n) (b.take n) := by
  induction h with
  | nil => intro n; simp; exact .nil
  | cons hv h ih => intro n; cases n with
    | zero => exact .nil
    | succ n => exact .cons hv (ih n)

theorem LSV.set {μ : Mp} {a b : List Value} (h : LSV μ a b) {v v' : Value} (hv : SV μ v v') : ∀ n, LSV μ (a.set n v) (b.set n v') := by
  induction h with
  | nil => intro n; exact .nil
  | cons hu h ih => intro n; cases n with
    | zero => exact .cons hv h
    | succ n => exact .cons hu (ih n)

theorem lsv_closed (μ : Mp) (d : Nat) : ∀ l : List Value, l.all (closedIn d) = true → LSV μ l l
  | [], _ => .nil
  | v :: l, h => by
    simp only [List.all_cons, Bool.and_eq_true] at h
    exact .cons (closedIn_sv μ d v h.1) (lsv_closed μ d l h.2)

theorem LSV.eq_closed {μ : Mp} {l l' : List Value} (h : LSV μ l l') (hc : l.all (closedIn 4) = true) : l' = l := by
  induction h with
  | nil => rfl
  | cons hv _ ih =>
    simp only [List.all_cons, Bool.and_eq_true] at hc
    rw [closedIn_seq 4 _ _ hc.1 hv, ih hc.2]

theorem SV.cells {μ : Mp} {v v' : Value} (h : SV μ v v') : ASV μ v.cells v'.cells := by
  have one : ∀ {u u' : Value}, SV μ u u' → ASV μ #[u] #[u'] := fun {u u'} hu => (LSV.cons hu .nil).asv
  cases h with
  | wild h =>
    have e : v'.cells = #[v'] := by
      cases v' <;> first | rfl | (simp [Go.Ab.one] at h; done)
    rw [e]; exact one (.wild h)
  | agg c c' h1 h2 => exact ⟨h1, h2⟩
  | sl n c h => exact one (.sl n c h)
  | ptr h => exact one (.ptr h)
  | func fn f c f' c' h1 h2 h3 h4 => exact one (.func fn f c f' c' h1 h2 h3 h4)
  | iface t v v' h => exact one (.iface t v v' h)
  | tuple c c' h1 h2 => exact one (.tuple c c' h1 h2)
  | bool b => exact one (.bool b)
  | int k n => exact one (.int k n)
  | float k n => exact one (.float k n)
  | complex k a b => exact one (.complex k a b)
  | string s => exact one (.string s)
  | ptrNil => exact one .ptrNil
  | slNil n c => exact one (.slNil n c)
  | map r => exact one (.map r)
  | chan => exact one .chan
  | nilFunc => exact one .nilFunc
  | nilIface => exact one .nilIface

theorem one_sv {μ : Mp} {v v' : Value} (h : SV μ v v') : one v' = one v := by
  cases h <;> first | rfl | assumption

theorem LSV.all_one {μ : Mp} {l l' : List Value} (h : LSV μ l l') : l'.all one = l.all one := by
  induction h with
  | nil => rfl
  | cons hv _ ih => simp only [List.all_cons, one_sv hv, ih]

/-- Two heaps: each object of the left one stands in the right one. -/
structure HR (gl : Nat) (μ : Mp) (H K : AHeap) : Prop where
  obj : ∀ i o, H.get i = some o → ∃ j p, μ none i = some j ∧ K.get j = some p ∧ p.esz = o.esz ∧ LSV μ o.cells p.cells ∧ (H.lo ≤ i → K.lo ≤ j)
  bnd : ∀ s i j, μ s i = some j → j < K.next
  bnl : ∀ i j, μ none i = some j → i < H.next
  inj : ∀ i i' o o' j, H.get i = some o → H.get i' = some o' → μ none i = some j → μ none i' = some j → H.lo ≤ i → i = i'
  glb : ∀ g, g < gl → μ none g = some g
  klo : K.lo ≤ K.next

/-- What a step does to two heaps. -/
structure SP (gl : Nat) (μ : Mp) (H K : AHeap) (ν : Mp) (H' K' : AHeap) : Prop where
  hr : HR gl ν H' K'
  ext : μ.le ν
  lo : H'.lo = H.lo
  klo : K'.lo = K.lo
  next : H.next ≤ H'.next
  knext : K.next ≤ K'.next
  frame : ∀ j, j < K.next → (∀ i o, H.lo ≤ i → H.get i = some o → μ none i ≠ some j) → K'.get j = K.get j
  own : ∀ i o j, H.lo ≤ i → H'.get i = some o → ν none i = some j → K.next ≤ j ∨ ∃ i' o', H.lo ≤ i' ∧ H.get i' = some o' ∧ μ none i' = some j
  spot : ∀ s i, ν (some s) i = μ (some s) i

theorem SP.refl {gl : Nat} {μ : Mp} {H K : AHeap} (h : HR gl μ H K) : SP gl μ H K μ H K :=
  ⟨h, μ.le_refl, rfl, rfl, Nat.le_refl _, Nat.le_refl _, fun _ _ _ => rfl, fun i o j a b c => .inr ⟨i, o, a, b, c⟩, fun _ _ => rfl⟩

theorem SP.trans {gl : Nat} {μ ν ξ : Mp} {H K H' K' H'' K'' : AHeap} (h : SP gl μ H K ν H' K') (h' : SP gl ν H' K' ξ H'' K'') : SP gl μ H K ξ H'' K'' := by
  refine ⟨h'.hr, Mp.le_trans h.ext h'.ext, h'.lo.trans h.lo, h'.klo.trans h.klo, Nat.le_trans h.next h'.next, Nat.le_trans h.knext h'.knext, ?_, ?_, fun s i => (h'.spot s i).trans (h.spot s i)⟩
  · intro j hj hn
    rw [h'.frame j (Nat.lt_of_lt_of_le hj h.knext) ?_, h.frame j hj hn]
    intro i o hi ho he
    rcases h.own i o j (by rw [← h.lo]; exact hi) ho he with h1 | ⟨i', o', a, b, c⟩
    · omega
    · exact hn i' o' a b c
  · intro i o j hi ho he
    rcases h'.own i o j (by rw [h.lo]; exact hi) ho he with h1 | ⟨i', o', a, b, c⟩
    · exact .inl (Nat.le_trans h.knext h1)
    · exact h.own i' o' j (by rw [← h.lo]; exact a) b c

def Mp.put (μ : Mp) (i j : Nat) : Mp := fun s k => if s = none ∧ k = i then some j else μ s k
theorem Mp.put_same (μ : Mp) (i j : Nat) : μ.put i j none i = some j := by simp [Mp.put]
theorem Mp.put_ne (μ : Mp) (i j : Nat) {k : Nat} (h : k ≠ i) : μ.put i j none k = μ none k := by simp [Mp.put, h]
theorem Mp.put_spot (μ : Mp) (i j : Nat) {s k : Nat} : μ.put i j (some s) k = μ (some s) k := by simp [Mp.put]

section
variable {gl : Nat} {μ : Mp} {H K : AHeap}

theorem HR.le_put (h : HR gl μ H K) : μ.le (μ.put H.next K.next) := by
  intro s i j hi
  unfold Mp.put
  rw [if_neg]
  · exact hi
  · rintro ⟨rfl, rfl⟩
    have := h.bnl _ _ hi
    omega

/-- A new object on both sides. -/
theorem HR.new (h : HR gl μ H K) {o p : AObj} (he : p.esz = o.esz) (hc : LSV (μ.put H.next K.next) o.cells p.cells) : SP gl μ H K (μ.put H.next K.next) (H.new o) (K.new p) := by
  have hle := h.le_put
  refine ⟨⟨?_, ?_, ?_, ?_, ?_, ?_⟩, hle, rfl, rfl, by simp, by simp, ?_, ?_, fun _ _ => Mp.put_spot _ _ _⟩
  · intro i q hq
    rw [AHeap.get_new] at hq
    split at hq
    · rename_i hi; subst hi; cases hq
      exact ⟨K.next, p, Mp.put_same _ _ _, AHeap.get_new_next _ _, he, hc, fun _ => h.klo⟩
    · rename_i hi
      obtain ⟨j, q', h1, h2, h3, h4, h5⟩ := h.obj i q hq
      have := h.bnd _ _ _ h1
      exact ⟨j, q', hle _ _ _ h1, by rw [AHeap.get_new_ne _ _ (by omega)]; exact h2, h3, h4.mono hle, h5⟩
  · intro s i j hj
    unfold Mp.put at hj
    split at hj
    · cases hj; simp
    · have := h.bnd _ _ _ hj; simp; omega
  · intro i j hj
    unfold Mp.put at hj
    split at hj
    · rename_i hi; obtain ⟨_, rfl⟩ := hi; simp
    · have := h.bnl _ _ hj; simp; omega
  · intro i i' q q' j hq hq' hi hi' hlo
    by_cases e1 : i = H.next
    · by_cases e2 : i' = H.next
      · rw [e1, e2]
      · subst e1
        rw [Mp.put_same] at hi; cases hi
        rw [Mp.put_ne _ _ _ e2] at hi'
        have := h.bnd _ _ _ hi'
        omega
    · rw [Mp.put_ne _ _ _ e1] at hi
      rw [AHeap.get_new_ne _ _ e1] at hq
      by_cases e2 : i' = H.next
      · subst e2
        rw [Mp.put_same] at hi'; cases hi'
        have := h.bnd _ _ _ hi
        omega
      · rw [Mp.put_ne _ _ _ e2] at hi'
        rw [AHeap.get_new_ne _ _ e2] at hq'
        exact h.inj i i' q q' j hq hq' hi hi' hlo
  · intro g hg; exact hle _ _ _ (h.glb g hg)
  · have := h.klo; simp; omega
  · intro j hj _
    rw [AHeap.get_new_ne _ _ (by omega)]
  · intro i q j hlo hq hi
    by_cases e1 : i = H.next
    · subst e1; rw [Mp.put_same] at hi; cases hi; exact .inl (Nat.le_refl _)
    · rw [AHeap.get_new_ne _ _ e1] at hq
      rw [Mp.put_ne _ _ _ e1] at hi
      exact .inr ⟨i, q, hlo, hq, hi⟩

/-- An object that may be written is written on both sides. -/
theorem HR.set (h : HR gl μ H K) {i j : Nat} {o o' p p' : AObj} (hi : H.lo ≤ i) (ho : H.get i = some o) (hj : μ none i = some j) (hp : K.get j = some p) (he : p'.esz = o'.esz) (hc : LSV μ o'.cells p'.cells) :
    SP gl μ H K μ (H.set i o') (K.set j p') := by
  have hlt := AHeap.get_lt ho
  have hlt' := AHeap.get_lt hp
  refine ⟨⟨?_, ?_, ?_, ?_, ?_, ?_⟩, μ.le_refl, rfl, rfl, by simp, by simp, ?_, ?_, fun _ _ => rfl⟩
  · intro k q hq
    by_cases e : k = i
    · subst e
      rw [AHeap.get_set_same _ _ _ hlt] at hq
      cases hq
      refine ⟨j, p', hj, AHeap.get_set_same _ _ _ hlt', he, hc, ?_⟩
      obtain ⟨j', _, g1, _, _, _, g5⟩ := h.obj k o ho
      rw [hj] at g1; cases g1; exact g5
    · rw [AHeap.get_set_ne _ _ _ e] at hq
      obtain ⟨j', q', h1, h2, h3, h4, h5⟩ := h.obj k q hq
      refine ⟨j', q', h1, ?_, h3, h4, h5⟩
      rw [AHeap.get_set_ne]
      · exact h2
      · rintro rfl
        exact e (h.inj i k o q j' ho hq hj h1 hi).symm
  · intro s k l hl; exact h.bnd s k l hl
  · intro k l hl; exact h.bnl k l hl
  · intro a b q q' l hq hq' ha hb hlo
    have live : ∀ k q, (H.set i o').get k = some q → ∃ q', H.get k = some q' := by
      intro k q hq
      by_cases e : k = i
      · subst e; exact ⟨o, ho⟩
      · rw [AHeap.get_set_ne _ _ _ e] at hq; exact ⟨q, hq⟩
    obtain ⟨q1, hq1⟩ := live a q hq
    obtain ⟨q2, hq2⟩ := live b q' hq'
    exact h.inj a b q1 q2 l hq1 hq2 ha hb hlo
  · exact h.glb
  · exact h.klo
  · intro k hk hn
    rw [AHeap.get_set_ne]
    rintro rfl
    exact hn i o hi ho hj
  · intro k q l hk hq hl
    by_cases e : k = i
    · subst e; exact .inr ⟨k, o, hk, ho, hl⟩
    · rw [AHeap.get_set_ne _ _ _ e] at hq; exact .inr ⟨k, q, hk, hq, hl⟩

/-- An object that may be written goes on both sides. -/
theorem HR.del (h : HR gl μ H K) {i j : Nat} {o p : AObj} (hi : H.lo ≤ i) (ho : H.get i = some o) (hj : μ none i = some j) (_ : K.get j = some p) : SP gl μ H K μ (H.del i) (K.del j) := by
  have live : ∀ k q, (H.del i).get k = some q → k ≠ i ∧ H.get k = some q := by
    intro k q hq
    rw [AHeap.get_del] at hq
    split at hq
    · cases hq
    · rename_i e; exact ⟨e, hq⟩
  refine ⟨⟨?_, ?_, ?_, ?_, ?_, ?_⟩, μ.le_refl, rfl, rfl, by simp, by simp, ?_, ?_, fun _ _ => rfl⟩
  · intro k q hq
    obtain ⟨e, hq⟩ := live k q hq
    obtain ⟨j', q', h1, h2, h3, h4, h5⟩ := h.obj k q hq
    refine ⟨j', q', h1, ?_, h3, h4, h5⟩
    rw [AHeap.get_del, if_neg]
    · exact h2
    · rintro rfl
      exact e (h.inj i k o q j' ho hq hj h1 hi).symm
  · intro s k l hl; exact h.bnd s k l hl
  · intro k l hl; exact h.bnl k l hl
  · intro a b q q' l hq hq' ha hb hlo
    exact h.inj a b q q' l (live a q hq).2 (live b q' hq').2 ha hb hlo
  · exact h.glb
  · exact h.klo
  · intro k hk hn
    rw [AHeap.get_del, if_neg]
    rintro rfl
    exact hn i o hi ho hj
  · intro k q l hk hq hl
    exact .inr ⟨k, q, hk, (live k q hq).2, hl⟩

theorem HR.froz (h : HR gl μ H K) : HR gl μ H.froz K.froz where
  obj i o ho := by
    rw [AHeap.get_froz] at ho
    obtain ⟨j, p, h1, h2, h3, h4, _⟩ := h.obj i o ho
    have := AHeap.get_lt ho
    exact ⟨j, p, h1, by rw [AHeap.get_froz]; exact h2, h3, h4, fun hx => by simp at hx; omega⟩
  bnd := h.bnd
  bnl := h.bnl
  inj i i' o o' j ho _ _ _ hi := by
    rw [AHeap.get_froz] at ho
    have := AHeap.get_lt ho
    simp at hi; omega
  glb := h.glb
  klo := Nat.le_refl _
end
end Go.Ab

/- What an operation comes to in one abstract heap, it comes to in a heap that holds it. -/
namespace Go.Ab
open Go

/-- What the left environment has, the right one has. -/
def ER (μ : Mp) (σ τ : Env) : Prop := ∀ (k : Nat) v, σ.find k = some v → ∃ u, τ.find k = some u ∧ SV μ v u

theorem ER.mono {μ ν : Mp} (hl : μ.le ν) {σ τ : Env} (h : ER μ σ τ) : ER ν σ τ := fun k v hv =>
  let ⟨u, h1, h2⟩ := h k v hv
  ⟨u, h1, h2.mono hl⟩

theorem ER.find {μ : Mp} {σ τ : Env} (h : ER μ σ τ) {n : Nat} {v : Value} (hv : σ.find n = some v) : ∃ u, τ.find n = some u ∧ SV μ v u := h n v hv

theorem ER.put {μ : Mp} {σ τ : Env} (h : ER μ σ τ) {n : Nat} {v u : Value} (hv : SV μ v u) : ER μ (σ.put n v) (τ.put n u) := by
  intro k w hw
  rw [Env.find_put] at hw ⊢
  split at hw
  · rename_i e; cases hw; rw [if_pos e]; exact ⟨u, rfl, hv⟩
  · rename_i e; rw [if_neg e]; exact h k w hw

theorem ER.putO {μ : Mp} {σ τ : Env} (h : ER μ σ τ) {d : Option Nat} {v u : Value} (hv : SV μ v u) : ER μ (σ.putO d v) (τ.putO d u) := by
  cases d with
  | none => exact h
  | some n => exact h.put hv

theorem Env.find_keep_eq (σ : Env) (l : List Nat) (k : Nat) : (σ.keep l).find k = if l.contains k then σ.find k else none := by
  unfold Env.keep
  induction σ with
  | nil => split <;> rfl
  | cons p r ih =>
    obtain ⟨a, w⟩ := p
    rw [List.filter_cons]
    by_cases hc : l.contains a = true
    · simp only [hc, if_true, Env.find]
      by_cases e : a = k
      · subst e; simp only [if_true, hc]
      · simp only [if_neg e]; exact ih
    · simp only [hc, Bool.false_eq_true, if_false, Env.find]
      rw [ih]
      by_cases e : a = k
      · subst e; rw [if_neg hc, if_neg hc]
      · simp only [if_neg e]

theorem ER.keep {μ : Mp} {σ τ : Env} (h : ER μ σ τ) (l : List Nat) : ER μ (σ.keep l) (τ.keep l) := by
  intro k w hw
  rw [Env.find_keep_eq] at hw ⊢
  split at hw
  · rename_i e; rw [if_pos e]; exact h k w hw
  · cases hw

theorem ER.cons {μ : Mp} {k : Nat} {v u : Value} {σ τ : Env} (hv : SV μ v u) (h : ER μ σ τ) : ER μ ((k, v) :: σ) ((k, u) :: τ) := by
  intro n w hw
  simp only [Env.find] at hw ⊢
  split at hw
  · rename_i e; cases hw; rw [if_pos e]; exact ⟨u, rfl, hv⟩
  · rename_i e; rw [if_neg e]; exact h n w hw
theorem ER.nil {μ : Mp} {τ : Env} : ER μ [] τ := fun _ _ h => by cases h

theorem ER.args {μ : Mp} {vs us : List Value} (h : LSV μ vs us) : ∀ n, ER μ (argEnv n vs) (argEnv n us) := by
  induction h with
  | nil => intro n; exact ER.nil
  | cons hv _ ih => intro n; exact ER.cons hv (ih (n + 1))

def okC (gl : Nat) (v : Value) : Bool := closedIn 4 v || (match v with | .pointer (some ⟨g, _, none⟩) => decide (g < gl) | _ => false)

def opdOk (gl : Nat) : AOpd → Bool
  | .t _ => true
  | .c v => okC gl v

def zeroOk (gl : Nat) : AOp → Bool
  | .callE g _ _ => decide (g = gl)
  | .alloc z => z.all (closedIn 4)
  | .build z _ | .buildSlice _ z _ _ | .mkSlice _ _ z _ => z.toList.all (closedIn 4)
  | .hold _ op => zeroOk gl op
  | _ => true

def opOk (gl : Nat) (op : AOp) : Bool := op.opds.all (opdOk gl) && zeroOk gl op

section
variable {gl : Nat} {μ : Mp} {H K : AHeap} {σ τ : Env}

theorem okC_sv (hr : HR gl μ H K) {v : Value} (h : okC gl v = true) : SV μ v v := by
  unfold okC at h
  rw [Bool.or_eq_true] at h
  rcases h with h | h
  · exact closedIn_sv μ 4 v h
  · split at h
    · exact .ptr (hr.glb _ (by simpa using h))
    · cases h

theorem ER.rd (hr : HR gl μ H K) (he : ER μ σ τ) {x : AOpd} (hx : opdOk gl x = true) {v : Value} (hv : σ.rd x = some v) : ∃ u, τ.rd x = some u ∧ SV μ v u := by
  cases x with
  | t n => exact he.find hv
  | c u => simp only [Env.rd, Option.some.injEq] at hv ⊢; subst hv; exact ⟨_, rfl, okC_sv hr hx⟩

theorem ER.rds (hr : HR gl μ H K) (he : ER μ σ τ) : ∀ {xs : List AOpd}, xs.all (opdOk gl) = true → ∀ {vs : List Value}, σ.rds xs = some vs → ∃ us, τ.rds xs = some us ∧ LSV μ vs us
  | [], _, vs, h => by simp only [Env.rds, Option.some.injEq] at h ⊢; subst h; exact ⟨_, rfl, .nil⟩
  | x :: xs, hx, vs, h => by
    simp only [List.all_cons, Bool.and_eq_true] at hx
    simp only [Env.rds] at h ⊢
    split at h
    · cases h
    · rename_i v hv
      split at h
      · cases h
      · rename_i ws hws
        cases h
        obtain ⟨u, hu, h1⟩ := he.rd hr hx.1 hv
        obtain ⟨us, hus, h2⟩ := ER.rds hr he hx.2 hws
        rw [hu]; simp only [hus]
        exact ⟨_, rfl, .cons h1 h2⟩

inductive OSV (μ : Mp) : Option Value → Option Value → Prop
  | none : OSV μ none none
  | some {v u : Value} : SV μ v u → OSV μ (some v) (some u)

theorem ER.rdo (hr : HR gl μ H K) (he : ER μ σ τ) {x : Option AOpd} (hx : x.toList.all (opdOk gl) = true) {v : Option Value} (hv : σ.rdo x = some v) : ∃ u, τ.rdo x = some u ∧ OSV μ v u := by
  cases x with
  | none => simp only [Env.rdo, Option.some.injEq] at hv ⊢; subst hv; exact ⟨_, rfl, .none⟩
  | some x =>
    simp only [Env.rdo, Option.map_eq_some_iff] at hv ⊢
    obtain ⟨w, hw, rfl⟩ := hv
    obtain ⟨u, hu, h1⟩ := he.rd hr (by simpa using hx) hw
    exact ⟨_, ⟨u, hu, rfl⟩, .some h1⟩

theorem readN_sv {cells cells' : List Value} (h : LSV μ cells cells') {off n : Nat} {l : List Value} (hl : readN cells off n = some l) : ∃ l', readN cells' off n = some l' ∧ LSV μ l l' := by
  unfold readN at hl ⊢
  rw [← h.length]
  split at hl
  · rename_i hc; cases hl; rw [if_pos hc]; exact ⟨_, rfl, (h.drop off).take n⟩
  · cases hl

theorem writeN_sv {vs vs' : List Value} (hv : LSV μ vs vs') : ∀ {cells cells' : List Value} (_ : LSV μ cells cells') (off : Nat), LSV μ (writeN cells off vs) (writeN cells' off vs') := by
  induction hv with
  | nil => intro cells cells' h off; simpa [writeN] using h
  | cons hu _ ih => intro cells cells' h off; simp only [writeN]; exact ih (h.set hu off) (off + 1)

theorem HR.read (hr : HR gl μ H K) {i j off n : Nat} (hj : μ none i = some j) {l : List Value} (h : H.read i off n = some l) : ∃ l', K.read j off n = some l' ∧ LSV μ l l' := by
  unfold AHeap.read at h ⊢
  split at h
  · cases h
  · rename_i o ho
    obtain ⟨j', p, h1, h2, _, h4, _⟩ := hr.obj i o ho
    rw [hj] at h1; cases h1
    rw [h2]
    exact readN_sv h4 h

theorem ptr_sv {i off : Nat} {u : Value} (h : SV μ (.pointer (some ⟨i, off, none⟩)) u) : ∃ j, μ none i = some j ∧ u = .pointer (some ⟨j, off, none⟩) := by
  cases h with | ptr h => exact ⟨_, h, rfl⟩
theorem sl_sv {i off n c : Nat} {u : Value} (h : SV μ (.slice (some ⟨i, off, none⟩) n c) u) : ∃ j, μ none i = some j ∧ u = .slice (some ⟨j, off, none⟩) n c := by
  cases h with | sl _ _ h => exact ⟨_, h, rfl⟩
theorem slN_sv {n c : Nat} {u : Value} (h : SV μ (.slice none n c) u) : u = .slice none n c := by cases h; rfl
theorem int_sv {k : IntKind} {n : Int} {u : Value} (h : SV μ (.int k n) u) : u = .int k n := by cases h; rfl
theorem bool_sv {b : Bool} {u : Value} (h : SV μ (.bool b) u) : u = .bool b := by cases h; rfl
theorem str_sv {s : ByteArray} {u : Value} (h : SV μ (.string s) u) : u = .string s := by cases h; rfl

theorem load_sv (hr : HR gl μ H K) {n : Option Nat} {p q v : Value} (hp : SV μ p q) (h : aLoad H n p = some v) : ∃ u, aLoad K n q = some u ∧ SV μ v u := by
  unfold aLoad at h
  split at h
  · rename_i i off
    obtain ⟨j, hj, rfl⟩ := ptr_sv hp
    unfold aLoad
    split at h
    · split at h
      · rename_i o ho
        obtain ⟨j', p, h1, h2, _, h4, _⟩ := hr.obj i o ho
        rw [hj] at h1; cases h1
        simp only [h2]
        exact h4.get off v h
      · cases h
    · split at h
      · rename_i cs hcs
        cases h
        obtain ⟨l', h1, h2⟩ := hr.read hj hcs
        simp only [h1]
        have := h2.asv
        exact ⟨_, rfl, .agg _ _ this.1 this.2⟩
      · cases h
  · cases h

theorem aBinInt_atom {op : BinOp} {k yk : IntKind} {a b : Int} {v : Value} (h : aBinInt op k a yk b = some v) : SV μ v v := by
  unfold aBinInt at h
  split at h <;> (split at h <;> first | (cases h; first | exact .int _ _ | exact .bool _) | cases h)

theorem aBin_sv {op : BinOp} {a a' b b' v : Value} (ha : SV μ a a') (hb : SV μ b b') (h : aBin op a b = some v) : aBin op a' b' = some v ∧ SV μ v v := by
  unfold aBin at h
  split at h
  · rw [int_sv ha, int_sv hb]; exact ⟨h, aBinInt_atom h⟩
  · rw [str_sv ha, str_sv hb]
    refine ⟨h, ?_⟩
    split at h
    · cases h; exact .bool _
    · cases h; exact .bool _
    · split at h
      · cases h; exact .string _
      · cases h
    · cases h
  · cases h

theorem aUn_sv {op : UnOp} {a a' v : Value} (ha : SV μ a a') (h : aUn op a = some v) : aUn op a' = some v ∧ SV μ v v := by
  unfold aUn at h
  split at h
  · rw [bool_sv ha]; cases h; exact ⟨rfl, .bool _⟩
  · rw [int_sv ha]; cases h; exact ⟨rfl, .int _ _⟩
  · rw [int_sv ha]; cases h; exact ⟨rfl, .int _ _⟩
  · cases h

theorem isNilV_sv {k : NilKind} {v u : Value} (hv : SV μ v u) {b : Bool} (h : isNilV k v = some b) : isNilV k u = some b := by
  cases hv <;> cases k <;> first | exact h | (simp [isNilV] at h; done)

theorem aBound_sv {v u : Value} (h : SV μ v u) (n : Nat) {m : Nat} (hb : aBound v n = some m) : aBound u n = some m := by
  unfold aBound at hb
  split at hb
  · rw [int_sv h]; exact hb
  · cases hb

theorem aSliceBounds_sv {lo lo' hi hi' : Option Value} (hlo : OSV μ lo lo') (hhi : OSV μ hi hi') {len l h : Nat} (hb : aSliceBounds len lo hi = some (l, h)) : aSliceBounds len lo' hi' = some (l, h) := by
  unfold aSliceBounds at hb ⊢
  split at hb
  · cases hb
  · rename_i x hx
    have h1 : aHi len hi' = some x := by
      cases hhi with
      | none => exact hx
      | some h => exact aBound_sv h _ hx
    rw [h1]
    split at hb
    · cases hb
    · rename_i y hy
      have h2 : aLo x lo' = some y := by
        cases hlo with
        | none => exact hy
        | some h => exact aBound_sv h _ hy
      simp only [h2]
      exact hb

theorem ASV.extract {x y : Array Value} (h : ASV μ x y) (i j : Nat) : ASV μ (x.extract i j) (y.extract i j) := by
  refine ⟨by simp [h.1], fun k v v' hv hv' => ?_⟩
  rw [Array.getElem?_extract] at hv hv'
  split at hv
  · split at hv'
    · exact h.2 _ v v' hv hv'
    · cases hv'
  · cases hv

theorem ASV.get {a b : Array Value} (h : ASV μ a b) {k : Nat} {v : Value} (hv : a[k]? = some v) : ∃ v', b[k]? = some v' ∧ SV μ v v' := by
  have hk : k < a.size := by
    rcases Nat.lt_or_ge k a.size with h | h
    · exact h
    · rw [Array.getElem?_eq_none h] at hv; cases hv
  have hk' : k < b.size := h.1 ▸ hk
  exact ⟨b[k], Array.getElem?_eq_getElem hk', h.2 k v _ hv (Array.getElem?_eq_getElem hk')⟩

theorem aPart_sv {x y : Array Value} (hxy : ASV μ x y) {off : Nat} {n : Option Nat} {v : Value} (hv : aPart x off n = some v) : ∃ u, aPart y off n = some u ∧ SV μ v u := by
  cases n with
  | none => exact hxy.get hv
  | some n =>
    simp only [aPart] at hv ⊢
    rw [← hxy.1]
    obtain ⟨hc, rfl⟩ := ite_some hv
    rw [if_pos hc]
    have := hxy.extract off (off + n)
    exact ⟨_, rfl, .agg _ _ this.1 this.2⟩

theorem ASV.set {a b : Array Value} (h : ASV μ a b) {v v' : Value} (hv : SV μ v v') (k : Nat) : ASV μ (a.setIfInBounds k v) (b.setIfInBounds k v') := by
  have := (h.lsv.set hv k).asv
  have e : ∀ (x : Array Value) (w : Value), x.setIfInBounds k w = (x.toList.set k w).toArray := fun x w => Array.ext' (by simp)
  rw [e, e]
  exact this

theorem foldset_sv (off : Nat) : ∀ {l l' : List Value}, LSV μ l l' → ∀ (n : Nat) {a b : Array Value}, ASV μ a b →
    ASV μ ((l.zipIdx n).foldl (fun cs (c, j) => cs.setIfInBounds (off + j) c) a) ((l'.zipIdx n).foldl (fun cs (c, j) => cs.setIfInBounds (off + j) c) b)
  | _, _, .nil, n, a, b, h => h
  | _, _, .cons hv hl, n, a, b, h => by
    simp only [List.zipIdx_cons, List.foldl_cons]
    exact foldset_sv off hl (n + 1) (h.set hv _)

theorem foldset_sv' {v v' : Value} (hv : SV μ v v') (off : Nat) {a b : Array Value} (h : ASV μ a b) :
    ASV μ (v.cells.zipIdx.foldl (fun cs (c, j) => cs.setIfInBounds (off + j) c) a) (v'.cells.zipIdx.foldl (fun cs (c, j) => cs.setIfInBounds (off + j) c) b) := by
  rw [← Array.foldl_toList, ← Array.foldl_toList, Array.toList_zipIdx, Array.toList_zipIdx]
  exact foldset_sv off hv.cells.lsv 0 h

theorem fill_sv : ∀ {ps : List ((Nat × Nat) × AOpd)} {vs us : List Value}, LSV μ vs us → ∀ {a b : Array Value}, ASV μ a b → ∀ {cs : Array Value}, fillIn a (zipParts ps vs) = some cs →
    ∃ ds, fillIn b (zipParts ps us) = some ds ∧ ASV μ cs ds
  | [], vs, us, hv, a, b, hab, cs, h => by
    simp only [zipParts, fillIn, Option.some.injEq] at h ⊢; subst h; exact ⟨b, rfl, hab⟩
  | (p, x) :: ps, [], us, hv, a, b, hab, cs, h => by
    cases hv
    simp only [zipParts, fillIn, Option.some.injEq] at h ⊢; subst h; exact ⟨b, rfl, hab⟩
  | ((off, size), x) :: ps, v :: vs, us, hv, a, b, hab, cs, h => by
    cases hv with
    | @cons _ u _ us hu hus =>
    simp only [zipParts, fillIn] at h ⊢
    rw [← hu.cells.1, ← hab.1]
    split at h
    · cases h
    · rename_i hc
      rw [if_neg hc]
      exact fill_sv hus (foldset_sv' hu off hab) h

theorem ASV.closed {c : Array Value} (h : c.toList.all (closedIn 4) = true) : ASV μ c c := by
  have := (lsv_closed μ 4 c.toList h).asv
  simpa using this

theorem repeat_closed {z : Array Value} (h : z.toList.all (closedIn 4) = true) (n : Nat) : (repeatCells z n).toList.all (closedIn 4) = true := by
  by_cases hz : z.size = 0
  · rw [List.all_eq_true]
    intro v hv
    rw [repeatCells, Array.mem_toList_iff, Array.mem_map] at hv
    obtain ⟨k, _, rfl⟩ := hv
    rw [getElem!_neg _ _ (by rw [hz]; simp)]
    rfl
  · exact closed_repeat h n (.inr (by omega))
end
end Go.Ab

/- What code comes to in one abstract heap, it comes to in a heap that holds it. -/
namespace Go.Ab
open Go

/-- A call that comes to the same in each heap that holds the one. -/
def SCall (gl : Nat) (call : ACall) : Prop := ∀ f vs H v H', call f vs H = some (v, H') → ∀ μ K us, HR gl μ H K → LSV μ vs us →
  ∃ u ν K', call f us K = some (u, K') ∧ SP gl μ H K ν H' K' ∧ SV ν v u

theorem eqVs_det {μ : Mp} {f : Value → Value → Bool} (hf : ∀ v a b, f v v = true → SV μ v a → SV μ v b → b = a ∧ f a a = true) : ∀ {l a b : List Value}, LSV μ l a → LSV μ l b → eqVs f l l = true → b = a ∧ eqVs f a a = true
  | _, _, _, .nil, .nil, _ => ⟨rfl, rfl⟩
  | _, _, _, .cons hv hl, .cons hv' hl', h => by
    simp only [eqVs, Bool.and_eq_true] at h ⊢
    obtain ⟨e1, e2⟩ := hf _ _ _ h.1 hv hv'
    obtain ⟨e3, e4⟩ := eqVs_det hf hl hl' h.2
    exact ⟨by rw [e1, e3], e2, e4⟩

theorem arr_of_lists {a b : Array Value} (h : a.toList = b.toList) : a = b := Array.ext' h

/-- What stands for a value of which all is known is the same. -/
theorem eqV_det {μ : Mp} : ∀ d v a b, eqV d v v = true → SV μ v a → SV μ v b → b = a ∧ eqV d a a = true := by
  intro d
  induction d with
  | zero =>
    intro v a b h ha hb
    cases ha <;> cases hb <;> first | exact ⟨rfl, h⟩ | (simp [eqV] at h; done) | (simp_all [eqV])
  | succ d ih =>
    intro v a b h ha hb
    cases ha with
    | wild => simp [eqV] at h
    | func fn f c f' c' h1 h2 h3 h4 =>
      cases hb with
      | func _ _ _ f'' c'' g1 g2 g3 g4 =>
      simp only [eqV, Bool.and_eq_true] at h ⊢
      obtain ⟨e1, e2⟩ := eqVs_det ih (ASV.lsv ⟨h1, h2⟩) (ASV.lsv ⟨g1, g2⟩) h.1.2
      obtain ⟨e3, e4⟩ := eqVs_det ih (ASV.lsv ⟨h3, h4⟩) (ASV.lsv ⟨g3, g4⟩) h.2
      exact ⟨by rw [arr_of_lists e1, arr_of_lists e3], ⟨h.1.1, e2⟩, e4⟩
    | iface t v v' hv =>
      cases hb with
      | iface _ _ v'' hv' =>
      simp only [eqV, Bool.and_eq_true] at h ⊢
      obtain ⟨e1, e2⟩ := ih _ _ _ h.2 hv hv'
      exact ⟨by rw [e1], h.1, e2⟩
    | agg c c' h1 h2 =>
      cases hb with
      | agg _ c'' g1 g2 =>
      simp only [eqV] at h ⊢
      obtain ⟨e1, e2⟩ := eqVs_det ih (ASV.lsv ⟨h1, h2⟩) (ASV.lsv ⟨g1, g2⟩) h
      exact ⟨by rw [arr_of_lists e1], e2⟩
    | tuple c c' h1 h2 =>
      cases hb with
      | tuple _ c'' g1 g2 =>
      simp only [eqV] at h ⊢
      obtain ⟨e1, e2⟩ := eqVs_det ih (ASV.lsv ⟨h1, h2⟩) (ASV.lsv ⟨g1, g2⟩) h
      exact ⟨by rw [arr_of_lists e1], e2⟩
    | ptr hj => cases hb with | ptr hj' => rw [hj] at hj'; cases hj'; exact ⟨rfl, by simp [eqV]⟩
    | sl n c hj => cases hb with | sl _ _ hj' => rw [hj] at hj'; cases hj'; exact ⟨rfl, by simp [eqV]⟩
    | _ => cases hb; exact ⟨rfl, h⟩

section
variable {gl : Nat} {μ ν : Mp} {H K H' K' : AHeap} {σ τ : Env} {call : ACall} {meth : TypeId → String → Option FuncId}

theorem heldB_sv (hr : HR gl μ H K) (hr' : HR gl ν H' K') (hl : μ.le ν) (he : ER μ σ τ) {d : Option Nat × AOpd} (hd : opdOk gl d.2 = true) (h : heldB σ H H' d = true) : heldB τ K K' d = true := by
  unfold heldB at h ⊢
  split at h
  · rename_i p hp
    obtain ⟨q, hq, hpq⟩ := he.rd hr hd hp
    rw [hq]
    split at h
    · rename_i u u' hu hu'
      obtain ⟨w, hw, h1⟩ := load_sv hr hpq hu
      obtain ⟨w', hw', h2⟩ := load_sv hr' (hpq.mono hl) hu'
      have e := eqV_eq _ _ _ h
      subst e
      obtain ⟨e1, e2⟩ := eqV_det 4 _ _ _ h (h1.mono hl) h2
      subst e1
      simp only [hw, hw']
      exact e2
    · cases h
  · cases h

theorem undef_sv : SV μ undef undef := .tuple _ _ rfl (by simp)

theorem append_sv (hr : HR gl μ H K) {size bytes n c m d : Nat} {a b : Option Addr} {x y : Value} (hx : SV μ (.slice a n c) x) (hy : SV μ (.slice b m d) y) {v : Value}
    (h : aAppend H size bytes a n c b m = some (v, H')) :
    ∃ a' b' u ν K', x = .slice a' n c ∧ y = .slice b' m d ∧ aAppend K size bytes a' n c b' m = some (u, K') ∧ SP gl μ H K ν H' K' ∧ SV ν v u := by
  obtain ⟨a', rfl⟩ : ∃ a', x = .slice a' n c := by cases hx <;> exact ⟨_, rfl⟩
  obtain ⟨b', rfl⟩ : ∃ b', y = .slice b' m d := by cases hy <;> exact ⟨_, rfl⟩
  refine ⟨a', b', ?_⟩
  unfold aAppend at h
  split at h
  · rename_i hm
    cases h
    refine ⟨_, μ, K, rfl, rfl, ?_, .refl hr, hx⟩
    unfold aAppend; rw [if_pos hm]
  · rename_i hm
    split at h
    · rename_i j joff
      obtain ⟨j', hj, e⟩ := sl_sv hy
      cases e
      split at h
      · cases h
      · rename_i news hnews
        obtain ⟨news', hn, hnn⟩ := hr.read hj hnews
        split at h
        · cases h
        · rename_i hc
          simp only [Bool.not_eq_true', Bool.not_eq_false, Bool.and_eq_true, decide_eq_true_eq] at hc
          obtain ⟨⟨⟨⟨c1, c2⟩, c3⟩, c4⟩, c5⟩ := hc
          have c4' : (K.get j').any (fun o => o.esz == size) = true := by
            cases ho : H.get j with
            | none => rw [ho] at c4; simp at c4
            | some o =>
              rw [ho] at c4
              obtain ⟨j2, p, h1, h2, h3, _, _⟩ := hr.obj j o ho
              rw [hj] at h1; cases h1
              rw [h2]; simpa [h3] using c4
          have hcond : (decide ((n + m) * bytes ≤ 2 ^ 46) && decide (0 < bytes) && decide (0 < size) && (K.get j').any (fun o => o.esz == size) && news'.all one) = true := by
            rw [c4', hnn.all_one, c5]; simp [c1, c2, c3]
          split at h
          · rename_i _
            have e := slN_sv hx
            cases e
            obtain ⟨hn0, e⟩ := ite_some h
            cases e
            have := hr.new (o := ⟨news, size⟩) (p := ⟨news', size⟩) rfl (hnn.mono hr.le_put)
            refine ⟨.slice (some ⟨K.next, 0, none⟩) m m, _, _, rfl, rfl, ?_, this, .sl _ _ (Mp.put_same _ _ _)⟩
            unfold aAppend
            simp only [if_neg hm, hn, hcond, Bool.not_true, Bool.false_eq_true, if_false, if_pos hn0]
          · rename_i i off
            obtain ⟨i', hi, e⟩ := sl_sv hx
            cases e
            split at h
            · cases h
            · rename_i o ho
              obtain ⟨⟨g1, g2, g3, g4⟩, e⟩ := ite_some h
              cases e
              obtain ⟨i2, p, h1, h2, h3, h4, h5⟩ := hr.obj i o ho
              rw [hi] at h1; cases h1
              have hne : i' ≠ j' := by
                rintro rfl
                cases hoj : H.get j with
                | none => rw [hoj] at c4; simp at c4
                | some oj => exact g4 (hr.inj i j o oj i' ho hoj hi hj g1)
              have s1 := hr.del g1 ho hi h2
              have s2 := s1.hr.new (o := ⟨o.cells.drop off ++ news, size⟩) (p := ⟨p.cells.drop off ++ news', size⟩) rfl (((h4.drop off).append hnn).mono s1.hr.le_put)
              refine ⟨.slice (some ⟨K.next, 0, none⟩) (n + m) (n + m), _, _, rfl, rfl, ?_, s1.trans s2, .sl _ _ (Mp.put_same _ _ _)⟩
              unfold aAppend
              have hcond2 : K.lo ≤ i' ∧ off + n * size = p.cells.length ∧ p.esz = size ∧ i' ≠ j' := ⟨h5 g1, by rw [← h4.length]; exact g2, h3.trans g3, hne⟩
              simp only [if_neg hm, hn, hcond, Bool.not_true, Bool.false_eq_true, if_false, h2, if_pos hcond2]
          · cases h
    · cases h

theorem evOp_sv (hcs : SCall gl call) (hr : HR gl μ H K) (he : ER μ σ τ) : ∀ {op : AOp}, opOk gl op = true → ∀ {v : Value} {H' : AHeap}, evOp call meth σ H op = some (v, H') →
    ∃ u ν K', evOp call meth τ K op = some (u, K') ∧ SP gl μ H K ν H' K' ∧ SV ν v u := by
  intro op
  have fin : ∀ {op : AOp} {v u : Value}, evOp call meth τ K op = some (u, K) → SV μ v u → ∃ u ν K', evOp call meth τ K op = some (u, K') ∧ SP gl μ H K ν H K' ∧ SV ν v u :=
    fun {op v u} h1 h2 => ⟨u, μ, K, h1, .refl hr, h2⟩
  induction op with
  | mov x =>
    intro hok v H' h
    simp only [opOk, AOp.opds, List.all_cons, List.all_nil, Bool.and_true, Bool.and_eq_true] at hok
    simp only [evOp] at h
    split at h
    · rename_i w hw; cases h
      obtain ⟨u, hu, h1⟩ := he.rd hr hok.1 hw
      exact fin (by simp only [evOp, hu]) h1
    · cases h
  | pick c a b =>
    intro hok v H' h
    simp only [opOk, AOp.opds, List.all_cons, List.all_nil, Bool.and_true, Bool.and_eq_true] at hok
    obtain ⟨⟨oc, oa, ob⟩, _⟩ := hok
    simp only [evOp] at h
    split at h
    · rename_i hc
      obtain ⟨_, hc', h0⟩ := he.rd hr oc hc
      cases bool_sv h0
      split at h
      · rename_i w hw; cases h
        obtain ⟨u, hu, h1⟩ := he.rd hr oa hw
        exact fin (by simp only [evOp, hc', hu]) h1
      · cases h
    · rename_i hc
      obtain ⟨_, hc', h0⟩ := he.rd hr oc hc
      cases bool_sv h0
      split at h
      · rename_i w hw; cases h
        obtain ⟨u, hu, h1⟩ := he.rd hr ob hw
        exact fin (by simp only [evOp, hc', hu]) h1
      · cases h
    · cases h
  | alloc z =>
    intro hok v H' h
    simp only [opOk, zeroOk, Bool.and_eq_true] at hok
    simp only [evOp] at h
    cases h
    have := hr.new (o := ⟨z, z.length⟩) (p := ⟨z, z.length⟩) rfl (lsv_closed _ 4 z hok.2)
    exact ⟨_, _, _, rfl, this, .ptr (Mp.put_same _ _ _)⟩
  | box x =>
    intro hok v H' h
    simp only [opOk, AOp.opds, List.all_cons, List.all_nil, Bool.and_true, Bool.and_eq_true] at hok
    simp only [evOp] at h
    split at h
    · rename_i w hw; cases h
      obtain ⟨u, hu, h1⟩ := he.rd hr hok.1 hw
      have := hr.new (o := ⟨w.cells.toList, w.cells.size⟩) (p := ⟨u.cells.toList, u.cells.size⟩) h1.cells.1.symm (h1.cells.lsv.mono hr.le_put)
      exact ⟨_, _, _, by simp only [evOp, hu], this, .ptr (Mp.put_same _ _ _)⟩
    · cases h
  | build z ps =>
    intro hok v H' h
    simp only [opOk, AOp.opds, zeroOk, Bool.and_eq_true] at hok
    simp only [evOp] at h
    split at h
    · rename_i vs hvs
      split at h
      · rename_i cs hcs; cases h
        obtain ⟨us, hus, h1⟩ := he.rds hr hok.1 hvs
        obtain ⟨ds, hds, h2⟩ := fill_sv h1 (ASV.closed hok.2) hcs
        exact fin (by simp only [evOp, hus, hds]) (.agg _ _ h2.1 h2.2)
      · cases h
    · cases h
  | buildSlice size z len ps =>
    intro hok v H' h
    simp only [opOk, AOp.opds, zeroOk, Bool.and_eq_true] at hok
    simp only [evOp] at h
    split at h
    · rename_i vs hvs
      split at h
      · rename_i cs hcs
        split at h
        · cases h
        · rename_i hs
          cases h
          obtain ⟨us, hus, h1⟩ := he.rds hr hok.1 hvs
          obtain ⟨ds, hds, h2⟩ := fill_sv h1 (ASV.closed (repeat_closed hok.2 _)) hcs
          have := hr.new (o := ⟨cs.toList, size⟩) (p := ⟨ds.toList, size⟩) rfl (h2.lsv.mono hr.le_put)
          exact ⟨_, _, _, by simp only [evOp, hus, hds, if_neg hs], this, .sl _ _ (Mp.put_same _ _ _)⟩
      · cases h
    · cases h
  | load n x =>
    intro hok v H' h
    simp only [opOk, AOp.opds, List.all_cons, List.all_nil, Bool.and_true, Bool.and_eq_true] at hok
    simp only [evOp] at h
    split at h
    · rename_i p hp
      split at h
      · rename_i w hw; cases h
        obtain ⟨q, hq, h1⟩ := he.rd hr hok.1 hp
        obtain ⟨u, hu, h2⟩ := load_sv hr h1 hw
        exact fin (by simp only [evOp, hq, hu]) h2
      · cases h
    · cases h
  | store n a x =>
    intro hok v H' h
    simp only [opOk, AOp.opds, List.all_cons, List.all_nil, Bool.and_true, Bool.and_eq_true] at hok
    simp only [evOp] at h
    split at h
    · rename_i i off w ha hx
      split at h
      · rename_i o ho
        obtain ⟨⟨c1, c2, c3, c4⟩, e⟩ := ite_some h
        cases e
        obtain ⟨q, hq, h1⟩ := he.rd hr hok.1.1 ha
        obtain ⟨u, hu, h2⟩ := he.rd hr hok.1.2 hx
        obtain ⟨j, hj, rfl⟩ := ptr_sv h1
        obtain ⟨j', p, g1, g2, g3, g4, g5⟩ := hr.obj i o ho
        rw [hj] at g1; cases g1
        have hcond : K.lo ≤ j ∧ u.cells.size = n ∧ off + n ≤ p.cells.length ∧ u.cells.toList.all one = true := ⟨g5 c1, by rw [← h2.cells.1]; exact c2, by rw [← g4.length]; exact c3, by rw [h2.cells.lsv.all_one]; exact c4⟩
        have := hr.set c1 ho hj g2 (o' := { o with cells := writeN o.cells off w.cells.toList }) (p' := { p with cells := writeN p.cells off u.cells.toList }) g3 (writeN_sv h2.cells.lsv g4 off)
        exact ⟨_, _, _, by simp only [evOp, hq, hu, g2, if_pos hcond], this, undef_sv⟩
      · cases h
    · cases h
  | nilChk x =>
    intro hok v H' h
    simp only [opOk, AOp.opds, List.all_cons, List.all_nil, Bool.and_true, Bool.and_eq_true] at hok
    simp only [evOp] at h
    split at h
    · rename_i a hx; cases h
      obtain ⟨u, hu, h1⟩ := he.rd hr hok.1 hx
      cases h1 with
      | ptr hj => exact fin (by simp only [evOp, hu]) (.ptr hj)
    · rename_i f a c hx; cases h
      obtain ⟨u, hu, h1⟩ := he.rd hr hok.1 hx
      cases h1 with
      | func _ _ _ f' c' a1 a2 a3 a4 => exact fin (by simp only [evOp, hu]) (.func _ _ _ _ _ a1 a2 a3 a4)
    · rename_i t w hx; cases h
      obtain ⟨u, hu, h1⟩ := he.rd hr hok.1 hx
      cases h1 with
      | iface _ _ w' hw => exact fin (by simp only [evOp, hu]) (.iface _ _ _ hw)
    · cases h
  | bin op x y =>
    intro hok v H' h
    simp only [opOk, AOp.opds, List.all_cons, List.all_nil, Bool.and_true, Bool.and_eq_true] at hok
    simp only [evOp] at h
    split at h
    · rename_i a b hx hy
      split at h
      · rename_i w hw; cases h
        obtain ⟨a', ha, h1⟩ := he.rd hr hok.1.1 hx
        obtain ⟨b', hb, h2⟩ := he.rd hr hok.1.2 hy
        obtain ⟨h3, h4⟩ := aBin_sv h1 h2 hw
        exact fin (by simp only [evOp, ha, hb, h3]) h4
      · cases h
    · cases h
  | eqB neg x y =>
    intro hok v H' h
    simp only [opOk, AOp.opds, List.all_cons, List.all_nil, Bool.and_true, Bool.and_eq_true] at hok
    simp only [evOp] at h
    split at h
    · rename_i a b hx hy; cases h
      obtain ⟨a', ha, h1⟩ := he.rd hr hok.1.1 hx
      obtain ⟨b', hb, h2⟩ := he.rd hr hok.1.2 hy
      cases bool_sv h1; cases bool_sv h2
      exact fin (by simp only [evOp, ha, hb]) (.bool _)
    · cases h
  | isNil k neg x =>
    intro hok v H' h
    simp only [opOk, AOp.opds, List.all_cons, List.all_nil, Bool.and_true, Bool.and_eq_true] at hok
    simp only [evOp] at h
    split at h
    · rename_i w hw
      split at h
      · rename_i b hb; cases h
        obtain ⟨u, hu, h1⟩ := he.rd hr hok.1 hw
        exact fin (by simp only [evOp, hu, isNilV_sv h1 hb]) (.bool _)
      · cases h
    · cases h
  | un op x =>
    intro hok v H' h
    simp only [opOk, AOp.opds, List.all_cons, List.all_nil, Bool.and_true, Bool.and_eq_true] at hok
    simp only [evOp] at h
    split at h
    · rename_i a hx
      split at h
      · rename_i w hw; cases h
        obtain ⟨a', ha, h1⟩ := he.rd hr hok.1 hx
        obtain ⟨h3, h4⟩ := aUn_sv h1 hw
        exact fin (by simp only [evOp, ha, h3]) h4
      · cases h
    · cases h
  | conv k x =>
    intro hok v H' h
    simp only [opOk, AOp.opds, List.all_cons, List.all_nil, Bool.and_true, Bool.and_eq_true] at hok
    simp only [evOp] at h
    split at h
    · rename_i k' n hx; cases h
      obtain ⟨u, hu, h1⟩ := he.rd hr hok.1 hx
      cases int_sv h1
      exact fin (by simp only [evOp, hu]) (.int _ _)
    · cases h
  | mkIface t x =>
    intro hok v H' h
    simp only [opOk, AOp.opds, List.all_cons, List.all_nil, Bool.and_true, Bool.and_eq_true] at hok
    simp only [evOp] at h
    split at h
    · rename_i w hx; cases h
      obtain ⟨u, hu, h1⟩ := he.rd hr hok.1 hx
      exact fin (by simp only [evOp, hu]) (.iface _ _ _ h1)
    · cases h
  | mkFunc fn a c =>
    intro hok v H' h
    simp only [opOk, AOp.opds, List.all_append, Bool.and_eq_true] at hok
    simp only [evOp] at h
    split at h
    · rename_i vs ws hvs hws; cases h
      obtain ⟨us, hus, h1⟩ := he.rds hr hok.1.1 hvs
      obtain ⟨us', hus', h2⟩ := he.rds hr hok.1.2 hws
      exact fin (by simp only [evOp, hus, hus']) (.func _ _ _ _ _ h1.asv.1 h1.asv.2 h2.asv.1 h2.asv.2)
    · cases h
  | mkSlice size bytes z l =>
    intro hok v H' h
    simp only [opOk, AOp.opds, zeroOk, List.all_cons, List.all_nil, Bool.and_true, Bool.and_eq_true] at hok
    simp only [evOp] at h
    split at h
    · rename_i n hl
      obtain ⟨hc, e⟩ := ite_some h
      cases e
      obtain ⟨u, hu, h1⟩ := he.rd hr hok.1 hl
      cases int_sv h1
      have := hr.new (o := ⟨(repeatCells z (n.toNat * size)).toList, size⟩) (p := ⟨(repeatCells z (n.toNat * size)).toList, size⟩) rfl (lsv_closed _ 4 _ (repeat_closed hok.2 _))
      exact ⟨_, _, _, by simp only [evOp, hu, if_pos hc], this, .sl _ _ (Mp.put_same _ _ _)⟩
    · cases h
  | slice size x lo hi =>
    intro hok v H' h
    simp only [opOk, AOp.opds, List.all_append, List.all_cons, List.all_nil, Bool.and_true, Bool.and_eq_true] at hok
    simp only [evOp] at h
    split at h
    · rename_i a len c lo hi hx hlo hhi
      split at h
      · rename_i l h' hb
        split at h
        · rename_i w hw; cases h
          obtain ⟨u, hu, h1⟩ := he.rd hr hok.1.1.1 hx
          obtain ⟨lo', hlo', h2⟩ := he.rdo hr hok.1.1.2 hlo
          obtain ⟨hi', hhi', h3⟩ := he.rdo hr hok.1.2 hhi
          have hb' := aSliceBounds_sv h2 h3 hb
          unfold aCut at hw
          split at hw
          · rename_i i off
            obtain ⟨hc, e⟩ := ite_some hw
            cases e
            obtain ⟨j, hj, rfl⟩ := sl_sv h1
            have hc' : (K.get j).any (fun o => o.esz == size) = true := by
              cases ho : H.get i with
              | none => rw [ho] at hc; simp at hc
              | some o =>
                rw [ho] at hc
                obtain ⟨j2, p, g1, g2, g3, _, _⟩ := hr.obj i o ho
                rw [hj] at g1; cases g1
                rw [g2]; simpa [g3] using hc
            exact fin (by simp only [evOp, hu, hlo', hhi', hb', aCut, hc', if_true]) (.sl _ _ hj)
          · obtain ⟨hc, e⟩ := ite_some hw
            cases e
            cases slN_sv h1
            exact fin (by simp only [evOp, hu, hlo', hhi', hb', aCut, if_pos hc]) (.slNil _ _)
          · cases hw
        · cases h
      · cases h
    · cases h
  | fieldAddr off x =>
    intro hok v H' h
    simp only [opOk, AOp.opds, List.all_cons, List.all_nil, Bool.and_true, Bool.and_eq_true] at hok
    simp only [evOp] at h
    split at h
    · rename_i i o hx; cases h
      obtain ⟨u, hu, h1⟩ := he.rd hr hok.1 hx
      obtain ⟨j, hj, rfl⟩ := ptr_sv h1
      exact fin (by simp only [evOp, hu]) (.ptr hj)
    · cases h
  | field off n x =>
    intro hok v H' h
    simp only [opOk, AOp.opds, List.all_cons, List.all_nil, Bool.and_true, Bool.and_eq_true] at hok
    simp only [evOp] at h
    split at h
    · rename_i cs hx
      split at h
      · rename_i w hw; cases h
        obtain ⟨u, hu, h1⟩ := he.rd hr hok.1 hx
        cases h1 with
        | agg _ cs' g1 g2 =>
        obtain ⟨w', hw', h2⟩ := aPart_sv ⟨g1, g2⟩ hw
        exact fin (by simp only [evOp, hu, hw']) h2
      · cases h
    · cases h
  | indexAddr arr size x i =>
    intro hok v H' h
    simp only [opOk, AOp.opds, List.all_cons, List.all_nil, Bool.and_true, Bool.and_eq_true] at hok
    simp only [evOp] at h
    split at h
    · rename_i k i hi
      obtain ⟨ui, hui, h0⟩ := he.rd hr hok.1.2 hi
      cases int_sv h0
      split at h
      · rename_i len b off hx
        obtain ⟨hc, e⟩ := ite_some h
        cases e
        obtain ⟨u, hu, h1⟩ := he.rd hr hok.1.1 hx
        obtain ⟨j, hj, rfl⟩ := ptr_sv h1
        exact fin (by simp only [evOp, hui, hu, if_pos hc]) (.ptr hj)
      · rename_i b off len c hx
        obtain ⟨hc, e⟩ := ite_some h
        cases e
        obtain ⟨u, hu, h1⟩ := he.rd hr hok.1.1 hx
        obtain ⟨j, hj, rfl⟩ := sl_sv h1
        exact fin (by simp only [evOp, hui, hu, if_pos hc]) (.ptr hj)
      · cases h
    · cases h
  | index len size n x i =>
    intro hok v H' h
    simp only [opOk, AOp.opds, List.all_cons, List.all_nil, Bool.and_true, Bool.and_eq_true] at hok
    simp only [evOp] at h
    split at h
    · rename_i cs k i hx hi
      split at h
      · rename_i hc
        split at h
        · rename_i w hw; cases h
          obtain ⟨u, hu, h1⟩ := he.rd hr hok.1.1 hx
          obtain ⟨ui, hui, h0⟩ := he.rd hr hok.1.2 hi
          cases int_sv h0
          cases h1 with
          | agg _ cs' g1 g2 =>
          obtain ⟨w', hw', h2⟩ := aPart_sv ⟨g1, g2⟩ hw
          exact fin (by simp only [evOp, hu, hui, if_pos hc, hw']) h2
        · cases h
      · cases h
    · cases h
  | extract x i =>
    intro hok v H' h
    simp only [opOk, AOp.opds, List.all_cons, List.all_nil, Bool.and_true, Bool.and_eq_true] at hok
    simp only [evOp] at h
    split at h
    · rename_i vs hx
      split at h
      · rename_i w hw; cases h
        obtain ⟨u, hu, h1⟩ := he.rd hr hok.1 hx
        cases h1 with
        | tuple _ cs' g1 g2 =>
        obtain ⟨w', hw', h2⟩ := ASV.get ⟨g1, g2⟩ hw
        exact fin (by simp only [evOp, hu, hw']) h2
      · cases h
    · cases h
  | len str x =>
    intro hok v H' h
    simp only [opOk, AOp.opds, List.all_cons, List.all_nil, Bool.and_true, Bool.and_eq_true] at hok
    simp only [evOp] at h
    split at h
    · rename_i a n c hx; cases h
      obtain ⟨u, hu, h1⟩ := he.rd hr hok.1 hx
      cases h1 with
      | slNil => exact fin (by simp only [evOp, hu]) (.int _ _)
      | sl _ _ hj => exact fin (by simp only [evOp, hu]) (.int _ _)
    · rename_i s hx; cases h
      obtain ⟨u, hu, h1⟩ := he.rd hr hok.1 hx
      cases str_sv h1
      exact fin (by simp only [evOp, hu]) (.int _ _)
    · cases h
  | append size bytes x y =>
    intro hok v H' h
    simp only [opOk, AOp.opds, List.all_cons, List.all_nil, Bool.and_true, Bool.and_eq_true] at hok
    simp only [evOp] at h
    split at h
    · rename_i a n c b m d hx hy
      obtain ⟨x', hx', h1⟩ := he.rd hr hok.1.1 hx
      obtain ⟨y', hy', h2⟩ := he.rd hr hok.1.2 hy
      obtain ⟨a', b', u, ν, K', rfl, rfl, h3, h4, h5⟩ := append_sv hr h1 h2 h
      exact ⟨u, ν, K', by simp only [evOp, hx', hy', h3], h4, h5⟩
    · cases h
  | minmax mx x y =>
    intro hok v H' h
    simp only [opOk, AOp.opds, List.all_cons, List.all_nil, Bool.and_true, Bool.and_eq_true] at hok
    simp only [evOp] at h
    split at h
    · rename_i k a k' b hx hy; cases h
      obtain ⟨a', ha, h1⟩ := he.rd hr hok.1.1 hx
      obtain ⟨b', hb, h2⟩ := he.rd hr hok.1.2 hy
      cases int_sv h1; cases int_sv h2
      exact fin (by simp only [evOp, ha, hb]) (.int _ _)
    · cases h
  | call f xs =>
    intro hok v H' h
    simp only [opOk, AOp.opds, Bool.and_eq_true] at hok
    simp only [evOp] at h
    split at h
    · rename_i vs hvs
      obtain ⟨us, hus, h1⟩ := he.rds hr hok.1 hvs
      obtain ⟨u, ν, K', h2, h3, h4⟩ := hcs _ _ _ _ _ h μ K us hr h1
      exact ⟨u, ν, K', by simp only [evOp, hus, h2], h3, h4⟩
    · cases h
  | callQ f xs =>
    intro hok v H' h
    simp only [opOk, AOp.opds, Bool.and_eq_true] at hok
    simp only [evOp] at h
    split at h
    · rename_i vs hvs
      split at h
      · rename_i w H1 hw
        obtain ⟨hc, e⟩ := ite_some h
        cases e
        obtain ⟨us, hus, h1⟩ := he.rds hr hok.1 hvs
        obtain ⟨u, ν, K', h2, h3, h4⟩ := hcs _ _ _ _ _ hw μ K.froz us hr.froz h1
        have e := closedIn_seq 4 _ _ hc h4
        subst e
        exact fin (by simp only [evOp, hus, h2, hc, if_true]) (closedIn_sv μ 4 _ hc)
      · cases h
    · cases h
  | callE g f xs =>
    intro hok v H' h
    simp only [opOk, AOp.opds, Bool.and_eq_true] at hok
    simp only [evOp] at h
    split at h
    · rename_i vs hvs
      split at h
      · rename_i w H1 hw
        obtain ⟨hc, e⟩ := ite_some h
        cases e
        obtain ⟨us, hus, h1⟩ := he.rds hr hok.1 hvs
        rw [Bool.and_eq_true] at hc
        have e := h1.eq_closed hc.2
        subst e
        exact fin (by simp only [evOp, hus, hw, hc.1, hc.2, Bool.and_self, if_true]) (closedIn_sv μ 4 _ hc.1)
      · cases h
    · cases h
  | invoke m x xs =>
    intro hok v H' h
    simp only [opOk, AOp.opds, List.all_cons, Bool.and_eq_true] at hok
    simp only [evOp] at h
    split at h
    · rename_i t w vs hx hvs
      split at h
      · rename_i f hf
        obtain ⟨x', hx', h0⟩ := he.rd hr hok.1.1 hx
        obtain ⟨us, hus, h1⟩ := he.rds hr hok.1.2 hvs
        cases h0 with
        | iface _ _ w' hw =>
        obtain ⟨u, ν, K', h2, h3, h4⟩ := hcs _ _ _ _ _ h μ K (w' :: us) hr (.cons hw h1)
        exact ⟨u, ν, K', by simp only [evOp, hx', hus, hf, h2], h3, h4⟩
      · cases h
    · cases h
  | callV x xs =>
    intro hok v H' h
    simp only [opOk, AOp.opds, List.all_cons, Bool.and_eq_true] at hok
    simp only [evOp] at h
    split at h
    · rename_i f a c vs hx hvs
      obtain ⟨x', hx', h0⟩ := he.rd hr hok.1.1 hx
      obtain ⟨us, hus, h1⟩ := he.rds hr hok.1.2 hvs
      cases h0 with
      | func _ _ _ a' c' g1 g2 g3 g4 =>
      obtain ⟨u, ν, K', h2, h3, h4⟩ := hcs _ _ _ _ _ h μ K (a'.toList ++ us ++ c'.toList) hr (((ASV.lsv ⟨g1, g2⟩).append h1).append (ASV.lsv ⟨g3, g4⟩))
      exact ⟨u, ν, K', by simp only [evOp, hx', hus, h2], h3, h4⟩
    · cases h
  | hold ds op ih =>
    intro hok v H' h
    simp only [opOk, AOp.opds, zeroOk, List.all_append, Bool.and_eq_true] at hok
    simp only [evOp] at h
    split at h
    · rename_i w H1 hw
      obtain ⟨hc, e⟩ := ite_some h
      cases e
      obtain ⟨u, ν, K', h1, h2, h3⟩ := ih (by simp only [opOk, Bool.and_eq_true]; exact ⟨hok.1.1, hok.2⟩) hw
      have hc' : ds.all (heldB τ K K') = true := by
        rw [List.all_eq_true] at hc ⊢
        intro d hd
        refine heldB_sv hr h2.hr h2.ext he ?_ (hc d hd)
        have := hok.1.2
        rw [List.all_eq_true] at this
        exact this _ (List.mem_map.2 ⟨d, hd, rfl⟩)
      exact ⟨u, ν, K', by simp only [evOp, h1, hc', if_true], h2, h3⟩
    · cases h
end
end Go.Ab

/- What code and functions come to in one abstract heap, they come to in a heap that holds it. -/
namespace Go.Ab
open Go

def codeOk (gl : Nat) : ACode → Bool
  | .reg its _ | .regd _ its _ => its.all fun it => opOk gl it.op
  | .seq a b => codeOk gl a && codeOk gl b
  | .cond c a b => opdOk gl c && codeOk gl a && codeOk gl b
  | .block _ b | .loop b | .scope b => codeOk gl b
  | _ => true

section
variable {gl : Nat} {μ ν : Mp} {H K H' K' : AHeap} {σ τ : Env} {call : ACall} {meth : TypeId → String → Option FuncId}

theorem evItem_sv (hcs : SCall gl call) (hr : HR gl μ H K) (he : ER μ σ τ) {it : AItem} (hok : opOk gl it.op = true) {v : Value} {H' : AHeap} (h : evItem call meth σ H it = some (v, H')) :
    ∃ u ν K', evItem call meth τ K it = some (u, K') ∧ SP gl μ H K ν H' K' ∧ SV ν v u := by
  unfold evItem at h ⊢
  split at h
  · exact evOp_sv hcs hr he hok h
  · rename_i g want hg
    split at h
    · rename_i b hb
      obtain ⟨u, hu, h1⟩ := he.find hb
      cases bool_sv h1
      simp only [hu]
      split at h
      · rename_i e; rw [if_pos e]; exact evOp_sv hcs hr he hok h
      · rename_i e; rw [if_neg e]; cases h; exact ⟨_, μ, K, rfl, .refl hr, undef_sv⟩
    · cases h

theorem evItems_sv (hcs : SCall gl call) : ∀ {its : List AItem}, (its.all fun it => opOk gl it.op) = true → ∀ {μ : Mp} {σ τ σ' : Env} {H K H' : AHeap}, HR gl μ H K → ER μ σ τ →
    evItems call meth its σ H = some (σ', H') → ∃ ν τ' K', evItems call meth its τ K = some (τ', K') ∧ SP gl μ H K ν H' K' ∧ ER ν σ' τ'
  | [], _, μ, σ, τ, σ', H, K, H', hr, he, h => by
    simp only [evItems, Option.some.injEq, Prod.mk.injEq] at h
    obtain ⟨rfl, rfl⟩ := h
    exact ⟨μ, τ, K, rfl, .refl hr, he⟩
  | it :: its, hok, μ, σ, τ, σ', H, K, H', hr, he, h => by
    simp only [List.all_cons, Bool.and_eq_true] at hok
    rw [evItems_cons] at h
    split at h
    · rename_i v H1 hv
      obtain ⟨u, ν, K1, h1, h2, h3⟩ := evItem_sv hcs hr he hok.1 hv
      obtain ⟨ξ, τ', K', h4, h5, h6⟩ := evItems_sv hcs hok.2 h2.hr ((he.mono h2.ext).putO h3) h
      exact ⟨ξ, τ', K', by rw [evItems_cons, h1]; exact h4, h2.trans h5, h6⟩
    · cases h

/-- What a piece of code comes to, said of two heaps. -/
def BodyS (gl : Nat) (b : Env → AHeap → ARes) : Prop := ∀ μ σ τ H K ex σ' H', HR gl μ H K → ER μ σ τ → b σ H = some (ex, σ', H') →
  ∃ ν τ' K', b τ K = some (ex, τ', K') ∧ SP gl μ H K ν H' K' ∧ ER ν σ' τ'

theorem loopN_sv {b : Env → AHeap → ARes} (hb : BodyS gl b) : ∀ k, BodyS gl (loopN b k)
  | 0 => fun μ σ τ H K ex σ' H' _ _ h => by simp [loopN] at h
  | k + 1 => fun μ σ τ H K ex σ' H' hr he h => by
    simp only [loopN] at h ⊢
    split at h
    · rename_i σ1 H1 h1
      obtain ⟨ν, τ1, K1, g1, g2, g3⟩ := hb _ _ _ _ _ _ _ _ hr he h1
      obtain ⟨ξ, τ', K', g4, g5, g6⟩ := loopN_sv hb k _ _ _ _ _ _ _ _ g2.hr g3 h
      exact ⟨ξ, τ', K', by simp only [g1]; exact g4, g2.trans g5, g6⟩
    · rename_i hne
      obtain ⟨ν, τ1, K1, g1, g2, g3⟩ := hb _ _ _ _ _ _ _ _ hr he h
      refine ⟨ν, τ1, K1, ?_, g2, g3⟩
      rw [g1]
      cases ex with
      | norm => exact absurd h (hne _ _)
      | _ => rfl

theorem jumpN_sv {b : Option Nat → Env → AHeap → ARes} {has : Nat → Bool} (hb : ∀ l, BodyS gl (b l)) : ∀ k l, BodyS gl (jumpN b has k l)
  | 0, l => fun μ σ τ H K ex σ' H' _ _ h => by simp [jumpN] at h
  | k + 1, l => fun μ σ τ H K ex σ' H' hr he h => by
    simp only [jumpN] at h ⊢
    split at h
    · rename_i l' σ1 H1 h1
      obtain ⟨ν, τ1, K1, g1, g2, g3⟩ := hb l _ _ _ _ _ _ _ _ hr he h1
      simp only [g1]
      split at h
      · rename_i hl
        rw [if_pos hl]
        obtain ⟨ξ, τ', K', g4, g5, g6⟩ := jumpN_sv hb k (some l') _ _ _ _ _ _ _ _ g2.hr g3 h
        exact ⟨ξ, τ', K', g4, g2.trans g5, g6⟩
      · rename_i hl
        rw [if_neg hl]
        cases h
        exact ⟨ν, τ1, K1, rfl, g2, g3⟩
    · rename_i hne
      obtain ⟨ν, τ1, K1, g1, g2, g3⟩ := hb l _ _ _ _ _ _ _ _ hr he h
      refine ⟨ν, τ1, K1, ?_, g2, g3⟩
      rw [g1]
      cases ex with
      | goto l => exact absurd h (hne _ _ _)
      | _ => rfl

theorem evC_sv (hcs : SCall gl call) (k : Nat) : ∀ (c : ACode), codeOk gl c = true → ∀ l, BodyS gl (evC call meth k c l) := by
  intro c
  have here : ∀ {l : Option Nat} {c : ACode} {ex : AEx} {μ : Mp} {σ τ σ' : Env} {H K H' : AHeap}, HR gl μ H K → ER μ σ τ → σ' = σ ∧ H' = H → evC call meth k c l τ K = some (ex, τ, K) →
      ∃ ν τ' K', evC call meth k c l τ K = some (ex, τ', K') ∧ SP gl μ H K ν H' K' ∧ ER ν σ' τ' := by
    rintro l c ex μ σ τ _ H K _ hr he ⟨rfl, rfl⟩ h
    exact ⟨μ, τ, K, h, .refl hr, he⟩
  induction c with
  | skip =>
    intro _ l μ σ τ H K ex σ' H' hr he h
    cases l <;> simp only [evC, Option.some.injEq, Prod.mk.injEq, reduceCtorEq] at h
    obtain ⟨rfl, rfl, rfl⟩ := h
    exact here hr he ⟨rfl, rfl⟩ (by simp only [evC])
  | reg its live =>
    intro hok l μ σ τ H K ex σ' H' hr he h
    cases l with
    | some l => simp [evC] at h
    | none =>
      simp only [evC] at h
      split at h
      · rename_i σ1 H1 h1; cases h
        obtain ⟨ν, τ', K', g1, g2, g3⟩ := evItems_sv hcs hok hr he h1
        exact ⟨ν, _, K', by simp only [evC, g1], g2, g3.keep live⟩
      · cases h
  | regd ord its live =>
    intro hok l μ σ τ H K ex σ' H' hr he h
    cases l with
    | some l => simp [evC] at h
    | none =>
      simp only [evC] at h
      split at h
      · rename_i σ1 H1 h1; cases h
        obtain ⟨ν, τ', K', g1, g2, g3⟩ := evItems_sv hcs hok hr he h1
        exact ⟨ν, _, K', by simp only [evC, g1], g2, g3.keep live⟩
      · cases h
  | seq x y ihx ihy =>
    intro hok
    simp only [codeOk, Bool.and_eq_true] at hok
    have both : ∀ l, BodyS gl fun σ H => (match evC call meth k x l σ H with
          | some (.norm, σ₁, H₁) => evC call meth k y none σ₁ H₁
          | r => r) := by
      intro l μ σ τ H K ex σ' H' hr he h
      simp only [] at h ⊢
      split at h
      · rename_i σ1 H1 h1
        obtain ⟨ν, τ1, K1, g1, g2, g3⟩ := ihx hok.1 l _ _ _ _ _ _ _ _ hr he h1
        obtain ⟨ξ, τ', K', g4, g5, g6⟩ := ihy hok.2 none _ _ _ _ _ _ _ _ g2.hr g3 h
        exact ⟨ξ, τ', K', by simp only [g1]; exact g4, g2.trans g5, g6⟩
      · rename_i hne
        obtain ⟨ν, τ1, K1, g1, g2, g3⟩ := ihx hok.1 l _ _ _ _ _ _ _ _ hr he h
        refine ⟨ν, τ1, K1, ?_, g2, g3⟩
        rw [g1]
        cases ex with
        | norm => exact absurd h (hne _ _)
        | _ => rfl
    intro l μ σ τ H K ex σ' H' hr he h
    cases l with
    | none => simp only [evC] at h ⊢; exact both none _ _ _ _ _ _ _ _ hr he h
    | some l =>
      simp only [evC] at h ⊢
      split at h
      · rename_i hl; rw [if_pos hl]; exact both (some l) _ _ _ _ _ _ _ _ hr he h
      · rename_i hl; rw [if_neg hl]; exact ihy hok.2 (some l) _ _ _ _ _ _ _ _ hr he h
  | cond c x y ihx ihy =>
    intro hok l μ σ τ H K ex σ' H' hr he h
    simp only [codeOk, Bool.and_eq_true] at hok
    cases l with
    | some l => simp [evC] at h
    | none =>
      simp only [evC] at h ⊢
      split at h
      · rename_i hc
        obtain ⟨u, hu, h1⟩ := he.rd hr hok.1.1 hc
        cases bool_sv h1
        simp only [hu]
        exact ihx hok.1.2 none _ _ _ _ _ _ _ _ hr he h
      · rename_i hc
        obtain ⟨u, hu, h1⟩ := he.rd hr hok.1.1 hc
        cases bool_sv h1
        simp only [hu]
        exact ihy hok.2 none _ _ _ _ _ _ _ _ hr he h
      · cases h
  | block id b ih =>
    intro hok l μ σ τ H K ex σ' H' hr he h
    simp only [codeOk] at hok
    cases l with
    | some l => simp [evC] at h
    | none =>
      simp only [evC] at h ⊢
      split at h
      · rename_i i σ1 H1 h1
        obtain ⟨ν, τ1, K1, g1, g2, g3⟩ := ih hok none _ _ _ _ _ _ _ _ hr he h1
        simp only [g1]
        split at h
        · rename_i e; rw [if_pos e]; cases h; exact ⟨ν, τ1, K1, rfl, g2, g3⟩
        · rename_i e; rw [if_neg e]; cases h; exact ⟨ν, τ1, K1, rfl, g2, g3⟩
      · rename_i hne
        obtain ⟨ν, τ1, K1, g1, g2, g3⟩ := ih hok none _ _ _ _ _ _ _ _ hr he h
        refine ⟨ν, τ1, K1, ?_, g2, g3⟩
        rw [g1]
        cases ex with
        | exit i => exact absurd h (hne _ _ _)
        | _ => rfl
  | loop b ih =>
    intro hok l μ σ τ H K ex σ' H' hr he h
    simp only [codeOk] at hok
    cases l with
    | some l => simp [evC] at h
    | none =>
      simp only [evC] at h ⊢
      exact loopN_sv (ih hok none) k _ _ _ _ _ _ _ _ hr he h
  | scope b ih =>
    intro hok l μ σ τ H K ex σ' H' hr he h
    simp only [codeOk] at hok
    cases l with
    | some l => simp [evC] at h
    | none =>
      simp only [evC] at h ⊢
      exact jumpN_sv (fun l => ih hok l) k none _ _ _ _ _ _ _ _ hr he h
  | exit id =>
    intro _ l μ σ τ H K ex σ' H' hr he h
    cases l <;> simp only [evC, Option.some.injEq, Prod.mk.injEq, reduceCtorEq] at h
    obtain ⟨rfl, rfl, rfl⟩ := h
    exact here hr he ⟨rfl, rfl⟩ (by simp only [evC])
  | label m =>
    intro _ l μ σ τ H K ex σ' H' hr he h
    cases l with
    | none =>
      simp only [evC, Option.some.injEq, Prod.mk.injEq] at h
      obtain ⟨rfl, rfl, rfl⟩ := h
      exact here hr he ⟨rfl, rfl⟩ (by simp only [evC])
    | some l =>
      simp only [evC] at h
      split at h
      · rename_i e
        cases h
        exact here hr he ⟨rfl, rfl⟩ (by simp only [evC, if_pos e])
      · cases h
  | goto m =>
    intro _ l μ σ τ H K ex σ' H' hr he h
    cases l <;> simp only [evC, Option.some.injEq, Prod.mk.injEq, reduceCtorEq] at h
    obtain ⟨rfl, rfl, rfl⟩ := h
    exact here hr he ⟨rfl, rfl⟩ (by simp only [evC])
  | ret =>
    intro _ l μ σ τ H K ex σ' H' hr he h
    cases l <;> simp only [evC, Option.some.injEq, Prod.mk.injEq, reduceCtorEq] at h
    obtain ⟨rfl, rfl, rfl⟩ := h
    exact here hr he ⟨rfl, rfl⟩ (by simp only [evC])

theorem evRes_sv (hr : HR gl μ H K) (he : ER μ σ τ) : ∀ {rs : List ARv} {vs : List Value}, evRes σ H rs = some vs → ∃ us, evRes τ K rs = some us ∧ LSV μ vs us
  | [], vs, h => by simp only [evRes, Option.some.injEq] at h ⊢; subst h; exact ⟨_, rfl, .nil⟩
  | r :: rs, vs, h => by
    simp only [evRes] at h ⊢
    split at h
    · cases h
    · rename_i v hv
      split at h
      · cases h
      · rename_i ws hws
        cases h
        obtain ⟨us, hus, h2⟩ := evRes_sv hr he hws
        cases r with
        | tmp t =>
          simp only [] at hv
          obtain ⟨u, hu, h1⟩ := he.find hv
          simp only [hu, hus]
          exact ⟨_, rfl, .cons h1 h2⟩
        | cell a n =>
          simp only [] at hv
          split at hv
          · rename_i p hp
            obtain ⟨q, hq, h1⟩ := he.find hp
            obtain ⟨u, hu, h3⟩ := load_sv hr h1 hv
            simp only [hq, hu, hus]
            exact ⟨_, rfl, .cons h3 h2⟩
          · cases hv

theorem asResult_sv {vs us : List Value} (h : LSV μ vs us) : SV μ (asResult vs) (asResult us) := by
  have tup : SV μ (.tuple vs.toArray) (.tuple us.toArray) := .tuple _ _ h.asv.1 h.asv.2
  match vs, us, h with
  | [], [], _ => exact tup
  | [v], [u], .cons hv .nil => exact hv
  | _ :: _ :: _, _ :: _ :: _, _ => exact tup
end

/-- A program whose constants are its own, and whose first functions are the same in each heap. -/
structure SProg (gl : Nat) (T : AProg) : Prop where
  fn : ∀ f fn, T.fn f = some fn → codeOk gl fn.body = true
  prim : ∀ f p, T.prim f = some p → ∀ vs H v H', p vs H = some (v, H') → ∀ μ K us, HR gl μ H K → LSV μ vs us → ∃ u ν K', p us K = some (u, K') ∧ SP gl μ H K ν H' K' ∧ SV ν v u

theorem evFn_sv {gl : Nat} {T : AProg} (hT : SProg gl T) : ∀ k, SCall gl (evFn T k)
  | 0 => fun f vs H v H' h => by simp [evFn] at h
  | k + 1 => fun f vs H v H' h μ K us hr hl => by
    simp only [evFn] at h ⊢
    split at h
    · rename_i p hp
      exact hT.prim f p hp vs H v H' h μ K us hr hl
    · split at h
      · cases h
      · rename_i fn hfn
        rw [← hl.length]
        split at h
        · cases h
        · rename_i hn
          rw [if_neg hn]
          have hb := evC_sv (meth := T.meth) (evFn_sv hT k) k fn.body (hT.fn f fn hfn) none
          have key : ∀ ex σ1 H1, evC (evFn T k) T.meth k fn.body none (argEnv 0 vs) H = some (ex, σ1, H1) → (ex = .norm ∨ ex = .ret) → (match evRes σ1 H1 fn.res with
              | some vs => some (asResult vs, H1)
              | none => none) = some (v, H') → ∃ u ν K', (match evC (evFn T k) T.meth k fn.body none (argEnv 0 us) K with
              | some (.norm, σ, H') => match evRes σ H' fn.res with
                | some vs => some (asResult vs, H')
                | none => none
              | some (.ret, σ, H') => match evRes σ H' fn.res with
                | some vs => some (asResult vs, H')
                | none => none
              | _ => none) = some (u, K') ∧ SP gl μ H K ν H' K' ∧ SV ν v u := by
            intro ex σ1 H1 h1 hex h2
            obtain ⟨ν, τ1, K1, g1, g2, g3⟩ := hb _ _ _ _ _ _ _ _ hr (.args hl 0) h1
            split at h2
            · rename_i ws hws
              cases h2
              obtain ⟨us', hus, g4⟩ := evRes_sv g2.hr g3 hws
              refine ⟨_, ν, K1, ?_, g2, asResult_sv g4⟩
              rcases hex with rfl | rfl
              · simp only [g1, hus]
              · simp only [g1, hus]
            · cases h2
          split at h
          · rename_i σ1 H1 h1; exact key _ _ _ h1 (.inl rfl) h
          · rename_i σ1 H1 h1; exact key _ _ _ h1 (.inr rfl) h
          · cases h
end Go.Ab

/- An evaluator that is told what it cannot see: branches, what is read where, what is written; it lists what it was told, to be shown. -/
namespace Go.Ab
open Go

inductive Hint where
  | r (n : Nat)                     -- this step as it is, and n more
  | b (d : Bool)                    -- a branch, a guard, a pick: decided
  | g                               -- an index, within its bounds
  | v (u : Value)                   -- a step as it is, its value told in other words
  | ld (u : Value)                  -- a load, a part or a sum: told
  | st (cs : List Value)            -- a store: the object's cells told
  | sl (l h : Nat)                  -- a cut: its bounds told
  | ap (cs : List Value)            -- an append of something, or a new row: the object's cells told
  | a0                              -- an append of nothing
  | k (u : Value)                   -- a call that reads nothing: told
  | kq (ids : List Nat) (u : Value) -- a call that reads some objects: told
  | hd                              -- a step over which loads hold
  | kc (ids : List Nat) (u : Value) (os : List (Nat × Option AObj)) (n : Nat) -- a call: what it tells, and the objects behind it

def AllP : List Prop → Prop
  | [] => True
  | p :: ps => p ∧ AllP ps

abbrev OS := List Hint × List Prop
abbrev OCall := FuncId → List Value → AHeap → OS → Option (Value × AHeap × OS)

def dec : Nat → List Hint → List Hint
  | 0, hs => hs
  | n + 1, hs => .r n :: hs

/-- A call that reads some objects alone. -/
def ReadQ (T : AProg) (f : FuncId) (vs : List Value) (l : List (Nat × Option AObj)) (u : Value) : Prop := ∀ H : AHeap, (∀ p ∈ l, H.get p.1 = p.2) → EvQ T f vs H fun w => w = u

/-- A call, in each heap that holds the one: it tells this, and leaves this. -/
def RC (T : AProg) (gl : Nat) (f : FuncId) (vs : List Value) (H : AHeap) (v : Value) (H' : AHeap) : Prop := ∀ μ K us, HR gl μ H K → LSV μ vs us →
  ∃ k u ν K', evFn T k f us K = some (u, K') ∧ SP gl μ H K ν H' K' ∧ SV ν v u

/-- A heap with more numbers, without objects. -/
def AHeap.pad (H : AHeap) : Nat → AHeap
  | 0 => H
  | k + 1 => ({ H with tr := Tr.put (key H.next) H.tr none, next := H.next + 1 } : AHeap).pad k

/-- A heap with other objects at some places. -/
def AHeap.puts (H : AHeap) : List (Nat × Option AObj) → AHeap
  | [] => H
  | p :: r => ({ H with tr := Tr.put (key p.1) H.tr p.2 } : AHeap).puts r

def AHeap.over (H : AHeap) (os : List (Nat × Option AObj)) (n : Nat) : AHeap := (H.pad (n - H.next)).puts os

/-- A heap of some of its objects alone. -/
def AHeap.only (H : AHeap) (ids : List Nat) : AHeap := (⟨.nil, H.next, H.lo⟩ : AHeap).puts (ids.map fun i => (i, H.get i))

def overOk (H : AHeap) (ids : List Nat) (os : List (Nat × Option AObj)) : Bool := os.all fun p => decide (H.lo ≤ p.1) && (ids.contains p.1 || decide (H.next ≤ p.1))

def heldPs (σ : Env) (H H' : AHeap) : List (Option Nat × AOpd) → Option (List Prop)
  | [] => some []
  | d :: ds => match σ.rd d.2 with
    | none => none
    | some p => match aLoad H d.1 p with
      | none => none
      | some u => match aLoad H' d.1 p with
        | none => none
        | some u' => match heldPs σ H H' ds with
          | none => none
          | some ps => some ((eqV 4 u u' = true) :: ps)

def noCall : ACall := fun _ _ _ => none

/-- A step of which something is told. -/
def oSpec (T : AProg) (gl : Nat) (σ : Env) (H : AHeap) (h : Hint) (op : AOp) : Option (Value × AHeap × Prop) :=
  match h with
  | .b d => match op with
    | .pick c a b => match σ.rd c with
      | some (.bool x) => match σ.rd (if d then a else b) with
        | some v => some (v, H, x = d)
        | none => none
      | _ => none
    | _ => none
  | .g => match op with
    | .indexAddr arr size x i => match σ.rd i with
      | some (.int _ i) => match arr with
        | some len => match σ.rd x with
          | some (.pointer (some ⟨b, off, none⟩)) => some (.pointer (some ⟨b, off + i.toNat * size, none⟩), H, 0 ≤ i ∧ i < len)
          | _ => none
        | none => match σ.rd x with
          | some (.slice (some ⟨b, off, none⟩) len _) => some (.pointer (some ⟨b, off + i.toNat * size, none⟩), H, 0 ≤ i ∧ i < len)
          | _ => none
      | _ => none
    | _ => none
  | .ld u => match op with
    | .load none x => match σ.rd x with
      | some (.pointer (some ⟨i, off, none⟩)) => match H.get i with
        | some o => some (u, H, o.cells[off]? = some u)
        | none => none
      | _ => none
    | .load (some n) x => match σ.rd x with
      | some (.pointer (some ⟨i, off, none⟩)) => match H.get i with
        | some o => match u with
          | .agg cs => some (u, H, readN o.cells off n = some cs.toList)
          | _ => none
        | none => none
      | _ => none
    | .index len size n x i => match σ.rd x, σ.rd i with
      | some (.agg cs), some (.int _ i) => some (u, H, (0 ≤ i ∧ i < len) ∧ aPart cs (i.toNat * size) n = some u)
      | _, _ => none
    | .bin op x y => match σ.rd x, σ.rd y with
      | some a, some b => some (u, H, aBin op a b = some u)
      | _, _ => none
    | _ => none
  | .st cs => match op with
    | .store n a x => match σ.rd a, σ.rd x with
      | some (.pointer (some ⟨i, off, none⟩)), some v => match H.get i with
        | some o => some (undef, H.set i { o with cells := cs }, (H.lo ≤ i ∧ v.cells.size = n ∧ off + n ≤ o.cells.length ∧ v.cells.toList.all one = true) ∧ writeN o.cells off v.cells.toList = cs)
        | none => none
      | _, _ => none
    | _ => none
  | .sl l h => match op with
    | .slice size x lo hi => match σ.rd x, σ.rdo lo, σ.rdo hi with
      | some (.slice a len _), some lo, some hi => match aCut H size a len l h with
        | some v => some (v, H, aSliceBounds len lo hi = some (l, h))
        | none => none
      | _, _, _ => none
    | _ => none
  | .ap cs => match op with
    | .append size bytes x y => match σ.rd x, σ.rd y with
      | some (.slice a n c), some (.slice (some ⟨j, joff, none⟩) m _) => match H.get j with
        | some q => match a with
          | none => some (.slice (some ⟨H.next, 0, none⟩) m m, H.new ⟨cs, size⟩,
              m ≠ 0 ∧ (readN q.cells joff (m * size) = some cs ∧ ((n + m) * bytes ≤ 2 ^ 46 ∧ 0 < bytes ∧ 0 < size ∧ q.esz = size ∧ cs.all one = true)) ∧ n = 0)
          | some ⟨i, off, none⟩ => match H.get i with
            | some o => some (.slice (some ⟨H.next, 0, none⟩) (n + m) (n + m), (H.del i).new ⟨cs, size⟩,
                m ≠ 0 ∧ (∃ news, readN q.cells joff (m * size) = some news ∧ ((n + m) * bytes ≤ 2 ^ 46 ∧ 0 < bytes ∧ 0 < size ∧ q.esz = size ∧ news.all one = true) ∧ o.cells.drop off ++ news = cs) ∧
                  (H.lo ≤ i ∧ off + n * size = o.cells.length ∧ o.esz = size ∧ i ≠ j))
            | none => none
          | _ => none
        | none => none
      | _, _ => none
    | .mkSlice size bytes zero l => match σ.rd l with
      | some (.int .i64 n) => some (.slice (some ⟨H.next, 0, none⟩) n.toNat n.toNat, H.new ⟨cs, size⟩, (0 ≤ n ∧ n * bytes ≤ 2 ^ 47 ∧ n < 2 ^ 63 ∧ 0 < size) ∧ (repeatCells zero (n.toNat * size)).toList = cs)
      | _ => none
    | _ => none
  | .a0 => match op with
    | .append _ _ x y => match σ.rd x, σ.rd y with
      | some (.slice a n c), some (.slice _ m _) => some (.slice a n c, H, m = 0)
      | _, _ => none
    | _ => none
  | .k u => match op with
    | .callE g f args => match σ.rds args with
      | some vs => some (u, H, EvE T g f vs fun w => w = u)
      | none => none
    | _ => none
  | .kq ids u => match op with
    | .callQ f args => match σ.rds args with
      | some vs => some (u, H, ReadQ T f vs (ids.map fun i => (i, H.get i)) u)
      | none => none
    | _ => none
  | .kc ids u os n => match op with
    | .call f args => match σ.rds args with
      | some vs => if overOk H ids os then some (u, H.over os n, RC T gl f vs (H.only ids) u ((H.only ids).over os n)) else none
      | none => none
    | .invoke m x args => match σ.rd x, σ.rds args with
      | some (.iface t v), some vs => match T.meth t m with
        | some f => if overOk H ids os then some (u, H.over os n, RC T gl f (v :: vs) (H.only ids) u ((H.only ids).over os n)) else none
        | none => none
      | _, _ => none
    | _ => none
  | _ => none

/-- A step as it is. -/
def oPlain (call : OCall) (meth : TypeId → String → Option FuncId) (σ : Env) (H : AHeap) (s : OS) (op : AOp) : Option (Value × AHeap × OS) :=
  match op with
  | .call f args => match σ.rds args with
    | some vs => call f vs H s
    | none => none
  | .callQ f args => match σ.rds args with
    | some vs => match call f vs H.froz s with
      | some (v, _, s') => if closedIn 4 v then some (v, H, s') else none
      | none => none
    | none => none
  | .callE gl f args => match σ.rds args with
    | some vs => match call f vs ⟨.nil, gl, gl⟩ s with
      | some (v, _, s') => if closedIn 4 v && vs.all (closedIn 4) then some (v, H, s') else none
      | none => none
    | none => none
  | .invoke m x args => match σ.rd x, σ.rds args with
    | some (.iface t v), some vs => match meth t m with
      | some f => call f (v :: vs) H s
      | none => none
    | _, _ => none
  | .callV x args => match σ.rd x, σ.rds args with
    | some (.func (.func f) a c), some vs => call f (a.toList ++ vs ++ c.toList) H s
    | _, _ => none
  | op => match evOp noCall meth σ H op with
    | some (v, H') => some (v, H', s)
    | none => none

def oBare (T : AProg) (gl : Nat) (call : OCall) (σ : Env) (H : AHeap) (s : OS) (op : AOp) : Option (Value × AHeap × OS) :=
  match s.1 with
  | [] => none
  | .r n :: hs => oPlain call T.meth σ H (dec n hs, s.2) op
  | .v u :: hs => match evOp noCall T.meth σ H op with
    | some (v, H') => some (u, H', hs, (v = u) :: s.2)
    | none => none
  | h :: hs => match oSpec T gl σ H h op with
    | some (v, H', p) => some (v, H', hs, p :: s.2)
    | none => none

def oOp (T : AProg) (gl : Nat) (call : OCall) (σ : Env) (H : AHeap) (s : OS) (op : AOp) : Option (Value × AHeap × OS) :=
  match op with
  | .hold ds op => match s.1 with
    | .hd :: hs => match oBare T gl call σ H (hs, s.2) op with
      | some (v, H', s') => match heldPs σ H H' ds with
        | some ps => some (v, H', s'.1, AllP ps :: s'.2)
        | none => none
      | none => none
    | _ => none
  | op => oBare T gl call σ H s op

def oItem (T : AProg) (gl : Nat) (call : OCall) (σ : Env) (H : AHeap) (s : OS) (it : AItem) : Option (Value × AHeap × OS) :=
  match it.guard with
  | none => oOp T gl call σ H s it.op
  | some (g, want) => match σ.find g with
    | some (.bool b) => match s.1 with
      | .r n :: hs => if b = want then oOp T gl call σ H (dec n hs, s.2) it.op else some (undef, H, dec n hs, s.2)
      | .b d :: hs => if d = want then oOp T gl call σ H (hs, (b = d) :: s.2) it.op else some (undef, H, hs, (b = d) :: s.2)
      | _ => none
    | _ => none

def oItems (T : AProg) (gl : Nat) (call : OCall) : List AItem → Env → AHeap → OS → Option (Env × AHeap × OS)
  | [], σ, H, s => some (σ, H, s)
  | it :: rest, σ, H, s => match oItem T gl call σ H s it with
    | some (v, H', s') => oItems T gl call rest (σ.putO it.dst v) H' s'
    | none => none

abbrev ORes := Option (AEx × Env × AHeap × OS)

def oLoopN (body : Env → AHeap → OS → ORes) : Nat → Env → AHeap → OS → ORes
  | 0, _, _, _ => none
  | k + 1, σ, H, s => match body σ H s with
    | some (.norm, σ', H', s') => oLoopN body k σ' H' s'
    | r => r

def oJumpN (body : Option Nat → Env → AHeap → OS → ORes) (has : Nat → Bool) : Nat → Option Nat → Env → AHeap → OS → ORes
  | 0, _, _, _, _ => none
  | k + 1, l, σ, H, s => match body l σ H s with
    | some (.goto l', σ', H', s') => if has l' then oJumpN body has k (some l') σ' H' s' else some (.goto l', σ', H', s')
    | r => r

def oC (T : AProg) (gl : Nat) (call : OCall) (k : Nat) : ACode → Option Nat → Env → AHeap → OS → ORes
  | .skip, none, σ, H, s => some (.norm, σ, H, s)
  | .reg ops live, none, σ, H, s => match oItems T gl call ops σ H s with
    | some (σ', H', s') => some (.norm, σ'.keep live, H', s')
    | none => none
  | .regd _ ops live, none, σ, H, s => match oItems T gl call ops σ H s with
    | some (σ', H', s') => some (.norm, σ'.keep live, H', s')
    | none => none
  | .seq a b, none, σ, H, s => match oC T gl call k a none σ H s with
    | some (.norm, σ', H', s') => oC T gl call k b none σ' H' s'
    | r => r
  | .seq a b, some l, σ, H, s => if hasLabel a l then match oC T gl call k a (some l) σ H s with
      | some (.norm, σ', H', s') => oC T gl call k b none σ' H' s'
      | r => r
    else oC T gl call k b (some l) σ H s
  | .cond c a b, none, σ, H, s => match σ.rd c with
    | some (.bool x) => match s.1 with
      | .r n :: hs => match x with
        | true => oC T gl call k a none σ H (dec n hs, s.2)
        | false => oC T gl call k b none σ H (dec n hs, s.2)
      | .b true :: hs => oC T gl call k a none σ H (hs, (x = true) :: s.2)
      | .b false :: hs => oC T gl call k b none σ H (hs, (x = false) :: s.2)
      | _ => none
    | _ => none
  | .block id b, none, σ, H, s => match oC T gl call k b none σ H s with
    | some (.exit id', σ', H', s') => if id' = id then some (.norm, σ', H', s') else some (.exit id', σ', H', s')
    | r => r
  | .loop b, none, σ, H, s => oLoopN (oC T gl call k b none) k σ H s
  | .exit id, none, σ, H, s => some (.exit id, σ, H, s)
  | .scope b, none, σ, H, s => oJumpN (oC T gl call k b) (hasLabel b) k none σ H s
  | .label _, none, σ, H, s => some (.norm, σ, H, s)
  | .label l', some l, σ, H, s => if l' = l then some (.norm, σ, H, s) else none
  | .goto l, none, σ, H, s => some (.goto l, σ, H, s)
  | .ret, none, σ, H, s => some (.ret, σ, H, s)
  | _, some _, _, _, _ => none

def oFn (T : AProg) (gl : Nat) : Nat → OCall
  | 0, _, _, _, _ => none
  | k + 1, f, args, H, s => match T.prim f with
    | some p => match p args H with
      | some (v, H') => some (v, H', s)
      | none => none
    | none => match T.fn f with
      | none => none
      | some fn => if args.length ≠ fn.nargs then none else match oC T gl (oFn T gl k) k fn.body none (argEnv 0 args) H s with
        | some (.norm, σ, H', s') => match evRes σ H' fn.res with
          | some vs => some (asResult vs, H', s')
          | none => none
        | some (.ret, σ, H', s') => match evRes σ H' fn.res with
          | some vs => some (asResult vs, H', s')
          | none => none
        | _ => none
end Go.Ab

/- A call that is known over some objects is known over all. -/
namespace Go.Ab
open Go

theorem AHeap.pad_get : ∀ (k : Nat) (H : AHeap) (i : Nat), (H.pad k).get i = H.get i
  | 0, _, _ => rfl
  | k + 1, H, i => by
    unfold AHeap.pad
    rw [AHeap.pad_get]
    unfold AHeap.get
    by_cases e : i = H.next
    · subst e; simp [Tr.find_put_same]
    · simp only []
      rw [Tr.find_put_ne _ _ _ _ (fun h => e (key_inj h).symm)]
      by_cases h : i < H.next
      · rw [if_pos h, if_pos (by omega)]
      · rw [if_neg h, if_neg (by omega)]

theorem AHeap.pad_next : ∀ (k : Nat) (H : AHeap), (H.pad k).next = H.next + k
  | 0, _ => rfl
  | k + 1, H => by unfold AHeap.pad; rw [AHeap.pad_next]; simp only []; omega
theorem AHeap.pad_lo : ∀ (k : Nat) (H : AHeap), (H.pad k).lo = H.lo
  | 0, _ => rfl
  | k + 1, H => by unfold AHeap.pad; rw [AHeap.pad_lo]

theorem AHeap.puts_next : ∀ (os : List (Nat × Option AObj)) (H : AHeap), (H.puts os).next = H.next
  | [], _ => rfl
  | p :: r, H => by unfold AHeap.puts; rw [AHeap.puts_next]
theorem AHeap.puts_lo : ∀ (os : List (Nat × Option AObj)) (H : AHeap), (H.puts os).lo = H.lo
  | [], _ => rfl
  | p :: r, H => by unfold AHeap.puts; rw [AHeap.puts_lo]

theorem AHeap.put1_get (H : AHeap) (i : Nat) (o : Option AObj) (j : Nat) : ({ H with tr := Tr.put (key i) H.tr o } : AHeap).get j = if j = i then (if i < H.next then o else none) else H.get j := by
  unfold AHeap.get
  by_cases e : j = i
  · subst e; simp [Tr.find_put_same]
  · simp [e, Tr.find_put_ne _ _ _ _ (fun h => e (key_inj h).symm)]

theorem AHeap.puts_out : ∀ (os : List (Nat × Option AObj)) (H : AHeap) (i : Nat), (∀ p ∈ os, p.1 ≠ i) → (H.puts os).get i = H.get i
  | [], _, _, _ => rfl
  | p :: r, H, i, h => by
    unfold AHeap.puts
    rw [AHeap.puts_out r _ i (fun q hq => h q (List.mem_cons_of_mem _ hq)), AHeap.put1_get, if_neg (fun e => h p List.mem_cons_self e.symm)]

theorem AHeap.puts_in : ∀ (os : List (Nat × Option AObj)) (H K : AHeap) (i : Nat), H.next = K.next → (∃ p ∈ os, p.1 = i) → (H.puts os).get i = (K.puts os).get i
  | [], _, _, _, _, h => by obtain ⟨p, hp, _⟩ := h; cases hp
  | p :: r, H, K, i, hn, h => by
    unfold AHeap.puts
    by_cases hr : ∃ q ∈ r, q.1 = i
    · exact AHeap.puts_in r _ _ i hn hr
    · have hr' : ∀ q ∈ r, q.1 ≠ i := fun q hq e => hr ⟨q, hq, e⟩
      rw [AHeap.puts_out r _ i hr', AHeap.puts_out r _ i hr', AHeap.put1_get, AHeap.put1_get]
      obtain ⟨q, hq, e⟩ := h
      rcases List.mem_cons.1 hq with rfl | hq
      · rw [if_pos e.symm, if_pos e.symm, hn]
      · exact absurd e (hr' q hq)

theorem AHeap.only_get (H : AHeap) (ids : List Nat) (i : Nat) : (H.only ids).get i = if i ∈ ids then H.get i else none := by
  unfold AHeap.only
  have main : ∀ (l : List Nat) (K : AHeap), K.next = H.next → (K.puts (l.map fun i => (i, H.get i))).get i = if i ∈ l then H.get i else K.get i := by
    intro l
    induction l with
    | nil => intro K _; simp [AHeap.puts]
    | cons a r ih =>
      intro K hK
      simp only [List.map_cons, AHeap.puts]
      rw [ih ({ K with tr := Tr.put (key a) K.tr (H.get a) } : AHeap) hK, AHeap.put1_get]
      by_cases h1 : i ∈ r
      · simp [h1]
      · by_cases h2 : i = a
        · subst h2
          simp only [h1, List.mem_cons, or_false, if_true, if_false]
          by_cases h3 : i < H.next
          · rw [if_pos (by omega)]
          · rw [if_neg (by omega)]; unfold AHeap.get; rw [if_neg h3]
        · simp [h1, h2]
  rw [main ids ⟨.nil, H.next, H.lo⟩ rfl]
  split
  · rfl
  · unfold AHeap.get; split
    · exact Tr.find_nil _
    · rfl

theorem AHeap.only_next (H : AHeap) (ids : List Nat) : (H.only ids).next = H.next := by unfold AHeap.only; rw [AHeap.puts_next]
theorem AHeap.only_lo (H : AHeap) (ids : List Nat) : (H.only ids).lo = H.lo := by unfold AHeap.only; rw [AHeap.puts_lo]
theorem AHeap.over_next (H : AHeap) (os : List (Nat × Option AObj)) (n : Nat) : (H.over os n).next = H.next + (n - H.next) := by unfold AHeap.over; rw [AHeap.puts_next, AHeap.pad_next]
theorem AHeap.over_lo (H : AHeap) (os : List (Nat × Option AObj)) (n : Nat) : (H.over os n).lo = H.lo := by unfold AHeap.over; rw [AHeap.puts_lo, AHeap.pad_lo]
theorem AHeap.over_out (H : AHeap) (os : List (Nat × Option AObj)) (n i : Nat) (h : ∀ p ∈ os, p.1 ≠ i) : (H.over os n).get i = H.get i := by unfold AHeap.over; rw [AHeap.puts_out _ _ _ h, AHeap.pad_get]
theorem AHeap.over_in (H K : AHeap) (os : List (Nat × Option AObj)) (n i : Nat) (hn : H.next = K.next) (h : ∃ p ∈ os, p.1 = i) : (H.over os n).get i = (K.over os n).get i := by
  unfold AHeap.over; exact AHeap.puts_in _ _ _ _ (by rw [AHeap.pad_next, AHeap.pad_next, hn]) h

section
variable {gl : Nat} {μ ν : Mp} {H K K' : AHeap} {ids : List Nat} {os : List (Nat × Option AObj)} {n : Nat}

theorem HR.only (h : HR gl μ H K) (ids : List Nat) : HR gl μ (H.only ids) K := by
  have sub : ∀ {i o}, (H.only ids).get i = some o → H.get i = some o := by
    intro i o ho
    rw [AHeap.only_get] at ho
    split at ho
    · exact ho
    · cases ho
  refine ⟨fun i o ho => ?_, h.bnd, fun i j hj => by rw [AHeap.only_next]; exact h.bnl i j hj, fun i i' o o' j ho ho' hi hi' hl => h.inj i i' o o' j (sub ho) (sub ho') hi hi' (by rw [AHeap.only_lo] at hl; exact hl), h.glb, h.klo⟩
  obtain ⟨j, p, h1, h2, h3, h4, h5⟩ := h.obj i o (sub ho)
  exact ⟨j, p, h1, h2, h3, h4, fun hl => h5 (by rw [AHeap.only_lo] at hl; exact hl)⟩

theorem SP.frame_over (h : HR gl μ H K) (hok : overOk H ids os = true) (hs : SP gl μ (H.only ids) K ν ((H.only ids).over os n) K') : SP gl μ H K ν (H.over os n) K' := by
  have hn : (H.only ids).next = H.next := AHeap.only_next H ids
  have hok' : ∀ p ∈ os, H.lo ≤ p.1 ∧ (p.1 ∈ ids ∨ H.next ≤ p.1) := by
    intro p hp
    unfold overOk at hok
    rw [List.all_eq_true] at hok
    have := hok p hp
    simpa using this
  -- an object of the heap behind: one of those that the call knows, or one as it was
  have cases' : ∀ i o, (H.over os n).get i = some o → ((H.only ids).over os n).get i = some o ∨ (H.get i = some o ∧ i ∉ ids ∧ ∀ p ∈ os, p.1 ≠ i) := by
    intro i o ho
    by_cases hk : ∃ p ∈ os, p.1 = i
    · left; rw [← AHeap.over_in H (H.only ids) os n i hn.symm hk]; exact ho
    · have hk' : ∀ p ∈ os, p.1 ≠ i := fun p hp e => hk ⟨p, hp, e⟩
      rw [AHeap.over_out _ _ _ _ hk'] at ho
      by_cases hi : i ∈ ids
      · left; rw [AHeap.over_out _ _ _ _ hk', AHeap.only_get, if_pos hi]; exact ho
      · exact .inr ⟨ho, hi, hk'⟩
  have sub : ∀ {i o}, (H.only ids).get i = some o → H.get i = some o ∧ i ∈ ids := by
    intro i o ho
    rw [AHeap.only_get] at ho
    split at ho
    · rename_i hi; exact ⟨ho, hi⟩
    · cases ho
  have lo : (H.over os n).lo = H.lo := AHeap.over_lo H os n
  have lo' : ((H.only ids).over os n).lo = H.lo := by rw [AHeap.over_lo, AHeap.only_lo]
  -- those that the call knows and the others do not meet
  have apart : ∀ i o i' o' j, ((H.only ids).over os n).get i = some o → H.get i' = some o' → i' ∉ ids → ν none i = some j → ν none i' = some j → (H.lo ≤ i ∨ H.lo ≤ i') → False := by
    intro i o i' o' j ho ho' hi' hj hj' hlo
    obtain ⟨j', p, h1, h2, _⟩ := h.obj i' o' ho'
    have e := hs.ext _ _ _ h1
    rw [hj'] at e; cases e
    by_cases hl : H.lo ≤ i
    · rcases hs.own i o j (by rw [AHeap.only_lo]; exact hl) ho hj with h3 | ⟨i0, o0, a, b, c⟩
      · have := h.bnd _ _ _ h1; omega
      · have := sub b
        rw [AHeap.only_lo] at a
        have e := h.inj i0 i' o0 o' j this.1 ho' c h1 a
        exact hi' (e ▸ this.2)
    · have hk : ∀ p ∈ os, p.1 ≠ i := fun p hp e => hl (e ▸ (hok' p hp).1)
      rw [AHeap.over_out _ _ _ _ hk] at ho
      have := sub ho
      obtain ⟨j2, p2, g1, _⟩ := h.obj i o this.1
      have e := hs.ext _ _ _ g1
      rw [hj] at e; cases e
      have hl' : H.lo ≤ i' := by rcases hlo with h | h; exact absurd h hl; exact h
      exact hi' ((h.inj i' i o' o j ho' this.1 h1 g1 hl') ▸ this.2)
  refine ⟨⟨?_, hs.hr.bnd, ?_, ?_, hs.hr.glb, hs.hr.klo⟩, hs.ext, lo, hs.klo, ?_, hs.knext, ?_, ?_, hs.spot⟩
  · intro i o ho
    rcases cases' i o ho with h1 | ⟨h1, h2, h3⟩
    · obtain ⟨j, p, g1, g2, g3, g4, g5⟩ := hs.hr.obj i o h1
      exact ⟨j, p, g1, g2, g3, g4, fun hl => g5 (by rw [lo']; rw [lo] at hl; exact hl)⟩
    · obtain ⟨j, p, g1, g2, g3, g4, g5⟩ := h.obj i o h1
      refine ⟨j, p, hs.ext _ _ _ g1, ?_, g3, g4.mono hs.ext, fun hl => by rw [hs.klo]; exact g5 (by rw [lo] at hl; exact hl)⟩
      rw [hs.frame j (h.bnd _ _ _ g1) ?_, g2]
      intro i0 o0 hl0 ho0 e
      rw [AHeap.only_lo] at hl0
      have := sub ho0
      exact h2 ((h.inj i0 i o0 o j this.1 h1 e g1 hl0) ▸ this.2)
  · intro i j hj
    have := hs.hr.bnl i j hj
    rw [AHeap.over_next, hn] at this
    rw [AHeap.over_next]; exact this
  · intro i i' o o' j ho ho' hi hi' hl
    rw [lo] at hl
    rcases cases' i o ho with h1 | ⟨h1, h2, h3⟩
    · rcases cases' i' o' ho' with g1 | ⟨g1, g2, g3⟩
      · exact hs.hr.inj i i' o o' j h1 g1 hi hi' (by rw [lo']; exact hl)
      · exact (apart i o i' o' j h1 g1 g2 hi hi' (.inl hl)).elim
    · rcases cases' i' o' ho' with g1 | ⟨g1, g2, g3⟩
      · exact (apart i' o' i o j g1 h1 h2 hi' hi (.inr hl)).elim
      · obtain ⟨j1, _, e1, _⟩ := h.obj i o h1
        obtain ⟨j2, _, e2, _⟩ := h.obj i' o' g1
        have a1 := hs.ext _ _ _ e1
        have a2 := hs.ext _ _ _ e2
        rw [hi] at a1; cases a1
        rw [hi'] at a2; cases a2
        exact h.inj i i' o o' j h1 g1 e1 e2 hl
  · rw [AHeap.over_next]; omega
  · intro j hj hno
    refine hs.frame j hj fun i o hl ho => ?_
    rw [AHeap.only_lo] at hl
    exact hno i o hl (sub ho).1
  · intro i o j hl ho hi
    rcases cases' i o ho with h1 | ⟨h1, h2, h3⟩
    · rcases hs.own i o j (by rw [AHeap.only_lo]; exact hl) h1 hi with h3 | ⟨i0, o0, a, b, c⟩
      · exact .inl h3
      · rw [AHeap.only_lo] at a; exact .inr ⟨i0, o0, a, (sub b).1, c⟩
    · obtain ⟨j1, _, e1, _⟩ := h.obj i o h1
      have a1 := hs.ext _ _ _ e1
      rw [hi] at a1; cases a1
      exact .inr ⟨i, o, hl, h1, e1⟩
end

/-- A call that is known over some objects is known over all. -/
theorem RC.frame {T : AProg} {gl : Nat} {f : FuncId} {vs : List Value} {H : AHeap} {ids : List Nat} {os : List (Nat × Option AObj)} {n : Nat} {u : Value} (hok : overOk H ids os = true)
    (h : RC T gl f vs (H.only ids) u ((H.only ids).over os n)) : RC T gl f vs H u (H.over os n) := by
  intro μ K us hr hl
  obtain ⟨k, u', ν, K', h1, h2, h3⟩ := h μ K us (hr.only ids) hl
  exact ⟨k, u', ν, K', h1, h2.frame_over hr hok, h3⟩
end Go.Ab

/- What the told evaluator comes to, the code comes to in each heap that holds the one, if what was told holds. -/
namespace Go.Ab
open Go

def OCallOk (T : AProg) (gl : Nat) (call : OCall) : Prop := ∀ f vs H s v H' s', call f vs H s = some (v, H', s') → AllP s'.2 → AllP s.2 ∧ RC T gl f vs H v H'

/-- What an operation comes to in each heap that holds the one. -/
def RO (T : AProg) (gl : Nat) (op : AOp) (σ : Env) (H : AHeap) (v : Value) (H' : AHeap) : Prop := ∀ μ K τ, HR gl μ H K → ER μ σ τ →
  ∃ k u ν K', evOp (evFn T k) T.meth τ K op = some (u, K') ∧ SP gl μ H K ν H' K' ∧ SV ν v u
def RI (T : AProg) (gl : Nat) (it : AItem) (σ : Env) (H : AHeap) (v : Value) (H' : AHeap) : Prop := ∀ μ K τ, HR gl μ H K → ER μ σ τ →
  ∃ k u ν K', evItem (evFn T k) T.meth τ K it = some (u, K') ∧ SP gl μ H K ν H' K' ∧ SV ν v u
def RIs (T : AProg) (gl : Nat) (its : List AItem) (σ : Env) (H : AHeap) (σ' : Env) (H' : AHeap) : Prop := ∀ μ K τ, HR gl μ H K → ER μ σ τ →
  ∃ k ν τ' K', evItems (evFn T k) T.meth its τ K = some (τ', K') ∧ SP gl μ H K ν H' K' ∧ ER ν σ' τ'

section
variable {T : AProg} {gl : Nat} {call : OCall} {σ : Env} {H : AHeap}

theorem noCall_le (c : ACall) : ACall.le noCall c := fun _ _ _ _ h => by cases h

theorem RO.of_ev (hT : SProg gl T) {op : AOp} (hop : opOk gl op = true) {v : Value} {H' : AHeap} (h : ∃ k, evOp (evFn T k) T.meth σ H op = some (v, H')) : RO T gl op σ H v H' := by
  obtain ⟨k, h⟩ := h
  intro μ K τ hr he
  obtain ⟨u, ν, K', h1, h2, h3⟩ := evOp_sv (evFn_sv hT k) hr he hop h
  exact ⟨k, u, ν, K', h1, h2, h3⟩

theorem oSpec_ok (hT : SProg gl T) {h : Hint} {op : AOp} (hop : opOk gl op = true) {v : Value} {H' : AHeap} {p : Prop} (hs : oSpec T gl σ H h op = some (v, H', p)) (hp : p) : RO T gl op σ H v H' := by
  have ex : (∃ k, evOp (evFn T k) T.meth σ H op = some (v, H')) → RO T gl op σ H v H' := RO.of_ev hT hop
  unfold oSpec at hs
  split at hs
  · -- b
    split at hs
    · split at hs
      · rename_i c a b x hc
        split at hs
        · rename_i w hw
          cases hs
          subst hp
          refine ex ⟨0, ?_⟩
          cases x
          · rw [if_neg (by decide)] at hw; simp only [evOp, hc, hw]
          · rw [if_pos rfl] at hw; simp only [evOp, hc, hw]
        · cases hs
      · cases hs
    · cases hs
  · -- g
    split at hs
    · split at hs
      · rename_i arr size x i k n hi
        split at hs
        · split at hs
          · rename_i hx; cases hs; exact ex ⟨0, by simp only [evOp, hi, hx, if_pos hp]⟩
          · cases hs
        · split at hs
          · rename_i hx; cases hs; exact ex ⟨0, by simp only [evOp, hi, hx, if_pos hp]⟩
          · cases hs
      · cases hs
    · cases hs
  · -- ld
    split at hs
    · split at hs
      · rename_i hx
        split at hs
        · rename_i o ho; cases hs; exact ex ⟨0, by simp only [evOp, hx, aLoad, ho, hp]⟩
        · cases hs
      · cases hs
    · split at hs
      · rename_i hx
        split at hs
        · rename_i o ho
          split at hs
          · cases hs; exact ex ⟨0, by simp only [evOp, hx, aLoad, AHeap.read, ho, hp, Array.toArray_toList]⟩
          · cases hs
        · cases hs
      · cases hs
    · split at hs
      · rename_i hx hi; cases hs; exact ex ⟨0, by simp only [evOp, hx, hi, if_pos hp.1, hp.2]⟩
      · cases hs
    · split at hs
      · rename_i ha hb; cases hs; exact ex ⟨0, by simp only [evOp, ha, hb, hp]⟩
      · cases hs
    · cases hs
  · -- st
    split at hs
    · split at hs
      · rename_i ha hx
        split at hs
        · rename_i o ho; cases hs
          obtain ⟨h1, h2⟩ := hp
          exact ex ⟨0, by simp only [evOp, ha, hx, ho, if_pos h1, h2]⟩
        · cases hs
      · cases hs
    · cases hs
  · -- sl
    split at hs
    · split at hs
      · rename_i hx hlo hhi
        split at hs
        · rename_i w hw; cases hs; exact ex ⟨0, by simp only [evOp, hx, hlo, hhi, hp, hw]⟩
        · cases hs
      · cases hs
    · cases hs
  · -- ap
    split at hs
    · split at hs
      · rename_i hx hy
        split at hs
        · rename_i q hq
          split at hs
          · cases hs
            obtain ⟨hm, ⟨hr, c1, c2, c3, c4, c5⟩, hn⟩ := hp
            refine ex ⟨0, ?_⟩
            subst hn
            simp only [evOp, hx, hy, aAppend, if_neg hm, AHeap.read, hq, hr, Option.any_some, c4, c5, c1, c2, c3, decide_true, Bool.and_self, beq_self_eq_true, Bool.not_true, Bool.false_eq_true, if_false, if_true]
          · split at hs
            · rename_i o ho
              cases hs
              obtain ⟨hm, ⟨news, hr, ⟨c1, c2, c3, c4, c5⟩, hcs⟩, hc⟩ := hp
              refine ex ⟨0, ?_⟩
              simp only [evOp, hx, hy, aAppend, if_neg hm, AHeap.read, hq, hr, Option.any_some, c4, c5, c1, c2, c3, decide_true, Bool.and_self, beq_self_eq_true, Bool.not_true, Bool.false_eq_true, if_false, ho, if_pos hc, hcs]
            · cases hs
          · cases hs
        · cases hs
      · cases hs
    · split at hs
      · rename_i hl; cases hs
        obtain ⟨h1, h2⟩ := hp
        exact ex ⟨0, by simp only [evOp, hl, if_pos h1, h2]⟩
      · cases hs
    · cases hs
  · -- a0
    split at hs
    · split at hs
      · rename_i hx hy; cases hs; exact ex ⟨0, by simp only [evOp, hx, hy, aAppend, if_pos hp]⟩
      · cases hs
    · cases hs
  · -- k
    split at hs
    · split at hs
      · rename_i hv; cases hs
        obtain ⟨k, w, H1, h1, h2, rfl⟩ := hp
        exact ex ⟨k, by simp only [evOp, hv, h1, h2, if_true]⟩
      · cases hs
    · cases hs
  · -- kq
    split at hs
    · split at hs
      · rename_i hv; cases hs
        obtain ⟨k, w, H1, h1, h2, rfl⟩ := hp H (by
          intro p hp'
          rw [List.mem_map] at hp'
          obtain ⟨i, _, rfl⟩ := hp'
          rfl)
        exact ex ⟨k, by simp only [evOp, hv, h1, h2, if_true]⟩
      · cases hs
    · cases hs
  · -- kc
    split at hs
    · split at hs
      · rename_i f args vs hv
        split at hs
        · rename_i hok
          cases hs
          intro μ K τ hr he
          simp only [opOk, AOp.opds, Bool.and_eq_true] at hop
          obtain ⟨us, hus, h1⟩ := he.rds hr hop.1 hv
          obtain ⟨k, u', ν, K', h2, h3, h4⟩ := hp.frame hok μ K us hr h1
          exact ⟨k, u', ν, K', by simp only [evOp, hus, h2], h3, h4⟩
        · cases hs
      · cases hs
    · split at hs
      · rename_i m x args t w vs hx hv
        split at hs
        · rename_i f hf
          split at hs
          · rename_i hok
            cases hs
            intro μ K τ hr he
            simp only [opOk, AOp.opds, List.all_cons, Bool.and_eq_true] at hop
            obtain ⟨x', hx', h0⟩ := he.rd hr hop.1.1 hx
            obtain ⟨us, hus, h1⟩ := he.rds hr hop.1.2 hv
            cases h0 with
            | iface _ _ w' hw =>
            obtain ⟨k, u', ν, K', h2, h3, h4⟩ := hp.frame hok μ K (w' :: us) hr (.cons hw h1)
            exact ⟨k, u', ν, K', by simp only [evOp, hx', hus, hf, h2], h3, h4⟩
          · cases hs
        · cases hs
      · cases hs
    · cases hs
  · cases hs

theorem HR.bare (gl : Nat) : HR gl (fun s i => if s = none ∧ i < gl then some i else none) ⟨.nil, gl, gl⟩ ⟨.nil, gl, gl⟩ where
  obj i o ho := by rw [get_nil] at ho; cases ho
  bnd s i j hj := by
    split at hj
    · rename_i h; cases hj; exact h.2
    · cases hj
  bnl i j hj := by
    split at hj
    · rename_i h; exact h.2
    · cases hj
  inj i i' o o' j ho := by rw [get_nil] at ho; cases ho
  glb g hg := by rw [if_pos ⟨rfl, hg⟩]
  klo := Nat.le_refl _

theorem oPlain_ok (hT : SProg gl T) (hc : OCallOk T gl call) {op : AOp} (hop : opOk gl op = true) {s s' : OS} {v : Value} {H' : AHeap} (h : oPlain call T.meth σ H s op = some (v, H', s')) (hp : AllP s'.2) :
    AllP s.2 ∧ RO T gl op σ H v H' := by
  unfold oPlain at h
  split at h
  · split at h
    · rename_i hv
      obtain ⟨h1, h2⟩ := hc _ _ _ _ _ _ _ h hp
      refine ⟨h1, fun μ K τ hr he => ?_⟩
      simp only [opOk, AOp.opds, Bool.and_eq_true] at hop
      obtain ⟨us, hus, g1⟩ := he.rds hr hop.1 hv
      obtain ⟨k, u, ν, K', g2, g3, g4⟩ := h2 μ K us hr g1
      exact ⟨k, u, ν, K', by simp only [evOp, hus, g2], g3, g4⟩
    · cases h
  · split at h
    · rename_i hv
      split at h
      · rename_i w H1 s1 hw
        obtain ⟨hcl, e⟩ := ite_some h
        cases e
        obtain ⟨h1, h2⟩ := hc _ _ _ _ _ _ _ hw hp
        refine ⟨h1, fun μ K τ hr he => ?_⟩
        simp only [opOk, AOp.opds, Bool.and_eq_true] at hop
        obtain ⟨us, hus, g1⟩ := he.rds hr hop.1 hv
        obtain ⟨k, u, ν, K', g2, g3, g4⟩ := h2 μ K.froz us hr.froz g1
        have e := closedIn_seq 4 _ _ hcl g4
        subst e
        exact ⟨k, u, μ, K, by simp only [evOp, hus, g2, hcl, if_true], .refl hr, closedIn_sv μ 4 _ hcl⟩
      · cases h
    · cases h
  · split at h
    · rename_i hv
      split at h
      · rename_i w H1 s1 hw
        obtain ⟨hcl, e⟩ := ite_some h
        cases e
        obtain ⟨h1, h2⟩ := hc _ _ _ _ _ _ _ hw hp
        refine ⟨h1, fun μ K τ hr he => ?_⟩
        simp only [opOk, AOp.opds, Bool.and_eq_true] at hop
        obtain ⟨us, hus, g1⟩ := he.rds hr hop.1 hv
        rw [Bool.and_eq_true] at hcl
        have e := g1.eq_closed hcl.2
        subst e
        have eg := hop.2
        simp only [zeroOk, decide_eq_true_eq] at eg
        subst eg
        obtain ⟨k, u, ν, K', g2, g3, g4⟩ := h2 _ _ us (HR.bare _) (lsv_closed _ 4 us hcl.2)
        have e := closedIn_seq 4 _ _ hcl.1 g4
        subst e
        exact ⟨k, u, μ, K, by simp only [evOp, hus, g2, hcl.1, hcl.2, Bool.and_self, if_true], .refl hr, closedIn_sv μ 4 _ hcl.1⟩
      · cases h
    · cases h
  · split at h
    · rename_i hx hv
      split at h
      · rename_i f hf
        obtain ⟨h1, h2⟩ := hc _ _ _ _ _ _ _ h hp
        refine ⟨h1, fun μ K τ hr he => ?_⟩
        simp only [opOk, AOp.opds, List.all_cons, Bool.and_eq_true] at hop
        obtain ⟨x', hx', h0⟩ := he.rd hr hop.1.1 hx
        obtain ⟨us, hus, g1⟩ := he.rds hr hop.1.2 hv
        cases h0 with
        | iface _ _ w' hw =>
        obtain ⟨k, u, ν, K', g2, g3, g4⟩ := h2 μ K (w' :: us) hr (.cons hw g1)
        exact ⟨k, u, ν, K', by simp only [evOp, hx', hus, hf, g2], g3, g4⟩
      · cases h
    · cases h
  · split at h
    · rename_i hx hv
      obtain ⟨h1, h2⟩ := hc _ _ _ _ _ _ _ h hp
      refine ⟨h1, fun μ K τ hr he => ?_⟩
      simp only [opOk, AOp.opds, List.all_cons, Bool.and_eq_true] at hop
      obtain ⟨x', hx', h0⟩ := he.rd hr hop.1.1 hx
      obtain ⟨us, hus, g1⟩ := he.rds hr hop.1.2 hv
      cases h0 with
      | func _ _ _ a' c' a1 a2 a3 a4 =>
      obtain ⟨k, u, ν, K', g2, g3, g4⟩ := h2 μ K (a'.toList ++ us ++ c'.toList) hr (((ASV.lsv ⟨a1, a2⟩).append g1).append (ASV.lsv ⟨a3, a4⟩))
      exact ⟨k, u, ν, K', by simp only [evOp, hx', hus, g2], g3, g4⟩
    · cases h
  · split at h
    · rename_i w H1 hw
      cases h
      exact ⟨hp, RO.of_ev hT hop ⟨0, evOp_mono (noCall_le _) hw⟩⟩
    · cases h

theorem oBare_ok (hT : SProg gl T) (hc : OCallOk T gl call) {op : AOp} (hop : opOk gl op = true) {s s' : OS} {v : Value} {H' : AHeap} (h : oBare T gl call σ H s op = some (v, H', s')) (hp : AllP s'.2) :
    AllP s.2 ∧ RO T gl op σ H v H' := by
  unfold oBare at h
  split at h
  · cases h
  · rename_i n hs _
    exact oPlain_ok (s := (dec n hs, s.2)) hT hc hop h hp
  · split at h
    · rename_i w H1 hw
      cases h
      obtain ⟨rfl, h1⟩ := hp
      exact ⟨h1, RO.of_ev hT hop ⟨0, evOp_mono (noCall_le _) hw⟩⟩
    · cases h
  · split at h
    · rename_i w H1 p hw
      cases h
      exact ⟨hp.2, oSpec_ok hT hop hw hp.1⟩
    · cases h

theorem heldPs_ok {H' : AHeap} : ∀ {ds : List (Option Nat × AOpd)} {ps : List Prop}, heldPs σ H H' ds = some ps → AllP ps → ds.all (heldB σ H H') = true
  | [], ps, _, _ => rfl
  | d :: ds, ps, h, hp => by
    simp only [heldPs] at h
    split at h
    · cases h
    · rename_i p hx
      split at h
      · cases h
      · rename_i u hu
        split at h
        · cases h
        · rename_i u' hu'
          split at h
          · cases h
          · rename_i qs hqs
            cases h
            simp only [List.all_cons, Bool.and_eq_true]
            refine ⟨?_, heldPs_ok hqs hp.2⟩
            simp only [heldB, hx, hu, hu', hp.1]

theorem oOp_ok (hT : SProg gl T) (hc : OCallOk T gl call) {op : AOp} (hop : opOk gl op = true) {s s' : OS} {v : Value} {H' : AHeap} (h : oOp T gl call σ H s op = some (v, H', s')) (hp : AllP s'.2) :
    AllP s.2 ∧ RO T gl op σ H v H' := by
  unfold oOp at h
  split at h
  · split at h
    · rename_i ds op _ hs hh
      split at h
      · rename_i w H1 s1 hw
        split at h
        · rename_i ps hps
          cases h
          obtain ⟨h1, h2⟩ := hp
          have hop' := hop
          simp only [opOk, AOp.opds, zeroOk, List.all_append, Bool.and_eq_true] at hop'
          obtain ⟨h3, h4⟩ := oBare_ok hT hc (by simp only [opOk, Bool.and_eq_true]; exact ⟨hop'.1.1, hop'.2⟩) hw h2
          refine ⟨h3, fun μ K τ hr he => ?_⟩
          obtain ⟨k, u, ν, K', g1, g2, g3⟩ := h4 μ K τ hr he
          have hd := heldPs_ok hps h1
          have hd' : ds.all (heldB τ K K') = true := by
            rw [List.all_eq_true] at hd ⊢
            intro d hdm
            refine heldB_sv hr g2.hr g2.ext he ?_ (hd d hdm)
            have := hop'.1.2
            rw [List.all_eq_true] at this
            exact this _ (List.mem_map.2 ⟨d, hdm, rfl⟩)
          exact ⟨k, u, ν, K', by simp only [evOp, g1, hd', if_true], g2, g3⟩
        · cases h
      · cases h
    · cases h
  · exact oBare_ok hT hc hop h hp

theorem oItem_ok (hT : SProg gl T) (hc : OCallOk T gl call) {it : AItem} (hop : opOk gl it.op = true) {s s' : OS} {v : Value} {H' : AHeap} (h : oItem T gl call σ H s it = some (v, H', s')) (hp : AllP s'.2) :
    AllP s.2 ∧ RI T gl it σ H v H' := by
  have go : ∀ {s : OS}, oOp T gl call σ H s it.op = some (v, H', s') → AllP s.2 ∧ RO T gl it.op σ H v H' := fun h => oOp_ok hT hc hop h hp
  unfold oItem at h
  split at h
  · rename_i hg
    obtain ⟨h1, h2⟩ := go h
    refine ⟨h1, fun μ K τ hr he => ?_⟩
    obtain ⟨k, u, ν, K', g1, g2, g3⟩ := h2 μ K τ hr he
    exact ⟨k, u, ν, K', by unfold evItem; simp only [hg]; exact g1, g2, g3⟩
  · rename_i g want hg
    split at h
    · rename_i b hb
      have yes : b = want → RO T gl it.op σ H v H' → RI T gl it σ H v H' := by
        intro e h2 μ K τ hr he
        obtain ⟨u0, hu0, h0⟩ := he.find hb
        cases bool_sv h0
        obtain ⟨k, u, ν, K', g1, g2, g3⟩ := h2 μ K τ hr he
        exact ⟨k, u, ν, K', by unfold evItem; simp only [hg, hu0, if_pos e]; exact g1, g2, g3⟩
      have no : ¬ b = want → v = undef → H' = H → RI T gl it σ H v H' := by
        rintro e rfl rfl μ K τ hr he
        obtain ⟨u0, hu0, h0⟩ := he.find hb
        cases bool_sv h0
        exact ⟨0, undef, μ, K, by unfold evItem; simp only [hg, hu0, if_neg e], .refl hr, undef_sv⟩
      split at h
      · split at h
        · rename_i e
          obtain ⟨h1, h2⟩ := go h
          exact ⟨h1, yes e h2⟩
        · rename_i e; cases h
          exact ⟨hp, no e rfl rfl⟩
      · split at h
        · rename_i e
          obtain ⟨h1, h2⟩ := go h
          exact ⟨h1.2, yes (h1.1.trans e) h2⟩
        · rename_i e; cases h
          exact ⟨hp.2, no (fun x => e (hp.1.symm.trans x)) rfl rfl⟩
      · cases h
    · cases h

theorem oItems_ok (hT : SProg gl T) (hc : OCallOk T gl call) : ∀ {its : List AItem}, (its.all fun it => opOk gl it.op) = true → ∀ {σ : Env} {H : AHeap} {s s' : OS} {σ' : Env} {H' : AHeap}, oItems T gl call its σ H s = some (σ', H', s') → AllP s'.2 →
    AllP s.2 ∧ RIs T gl its σ H σ' H'
  | [], _, σ, H, s, s', σ', H', h, hp => by
    simp only [oItems, Option.some.injEq, Prod.mk.injEq] at h
    obtain ⟨rfl, rfl, rfl⟩ := h
    exact ⟨hp, fun μ K τ hr he => ⟨0, μ, τ, K, rfl, .refl hr, he⟩⟩
  | it :: its, hok, σ, H, s, s', σ', H', h, hp => by
    simp only [List.all_cons, Bool.and_eq_true] at hok
    simp only [oItems] at h
    split at h
    · rename_i v H1 s1 hv
      obtain ⟨h1, h2⟩ := oItems_ok hT hc hok.2 h hp
      obtain ⟨h3, h4⟩ := oItem_ok hT hc hok.1 hv h1
      refine ⟨h3, fun μ K τ hr he => ?_⟩
      obtain ⟨k', u, ν, K1, g1, g2, g3⟩ := h4 μ K τ hr he
      obtain ⟨k, ξ, τ', K', g4, g5, g6⟩ := h2 ν K1 _ g2.hr ((he.mono g2.ext).putO g3)
      refine ⟨max k k', ξ, τ', K', ?_, g2.trans g5, g6⟩
      rw [evItems_cons, evItem_mono (evFn_mono T k' (max k k') (Nat.le_max_right _ _)) g1]
      exact evItems_mono (evFn_mono T k (max k k') (Nat.le_max_left _ _)) g4
    · cases h

/-- What a told body comes to, its code comes to in each heap that holds the one. -/
def RB (gl : Nat) (b : Nat → Env → AHeap → ARes) (σ : Env) (H : AHeap) (ex : AEx) (σ' : Env) (H' : AHeap) : Prop := ∀ μ K τ, HR gl μ H K → ER μ σ τ →
  ∃ k ν τ' K', b k τ K = some (ex, τ', K') ∧ SP gl μ H K ν H' K' ∧ ER ν σ' τ'
def OBody (gl : Nat) (ob : Env → AHeap → OS → ORes) (b : Nat → Env → AHeap → ARes) : Prop := ∀ σ H s ex σ' H' s', ob σ H s = some (ex, σ', H', s') → AllP s'.2 →
  AllP s.2 ∧ RB gl b σ H ex σ' H'

theorem oLoop_ok {ob : Env → AHeap → OS → ORes} {b : Nat → Env → AHeap → ARes} (hb : OBody gl ob b) (hm : ∀ k k' σ H r, k ≤ k' → b k σ H = some r → b k' σ H = some r) : ∀ n, OBody gl (oLoopN ob n) (fun k => loopN (b k) k)
  | 0 => fun σ H s ex σ' H' s' h _ => by simp [oLoopN] at h
  | n + 1 => fun σ H s ex σ' H' s' h hp => by
    simp only [oLoopN] at h
    split at h
    · rename_i σ1 H1 s1 h1
      obtain ⟨g1, g2⟩ := oLoop_ok hb hm n _ _ _ _ _ _ _ h hp
      obtain ⟨g3, g4⟩ := hb _ _ _ _ _ _ _ h1 g1
      refine ⟨g3, fun μ K τ hr he => ?_⟩
      obtain ⟨k', ν, τ1, K1, e1, e2, e3⟩ := g4 μ K τ hr he
      obtain ⟨k, ξ, τ', K', e4, e5, e6⟩ := g2 ν K1 τ1 e2.hr e3
      refine ⟨max k k' + 1, ξ, τ', K', ?_, e2.trans e5, e6⟩
      simp only [loopN, hm _ _ _ _ _ (show k' ≤ max k k' + 1 by omega) e1]
      exact loopN_mono (fun σ H r hr => hm _ _ _ _ _ (by omega) hr) k (max k k') (Nat.le_max_left _ _) e4
    · rename_i hne
      obtain ⟨g3, g4⟩ := hb _ _ _ _ _ _ _ h hp
      refine ⟨g3, fun μ K τ hr he => ?_⟩
      obtain ⟨k', ν, τ1, K1, e1, e2, e3⟩ := g4 μ K τ hr he
      refine ⟨k' + 1, ν, τ1, K1, ?_, e2, e3⟩
      simp only [loopN, hm _ _ _ _ _ (Nat.le_succ k') e1]
      cases ex with
      | norm => exact absurd h (hne _ _ _)
      | _ => rfl

theorem oJump_ok {ob : Option Nat → Env → AHeap → OS → ORes} {b : Nat → Option Nat → Env → AHeap → ARes} {has : Nat → Bool} (hb : ∀ l, OBody gl (ob l) (fun k => b k l)) (hm : ∀ k k' l σ H r, k ≤ k' → b k l σ H = some r → b k' l σ H = some r) :
    ∀ n l, OBody gl (oJumpN ob has n l) (fun k => jumpN (b k) has k l)
  | 0, l => fun σ H s ex σ' H' s' h _ => by simp [oJumpN] at h
  | n + 1, l => fun σ H s ex σ' H' s' h hp => by
    simp only [oJumpN] at h
    split at h
    · rename_i l' σ1 H1 s1 h1
      split at h
      · rename_i hl
        obtain ⟨g1, g2⟩ := oJump_ok hb hm n (some l') _ _ _ _ _ _ _ h hp
        obtain ⟨g3, g4⟩ := hb l _ _ _ _ _ _ _ h1 g1
        refine ⟨g3, fun μ K τ hr he => ?_⟩
        obtain ⟨k', ν, τ1, K1, e1, e2, e3⟩ := g4 μ K τ hr he
        obtain ⟨k, ξ, τ', K', e4, e5, e6⟩ := g2 ν K1 τ1 e2.hr e3
        refine ⟨max k k' + 1, ξ, τ', K', ?_, e2.trans e5, e6⟩
        simp only [jumpN, hm _ _ _ _ _ _ (show k' ≤ max k k' + 1 by omega) e1, hl, if_true]
        exact jumpN_mono (fun l σ H r hr => hm _ _ _ _ _ _ (by omega) hr) k (max k k') (Nat.le_max_left _ _) e4
      · rename_i hl
        cases h
        obtain ⟨g3, g4⟩ := hb l _ _ _ _ _ _ _ h1 hp
        refine ⟨g3, fun μ K τ hr he => ?_⟩
        obtain ⟨k', ν, τ1, K1, e1, e2, e3⟩ := g4 μ K τ hr he
        refine ⟨k' + 1, ν, τ1, K1, ?_, e2, e3⟩
        simp only [jumpN, hm _ _ _ _ _ _ (Nat.le_succ k') e1, if_neg hl]
    · rename_i hne
      obtain ⟨g3, g4⟩ := hb l _ _ _ _ _ _ _ h hp
      refine ⟨g3, fun μ K τ hr he => ?_⟩
      obtain ⟨k', ν, τ1, K1, e1, e2, e3⟩ := g4 μ K τ hr he
      refine ⟨k' + 1, ν, τ1, K1, ?_, e2, e3⟩
      simp only [jumpN, hm _ _ _ _ _ _ (Nat.le_succ k') e1]
      cases ex with
      | goto l => exact absurd h (hne _ _ _ _)
      | _ => rfl

theorem oC_ok (hT : SProg gl T) (hc : OCallOk T gl call) (n : Nat) : ∀ (c : ACode), codeOk gl c = true → ∀ (l : Option Nat), OBody gl (oC T gl call n c l) (fun k => evC (evFn T k) T.meth k c l) := by
  intro c
  have hm : ∀ (c : ACode) (k k' : Nat) (l : Option Nat) (σ : Env) (H : AHeap) (r : AEx × Env × AHeap), k ≤ k' → evC (evFn T k) T.meth k c l σ H = some r → evC (evFn T k') T.meth k' c l σ H = some r :=
    fun c k k' l σ H r hk h => lift2 h hk
  have here : ∀ {l : Option Nat} {c : ACode} {ex : AEx} {σ : Env} {H : AHeap}, (∀ τ K, evC (evFn T 0) T.meth 0 c l τ K = some (ex, τ, K)) → RB gl (fun k => evC (evFn T k) T.meth k c l) σ H ex σ H :=
    fun h μ K τ hr he => ⟨0, μ, τ, K, h τ K, .refl hr, he⟩
  induction c with
  | skip =>
    intro _ l σ H s ex σ' H' s' h hp
    cases l <;> simp only [oC, Option.some.injEq, Prod.mk.injEq, reduceCtorEq] at h
    obtain ⟨rfl, rfl, rfl, rfl⟩ := h
    exact ⟨hp, here fun _ _ => rfl⟩
  | reg its live =>
    intro hok l σ H s ex σ' H' s' h hp
    cases l with
    | some l => simp [oC] at h
    | none =>
      simp only [oC] at h
      split at h
      · rename_i σ1 H1 s1 h1; cases h
        obtain ⟨g1, g2⟩ := oItems_ok hT hc hok h1 hp
        refine ⟨g1, fun μ K τ hr he => ?_⟩
        obtain ⟨k, ν, τ', K', e1, e2, e3⟩ := g2 μ K τ hr he
        exact ⟨k, ν, _, K', by simp only [evC, e1], e2, e3.keep live⟩
      · cases h
  | regd ord its live =>
    intro hok l σ H s ex σ' H' s' h hp
    cases l with
    | some l => simp [oC] at h
    | none =>
      simp only [oC] at h
      split at h
      · rename_i σ1 H1 s1 h1; cases h
        obtain ⟨g1, g2⟩ := oItems_ok hT hc hok h1 hp
        refine ⟨g1, fun μ K τ hr he => ?_⟩
        obtain ⟨k, ν, τ', K', e1, e2, e3⟩ := g2 μ K τ hr he
        exact ⟨k, ν, _, K', by simp only [evC, e1], e2, e3.keep live⟩
      · cases h
  | seq x y ihx ihy =>
    intro hok
    simp only [codeOk, Bool.and_eq_true] at hok
    have both : ∀ l, OBody gl (fun σ H s => match oC T gl call n x l σ H s with
          | some (.norm, σ', H', s') => oC T gl call n y none σ' H' s'
          | r => r) (fun k σ H => match evC (evFn T k) T.meth k x l σ H with
          | some (.norm, σ₁, H₁) => evC (evFn T k) T.meth k y none σ₁ H₁
          | r => r) := by
      intro l σ H s ex σ' H' s' h hp
      simp only [] at h ⊢
      split at h
      · rename_i σ1 H1 s1 h1
        obtain ⟨g1, g2⟩ := ihy hok.2 none _ _ _ _ _ _ _ h hp
        obtain ⟨g3, g4⟩ := ihx hok.1 l _ _ _ _ _ _ _ h1 g1
        refine ⟨g3, fun μ K τ hr he => ?_⟩
        obtain ⟨k', ν, τ1, K1, e1, e2, e3⟩ := g4 μ K τ hr he
        obtain ⟨k, ξ, τ', K', e4, e5, e6⟩ := g2 ν K1 τ1 e2.hr e3
        refine ⟨max k k', ξ, τ', K', ?_, e2.trans e5, e6⟩
        simp only [hm x _ _ _ _ _ _ (Nat.le_max_right k k') e1]
        exact hm y _ _ _ _ _ _ (Nat.le_max_left k k') e4
      · rename_i hne
        obtain ⟨g3, g4⟩ := ihx hok.1 l _ _ _ _ _ _ _ h hp
        refine ⟨g3, fun μ K τ hr he => ?_⟩
        obtain ⟨k', ν, τ1, K1, e1, e2, e3⟩ := g4 μ K τ hr he
        refine ⟨k', ν, τ1, K1, ?_, e2, e3⟩
        simp only [e1]
        cases ex with
        | norm => exact absurd h (hne _ _ _)
        | _ => rfl
    intro l σ H s ex σ' H' s' h hp
    cases l with
    | none =>
      simp only [oC] at h
      obtain ⟨g1, g2⟩ := both none _ _ _ _ _ _ _ h hp
      exact ⟨g1, by unfold RB; simp only [evC]; exact g2⟩
    | some l =>
      simp only [oC] at h
      split at h
      · rename_i hl
        obtain ⟨g1, g2⟩ := both (some l) _ _ _ _ _ _ _ h hp
        exact ⟨g1, by unfold RB; simp only [evC, hl, if_true]; exact g2⟩
      · rename_i hl
        obtain ⟨g1, g2⟩ := ihy hok.2 (some l) _ _ _ _ _ _ _ h hp
        exact ⟨g1, by unfold RB; simp only [evC, if_neg hl]; exact g2⟩
  | cond c x y ihx ihy =>
    intro hok l σ H s ex σ' H' s' h hp
    simp only [codeOk, Bool.and_eq_true] at hok
    cases l with
    | some l => simp [oC] at h
    | none =>
      simp only [oC] at h
      split at h
      · rename_i b hb
        have left : b = true → RB gl (fun k => evC (evFn T k) T.meth k x none) σ H ex σ' H' → RB gl (fun k => evC (evFn T k) T.meth k (.cond c x y) none) σ H ex σ' H' := by
          rintro rfl g μ K τ hr he
          obtain ⟨u, hu, h0⟩ := he.rd hr hok.1.1 hb
          cases bool_sv h0
          obtain ⟨k, ν, τ', K', e1, e2, e3⟩ := g μ K τ hr he
          exact ⟨k, ν, τ', K', by simp only [evC, hu]; exact e1, e2, e3⟩
        have right : b = false → RB gl (fun k => evC (evFn T k) T.meth k y none) σ H ex σ' H' → RB gl (fun k => evC (evFn T k) T.meth k (.cond c x y) none) σ H ex σ' H' := by
          rintro rfl g μ K τ hr he
          obtain ⟨u, hu, h0⟩ := he.rd hr hok.1.1 hb
          cases bool_sv h0
          obtain ⟨k, ν, τ', K', e1, e2, e3⟩ := g μ K τ hr he
          exact ⟨k, ν, τ', K', by simp only [evC, hu]; exact e1, e2, e3⟩
        split at h
        · split at h
          · obtain ⟨g1, g2⟩ := ihx hok.1.2 none _ _ _ _ _ _ _ h hp
            exact ⟨g1, left rfl g2⟩
          · obtain ⟨g1, g2⟩ := ihy hok.2 none _ _ _ _ _ _ _ h hp
            exact ⟨g1, right rfl g2⟩
        · obtain ⟨g1, g2⟩ := ihx hok.1.2 none _ _ _ _ _ _ _ h hp
          exact ⟨g1.2, left g1.1 g2⟩
        · obtain ⟨g1, g2⟩ := ihy hok.2 none _ _ _ _ _ _ _ h hp
          exact ⟨g1.2, right g1.1 g2⟩
        · cases h
      · cases h
  | block id b ih =>
    intro hok l σ H s ex σ' H' s' h hp
    simp only [codeOk] at hok
    cases l with
    | some l => simp [oC] at h
    | none =>
      simp only [oC] at h
      split at h
      · rename_i i σ1 H1 s1 h1
        split at h
        · rename_i e; cases h
          obtain ⟨g1, g2⟩ := ih hok none _ _ _ _ _ _ _ h1 hp
          refine ⟨g1, fun μ K τ hr he => ?_⟩
          obtain ⟨k, ν, τ', K', e1, e2, e3⟩ := g2 μ K τ hr he
          exact ⟨k, ν, τ', K', by simp only [evC, e1, if_pos e], e2, e3⟩
        · rename_i e; cases h
          obtain ⟨g1, g2⟩ := ih hok none _ _ _ _ _ _ _ h1 hp
          refine ⟨g1, fun μ K τ hr he => ?_⟩
          obtain ⟨k, ν, τ', K', e1, e2, e3⟩ := g2 μ K τ hr he
          exact ⟨k, ν, τ', K', by simp only [evC, e1, if_neg e], e2, e3⟩
      · rename_i hne
        obtain ⟨g1, g2⟩ := ih hok none _ _ _ _ _ _ _ h hp
        refine ⟨g1, fun μ K τ hr he => ?_⟩
        obtain ⟨k, ν, τ', K', e1, e2, e3⟩ := g2 μ K τ hr he
        refine ⟨k, ν, τ', K', ?_, e2, e3⟩
        simp only [evC, e1]
        cases ex with
        | exit i => exact absurd h (hne _ _ _ _)
        | _ => rfl
  | loop b ih =>
    intro hok l σ H s ex σ' H' s' h hp
    simp only [codeOk] at hok
    cases l with
    | some l => simp [oC] at h
    | none =>
      simp only [oC] at h
      obtain ⟨g1, g2⟩ := oLoop_ok (ih hok none) (fun k k' σ H r hk h => hm b k k' none σ H r hk h) n _ _ _ _ _ _ _ h hp
      exact ⟨g1, by unfold RB; simp only [evC]; exact g2⟩
  | scope b ih =>
    intro hok l σ H s ex σ' H' s' h hp
    simp only [codeOk] at hok
    cases l with
    | some l => simp [oC] at h
    | none =>
      simp only [oC] at h
      obtain ⟨g1, g2⟩ := oJump_ok (b := fun k l => evC (evFn T k) T.meth k b l) (ih hok) (fun k k' l σ H r hk h => hm b k k' l σ H r hk h) n none _ _ _ _ _ _ _ h hp
      exact ⟨g1, by unfold RB; simp only [evC]; exact g2⟩
  | exit id =>
    intro _ l σ H s ex σ' H' s' h hp
    cases l <;> simp only [oC, Option.some.injEq, Prod.mk.injEq, reduceCtorEq] at h
    obtain ⟨rfl, rfl, rfl, rfl⟩ := h
    exact ⟨hp, here fun _ _ => rfl⟩
  | label m =>
    intro _ l σ H s ex σ' H' s' h hp
    cases l with
    | none =>
      simp only [oC, Option.some.injEq, Prod.mk.injEq] at h
      obtain ⟨rfl, rfl, rfl, rfl⟩ := h
      exact ⟨hp, here fun _ _ => rfl⟩
    | some l =>
      simp only [oC] at h
      split at h
      · rename_i e; cases h
        exact ⟨hp, here fun _ _ => by simp only [evC, if_pos e]⟩
      · cases h
  | goto m =>
    intro _ l σ H s ex σ' H' s' h hp
    cases l <;> simp only [oC, Option.some.injEq, Prod.mk.injEq, reduceCtorEq] at h
    obtain ⟨rfl, rfl, rfl, rfl⟩ := h
    exact ⟨hp, here fun _ _ => rfl⟩
  | ret =>
    intro _ l σ H s ex σ' H' s' h hp
    cases l <;> simp only [oC, Option.some.injEq, Prod.mk.injEq, reduceCtorEq] at h
    obtain ⟨rfl, rfl, rfl, rfl⟩ := h
    exact ⟨hp, here fun _ _ => rfl⟩
end

theorem oFn_ok {T : AProg} {gl : Nat} (hT : SProg gl T) : ∀ n, OCallOk T gl (oFn T gl n)
  | 0 => fun f vs H s v H' s' h _ => by simp [oFn] at h
  | n + 1 => fun f vs H s v H' s' h hp => by
    simp only [oFn] at h
    split at h
    · rename_i p hpr
      split at h
      · rename_i w H1 hw; cases h
        refine ⟨hp, fun μ K us hr hl => ?_⟩
        obtain ⟨u, ν, K', g1, g2, g3⟩ := hT.prim f p hpr _ _ _ _ hw μ K us hr hl
        exact ⟨1, u, ν, K', by simp only [evFn, hpr, g1], g2, g3⟩
      · cases h
    · rename_i hpr
      split at h
      · cases h
      · rename_i fn hfn
        split at h
        · cases h
        · rename_i hn
          have hb := oC_ok hT (oFn_ok hT n) n fn.body (hT.fn f fn hfn) none
          have fin : ∀ {ex : AEx} {σ1 : Env} {H1 : AHeap} {ws : List Value}, (ex = .norm ∨ ex = .ret) → RB gl (fun k => evC (evFn T k) T.meth k fn.body none) (argEnv 0 vs) H ex σ1 H1 → evRes σ1 H1 fn.res = some ws → RC T gl f vs H (asResult ws) H1 := by
            intro ex σ1 H1 ws hex g hws μ K us hr hl
            obtain ⟨k, ν, τ', K', e1, e2, e3⟩ := g μ K (argEnv 0 us) hr (.args hl 0)
            obtain ⟨us', hus, g4⟩ := evRes_sv e2.hr e3 hws
            have hn' : ¬ (us.length ≠ fn.nargs) := by rw [← hl.length]; exact hn
            refine ⟨k + 1, asResult us', ν, K', ?_, e2, asResult_sv g4⟩
            rcases hex with rfl | rfl <;> simp only [evFn, hpr, hfn, if_neg hn', e1, hus]
          split at h
          · rename_i σ1 H1 s1 h1
            split at h
            · rename_i ws hws; cases h
              obtain ⟨g1, g2⟩ := hb _ _ _ _ _ _ _ h1 hp
              exact ⟨g1, fin (.inl rfl) g2 hws⟩
            · cases h
          · rename_i σ1 H1 s1 h1
            split at h
            · rename_i ws hws; cases h
              obtain ⟨g1, g2⟩ := hb _ _ _ _ _ _ _ h1 hp
              exact ⟨g1, fin (.inr rfl) g2 hws⟩
            · cases h
          · cases h
end Go.Ab

/- The function List as a first function. -/
namespace Go.Ab
open Go

def xsOf (g : Int) : List Int := ((List.range 64).filter fun i => g.toNat.testBit i).map fun (i : Nat) => (i : Int)

def listPrim : List Value → AHeap → Option (Value × AHeap)
  | [.int .u64 g], H => if 0 ≤ g ∧ g < 64 then match xsOf g with
      | [] => some (.slice none 0 0, H)
      | l => some (.slice (some ⟨H.next, 0, none⟩) l.length l.length, H.new ⟨l.map (Value.int .i64), 1⟩)
    else none
  | _, _ => none

theorem ints_closed (k : IntKind) : ∀ l : List Int, (l.map (Value.int k)).all (closedIn 4) = true
  | [] => rfl
  | _ :: l => by simp only [List.map_cons, List.all_cons, ints_closed k l, Bool.and_true]; rfl

theorem listPrim_s {gl : Nat} (vs : List Value) (H : AHeap) (v : Value) (H' : AHeap) (h : listPrim vs H = some (v, H')) (μ : Mp) (K : AHeap) (us : List Value) (hr : HR gl μ H K) (hl : LSV μ vs us) :
    ∃ u ν K', listPrim us K = some (u, K') ∧ SP gl μ H K ν H' K' ∧ SV ν v u := by
  unfold listPrim at h
  split at h
  · rename_i g
    cases hl with
    | cons h1 h2 =>
    cases h2
    cases int_sv h1
    split at h
    · rename_i hg
      split at h
      · rename_i hx
        cases h
        exact ⟨_, μ, K, by simp only [listPrim, if_pos hg, hx], .refl hr, .slNil _ _⟩
      · rename_i hx
        cases h
        have := hr.new (o := ⟨(xsOf g).map (Value.int .i64), 1⟩) (p := ⟨(xsOf g).map (Value.int .i64), 1⟩) rfl (lsv_closed _ 4 _ (ints_closed _ _))
        refine ⟨.slice (some ⟨K.next, 0, none⟩) (xsOf g).length (xsOf g).length, _, _, ?_, this, .sl _ _ (Mp.put_same _ _ _)⟩
        simp only [listPrim, if_pos hg]
    · cases h
  · cases h

def tblOkB (gl : Nat) (l : List (Nat × AFn)) : Bool := l.all fun p => codeOk gl p.2.body

theorem tblFind_mem : ∀ {l : List (Nat × AFn)} {f : Nat} {fn : AFn}, tblFind l f = some fn → (f, fn) ∈ l
  | [], _, _, h => by cases h
  | (k, v) :: r, f, fn, h => by
    unfold tblFind at h
    split at h
    · rename_i e; subst e; cases h; exact List.mem_cons_self
    · exact List.mem_cons_of_mem _ (tblFind_mem h)

theorem sprog_of {gl : Nat} {T : AProg} {tbl : List (Nat × AFn)} {list : Nat} (h1 : T.fn = tblFind tbl) (h2 : T.prim = fun f => if f = list then some listPrim else none) (h3 : tblOkB gl tbl = true) : SProg gl T where
  fn f fn h := by
    rw [h1] at h
    unfold tblOkB at h3
    rw [List.all_eq_true] at h3
    exact h3 _ (tblFind_mem h)
  prim f p h := by
    rw [h2] at h
    simp only [] at h
    split at h
    · cases h; exact listPrim_s
    · cases h
end Go.Ab
