/- The check of an abstract operation against the program's own, and its soundness: operands. -/
import Derived.Test.YtebmnnbjfjadaaaGreatDoorFc
import Derived.Laws.Sem
import Derived.Laws.Entries
import Derived.Laws.Cells
import Derived.Laws.Append
import Derived.Laws.CopyRow
import Derived.Laws.Slices
import Derived.Laws.Build
namespace Go.Ab
open Go

theorem eqVs_eq {f : Value → Value → Bool} (hf : ∀ a b, f a b = true → a = b) : ∀ l m, eqVs f l m = true → l = m
  | [], [], _ => rfl
  | a :: as, b :: bs, h => by
    simp only [eqVs, Bool.and_eq_true] at h
    rw [hf a b h.1, eqVs_eq hf as bs h.2]
  | [], _ :: _, h => by simp [eqVs] at h
  | _ :: _, [], h => by simp [eqVs] at h

theorem arr_eq {a b : Array Value} (h : a.toList = b.toList) : a = b := Array.ext' h

theorem eqV_eq : ∀ d a b, eqV d a b = true → a = b := by
  intro d
  induction d with
  | zero =>
    intro a b h
    cases a <;> cases b <;> simp_all [eqV]
  | succ d ih =>
    intro a b h
    cases a <;> cases b <;> simp_all [eqV]
    case func f a c g b e => exact ⟨arr_eq (eqVs_eq ih _ _ h.1.2), arr_eq (eqVs_eq ih _ _ h.2)⟩
    case iface t a u b => exact ih _ _ h.2
    case agg a b => exact arr_eq (eqVs_eq ih _ _ h)
    case tuple a b => exact arr_eq (eqVs_eq ih _ _ h)

def chkOpd (gl : Nat) : AOpd → Operand → Bool
  | .t n, .tmp m => n == m
  | .c v, .const u => eqV 4 v u && closedIn 4 u
  | .c v, .global g => eqV 0 v (.pointer (some ⟨g, 0, none⟩)) && decide (g < gl)
  | .c v, .func f => eqV 1 v (.func (.func f) #[] #[])
  | _, _ => false

structure EnvR (ι : Inj) (N : Nat) (σ : Env) (a : Act) : Prop where
  val : ∀ n v, σ.find n = some v → ∃ v', a.tmps[n]? = some v' ∧ VR ι v v'
  size : a.tmps.size = N
  defers : a.defers = []

theorem EnvR.mono {ι ι' : Inj} {N : Nat} {σ : Env} {a : Act} (hl : ι.le ι') (h : EnvR ι N σ a) : EnvR ι' N σ a :=
  ⟨fun n v hn => let ⟨v', h1, h2⟩ := h.val n v hn; ⟨v', h1, h2.mono hl⟩, h.size, h.defers⟩

theorem Env.find_put (σ : Env) (n : Nat) (v : Value) (m : Nat) : (σ.put n v).find m = if n = m then some v else σ.find m := by
  induction σ with
  | nil => simp [Env.put, Env.find]
  | cons p r ih =>
    obtain ⟨k, u⟩ := p
    simp only [Env.put]
    split
    · rename_i h; subst h
      simp only [Env.find]
      split <;> simp_all
    · rename_i h
      simp only [Env.find]
      split
      · rename_i h2; subst h2; rw [if_neg (fun x => h x.symm)]
      · exact ih

theorem Env.find_keep {σ : Env} {l : List Nat} {n : Nat} {v : Value} (h : (σ.keep l).find n = some v) : σ.find n = some v := by
  induction σ with
  | nil => simp [Env.keep, Env.find] at h
  | cons p r ih =>
    obtain ⟨k, u⟩ := p
    simp only [Env.keep, List.filter_cons] at h ih
    split at h
    · simp only [Env.find] at h ⊢
      split
      · rename_i e; rw [if_pos e] at h; exact h
      · rename_i e; rw [if_neg e] at h; exact ih h
    · rename_i hk
      simp only [Env.find]
      split
      · rename_i e; subst e
        exfalso
        have key : ∀ (r : Env), Env.find (List.filter (fun p => l.contains p.1) r) k = none := by
          intro r
          induction r with
          | nil => rfl
          | cons q s ihs =>
            obtain ⟨k', u'⟩ := q
            simp only [List.filter_cons]
            split
            · rename_i hq
              simp only [Env.find]
              split
              · rename_i e; subst e; exact absurd hq hk
              · exact ihs
            · exact ihs
        rw [key r] at h; cases h
      · exact ih h

theorem EnvR.keep {ι : Inj} {N : Nat} {σ : Env} {a : Act} (h : EnvR ι N σ a) (l : List Nat) : EnvR ι N (σ.keep l) a :=
  ⟨fun n v hn => h.val n v (Env.find_keep hn), h.size, h.defers⟩

theorem EnvR.put {ι : Inj} {N : Nat} {σ : Env} {a : Act} (h : EnvR ι N σ a) {n : Nat} (hn : n < N) {v v' : Value} (hv : VR ι v v') :
    EnvR ι N (σ.put n v) (a.put (some n) v') := by
  refine ⟨?_, by simp [Act.put, h.size], h.defers⟩
  intro m u hm
  rw [Env.find_put] at hm
  split at hm
  · rename_i e; subst e; cases hm
    exact ⟨v', by simp [Act.put, h.size, hn], hv⟩
  · rename_i e
    obtain ⟨u', h1, h2⟩ := h.val m u hm
    exact ⟨u', by simpa [Act.put, Array.getElem?_setIfInBounds_ne e] using h1, h2⟩

section
variable {G : Glob} {ι : Inj} {H : AHeap} {w : World} {N : Nat} {σ : Env} {a : Act}

theorem rd_sound (hr : Rel G ι H w) (he : EnvR ι N σ a) {x : AOpd} {y : Operand} (hc : chkOpd G.n x y = true) {v : Value} (hv : σ.rd x = some v) : VR ι v (a.eval y) := by
  cases x with
  | t n =>
    cases y <;> simp [chkOpd] at hc
    case tmp m =>
      subst hc
      obtain ⟨v', h1, h2⟩ := he.val n v hv
      simpa [Act.eval, h1] using h2
  | c u =>
    simp only [Env.rd, Option.some.injEq] at hv
    subst hv
    cases y <;> simp [chkOpd] at hc
    case const x => rw [eqV_eq _ _ _ hc.1]; exact closedIn_vr ι 4 x hc.2
    case global g =>
      rw [eqV_eq _ _ _ hc.1]
      obtain ⟨e, h1, h2, h3⟩ := hr.glb g hc.2
      have := VR.ptr (off := 0) h1
      rw [h2, h3] at this
      exact this
    case func f =>
      rw [eqV_eq _ _ _ hc]
      exact .func _ _ _ _ _ rfl (by simp) rfl (by simp)

/-- Lists of values, one by one. -/
inductive LVR (ι : Inj) : List Value → List Value → Prop
  | nil : LVR ι [] []
  | cons {v v' : Value} {l l' : List Value} : VR ι v v' → LVR ι l l' → LVR ι (v :: l) (v' :: l')

theorem LVR.length {ι : Inj} {l l' : List Value} (h : LVR ι l l') : l.length = l'.length := by
  induction h <;> simp_all

theorem LVR.get {ι : Inj} {l l' : List Value} (h : LVR ι l l') : ∀ (k : Nat) v, l[k]? = some v → ∃ v', l'[k]? = some v' ∧ VR ι v v' := by
  induction h with
  | nil => intro k v h; simp at h
  | cons hv _ ih =>
    intro k v h
    cases k with
    | zero => simp at h; subst h; exact ⟨_, by simp, hv⟩
    | succ k => simpa using ih k v (by simpa using h)

theorem LVR.avr {ι : Inj} {l l' : List Value} (h : LVR ι l l') : AVR ι l.toArray l'.toArray := by
  refine ⟨by simp [h.length], fun k v v' h1 h2 => ?_⟩
  obtain ⟨u, hu, hr⟩ := h.get k v (by simpa using h1)
  rw [show l'.toArray[k]? = l'[k]? by simp, hu] at h2
  cases h2; exact hr

theorem LVR.of_get {ι : Inj} : ∀ {l l' : List Value}, l.length = l'.length → (∀ (k : Nat) v v', l[k]? = some v → l'[k]? = some v' → VR ι v v') → LVR ι l l'
  | [], [], _, _ => .nil
  | v :: l, v' :: l', h, hk => .cons (hk 0 v v' rfl rfl) (LVR.of_get (by simpa using h) fun k u u' a b => hk (k + 1) u u' (by simpa using a) (by simpa using b))
  | [], _ :: _, h, _ => by simp at h
  | _ :: _, [], h, _ => by simp at h

theorem AVR.lvr {ι : Inj} {a b : Array Value} (h : AVR ι a b) : LVR ι a.toList b.toList :=
  LVR.of_get (by simpa using h.1) fun k v v' h1 h2 => h.2 k v v' (by simpa using h1) (by simpa using h2)

theorem LVR.mono {ι ι' : Inj} (hl : ι.le ι') {l l' : List Value} (h : LVR ι l l') : LVR ι' l l' := by
  induction h with
  | nil => exact .nil
  | cons hv _ ih => exact .cons (hv.mono hl) ih

theorem LVR.append {ι : Inj} {a b c d : List Value} (h : LVR ι a b) (h' : LVR ι c d) : LVR ι (a ++ c) (b ++ d) := by
  induction h with
  | nil => exact h'
  | cons hv _ ih => exact .cons hv ih

def chkOpds (gl : Nat) : List AOpd → List Operand → Bool
  | [], [] => true
  | x :: xs, y :: ys => chkOpd gl x y && chkOpds gl xs ys
  | _, _ => false

theorem rds_sound (hr : Rel G ι H w) (he : EnvR ι N σ a) : ∀ {xs : List AOpd} {ys : List Operand}, chkOpds G.n xs ys = true → ∀ {vs : List Value}, σ.rds xs = some vs → LVR ι vs (ys.map a.eval)
  | [], [], _, vs, h => by simp [Env.rds] at h; subst h; exact .nil
  | x :: xs, y :: ys, hc, vs, h => by
    simp only [chkOpds, Bool.and_eq_true] at hc
    simp only [Env.rds] at h
    split at h
    · cases h
    · rename_i v hv
      split at h
      · cases h
      · rename_i us hus
        cases h
        exact .cons (rd_sound hr he hc.1 hv) (rds_sound hr he hc.2 hus)
  | [], _ :: _, h, _, _ => by simp [chkOpds] at h
  | _ :: _, [], h, _, _ => by simp [chkOpds] at h

theorem VR.cells {v v' : Value} (h : VR ι v v') : AVR ι v.cells v'.cells := by
  have one : ∀ {u u' : Value}, VR ι u u' → AVR ι #[u] #[u'] := fun {u u'} hu => (LVR.cons hu .nil).avr
  cases h with
  | agg c c' h1 h2 => exact ⟨h1, h2⟩
  | sl h1 h2 h3 => exact one (.sl h1 h2 h3)
  | slE => exact one .slE
  | ptr h => exact one (.ptr h)
  | func fn f c f' c' h1 h2 h3 h4 => exact one (.func fn f c f' c' h1 h2 h3 h4)
  | iface t v v' h => exact one (.iface t v v' h)
  | tuple c c' h1 h2 => exact one (.tuple c c' h1 h2)
  | bool b => exact one (.bool b)
  | int k n => exact one (.int k n)
  | float k n => exact one (.float k n)
  | complex k a b => exact one (.complex k a b)
  | string s => exact one (.string s)
  | ptrNil => exact one .ptrNil
  | slNil => exact one .slNil
  | mapNil => exact one .mapNil
  | chanNil => exact one .chanNil
  | nilFunc => exact one .nilFunc
  | nilIface => exact one .nilIface

theorem one_vr {v v' : Value} (h : VR ι v v') (ho : one v = true) : v'.oneCell' = true := by
  cases h <;> first | rfl | simp [one] at ho
end
end Go.Ab
