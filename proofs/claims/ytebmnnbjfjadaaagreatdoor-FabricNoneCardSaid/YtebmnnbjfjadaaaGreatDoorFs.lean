/- The arguments of a call, read into an abstract heap that may only be read. -/
import Derived.Test.YtebmnnbjfjadaaaGreatDoorFr
import Derived.OpenShut
import Derived.ChangeArms
namespace Go.Ab
open Go Go.RowKit

def tileOk (P : Program) : List Field → Nat → Option Nat
  | [], n => some n
  | f :: r, n => if f.offset = n then tileOk P r (n + P.cellsOf f.type) else none

/-- The types that are read. -/
def rty (P : Program) : Nat → TypeId → Bool
  | 0, _ => false
  | f + 1, t => match P.underlying t with
    | some .bool => true
    | some (.int _) => true
    | some (.slice e) => decide (0 < P.cellsOf e) && rty P f e
    | some (.struct fs) => decide (tileOk P fs.toList 0 = some (P.cellsOf t)) && fs.toList.all fun x => rty P f x.type
    | some (.array n e) => decide (P.cellsOf t = n * P.cellsOf e) && rty P f e
    | _ => false

inductive All2 {α β : Type} (R : α → β → Prop) : List α → List β → Prop
  | nil : All2 R [] []
  | cons {a : α} {b : β} {l : List α} {l' : List β} : R a b → All2 R l l' → All2 R (a :: l) (b :: l')

theorem All2.imp {α β : Type} {R S : α → β → Prop} (h : ∀ a b, R a b → S a b) {l : List α} {l' : List β} (x : All2 R l l') : All2 S l l' := by
  induction x with
  | nil => exact .nil
  | cons a _ ih => exact .cons (h _ _ a) ih

/-- What is read, by its type. -/
def Ty (P : Program) (H : AHeap) : Nat → TypeId → List Value → Prop
  | 0, _, _ => False
  | f + 1, t, l => match P.underlying t with
    | some .bool => ∃ b, l = [.bool b]
    | some (.int k) => ∃ n, l = [.int k n] ∧ (Lit.int k n).wf = true
    | some (.slice e) => l = [.slice none 0 0] ∨ ∃ (i : Nat) (parts : List (List Value)), l = [.slice (some ⟨i, 0, none⟩) parts.length parts.length] ∧
        (parts = [] ∨ H.get i = some ⟨parts.flatten, P.cellsOf e⟩) ∧ ∀ p ∈ parts, p.length = P.cellsOf e ∧ Ty P H f e p
    | some (.struct fs) => ∃ parts : List (List Value), l = parts.flatten ∧ All2 (fun (x : Field) p => p.length = P.cellsOf x.type ∧ Ty P H f x.type p) fs.toList parts
    | some (.array n e) => ∃ parts : List (List Value), l = parts.flatten ∧ parts.length = n ∧ ∀ p ∈ parts, p.length = P.cellsOf e ∧ Ty P H f e p
    | _ => False

def AHeap.sub (H H' : AHeap) : Prop := ∀ i o, H.get i = some o → H'.get i = some o
theorem AHeap.sub_refl (H : AHeap) : H.sub H := fun _ _ h => h
theorem AHeap.sub_trans {A B C : AHeap} (h : A.sub B) (k : B.sub C) : A.sub C := fun i o x => k i o (h i o x)

theorem Ty.mono {P : Program} {H H' : AHeap} (hs : H.sub H') : ∀ {f : Nat} {t : TypeId} {l : List Value}, Ty P H f t l → Ty P H' f t l
  | 0, _, _, h => h.elim
  | f + 1, t, l, h => by
    unfold Ty at h ⊢
    split at h
    · exact h
    · exact h
    · rcases h with h | ⟨i, parts, h1, h2, h3⟩
      · exact .inl h
      · exact .inr ⟨i, parts, h1, h2.imp id (hs i _), fun p hp => ⟨(h3 p hp).1, Ty.mono hs (h3 p hp).2⟩⟩
    · obtain ⟨parts, h1, h2⟩ := h
      exact ⟨parts, h1, h2.imp fun _ _ hx => ⟨hx.1, Ty.mono hs hx.2⟩⟩
    · obtain ⟨parts, h1, h2, h3⟩ := h
      exact ⟨parts, h1, h2, fun p hp => ⟨(h3 p hp).1, Ty.mono hs (h3 p hp).2⟩⟩
    · exact h.elim

/-- Nothing may be written. -/
structure Ro (G : Glob) (ι : Inj) (H : AHeap) (w : World) : Prop where
  rel : Rel G ι H w
  all : H.lo = H.next

structure Ext (ι : Inj) (H : AHeap) (ι' : Inj) (H' : AHeap) : Prop where
  le : ι.le ι'
  sub : H.sub H'

theorem Ext.refl (ι : Inj) (H : AHeap) : Ext ι H ι H := ⟨ι.le_refl, H.sub_refl⟩
theorem Ext.trans {a b c : Inj} {A B C : AHeap} (h : Ext a A b B) (k : Ext b B c C) : Ext a A c C := ⟨Inj.le_trans h.le k.le, AHeap.sub_trans h.sub k.sub⟩

def AHeap.newRo (H : AHeap) (o : AObj) : AHeap := (H.new o).froz

theorem Ro.new {G : Glob} {ι : Inj} {H : AHeap} {w : World} (h : Ro G ι H w) {b base esz : Nat} {c : Array Value} {t : TypeId} {fz : Nat × Nat} (hw : w.heap[b]? = some (.cells c t fz))
    (l : List Value) (hl : base + l.length ≤ c.size) (hv : ∀ (k : Nat) v, l[k]? = some v → ∃ v', c[base + k]? = some v' ∧ VR ι v v') :
    Ro G (ι.put H.next ⟨b, base, c.size, esz⟩) (H.newRo ⟨l, esz⟩) w ∧ Ext ι H (ι.put H.next ⟨b, base, c.size, esz⟩) (H.newRo ⟨l, esz⟩) ∧ (H.newRo ⟨l, esz⟩).get H.next = some ⟨l, esz⟩ := by
  have hle : ι.le (ι.put H.next ⟨b, base, c.size, esz⟩) := Inj.le_put h.rel _
  have hbs : b < w.heap.size := (Array.getElem?_eq_some_iff.1 hw).1
  have hg : ∀ j, (H.newRo ⟨l, esz⟩).get j = if j = H.next then some ⟨l, esz⟩ else H.get j := fun j => AHeap.get_new H ⟨l, esz⟩ j
  have hlo : (H.newRo ⟨l, esz⟩).lo = H.next + 1 := rfl
  have hnx : (H.newRo ⟨l, esz⟩).next = H.next + 1 := rfl
  refine ⟨⟨⟨?_, ?_, ?_, Nat.le_refl _, fun g hg => ?_, ?_, h.rel.env⟩, rfl⟩, ⟨hle, fun i o ho => ?_⟩, ?_⟩
  · intro i o ho
    rw [hg] at ho
    split at ho
    · rename_i e
      cases ho
      refine ⟨_, c, t, fz, by rw [e, Inj.put_same], rfl, hw, rfl, hl, ?_, fun hx => ?_⟩
      · intro k v hk
        obtain ⟨v', hv', hr⟩ := hv k v hk
        exact ⟨v', hv', hr.mono hle⟩
      · rw [hlo] at hx; omega
    · rename_i hne
      obtain ⟨e, c', t', fz', h1, h2, h3, h4, h5, h6, h7⟩ := h.rel.obj i o ho
      refine ⟨e, c', t', fz', by rw [Inj.put_ne _ _ hne]; exact h1, h2, h3, h4, h5, ?_, fun hx => ?_⟩
      · intro k v hk
        obtain ⟨v', hv', hr⟩ := h6 k v hk
        exact ⟨v', hv', hr.mono hle⟩
      · have := AHeap.get_lt ho
        rw [hlo] at hx; omega
  · intro i e he
    by_cases hi : i = H.next
    · subst hi; rw [Inj.put_same] at he; cases he; exact ⟨Nat.lt_succ_self _, hbs⟩
    · rw [Inj.put_ne _ _ hi] at he
      have := h.rel.ent i e he
      exact ⟨Nat.lt_succ_of_lt this.1, this.2⟩
  · intro i j e f o p ho hp he hf hi hij
    have := AHeap.get_lt ho
    exact absurd hi (by omega)
  · obtain ⟨e, he, h1, h2⟩ := h.rel.glb g hg; exact ⟨e, hle _ _ he, h1, h2⟩
  · intro i e o hi ho he
    have := AHeap.get_lt ho
    exact absurd hi (by omega)
  · have := AHeap.get_lt ho
    rw [hg, if_neg (by omega)]; exact ho
  · rw [hg, if_pos rfl]

theorem mapM_all {α β : Type} {f : α → Option β} : ∀ {l : List α} {ys : List β}, l.mapM f = some ys → ∀ x ∈ l, ∃ y, f x = some y
  | [], _, _, x, hx => by cases hx
  | a :: l, ys, h, x, hx => by
    rw [List.mapM_cons] at h
    cases hfa : f a with
    | none => simp [hfa] at h
    | some y =>
      cases hl : l.mapM f with
      | none => simp [hfa, hl] at h
      | some zs =>
        rcases List.mem_cons.1 hx with rfl | hx
        · exact ⟨y, hfa⟩
        · exact mapM_all hl x hx

theorem All2.cons_inv {α β : Type} {R : α → β → Prop} {a : α} {l : List α} {l' : List β} (h : All2 R (a :: l) l') : ∃ b r, l' = b :: r ∧ R a b ∧ All2 R l r := by
  cases h with
  | cons h1 h2 => exact ⟨_, _, rfl, h1, h2⟩
theorem All2.nil_inv {α β : Type} {R : α → β → Prop} {l' : List β} (h : All2 R [] l') : l' = [] := by cases h; rfl
theorem All2.length {α β : Type} {R : α → β → Prop} {l : List α} {l' : List β} (x : All2 R l l') : l'.length = l.length := by
  induction x with
  | nil => rfl
  | cons _ _ ih => simp [ih]

theorem All2.of_map {α β γ : Type} {R : α → β → Prop} {g : γ → α} : ∀ {l : List γ} {l' : List β}, All2 R (l.map g) l' → All2 (fun x p => R (g x) p) l l'
  | [], _, h => by cases h; exact .nil
  | a :: l, _, h => by
    rw [List.map_cons] at h
    cases h with
    | cons h1 h2 => exact .cons h1 (All2.of_map h2)

theorem All2.imp_mem {α β : Type} {R S : α → β → Prop} {l : List α} {l' : List β} (x : All2 R l l') (h : ∀ a ∈ l, ∀ b, R a b → S a b) : All2 S l l' := by
  induction x with
  | nil => exact .nil
  | cons a _ ih => exact .cons (h _ List.mem_cons_self _ a) (ih fun a ha => h a (List.mem_cons_of_mem _ ha))

theorem All2.right {α β : Type} {R : α → β → Prop} {Q : β → Prop} {l : List α} {l' : List β} (x : All2 R l l') (h : ∀ a b, R a b → Q b) : ∀ b ∈ l', Q b := by
  induction x with
  | nil => intro b hb; cases hb
  | cons a _ ih =>
    intro b hb
    rcases List.mem_cons.1 hb with rfl | hb
    · exact h _ _ a
    · exact ih b hb

theorem All2.lvr {α : Type} {ι : Inj} {g : α → List Value} {l : List α} {parts : List (List Value)} (x : All2 (fun a p => LVR ι p (g a)) l parts) : LVR ι parts.flatten (l.map g).flatten := by
  induction x with
  | nil => exact .nil
  | cons a _ ih => simpa using LVR.append a ih

theorem tile_le {P : Program} : ∀ {fs : List Field} {n m : Nat}, tileOk P fs n = some m → n ≤ m ∧ ∀ f ∈ fs, f.offset + P.cellsOf f.type ≤ m
  | [], n, m, h => by simp [tileOk] at h; subst h; exact ⟨Nat.le_refl _, fun f hf => by cases hf⟩
  | f :: r, n, m, h => by
    unfold tileOk at h
    split at h
    · rename_i ho
      obtain ⟨h1, h2⟩ := tile_le h
      refine ⟨by omega, fun g hg => ?_⟩
      rcases List.mem_cons.1 hg with rfl | hg
      · omega
      · exact h2 g hg
    · cases h

theorem tile_flat {P : Program} (cs : List Value) : ∀ {fs : List Field} {n m : Nat}, tileOk P fs n = some m →
    (fs.map fun f => (cs.drop f.offset).take (P.cellsOf f.type)).flatten = (cs.drop n).take (m - n)
  | [], n, m, h => by simp [tileOk] at h; subst h; simp
  | f :: r, n, m, h => by
    unfold tileOk at h
    split at h
    · rename_i ho
      have h1 := (tile_le h).1
      rw [List.map_cons, List.flatten_cons, tile_flat cs h, ho]
      have : m - n = P.cellsOf f.type + (m - (n + P.cellsOf f.type)) := by omega
      rw [this, List.take_add, List.drop_drop]
    · cases h

theorem chunk_flat (cs : List Value) (ce o : Nat) : ∀ n : Nat, ((List.range n).map fun i => (cs.drop (o + i * ce)).take ce).flatten = (cs.drop o).take (n * ce)
  | 0 => by simp
  | n + 1 => by
    rw [List.range_succ, List.map_append, List.flatten_append, chunk_flat cs ce o n]
    have : (n + 1) * ce = n * ce + ce := by rw [Nat.succ_mul]
    rw [this, List.take_add, List.drop_drop]
    simp

theorem cells_eq {w : World} {base b o n : Nat} {l : List Value} {c : Array Value} {t : TypeId} {fz : Nat × Nat} (hw : w.heap[b]? = some (.cells c t fz)) (h : w.cells? base ⟨b, o, none⟩ n = some l) :
    l = (c.toList.drop o).take n ∧ (0 < n → o + n ≤ c.size) := by
  unfold World.cells? at h
  split at h
  · have key : ∀ (n : Nat) (l : List Value), ((List.range n).mapM fun i => w.cell? (Addr.add ⟨b, o, none⟩ i)) = some l → l = (c.toList.drop o).take n ∧ (0 < n → o + n ≤ c.size) := by
      intro n
      induction n with
      | zero => intro l h; simp at h; subst h; simp
      | succ n ih =>
        intro l h
        rw [List.range_succ, List.mapM_append] at h
        cases h1 : ((List.range n).mapM fun i => w.cell? (Addr.add ⟨b, o, none⟩ i)) with
        | none => simp [h1] at h
        | some l1 =>
          cases h2 : w.cell? (Addr.add ⟨b, o, none⟩ n) with
          | none => simp [h1, h2] at h
          | some v =>
            simp [h1, h2] at h
            subst h
            obtain ⟨e1, _⟩ := ih l1 h1
            have hc : c[o + n]? = some v := by
              have : Addr.add ⟨b, o, none⟩ n = ⟨b, o + n, none⟩ := by
                unfold Addr.add; split
                · rename_i e; subst e; rfl
                · rfl
              rw [this] at h2
              unfold World.cell? at h2
              rw [hw] at h2
              simpa using h2
            have hlt := (Array.getElem?_eq_some_iff.1 hc).1
            refine ⟨?_, fun _ => by omega⟩
            rw [List.take_add_one, e1, List.getElem?_drop]
            rw [show c.toList[o + n]? = some v by simpa using hc]
            rfl
    exact key n l h
  · cases h

section
variable {Hd : Type} {enc : TypeId × Value → Hd} {P : Program} {w : World} {G : Glob} {held : Bool}

theorem read_parts {f fuel : Nat} (ih : ∀ (t : TypeId) (cs : List Value) r, DataW.trod enc P w 0 (fun _ => true) held fuel t cs = some r → rty P f t = true → ∀ ι H, Ro G ι H w →
      ∃ ι' H' avs, Ext ι H ι' H' ∧ Ro G ι' H' w ∧ LVR ι' avs cs ∧ Ty P H' f t avs) :
    ∀ (l : List (TypeId × List Value)), (∀ x ∈ l, (∃ r, DataW.trod enc P w 0 (fun _ => true) held fuel x.1 x.2 = some r) ∧ rty P f x.1 = true) → ∀ ι H, Ro G ι H w →
      ∃ ι' H' parts, Ext ι H ι' H' ∧ Ro G ι' H' w ∧ All2 (fun x p => LVR ι' p x.2 ∧ Ty P H' f x.1 p) l parts
  | [], _, ι, H, hr => ⟨ι, H, [], Ext.refl _ _, hr, .nil⟩
  | x :: l, h, ι, H, hr => by
    obtain ⟨⟨r, hx⟩, ht⟩ := h x List.mem_cons_self
    obtain ⟨ι₁, H₁, avs, e1, r1, l1, t1⟩ := ih x.1 x.2 r hx ht ι H hr
    obtain ⟨ι₂, H₂, parts, e2, r2, a2⟩ := read_parts ih l (fun y hy => h y (List.mem_cons_of_mem _ hy)) ι₁ H₁ r1
    exact ⟨ι₂, H₂, avs :: parts, e1.trans e2, r2, .cons ⟨l1.mono e2.le, t1.mono e2.sub⟩ a2⟩

theorem read_one : ∀ (f fuel : Nat) (t : TypeId) (cs : List Value) r, DataW.trod enc P w 0 (fun _ => true) held fuel t cs = some r → rty P f t = true → ∀ ι H, Ro G ι H w →
    ∃ ι' H' avs, Ext ι H ι' H' ∧ Ro G ι' H' w ∧ LVR ι' avs cs ∧ Ty P H' f t avs
  | 0, _, _, _, _, _, h => by simp [rty] at h
  | f + 1, fuel, t, cs, r, h, ht => by
    intro ι H hr
    unfold rty at ht
    unfold Ty
    split at ht
    · rename_i hu
      obtain ⟨b, rfl, _⟩ := DataW.trod_bool hu h
      exact ⟨ι, H, [.bool b], Ext.refl _ _, hr, .cons (.bool b) .nil, b, rfl⟩
    · rename_i k hu
      obtain ⟨n, rfl, _, hw⟩ := DataW.trod_int hu h
      exact ⟨ι, H, [.int k n], Ext.refl _ _, hr, .cons (.int k n) .nil, n, rfl, hw⟩
    · rename_i e hu
      simp only [Bool.and_eq_true, decide_eq_true_eq] at ht
      obtain ⟨hce, hte⟩ := ht
      rcases DataW.trod_slice hu h with ⟨rfl, _⟩ | ⟨a, len, cap, elems, rest, n, rfl, rfl, _, _, hlc, hcm, hel, h1, h2, _⟩
      · exact ⟨ι, H, [.slice none 0 0], Ext.refl _ _, hr, .cons .slNil .nil, .inl rfl⟩
      · obtain ⟨hrl, h2⟩ := h2 rfl
        rcases Nat.eq_zero_or_pos cap with hc0 | hcp
        · obtain rfl : cap = 0 := hc0
          obtain rfl : len = 0 := by omega
          exact ⟨ι, H, [.slice (some ⟨0, 0, none⟩) 0 0], Ext.refl _ _, hr, .cons .slE .nil, .inr ⟨0, [], rfl, .inl rfl, fun p hp => by cases hp⟩⟩
        · have hall : ∀ i, i < cap → ∃ r, (w.cells? 0 (a.add (i * P.cellsOf e)) (P.cellsOf e)).bind (DataW.trod enc P w 0 (fun _ => true) held n e) = some r := by
            intro i hi
            rcases Nat.lt_or_ge i len with hl | hl
            · exact ⟨elems[i], by rw [h1 i hl]; exact List.getElem?_eq_getElem (by omega)⟩
            · refine ⟨rest[i - len], ?_⟩
              have := h2 (i - len) (by omega)
              rw [show len + (i - len) = i by omega] at this
              rw [this]; exact List.getElem?_eq_getElem (by omega)
          obtain ⟨b, o, c, t', fz, ha, hw⟩ : ∃ b o c t' fz, a = ⟨b, o, none⟩ ∧ w.heap[b]? = some (.cells c t' fz) := by
            obtain ⟨r0, hr0⟩ := hall 0 hcp
            cases hc : w.cells? 0 (a.add (0 * P.cellsOf e)) (P.cellsOf e) with
            | none => rw [hc] at hr0; cases hr0
            | some l0 =>
              unfold World.cells? at hc
              rw [if_pos (Nat.zero_le _)] at hc
              obtain ⟨v, hv⟩ := mapM_all hc 0 (List.mem_range.2 hce)
              simp only [Nat.zero_mul, Addr.add, if_true] at hv
              unfold World.cell? at hv
              split at hv
              · rename_i c t' fz hb
                obtain ⟨b, o, sp⟩ := a
                cases sp with
                | none => exact ⟨b, o, c, t', fz, rfl, hb⟩
                | some x => simp at hv
              · cases hv
          subst ha
          have hadd : ∀ k, Addr.add ⟨b, o, none⟩ k = ⟨b, o + k, none⟩ := by
            intro k
            unfold Addr.add; split
            · rename_i e; subst e; rfl
            · rfl
          have hall2 : ∀ i, i < cap → (∃ r, DataW.trod enc P w 0 (fun _ => true) held n e ((c.toList.drop (o + i * P.cellsOf e)).take (P.cellsOf e)) = some r) ∧ o + i * P.cellsOf e + P.cellsOf e ≤ c.size := by
            intro i hi
            obtain ⟨r, hr⟩ := hall i hi
            rw [hadd] at hr
            cases hc : w.cells? 0 ⟨b, o + i * P.cellsOf e, none⟩ (P.cellsOf e) with
            | none => rw [hc] at hr; cases hr
            | some l0 =>
              obtain ⟨rfl, hle⟩ := cells_eq hw hc
              rw [hc] at hr
              exact ⟨⟨r, hr⟩, hle hce⟩
          obtain ⟨ι₁, H₁, parts, e1, r1, a1⟩ := read_parts (fun t cs r h ht ι H hr => read_one f n t cs r h ht ι H hr)
            ((List.range len).map fun i => (e, (c.toList.drop (o + i * P.cellsOf e)).take (P.cellsOf e))) (by
              intro x hx
              simp only [List.mem_map, List.mem_range] at hx
              obtain ⟨i, hi, rfl⟩ := hx
              exact ⟨(hall2 i (by omega)).1, hte⟩) ι H hr
          have a2 := All2.of_map a1
          have hlen : parts.length = len := by rw [a2.length]; simp
          have hlv : LVR ι₁ parts.flatten ((c.toList.drop o).take (len * P.cellsOf e)) := by
            rw [← chunk_flat]
            exact (a2.imp fun _ _ x => x.1).lvr
          have hsz : o + cap * P.cellsOf e ≤ c.size := by
            have := (hall2 (cap - 1) (by omega)).2
            have h3 : cap * P.cellsOf e = (cap - 1) * P.cellsOf e + P.cellsOf e := by
              rw [← Nat.succ_mul, Nat.succ_eq_add_one, Nat.sub_add_cancel hcp]
            omega
          have hmul : len * P.cellsOf e ≤ cap * P.cellsOf e := Nat.mul_le_mul_right _ hlc
          have hfl : parts.flatten.length = len * P.cellsOf e := by
            rw [hlv.length, List.length_take, List.length_drop, Array.length_toList]; omega
          obtain ⟨r2, e2, g2⟩ := Ro.new (esz := P.cellsOf e) r1 hw parts.flatten (base := o) (by omega) (by
            intro k v hk
            obtain ⟨v', hv', hvr⟩ := hlv.get k v hk
            rw [List.getElem?_take] at hv'
            split at hv'
            · rw [List.getElem?_drop] at hv'
              exact ⟨v', by simpa using hv', hvr⟩
            · cases hv')
          refine ⟨_, _, [.slice (some ⟨H₁.next, 0, none⟩) parts.length parts.length], e1.trans e2, r2, .cons ?_ .nil, .inr ⟨H₁.next, parts, rfl, .inr g2, ?_⟩⟩
          · rw [hlen]
            exact VR.sl (ι := ι₁.put H₁.next ⟨b, o, c.size, P.cellsOf e⟩) (i := H₁.next) (off := 0) (c := len) (Inj.put_same _ _ _) hlc (by simpa using hsz)
          · refine All2.right (a2.imp_mem (S := fun _ p => p.length = P.cellsOf e ∧ Ty P (H₁.newRo ⟨parts.flatten, P.cellsOf e⟩) f e p) ?_) fun _ _ x => x
            intro i hi p hp
            refine ⟨?_, hp.2.mono e2.sub⟩
            rw [hp.1.length]
            have := (hall2 i (by have := List.mem_range.1 hi; omega)).2
            simp only [List.length_take, List.length_drop, Array.length_toList]; omega
    · rename_i fs hu
      simp only [Bool.and_eq_true, decide_eq_true_eq, List.all_eq_true] at ht
      obtain ⟨hti, hty⟩ := ht
      obtain ⟨xs, n, rfl, _, hcl, hxl, hf⟩ := DataW.trod_struct hu h
      obtain ⟨ι₁, H₁, parts, e1, r1, a1⟩ := read_parts (fun t cs r h ht ι H hr => read_one f n t cs r h ht ι H hr)
        (fs.toList.map fun x => (x.type, (cs.drop x.offset).take (P.cellsOf x.type))) (by
          intro x hx
          simp only [List.mem_map] at hx
          obtain ⟨y, hy, rfl⟩ := hx
          refine ⟨?_, hty y hy⟩
          obtain ⟨i, hi⟩ := List.getElem?_of_mem hy
          have hi' : fs[i]? = some y := by simpa using hi
          have hlt : i < fs.size := (Array.getElem?_eq_some_iff.1 hi').1
          exact ⟨xs[i], by rw [hf i y hi']; exact List.getElem?_eq_getElem (by omega)⟩) ι H hr
      have a2 := All2.of_map a1
      have hfl := tile_flat (P := P) cs hti
      rw [Nat.sub_zero, List.drop_zero, ← hcl, List.take_length] at hfl
      refine ⟨ι₁, H₁, parts.flatten, e1, r1, ?_, parts, rfl, ?_⟩
      · have := (a2.imp fun _ _ x => x.1).lvr
        rw [hfl] at this
        exact this
      · refine a2.imp_mem fun x hx p hp => ⟨?_, hp.2⟩
        rw [hp.1.length]
        have := (tile_le hti).2 x hx
        simp only [List.length_take, List.length_drop]; omega
    · rename_i n e hu
      simp only [Bool.and_eq_true, decide_eq_true_eq] at ht
      obtain ⟨hsz, hte⟩ := ht
      obtain ⟨xs, m, rfl, _, hcl, hxl, hf⟩ := DataW.trod_array hu h
      obtain ⟨ι₁, H₁, parts, e1, r1, a1⟩ := read_parts (fun t cs r h ht ι H hr => read_one f m t cs r h ht ι H hr)
        ((List.range n).map fun i => (e, (cs.drop (0 + i * P.cellsOf e)).take (P.cellsOf e))) (by
          intro x hx
          simp only [List.mem_map, List.mem_range] at hx
          obtain ⟨i, hi, rfl⟩ := hx
          rw [Nat.zero_add]
          exact ⟨⟨xs[i], by rw [hf i hi]; exact List.getElem?_eq_getElem (by omega)⟩, hte⟩) ι H hr
      have a2 := All2.of_map a1
      refine ⟨ι₁, H₁, parts.flatten, e1, r1, ?_, parts, rfl, by rw [a2.length]; simp, ?_⟩
      · have := (a2.imp fun _ _ x => x.1).lvr
        rw [chunk_flat, ← hsz, List.drop_zero, ← hcl, List.take_length] at this
        exact this
      · refine All2.right (a2.imp_mem (S := fun _ p => p.length = P.cellsOf e ∧ Ty P H₁ f e p) ?_) fun _ _ x => x
        intro i hi p hp
        refine ⟨?_, hp.2⟩
        rw [hp.1.length]
        have := List.mem_range.1 hi
        have h3 : i * P.cellsOf e + P.cellsOf e ≤ n * P.cellsOf e := by rw [← Nat.succ_mul]; exact Nat.mul_le_mul_right _ this
        simp only [List.length_take, List.length_drop]; omega
    · cases ht
end
end Go.Ab
