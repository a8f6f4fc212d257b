/- Soundness of regions that draw their order. -/
import Derived.Test.YtebmnnbjfjadaaaGreatDoorFl
namespace Go.Ab
open Go

inductive Cls where
  | p | q1 | q2 | a | w
  deriving DecidableEq

def AOp.cls : AOp → Cls
  | .load .. | .slice .. => .q1
  | .callQ .. => .q2
  | .alloc .. | .box .. | .buildSlice .. | .mkSlice .. => .a
  | .store .. | .append .. | .call .. | .invoke .. | .callV .. | .hold .. => .w
  | _ => .p

def Cls.ok : Cls → Cls → Bool
  | .p, _ | _, .p => true
  | .q1, .q1 | .q1, .q2 | .q2, .q1 | .q2, .q2 => true
  | .q1, .a => true
  | _, _ => false

def AOp.opds : AOp → List AOpd
  | .mov x | .box x | .load _ x | .nilChk x | .isNil _ _ x | .un _ x | .conv _ x | .mkIface _ x | .mkSlice _ _ _ x | .fieldAddr _ x | .field _ _ x | .extract x _ | .len _ x => [x]
  | .pick c a b => [c, a, b]
  | .alloc _ => []
  | .build _ ps => vals ps
  | .buildSlice _ _ _ ps => ps.map (·.2)
  | .store _ a x | .bin _ a x | .eqB _ a x | .indexAddr _ _ a x | .index _ _ _ a x | .append _ _ a x | .minmax _ a x => [a, x]
  | .mkFunc _ a c => a ++ c
  | .slice _ x lo hi => [x] ++ lo.toList ++ hi.toList
  | .call _ xs | .callQ _ xs | .callE _ _ xs => xs
  | .invoke _ x xs | .callV x xs => x :: xs
  | .hold ds op => op.opds ++ ds.map (·.2)

def AOpd.tmp : AOpd → List Nat
  | .t n => [n]
  | .c _ => []

def AItem.reads (it : AItem) : List Nat := it.op.opds.flatMap AOpd.tmp ++ (match it.guard with | some (g, _) => [g] | none => [])

def writesInto (d : Option Nat) (l : List Nat) : Bool := match d with | some d => l.contains d | none => false

def AItem.apart (x y : AItem) : Bool := !writesInto x.dst y.reads && !writesInto y.dst x.reads && (match x.dst, y.dst with | some d, some e => d != e | _, _ => true)

def sameLoad (n : Option Nat) (p : AOpd) (d : Option Nat × AOpd) : Bool := match p, d.2 with
  | .t a, .t b => a == b && decide (n = d.1)
  | _, _ => false

/-- Does the second one see to it that the first one, a load, tells the same? -/
def AItem.holds (x y : AItem) : Bool := match x.op, y.op with
  | .load n p, .hold ds _ => decide (x.guard = y.guard) && ds.any (sameLoad n p)
  | _, _ => false

def AItem.compat (x y : AItem) : Bool := x.apart y && (x.op.cls.ok y.op.cls || x.holds y)

def Env.eqv (σ τ : Env) : Prop := ∀ n, σ.find n = τ.find n

section
variable {call : ACall} {meth : TypeId → String → Option FuncId}

theorem rd_congr {σ τ : Env} {x : AOpd} (h : ∀ n ∈ x.tmp, σ.find n = τ.find n) : σ.rd x = τ.rd x := by
  cases x with
  | t n => exact h n (by simp [AOpd.tmp])
  | c v => rfl

theorem rds_congr {σ τ : Env} : ∀ {xs : List AOpd}, (∀ x ∈ xs, σ.rd x = τ.rd x) → σ.rds xs = τ.rds xs
  | [], _ => rfl
  | x :: xs, h => by
    simp only [Env.rds, h x (by simp), rds_congr (xs := xs) fun y hy => h y (by simp [hy])]

theorem rdo_congr {σ τ : Env} {x : Option AOpd} (h : ∀ y ∈ x.toList, σ.rd y = τ.rd y) : σ.rdo x = τ.rdo x := by
  cases x with
  | none => rfl
  | some y => simp only [Env.rdo, h y (by simp)]

theorem evOp_congr {σ τ : Env} {H : AHeap} {op : AOp} (h : ∀ x ∈ op.opds, σ.rd x = τ.rd x) : evOp call meth σ H op = evOp call meth τ H op := by
  induction op with
  | hold ds op ih =>
    have h1 := ih fun x hx => h x (by simp [AOp.opds, hx])
    have h2 : ∀ H', ds.all (heldB σ H H') = ds.all (heldB τ H H') := by
      intro H'
      rw [Bool.eq_iff_iff, List.all_eq_true, List.all_eq_true]
      have e : ∀ d ∈ ds, heldB σ H H' d = heldB τ H H' d := fun d hd => by
        unfold heldB; rw [h d.2 (by simp only [AOp.opds, List.mem_append, List.mem_map]; exact .inr ⟨d, hd, rfl⟩)]
      exact ⟨fun k d hd => by rw [← e d hd]; exact k d hd, fun k d hd => by rw [e d hd]; exact k d hd⟩
    simp only [evOp, h1, h2]
  | mov x => simp only [evOp, h x (by simp [AOp.opds])]
  | pick c x y => simp only [evOp, h c (by simp [AOp.opds]), h x (by simp [AOp.opds]), h y (by simp [AOp.opds])]
  | alloc z => rfl
  | box x => simp only [evOp, h x (by simp [AOp.opds])]
  | build z ps => simp only [evOp, rds_congr (xs := vals ps) h]
  | buildSlice s z n ps => simp only [evOp]; rw [rds_congr (xs := ps.map (fun (p : Nat × AOpd) => p.2)) h]
  | load n x => simp only [evOp, h x (by simp [AOp.opds])]
  | store n x y => simp only [evOp, h x (by simp [AOp.opds]), h y (by simp [AOp.opds])]
  | nilChk x => simp only [evOp, h x (by simp [AOp.opds])]
  | bin op x y => simp only [evOp, h x (by simp [AOp.opds]), h y (by simp [AOp.opds])]
  | eqB n x y => simp only [evOp, h x (by simp [AOp.opds]), h y (by simp [AOp.opds])]
  | isNil k n x => simp only [evOp, h x (by simp [AOp.opds])]
  | un op x => simp only [evOp, h x (by simp [AOp.opds])]
  | conv k x => simp only [evOp, h x (by simp [AOp.opds])]
  | mkIface t x => simp only [evOp, h x (by simp [AOp.opds])]
  | mkFunc fn x y => simp only [evOp, rds_congr (xs := x) fun z hz => h z (by simp [AOp.opds, hz]), rds_congr (xs := y) fun z hz => h z (by simp [AOp.opds, hz])]
  | mkSlice s b z l => simp only [evOp, h l (by simp [AOp.opds])]
  | slice s x l r =>
    simp only [evOp, h x (by simp [AOp.opds]), rdo_congr (x := l) fun z hz => h z (by simp [AOp.opds] at hz ⊢; simp [hz]), rdo_congr (x := r) fun z hz => h z (by simp [AOp.opds] at hz ⊢; simp [hz])]
  | fieldAddr n x => simp only [evOp, h x (by simp [AOp.opds])]
  | field n m x => simp only [evOp, h x (by simp [AOp.opds])]
  | indexAddr arr s x i => simp only [evOp, h x (by simp [AOp.opds]), h i (by simp [AOp.opds])]
  | index l s n x i => simp only [evOp, h x (by simp [AOp.opds]), h i (by simp [AOp.opds])]
  | extract x i => simp only [evOp, h x (by simp [AOp.opds])]
  | len s x => simp only [evOp, h x (by simp [AOp.opds])]
  | append s b x y => simp only [evOp, h x (by simp [AOp.opds]), h y (by simp [AOp.opds])]
  | minmax m x y => simp only [evOp, h x (by simp [AOp.opds]), h y (by simp [AOp.opds])]
  | call f xs => simp only [evOp, rds_congr (xs := xs) h]
  | callQ f xs => simp only [evOp, rds_congr (xs := xs) h]
  | callE g f xs => simp only [evOp, rds_congr (xs := xs) h]
  | invoke m x xs => simp only [evOp, h x (by simp [AOp.opds]), rds_congr (xs := xs) fun z hz => h z (by simp [AOp.opds, hz])]
  | callV x xs => simp only [evOp, h x (by simp [AOp.opds]), rds_congr (xs := xs) fun z hz => h z (by simp [AOp.opds, hz])]

theorem evItem_congr {σ τ : Env} {H : AHeap} {it : AItem} (h : ∀ n ∈ it.reads, σ.find n = τ.find n) : evItem call meth σ H it = evItem call meth τ H it := by
  have hop : evOp call meth σ H it.op = evOp call meth τ H it.op := evOp_congr fun x hx => rd_congr fun n hn => h n (by
    simp only [AItem.reads, List.mem_append, List.mem_flatMap]; exact .inl ⟨x, hx, hn⟩)
  unfold evItem
  rw [hop]
  obtain ⟨dst, guard, op⟩ := it
  cases guard with
  | none => rfl
  | some g =>
    obtain ⟨g, b⟩ := g
    simp only []
    rw [h g (by simp [AItem.reads])]

theorem find_putO {σ : Env} {d : Option Nat} {v : Value} {n : Nat} (h : d ≠ some n) : (σ.putO d v).find n = σ.find n := by
  cases d with
  | none => rfl
  | some d =>
    simp only [Env.putO, Env.find_put]
    rw [if_neg (fun e => h (by rw [e]))]

theorem Env.eqv.putO {σ τ : Env} (h : σ.eqv τ) (d : Option Nat) (v : Value) : (σ.putO d v).eqv (τ.putO d v) := by
  intro n
  cases d with
  | none => exact h n
  | some d => simp only [Env.putO, Env.find_put, h n]

theorem evItems_eqv : ∀ {its : List AItem} {σ τ : Env} {H : AHeap} {σ' : Env} {H' : AHeap}, σ.eqv τ → evItems call meth its σ H = some (σ', H') →
    ∃ τ', evItems call meth its τ H = some (τ', H') ∧ σ'.eqv τ'
  | [], σ, τ, H, σ', H', he, h => by
    simp only [evItems, Option.some.injEq, Prod.mk.injEq] at h
    obtain ⟨rfl, rfl⟩ := h
    exact ⟨τ, rfl, he⟩
  | it :: its, σ, τ, H, σ', H', he, h => by
    rw [evItems_cons] at h ⊢
    rw [← evItem_congr (fun n _ => he n)]
    split at h
    · rename_i v H1 hv
      exact evItems_eqv (he.putO it.dst v) h
    · cases h

/-- What a class says. -/
theorem cls_p {σ : Env} {H : AHeap} {op : AOp} (hc : op.cls = .p) {v : Value} {H' : AHeap} (h : evOp call meth σ H op = some (v, H')) : H' = H ∧ ∀ H₂, evOp call meth σ H₂ op = some (v, H₂) := by
  cases op <;> simp [AOp.cls] at hc
  all_goals
    simp only [evOp] at h ⊢
    (repeat' split at h) <;> (first | (cases h; done) | (cases h; refine ⟨rfl, fun H₂ => ?_⟩; first | (simp_all; done) | (simp_all; omega)))

theorem get_new_old {H : AHeap} {o p : AObj} {i : Nat} (h : H.get i = some p) : (H.new o).get i = some p := by
  rw [AHeap.get_new_ne]
  · exact h
  · have := AHeap.get_lt h; omega

theorem read_new_old {H : AHeap} {o : AObj} {i off n : Nat} {l : List Value} (h : H.read i off n = some l) : (H.new o).read i off n = some l := by
  unfold AHeap.read at h ⊢
  split at h
  · cases h
  · rename_i p hp; rw [get_new_old hp]; exact h

theorem aLoad_new {H : AHeap} {o : AObj} {n : Option Nat} {p v : Value} (h : aLoad H n p = some v) : aLoad (H.new o) n p = some v := by
  unfold aLoad at h ⊢
  split at h
  · cases n with
    | none =>
      simp only [] at h ⊢
      split at h
      · rename_i q hq; simp only [get_new_old hq]; exact h
      · cases h
    | some n =>
      simp only [] at h ⊢
      split at h
      · rename_i cs hcs; simp only [read_new_old hcs]; exact h
      · cases h
  · cases h

theorem cls_q1 {σ : Env} {H : AHeap} {op : AOp} (hc : op.cls = .q1) {v : Value} {H' : AHeap} (h : evOp call meth σ H op = some (v, H')) : H' = H ∧ ∀ o, evOp call meth σ (H.new o) op = some (v, H.new o) := by
  cases op <;> simp [AOp.cls] at hc
  case load n x =>
    simp only [evOp] at h ⊢
    split at h
    · rename_i p hp
      split at h
      · rename_i u hu
        cases h
        exact ⟨rfl, fun o => by simp only [aLoad_new hu]⟩
      · cases h
    · cases h
  case slice s x lo hi =>
    simp only [evOp] at h ⊢
    split at h
    · rename_i aa len c lov hiv h1 h2 h3
      split at h
      · rename_i l hh hb
        split at h
        · rename_i r hres
          cases h
          refine ⟨rfl, fun o => ?_⟩
          have : aCut (H.new o) s aa len l hh = some v := by
            unfold aCut at hres ⊢
            split at hres
            · split at hres
              · rename_i i off hany
                cases hres
                cases hg : H.get i with
                | none => rw [hg] at hany; simp at hany
                | some p => rw [hg] at hany; simp only [get_new_old hg, hany, if_true]
              · cases hres
            · exact hres
            · cases hres
          simp only [this]
        · cases h
      · cases h
    · cases h

theorem cls_q2 {σ : Env} {H : AHeap} {op : AOp} (hc : op.cls = .q2) {v : Value} {H' : AHeap} (h : evOp call meth σ H op = some (v, H')) : H' = H := by
  cases op <;> simp [AOp.cls] at hc
  simp only [evOp] at h
  (repeat' split at h) <;> (first | (cases h; done) | (cases h; rfl))

theorem cls_a {σ : Env} {H : AHeap} {op : AOp} (hc : op.cls = .a) {v : Value} {H' : AHeap} (h : evOp call meth σ H op = some (v, H')) : ∃ o, H' = H.new o := by
  cases op <;> simp [AOp.cls] at hc
  all_goals
    simp only [evOp] at h
    (repeat' split at h) <;> (first | (cases h; done) | (cases h; exact ⟨_, rfl⟩))

/-- The same of items. -/
theorem it_p {σ : Env} {H : AHeap} {it : AItem} (hc : it.op.cls = .p) {v : Value} {H' : AHeap} (h : evItem call meth σ H it = some (v, H')) : H' = H ∧ ∀ H₂, evItem call meth σ H₂ it = some (v, H₂) := by
  unfold evItem at h ⊢
  split at h
  · exact cls_p hc h
  · split at h
    · split at h
      · rename_i hbw; simp only [hbw, if_true]; exact cls_p hc h
      · rename_i hbw; cases h; simp [hbw]
    · cases h

theorem it_q1 {σ : Env} {H : AHeap} {it : AItem} (hc : it.op.cls = .q1) {v : Value} {H' : AHeap} (h : evItem call meth σ H it = some (v, H')) : H' = H ∧ ∀ o, evItem call meth σ (H.new o) it = some (v, H.new o) := by
  unfold evItem at h ⊢
  split at h
  · exact cls_q1 hc h
  · split at h
    · split at h
      · rename_i hbw; simp only [hbw, if_true]; exact cls_q1 hc h
      · rename_i hbw; cases h; simp [hbw]
    · cases h

theorem it_q2 {σ : Env} {H : AHeap} {it : AItem} (hc : it.op.cls = .q2) {v : Value} {H' : AHeap} (h : evItem call meth σ H it = some (v, H')) : H' = H := by
  unfold evItem at h
  split at h
  · exact cls_q2 hc h
  · split at h
    · split at h
      · exact cls_q2 hc h
      · cases h; rfl
    · cases h

theorem it_a {σ : Env} {H : AHeap} {it : AItem} (hc : it.op.cls = .a) {v : Value} {H' : AHeap} (h : evItem call meth σ H it = some (v, H')) : H' = H ∨ ∃ o, H' = H.new o := by
  unfold evItem at h
  split at h
  · exact .inr (cls_a hc h)
  · split at h
    · split at h
      · exact .inr (cls_a hc h)
      · cases h; exact .inl rfl
    · cases h

theorem contains_false {l : List Nat} {d n : Nat} (h : l.contains d = false) (hn : n ∈ l) : d ≠ n := by
  intro e; subst e
  rw [← Bool.not_eq_true, List.contains_iff_mem] at h
  exact h hn

/-- Two neighbours change places. -/
theorem swap {x y : AItem} {rest : List AItem} (hc : x.compat y = true) {σ : Env} {H : AHeap} {σ' : Env} {H' : AHeap} (h : evItems call meth (x :: y :: rest) σ H = some (σ', H')) :
    ∃ τ', evItems call meth (y :: x :: rest) σ H = some (τ', H') ∧ σ'.eqv τ' := by
  simp only [AItem.compat, AItem.apart, Bool.and_eq_true, Bool.not_eq_true'] at hc
  obtain ⟨⟨⟨h1, h2⟩, h3⟩, h4⟩ := hc
  rw [Bool.or_eq_true] at h4
  rw [evItems_cons] at h
  split at h
  · rename_i vx Hx hx
    rw [evItems_cons] at h
    split at h
    · rename_i vy Hy hy
      have ny : ∀ (τ : Env) (K : AHeap) v, evItem call meth (τ.putO x.dst v) K y = evItem call meth τ K y := fun τ K v =>
        evItem_congr fun n hn => find_putO fun e => by rw [e] at h1; exact contains_false h1 hn rfl
      have nx : ∀ (τ : Env) (K : AHeap) v, evItem call meth (τ.putO y.dst v) K x = evItem call meth τ K x := fun τ K v =>
        evItem_congr fun n hn => find_putO fun e => by rw [e] at h2; exact contains_false h2 hn rfl
      rw [ny] at hy
      have key : ∃ K, evItem call meth σ H y = some (vy, K) ∧ evItem call meth σ K x = some (vx, Hy) := by
        rcases h4 with h4 | h4
        case inr =>
          unfold AItem.holds at h4
          split at h4
          · rename_i n p ds op hxo hyo
            simp only [Bool.and_eq_true, decide_eq_true_eq] at h4
            obtain ⟨hgd, h4⟩ := h4
            rw [List.any_eq_true] at h4
            obtain ⟨d, hd, hsd⟩ := h4
            have main : ∀ {vx Hx vy Hy}, evOp call meth σ H x.op = some (vx, Hx) → evOp call meth σ Hx y.op = some (vy, Hy) → ∃ K, evOp call meth σ H y.op = some (vy, K) ∧ evOp call meth σ K x.op = some (vx, Hy) := by
              intro vx Hx vy Hy hx hy
              rw [hxo] at hx ⊢
              rw [hyo] at hy ⊢
              simp only [evOp] at hx hy ⊢
              split at hx
              · rename_i q hq
                split at hx
                · rename_i u hu
                  cases hx
                  split at hy
                  · rename_i z Hz hz
                    obtain ⟨hall, hy⟩ := ite_some hy
                    cases hy
                    refine ⟨Hy, by rw [if_pos hall], ?_⟩
                    rw [List.all_eq_true] at hall
                    have hh := hall d hd
                    have hpd : p = d.2 ∧ n = d.1 := by
                      unfold sameLoad at hsd
                      split at hsd
                      · rename_i a b ha hb
                        simp only [Bool.and_eq_true, beq_iff_eq, decide_eq_true_eq] at hsd
                        exact ⟨by rw [hb, hsd.1], hsd.2⟩
                      · cases hsd
                    unfold heldB at hh
                    rw [← hpd.1, ← hpd.2, hq] at hh
                    simp only [hu] at hh
                    split at hh
                    · rename_i u₁ u₂ e1 e2
                      cases e1
                      rw [eqV_eq _ _ _ hh]
                      simp only [e2]
                    · cases hh
                  · cases hy
                · cases hx
              · cases hx
            unfold evItem at hx hy ⊢
            rw [← hgd] at hy ⊢
            cases hgx : x.guard with
            | none => rw [hgx] at hx hy; exact main hx hy
            | some g =>
              obtain ⟨g, want⟩ := g
              rw [hgx] at hx hy
              simp only [] at hx hy ⊢
              cases hf : σ.find g with
              | none => rw [hf] at hx; cases hx
              | some ub =>
                rw [hf] at hx hy
                cases ub <;> simp only [] at hx hy ⊢ <;> (first | (cases hx; done) | skip)
                rename_i b
                by_cases hbw : b = want
                · simp only [if_pos hbw] at hx hy ⊢; exact main hx hy
                · simp only [if_neg hbw] at hx hy ⊢; cases hx; cases hy; exact ⟨_, rfl, rfl⟩
          · cases h4
        cases hcx : x.op.cls
        case p =>
          obtain ⟨rfl, hp⟩ := it_p hcx hx
          exact ⟨Hy, hy, hp Hy⟩
        all_goals cases hcy : y.op.cls <;> rw [hcx, hcy] at h4 <;> simp only [Cls.ok, Bool.false_eq_true] at h4
        case q1.p => obtain ⟨rfl, hp⟩ := it_p hcy hy; exact ⟨H, hp H, hx⟩
        case q2.p => obtain ⟨rfl, hp⟩ := it_p hcy hy; exact ⟨H, hp H, hx⟩
        case a.p => obtain ⟨rfl, hp⟩ := it_p hcy hy; exact ⟨H, hp H, hx⟩
        case w.p => obtain ⟨rfl, hp⟩ := it_p hcy hy; exact ⟨H, hp H, hx⟩
        case q1.q1 => obtain ⟨rfl, _⟩ := it_q1 hcx hx; obtain ⟨rfl, _⟩ := it_q1 hcy hy; exact ⟨_, hy, hx⟩
        case q1.q2 => obtain ⟨rfl, _⟩ := it_q1 hcx hx; obtain rfl := it_q2 hcy hy; exact ⟨_, hy, hx⟩
        case q2.q1 => obtain rfl := it_q2 hcx hx; obtain ⟨rfl, _⟩ := it_q1 hcy hy; exact ⟨_, hy, hx⟩
        case q2.q2 => obtain rfl := it_q2 hcx hx; obtain rfl := it_q2 hcy hy; exact ⟨_, hy, hx⟩
        case q1.a =>
          obtain ⟨rfl, hp⟩ := it_q1 hcx hx
          rcases it_a hcy hy with rfl | ⟨o, rfl⟩
          · exact ⟨_, hy, hx⟩
          · exact ⟨_, hy, hp o⟩
      obtain ⟨K, k1, k2⟩ := key
      have hne : ∀ d e, x.dst = some d → y.dst = some e → d ≠ e := by
        intro d e hd he
        rw [hd, he] at h3
        simpa using h3
      have hcomm : ((σ.putO x.dst vx).putO y.dst vy).eqv ((σ.putO y.dst vy).putO x.dst vx) := by
        intro n
        cases hdx : x.dst with
        | none => rfl
        | some d =>
          cases hdy : y.dst with
          | none => rfl
          | some e =>
            have := hne d e hdx hdy
            simp only [Env.putO, Env.find_put]
            by_cases h5 : e = n
            · by_cases h6 : d = n
              · omega
              · simp [h5, h6]
            · simp [h5]
      obtain ⟨τ', t1, t2⟩ := evItems_eqv hcomm h
      refine ⟨τ', ?_, t2⟩
      rw [evItems_cons, k1]
      simp only []
      rw [evItems_cons, nx, k2]
      exact t1
    · cases h
  · cases h

theorem Env.eqv.trans {σ τ υ : Env} (h : σ.eqv τ) (h' : τ.eqv υ) : σ.eqv υ := fun n => (h n).trans (h' n)

/-- One of a row goes first. -/
theorem to_front {y : AItem} {l₂ : List AItem} : ∀ {l₁ : List AItem} {σ : Env} {H : AHeap} {σ' : Env} {H' : AHeap}, (∀ x ∈ l₁, x.compat y = true) →
    evItems call meth (l₁ ++ y :: l₂) σ H = some (σ', H') → ∃ τ', evItems call meth (y :: (l₁ ++ l₂)) σ H = some (τ', H') ∧ σ'.eqv τ'
  | [], σ, H, σ', H', _, h => ⟨σ', h, fun _ => rfl⟩
  | x :: l₁, σ, H, σ', H', hc, h => by
    rw [List.cons_append, evItems_cons] at h
    split at h
    · rename_i v H1 hv
      obtain ⟨τ, t1, t2⟩ := to_front (fun z hz => hc z (by simp [hz])) h
      have h2 : evItems call meth (x :: y :: (l₁ ++ l₂)) σ H = some (τ, H') := by rw [evItems_cons, hv]; exact t1
      obtain ⟨υ, u1, u2⟩ := swap (hc x (by simp)) h2
      exact ⟨υ, u1, t2.trans u2⟩
    · cases h

def AOp.strip : AOp → AOp
  | .hold _ op => op
  | op => op

def AItem.strip (it : AItem) : AItem := { it with op := it.op.strip }

theorem evItem_strip {σ : Env} {H : AHeap} {it : AItem} {v : Value} {H' : AHeap} (h : evItem call meth σ H it = some (v, H')) : evItem call meth σ H it.strip = some (v, H') := by
  obtain ⟨dst, guard, op⟩ := it
  cases op <;> try exact h
  rename_i ds op
  have main : ∀ {v H'}, evOp call meth σ H (.hold ds op) = some (v, H') → evOp call meth σ H op = some (v, H') := by
    intro v H' h
    simp only [evOp] at h
    split at h
    · rename_i z Hz hz
      split at h
      · cases h; exact hz
      · cases h
    · cases h
  unfold evItem AItem.strip AOp.strip at *
  cases guard with
  | none => exact main h
  | some g =>
    obtain ⟨g, want⟩ := g
    simp only [] at h ⊢
    cases hf : σ.find g with
    | none => rw [hf] at h; cases h
    | some ub =>
      rw [hf] at h
      cases ub <;> simp only [] at h ⊢ <;> (first | (cases h; done) | skip)
      rename_i b
      by_cases hbw : b = want
      · simp only [if_pos hbw] at h ⊢; exact main h
      · simp only [if_neg hbw] at h ⊢; exact h

theorem evItems_strip {σ : Env} {H : AHeap} {it : AItem} {l : List AItem} {r : Env × AHeap} (h : evItems call meth (it :: l) σ H = some r) : evItems call meth (it.strip :: l) σ H = some r := by
  rw [evItems_cons] at h ⊢
  split at h
  · rename_i v H1 hv
    rw [evItem_strip hv]
    exact h
  · cases h

/-- One of a row goes first, without what it holds. -/
def arrOk (y : AItem) : List AItem → Bool
  | [] => true
  | x :: r => if x.compat y.strip then arrOk y r else x.compat y && r.all (fun z => z.compat y)

theorem to_front_strip {y : AItem} {l₂ : List AItem} : ∀ {l₁ : List AItem} {σ : Env} {H : AHeap} {σ' : Env} {H' : AHeap}, arrOk y l₁ = true →
    evItems call meth (l₁ ++ y :: l₂) σ H = some (σ', H') → ∃ τ', evItems call meth (y.strip :: (l₁ ++ l₂)) σ H = some (τ', H') ∧ σ'.eqv τ'
  | [], σ, H, σ', H', _, h => ⟨σ', evItems_strip h, fun _ => rfl⟩
  | x :: l₁, σ, H, σ', H', hc, h => by
    simp only [arrOk] at hc
    split at hc
    · rename_i hx
      rw [List.cons_append, evItems_cons] at h
      split at h
      · rename_i v H1 hv
        obtain ⟨τ, t1, t2⟩ := to_front_strip hc h
        have h2 : evItems call meth (x :: y.strip :: (l₁ ++ l₂)) σ H = some (τ, H') := by rw [evItems_cons, hv]; exact t1
        obtain ⟨υ, u1, u2⟩ := swap hx h2
        exact ⟨υ, u1, t2.trans u2⟩
      · cases h
    · simp only [Bool.and_eq_true, List.all_eq_true] at hc
      obtain ⟨τ, t1, t2⟩ := to_front (l₁ := x :: l₁) (fun z hz => by
        cases hz with
        | head => exact hc.1
        | tail _ hz => exact hc.2 z hz) h
      exact ⟨τ, evItems_strip t1, t2⟩
end
end Go.Ab
