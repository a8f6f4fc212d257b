/- Soundness of code and of functions. -/
import Derived.Test.YtebmnnbjfjadaaaGreatDoorFm
namespace Go.Ab
open Go

def maskOk (ops : Array Oper) (m : Array Nat) : Bool := (List.range ops.size).all fun i =>
  match ops[i]? with
  | some o => o.after.toList.all (fun e => !Region.binds .any e || decide (e.on < i)) &&
      (m.getD i 0 == o.after.toList.foldl (fun s e => if Region.binds .any e then s ||| 2 ^ e.on ||| m.getD e.on 0 else s) 0)
  | none => false

/-- A pair that may be met in either order. -/
def pairOk (m : Array Nat) (x y : Nat × AItem) : Bool := (m.getD y.1 0).testBit x.1 || x.2.compat y.2.strip || x.2.compat y.2

def triOk (m : Array Nat) (x z y : Nat × AItem) : Bool := (m.getD y.1 0).testBit x.1 || (m.getD y.1 0).testBit z.1 || x.2.compat y.2.strip || z.2.compat y.2

def triIn (m : Array Nat) (x : Nat × AItem) : List (Nat × AItem) → Bool
  | [] => true
  | z :: r => r.all (triOk m x z) && triIn m x r

def pairsOk (m : Array Nat) : List (Nat × AItem) → Bool
  | [] => true
  | x :: r => r.all (pairOk m x) && triIn m x r && pairsOk m r

def nodupB : List Nat → Bool
  | [] => true
  | x :: r => !r.contains x && nodupB r

def chkRegd (P : Program) (gl N : Nat) (ops : Array Oper) (ord : List Nat) (its : List AItem) : Bool :=
  let m := Region.before ops
  maskOk ops m && decide (ord.length = ops.size) && nodupB ord && (List.range ops.size).all (fun i => ord.contains i) && chkItems P gl N ops its ord && pairsOk m (ord.zip its)

def Down (ops : Array Oper) (listed : Array Bool) : Prop :=
  ∀ i o, ops[i]? = some o → listed.getD i true = true → ∀ e ∈ o.after.toList, Region.binds .any e = true → listed.getD e.on false = true

theorem ready_spec {ops : Array Oper} {listed : Array Bool} {i : Nat} (h : i ∈ Region.ready .any ops listed) :
    i < ops.size ∧ listed.getD i true = false ∧ ∀ o, ops[i]? = some o → ∀ e ∈ o.after.toList, Region.binds .any e = true → listed.getD e.on false = true := by
  simp only [Region.ready, List.mem_filter, List.mem_range, Bool.and_eq_true, Bool.not_eq_true'] at h
  refine ⟨h.1, h.2.1, fun o ho e he hb => ?_⟩
  have h2 := h.2.2
  rw [ho] at h2
  simp only [Option.map_some, Option.getD_some, Array.all_eq_true] at h2
  rw [Array.mem_toList_iff, Array.mem_iff_getElem] at he
  obtain ⟨k, hk, rfl⟩ := he
  have := h2 k hk
  rw [hb] at this
  simpa using this

theorem ready_of {ops : Array Oper} {listed : Array Bool} {i : Nat} {o : Oper} (ho : ops[i]? = some o) (h1 : listed.getD i true = false)
    (h2 : ∀ e ∈ o.after.toList, Region.binds .any e = true → listed.getD e.on false = true) : i ∈ Region.ready .any ops listed := by
  have hi : i < ops.size := by
    rcases Nat.lt_or_ge i ops.size with h | h
    · exact h
    · rw [Array.getElem?_eq_none h] at ho; cases ho
  simp only [Region.ready, List.mem_filter, List.mem_range, Bool.and_eq_true, Bool.not_eq_true']
  refine ⟨hi, h1, ?_⟩
  rw [ho]
  simp only [Option.map_some, Option.getD_some, Array.all_eq_true]
  intro k hk
  by_cases hb : Region.binds .any o.after[k] = true
  · have := h2 o.after[k] (by simp) hb
    simp [hb, this]
  · simp at hb; simp [hb]

theorem maskOk_spec {ops : Array Oper} {m : Array Nat} (h : maskOk ops m = true) {i : Nat} {o : Oper} (ho : ops[i]? = some o) :
    (∀ e ∈ o.after.toList, Region.binds .any e = true → e.on < i) ∧
    m.getD i 0 = o.after.toList.foldl (fun s e => if Region.binds .any e then s ||| 2 ^ e.on ||| m.getD e.on 0 else s) 0 := by
  have hi : i < ops.size := by
    rcases Nat.lt_or_ge i ops.size with h | h
    · exact h
    · rw [Array.getElem?_eq_none h] at ho; cases ho
  simp only [maskOk, List.all_eq_true, List.mem_range] at h
  have := h i hi
  rw [ho] at this
  simp only [Bool.and_eq_true, List.all_eq_true, beq_iff_eq] at this
  refine ⟨fun e he hb => ?_, this.2⟩
  have h1 := this.1 e he
  rw [hb] at h1
  simpa using h1

theorem fold_bit (m : Array Nat) (j : Nat) : ∀ (l : List Edge) (s : Nat), (l.foldl (fun s e => if Region.binds .any e then s ||| 2 ^ e.on ||| m.getD e.on 0 else s) s).testBit j = true →
    s.testBit j = true ∨ ∃ e ∈ l, Region.binds .any e = true ∧ (e.on = j ∨ (m.getD e.on 0).testBit j = true)
  | [], s, h => .inl h
  | e :: l, s, h => by
    simp only [List.foldl_cons] at h
    rcases fold_bit m j l _ h with h1 | ⟨e', he', h1⟩
    · split at h1
      · rename_i hb
        rw [Nat.testBit_or, Nat.testBit_or, Bool.or_eq_true, Bool.or_eq_true] at h1
        rcases h1 with (h1 | h1) | h1
        · exact .inl h1
        · rw [Nat.testBit_two_pow] at h1
          exact .inr ⟨e, by simp, hb, .inl (by simpa using h1)⟩
        · exact .inr ⟨e, by simp, hb, .inr h1⟩
      · exact .inl h1
    · exact .inr ⟨e', by simp [he'], h1⟩

theorem getD_true_false {l : Array Bool} {i : Nat} (h : l.getD i false = true) : l.getD i true = true := by
  simp only [Array.getD_eq_getD_getElem?] at h ⊢
  cases hl : l[i]? with
  | none => rfl
  | some b => rw [hl] at h; simpa using h

/-- Whatever stands ahead of one that is ready has been done. -/
theorem anc_listed {ops : Array Oper} {m : Array Nat} (hm : maskOk ops m = true) {listed : Array Bool} (hd : Down ops listed) : ∀ (i : Nat) (o : Oper), ops[i]? = some o →
    (∀ e ∈ o.after.toList, Region.binds .any e = true → listed.getD e.on false = true) → ∀ j, (m.getD i 0).testBit j = true → listed.getD j false = true := by
  intro i
  induction i using Nat.strongRecOn with
  | _ i ih =>
    intro o ho hp j hj
    obtain ⟨h1, h2⟩ := maskOk_spec hm ho
    rw [h2] at hj
    rcases fold_bit m j _ _ hj with h3 | ⟨e, he, hb, h3⟩
    · simp at h3
    · have hl := hp e he hb
      rcases h3 with rfl | h3
      · exact hl
      · have hlt := h1 e he hb
        have hin : e.on < ops.size := by
          have : i < ops.size := by
            rcases Nat.lt_or_ge i ops.size with h | h
            · exact h
            · rw [Array.getElem?_eq_none h] at ho; cases ho
          omega
        have ho' : ops[e.on]? = some ops[e.on] := Array.getElem?_eq_getElem hin
        exact ih e.on hlt _ ho' (hd _ _ ho' (getD_true_false hl)) j h3

theorem ready_ex {ops : Array Oper} {m : Array Nat} (hm : maskOk ops m = true) {listed : Array Bool} (hsz : listed.size = ops.size) : ∀ (i : Nat), i < ops.size → listed.getD i true = false → Region.ready .any ops listed ≠ [] := by
  intro i
  induction i using Nat.strongRecOn with
  | _ i ih =>
    intro hi hl
    have ho : ops[i]? = some ops[i] := Array.getElem?_eq_getElem hi
    by_cases hall : ∀ e ∈ (ops[i]).after.toList, Region.binds .any e = true → listed.getD e.on false = true
    · intro hr
      have := ready_of ho hl hall
      rw [hr] at this
      cases this
    · simp only [Classical.not_forall] at hall
      obtain ⟨e, he, hb, hn⟩ := hall
      have hlt := (maskOk_spec hm ho).1 e he hb
      refine ih e.on hlt (by omega) ?_
      have he2 : e.on < listed.size := by omega
      simp only [Array.getD_eq_getD_getElem?, Array.getElem?_eq_getElem he2, Option.getD_some] at hn ⊢
      simpa using hn

section
variable {P : Program} {G : Glob} {N : Nat} {call : ACall} {meth : TypeId → String → Option FuncId}

theorem triIn_spec {m : Array Nat} {x y : Nat × AItem} {l₂ : List (Nat × AItem)} : ∀ {l₁ : List (Nat × AItem)}, triIn m x (l₁ ++ y :: l₂) = true →
    (∀ z ∈ l₁, triOk m x z y = true) ∧ triIn m x (l₁ ++ l₂) = true
  | [], h => by
    simp only [List.nil_append, triIn, Bool.and_eq_true] at h
    exact ⟨fun x hx => (by cases hx), h.2⟩
  | z :: l₁, h => by
    simp only [List.cons_append, triIn, Bool.and_eq_true, List.all_eq_true] at h
    obtain ⟨h1, h2⟩ := triIn_spec h.2
    refine ⟨fun u hu => ?_, ?_⟩
    · cases hu with
      | head => exact h.1 y (by simp)
      | tail _ hu => exact h1 u hu
    · simp only [List.cons_append, triIn, Bool.and_eq_true, List.all_eq_true]
      exact ⟨fun u hu => h.1 u (by simp at hu ⊢; rcases hu with hu | hu <;> simp [hu]), h2⟩

theorem pairsOk_spec {m : Array Nat} {y : Nat × AItem} {l₂ : List (Nat × AItem)} : ∀ {l₁ : List (Nat × AItem)}, pairsOk m (l₁ ++ y :: l₂) = true →
    ((∀ x ∈ l₁, (m.getD y.1 0).testBit x.1 = false) → arrOk y.2 (l₁.map (·.2)) = true) ∧ pairsOk m (l₁ ++ l₂) = true
  | [], h => by
    simp only [List.nil_append, pairsOk, Bool.and_eq_true] at h
    exact ⟨fun _ => rfl, h.2⟩
  | x :: l₁, h => by
    simp only [List.cons_append, pairsOk, Bool.and_eq_true, List.all_eq_true] at h
    obtain ⟨h1, h2⟩ := pairsOk_spec h.2
    obtain ⟨h3, h4⟩ := triIn_spec h.1.2
    refine ⟨fun hno => ?_, ?_⟩
    · have hx := hno x (by simp)
      have hp := h.1.1 y (by simp)
      simp only [pairOk, hx, Bool.false_or, Bool.or_eq_true] at hp
      simp only [List.map_cons, arrOk]
      split
      · exact h1 fun z hz => hno z (by simp [hz])
      · rename_i hns
        simp only [Bool.and_eq_true, List.all_eq_true]
        refine ⟨hp.resolve_left hns, fun z hz => ?_⟩
        rw [List.mem_map] at hz
        obtain ⟨u, hu, rfl⟩ := hz
        have ht := h3 u hu
        simp only [triOk, hx, hno u (by simp [hu]), Bool.false_or, Bool.or_eq_true] at ht
        exact ht.resolve_left hns
    · simp only [List.cons_append, pairsOk, Bool.and_eq_true, List.all_eq_true]
      exact ⟨⟨fun z hz => h.1.1 z (by simp at hz ⊢; rcases hz with hz | hz <;> simp [hz]), h4⟩, h2⟩

theorem chkItem_strip {ops : Array Oper} {it : AItem} {o : Oper} (h : chkItem P G.n N ops it o = true) : chkItem P G.n N ops it.strip o = true := by
  simp only [chkItem, Bool.and_eq_true] at h ⊢
  refine ⟨h.1, ?_⟩
  have h2 := h.2
  obtain ⟨dst, guard, op⟩ := it
  cases op <;> try exact h2
  rename_i ds op
  simp only [chkAny] at h2
  show chkAny P G.n op o.op = true
  cases op <;> try exact h2
  rename_i ds' op'
  exfalso
  unfold chkBare at h2
  split at h2
  · simp [chkCall] at h2
  · simp [chkOp] at h2

/-- A region's operations, in whatever order. -/
theorem any_sound (hcs : CallS P G call) (hms : MethS P meth) {ops : Array Oper} {m : Array Nat} (hm : maskOk ops m = true) {Q : Exit → Act → World → Prop} :
    ∀ (n : Nat) (L : List (Nat × AItem)) (listed : Array Bool) {ι : Inj} {H : AHeap} {w : World} {σ : Env} {a : Act}, L.length = n → Rel G ι H w → EnvR ι N σ a → listed.size = ops.size →
      (∀ x ∈ L, ∃ o, ops[x.1]? = some o ∧ chkItem P G.n N ops x.2 o = true) → (∀ i, i < ops.size → (listed.getD i true = false ↔ i ∈ L.map (·.1))) → (L.map (·.1)).Nodup →
      pairsOk m L = true → Down ops listed → ∀ {σ' : Env} {H' : AHeap}, evItems call meth (L.map (·.2)) σ H = some (σ', H') →
      (∀ ι' σ'' a' w', Post G ι H w ι' H' w' → σ'.eqv σ'' → EnvR ι' N σ'' a' → Q .normal a' w') → wpAny P .any ops Q n listed a w := by
  intro n
  induction n with
  | zero =>
    intro L listed ι H w σ a hL hr he hsz hchk hset hnd hpairs hdown σ' H' hev hq
    have hnil : L = [] := List.eq_nil_of_length_eq_zero hL
    subst hnil
    simp only [List.map_nil, evItems, Option.some.injEq, Prod.mk.injEq] at hev
    obtain ⟨rfl, rfl⟩ := hev
    refine ⟨?_, hq ι σ a w (Post.refl hr) (fun _ => rfl) he⟩
    cases hrd : Region.ready .any ops listed with
    | nil => rfl
    | cons i r =>
      have hi : i ∈ Region.ready .any ops listed := by rw [hrd]; simp
      obtain ⟨h1, h2, _⟩ := ready_spec hi
      have := (hset i h1).1 h2
      simp at this
  | succ n ih =>
    intro L listed ι H w σ a hL hr he hsz hchk hset hnd hpairs hdown σ' H' hev hq
    refine ⟨fun hnone => ?_, fun i hi => ?_⟩
    · exfalso
      cases L with
      | nil => simp at hL
      | cons x L =>
        obtain ⟨o, ho, _⟩ := hchk x (by simp)
        have hx : x.1 < ops.size := by
          rcases Nat.lt_or_ge x.1 ops.size with h | h
          · exact h
          · rw [Array.getElem?_eq_none h] at ho; cases ho
        exact ready_ex hm hsz x.1 hx ((hset x.1 hx).2 (by simp)) hnone
    · obtain ⟨h1, h2, h3⟩ := ready_spec hi
      have hmem := (hset i h1).1 h2
      rw [List.mem_map] at hmem
      obtain ⟨y, hy, rfl⟩ := hmem
      obtain ⟨l₁, l₂, rfl⟩ := List.append_of_mem hy
      obtain ⟨o, ho, hc⟩ := hchk y hy
      obtain ⟨p1, p2⟩ := pairsOk_spec hpairs
      have harr : arrOk y.2 (l₁.map (·.2)) = true := by
        refine p1 fun z hz => ?_
        cases hb : (m.getD y.1 0).testBit z.1 with
        | false => rfl
        | true =>
          exfalso
          have hl := anc_listed hm hdown y.1 o ho (h3 o ho) z.1 hb
          obtain ⟨oz, hoz, _⟩ := hchk z (by simp [hz])
          have hzs : z.1 < ops.size := by
            rcases Nat.lt_or_ge z.1 ops.size with h | h
            · exact h
            · rw [Array.getElem?_eq_none h] at hoz; cases hoz
          have := (hset z.1 hzs).2 (by simp; exact .inl ⟨z.2, hz⟩)
          rw [getD_true_false hl] at this
          cases this
      rw [List.map_append, List.map_cons] at hev
      obtain ⟨τ', t1, t2⟩ := to_front_strip harr hev
      rw [evItems_cons] at t1
      split at t1
      · rename_i v H1 hv
        refine item_sound hcs hms hr he (chkItem_strip hc) hv ho fun ι' a' w' hp he' => ?_
        have hsub : ∀ x, x ∈ l₁ ++ l₂ → x ∈ l₁ ++ y :: l₂ := by
          intro x hx; simp at hx ⊢; rcases hx with hx | hx <;> simp [hx]
        have hnd' : y.1 ∉ (l₁ ++ l₂).map (·.1) ∧ ((l₁ ++ l₂).map (·.1)).Nodup := by
          rw [List.map_append, List.map_cons] at hnd
          rw [List.map_append]
          have hperm : (l₁.map (·.1) ++ y.1 :: l₂.map (·.1)).Perm (y.1 :: (l₁.map (·.1) ++ l₂.map (·.1))) := List.perm_middle
          have := hperm.nodup_iff.1 hnd
          exact List.nodup_cons.1 this
        refine ih (l₁ ++ l₂) (listed.setIfInBounds y.1 true) (by simp at hL ⊢; omega) hp.rel he' (by simpa using hsz) (fun x hx => hchk x (hsub x hx)) ?_ hnd'.2 p2 ?_ (by rw [List.map_append]; exact t1) ?_
        · intro k hk
          have hk' : k < listed.size := by omega
          have hset' := hset k hk
          simp only [Array.getD_eq_getD_getElem?, Array.getElem?_setIfInBounds] at hset' ⊢
          by_cases e : y.1 = k
          · subst e
            simp [hk']
            simpa using hnd'.1
          · rw [if_neg e, hset']
            simp
            constructor
            · rintro (h | h | h)
              · exact .inl h
              · exact absurd h.symm e
              · exact .inr h
            · rintro (h | h)
              · exact .inl h
              · exact .inr (.inr h)
        · intro k ok hok hlk e he hb
          have mono : ∀ q, listed.getD q false = true → (listed.setIfInBounds y.1 true).getD q false = true := by
            intro q hq
            simp only [Array.getD_eq_getD_getElem?, Array.getElem?_setIfInBounds] at hq ⊢
            split
            · rename_i e; subst e
              split
              · rfl
              · rw [Array.getElem?_eq_none (by omega)] at hq; simp at hq
            · exact hq
          by_cases e' : y.1 = k
          · subst e'
            rw [ho] at hok; cases hok
            exact mono _ (h3 o ho e he hb)
          · have : listed.getD k true = true := by
              simp only [Array.getD_eq_getD_getElem?, Array.getElem?_setIfInBounds, if_neg e'] at hlk ⊢
              exact hlk
            exact mono _ (hdown k ok hok this e he hb)
        · intro ι'' σ'' a'' w'' hp' heq he''
          exact hq ι'' σ'' a'' w'' (hp.trans hp') (t2.trans heq) he''
      · cases t1

theorem nodupB_spec : ∀ {l : List Nat}, nodupB l = true → l.Nodup
  | [], _ => List.nodup_nil
  | x :: r, h => by
    simp only [nodupB, Bool.and_eq_true, Bool.not_eq_true'] at h
    refine List.nodup_cons.2 ⟨fun hm => ?_, nodupB_spec h.2⟩
    have := h.1
    rw [← Bool.not_eq_true, List.contains_iff_mem] at this
    exact this hm

theorem chkItems_spec {ops : Array Oper} : ∀ {its : List AItem} {is : List Nat}, chkItems P G.n N ops its is = true → its.length = is.length ∧ ∀ x ∈ is.zip its, ∃ o, ops[x.1]? = some o ∧ chkItem P G.n N ops x.2 o = true
  | [], [], _ => ⟨rfl, by simp⟩
  | it :: its, i :: is, h => by
    simp only [chkItems, Bool.and_eq_true] at h
    obtain ⟨h1, h2⟩ := chkItems_spec h.2
    refine ⟨by simp [h1], ?_⟩
    intro x hx
    simp only [List.zip_cons_cons, List.mem_cons] at hx
    rcases hx with rfl | hx
    · have := h.1
      split at this
      · rename_i o ho; exact ⟨o, ho, this⟩
      · cases this
    · exact h2 x hx
  | [], _ :: _, h => by simp [chkItems] at h
  | _ :: _, [], h => by simp [chkItems] at h

theorem zip_fst : ∀ {a : List Nat} {b : List AItem}, b.length = a.length → (a.zip b).map (·.1) = a
  | [], [], _ => rfl
  | x :: a, y :: b, h => by simp [zip_fst (a := a) (b := b) (by simpa using h)]
  | [], _ :: _, h => by simp at h
  | _ :: _, [], h => by simp at h

theorem zip_snd : ∀ {a : List Nat} {b : List AItem}, b.length = a.length → (a.zip b).map (·.2) = b
  | [], [], _ => rfl
  | x :: a, y :: b, h => by simp [zip_snd (a := a) (b := b) (by simpa using h)]
  | [], _ :: _, h => by simp at h
  | _ :: _, [], h => by simp at h

theorem EnvR.eqv {ι : Inj} {σ τ : Env} {a : Act} (h : EnvR ι N τ a) (he : σ.eqv τ) : EnvR ι N σ a :=
  ⟨fun n v hn => h.val n v (by rw [← he n]; exact hn), h.size, h.defers⟩

theorem regd_sound (hcs : CallS P G call) (hms : MethS P meth) (hmix : P.follows .mixedOrders = true) {ops : Array Oper} {ord : List Nat} {its : List AItem} {id : Nat} {Q : Exit → Act → World → Prop}
    {ι : Inj} {H : AHeap} {w : World} {σ : Env} {a : Act} (hr : Rel G ι H w) (he : EnvR ι N σ a) (hc : chkRegd P G.n N ops ord its = true)
    {σ' : Env} {H' : AHeap} (h : evItems call meth its σ H = some (σ', H')) (hq : ∀ ι' a' w', Post G ι H w ι' H' w' → EnvR ι' N σ' a' → Q .normal a' w') :
    (Code.region id ops true).wp P Q a w := by
  simp only [chkRegd, Bool.and_eq_true, decide_eq_true_eq, List.all_eq_true, List.mem_range] at hc
  obtain ⟨⟨⟨⟨⟨hm, hlen⟩, hnd⟩, hall⟩, hitems⟩, hpairs⟩ := hc
  obtain ⟨hl2, hchk⟩ := chkItems_spec hitems
  refine wp_region_any hmix ?_
  have hp0 := Post.drew hr (w.drawn + 1)
  have hin : ∀ i ∈ ord, i < ops.size := by
    intro i hi
    rw [← zip_fst hl2, List.mem_map] at hi
    obtain ⟨x, hx, rfl⟩ := hi
    obtain ⟨o, ho, _⟩ := hchk x hx
    rcases Nat.lt_or_ge x.1 ops.size with h | h
    · exact h
    · rw [Array.getElem?_eq_none h] at ho; cases ho
  refine any_sound hcs hms hm ops.size (ord.zip its) _ (by rw [List.length_zip]; omega) hp0.rel he (by simp) hchk ?_ (by rw [zip_fst hl2]; exact nodupB_spec hnd) hpairs ?_ (by rw [zip_snd hl2]; exact h) ?_
  · intro i hi
    rw [zip_fst hl2]
    have h1 : (Array.replicate ops.size false).getD i true = false := by simp [hi]
    rw [h1]
    simp only [true_iff]
    exact List.contains_iff_mem.1 (hall i hi)
  · intro i o ho hl
    have hi : i < ops.size := by
      rcases Nat.lt_or_ge i ops.size with h | h
      · exact h
      · rw [Array.getElem?_eq_none h] at ho; cases ho
    simp [hi] at hl
  · intro ι' σ'' a' w' hp heq he'
    exact hq ι' a' w' (hp0.trans hp) (he'.eqv heq)
end
end Go.Ab
