/- Soundness of calls, and of operations in a row. -/
import Derived.Test.YtebmnnbjfjadaaaGreatDoorFk
namespace Go.Ab
open Go

def callable (P : Program) (f : FuncId) : Bool :=
  match P.funcs[f]? with
  | some fn => !(fn.name == "runtime.NumGoroutine") && fn.body.isSome
  | none => false

def CallS (P : Program) (G : Glob) (call : ACall) : Prop :=
  ∀ f vs H v H', call f vs H = some (v, H') → callable P f = true ∧ ∀ ι w vs', Rel G ι H w → LVR ι vs vs' →
    Calls P f vs'.toArray w fun e w' => ∃ v' ι', e = .returned v' ∧ Post G ι H w ι' H' w' ∧ VR ι' v v'

def MethS (P : Program) (meth : TypeId → String → Option FuncId) : Prop :=
  ∀ t m f, meth t m = some f → ∀ v w, (method (P.types.size + Made.depth) t v m).run P w = .ok (f, v) w

def chkCall (gl : Nat) (ao : AOp) (o : Op) : Bool :=
  match ao with
  | .call f xs | .callQ f xs => match o with
    | .call { callee := .value (.func f'), args, .. } => decide (f = f') && chkOpds gl xs args.toList
    | _ => false
  | .callE g f xs => match o with
    | .call { callee := .value (.func f'), args, .. } => decide (g = gl) && decide (f = f') && chkOpds gl xs args.toList
    | _ => false
  | .invoke m x xs => match o with
    | .call { callee := .invoke y m', args, .. } => decide (m = m') && chkOpd gl x y && chkOpds gl xs args.toList
    | _ => false
  | .callV x xs => match o with
    | .call { callee := .value y, args, .. } => chkOpd gl x y && chkOpds gl xs args.toList
    | _ => false
  | _ => false

def chkBare (P : Program) (gl : Nat) (ao : AOp) (o : Op) : Bool := if ao.calls then chkCall gl ao o else chkOp P gl ao o

def chkAny (P : Program) (gl : Nat) (ao : AOp) (o : Op) : Bool :=
  match ao with
  | .hold _ op => chkBare P gl op o
  | ao => chkBare P gl ao o

section
variable {P : Program} {G : Glob} {ι : Inj} {H : AHeap} {w : World} {N : Nat} {σ : Env} {a : Act}

theorem run_callFunc {f : FuncId} (h : callable P f = true) (args : Array Value) (w : World) : (callFunc f args).run P w = .ok (.enter f args) w := by
  unfold callable at h
  split at h
  · rename_i fn hf
    simp only [Bool.and_eq_true, Bool.not_eq_true'] at h
    have e1 : (program : Sem Program).run P w = .ok P w := rfl
    obtain ⟨b, hb⟩ := Option.isSome_iff_exists.1 h.2
    simp only [callFunc, Sem.run_bind, e1, Result.andThen_ok, hf, h.1, hb]
    rfl
  · cases h

theorem Rel.froz (hr : Rel G ι H w) : Rel G ι H.froz w where
  obj i o ho := by
    rw [AHeap.get_froz] at ho
    obtain ⟨e, c, t, fz, h1, h2, h3, h4, h5, h6, _⟩ := hr.obj i o ho
    refine ⟨e, c, t, fz, h1, h2, h3, h4, h5, h6, fun hx => ?_⟩
    have := AHeap.get_lt ho
    simp at hx
    omega
  ent := hr.ent
  sep i j e f o p ho _ _ _ hi _ := by
    rw [AHeap.get_froz] at ho
    have := AHeap.get_lt ho
    simp at hi
    omega
  lo := Nat.le_refl _
  glb := hr.glb
  top i e o hi ho _ := by
    rw [AHeap.get_froz] at ho
    have := AHeap.get_lt ho
    simp at hi
    omega
  env := hr.env

/-- A world that has the same blocks, and more. -/
theorem Post.more (hr : Rel G ι H w) {w' : World} (hsame : ∀ b, b < w.heap.size → w'.heap[b]? = w.heap[b]?) (hsize : w.heap.size ≤ w'.heap.size) (h1 : w'.os = w.os) (h2 : w'.output = w.output)
    (h3 : w'.tape = w.tape) : Post G ι H w ι H w' := by
  have hgl : ∀ b, b < G.n → b < w.heap.size := fun b hb => by
    obtain ⟨e, he, h1, _⟩ := hr.glb b hb
    have := (hr.ent _ e he).2
    omega
  refine ⟨⟨?_, ?_, hr.sep, hr.lo, hr.glb, hr.top, G.st w _ hr.env fun b hb => hsame b (hgl b hb)⟩, ι.le_refl, rfl, Nat.le_refl _, hsize, fun b hb _ => hsame b hb, fun i e o hi ho he => .inr ⟨i, e, o, hi, ho, he, rfl⟩, h1, h2, h3⟩
  · intro i o ho
    obtain ⟨e, c, t, fz, h1, h2, h3, h4, h5, h6, h7⟩ := hr.obj i o ho
    exact ⟨e, c, t, fz, h1, h2, by rw [hsame _ (hr.ent i e h1).2]; exact h3, h4, h5, h6, h7⟩
  · intro i e he
    have := hr.ent i e he
    omega

/-- A quiet call has changed nothing that was there. -/
theorem Post.thaw (hr : Rel G ι H w) {ι' : Inj} {H' : AHeap} {w' : World} (h : Post G ι H.froz w ι' H' w') : Post G ι H w ι H w' :=
  Post.more hr (fun b hb => h.frame b hb fun i e o hi ho _ => by
    rw [AHeap.get_froz] at ho
    have := AHeap.get_lt ho
    simp at hi
    omega) h.size h.os h.out h.tape

theorem get_nil (n m i : Nat) : (⟨.nil, n, m⟩ : AHeap).get i = none := by
  unfold AHeap.get; split
  · exact Tr.find_nil _
  · rfl

theorem Rel.bare (hr : Rel G ι H w) : Rel G (fun i => if i < G.n then ι i else none) ⟨.nil, G.n, G.n⟩ w where
  obj i o ho := by
    rw [get_nil] at ho; cases ho
  ent i e he := by
    split at he
    · rename_i h; exact ⟨h, (hr.ent i e he).2⟩
    · cases he
  sep i j e f o p ho := by
    rw [get_nil] at ho; cases ho
  lo := Nat.le_refl _
  glb g hg := by
    obtain ⟨e, h1, h2, h3⟩ := hr.glb g hg
    exact ⟨e, by simp [hg, h1], h2, h3⟩
  top i e o _ ho := by rw [get_nil] at ho; cases ho
  env := hr.env

theorem LVR.closed {ι ι' : Inj} {vs vs' : List Value} (h : LVR ι vs vs') (hc : vs.all (closedIn 4) = true) : LVR ι' vs vs' := by
  induction h with
  | nil => exact .nil
  | cons hv _ ih =>
    simp only [List.all_cons, Bool.and_eq_true] at hc
    rw [closedIn_eq 4 _ _ hc.1 hv]
    exact .cons (closedIn_vr _ 4 _ hc.1) (ih hc.2)

/-- What an operation does to the rest. -/
def StepR (P : Program) (G : Glob) (ι : Inj) (H : AHeap) (w : World) (o : Oper) (a : Act) (v : Value) (H' : AHeap) : Prop :=
  ∀ (next : Act → World → Prop) (Q : Exit → Act → World → Prop),
    (∀ v' w' ι', Post G ι H w ι' H' w' → VR ι' v v' → next (a.put o.dst v') w') → o.wp P a w next Q

theorem StepR.of_op {o : Oper} {v : Value} {H' : AHeap} (h : OpR P G ι H w (execOp a.eval o) v H') : StepR P G ι H w o a v H' := by
  intro next Q hn
  obtain ⟨nx, v', w', ι', h1, h2, h3, h4⟩ := h
  unfold Oper.wp
  rw [h1]
  rcases h2 with rfl | ⟨rfl, rfl⟩
  · exact hn _ _ _ h3 h4
  · exact hn _ _ _ h3 h4

theorem StepR.of_calls {o : Oper} {v : Value} {H' : AHeap} {f : FuncId} {args : Array Value} (h : (execOp a.eval o).run P w = .ok (.enter f args) w)
    (hc : Calls P f args w fun e w' => ∃ v' ι', e = .returned v' ∧ Post G ι H w ι' H' w' ∧ VR ι' v v') : StepR P G ι H w o a v H' := by
  intro next Q hn
  unfold Oper.wp
  rw [h]
  refine hc.mono ?_
  rintro e w' ⟨v', ι', rfl, h1, h2⟩
  exact hn _ _ _ h1 h2

theorem step_call {call : ACall} {meth} (hcs : CallS P G call) (hms : MethS P meth) (hr : Rel G ι H w) (he : EnvR ι N σ a) {ao : AOp} {o : Oper} (hc : chkCall G.n ao o.op = true)
    {v : Value} {H' : AHeap} (h : evOp call meth σ H ao = some (v, H')) : StepR P G ι H w o a v H' := by
  obtain ⟨dst, op, ty, pos, aft, gd⟩ := o
  cases ao <;> simp only [chkCall, Bool.false_eq_true] at hc
  case call f xs =>
    split at hc
    · rename_i f' args ts
      simp only [Bool.and_eq_true, decide_eq_true_eq] at hc
      obtain ⟨rfl, hx⟩ := hc
      simp only [evOp] at h
      split at h
      · rename_i vs hvs
        obtain ⟨h1, h2⟩ := hcs f vs H v H' h
        have h3 := h2 ι w _ hr (rds_sound hr he hx hvs)
        refine StepR.of_calls (f := f) (args := (args.toList.map a.eval).toArray) ?_ h3
        simp only [execOp, resolve, Act.eval, Deferred.ofValue, Sem.run_bind, Sem.run_pure, Result.andThen_ok, invoke]
        rw [run_callFunc h1]
        congr 2
        apply Array.ext'
        simp
      · cases h
    · cases hc
  case callQ f xs =>
    split at hc
    · rename_i f' args ts
      simp only [Bool.and_eq_true, decide_eq_true_eq] at hc
      obtain ⟨rfl, hx⟩ := hc
      simp only [evOp] at h
      split at h
      · rename_i vs hvs
        split at h
        · rename_i u H1 hcall
          split at h
          · rename_i hcl
            cases h
            obtain ⟨h1, h2⟩ := hcs f vs H.froz v H1 hcall
            have h3 := h2 ι w _ hr.froz (rds_sound hr he hx hvs)
            refine StepR.of_calls (f := f) (args := (args.toList.map a.eval).toArray) ?_ (h3.mono ?_)
            · simp only [execOp, resolve, Act.eval, Deferred.ofValue, Sem.run_bind, Sem.run_pure, Result.andThen_ok, invoke]
              rw [run_callFunc h1]
              congr 2
              apply Array.ext'
              simp
            · rintro e w' ⟨v', ι', rfl, g1, g2⟩
              rw [closedIn_eq 4 _ _ hcl g2]
              exact ⟨v, ι, rfl, Post.thaw hr g1, closedIn_vr ι 4 v hcl⟩
          · cases h
        · cases h
      · cases h
    · cases hc
  case callE g f xs =>
    split at hc
    · rename_i f' args ts
      simp only [Bool.and_eq_true, decide_eq_true_eq] at hc
      obtain ⟨⟨rfl, rfl⟩, hx⟩ := hc
      simp only [evOp] at h
      split at h
      · rename_i vs hvs
        split at h
        · rename_i u H1 hcall
          split at h
          · rename_i hcl
            cases h
            simp only [Bool.and_eq_true] at hcl
            obtain ⟨h1, h2⟩ := hcs f vs _ v H1 hcall
            have h3 := h2 _ w _ hr.bare ((rds_sound hr he hx hvs).closed hcl.2)
            refine StepR.of_calls (f := f) (args := (args.toList.map a.eval).toArray) ?_ (h3.mono ?_)
            · simp only [execOp, resolve, Act.eval, Deferred.ofValue, Sem.run_bind, Sem.run_pure, Result.andThen_ok, invoke]
              rw [run_callFunc h1]
              congr 2
              apply Array.ext'
              simp
            · rintro e w' ⟨v', ι', rfl, g1, g2⟩
              rw [closedIn_eq 4 _ _ hcl.1 g2]
              refine ⟨v, ι, rfl, Post.more hr (fun b hb => g1.frame b hb fun i e o _ ho _ => ?_) g1.size g1.os g1.out g1.tape, closedIn_vr ι 4 v hcl.1⟩
              rw [get_nil] at ho; cases ho
          · cases h
        · cases h
      · cases h
    · cases hc
  case invoke m x xs =>
    split at hc
    · rename_i y m' args ts
      simp only [Bool.and_eq_true, decide_eq_true_eq] at hc
      obtain ⟨⟨rfl, hy⟩, hx⟩ := hc
      simp only [evOp] at h
      split at h
      · rename_i t u vs hu hvs
        split at h
        · rename_i f hf
          obtain ⟨h1, h2⟩ := hcs f _ H v H' h
          have hu' := rd_sound hr he hy hu
          obtain ⟨u', e1, e2⟩ : ∃ u', a.eval y = .iface t u' ∧ VR ι u u' := by
            generalize a.eval y = y' at *
            cases hu'
            rename_i hz
            exact ⟨_, rfl, hz⟩
          have h3 := h2 ι w _ hr (.cons e2 (rds_sound hr he hx hvs))
          refine StepR.of_calls (f := f) (args := (u' :: args.toList.map a.eval).toArray) ?_ h3
          have e3 : (program : Sem Program).run P w = .ok P w := rfl
          have e4 : (#[Value.iface t u'] ++ args.map a.eval)[0]? = some (.iface t u') := by rw [Array.getElem?_append_left (by simp)]; rfl
          simp only [execOp, resolve, Sem.run_bind, Sem.run_pure, Result.andThen_ok, invoke, e1, e4, callMethod, e3, hms t m f hf]
          rw [run_callFunc h1]
          congr 2
          apply Array.ext'
          simp
          exact List.take_of_length_le (by simp)
        · cases h
      · cases h
    · cases hc
  case callV x xs =>
    split at hc
    · rename_i y args ts
      simp only [Bool.and_eq_true] at hc
      obtain ⟨hy, hx⟩ := hc
      simp only [evOp] at h
      split at h
      · rename_i f p q vs hu hvs
        obtain ⟨h1, h2⟩ := hcs f _ H v H' h
        have hu' := rd_sound hr he hy hu
        obtain ⟨p', q', e1, e2, e3⟩ : ∃ p' q', a.eval y = .func (.func f) p' q' ∧ AVR ι p p' ∧ AVR ι q q' := by
          generalize a.eval y = y' at *
          cases hu'
          rename_i z1 z2 z3 z4
          exact ⟨_, _, rfl, ⟨z1, z2⟩, ⟨z3, z4⟩⟩
        have h3 := h2 ι w _ hr ((e2.lvr.append (rds_sound hr he hx hvs)).append e3.lvr)
        refine StepR.of_calls (f := f) (args := (p'.toList ++ args.toList.map a.eval ++ q'.toList).toArray) ?_ h3
        simp only [execOp, resolve, e1, Deferred.ofValue, Sem.run_bind, Sem.run_pure, Result.andThen_ok, invoke]
        rw [run_callFunc h1]
        congr 2
        apply Array.ext'
        simp
      · cases h
    · cases hc

theorem step_bare {call : ACall} {meth} (hcs : CallS P G call) (hms : MethS P meth) (hr : Rel G ι H w) (he : EnvR ι N σ a) {ao : AOp} {o : Oper} (hc : chkBare P G.n ao o.op = true)
    {v : Value} {H' : AHeap} (h : evOp call meth σ H ao = some (v, H')) : StepR P G ι H w o a v H' := by
  unfold chkBare at hc
  split at hc
  · exact step_call hcs hms hr he hc h
  · exact StepR.of_op (op_sound hr he hc h)

theorem step_any {call : ACall} {meth} (hcs : CallS P G call) (hms : MethS P meth) (hr : Rel G ι H w) (he : EnvR ι N σ a) {ao : AOp} {o : Oper} (hc : chkAny P G.n ao o.op = true)
    {v : Value} {H' : AHeap} (h : evOp call meth σ H ao = some (v, H')) : StepR P G ι H w o a v H' := by
  unfold chkAny at hc
  split at hc
  · rename_i ds op
    simp only [evOp] at h
    split at h
    · rename_i u H1 hu
      obtain ⟨_, h⟩ := ite_some h
      cases h
      exact step_bare hcs hms hr he hc hu
    · cases h
  · exact step_bare hcs hms hr he hc h

def chkDst (N : Nat) : Option Nat → Option Nat → Bool
  | none, none => true
  | some d, some e => d == e && decide (d < N)
  | _, _ => false

def chkGuard (ops : Array Oper) : Option (Nat × Bool) → Option (Nat × Bool) → Bool
  | none, none => true
  | some (g, b), some (j, c) => b == c && decide ((ops[j]?).bind (·.dst) = some g)
  | _, _ => false

def chkItem (P : Program) (gl N : Nat) (ops : Array Oper) (it : AItem) (o : Oper) : Bool :=
  chkDst N it.dst o.dst && chkGuard ops it.guard o.guard && chkAny P gl it.op o.op

/-- One item, by itself. -/
def evItem (call : ACall) (meth : TypeId → String → Option FuncId) (σ : Env) (H : AHeap) (it : AItem) : Option (Value × AHeap) :=
  match it.guard with
  | none => evOp call meth σ H it.op
  | some (g, want) => match σ.find g with
    | some (.bool b) => if b = want then evOp call meth σ H it.op else some (undef, H)
    | _ => none

def Env.putO (σ : Env) : Option Nat → Value → Env
  | some d, v => σ.put d v
  | none, _ => σ

theorem evItems_cons (call : ACall) (meth : TypeId → String → Option FuncId) (it : AItem) (rest : List AItem) (σ : Env) (H : AHeap) :
    evItems call meth (it :: rest) σ H = match evItem call meth σ H it with
      | some (v, H') => evItems call meth rest (σ.putO it.dst v) H'
      | none => none := by
  obtain ⟨dst, guard, op⟩ := it
  simp only [evItems, evItem]
  cases guard with
  | none => cases dst <;> (simp only [Env.putO]; cases evOp call meth σ H op <;> rfl)
  | some g =>
    obtain ⟨g, want⟩ := g
    simp only []
    cases hf : σ.find g with
    | none => rfl
    | some u =>
      cases u <;> try rfl
      rename_i b
      simp only []
      by_cases hb : b = want
      · simp only [if_pos hb]; cases dst <;> (simp only [Env.putO]; cases evOp call meth σ H op <;> rfl)
      · simp only [if_neg hb]; cases dst <;> rfl

theorem EnvR.putO {ι : Inj} {N : Nat} {σ : Env} {a : Act} (h : EnvR ι N σ a) {d e : Option Nat} (hd : chkDst N d e = true) {v v' : Value} (hv : VR ι v v') :
    EnvR ι N (σ.putO d v) (a.put e v') := by
  cases d <;> cases e <;> simp [chkDst] at hd
  · exact h
  · obtain ⟨rfl, hd⟩ := hd
    exact h.put hd hv

/-- One item, as the machine meets it. -/
theorem item_sound {call : ACall} {meth} (hcs : CallS P G call) (hms : MethS P meth) (hr : Rel G ι H w) (he : EnvR ι N σ a) {ops : Array Oper} {it : AItem} {o : Oper}
    (hc : chkItem P G.n N ops it o = true) {v : Value} {H' : AHeap} (h : evItem call meth σ H it = some (v, H')) {i : Nat} (hi : ops[i]? = some o)
    {K : Act → World → Prop} {Q : Exit → Act → World → Prop}
    (hK : ∀ ι' a' w', Post G ι H w ι' H' w' → EnvR ι' N (σ.putO it.dst v) a' → K a' w') : wpOp P ops Q i K a w := by
  simp only [chkItem, Bool.and_eq_true] at hc
  obtain ⟨⟨hd, hg⟩, hop⟩ := hc
  have hval : ∀ v' w' ι', Post G ι H w ι' H' w' → VR ι' v v' → K (a.put o.dst v') w' := fun v' w' ι' hp hv =>
    hK ι' _ _ hp ((he.mono hp.ext).putO hd hv)
  have hundef : VR ι undef undef := .tuple _ _ rfl (by simp)
  unfold wpOp
  rw [hi]
  simp only []
  obtain ⟨dst, guard, op⟩ := it
  obtain ⟨odst, oop, oty, opos, oaft, oguard⟩ := o
  cases guard with
  | none =>
    cases oguard <;> simp [chkGuard] at hg
    have : Region.wanted ⟨odst, oop, oty, opos, oaft, none⟩ (yielded ops a.tmps) = true := rfl
    rw [if_pos this]
    exact .inl (step_any hcs hms hr he hop h _ _ hval)
  | some g =>
    obtain ⟨g, want⟩ := g
    cases oguard with
    | none => simp [chkGuard] at hg
    | some j =>
      obtain ⟨j, want'⟩ := j
      simp only [chkGuard, Bool.and_eq_true, beq_iff_eq, decide_eq_true_eq] at hg
      obtain ⟨rfl, hg⟩ := hg
      simp only [evItem] at h
      split at h
      · rename_i b hb
        obtain ⟨v', h1, h2⟩ := he.val g _ hb
        have h2 := bool_inv h2
        subst h2
        have hy : yielded ops a.tmps j = some b := by simp [yielded, hg, h1]
        by_cases hbw : b = want
        · have hw : Region.wanted ⟨odst, oop, oty, opos, oaft, some (j, want)⟩ (yielded ops a.tmps) = true := by simp [Region.wanted, hy, hbw]
          rw [if_pos hw]
          rw [if_pos hbw] at h
          exact .inl (step_any hcs hms hr he hop h _ _ hval)
        · have hw : ¬ (Region.wanted ⟨odst, oop, oty, opos, oaft, some (j, want)⟩ (yielded ops a.tmps) = true) := by simp [Region.wanted, hy, hbw]
          rw [if_neg hw]
          rw [if_neg hbw] at h
          cases h
          exact hval _ _ _ (Post.refl hr) hundef
      · cases h

def chkItems (P : Program) (gl N : Nat) (ops : Array Oper) : List AItem → List Nat → Bool
  | [], [] => true
  | it :: its, i :: is => (match ops[i]? with | some o => chkItem P gl N ops it o | none => false) && chkItems P gl N ops its is
  | _, _ => false

/-- Items in a row. -/
theorem items_sound {call : ACall} {meth} (hcs : CallS P G call) (hms : MethS P meth) {ops : Array Oper} {Q : Exit → Act → World → Prop} : ∀ {its : List AItem} {is : List Nat}
    {ι : Inj} {H : AHeap} {w : World} {σ : Env} {a : Act}, Rel G ι H w → EnvR ι N σ a → chkItems P G.n N ops its is = true →
    ∀ {σ' : Env} {H' : AHeap}, evItems call meth its σ H = some (σ', H') → (∀ ι' a' w', Post G ι H w ι' H' w' → EnvR ι' N σ' a' → Q .normal a' w') → wpOps P ops Q is a w
  | [], [], ι, H, w, σ, a, hr, he, _, σ', H', h, hq => by
    simp only [evItems, Option.some.injEq, Prod.mk.injEq] at h
    obtain ⟨rfl, rfl⟩ := h
    exact hq ι a w (Post.refl hr) he
  | it :: its, i :: is, ι, H, w, σ, a, hr, he, hc, σ', H', h, hq => by
    simp only [chkItems, Bool.and_eq_true] at hc
    obtain ⟨h1, h2⟩ := hc
    split at h1
    · rename_i o ho
      rw [evItems_cons] at h
      split at h
      · rename_i v H1 hv
        rw [wpOps_cons]
        refine item_sound hcs hms hr he h1 hv ho fun ι' a' w' hp he' => ?_
        exact items_sound hcs hms hp.rel he' h2 h fun ι'' a'' w'' hp' he'' => hq ι'' a'' w'' (hp.trans hp') he''
      · cases h
    · cases h1
  | [], _ :: _, _, _, _, _, _, _, _, h, _, _, _, _ => by simp [chkItems] at h
  | _ :: _, [], _, _, _, _, _, _, _, h, _, _, _, _ => by simp [chkItems] at h
end
end Go.Ab
