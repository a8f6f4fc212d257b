/- Soundness of code and of functions. -/
import Derived.Test.YtebmnnbjfjadaaaGreatDoorFn
namespace Go.Ab
open Go

def chkC (P : Program) (gl N : Nat) : ACode → Code → Bool
  | .skip, .skip => true
  | .reg its _, .region _ ops false => chkItems P gl N ops its (List.range ops.size)
  | .regd ord its _, .region _ ops true => chkRegd P gl N ops ord its
  | .seq a b, .seq c d => chkC P gl N a c && chkC P gl N b d
  | .cond x a b, .cond y c d => chkOpd gl x y && chkC P gl N a c && chkC P gl N b d
  | .block i b, .block j c => i == j && chkC P gl N b c
  | .loop b, .loop c => chkC P gl N b c
  | .exit i, .exit j => i == j
  | .scope b, .scope c => chkC P gl N b c
  | .label l, .label m => l == m
  | .goto l, .goto m => l == m
  | .ret, .ret => true
  | _, _ => false

def AEx.to : AEx → Exit
  | .norm => .normal
  | .exit i => .exit i
  | .goto l => .goto l
  | .ret => .ret

def LoopRun (P : Program) (c : Code) (Q : Exit → Act → World → Prop) (a : Act) (w : World) : Prop :=
  ∀ (b : Frame) (k : List Item) (cs : List Frame), ∃ e a' w', Q e a' w' ∧ Arrives P (lone (b.at a (.code c :: .inLoop c :: k)) cs w) b k cs e a' w'

def ScopeRun (P : Program) (c x : Code) (Q : Exit → Act → World → Prop) (a : Act) (w : World) : Prop :=
  ∀ (b : Frame) (k : List Item) (cs : List Frame), ∃ e a' w', Q e a' w' ∧ Arrives P (lone (b.at a (.code x :: .inScope c :: k)) cs w) b k cs e a' w'

section
variable {P : Program} {Q : Exit → Act → World → Prop}

theorem loop_wp {c : Code} {a : Act} {w : World} (h : LoopRun P c Q a w) : (Code.loop c).wp P Q a w := by
  intro b k cs
  obtain ⟨e, a', w', hq, harr⟩ := h b k cs
  exact ⟨e, a', w', hq, .of_steps (.one step_loop) harr⟩

theorem loop_step {c : Code} {a : Act} {w : World} (h : c.wp P (Exit.then (LoopRun P c Q) Q) a w) : LoopRun P c Q a w := by
  intro b k cs
  obtain ⟨e, a₁, w₁, hq, harr⟩ := h b (.inLoop c :: k) cs
  cases e with
  | normal =>
    obtain ⟨e₂, a₂, w₂, hq₂, harr₂⟩ := hq b k cs
    exact ⟨e₂, a₂, w₂, hq₂, .of_steps (Steps.trans harr (.one step_inLoop)) harr₂⟩
  | exit id => exact ⟨_, a₁, w₁, hq, .pass (x := .inLoop c) rfl (fun _ _ => .inl (by simp)) harr⟩
  | goto l => exact ⟨_, a₁, w₁, hq, .pass (x := .inLoop c) rfl (fun _ _ => .inl (by simp)) harr⟩
  | ret => exact ⟨_, a₁, w₁, hq, .pass (x := .inLoop c) rfl (fun _ _ => .inl (by simp)) harr⟩
  | panic ch => exact ⟨_, a₁, w₁, hq, .pass (x := .inLoop c) rfl (fun _ _ => .inl (by simp)) harr⟩
  | outgrown => exact ⟨_, a₁, w₁, hq, .pass (x := .inLoop c) rfl (fun _ _ => .inl (by simp)) harr⟩

theorem scope_wp {c : Code} {a : Act} {w : World} (h : ScopeRun P c c Q a w) : (Code.scope c).wp P Q a w := by
  intro b k cs
  obtain ⟨e, a', w', hq, harr⟩ := h b k cs
  exact ⟨e, a', w', hq, .of_steps (.one step_scope) harr⟩

def scopeQ (P : Program) (c : Code) (Q : Exit → Act → World → Prop) : Exit → Act → World → Prop
  | .goto l, a, w => (∃ rest, findLabel c l = some rest ∧ ScopeRun P c rest Q a w) ∨ (findLabel c l = none ∧ Q (.goto l) a w)
  | e, a, w => Q e a w

theorem scope_step {c x : Code} {a : Act} {w : World} (h : x.wp P (scopeQ P c Q) a w) : ScopeRun P c x Q a w := by
  intro b k cs
  obtain ⟨e, a₁, w₁, hq, harr⟩ := h b (.inScope c :: k) cs
  cases e with
  | normal => exact ⟨.normal, a₁, w₁, hq, Steps.trans harr (.one step_inScope)⟩
  | exit id => exact ⟨.exit id, a₁, w₁, hq, fun k' hk => harr k' (by simp [exitTo, hk])⟩
  | goto l =>
    rcases hq with ⟨rest, hf, hrun⟩ | ⟨hf, hq⟩
    · obtain ⟨e₂, a₂, w₂, hq₂, harr₂⟩ := hrun b k cs
      exact ⟨e₂, a₂, w₂, hq₂, .of_steps (harr _ (by simp [gotoIn, hf])) harr₂⟩
    · exact ⟨.goto l, a₁, w₁, hq, fun k' hk => harr k' (by simp [gotoIn, hf, hk])⟩
  | ret => exact ⟨_, a₁, w₁, hq, harr⟩
  | panic ch => exact ⟨_, a₁, w₁, hq, harr⟩
  | outgrown => exact ⟨_, a₁, w₁, hq, harr⟩

theorem label_same {G : Glob} {N : Nat} : ∀ {ac : ACode} {c : Code} {l : Nat}, chkC P G.n N ac c = true → hasLabel ac l = (findLabel c l).isSome := by
  intro ac
  induction ac with
  | seq a b iha ihb =>
    intro c l h
    cases c <;> simp only [chkC, Bool.false_eq_true] at h
    rename_i c d
    simp only [Bool.and_eq_true] at h
    simp only [hasLabel, iha h.1, ihb h.2, findLabel]
    cases findLabel c l <;> simp
  | label m =>
    intro c l h
    cases c <;> simp only [chkC, Bool.false_eq_true, beq_iff_eq] at h
    subst h
    simp only [hasLabel, findLabel]
    split <;> simp_all
  | reg its live =>
    intro c l h
    cases c <;> (try simp only [chkC, Bool.false_eq_true] at h)
    rfl
  | regd ord its live =>
    intro c l h
    cases c <;> (try simp only [chkC, Bool.false_eq_true] at h)
    rfl
  | _ =>
    intro c l h
    cases c <;> simp only [chkC, Bool.false_eq_true] at h
    try rfl

section
variable {G : Glob} {N : Nat} {call : ACall} {meth : TypeId → String → Option FuncId}

/-- What code comes to. -/
def CodeR (P : Program) (G : Glob) (N : Nat) (ι : Inj) (H : AHeap) (w : World) (a : Act) (c : Code) (ex : AEx) (σ' : Env) (H' : AHeap) : Prop :=
  ∀ (Q : Exit → Act → World → Prop), (∀ ι' a' w', Post G ι H w ι' H' w' → EnvR ι' N σ' a' → Q ex.to a' w') → c.wp P Q a w

theorem code_sound (hcs : CallS P G call) (hms : MethS P meth) (hmix : P.follows .mixedOrders = true) (k : Nat) : ∀ (ac : ACode) (c : Code), chkC P G.n N ac c = true →
    ∀ (l : Option Nat) {ι : Inj} {H : AHeap} {w : World} {σ : Env} {a : Act} {ex : AEx} {σ' : Env} {H' : AHeap}, Rel G ι H w → EnvR ι N σ a → evC call meth k ac l σ H = some (ex, σ', H') →
      match l with
      | none => CodeR P G N ι H w a c ex σ' H'
      | some l => ∃ rest, findLabel c l = some rest ∧ CodeR P G N ι H w a rest ex σ' H' := by
  intro ac
  induction ac with
  | skip =>
    intro c hc l ι H w σ a ex σ' H' hr he h
    cases c <;> simp only [chkC, Bool.false_eq_true] at hc
    cases l <;> simp only [evC] at h
    · cases h
      exact fun Q hq => wp_skip (hq ι a w (Post.refl hr) he)
    · cases h
  | reg its live =>
    intro c hc l ι H w σ a ex σ' H' hr he h
    cases l with
    | some l => simp [evC] at h
    | none =>
      cases c <;> (try simp only [chkC, Bool.false_eq_true] at hc)
      rename_i id ops draw
      cases draw <;> (try simp only [chkC, Bool.false_eq_true] at hc)
      simp only [evC] at h
      split at h
      · rename_i σ₁ H₁ hev
        cases h
        exact fun Q hq => wp_region (items_sound hcs hms hr he hc hev fun ι' a' w' hp he' => hq ι' a' w' hp (he'.keep live))
      · cases h
  | regd ord its live =>
    intro c hc l ι H w σ a ex σ' H' hr he h
    cases l with
    | some l => simp [evC] at h
    | none =>
      cases c <;> (try simp only [chkC, Bool.false_eq_true] at hc)
      rename_i id ops draw
      cases draw <;> (try simp only [chkC, Bool.false_eq_true] at hc)
      simp only [evC] at h
      split at h
      · rename_i σ₁ H₁ hev
        cases h
        exact fun Q hq => regd_sound hcs hms hmix hr he hc hev fun ι' a' w' hp he' => hq ι' a' w' hp (he'.keep live)
      · cases h
  | seq x y ihx ihy =>
    intro c hc l ι H w σ a ex σ' H' hr he h
    cases c <;> simp only [chkC, Bool.false_eq_true] at hc
    rename_i c d
    simp only [Bool.and_eq_true] at hc
    have both : ∀ {c' : Code}, (∀ {ex σ₁ H₁}, evC call meth k x l σ H = some (ex, σ₁, H₁) → CodeR P G N ι H w a c' ex σ₁ H₁) →
        (match evC call meth k x l σ H with
          | some (.norm, σ₁, H₁) => evC call meth k y none σ₁ H₁
          | r => r) = some (ex, σ', H') → CodeR P G N ι H w a (.seq c' d) ex σ' H' := by
      intro c' hx h
      split at h
      · rename_i σ₁ H₁ hev
        intro Q hq
        refine wp_seq (hx hev _ fun ι₁ a₁ w₁ hp₁ he₁ => ?_)
        exact ihy d hc.2 none hp₁.rel he₁ h Q fun ι₂ a₂ w₂ hp₂ he₂ => hq ι₂ a₂ w₂ (hp₁.trans hp₂) he₂
      · rename_i hne
        intro Q hq
        refine wp_seq (hx h _ fun ι₁ a₁ w₁ hp₁ he₁ => ?_)
        have := hq ι₁ a₁ w₁ hp₁ he₁
        cases ex with
        | norm => exact absurd h (hne σ' H')
        | exit i => exact this
        | goto l => exact this
        | ret => exact this
    cases l with
    | none =>
      simp only [evC] at h
      exact both (fun hev => ihx c hc.1 none hr he hev) h
    | some l =>
      simp only [evC] at h
      have hlab := label_same (l := l) hc.1
      split at h
      · rename_i hl
        rw [hlab] at hl
        obtain ⟨rest, hrest⟩ := Option.isSome_iff_exists.1 hl
        refine ⟨.seq rest d, by simp [findLabel, hrest], both (fun hev => ?_) h⟩
        obtain ⟨rest', h1, h2⟩ := ihx c hc.1 (some l) hr he hev
        rw [hrest] at h1; cases h1
        exact h2
      · rename_i hl
        have hn : findLabel c l = none := by
          cases hf : findLabel c l with
          | none => rfl
          | some r => rw [hlab, hf] at hl; simp at hl
        obtain ⟨rest, h1, h2⟩ := ihy d hc.2 (some l) hr he h
        exact ⟨rest, by simp [findLabel, hn, h1], h2⟩
  | cond x y z ihy ihz =>
    intro c hc l ι H w σ a ex σ' H' hr he h
    cases l with
    | some l => simp [evC] at h
    | none =>
      cases c <;> simp only [chkC, Bool.false_eq_true] at hc
      simp only [Bool.and_eq_true] at hc
      simp only [evC] at h
      split at h
      · rename_i hx
        have := bool_inv (rd_sound hr he hc.1.1 hx)
        exact fun Q hq => wp_cond_true this (ihy _ hc.1.2 none hr he h Q hq)
      · rename_i hx
        have := bool_inv (rd_sound hr he hc.1.1 hx)
        exact fun Q hq => wp_cond_false this (ihz _ hc.2 none hr he h Q hq)
      · cases h
  | block id b ih =>
    intro c hc l ι H w σ a ex σ' H' hr he h
    cases l with
    | some l => simp [evC] at h
    | none =>
      cases c <;> simp only [chkC, Bool.false_eq_true] at hc
      simp only [Bool.and_eq_true, beq_iff_eq] at hc
      obtain ⟨rfl, hc⟩ := hc
      simp only [evC] at h
      intro Q hq
      refine wp_block ?_
      split at h
      · rename_i id' σ₁ H₁ hev
        refine ih _ hc none hr he hev _ fun ι₁ a₁ w₁ hp₁ he₁ => ?_
        simp only [AEx.to, Exit.inBlock]
        split at h
        · rename_i e; cases h; rw [if_pos e]; exact hq ι₁ a₁ w₁ hp₁ he₁
        · rename_i e; cases h; rw [if_neg e]; exact hq ι₁ a₁ w₁ hp₁ he₁
      · rename_i hne
        refine ih _ hc none hr he h _ fun ι₁ a₁ w₁ hp₁ he₁ => ?_
        have := hq ι₁ a₁ w₁ hp₁ he₁
        cases ex with
        | norm => exact this
        | exit i => exact absurd h (hne i σ' H')
        | goto l => exact this
        | ret => exact this
  | loop b ih =>
    intro c hc l ι H w σ a ex σ' H' hr he h
    cases l with
    | some l => simp [evC] at h
    | none =>
      cases c <;> simp only [chkC, Bool.false_eq_true] at hc
      rename_i c
      simp only [evC] at h
      have key : ∀ (n : Nat) {ι : Inj} {H : AHeap} {w : World} {σ : Env} {a : Act}, Rel G ι H w → EnvR ι N σ a → loopN (evC call meth k b none) n σ H = some (ex, σ', H') →
          ∀ Q, (∀ ι' a' w', Post G ι H w ι' H' w' → EnvR ι' N σ' a' → Q ex.to a' w') → LoopRun P c Q a w := by
        intro n
        induction n with
        | zero => intro ι H w σ a hr he h; simp [loopN] at h
        | succ n ihn =>
          intro ι H w σ a hr he h Q hq
          simp only [loopN] at h
          split at h
          · rename_i σ₁ H₁ hev
            refine loop_step (ih c hc none hr he hev _ fun ι₁ a₁ w₁ hp₁ he₁ => ?_)
            exact ihn hp₁.rel he₁ h Q fun ι₂ a₂ w₂ hp₂ he₂ => hq ι₂ a₂ w₂ (hp₁.trans hp₂) he₂
          · rename_i hne
            refine loop_step (ih c hc none hr he h _ fun ι₁ a₁ w₁ hp₁ he₁ => ?_)
            have := hq ι₁ a₁ w₁ hp₁ he₁
            cases ex with
            | norm => exact absurd h (hne σ' H')
            | exit i => exact this
            | goto l => exact this
            | ret => exact this
      exact fun Q hq => loop_wp (key k hr he h Q hq)
  | exit id =>
    intro c hc l ι H w σ a ex σ' H' hr he h
    cases l with
    | some l => simp [evC] at h
    | none =>
      cases c <;> simp only [chkC, Bool.false_eq_true, beq_iff_eq] at hc
      subst hc
      simp only [evC] at h
      cases h
      exact fun Q hq => wp_exit (hq ι a w (Post.refl hr) he)
  | scope b ih =>
    intro c hc l ι H w σ a ex σ' H' hr he h
    cases l with
    | some l => simp [evC] at h
    | none =>
      cases c <;> simp only [chkC, Bool.false_eq_true] at hc
      rename_i c
      simp only [evC] at h
      have key : ∀ (n : Nat) (l : Option Nat) {ι : Inj} {H : AHeap} {w : World} {σ : Env} {a : Act}, Rel G ι H w → EnvR ι N σ a → jumpN (evC call meth k b) (hasLabel b) n l σ H = some (ex, σ', H') →
          ∀ Q, (∀ ι' a' w', Post G ι H w ι' H' w' → EnvR ι' N σ' a' → Q ex.to a' w') →
            match l with
            | none => ScopeRun P c c Q a w
            | some l => ∃ rest, findLabel c l = some rest ∧ ScopeRun P c rest Q a w := by
        intro n
        induction n with
        | zero => intro l ι H w σ a hr he h; simp [jumpN] at h
        | succ n ihn =>
          intro l ι H w σ a hr he h Q hq
          have one : ∀ {x : Code}, (∀ {ex σ₁ H₁}, evC call meth k b l σ H = some (ex, σ₁, H₁) → CodeR P G N ι H w a x ex σ₁ H₁) → ScopeRun P c x Q a w := by
            intro x hx
            simp only [jumpN] at h
            split at h
            · rename_i l' σ₁ H₁ hev
              refine scope_step (hx hev _ fun ι₁ a₁ w₁ hp₁ he₁ => ?_)
              have hlab := label_same (l := l') hc
              split at h
              · exact .inl (ihn (some l') hp₁.rel he₁ h Q fun ι₂ a₂ w₂ hp₂ he₂ => hq ι₂ a₂ w₂ (hp₁.trans hp₂) he₂)
              · rename_i hl
                cases h
                refine .inr ⟨?_, hq ι₁ a₁ w₁ hp₁ he₁⟩
                cases hf : findLabel c l' with
                | none => rfl
                | some r => rw [hlab, hf] at hl; simp at hl
            · rename_i hne
              refine scope_step (hx h _ fun ι₁ a₁ w₁ hp₁ he₁ => ?_)
              have := hq ι₁ a₁ w₁ hp₁ he₁
              cases ex with
              | norm => exact this
              | exit i => exact this
              | goto l => exact absurd h (hne l σ' H')
              | ret => exact this
          cases l with
          | none => exact one fun hev => ih c hc none hr he hev
          | some l =>
            have hex : ∃ ex₁ σ₁ H₁, evC call meth k b (some l) σ H = some (ex₁, σ₁, H₁) := by
              simp only [jumpN] at h
              split at h
              · rename_i hev; exact ⟨_, _, _, hev⟩
              · exact ⟨_, _, _, h⟩
            obtain ⟨ex₁, σ₁, H₁, hev⟩ := hex
            obtain ⟨rest, h1, _⟩ := ih c hc (some l) hr he hev
            refine ⟨rest, h1, one fun hev' => ?_⟩
            obtain ⟨rest', h1', h2'⟩ := ih c hc (some l) hr he hev'
            rw [h1] at h1'; cases h1'
            exact h2'
      exact fun Q hq => scope_wp (key k none hr he h Q hq)
  | label m =>
    intro c hc l ι H w σ a ex σ' H' hr he h
    cases c <;> simp only [chkC, Bool.false_eq_true, beq_iff_eq] at hc
    subst hc
    cases l with
    | none => simp only [evC] at h; cases h; exact fun Q hq => wp_label (hq ι a w (Post.refl hr) he)
    | some l =>
      simp only [evC] at h
      split at h
      · rename_i e
        cases h
        exact ⟨.skip, by simp [findLabel, e], fun Q hq => wp_skip (hq ι a w (Post.refl hr) he)⟩
      · cases h
  | goto m =>
    intro c hc l ι H w σ a ex σ' H' hr he h
    cases l with
    | some l => simp [evC] at h
    | none =>
      cases c <;> simp only [chkC, Bool.false_eq_true, beq_iff_eq] at hc
      subst hc
      simp only [evC] at h
      cases h
      exact fun Q hq => wp_goto (hq ι a w (Post.refl hr) he)
  | ret =>
    intro c hc l ι H w σ a ex σ' H' hr he h
    cases l with
    | some l => simp [evC] at h
    | none =>
      cases c <;> simp only [chkC, Bool.false_eq_true] at hc
      simp only [evC] at h
      cases h
      exact fun Q hq => wp_ret (hq ι a w (Post.refl hr) he)

def chkRes (P : Program) : List ARv → List ResultVar → Bool
  | [], [] => true
  | .tmp t :: r, .tmp u :: s => t == u && chkRes P r s
  | .cell x n :: r, .cell y t :: s => x == y && decide (aggOf P t = some n) && chkRes P r s
  | _, _ => false

def chkFn (P : Program) (gl : Nat) (f : FuncId) (fn : AFn) : Bool :=
  match P.funcs[f]? with
  | some g => match g.body with
    | some c => callable P f && decide (fn.nargs ≤ g.ntmps) && chkRes P fn.res g.results.toList && chkC P gl g.ntmps fn.body c
    | none => false
  | none => false

def resM (tmps : Array Value) : ResultVar → Sem Value
  | .tmp t => pure (tmps.getD t undef)
  | .cell a t => do loadVar t (← asAddr (tmps.getD a undef))

theorem res_sound {ι : Inj} {H : AHeap} {w : World} {σ : Env} {a : Act} (hr : Rel G ι H w) (he : EnvR ι N σ a) : ∀ {rs : List ARv} {qs : List ResultVar} {vs : List Value}, chkRes P rs qs = true → evRes σ H rs = some vs →
    ∃ vs', (qs.mapM (resM a.tmps)).run P w = .ok vs' w ∧ LVR ι vs vs'
  | [], [], vs, _, h => by simp only [evRes, Option.some.injEq] at h; subst h; exact ⟨[], rfl, .nil⟩
  | .tmp t :: rs, .tmp u :: qs, vs, hc, h => by
    simp only [chkRes, Bool.and_eq_true, beq_iff_eq] at hc
    obtain ⟨rfl, hc⟩ := hc
    simp only [evRes] at h
    split at h
    · cases h
    · rename_i v hv
      split at h
      · cases h
      · rename_i us hus
        cases h
        obtain ⟨v', h1, h2⟩ := he.val t v hv
        obtain ⟨us', g1, g2⟩ := res_sound hr he hc hus
        refine ⟨v' :: us', ?_, .cons h2 g2⟩
        simp only [List.mapM_cons, Sem.run_bind, resM, Sem.run_pure, Result.andThen_ok, g1]
        simp [h1]
  | .cell x n :: rs, .cell y t :: qs, vs, hc, h => by
    simp only [chkRes, Bool.and_eq_true, beq_iff_eq, decide_eq_true_eq] at hc
    obtain ⟨⟨rfl, hagg⟩, hc⟩ := hc
    simp only [evRes] at h
    split at h
    · cases h
    · rename_i v hv
      split at h
      · cases h
      · rename_i us hus
        cases h
        obtain ⟨us', g1, g2⟩ := res_sound hr he hc hus
        split at hv
        · rename_i p hx
          obtain ⟨p', h1, h2⟩ := he.val x _ hx
          obtain ⟨v', k1, k2⟩ := load_sound hr hagg h2 hv
          obtain ⟨e, rfl⟩ : ∃ e, p' = .pointer (some e) := by
            unfold aLoad at hv
            split at hv
            · obtain ⟨e, _, rfl⟩ := ptr_inv h2; exact ⟨_, rfl⟩
            · cases hv
          refine ⟨v' :: us', ?_, .cons k2 g2⟩
          have hp : a.tmps.getD x undef = .pointer (some e) := by simp [h1]
          simp only [Instr.loadAt, Instr.sureAddr, Sem.run_bind, Sem.run_pure, Result.andThen_ok] at k1
          simp only [List.mapM_cons, Sem.run_bind, resM, hp, asAddr, Sem.run_pure, Result.andThen_ok, k1, g1]
        · cases hv
  | [], _ :: _, _, h, _ => by simp [chkRes] at h
  | .tmp _ :: _, [], _, h, _ => by simp [chkRes] at h
  | .cell _ _ :: _, [], _, h, _ => by simp [chkRes] at h
  | .tmp _ :: _, .cell _ _ :: _, _, h, _ => by simp [chkRes] at h
  | .cell _ _ :: _, .tmp _ :: _, _, h, _ => by simp [chkRes] at h

theorem results_run {fn : Func} {tmps : Array Value} {vs : List Value} {w : World} (h : (fn.results.toList.mapM (resM tmps)).run P w = .ok vs w) : (results fn tmps).run P w = .ok (asResult vs) w := by
  have e : results fn tmps = fn.results.mapM (resM tmps) >>= fun vs => pure (if h : vs.size = 1 then vs[0] else .tuple vs) := by
    unfold results
    congr 1
  rw [e, Array.mapM_eq_mapM_toList]
  simp only [Sem.run_bind, Sem.run_map, h, Result.andThen_ok, Sem.run_pure]
  congr 1
  cases vs with
  | nil => rfl
  | cons v vs =>
    cases vs with
    | nil => rfl
    | cons u us => simp [asResult]

theorem asResult_vr {ι : Inj} {vs vs' : List Value} (h : LVR ι vs vs') : VR ι (asResult vs) (asResult vs') := by
  cases h with
  | nil => exact .tuple _ _ rfl (by simp)
  | cons h1 h2 =>
    cases h2 with
    | nil => exact h1
    | cons h3 h4 =>
      have := (LVR.cons h1 (LVR.cons h3 h4)).avr
      exact .tuple _ _ this.1 this.2

theorem argEnv_find : ∀ (vs : List Value) (n m : Nat), (argEnv n vs).find m = if n ≤ m then vs[m - n]? else none
  | [], n, m => by simp [argEnv, Env.find]
  | v :: vs, n, m => by
    simp only [argEnv, Env.find]
    by_cases e : n = m
    · subst e; simp
    · rw [if_neg e, argEnv_find vs (n + 1) m]
      by_cases h : n ≤ m
      · rw [if_pos h, if_pos (by omega)]
        obtain ⟨k, hk⟩ : ∃ k, m - n = k + 1 := ⟨m - n - 1, by omega⟩
        rw [hk, show m - (n + 1) = k by omega]
        simp
      · rw [if_neg h, if_neg (by omega)]

/-- What a program of abstract functions owes. -/
structure ProgOk (P : Program) (G : Glob) (T : AProg) : Prop where
  fn : ∀ f fn, T.fn f = some fn → chkFn P G.n f fn = true
  prim : ∀ f p, T.prim f = some p → callable P f = true ∧ ∀ vs H v H', p vs H = some (v, H') → ∀ ι w vs', Rel G ι H w → LVR ι vs vs' →
    Calls P f vs'.toArray w fun e w' => ∃ v' ι', e = .returned v' ∧ Post G ι H w ι' H' w' ∧ VR ι' v v'
  meth : MethS P T.meth

theorem fn_sound {T : AProg} (hT : ProgOk P G T) (hmix : P.follows .mixedOrders = true) : ∀ (k : Nat), CallS P G (evFn T k) := by
  intro k
  induction k with
  | zero => intro f vs H v H' h; simp [evFn] at h
  | succ k ih =>
    intro f vs H v H' h
    simp only [evFn] at h
    split at h
    · rename_i p hp
      obtain ⟨h1, h2⟩ := hT.prim f p hp
      exact ⟨h1, h2 vs H v H' h⟩
    · split at h
      · cases h
      · rename_i fn hfn
        have hc := hT.fn f fn hfn
        unfold chkFn at hc
        split at hc
        · rename_i g hg
          split at hc
          · rename_i c hb
            simp only [Bool.and_eq_true, decide_eq_true_eq] at hc
            obtain ⟨⟨⟨hcall, hn⟩, hres⟩, hcode⟩ := hc
            split at h
            · cases h
            · rename_i hlen
              refine ⟨hcall, fun ι w vs' hr hvs => calls_of_wp hg hb ?_⟩
              have hl' := hvs.length
              have he : EnvR ι g.ntmps (argEnv 0 vs) { tmps := vs'.toArray ++ Array.replicate (g.ntmps - vs'.toArray.size) undef, defers := [] } := by
                refine ⟨fun n u hu => ?_, by simp; omega, rfl⟩
                rw [argEnv_find] at hu
                simp only [Nat.zero_le, if_true, Nat.sub_zero] at hu
                obtain ⟨u', h1, h2⟩ := hvs.get n u hu
                refine ⟨u', ?_, h2⟩
                have hlt : n < vs'.length := by
                  rcases Nat.lt_or_ge n vs'.length with h | h
                  · exact h
                  · rw [List.getElem?_eq_none h] at h1; cases h1
                rw [Array.getElem?_append_left (by simpa using hlt)]
                simpa using h1
              have fin : ∀ {σ' H₁ us}, evRes σ' H₁ fn.res = some us → ∀ ι' a' w', Post G ι H w ι' H₁ w' → EnvR ι' g.ntmps σ' a' →
                  a'.defers = [] ∧ ∃ v, (results g a'.tmps).run P w' = .ok v w' ∧ ∃ v' ι'', Ending.returned v = .returned v' ∧ Post G ι H w ι'' H₁ w' ∧ VR ι'' (asResult us) v' := by
                intro σ' H₁ us hus ι' a' w' hp he'
                obtain ⟨us', g1, g2⟩ := res_sound hp.rel he' hres hus
                exact ⟨he'.defers, _, results_run g1, _, ι', rfl, hp, asResult_vr g2⟩
              split at h
              · rename_i σ' H₁ hev
                split at h
                · rename_i us hus
                  cases h
                  exact code_sound ih hT.meth hmix k fn.body c hcode none hr he hev _ fun ι' a' w' hp he' => fin hus ι' a' w' hp he'
                · cases h
              · rename_i σ' H₁ hev
                split at h
                · rename_i us hus
                  cases h
                  exact code_sound ih hT.meth hmix k fn.body c hcode none hr he hev _ fun ι' a' w' hp he' => fin hus ι' a' w' hp he'
                · cases h
              · cases h
          · cases hc
        · cases hc
end
end
end Go.Ab
