/- The framework, in one text. -/
import Derived.Test.YtoiehfgdjjmakaaDoorFA
import Derived.KernelRfl
import Derived.Below
import Derived.OpenShut
import Derived.ChangeArms
import Derived.WideShapes
import Derived.ChangeShapes
import Derived.Carry
import Derived.ChangeSame
import Derived.RowKit
import Derived.LaidMore
import Derived.Stop.Joined
import Derived.ProofKit
/- More rounds give the same answer; what code comes to, said without rounds. -/
namespace Go.Ab
open Go

def ACall.le (c d : ACall) : Prop := ∀ f vs H r, c f vs H = some r → d f vs H = some r

section
variable {c d : ACall} {meth : TypeId → String → Option FuncId}

theorem evOp_mono (h : c.le d) {σ : Env} {H : AHeap} : ∀ {op : AOp} {r : Value × AHeap}, evOp c meth σ H op = some r → evOp d meth σ H op = some r := by
  intro op
  induction op with
  | call f xs =>
    intro r hr
    simp only [evOp] at hr ⊢
    split at hr
    · exact h _ _ _ _ hr
    · cases hr
  | callQ f xs =>
    intro r hr
    simp only [evOp] at hr ⊢
    split at hr
    · split at hr
      · rename_i hc; rw [h _ _ _ _ hc]; exact hr
      · cases hr
    · cases hr
  | callE g f xs =>
    intro r hr
    simp only [evOp] at hr ⊢
    split at hr
    · split at hr
      · rename_i hc; rw [h _ _ _ _ hc]; exact hr
      · cases hr
    · cases hr
  | invoke m x xs =>
    intro r hr
    simp only [evOp] at hr ⊢
    split at hr
    · split at hr
      · exact h _ _ _ _ hr
      · cases hr
    · cases hr
  | callV x xs =>
    intro r hr
    simp only [evOp] at hr ⊢
    split at hr
    · exact h _ _ _ _ hr
    · cases hr
  | hold ds op ih =>
    intro r hr
    simp only [evOp] at hr ⊢
    split at hr
    · rename_i v H' hv
      rw [ih hv]
      exact hr
    · cases hr
  | _ => intro r hr; exact hr

theorem evItem_mono (h : c.le d) {σ : Env} {H : AHeap} {it : AItem} {r : Value × AHeap} (hr : evItem c meth σ H it = some r) : evItem d meth σ H it = some r := by
  unfold evItem at hr ⊢
  split at hr
  · exact evOp_mono h hr
  · split at hr
    · split at hr
      · rename_i hb; rw [if_pos hb]; exact evOp_mono h hr
      · rename_i hb; rw [if_neg hb]; exact hr
    · cases hr

theorem evItems_mono (h : c.le d) : ∀ {its : List AItem} {σ : Env} {H : AHeap} {r : Env × AHeap}, evItems c meth its σ H = some r → evItems d meth its σ H = some r
  | [], _, _, _, hr => hr
  | it :: its, σ, H, r, hr => by
    rw [evItems_cons] at hr ⊢
    split at hr
    · rename_i v H1 hv
      rw [evItem_mono h hv]
      exact evItems_mono h hr
    · cases hr

theorem loopN_mono {b b' : Env → AHeap → ARes} (hb : ∀ σ H r, b σ H = some r → b' σ H = some r) : ∀ (k k' : Nat), k ≤ k' → ∀ {σ : Env} {H : AHeap} {r}, loopN b k σ H = some r → loopN b' k' σ H = some r
  | 0, _, _, _, _, _, h => by simp [loopN] at h
  | k + 1, k', hk, σ, H, r, h => by
    obtain ⟨k', rfl⟩ : ∃ m, k' = m + 1 := ⟨k' - 1, by omega⟩
    simp only [loopN] at h ⊢
    split at h
    · rename_i σ' H' hev
      rw [hb _ _ _ hev]
      exact loopN_mono hb k k' (by omega) h
    · rename_i hne
      rw [hb _ _ _ h]
      split
      · rename_i σ' H' e; cases e; exact absurd h (hne σ' H')
      · rfl

theorem jumpN_mono {b b' : Option Nat → Env → AHeap → ARes} {has : Nat → Bool} (hb : ∀ l σ H r, b l σ H = some r → b' l σ H = some r) : ∀ (k k' : Nat), k ≤ k' → ∀ {l : Option Nat} {σ : Env} {H : AHeap} {r}, jumpN b has k l σ H = some r → jumpN b' has k' l σ H = some r
  | 0, _, _, _, _, _, _, h => by simp [jumpN] at h
  | k + 1, k', hk, l, σ, H, r, h => by
    obtain ⟨k', rfl⟩ : ∃ m, k' = m + 1 := ⟨k' - 1, by omega⟩
    simp only [jumpN] at h ⊢
    split at h
    · rename_i l' σ' H' hev
      rw [hb _ _ _ _ hev]
      simp only []
      split at h
      · rename_i hl; rw [if_pos hl]; exact jumpN_mono hb k k' (by omega) h
      · rename_i hl; rw [if_neg hl]; exact h
    · rename_i hne
      rw [hb _ _ _ _ h]
      split
      · rename_i l' σ' H' e; cases e; exact absurd h (hne l' σ' H')
      · rfl

theorem evC_mono (h : c.le d) (k k' : Nat) (hk : k ≤ k') : ∀ (ac : ACode) (l : Option Nat) {σ : Env} {H : AHeap} {r}, evC c meth k ac l σ H = some r → evC d meth k' ac l σ H = some r := by
  intro ac
  induction ac with
  | skip => intro l σ H r hr; cases l <;> simp only [evC] at hr ⊢ <;> exact hr
  | reg its live =>
    intro l σ H r hr
    cases l with
    | some l => simp [evC] at hr
    | none =>
      simp only [evC] at hr ⊢
      split at hr
      · rename_i hev; rw [evItems_mono h hev]; exact hr
      · cases hr
  | regd ord its live =>
    intro l σ H r hr
    cases l with
    | some l => simp [evC] at hr
    | none =>
      simp only [evC] at hr ⊢
      split at hr
      · rename_i hev; rw [evItems_mono h hev]; exact hr
      · cases hr
  | seq x y ihx ihy =>
    have both : ∀ l {σ H r}, (match evC c meth k x l σ H with
          | some (.norm, σ₁, H₁) => evC c meth k y none σ₁ H₁
          | r => r) = some r → (match evC d meth k' x l σ H with
          | some (.norm, σ₁, H₁) => evC d meth k' y none σ₁ H₁
          | r => r) = some r := by
      intro l σ H r hr
      split at hr
      · rename_i hev; rw [ihx l hev]; exact ihy none hr
      · rename_i hne
        rw [ihx l hr]
        split
        · rename_i σ' H' e; cases e; exact absurd hr (hne σ' H')
        · rfl
    intro l σ H r hr
    cases l with
    | none => simp only [evC] at hr ⊢; exact both none hr
    | some l =>
      simp only [evC] at hr ⊢
      split at hr
      · rename_i hl; rw [if_pos hl]; exact both (some l) hr
      · rename_i hl; rw [if_neg hl]; exact ihy (some l) hr
  | cond x y z ihy ihz =>
    intro l σ H r hr
    cases l with
    | some l => simp [evC] at hr
    | none =>
      simp only [evC] at hr ⊢
      split at hr
      · exact ihy none hr
      · exact ihz none hr
      · cases hr
  | block id b ih =>
    intro l σ H r hr
    cases l with
    | some l => simp [evC] at hr
    | none =>
      simp only [evC] at hr ⊢
      split at hr
      · rename_i hev; rw [ih none hev]; exact hr
      · rename_i hne
        rw [ih none hr]
        split
        · rename_i i σ' H' e; cases e; exact absurd hr (hne i σ' H')
        · rfl
  | loop b ih =>
    intro l σ H r hr
    cases l with
    | some l => simp [evC] at hr
    | none =>
      simp only [evC] at hr ⊢
      exact loopN_mono (fun σ H r => ih none) k k' hk hr
  | scope b ih =>
    intro l σ H r hr
    cases l with
    | some l => simp [evC] at hr
    | none =>
      simp only [evC] at hr ⊢
      exact jumpN_mono (fun l σ H r => ih l) k k' hk hr
  | exit id => intro l σ H r hr; cases l <;> simp [evC] at hr ⊢; exact hr
  | label m => intro l σ H r hr; cases l <;> simp only [evC] at hr ⊢ <;> exact hr
  | goto m => intro l σ H r hr; cases l <;> simp [evC] at hr ⊢; exact hr
  | ret => intro l σ H r hr; cases l <;> simp [evC] at hr ⊢; exact hr
end

theorem evFn_mono (T : AProg) : ∀ (k k' : Nat), k ≤ k' → ACall.le (evFn T k) (evFn T k')
  | 0, _, _ => fun f vs H r h => by simp [evFn] at h
  | k + 1, k', hk => fun f vs H r h => by
    obtain ⟨k', rfl⟩ : ∃ m, k' = m + 1 := ⟨k' - 1, by omega⟩
    simp only [evFn] at h ⊢
    split at h
    · exact h
    · split at h
      · cases h
      · rename_i fn hfn
        split at h
        · cases h
        · rename_i hlen
          rw [if_neg hlen]
          have hm := fun r => evC_mono (meth := T.meth) (evFn_mono T k k' (by omega)) k k' (by omega) fn.body none (σ := argEnv 0 vs) (H := H) (r := r)
          split at h
          · rename_i hev; rw [hm _ hev]; exact h
          · rename_i hev; rw [hm _ hev]; exact h
          · cases h

/-- What a call comes to. -/
def Ev (T : AProg) (f : FuncId) (vs : List Value) (H : AHeap) (R : Value → AHeap → Prop) : Prop := ∃ k v H', evFn T k f vs H = some (v, H') ∧ R v H'
def EvQ (T : AProg) (f : FuncId) (vs : List Value) (H : AHeap) (R : Value → Prop) : Prop := ∃ k v H', evFn T k f vs H.froz = some (v, H') ∧ closedIn 4 v = true ∧ R v
def EvE (T : AProg) (gl : Nat) (f : FuncId) (vs : List Value) (R : Value → Prop) : Prop := ∃ k v H', evFn T k f vs ⟨.nil, gl, gl⟩ = some (v, H') ∧ (closedIn 4 v && vs.all (closedIn 4)) = true ∧ R v
def WI (T : AProg) (its : List AItem) (σ : Env) (H : AHeap) (Q : Env → AHeap → Prop) : Prop := ∃ k σ' H', evItems (evFn T k) T.meth its σ H = some (σ', H') ∧ Q σ' H'
def WC (T : AProg) (c : ACode) (σ : Env) (H : AHeap) (Q : AEx → Env → AHeap → Prop) : Prop := ∃ k ex σ' H', evC (evFn T k) T.meth k c none σ H = some (ex, σ', H') ∧ Q ex σ' H'

section
variable {T : AProg}

theorem Ev.mono {f : FuncId} {vs : List Value} {H : AHeap} {R R' : Value → AHeap → Prop} (h : Ev T f vs H R) (hr : ∀ v H', R v H' → R' v H') : Ev T f vs H R' :=
  let ⟨k, v, H', h1, h2⟩ := h; ⟨k, v, H', h1, hr v H' h2⟩
theorem EvQ.mono {f : FuncId} {vs : List Value} {H : AHeap} {R R' : Value → Prop} (h : EvQ T f vs H R) (hr : ∀ v, R v → R' v) : EvQ T f vs H R' :=
  let ⟨k, v, H', h1, h2, h3⟩ := h; ⟨k, v, H', h1, h2, hr v h3⟩
theorem EvE.mono {gl : Nat} {f : FuncId} {vs : List Value} {R R' : Value → Prop} (h : EvE T gl f vs R) (hr : ∀ v, R v → R' v) : EvE T gl f vs R' :=
  let ⟨k, v, H', h1, h2, h3⟩ := h; ⟨k, v, H', h1, h2, hr v h3⟩
theorem WC.mono {c : ACode} {σ : Env} {H : AHeap} {Q Q' : AEx → Env → AHeap → Prop} (h : WC T c σ H Q) (hr : ∀ ex σ' H', Q ex σ' H' → Q' ex σ' H') : WC T c σ H Q' :=
  let ⟨k, ex, σ', H', h1, h2⟩ := h; ⟨k, ex, σ', H', h1, hr _ _ _ h2⟩

/-- Quiet calls whose answer is known. -/
theorem EvQ.of_ev {f : FuncId} {vs : List Value} {H : AHeap} {v : Value} {R : Value → Prop} (h : Ev T f vs H.froz fun u _ => u = v) (hc : closedIn 4 v = true) (hr : R v) : EvQ T f vs H R := by
  obtain ⟨k, u, H', h1, rfl⟩ := h
  exact ⟨k, u, H', h1, hc, hr⟩
theorem EvE.of_ev {gl : Nat} {f : FuncId} {vs : List Value} {v : Value} {R : Value → Prop} (h : Ev T f vs ⟨.nil, gl, gl⟩ fun u _ => u = v) (hc : (closedIn 4 v && vs.all (closedIn 4)) = true) (hr : R v) : EvE T gl f vs R := by
  obtain ⟨k, u, H', h1, rfl⟩ := h
  exact ⟨k, u, H', h1, hc, hr⟩

theorem wi_nil {σ : Env} {H : AHeap} {Q : Env → AHeap → Prop} (h : Q σ H) : WI T [] σ H Q := ⟨0, σ, H, rfl, h⟩

/-- An item that makes no call. -/
theorem wi_plain {it : AItem} {its : List AItem} {σ : Env} {H : AHeap} {Q : Env → AHeap → Prop} {v : Value} {H' : AHeap} (he : evItem (fun _ _ _ => none) T.meth σ H it = some (v, H'))
    (h : WI T its (σ.putO it.dst v) H' Q) : WI T (it :: its) σ H Q := by
  obtain ⟨k, σ', H₁, h1, h2⟩ := h
  refine ⟨k, σ', H₁, ?_, h2⟩
  rw [evItems_cons, evItem_mono (c := fun _ _ _ => none) (fun f vs H r h => by cases h) he]
  exact h1

theorem wi_item {it : AItem} {its : List AItem} {σ : Env} {H : AHeap} {Q : Env → AHeap → Prop} {k : Nat} {v : Value} {H' : AHeap} (he : evItem (evFn T k) T.meth σ H it = some (v, H'))
    (h : WI T its (σ.putO it.dst v) H' Q) : WI T (it :: its) σ H Q := by
  obtain ⟨k', σ', H₁, h1, h2⟩ := h
  refine ⟨max k k', σ', H₁, ?_, h2⟩
  rw [evItems_cons, evItem_mono (evFn_mono T k (max k k') (Nat.le_max_left _ _)) he]
  exact evItems_mono (evFn_mono T k' (max k k') (Nat.le_max_right _ _)) h1

theorem wi_call {d : Option Nat} {f : FuncId} {xs : List AOpd} {its : List AItem} {σ : Env} {H : AHeap} {Q : Env → AHeap → Prop} {vs : List Value} (hx : σ.rds xs = some vs)
    (h : Ev T f vs H fun v H' => WI T its (σ.putO d v) H' Q) : WI T (⟨d, none, .call f xs⟩ :: its) σ H Q := by
  obtain ⟨k, v, H', h1, h2⟩ := h
  exact wi_item (k := k) (v := v) (H' := H') (by simp only [evItem, evOp, hx, h1]) h2

theorem wi_callQ {d : Option Nat} {f : FuncId} {xs : List AOpd} {its : List AItem} {σ : Env} {H : AHeap} {Q : Env → AHeap → Prop} {vs : List Value} (hx : σ.rds xs = some vs)
    (h : EvQ T f vs H fun v => WI T its (σ.putO d v) H Q) : WI T (⟨d, none, .callQ f xs⟩ :: its) σ H Q := by
  obtain ⟨k, v, H', h1, h2, h3⟩ := h
  exact wi_item (k := k) (v := v) (H' := H) (by simp only [evItem, evOp, hx, h1, h2, if_true]) h3

theorem wi_callE {d : Option Nat} {gl : Nat} {f : FuncId} {xs : List AOpd} {its : List AItem} {σ : Env} {H : AHeap} {Q : Env → AHeap → Prop} {vs : List Value} (hx : σ.rds xs = some vs)
    (h : EvE T gl f vs fun v => WI T its (σ.putO d v) H Q) : WI T (⟨d, none, .callE gl f xs⟩ :: its) σ H Q := by
  obtain ⟨k, v, H', h1, h2, h3⟩ := h
  exact wi_item (k := k) (v := v) (H' := H) (by simp only [evItem, evOp, hx, h1, h2, if_true]) h3

/-- A guarded item. -/
theorem wi_guard_no {d : Option Nat} {g : Nat} {want b : Bool} {op : AOp} {its : List AItem} {σ : Env} {H : AHeap} {Q : Env → AHeap → Prop} (hg : σ.find g = some (.bool b)) (hb : b ≠ want)
    (h : WI T its (σ.putO d undef) H Q) : WI T (⟨d, some (g, want), op⟩ :: its) σ H Q :=
  wi_item (k := 0) (v := undef) (H' := H) (by simp only [evItem, hg, if_neg hb]) h

theorem wi_guard_yes {d : Option Nat} {g : Nat} {want : Bool} {op : AOp} {its : List AItem} {σ : Env} {H : AHeap} {Q : Env → AHeap → Prop} (hg : σ.find g = some (.bool want))
    (h : WI T (⟨d, none, op⟩ :: its) σ H Q) : WI T (⟨d, some (g, want), op⟩ :: its) σ H Q := by
  obtain ⟨k, σ', H₁, h1, h2⟩ := h
  refine ⟨k, σ', H₁, ?_, h2⟩
  rw [evItems_cons] at h1 ⊢
  simp only [evItem, hg, if_true] at h1 ⊢
  exact h1

theorem wc_reg {its : List AItem} {live : List Nat} {σ : Env} {H : AHeap} {Q : AEx → Env → AHeap → Prop} (h : WI T its σ H fun σ' H' => Q .norm (σ'.keep live) H') : WC T (.reg its live) σ H Q := by
  obtain ⟨k, σ', H', h1, h2⟩ := h
  exact ⟨k, .norm, _, H', by simp only [evC, h1], h2⟩
theorem wc_regd {ord : List Nat} {its : List AItem} {live : List Nat} {σ : Env} {H : AHeap} {Q : AEx → Env → AHeap → Prop} (h : WI T its σ H fun σ' H' => Q .norm (σ'.keep live) H') : WC T (.regd ord its live) σ H Q := by
  obtain ⟨k, σ', H', h1, h2⟩ := h
  exact ⟨k, .norm, _, H', by simp only [evC, h1], h2⟩
theorem wc_skip {σ : Env} {H : AHeap} {Q : AEx → Env → AHeap → Prop} (h : Q .norm σ H) : WC T .skip σ H Q := ⟨0, _, _, _, rfl, h⟩
theorem wc_ret {σ : Env} {H : AHeap} {Q : AEx → Env → AHeap → Prop} (h : Q .ret σ H) : WC T .ret σ H Q := ⟨0, _, _, _, rfl, h⟩
theorem wc_exit {id : Nat} {σ : Env} {H : AHeap} {Q : AEx → Env → AHeap → Prop} (h : Q (.exit id) σ H) : WC T (.exit id) σ H Q := ⟨0, _, _, _, rfl, h⟩
theorem wc_goto {l : Nat} {σ : Env} {H : AHeap} {Q : AEx → Env → AHeap → Prop} (h : Q (.goto l) σ H) : WC T (.goto l) σ H Q := ⟨0, _, _, _, rfl, h⟩
theorem wc_label {l : Nat} {σ : Env} {H : AHeap} {Q : AEx → Env → AHeap → Prop} (h : Q .norm σ H) : WC T (.label l) σ H Q := ⟨0, _, _, _, rfl, h⟩

def AEx.then (K : Env → AHeap → Prop) (Q : AEx → Env → AHeap → Prop) : AEx → Env → AHeap → Prop
  | .norm, σ, H => K σ H
  | e, σ, H => Q e σ H
def AEx.inBlock (id : Nat) (Q : AEx → Env → AHeap → Prop) : AEx → Env → AHeap → Prop
  | .exit i, σ, H => if i = id then Q .norm σ H else Q (.exit i) σ H
  | e, σ, H => Q e σ H

theorem lift2 {T : AProg} {k k' : Nat} {ac : ACode} {l : Option Nat} {σ : Env} {H : AHeap} {r} (h : evC (evFn T k) T.meth k ac l σ H = some r) (hk : k ≤ k') : evC (evFn T k') T.meth k' ac l σ H = some r :=
  evC_mono (evFn_mono T k k' hk) k k' hk ac l h

theorem wc_seq {a b : ACode} {σ : Env} {H : AHeap} {Q : AEx → Env → AHeap → Prop} (h : WC T a σ H (AEx.then (fun σ' H' => WC T b σ' H' Q) Q)) : WC T (.seq a b) σ H Q := by
  obtain ⟨k, ex, σ', H', h1, h2⟩ := h
  cases ex with
  | norm =>
    obtain ⟨k', ex', σ'', H'', h3, h4⟩ := h2
    exact ⟨max k k', ex', σ'', H'', by simp only [evC, lift2 h1 (Nat.le_max_left k k'), lift2 h3 (Nat.le_max_right k k')], h4⟩
  | exit i => exact ⟨k, _, _, _, by simp only [evC, h1], h2⟩
  | goto l => exact ⟨k, _, _, _, by simp only [evC, h1], h2⟩
  | ret => exact ⟨k, _, _, _, by simp only [evC, h1], h2⟩

theorem wc_cond {c : AOpd} {a b : ACode} {σ : Env} {H : AHeap} {Q : AEx → Env → AHeap → Prop} {t : Bool} (hc : σ.rd c = some (.bool t)) (h : WC T (if t then a else b) σ H Q) : WC T (.cond c a b) σ H Q := by
  obtain ⟨k, ex, σ', H', h1, h2⟩ := h
  exact ⟨k, ex, σ', H', by simp only [evC, hc]; cases t <;> exact h1, h2⟩

theorem wc_block {id : Nat} {b : ACode} {σ : Env} {H : AHeap} {Q : AEx → Env → AHeap → Prop} (h : WC T b σ H (AEx.inBlock id Q)) : WC T (.block id b) σ H Q := by
  obtain ⟨k, ex, σ', H', h1, h2⟩ := h
  cases ex with
  | exit i =>
    simp only [AEx.inBlock] at h2
    by_cases e : i = id
    · rw [if_pos e] at h2; exact ⟨k, _, _, _, by simp only [evC, h1, if_pos e], h2⟩
    · rw [if_neg e] at h2; exact ⟨k, _, _, _, by simp only [evC, h1, if_neg e], h2⟩
  | norm => exact ⟨k, _, _, _, by simp only [evC, h1], h2⟩
  | goto l => exact ⟨k, _, _, _, by simp only [evC, h1], h2⟩
  | ret => exact ⟨k, _, _, _, by simp only [evC, h1], h2⟩

/-- A loop: what holds at each round's head, and a measure. -/
theorem wc_loop {b : ACode} {σ : Env} {H : AHeap} {Q : AEx → Env → AHeap → Prop} (Inv : Nat → Env → AHeap → Prop) (n : Nat) (h0 : Inv n σ H)
    (round : ∀ n σ H, Inv n σ H → WC T b σ H (AEx.then (fun σ' H' => ∃ m, m < n ∧ Inv m σ' H') Q)) : WC T (.loop b) σ H Q := by
  suffices hs : ∃ k ex σ' H', loopN (evC (evFn T k) T.meth k b none) k σ H = some (ex, σ', H') ∧ Q ex σ' H' by
    obtain ⟨k, ex, σ', H', h1, h2⟩ := hs
    exact ⟨k, ex, σ', H', h1, h2⟩
  induction n using Nat.strongRecOn generalizing σ H with
  | _ n ih =>
    obtain ⟨k, ex, σ', H', h1, h2⟩ := round n σ H h0
    have stop : ex ≠ .norm → Q ex σ' H' → ∃ k ex σ' H', loopN (evC (evFn T k) T.meth k b none) k σ H = some (ex, σ', H') ∧ Q ex σ' H' := by
      intro hne hq
      refine ⟨k + 1, ex, σ', H', ?_, hq⟩
      simp only [loopN, lift2 h1 (Nat.le_succ k)]
      cases ex <;> first | rfl | exact absurd rfl hne
    cases ex with
    | norm =>
      obtain ⟨m, hm, hi⟩ := h2
      obtain ⟨k', ex', σ'', H'', h3, h4⟩ := ih m hm hi
      refine ⟨max k k' + 1, ex', σ'', H'', ?_, h4⟩
      simp only [loopN, lift2 h1 (show k ≤ max k k' + 1 by omega)]
      exact loopN_mono (fun σ H r hr => lift2 hr (by omega)) k' (max k k') (Nat.le_max_right _ _) h3
    | exit i => exact stop (by simp) h2
    | goto l => exact stop (by simp) h2
    | ret => exact stop (by simp) h2

/-- A scope whose jumps go forward to labels: the code from a label on. -/
def WL (T : AProg) (c : ACode) (l : Option Nat) (σ : Env) (H : AHeap) (Q : AEx → Env → AHeap → Prop) : Prop := ∃ k ex σ' H', evC (evFn T k) T.meth k c l σ H = some (ex, σ', H') ∧ Q ex σ' H'

def AEx.jumps (T : AProg) (b : ACode) (Q : AEx → Env → AHeap → Prop) : AEx → Env → AHeap → Prop
  | .goto l, σ, H => if hasLabel b l then ∃ k ex σ' H', jumpN (evC (evFn T k) T.meth k b) (hasLabel b) k (some l) σ H = some (ex, σ', H') ∧ Q ex σ' H' else Q (.goto l) σ H
  | e, σ, H => Q e σ H

theorem wj_step {b : ACode} {l : Option Nat} {σ : Env} {H : AHeap} {Q : AEx → Env → AHeap → Prop} (h : WL T b l σ H (AEx.jumps T b Q)) :
    ∃ k ex σ' H', jumpN (evC (evFn T k) T.meth k b) (hasLabel b) k l σ H = some (ex, σ', H') ∧ Q ex σ' H' := by
  obtain ⟨k, ex, σ', H', h1, h2⟩ := h
  cases ex with
  | goto l' =>
    simp only [AEx.jumps] at h2
    split at h2
    · rename_i hl
      obtain ⟨k', ex', σ'', H'', h3, h4⟩ := h2
      refine ⟨max k k' + 1, ex', σ'', H'', ?_, h4⟩
      simp only [jumpN, lift2 h1 (show k ≤ max k k' + 1 by omega), hl, if_true]
      exact jumpN_mono (fun l σ H r hr => lift2 hr (by omega)) k' (max k k') (Nat.le_max_right _ _) h3
    · rename_i hl
      refine ⟨k + 1, _, _, _, ?_, h2⟩
      simp only [jumpN, lift2 h1 (Nat.le_succ k), hl]
      rfl
  | norm => exact ⟨k + 1, _, _, _, by simp only [jumpN, lift2 h1 (Nat.le_succ k)], h2⟩
  | exit i => exact ⟨k + 1, _, _, _, by simp only [jumpN, lift2 h1 (Nat.le_succ k)], h2⟩
  | ret => exact ⟨k + 1, _, _, _, by simp only [jumpN, lift2 h1 (Nat.le_succ k)], h2⟩

theorem wc_scope {b : ACode} {σ : Env} {H : AHeap} {Q : AEx → Env → AHeap → Prop} (h : WL T b none σ H (AEx.jumps T b Q)) : WC T (.scope b) σ H Q := by
  obtain ⟨k, ex, σ', H', h1, h2⟩ := wj_step h
  exact ⟨k, ex, σ', H', by simp only [evC]; exact h1, h2⟩

theorem wl_none {b : ACode} {σ : Env} {H : AHeap} {Q : AEx → Env → AHeap → Prop} (h : WC T b σ H Q) : WL T b none σ H Q := h

theorem wl_seq_in {a b : ACode} {l : Nat} {σ : Env} {H : AHeap} {Q : AEx → Env → AHeap → Prop} (hl : hasLabel a l = true) (h : WL T a (some l) σ H (AEx.then (fun σ' H' => WC T b σ' H' Q) Q)) : WL T (.seq a b) (some l) σ H Q := by
  obtain ⟨k, ex, σ', H', h1, h2⟩ := h
  cases ex with
  | norm =>
    obtain ⟨k', ex', σ'', H'', h3, h4⟩ := h2
    exact ⟨max k k', ex', σ'', H'', by simp only [evC, hl, if_true, lift2 h1 (Nat.le_max_left k k'), lift2 h3 (Nat.le_max_right k k')], h4⟩
  | exit i => exact ⟨k, _, _, _, by simp only [evC, hl, if_true, h1], h2⟩
  | goto l => exact ⟨k, _, _, _, by simp only [evC, hl, if_true, h1], h2⟩
  | ret => exact ⟨k, _, _, _, by simp only [evC, hl, if_true, h1], h2⟩

theorem wl_seq_on {a b : ACode} {l : Nat} {σ : Env} {H : AHeap} {Q : AEx → Env → AHeap → Prop} (hl : hasLabel a l = false) (h : WL T b (some l) σ H Q) : WL T (.seq a b) (some l) σ H Q := by
  obtain ⟨k, ex, σ', H', h1, h2⟩ := h
  exact ⟨k, ex, σ', H', by simp only [evC, hl, Bool.false_eq_true, if_false]; exact h1, h2⟩

theorem wl_label {l : Nat} {σ : Env} {H : AHeap} {Q : AEx → Env → AHeap → Prop} (h : Q .norm σ H) : WL T (.label l) (some l) σ H Q := ⟨0, _, _, _, by simp only [evC, if_true], h⟩

/-- A function's body. -/
theorem ev_fn {f : FuncId} {fn : AFn} {vs : List Value} {H : AHeap} {R : Value → AHeap → Prop} (hp : T.prim f = none) (hf : T.fn f = some fn) (hn : vs.length = fn.nargs)
    (h : WC T fn.body (argEnv 0 vs) H fun ex σ' H' => (match ex with | .norm | .ret => true | _ => false) = true ∧ ∃ us, evRes σ' H' fn.res = some us ∧ R (asResult us) H') : Ev T f vs H R := by
  obtain ⟨k, ex, σ', H', h1, h2, us, h3, h4⟩ := h
  refine ⟨k + 1, asResult us, H', ?_, h4⟩
  have hn' : ¬ (vs.length ≠ fn.nargs) := by omega
  simp only [evFn, hp, hf, if_neg hn', h1]
  cases ex <;> simp only [Bool.false_eq_true] at h2
  · simp only [h3]
  · simp only [h3]

theorem ev_prim {f : FuncId} {p} {vs : List Value} {H : AHeap} {R : Value → AHeap → Prop} (hp : T.prim f = some p) {v : Value} {H' : AHeap} (h : p vs H = some (v, H')) (hr : R v H') : Ev T f vs H R :=
  ⟨1, v, H', by simp only [evFn, hp, h], hr⟩
end
end Go.Ab

/- A table of abstract functions, and the heap that holds the one table of the library. -/
namespace Go.Ab
open Go Go.RowKit

def tblFind : List (Nat × AFn) → Nat → Option AFn
  | [], _ => none
  | (k, v) :: r, n => if k = n then some v else tblFind r n

def allOk (P : Program) (gl : Nat) : List (Nat × AFn) → Prop
  | [] => True
  | p :: r => chkFn P gl p.1 p.2 = true ∧ allOk P gl r

theorem tblFind_ok {P : Program} {gl : Nat} : ∀ {l : List (Nat × AFn)}, allOk P gl l → ∀ f fn, tblFind l f = some fn → chkFn P gl f fn = true
  | [], _, _, _, h => by cases h
  | (k, v) :: r, h, f, fn, hf => by
    unfold tblFind at hf
    split at hf
    · rename_i hk; subst hk; cases hf; exact h.1
    · exact tblFind_ok h.2 f fn hf

def tabCells : List Value := [0, 1, 56, 2, 57, 49, 28, 3, 61, 58, 42, 50, 38, 29, 17, 4, 62, 47, 59, 36, 45, 43, 51, 22, 53, 39, 33, 30, 24, 18, 12, 5, 63, 55, 48, 27, 60, 41, 37, 16, 46, 35, 44, 21, 52, 32, 23, 11, 54, 26, 40, 15, 34, 20, 31, 10, 25, 14, 19, 9, 13, 8, 7, 6].map (Value.int .u8 ·)

/-- The world begins with the library's table. -/
def G1 : Glob where
  n := 1
  S w := ∃ t fz, w.heap[0]? = some (.cells tabCells.toArray t fz)
  st w w' h hb := by obtain ⟨t, fz, h⟩ := h; exact ⟨t, fz, by rw [hb 0 (by omega)]; exact h⟩

/-- The heap that holds the table alone. -/
def H1 : AHeap := ⟨Tr.put (key 0) .nil (some ⟨tabCells, 1⟩), 1, 1⟩
def ι1 : Inj := fun i => if i = 0 then some ⟨0, 0, 64, 1⟩ else none

theorem H1_get (i : Nat) (o : AObj) (h : H1.get i = some o) : i = 0 ∧ o = ⟨tabCells, 1⟩ := by
  have hi := AHeap.get_lt h
  have : i = 0 := by simp [H1] at hi; omega
  subst this
  refine ⟨rfl, ?_⟩
  have : H1.get 0 = some ⟨tabCells, 1⟩ := by kernel_rfl
  rw [this] at h; cases h; rfl

theorem tab_closed : ∀ v ∈ tabCells, closedIn 0 v = true := by
  intro v hv
  simp only [tabCells, List.mem_map] at hv
  obtain ⟨n, _, rfl⟩ := hv
  rfl

theorem rel1 {w : World} (h : G1.S w) : Rel G1 ι1 H1 w := by
  obtain ⟨t, fz, hw⟩ := h
  have hsz : 0 < w.heap.size := by
    rcases Nat.eq_zero_or_pos w.heap.size with e | e
    · rw [Array.getElem?_eq_none (by omega)] at hw; cases hw
    · exact e
  refine ⟨?_, ?_, ?_, Nat.le_refl _, ?_, ?_, ⟨t, fz, hw⟩⟩
  · intro i o ho
    obtain ⟨rfl, rfl⟩ := H1_get i o ho
    refine ⟨⟨0, 0, 64, 1⟩, tabCells.toArray, t, fz, rfl, rfl, hw, rfl, Nat.le_refl _, ?_, fun h => absurd h (by decide)⟩
    intro k v hv
    refine ⟨v, ?_, closedIn_vr _ 0 v (tab_closed v (List.mem_of_getElem? hv))⟩
    rw [Nat.zero_add, List.getElem?_toArray]; exact hv
  · intro i e he
    unfold ι1 at he
    split at he
    · cases he; subst_vars; exact ⟨by decide, hsz⟩
    · cases he
  · intro i j e f o p hi hj _ _ _ hne
    exact absurd ((H1_get i o hi).1.trans (H1_get j p hj).1.symm) hne
  · intro g hg
    have : g = 0 := by simp [G1] at hg; omega
    subst this
    exact ⟨_, rfl, rfl, rfl⟩
  · intro i e o hlo ho _
    obtain ⟨rfl, _⟩ := H1_get i o ho
    exact absurd hlo (by decide)

theorem lvr_closed (ι : Inj) : ∀ vs : List Value, vs.all (closedIn 0) = true → LVR ι vs vs
  | [], _ => .nil
  | v :: r, h => by
    simp only [List.all_cons, Bool.and_eq_true] at h
    exact .cons (closedIn_vr ι 0 v h.1) (lvr_closed ι r h.2)

/-- Nothing that lay has turned. -/
theorem Post.below {G : Glob} {ι : Inj} {H : AHeap} {w w' : World} (h : Rel G ι H w) (hb : Below w.heap.size w w') (hG : G.n ≤ w.heap.size) : Post G ι H w ι H w' := by
  refine ⟨⟨?_, fun i e he => ?_, h.sep, h.lo, h.glb, h.top, G.st w w' h.env fun b hbn => hb.block b (by omega)⟩, ι.le_refl, rfl, Nat.le_refl _, hb.size, fun b hbn _ => hb.block b hbn, fun i e o hi ho he => .inr ⟨i, e, o, hi, ho, he, rfl⟩, hb.os, hb.output, hb.tape⟩
  · intro i o ho
    obtain ⟨e, c, t, fz, h1, h2, h3, h4⟩ := h.obj i o ho
    exact ⟨e, c, t, fz, h1, h2, (hb.block _ (h.ent i e h1).2).trans h3, h4⟩
  · have := h.ent i e he
    exact ⟨this.1, Nat.lt_of_lt_of_le this.2 hb.size⟩

/-- A block that was not there is told by a new object. -/
theorem Post.fresh {G : Glob} {ι : Inj} {H : AHeap} {w w' : World} (h : Rel G ι H w) (hb : Below w.heap.size w w') (hG : G.n ≤ w.heap.size)
    {b : Nat} {c : Array Value} {t : TypeId} (hbn : w.heap.size ≤ b) (hw : w'.heap[b]? = some (.cells c t (0, 0))) (l : List Value) (esz : Nat)
    (hl : l.length ≤ c.size) (hv : ∀ (k : Nat) v, l[k]? = some v → ∃ v', c[k]? = some v' ∧ VR ι v v') :
    Post G ι H w (ι.put H.next ⟨b, 0, c.size, esz⟩) (H.new ⟨l, esz⟩) w' := by
  have hle : ι.le (ι.put H.next ⟨b, 0, c.size, esz⟩) := Inj.le_put h _
  have hbs : b < w'.heap.size := (Array.getElem?_eq_some_iff.1 hw).1
  refine ⟨⟨?_, ?_, ?_, ?_, fun g hg => ?_, fun i e o hi ho he => ?_, G.st w _ h.env fun b hb' => hb.block b (by omega)⟩, hle, rfl, by simp [AHeap.new], hb.size, fun k hk _ => hb.block k hk, ?_, hb.os, hb.output, hb.tape⟩
  case refine_6 =>
    rw [AHeap.get_new] at ho
    by_cases h1 : i = H.next
    · subst h1; rw [Inj.put_same] at he; cases he; exact Nat.le_trans hG hbn
    · rw [if_neg h1] at ho; rw [Inj.put_ne _ _ h1] at he; exact h.top i e o hi ho he
  case refine_5 => obtain ⟨e, he, h1, h2⟩ := h.glb g hg; exact ⟨e, hle _ _ he, h1, h2⟩
  · intro i o ho
    rw [AHeap.get_new] at ho
    split at ho
    · rename_i e
      cases ho
      refine ⟨_, c, t, (0, 0), by rw [e, Inj.put_same], rfl, hw, rfl, by simpa using hl, ?_, fun _ => rfl⟩
      intro k v hk
      obtain ⟨v', hv', hr⟩ := hv k v hk
      exact ⟨v', by simpa using hv', hr.mono hle⟩
    · rename_i hne
      obtain ⟨e, c', t', fz, h1, h2, h3, h4, h5, h6, h7⟩ := h.obj i o ho
      refine ⟨e, c', t', fz, by rw [Inj.put_ne _ _ hne]; exact h1, h2, (hb.block _ (h.ent i e h1).2).trans h3, h4, h5, ?_, h7⟩
      intro k v hk
      obtain ⟨v', hv', hr⟩ := h6 k v hk
      exact ⟨v', hv', hr.mono hle⟩
  · intro i e he
    by_cases hi : i = H.next
    · subst hi; rw [Inj.put_same] at he; cases he; exact ⟨by simp [AHeap.new], hbs⟩
    · rw [Inj.put_ne _ _ hi] at he
      have := h.ent i e he
      exact ⟨by simp [AHeap.new]; omega, Nat.lt_of_lt_of_le this.2 hb.size⟩
  · intro i j e f o p ho hp he hf hi hij
    rw [AHeap.get_new] at ho hp
    by_cases h1 : i = H.next
    · subst h1
      rw [Inj.put_same] at he; cases he
      have hj : j ≠ H.next := fun x => hij x.symm
      rw [Inj.put_ne _ _ hj] at hf
      have := (h.ent j f hf).2
      intro hx
      simp only at hx
      omega
    · rw [Inj.put_ne _ _ h1] at he
      rw [if_neg h1] at ho
      by_cases h2 : j = H.next
      · subst h2
        rw [Inj.put_same] at hf; cases hf
        have := (h.ent i e he).2
        intro hx
        simp only at hx
        omega
      · rw [Inj.put_ne _ _ h2] at hf
        rw [if_neg h2] at hp
        exact h.sep i j e f o p ho hp he hf hi hij
  · have := h.lo
    simp [AHeap.new]; omega
  · intro i e o hi ho he
    by_cases h1 : i = H.next
    · subst h1; rw [Inj.put_same] at he; cases he; exact .inl hbn
    · rw [Inj.put_ne _ _ h1] at he
      rw [AHeap.get_new, if_neg h1] at ho
      exact .inr ⟨i, e, o, hi, ho, he, rfl⟩
end Go.Ab

/- The methods of a program that are found by name. -/
namespace Go.Ab
open Go

def mFind : List (TypeId × String × FuncId) → TypeId → String → Option FuncId
  | [], _, _ => none
  | (t', m', f) :: r, t, m => if t = t' then (if m = m' then some f else mFind r t m) else mFind r t m

def mPtr : Option TypeDesc → Bool
  | some (.pointer _) => true
  | _ => false

def mRec (f : FuncId) : Option (FuncId × Bool) → Bool
  | some (f', true) => f' == f
  | _ => false

def mMeth (m : String) (f : FuncId) : Option TypeInfo → Bool
  | some i => match i.methods.find? (·.name == m) with
    | some md => md.path.isEmpty && mRec f md.func
    | none => false
  | none => false

def mChk (P : Program) (e : TypeId × String × FuncId) : Bool := mMeth e.2.1 e.2.2 (P.info? e.1) && mPtr (P.underlying e.1)

def mAll (P : Program) : List (TypeId × String × FuncId) → Prop
  | [] => True
  | e :: r => mChk P e = true ∧ mAll P r

theorem meth_one {P : Program} {t : TypeId} {m : String} {f : FuncId} (h : mChk P (t, m, f) = true) (v : Value) (w : World) :
    (method (P.types.size + Made.depth) t v m).run P w = .ok (f, v) w := by
  unfold mChk at h
  simp only [Bool.and_eq_true] at h
  obtain ⟨h1, h2⟩ := h
  unfold mMeth at h1
  split at h1
  · rename_i i hi
    split at h1
    · rename_i md hmd
      simp only [Bool.and_eq_true, Array.isEmpty_iff] at h1
      obtain ⟨hp, hr⟩ := h1
      unfold mRec at hr
      split at hr
      · rename_i f' hf
        simp only [beq_iff_eq] at hr
        subst hr
        unfold mPtr at h2
        split at h2
        · rename_i e hu
          obtain ⟨k, hk⟩ : ∃ k, P.types.size + Made.depth = k + 1 := ⟨P.types.size + 99, by simp [Made.depth]⟩
          rw [hk]
          simp [method, typeInfo, hi, hmd, hp, hf, follow, receiverAt, underlying, hu, Place.get, go_sem]
        · cases h2
      · cases hr
    · cases h1
  · cases h1

theorem meth_ok {P : Program} : ∀ {l : List (TypeId × String × FuncId)}, mAll P l → MethS P (mFind l)
  | [], _ => fun _ _ _ h => nomatch h
  | (t', m', f') :: r, h => fun t m f hf => by
    unfold mFind at hf
    split at hf
    · rename_i e; subst e
      split at hf
      · rename_i e; subst e; cases hf
        exact meth_one h.1
      · exact meth_ok h.2 t m f hf
    · exact meth_ok h.2 t m f hf
end Go.Ab

/- The arguments of a call, read into an abstract heap that may only be read. -/
namespace Go.Ab
open Go Go.RowKit

def tileOk (P : Program) : List Field → Nat → Option Nat
  | [], n => some n
  | f :: r, n => if f.offset = n then tileOk P r (n + P.cellsOf f.type) else none

/-- The types that are read. -/
def rty (P : Program) : Nat → TypeId → Bool
  | 0, _ => false
  | f + 1, t => match P.underlying t with
    | some .bool => true
    | some (.int _) => true
    | some (.slice e) => decide (0 < P.cellsOf e) && rty P f e
    | some (.struct fs) => decide (tileOk P fs.toList 0 = some (P.cellsOf t)) && fs.toList.all fun x => rty P f x.type
    | some (.array n e) => decide (P.cellsOf t = n * P.cellsOf e) && rty P f e
    | _ => false

inductive All2 {α β : Type} (R : α → β → Prop) : List α → List β → Prop
  | nil : All2 R [] []
  | cons {a : α} {b : β} {l : List α} {l' : List β} : R a b → All2 R l l' → All2 R (a :: l) (b :: l')

theorem All2.imp {α β : Type} {R S : α → β → Prop} (h : ∀ a b, R a b → S a b) {l : List α} {l' : List β} (x : All2 R l l') : All2 S l l' := by
  induction x with
  | nil => exact .nil
  | cons a _ ih => exact .cons (h _ _ a) ih

/-- What is read, by its type. -/
def Ty (P : Program) (H : AHeap) : Nat → TypeId → List Value → Prop
  | 0, _, _ => False
  | f + 1, t, l => match P.underlying t with
    | some .bool => ∃ b, l = [.bool b]
    | some (.int k) => ∃ n, l = [.int k n] ∧ (Lit.int k n).wf = true
    | some (.slice e) => l = [.slice none 0 0] ∨ ∃ (i : Nat) (parts : List (List Value)), l = [.slice (some ⟨i, 0, none⟩) parts.length parts.length] ∧
        (parts = [] ∨ H.get i = some ⟨parts.flatten, P.cellsOf e⟩) ∧ ∀ p ∈ parts, p.length = P.cellsOf e ∧ Ty P H f e p
    | some (.struct fs) => ∃ parts : List (List Value), l = parts.flatten ∧ All2 (fun (x : Field) p => p.length = P.cellsOf x.type ∧ Ty P H f x.type p) fs.toList parts
    | some (.array n e) => ∃ parts : List (List Value), l = parts.flatten ∧ parts.length = n ∧ ∀ p ∈ parts, p.length = P.cellsOf e ∧ Ty P H f e p
    | _ => False

def AHeap.sub (H H' : AHeap) : Prop := ∀ i o, H.get i = some o → H'.get i = some o
theorem AHeap.sub_refl (H : AHeap) : H.sub H := fun _ _ h => h
theorem AHeap.sub_trans {A B C : AHeap} (h : A.sub B) (k : B.sub C) : A.sub C := fun i o x => k i o (h i o x)

theorem Ty.mono {P : Program} {H H' : AHeap} (hs : H.sub H') : ∀ {f : Nat} {t : TypeId} {l : List Value}, Ty P H f t l → Ty P H' f t l
  | 0, _, _, h => h.elim
  | f + 1, t, l, h => by
    unfold Ty at h ⊢
    split at h
    · exact h
    · exact h
    · rcases h with h | ⟨i, parts, h1, h2, h3⟩
      · exact .inl h
      · exact .inr ⟨i, parts, h1, h2.imp id (hs i _), fun p hp => ⟨(h3 p hp).1, Ty.mono hs (h3 p hp).2⟩⟩
    · obtain ⟨parts, h1, h2⟩ := h
      exact ⟨parts, h1, h2.imp fun _ _ hx => ⟨hx.1, Ty.mono hs hx.2⟩⟩
    · obtain ⟨parts, h1, h2, h3⟩ := h
      exact ⟨parts, h1, h2, fun p hp => ⟨(h3 p hp).1, Ty.mono hs (h3 p hp).2⟩⟩
    · exact h.elim

/-- Nothing may be written. -/
structure Ro (G : Glob) (ι : Inj) (H : AHeap) (w : World) : Prop where
  rel : Rel G ι H w
  all : H.lo = H.next

structure Ext (ι : Inj) (H : AHeap) (ι' : Inj) (H' : AHeap) : Prop where
  le : ι.le ι'
  sub : H.sub H'

theorem Ext.refl (ι : Inj) (H : AHeap) : Ext ι H ι H := ⟨ι.le_refl, H.sub_refl⟩
theorem Ext.trans {a b c : Inj} {A B C : AHeap} (h : Ext a A b B) (k : Ext b B c C) : Ext a A c C := ⟨Inj.le_trans h.le k.le, AHeap.sub_trans h.sub k.sub⟩

def AHeap.newRo (H : AHeap) (o : AObj) : AHeap := (H.new o).froz

theorem Ro.new {G : Glob} {ι : Inj} {H : AHeap} {w : World} (h : Ro G ι H w) {b base esz : Nat} {c : Array Value} {t : TypeId} {fz : Nat × Nat} (hw : w.heap[b]? = some (.cells c t fz))
    (l : List Value) (hl : base + l.length ≤ c.size) (hv : ∀ (k : Nat) v, l[k]? = some v → ∃ v', c[base + k]? = some v' ∧ VR ι v v') :
    Ro G (ι.put H.next ⟨b, base, c.size, esz⟩) (H.newRo ⟨l, esz⟩) w ∧ Ext ι H (ι.put H.next ⟨b, base, c.size, esz⟩) (H.newRo ⟨l, esz⟩) ∧ (H.newRo ⟨l, esz⟩).get H.next = some ⟨l, esz⟩ := by
  have hle : ι.le (ι.put H.next ⟨b, base, c.size, esz⟩) := Inj.le_put h.rel _
  have hbs : b < w.heap.size := (Array.getElem?_eq_some_iff.1 hw).1
  have hg : ∀ j, (H.newRo ⟨l, esz⟩).get j = if j = H.next then some ⟨l, esz⟩ else H.get j := fun j => AHeap.get_new H ⟨l, esz⟩ j
  have hlo : (H.newRo ⟨l, esz⟩).lo = H.next + 1 := rfl
  have hnx : (H.newRo ⟨l, esz⟩).next = H.next + 1 := rfl
  refine ⟨⟨⟨?_, ?_, ?_, Nat.le_refl _, fun g hg => ?_, ?_, h.rel.env⟩, rfl⟩, ⟨hle, fun i o ho => ?_⟩, ?_⟩
  · intro i o ho
    rw [hg] at ho
    split at ho
    · rename_i e
      cases ho
      refine ⟨_, c, t, fz, by rw [e, Inj.put_same], rfl, hw, rfl, hl, ?_, fun hx => ?_⟩
      · intro k v hk
        obtain ⟨v', hv', hr⟩ := hv k v hk
        exact ⟨v', hv', hr.mono hle⟩
      · rw [hlo] at hx; omega
    · rename_i hne
      obtain ⟨e, c', t', fz', h1, h2, h3, h4, h5, h6, h7⟩ := h.rel.obj i o ho
      refine ⟨e, c', t', fz', by rw [Inj.put_ne _ _ hne]; exact h1, h2, h3, h4, h5, ?_, fun hx => ?_⟩
      · intro k v hk
        obtain ⟨v', hv', hr⟩ := h6 k v hk
        exact ⟨v', hv', hr.mono hle⟩
      · have := AHeap.get_lt ho
        rw [hlo] at hx; omega
  · intro i e he
    by_cases hi : i = H.next
    · subst hi; rw [Inj.put_same] at he; cases he; exact ⟨Nat.lt_succ_self _, hbs⟩
    · rw [Inj.put_ne _ _ hi] at he
      have := h.rel.ent i e he
      exact ⟨Nat.lt_succ_of_lt this.1, this.2⟩
  · intro i j e f o p ho hp he hf hi hij
    have := AHeap.get_lt ho
    exact absurd hi (by omega)
  · obtain ⟨e, he, h1, h2⟩ := h.rel.glb g hg; exact ⟨e, hle _ _ he, h1, h2⟩
  · intro i e o hi ho he
    have := AHeap.get_lt ho
    exact absurd hi (by omega)
  · have := AHeap.get_lt ho
    rw [hg, if_neg (by omega)]; exact ho
  · rw [hg, if_pos rfl]

theorem mapM_all {α β : Type} {f : α → Option β} : ∀ {l : List α} {ys : List β}, l.mapM f = some ys → ∀ x ∈ l, ∃ y, f x = some y
  | [], _, _, x, hx => by cases hx
  | a :: l, ys, h, x, hx => by
    rw [List.mapM_cons] at h
    cases hfa : f a with
    | none => simp [hfa] at h
    | some y =>
      cases hl : l.mapM f with
      | none => simp [hfa, hl] at h
      | some zs =>
        rcases List.mem_cons.1 hx with rfl | hx
        · exact ⟨y, hfa⟩
        · exact mapM_all hl x hx

theorem All2.cons_inv {α β : Type} {R : α → β → Prop} {a : α} {l : List α} {l' : List β} (h : All2 R (a :: l) l') : ∃ b r, l' = b :: r ∧ R a b ∧ All2 R l r := by
  cases h with
  | cons h1 h2 => exact ⟨_, _, rfl, h1, h2⟩
theorem All2.nil_inv {α β : Type} {R : α → β → Prop} {l' : List β} (h : All2 R [] l') : l' = [] := by cases h; rfl
theorem All2.length {α β : Type} {R : α → β → Prop} {l : List α} {l' : List β} (x : All2 R l l') : l'.length = l.length := by
  induction x with
  | nil => rfl
  | cons _ _ ih => simp [ih]

theorem All2.of_map {α β γ : Type} {R : α → β → Prop} {g : γ → α} : ∀ {l : List γ} {l' : List β}, All2 R (l.map g) l' → All2 (fun x p => R (g x) p) l l'
  | [], _, h => by cases h; exact .nil
  | a :: l, _, h => by
    rw [List.map_cons] at h
    cases h with
    | cons h1 h2 => exact .cons h1 (All2.of_map h2)

theorem All2.imp_mem {α β : Type} {R S : α → β → Prop} {l : List α} {l' : List β} (x : All2 R l l') (h : ∀ a ∈ l, ∀ b, R a b → S a b) : All2 S l l' := by
  induction x with
  | nil => exact .nil
  | cons a _ ih => exact .cons (h _ List.mem_cons_self _ a) (ih fun a ha => h a (List.mem_cons_of_mem _ ha))

theorem All2.right {α β : Type} {R : α → β → Prop} {Q : β → Prop} {l : List α} {l' : List β} (x : All2 R l l') (h : ∀ a b, R a b → Q b) : ∀ b ∈ l', Q b := by
  induction x with
  | nil => intro b hb; cases hb
  | cons a _ ih =>
    intro b hb
    rcases List.mem_cons.1 hb with rfl | hb
    · exact h _ _ a
    · exact ih b hb

theorem All2.lvr {α : Type} {ι : Inj} {g : α → List Value} {l : List α} {parts : List (List Value)} (x : All2 (fun a p => LVR ι p (g a)) l parts) : LVR ι parts.flatten (l.map g).flatten := by
  induction x with
  | nil => exact .nil
  | cons a _ ih => simpa using LVR.append a ih

theorem tile_le {P : Program} : ∀ {fs : List Field} {n m : Nat}, tileOk P fs n = some m → n ≤ m ∧ ∀ f ∈ fs, f.offset + P.cellsOf f.type ≤ m
  | [], n, m, h => by simp [tileOk] at h; subst h; exact ⟨Nat.le_refl _, fun f hf => by cases hf⟩
  | f :: r, n, m, h => by
    unfold tileOk at h
    split at h
    · rename_i ho
      obtain ⟨h1, h2⟩ := tile_le h
      refine ⟨by omega, fun g hg => ?_⟩
      rcases List.mem_cons.1 hg with rfl | hg
      · omega
      · exact h2 g hg
    · cases h

theorem tile_flat {P : Program} (cs : List Value) : ∀ {fs : List Field} {n m : Nat}, tileOk P fs n = some m →
    (fs.map fun f => (cs.drop f.offset).take (P.cellsOf f.type)).flatten = (cs.drop n).take (m - n)
  | [], n, m, h => by simp [tileOk] at h; subst h; simp
  | f :: r, n, m, h => by
    unfold tileOk at h
    split at h
    · rename_i ho
      have h1 := (tile_le h).1
      rw [List.map_cons, List.flatten_cons, tile_flat cs h, ho]
      have : m - n = P.cellsOf f.type + (m - (n + P.cellsOf f.type)) := by omega
      rw [this, List.take_add, List.drop_drop]
    · cases h

theorem chunk_flat (cs : List Value) (ce o : Nat) : ∀ n : Nat, ((List.range n).map fun i => (cs.drop (o + i * ce)).take ce).flatten = (cs.drop o).take (n * ce)
  | 0 => by simp
  | n + 1 => by
    rw [List.range_succ, List.map_append, List.flatten_append, chunk_flat cs ce o n]
    have : (n + 1) * ce = n * ce + ce := by rw [Nat.succ_mul]
    rw [this, List.take_add, List.drop_drop]
    simp

theorem cells_eq {w : World} {base b o n : Nat} {l : List Value} {c : Array Value} {t : TypeId} {fz : Nat × Nat} (hw : w.heap[b]? = some (.cells c t fz)) (h : w.cells? base ⟨b, o, none⟩ n = some l) :
    l = (c.toList.drop o).take n ∧ (0 < n → o + n ≤ c.size) := by
  unfold World.cells? at h
  split at h
  · have key : ∀ (n : Nat) (l : List Value), ((List.range n).mapM fun i => w.cell? (Addr.add ⟨b, o, none⟩ i)) = some l → l = (c.toList.drop o).take n ∧ (0 < n → o + n ≤ c.size) := by
      intro n
      induction n with
      | zero => intro l h; simp at h; subst h; simp
      | succ n ih =>
        intro l h
        rw [List.range_succ, List.mapM_append] at h
        cases h1 : ((List.range n).mapM fun i => w.cell? (Addr.add ⟨b, o, none⟩ i)) with
        | none => simp [h1] at h
        | some l1 =>
          cases h2 : w.cell? (Addr.add ⟨b, o, none⟩ n) with
          | none => simp [h1, h2] at h
          | some v =>
            simp [h1, h2] at h
            subst h
            obtain ⟨e1, _⟩ := ih l1 h1
            have hc : c[o + n]? = some v := by
              have : Addr.add ⟨b, o, none⟩ n = ⟨b, o + n, none⟩ := by
                unfold Addr.add; split
                · rename_i e; subst e; rfl
                · rfl
              rw [this] at h2
              unfold World.cell? at h2
              rw [hw] at h2
              simpa using h2
            have hlt := (Array.getElem?_eq_some_iff.1 hc).1
            refine ⟨?_, fun _ => by omega⟩
            rw [List.take_add_one, e1, List.getElem?_drop]
            rw [show c.toList[o + n]? = some v by simpa using hc]
            rfl
    exact key n l h
  · cases h

section
variable {Hd : Type} {enc : TypeId × Value → Hd} {P : Program} {w : World} {G : Glob} {held : Bool}

theorem read_parts {f fuel : Nat} (ih : ∀ (t : TypeId) (cs : List Value) r, DataW.trod enc P w 0 (fun _ => true) held fuel t cs = some r → rty P f t = true → ∀ ι H, Ro G ι H w →
      ∃ ι' H' avs, Ext ι H ι' H' ∧ Ro G ι' H' w ∧ LVR ι' avs cs ∧ Ty P H' f t avs) :
    ∀ (l : List (TypeId × List Value)), (∀ x ∈ l, (∃ r, DataW.trod enc P w 0 (fun _ => true) held fuel x.1 x.2 = some r) ∧ rty P f x.1 = true) → ∀ ι H, Ro G ι H w →
      ∃ ι' H' parts, Ext ι H ι' H' ∧ Ro G ι' H' w ∧ All2 (fun x p => LVR ι' p x.2 ∧ Ty P H' f x.1 p) l parts
  | [], _, ι, H, hr => ⟨ι, H, [], Ext.refl _ _, hr, .nil⟩
  | x :: l, h, ι, H, hr => by
    obtain ⟨⟨r, hx⟩, ht⟩ := h x List.mem_cons_self
    obtain ⟨ι₁, H₁, avs, e1, r1, l1, t1⟩ := ih x.1 x.2 r hx ht ι H hr
    obtain ⟨ι₂, H₂, parts, e2, r2, a2⟩ := read_parts ih l (fun y hy => h y (List.mem_cons_of_mem _ hy)) ι₁ H₁ r1
    exact ⟨ι₂, H₂, avs :: parts, e1.trans e2, r2, .cons ⟨l1.mono e2.le, t1.mono e2.sub⟩ a2⟩

theorem read_one : ∀ (f fuel : Nat) (t : TypeId) (cs : List Value) r, DataW.trod enc P w 0 (fun _ => true) held fuel t cs = some r → rty P f t = true → ∀ ι H, Ro G ι H w →
    ∃ ι' H' avs, Ext ι H ι' H' ∧ Ro G ι' H' w ∧ LVR ι' avs cs ∧ Ty P H' f t avs
  | 0, _, _, _, _, _, h => by simp [rty] at h
  | f + 1, fuel, t, cs, r, h, ht => by
    intro ι H hr
    unfold rty at ht
    unfold Ty
    split at ht
    · rename_i hu
      obtain ⟨b, rfl, _⟩ := DataW.trod_bool hu h
      exact ⟨ι, H, [.bool b], Ext.refl _ _, hr, .cons (.bool b) .nil, b, rfl⟩
    · rename_i k hu
      obtain ⟨n, rfl, _, hw⟩ := DataW.trod_int hu h
      exact ⟨ι, H, [.int k n], Ext.refl _ _, hr, .cons (.int k n) .nil, n, rfl, hw⟩
    · rename_i e hu
      simp only [Bool.and_eq_true, decide_eq_true_eq] at ht
      obtain ⟨hce, hte⟩ := ht
      rcases DataW.trod_slice hu h with ⟨rfl, _⟩ | ⟨a, len, cap, elems, rest, n, rfl, rfl, _, _, hlc, hcm, hel, h1, h2, _⟩
      · exact ⟨ι, H, [.slice none 0 0], Ext.refl _ _, hr, .cons .slNil .nil, .inl rfl⟩
      · obtain ⟨hrl, h2⟩ := h2 rfl
        rcases Nat.eq_zero_or_pos cap with hc0 | hcp
        · obtain rfl : cap = 0 := hc0
          obtain rfl : len = 0 := by omega
          exact ⟨ι, H, [.slice (some ⟨0, 0, none⟩) 0 0], Ext.refl _ _, hr, .cons .slE .nil, .inr ⟨0, [], rfl, .inl rfl, fun p hp => by cases hp⟩⟩
        · have hall : ∀ i, i < cap → ∃ r, (w.cells? 0 (a.add (i * P.cellsOf e)) (P.cellsOf e)).bind (DataW.trod enc P w 0 (fun _ => true) held n e) = some r := by
            intro i hi
            rcases Nat.lt_or_ge i len with hl | hl
            · exact ⟨elems[i], by rw [h1 i hl]; exact List.getElem?_eq_getElem (by omega)⟩
            · refine ⟨rest[i - len], ?_⟩
              have := h2 (i - len) (by omega)
              rw [show len + (i - len) = i by omega] at this
              rw [this]; exact List.getElem?_eq_getElem (by omega)
          obtain ⟨b, o, c, t', fz, ha, hw⟩ : ∃ b o c t' fz, a = ⟨b, o, none⟩ ∧ w.heap[b]? = some (.cells c t' fz) := by
            obtain ⟨r0, hr0⟩ := hall 0 hcp
            cases hc : w.cells? 0 (a.add (0 * P.cellsOf e)) (P.cellsOf e) with
            | none => rw [hc] at hr0; cases hr0
            | some l0 =>
              unfold World.cells? at hc
              rw [if_pos (Nat.zero_le _)] at hc
              obtain ⟨v, hv⟩ := mapM_all hc 0 (List.mem_range.2 hce)
              simp only [Nat.zero_mul, Addr.add, if_true] at hv
              unfold World.cell? at hv
              split at hv
              · rename_i c t' fz hb
                obtain ⟨b, o, sp⟩ := a
                cases sp with
                | none => exact ⟨b, o, c, t', fz, rfl, hb⟩
                | some x => simp at hv
              · cases hv
          subst ha
          have hadd : ∀ k, Addr.add ⟨b, o, none⟩ k = ⟨b, o + k, none⟩ := by
            intro k
            unfold Addr.add; split
            · rename_i e; subst e; rfl
            · rfl
          have hall2 : ∀ i, i < cap → (∃ r, DataW.trod enc P w 0 (fun _ => true) held n e ((c.toList.drop (o + i * P.cellsOf e)).take (P.cellsOf e)) = some r) ∧ o + i * P.cellsOf e + P.cellsOf e ≤ c.size := by
            intro i hi
            obtain ⟨r, hr⟩ := hall i hi
            rw [hadd] at hr
            cases hc : w.cells? 0 ⟨b, o + i * P.cellsOf e, none⟩ (P.cellsOf e) with
            | none => rw [hc] at hr; cases hr
            | some l0 =>
              obtain ⟨rfl, hle⟩ := cells_eq hw hc
              rw [hc] at hr
              exact ⟨⟨r, hr⟩, hle hce⟩
          obtain ⟨ι₁, H₁, parts, e1, r1, a1⟩ := read_parts (fun t cs r h ht ι H hr => read_one f n t cs r h ht ι H hr)
            ((List.range len).map fun i => (e, (c.toList.drop (o + i * P.cellsOf e)).take (P.cellsOf e))) (by
              intro x hx
              simp only [List.mem_map, List.mem_range] at hx
              obtain ⟨i, hi, rfl⟩ := hx
              exact ⟨(hall2 i (by omega)).1, hte⟩) ι H hr
          have a2 := All2.of_map a1
          have hlen : parts.length = len := by rw [a2.length]; simp
          have hlv : LVR ι₁ parts.flatten ((c.toList.drop o).take (len * P.cellsOf e)) := by
            rw [← chunk_flat]
            exact (a2.imp fun _ _ x => x.1).lvr
          have hsz : o + cap * P.cellsOf e ≤ c.size := by
            have := (hall2 (cap - 1) (by omega)).2
            have h3 : cap * P.cellsOf e = (cap - 1) * P.cellsOf e + P.cellsOf e := by
              rw [← Nat.succ_mul, Nat.succ_eq_add_one, Nat.sub_add_cancel hcp]
            omega
          have hmul : len * P.cellsOf e ≤ cap * P.cellsOf e := Nat.mul_le_mul_right _ hlc
          have hfl : parts.flatten.length = len * P.cellsOf e := by
            rw [hlv.length, List.length_take, List.length_drop, Array.length_toList]; omega
          obtain ⟨r2, e2, g2⟩ := Ro.new (esz := P.cellsOf e) r1 hw parts.flatten (base := o) (by omega) (by
            intro k v hk
            obtain ⟨v', hv', hvr⟩ := hlv.get k v hk
            rw [List.getElem?_take] at hv'
            split at hv'
            · rw [List.getElem?_drop] at hv'
              exact ⟨v', by simpa using hv', hvr⟩
            · cases hv')
          refine ⟨_, _, [.slice (some ⟨H₁.next, 0, none⟩) parts.length parts.length], e1.trans e2, r2, .cons ?_ .nil, .inr ⟨H₁.next, parts, rfl, .inr g2, ?_⟩⟩
          · rw [hlen]
            exact VR.sl (ι := ι₁.put H₁.next ⟨b, o, c.size, P.cellsOf e⟩) (i := H₁.next) (off := 0) (c := len) (Inj.put_same _ _ _) hlc (by simpa using hsz)
          · refine All2.right (a2.imp_mem (S := fun _ p => p.length = P.cellsOf e ∧ Ty P (H₁.newRo ⟨parts.flatten, P.cellsOf e⟩) f e p) ?_) fun _ _ x => x
            intro i hi p hp
            refine ⟨?_, hp.2.mono e2.sub⟩
            rw [hp.1.length]
            have := (hall2 i (by have := List.mem_range.1 hi; omega)).2
            simp only [List.length_take, List.length_drop, Array.length_toList]; omega
    · rename_i fs hu
      simp only [Bool.and_eq_true, decide_eq_true_eq, List.all_eq_true] at ht
      obtain ⟨hti, hty⟩ := ht
      obtain ⟨xs, n, rfl, _, hcl, hxl, hf⟩ := DataW.trod_struct hu h
      obtain ⟨ι₁, H₁, parts, e1, r1, a1⟩ := read_parts (fun t cs r h ht ι H hr => read_one f n t cs r h ht ι H hr)
        (fs.toList.map fun x => (x.type, (cs.drop x.offset).take (P.cellsOf x.type))) (by
          intro x hx
          simp only [List.mem_map] at hx
          obtain ⟨y, hy, rfl⟩ := hx
          refine ⟨?_, hty y hy⟩
          obtain ⟨i, hi⟩ := List.getElem?_of_mem hy
          have hi' : fs[i]? = some y := by simpa using hi
          have hlt : i < fs.size := (Array.getElem?_eq_some_iff.1 hi').1
          exact ⟨xs[i], by rw [hf i y hi']; exact List.getElem?_eq_getElem (by omega)⟩) ι H hr
      have a2 := All2.of_map a1
      have hfl := tile_flat (P := P) cs hti
      rw [Nat.sub_zero, List.drop_zero, ← hcl, List.take_length] at hfl
      refine ⟨ι₁, H₁, parts.flatten, e1, r1, ?_, parts, rfl, ?_⟩
      · have := (a2.imp fun _ _ x => x.1).lvr
        rw [hfl] at this
        exact this
      · refine a2.imp_mem fun x hx p hp => ⟨?_, hp.2⟩
        rw [hp.1.length]
        have := (tile_le hti).2 x hx
        simp only [List.length_take, List.length_drop]; omega
    · rename_i n e hu
      simp only [Bool.and_eq_true, decide_eq_true_eq] at ht
      obtain ⟨hsz, hte⟩ := ht
      obtain ⟨xs, m, rfl, _, hcl, hxl, hf⟩ := DataW.trod_array hu h
      obtain ⟨ι₁, H₁, parts, e1, r1, a1⟩ := read_parts (fun t cs r h ht ι H hr => read_one f m t cs r h ht ι H hr)
        ((List.range n).map fun i => (e, (cs.drop (0 + i * P.cellsOf e)).take (P.cellsOf e))) (by
          intro x hx
          simp only [List.mem_map, List.mem_range] at hx
          obtain ⟨i, hi, rfl⟩ := hx
          rw [Nat.zero_add]
          exact ⟨⟨xs[i], by rw [hf i hi]; exact List.getElem?_eq_getElem (by omega)⟩, hte⟩) ι H hr
      have a2 := All2.of_map a1
      refine ⟨ι₁, H₁, parts.flatten, e1, r1, ?_, parts, rfl, by rw [a2.length]; simp, ?_⟩
      · have := (a2.imp fun _ _ x => x.1).lvr
        rw [chunk_flat, ← hsz, List.drop_zero, ← hcl, List.take_length] at this
        exact this
      · refine All2.right (a2.imp_mem (S := fun _ p => p.length = P.cellsOf e ∧ Ty P H₁ f e p) ?_) fun _ _ x => x
        intro i hi p hp
        refine ⟨?_, hp.2⟩
        rw [hp.1.length]
        have := List.mem_range.1 hi
        have h3 : i * P.cellsOf e + P.cellsOf e ≤ n * P.cellsOf e := by rw [← Nat.succ_mul]; exact Nat.mul_le_mul_right _ this
        simp only [List.length_take, List.length_drop]; omega
    · cases ht
end
end Go.Ab

/- The arguments of a call, all of them, and what a call that leaves them comes to. -/
namespace Go.Ab
open Go Go.RowKit Go.WideShapes Go.ChangeShapes

/-- An argument, by its type. -/
def TyArg (P : Program) (H : AHeap) (f : Nat) (t : TypeId) (av : Value) : Prop :=
  match P.underlying t with
  | some (.struct _) => ∃ l, av = .agg l.toArray ∧ Ty P H f t l
  | some (.array _ _) => ∃ l, av = .agg l.toArray ∧ Ty P H f t l
  | _ => Ty P H f t [av]

theorem TyArg.mono {P : Program} {H H' : AHeap} (hs : H.sub H') {f : Nat} {t : TypeId} {av : Value} (h : TyArg P H f t av) : TyArg P H' f t av := by
  unfold TyArg at h ⊢
  split at h
  · obtain ⟨l, h1, h2⟩ := h; exact ⟨l, h1, h2.mono hs⟩
  · obtain ⟨l, h1, h2⟩ := h; exact ⟨l, h1, h2.mono hs⟩
  · exact h.mono hs

section
variable {Hd : Type} {enc : TypeId × Value → Hd} {P : Program} {w : World} {G : Glob} {held : Bool}

theorem read_arg {f b : Nat} {t : TypeId} {v : Value} {d : DataW Hd} {ps : List MemPlace} (h : DataW.Trod enc P w 0 (fun _ => true) held t v d ps) (ht : rty P f t = true)
    (hv : Value.okWide P w .any b t v) {ι : Inj} {H : AHeap} (hr : Ro G ι H w) : ∃ ι' H' av, Ext ι H ι' H' ∧ Ro G ι' H' w ∧ VR ι' av v ∧ TyArg P H' f t av := by
  obtain ⟨fuel, hf⟩ := h
  obtain ⟨ι', H', avs, e, r, l, ty⟩ := read_one f fuel t _ _ hf ht ι H hr
  have one : ∀ x, v = x → v.cells = #[x] → ∃ ι' H' av, Ext ι H ι' H' ∧ Ro G ι' H' w ∧ VR ι' av v ∧ Ty P H' f t [av] := by
    intro x hx hc
    subst hx
    rw [hc] at l
    cases l with
    | cons h1 h2 => cases h2; exact ⟨ι', H', _, e, r, h1, ty⟩
  have agg : ∀ cs, v = .agg cs → ∃ ι' H' av, Ext ι H ι' H' ∧ Ro G ι' H' w ∧ VR ι' av v ∧ ∃ l, av = .agg l.toArray ∧ Ty P H' f t l := by
    intro cs hc
    subst hc
    have := l.avr
    exact ⟨ι', H', .agg avs.toArray, e, r, .agg _ _ (by simpa [Value.cells] using this.1) (by simpa [Value.cells] using this.2), avs, rfl, ty⟩
  cases f with
  | zero => simp [rty] at ht
  | succ f =>
    have ht' := ht
    unfold rty at ht'
    split at ht'
    · rename_i hu
      obtain ⟨x, rfl⟩ := okWide_bool hu hv
      obtain ⟨ι', H', av, a, b, c, d⟩ := one _ rfl rfl
      exact ⟨ι', H', av, a, b, c, by unfold TyArg; rw [hu]; exact d⟩
    · rename_i k hu
      obtain ⟨x, rfl⟩ := okWide_int hu hv
      obtain ⟨ι', H', av, a, b, c, d⟩ := one _ rfl rfl
      exact ⟨ι', H', av, a, b, c, by unfold TyArg; rw [hu]; exact d⟩
    · rename_i e hu
      obtain ⟨x, y, z, rfl⟩ := okWide_slice hu hv
      obtain ⟨ι', H', av, a, b, c, d⟩ := one _ rfl rfl
      exact ⟨ι', H', av, a, b, c, by unfold TyArg; rw [hu]; exact d⟩
    · rename_i fs hu
      unfold Value.okWide at hv
      rw [hu] at hv
      obtain ⟨cs, rfl, _⟩ := hv
      obtain ⟨ι', H', av, a, b, c, d⟩ := agg _ rfl
      exact ⟨ι', H', av, a, b, c, by unfold TyArg; rw [hu]; exact d⟩
    · rename_i n e hu
      unfold Value.okWide at hv
      rw [hu] at hv
      obtain ⟨cs, rfl, _⟩ := hv
      obtain ⟨ι', H', av, a, b, c, d⟩ := agg _ rfl
      exact ⟨ι', H', av, a, b, c, by unfold TyArg; rw [hu]; exact d⟩
    · cases ht'

theorem read_args {f b : Nat} : ∀ {ts : List TypeId} {vs : List Value} {ds : List (DataW Hd)} {ps : List MemPlace}, DataW.TrodAll enc P w 0 (fun _ => true) held ts vs ds ps → ts.all (rty P f) = true →
    (∀ (j : Nat) t v, ts[j]? = some t → vs[j]? = some v → Value.okWide P w .any b t v) → ∀ {ι : Inj} {H : AHeap}, Ro G ι H w →
      ∃ ι' H' avs, Ext ι H ι' H' ∧ Ro G ι' H' w ∧ LVR ι' avs vs ∧ All2 (fun t av => TyArg P H' f t av) ts avs
  | [], [], [], _, _, _, _, ι, H, hr => ⟨ι, H, [], Ext.refl _ _, hr, .nil, .nil⟩
  | t :: ts, v :: vs, d :: ds, _, h, ht, hv, ι, H, hr => by
    obtain ⟨p, q, h1, h2, _⟩ := h
    simp only [List.all_cons, Bool.and_eq_true] at ht
    obtain ⟨ι₁, H₁, av, e1, r1, l1, t1⟩ := read_arg h1 ht.1 (hv 0 t v rfl rfl) hr
    obtain ⟨ι₂, H₂, avs, e2, r2, l2, t2⟩ := read_args h2 ht.2 (fun j t v a b => hv (j + 1) t v (by simpa using a) (by simpa using b)) r1
    exact ⟨ι₂, H₂, av :: avs, e1.trans e2, r2, .cons (l1.mono e2.le) l2, .cons (t1.mono e2.sub) t2⟩
  | [], _ :: _, _, _, h, _, _, _, _, _ => h.elim
  | [], [], _ :: _, _, h, _, _, _, _, _ => h.elim
  | _ :: _, [], _, _, h, _, _, _, _, _ => h.elim
  | _ :: _, _ :: _, [], _, h, _, _, _, _, _ => h.elim
end

theorem ro1 {w : World} (h : G1.S w) : Ro G1 ι1 H1 w := ⟨rel1 h, rfl⟩

/-- What is not to be written lies as it lay. -/
theorem Post.isBelow {G : Glob} {ι ι' : Inj} {H H' : AHeap} {w w' : World} (h : Post G ι H w ι' H' w') (hl : H.lo = H.next) : Below w.heap.size w w' :=
  ⟨h.os, h.tape, h.out, h.size, fun b hb => h.frame b hb fun i e o hi ho _ => by have := AHeap.get_lt ho; omega⟩

section
variable {H : Type} {enc : TypeId × Value → H} {P : Program}
theorem post_of_below {f : Func} {s : ChangeSpec} {apart fresh handsOn again : Bool} {W W' : World} {args : Array Value} {v : Value} {ds gs : List (DataW H)} {before pa pv : List MemPlace}
    (hW : DataW.Whole enc P f.params.toList s.vars apart W args.toList ds gs before)
    (hres : ∀ (b : Nat) (sp : Nat → Bool) (hd : Bool), DataW.TrodAll enc P W' b sp hd f.resultTypes.toList (v.resultList f.resultTypes.size) (s.fn H (ds ++ gs)).results [])
    (hargs : ∀ sp : Nat → Bool, (∀ p ∈ before, sp p.block = true) → DataW.TrodAll enc P W' 0 sp true f.params.toList args.toList (s.fn H (ds ++ gs)).args pa)
    (hvars : ∀ sp : Nat → Bool, (∀ p ∈ before, sp p.block = true) → DataW.TrodVars enc P W' sp s.vars (s.fn H (ds ++ gs)).vars pv)
    (hps : before = pa ++ pv) (hb : Below W.heap.size W W')
    (hok : ∀ (j : Nat) (t : TypeId) (r : Value), f.resultTypes[j]? = some t → (v.resultList f.resultTypes.size)[j]? = some r → Value.okWide P W' .any 0 t r) :
    s.post enc P f apart fresh handsOn again W args v W' := by
  have hlt : ∀ p ∈ before, p.block < W.heap.size := fun p hp => hW.lt p hp
  have hold : ∀ p ∈ before, (fun b => decide (b < W.heap.size)) p.block = true := fun p hp => by simpa using hlt p hp
  refine ⟨ds, gs, before, [], pa, pv, hW, hres _ _ _, hargs _ hold, hvars _ hold, World.keptBut_mono (fun p hp => ⟨hp, ?_⟩) (hb.frame (· ∈ before)), fun _ => ?_⟩
  · rw [hps, List.mem_append] at hp
    exact Or.inr hp
  · obtain ⟨_, _, _, _, _, hz, hn⟩ := hW
    refine ⟨hok, _, _, ([] ++ pa) ++ pv, ⟨[] ++ pa, pv, trodAll_append (hargs _ (fun _ _ => rfl)) (hres _ _ _), hvars _ (fun _ _ => rfl), rfl, ?_, ?_⟩, ?_⟩
    · intro b off hp
      have hin : MemPlace.cell b off ∈ before := by rw [hps]; simpa using hp
      rw [hb.frozen (hlt _ hin)]
      exact hz b off hin
    · intro ha
      have := hn ha
      rw [hps] at this
      simpa using this
    · intro p hp _
      rw [hps]
      simpa using hp
end

section
variable {Hd : Type} {enc : TypeId × Value → Hd} {P : Program}

theorem args_stay (hl : laidOutB P = true) {W W' : World} (hb : Below W.heap.size W W') (sp : Nat → Bool) : ∀ {ts : List TypeId} {vs : List Value} {ds : List (DataW Hd)} {ps : List MemPlace},
    DataW.TrodAll enc P W 0 (fun _ => true) true ts vs ds ps → (ts.all fun t => P.readableRec t && decide (t < P.types.size)) = true → (∀ p ∈ ps, p.block < W.heap.size) → (∀ p ∈ ps, sp p.block = true) →
      DataW.TrodAll enc P W' 0 sp true ts vs ds ps
  | [], [], [], _, h, _, _, _ => h
  | t :: ts, v :: vs, d :: ds, _, h, ht, hlt, hs => by
    obtain ⟨p, q, h1, h2, rfl⟩ := h
    simp only [List.all_cons, Bool.and_eq_true, decide_eq_true_eq] at ht
    exact ⟨p, q, WideElems.Trod_stays hl ht.1.1 ht.1.2 h1 (fun x hx => hb.same (hlt x (List.mem_append_left _ hx))) (fun x hx => hs x (List.mem_append_left _ hx)),
      args_stay hl hb sp h2 ht.2 (fun x hx => hlt x (List.mem_append_right _ hx)) (fun x hx => hs x (List.mem_append_right _ hx)), rfl⟩
  | [], _ :: _, _, _, h, _, _, _ => h.elim
  | [], [], _ :: _, _, h, _, _, _ => h.elim
  | _ :: _, [], _, _, h, _, _, _ => h.elim
  | _ :: _, _ :: _, [], _, h, _, _, _ => h.elim

/-- A LAW: what its abstract function comes to at each read argument is what its call comes to; the heap may be told anew. -/
theorem law_calls_at {T : AProg} (hT : ∀ k, CallS P G1 (evFn T k)) (hl : laidOutB P = true) {f : FuncId} {fn : Func} {s : ChangeSpec} {tb : TypeId} {apart fresh handsOn again : Bool}
    (hts : (fn.params.toList.all fun t => P.readableRec t && decide (t < P.types.size)) = true) (hrty : fn.params.toList.all (rty P 9) = true)
    (hres : fn.resultTypes = #[tb]) (hb : P.underlying tb = some .bool) (hvars : s.vars = [])
    (hsp : ∀ ds : List (DataW Hd), ds.length = fn.params.toList.length → (s.fn Hd ds).results = [.lit (.bool true)] ∧ (s.fn Hd ds).args = ds ∧ (s.fn Hd ds).vars = [])
    (hlaw : ∀ ι H avs (W : World) vs, Ext ι1 H1 ι H → Ro G1 ι H W → LVR ι avs vs → All2 (fun t av => TyArg P H 9 t av) fn.params.toList avs →
      ∃ ι' H' avs', Ro G1 ι' H' W ∧ LVR ι' avs' vs ∧ ∃ k H'', evFn T k f avs' H' = some (.bool true, H''))
    {W : World} {base : Nat} {args : Array Value} {ds gs : List (DataW Hd)} {before : List MemPlace}
    (hval : ∀ (j : Nat) t v, fn.params[j]? = some t → args[j]? = some v → Value.okWide P W .any base t v)
    (hW : DataW.Whole enc P fn.params.toList s.vars apart W args.toList ds gs before) (hS : G1.S W) :
    Calls P f args W fun e W' => ∃ v, e = .returned v ∧ s.post enc P fn apart fresh handsOn again W args v W' := by
  have hW' := hW
  obtain ⟨p, q, hA, hV, hpq, _, _⟩ := hW
  rw [hvars] at hV
  have hgs : gs = [] ∧ q = [] := by
    cases gs with
    | nil => exact ⟨rfl, hV⟩
    | cons _ _ => exact hV.elim
  obtain ⟨rfl, rfl⟩ := hgs
  rw [List.append_nil] at hpq
  subst hpq
  have hlt : ∀ x ∈ before, x.block < W.heap.size := fun x hx => by simpa using hW'.lt x hx
  obtain ⟨ι', H', avs, e1, r1, l1, t1⟩ := read_args (f := 9) (b := base) hA hrty (fun j t v a b => hval j t v (by simpa using a) (by simpa using b)) (ro1 hS)
  obtain ⟨ι', H', avs, r1, l1, k, H'', hk⟩ := hlaw ι' H' avs W args.toList e1 r1 l1 t1
  obtain ⟨_, hc⟩ := hT k f avs H' _ _ hk
  have hc := hc ι' W args.toList r1.rel l1
  rw [Array.toArray_toList] at hc
  refine hc.mono ?_
  rintro e w' ⟨v', ι'', rfl, hp, hv⟩
  cases hv
  have hbw := hp.isBelow r1.all
  have hdl : ds.length = fn.params.toList.length := by
    have key : ∀ {ts : List TypeId} {vs : List Value} {ds : List (DataW Hd)} {ps : List MemPlace}, DataW.TrodAll enc P W 0 (fun _ => true) true ts vs ds ps → ds.length = ts.length := by
      intro ts
      induction ts with
      | nil =>
        intro vs ds ps h
        cases vs <;> cases ds <;> first | rfl | exact h.elim
      | cons t ts ih =>
        intro vs ds ps h
        cases vs <;> cases ds <;> first | exact h.elim | (obtain ⟨_, _, _, h2, _⟩ := h; simp [ih h2])
    exact key hA
  obtain ⟨s1, s2, s3⟩ := hsp ds hdl
  refine ⟨_, rfl, post_of_below (pa := before) (pv := []) hW' ?_ ?_ ?_ (by simp) hbw ?_⟩
  · intro b sp hd
    rw [hres, List.append_nil, s1]
    exact trodAll_mk1 (shut_bool hb true)
  · intro sp hsp'
    rw [List.append_nil, s2]
    exact args_stay hl hbw sp hA hts hlt hsp'
  · intro sp hsp'
    rw [hvars, List.append_nil, s3]
    exact rfl
  · exact ok_one hres rfl (okWide_bool_mk hb true)
end

def ιs (ι : Inj) (es : List Nat) : Inj := fun j => match j with
  | 0 => ι1 0
  | j + 1 => (es[j]?).bind ι

/-- What the arguments' slices hold is forgotten: only where they lie is told. -/
theorem Ro.forget {ι : Inj} {H : AHeap} {w : World} (h : Ro G1 ι H w) (es : List Nat) : Ro G1 (ιs ι es) ⟨H1.tr, 1 + es.length, 1 + es.length⟩ w := by
  have r1 := rel1 h.rel.env
  have hg : ∀ i o, AHeap.get ⟨H1.tr, 1 + es.length, 1 + es.length⟩ i = some o → i = 0 ∧ H1.get 0 = some o := by
    intro i o ho
    unfold AHeap.get at ho
    split at ho
    · have : i = 0 := by
        rcases Nat.eq_zero_or_pos i with e | e
        · exact e
        · have hk : key 0 ≠ key i := fun x => by have := key_inj x; omega
          simp only [H1] at ho
          rw [Tr.find_put_ne _ _ _ _ hk, Tr.find_nil] at ho
          cases ho
      subst this
      refine ⟨rfl, ?_⟩
      unfold AHeap.get
      rw [if_pos (by decide)]
      exact ho
    · cases ho
  refine ⟨⟨?_, ?_, ?_, Nat.le_refl _, ?_, ?_, h.rel.env⟩, rfl⟩
  · intro i o ho
    obtain ⟨rfl, hz⟩ := hg i o ho
    obtain ⟨e, c, t, fz, a1, a2, a3, a4, a5, a6, a7⟩ := r1.obj 0 o hz
    refine ⟨e, c, t, fz, a1, a2, a3, a4, a5, ?_, fun x => absurd x (by simp)⟩
    intro k v hk
    obtain ⟨v', b1, b2⟩ := a6 k v hk
    refine ⟨v', b1, ?_⟩
    obtain ⟨_, rfl⟩ := H1_get 0 o hz
    have := closedIn_eq 0 v v' (tab_closed v (List.mem_of_getElem? hk)) b2
    subst this
    exact closedIn_vr _ 0 _ (tab_closed _ (List.mem_of_getElem? hk))
  · intro i e he
    cases i with
    | zero => have := r1.ent 0 e he; exact ⟨by simp; omega, this.2⟩
    | succ j =>
      unfold ιs at he
      cases hj : es[j]? with
      | none => simp [hj] at he
      | some x =>
        have := (List.getElem?_eq_some_iff.1 hj).1
        simp [hj] at he
        exact ⟨by simp; omega, (h.rel.ent x e he).2⟩
  · intro i j e f o p ho hp _ _ _ hij
    exact absurd ((hg i o ho).1.trans (hg j p hp).1.symm) hij
  · intro g hgn
    have : g = 0 := by simp [G1] at hgn; omega
    subst this
    exact ⟨⟨0, 0, 64, 1⟩, rfl, rfl, rfl⟩
  · intro i e o hlo ho _
    have := AHeap.get_lt ho
    simp at hlo this
    omega

def isTrue : Option (Value × AHeap) → Bool
  | some (.bool b, _) => b
  | _ => false
theorem isTrue_some {x : Option (Value × AHeap)} (h : isTrue x = true) : ∃ H', x = some (.bool true, H') := by
  unfold isTrue at h
  split at h
  · rename_i b H'; subst h; exact ⟨H', rfl⟩
  · cases h

section
variable {P : Program} {H : AHeap} {f : Nat} {t : TypeId} {l : List Value}
theorem Ty.int {k : IntKind} (hu : P.underlying t = some (.int k)) (h : Ty P H (f + 1) t l) : ∃ n, l = [.int k n] ∧ (Lit.int k n).wf = true := by
  unfold Ty at h; rw [hu] at h; exact h
theorem Ty.bool (hu : P.underlying t = some .bool) (h : Ty P H (f + 1) t l) : ∃ b, l = [.bool b] := by
  unfold Ty at h; rw [hu] at h; exact h
theorem Ty.slice {e : TypeId} (hu : P.underlying t = some (.slice e)) (h : Ty P H (f + 1) t l) : l = [.slice none 0 0] ∨ ∃ (i : Nat) (parts : List (List Value)), l = [.slice (some ⟨i, 0, none⟩) parts.length parts.length] ∧
    (parts = [] ∨ H.get i = some ⟨parts.flatten, P.cellsOf e⟩) ∧ ∀ p ∈ parts, p.length = P.cellsOf e ∧ Ty P H f e p := by
  unfold Ty at h; rw [hu] at h; exact h
theorem Ty.struct {fs : Array Field} (hu : P.underlying t = some (.struct fs)) (h : Ty P H (f + 1) t l) :
    ∃ parts : List (List Value), l = parts.flatten ∧ All2 (fun (x : Field) p => p.length = P.cellsOf x.type ∧ Ty P H f x.type p) fs.toList parts := by
  unfold Ty at h; rw [hu] at h; exact h
theorem Ty.array {n : Nat} {e : TypeId} (hu : P.underlying t = some (.array n e)) (h : Ty P H (f + 1) t l) :
    ∃ parts : List (List Value), l = parts.flatten ∧ parts.length = n ∧ ∀ p ∈ parts, p.length = P.cellsOf e ∧ Ty P H f e p := by
  unfold Ty at h; rw [hu] at h; exact h
theorem TyArg.int {k : IntKind} {v : Value} (hu : P.underlying t = some (.int k)) (h : TyArg P H (f + 1) t v) : ∃ n, v = .int k n ∧ (Lit.int k n).wf = true := by
  unfold TyArg at h; rw [hu] at h
  obtain ⟨n, h1, h2⟩ := Ty.int hu h
  exact ⟨n, by simpa using h1, h2⟩
theorem TyArg.bool {v : Value} (hu : P.underlying t = some .bool) (h : TyArg P H (f + 1) t v) : ∃ b, v = .bool b := by
  unfold TyArg at h; rw [hu] at h
  obtain ⟨n, h1⟩ := Ty.bool hu h
  exact ⟨n, by simpa using h1⟩
theorem TyArg.slice {e : TypeId} {v : Value} (hu : P.underlying t = some (.slice e)) (h : TyArg P H (f + 1) t v) : v = .slice none 0 0 ∨ ∃ (i : Nat) (parts : List (List Value)), v = .slice (some ⟨i, 0, none⟩) parts.length parts.length ∧
    (parts = [] ∨ H.get i = some ⟨parts.flatten, P.cellsOf e⟩) ∧ ∀ p ∈ parts, p.length = P.cellsOf e ∧ Ty P H f e p := by
  unfold TyArg at h; rw [hu] at h
  rcases Ty.slice hu h with h | ⟨i, parts, h1, h2⟩
  · exact .inl (by simpa using h)
  · exact .inr ⟨i, parts, by simpa using h1, h2⟩
theorem TyArg.struct {fs : Array Field} {v : Value} (hu : P.underlying t = some (.struct fs)) (h : TyArg P H (f + 1) t v) :
    ∃ parts : List (List Value), v = .agg parts.flatten.toArray ∧ All2 (fun (x : Field) p => p.length = P.cellsOf x.type ∧ Ty P H f x.type p) fs.toList parts := by
  unfold TyArg at h; rw [hu] at h
  obtain ⟨l, rfl, h2⟩ := h
  obtain ⟨parts, rfl, h3⟩ := Ty.struct hu h2
  exact ⟨parts, rfl, h3⟩
theorem TyArg.array {n : Nat} {e : TypeId} {v : Value} (hu : P.underlying t = some (.array n e)) (h : TyArg P H (f + 1) t v) :
    ∃ parts : List (List Value), v = .agg parts.flatten.toArray ∧ parts.length = n ∧ ∀ p ∈ parts, p.length = P.cellsOf e ∧ Ty P H f e p := by
  unfold TyArg at h; rw [hu] at h
  obtain ⟨l, rfl, h2⟩ := h
  obtain ⟨parts, rfl, h3⟩ := Ty.array hu h2
  exact ⟨parts, rfl, h3⟩
end

theorem LVR.cons_inv {ι : Inj} {v : Value} {l vs : List Value} (h : LVR ι (v :: l) vs) : ∃ v' l', vs = v' :: l' ∧ VR ι v v' ∧ LVR ι l l' := by
  cases h with
  | cons h1 h2 => exact ⟨_, _, rfl, h1, h2⟩
theorem LVR.nil_inv {ι : Inj} {vs : List Value} (h : LVR ι [] vs) : vs = [] := by cases h; rfl
theorem VR.agg_list {ι : Inj} {l : List Value} {v : Value} (h : VR ι (.agg l.toArray) v) : ∃ l', v = .agg l'.toArray ∧ LVR ι l l' := by
  cases h with
  | agg c c' h1 h2 => exact ⟨c'.toList, by simp, by have := AVR.lvr (a := l.toArray) (b := c') ⟨h1, h2⟩; simpa using this⟩
theorem VR.of_list {ι : Inj} {l l' : List Value} (h : LVR ι l l') : VR ι (.agg l.toArray) (.agg l'.toArray) := .agg _ _ h.avr.1 h.avr.2
theorem VR.int_any {ι ι' : Inj} {k : IntKind} {n : Int} {v : Value} (h : VR ι (.int k n) v) : VR ι' (.int k n) v := by cases h; exact .int k n
theorem VR.bool_any {ι ι' : Inj} {b : Bool} {v : Value} (h : VR ι (.bool b) v) : VR ι' (.bool b) v := by cases h; exact .bool b
theorem VR.slNil_any {ι ι' : Inj} {v : Value} (h : VR ι (.slice none 0 0) v) : VR ι' (.slice none 0 0) v := by cases h; exact .slNil
theorem VR.slice_to {ι ι' : Inj} {i j off len c : Nat} {v : Value} (h : VR ι (.slice (some ⟨i, off, none⟩) len c) v) (hj : ∀ e, ι i = some e → ι' j = some e) : VR ι' (.slice (some ⟨j, off, none⟩) len c) v := by
  cases h with
  | sl he h1 h2 => exact .sl (hj _ he) h1 h2
  | slE => exact .slE
end Go.Ab

/- What the premise of a listed table gives: the heap begins with it. -/
namespace Go.Ab
open Go Go.RowKit Go.WideShapes Go.ChangeShapes

section
variable {Hd : Type} {enc : TypeId × Value → Hd} {P : Program} {w : World} {base : Nat} {spare : Nat → Bool} {held : Bool}

theorem arr_lits {t e : TypeId} {n fuel : Nat} {k : IntKind} {cs : List Value} {l : List Int} {p : List MemPlace} (hu : P.underlying t = some (.array n e)) (he : P.underlying e = some (.int k))
    (h1 : P.cellsOf e = 1) (ht : P.cellsOf t = n) (hl : l.length = n) (h : DataW.trod enc P w base spare held fuel t cs = some (.agg (l.map fun x => .lit (.int k x)), p)) : cs = l.map (Value.int k) := by
  obtain ⟨xs, m, rfl, hx, hcl, hxl, hf⟩ := DataW.trod_array hu h
  simp only [Prod.mk.injEq, DataW.agg.injEq] at hx
  apply List.ext_getElem?
  intro i
  rcases Nat.lt_or_ge i n with hi | hi
  · have hf := hf i hi
    rw [List.getElem?_eq_getElem (by omega)] at hf
    obtain ⟨q, e1, e2, _⟩ := DataW.trod_int he hf
    rw [h1, Nat.mul_one] at e1
    have e3 : cs[i]? = some (.int k q) := by
      have := congrArg (fun z => z[0]?) e1
      simpa using this
    have e4 : (xs.map (·.1))[i]? = some (.lit (.int k q)) := by
      rw [List.getElem?_map, List.getElem?_eq_getElem (by omega)]
      simp [e2]
    rw [← hx.1, List.getElem?_map] at e4
    rw [e3, List.getElem?_map]
    cases hq : l[i]? with
    | none => rw [hq] at e4; cases e4
    | some y => rw [hq] at e4; simp at e4; subst e4; rfl
  · rw [List.getElem?_eq_none (by omega), List.getElem?_eq_none (by simp; omega)]
end

def tabInts : List Int := [0, 1, 56, 2, 57, 49, 28, 3, 61, 58, 42, 50, 38, 29, 17, 4, 62, 47, 59, 36, 45, 43, 51, 22, 53, 39, 33, 30, 24, 18, 12, 5, 63, 55, 48, 27, 60, 41, 37, 16, 46, 35, 44, 21, 52, 32, 23, 11, 54, 26, 40, 15, 34, 20, 31, 10, 25, 14, 19, 9, 13, 8, 7, 6]

theorem tabCells_eq : tabCells = tabInts.map (Value.int .u8) := rfl

theorem laid_S {P : Program} {w : World} {nm : String} {d : DataW Unit} {t e : TypeId} (h : laidMetH P [(nm, d)] w) (hpl : d.handleName?.isSome = false) (hd : d = .agg (tabInts.map fun x => .lit (.int .u8 x)))
    (hg : P.globalNamed nm = some 0) (ht : (P.globals[0]?).map (·.type) = some t) (hu : P.underlying t = some (.array 64 e)) (he : P.underlying e = some (.int .u8)) (h1 : P.cellsOf e = 1) (h64 : P.cellsOf t = 64) : G1.S w := by
  unfold laidMetH at h
  have hfl : ([(nm, d)].filter fun x => x.2.handleName?.isSome) = [] := by simp [hpl]
  rw [hfl] at h
  obtain ⟨ps, hv, _, _⟩ := h
  obtain ⟨g0, t0, cs0, f0, p0, q0, hg0, ht0, hv0, hd0, _⟩ := hv
  obtain rfl := Option.some.inj (hg.symm.trans hg0)
  obtain rfl := Option.some.inj (ht.symm.trans ht0)
  rw [hd] at hd0
  have hcs := arr_lits hu he h1 h64 rfl hd0
  unfold World.var? at hv0
  rw [hg] at hv0
  simp only [Option.bind_some] at hv0
  split at hv0
  · rename_i c t' fz hh
    cases hv0
    refine ⟨t', fz, ?_⟩
    rw [hh, tabCells_eq, ← hcs]
  · cases hv0
end Go.Ab

/- Steps over a heap that is known by what it holds. -/
namespace Go.Ab
open Go

section
variable {T : AProg} {its : List AItem} {σ : Env} {H : AHeap} {Q : Env → AHeap → Prop}

theorem wi_load1 {d : Option Nat} {x : AOpd} {i off : Nat} {o : AObj} {v : Value} (hx : σ.rd x = some (.pointer (some ⟨i, off, none⟩))) (hg : H.get i = some o) (hv : o.cells[off]? = some v)
    (h : WI T its (σ.putO d v) H Q) : WI T (⟨d, none, .load none x⟩ :: its) σ H Q :=
  wi_plain (v := v) (H' := H) (by simp only [evItem, evOp, hx, aLoad, hg, hv]) h

theorem wi_loadN {d : Option Nat} {x : AOpd} {i off n : Nat} {o : AObj} {cs : List Value} (hx : σ.rd x = some (.pointer (some ⟨i, off, none⟩))) (hg : H.get i = some o) (hv : readN o.cells off n = some cs)
    (h : WI T its (σ.putO d (.agg cs.toArray)) H Q) : WI T (⟨d, none, .load (some n) x⟩ :: its) σ H Q :=
  wi_plain (v := .agg cs.toArray) (H' := H) (by simp only [evItem, evOp, hx, aLoad, AHeap.read, hg, hv]) h

theorem wi_store {d : Option Nat} {x a : AOpd} {i off n : Nat} {o : AObj} {v : Value} (ha : σ.rd a = some (.pointer (some ⟨i, off, none⟩))) (hx : σ.rd x = some v) (hg : H.get i = some o)
    (hc : H.lo ≤ i ∧ v.cells.size = n ∧ off + n ≤ o.cells.length ∧ v.cells.toList.all one = true)
    (h : WI T its (σ.putO d undef) (H.set i { o with cells := writeN o.cells off v.cells.toList }) Q) : WI T (⟨d, none, .store n a x⟩ :: its) σ H Q :=
  wi_plain (v := undef) (H' := H.set i { o with cells := writeN o.cells off v.cells.toList }) (by simp only [evItem, evOp, ha, hx, hg, if_pos hc]) h

theorem wi_indexS {d : Option Nat} {x y : AOpd} {b off size len c : Nat} {k : IntKind} {i : Int} (hx : σ.rd x = some (.slice (some ⟨b, off, none⟩) len c)) (hy : σ.rd y = some (.int k i)) (hi : 0 ≤ i ∧ i < len)
    (h : WI T its (σ.putO d (.pointer (some ⟨b, off + i.toNat * size, none⟩))) H Q) : WI T (⟨d, none, .indexAddr none size x y⟩ :: its) σ H Q :=
  wi_plain (v := .pointer (some ⟨b, off + i.toNat * size, none⟩)) (H' := H) (by simp only [evItem, evOp, hx, hy, if_pos hi]) h

theorem wi_indexA {d : Option Nat} {x y : AOpd} {b off size len : Nat} {k : IntKind} {i : Int} (hx : σ.rd x = some (.pointer (some ⟨b, off, none⟩))) (hy : σ.rd y = some (.int k i)) (hi : 0 ≤ i ∧ i < len)
    (h : WI T its (σ.putO d (.pointer (some ⟨b, off + i.toNat * size, none⟩))) H Q) : WI T (⟨d, none, .indexAddr (some len) size x y⟩ :: its) σ H Q :=
  wi_plain (v := .pointer (some ⟨b, off + i.toNat * size, none⟩)) (H' := H) (by simp only [evItem, evOp, hx, hy, if_pos hi]) h

theorem wi_append0 {d : Option Nat} {x y : AOpd} {size bytes c0 j joff m c : Nat} {o : AObj} {news : List Value} (hx : σ.rd x = some (.slice none 0 c0)) (hy : σ.rd y = some (.slice (some ⟨j, joff, none⟩) m c)) (hm : m ≠ 0)
    (hg : H.get j = some o) (hr : readN o.cells joff (m * size) = some news)
    (hc : (decide ((0 + m) * bytes ≤ 2 ^ 46) && decide (0 < bytes) && decide (0 < size) && (o.esz == size) && news.all one) = true)
    (h : WI T its (σ.putO d (.slice (some ⟨H.next, 0, none⟩) m m)) (H.new ⟨news, size⟩) Q) : WI T (⟨d, none, .append size bytes x y⟩ :: its) σ H Q :=
  wi_plain (v := .slice (some ⟨H.next, 0, none⟩) m m) (H' := H.new ⟨news, size⟩) (by
    simp only [evItem, evOp, hx, hy, aAppend, if_neg hm, AHeap.read, hg, hr, Option.any_some, hc, Bool.not_true, if_true]
    rfl) h

theorem wi_append1 {d : Option Nat} {x y : AOpd} {size bytes i off n c0 j joff m c : Nat} {o p : AObj} {news : List Value} (hx : σ.rd x = some (.slice (some ⟨i, off, none⟩) n c0)) (hy : σ.rd y = some (.slice (some ⟨j, joff, none⟩) m c)) (hm : m ≠ 0)
    (hg : H.get j = some o) (hr : readN o.cells joff (m * size) = some news) (hp : H.get i = some p)
    (hc : (decide ((n + m) * bytes ≤ 2 ^ 46) && decide (0 < bytes) && decide (0 < size) && (o.esz == size) && news.all one) = true)
    (ho : H.lo ≤ i ∧ off + n * size = p.cells.length ∧ p.esz = size ∧ i ≠ j)
    (h : WI T its (σ.putO d (.slice (some ⟨H.next, 0, none⟩) (n + m) (n + m))) ((H.del i).new ⟨p.cells.drop off ++ news, size⟩) Q) : WI T (⟨d, none, .append size bytes x y⟩ :: its) σ H Q :=
  wi_plain (v := .slice (some ⟨H.next, 0, none⟩) (n + m) (n + m)) (H' := (H.del i).new ⟨p.cells.drop off ++ news, size⟩) (by
    simp only [evItem, evOp, hx, hy, aAppend, if_neg hm, AHeap.read, hg, hr, Option.any_some, hc, Bool.not_true, hp, if_pos ho]
    rfl) h

theorem wi_buildSlice {d : Option Nat} {size len : Nat} {zero : Array Value} {ps : List (Nat × AOpd)} {vs : List Value} {cs : Array Value} (hx : σ.rds (ps.map (·.2)) = some vs)
    (hf : fillIn (repeatCells zero (len * size)) (zipParts (ps.map fun p => ((p.1 * size, size), p.2)) vs) = some cs) (hs : size ≠ 0)
    (h : WI T its (σ.putO d (.slice (some ⟨H.next, 0, none⟩) len len)) (H.new ⟨cs.toList, size⟩) Q) : WI T (⟨d, none, .buildSlice size zero len ps⟩ :: its) σ H Q :=
  wi_plain (v := .slice (some ⟨H.next, 0, none⟩) len len) (H' := H.new ⟨cs.toList, size⟩) (by simp only [evItem, evOp, hx, hf, if_neg hs]) h
end

theorem aLoad_row {H : AHeap} {i off n : Nat} {o : AObj} {cs : List Value} (hg : H.get i = some o) (hr : readN o.cells off n = some cs) : aLoad H (some n) (.pointer (some ⟨i, off, none⟩)) = some (.agg cs.toArray) := by
  simp only [aLoad, AHeap.read, hg, hr]
theorem aLoad_one {H : AHeap} {i off : Nat} {o : AObj} {v : Value} (hg : H.get i = some o) (hr : o.cells[off]? = some v) : aLoad H none (.pointer (some ⟨i, off, none⟩)) = some v := by
  simp only [aLoad, hg, hr]
theorem evRes_tmp {σ : Env} {H : AHeap} {t : Nat} {r : List ARv} {v : Value} {us : List Value} (ht : σ.find t = some v) (hr : evRes σ H r = some us) : evRes σ H (.tmp t :: r) = some (v :: us) := by
  simp only [evRes, ht, hr]
theorem evRes_cell {σ : Env} {H : AHeap} {t : Nat} {n : Option Nat} {r : List ARv} {a v : Value} {us : List Value} (ht : σ.find t = some a) (hl : aLoad H n a = some v) (hr : evRes σ H r = some us) : evRes σ H (.cell t n :: r) = some (v :: us) := by
  simp only [evRes, ht, hl, hr]
end Go.Ab
