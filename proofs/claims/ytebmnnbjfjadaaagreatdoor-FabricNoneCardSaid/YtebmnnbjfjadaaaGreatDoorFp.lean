/- More rounds give the same answer; what code comes to, said without rounds. -/
import Derived.Test.YtebmnnbjfjadaaaGreatDoorFo
namespace Go.Ab
open Go

def ACall.le (c d : ACall) : Prop := ∀ f vs H r, c f vs H = some r → d f vs H = some r

section
variable {c d : ACall} {meth : TypeId → String → Option FuncId}

theorem evOp_mono (h : c.le d) {σ : Env} {H : AHeap} : ∀ {op : AOp} {r : Value × AHeap}, evOp c meth σ H op = some r → evOp d meth σ H op = some r := by
  intro op
  induction op with
  | call f xs =>
    intro r hr
    simp only [evOp] at hr ⊢
    split at hr
    · exact h _ _ _ _ hr
    · cases hr
  | callQ f xs =>
    intro r hr
    simp only [evOp] at hr ⊢
    split at hr
    · split at hr
      · rename_i hc; rw [h _ _ _ _ hc]; exact hr
      · cases hr
    · cases hr
  | callE g f xs =>
    intro r hr
    simp only [evOp] at hr ⊢
    split at hr
    · split at hr
      · rename_i hc; rw [h _ _ _ _ hc]; exact hr
      · cases hr
    · cases hr
  | invoke m x xs =>
    intro r hr
    simp only [evOp] at hr ⊢
    split at hr
    · split at hr
      · exact h _ _ _ _ hr
      · cases hr
    · cases hr
  | callV x xs =>
    intro r hr
    simp only [evOp] at hr ⊢
    split at hr
    · exact h _ _ _ _ hr
    · cases hr
  | hold ds op ih =>
    intro r hr
    simp only [evOp] at hr ⊢
    split at hr
    · rename_i v H' hv
      rw [ih hv]
      exact hr
    · cases hr
  | _ => intro r hr; exact hr

theorem evItem_mono (h : c.le d) {σ : Env} {H : AHeap} {it : AItem} {r : Value × AHeap} (hr : evItem c meth σ H it = some r) : evItem d meth σ H it = some r := by
  unfold evItem at hr ⊢
  split at hr
  · exact evOp_mono h hr
  · split at hr
    · split at hr
      · rename_i hb; rw [if_pos hb]; exact evOp_mono h hr
      · rename_i hb; rw [if_neg hb]; exact hr
    · cases hr

theorem evItems_mono (h : c.le d) : ∀ {its : List AItem} {σ : Env} {H : AHeap} {r : Env × AHeap}, evItems c meth its σ H = some r → evItems d meth its σ H = some r
  | [], _, _, _, hr => hr
  | it :: its, σ, H, r, hr => by
    rw [evItems_cons] at hr ⊢
    split at hr
    · rename_i v H1 hv
      rw [evItem_mono h hv]
      exact evItems_mono h hr
    · cases hr

theorem loopN_mono {b b' : Env → AHeap → ARes} (hb : ∀ σ H r, b σ H = some r → b' σ H = some r) : ∀ (k k' : Nat), k ≤ k' → ∀ {σ : Env} {H : AHeap} {r}, loopN b k σ H = some r → loopN b' k' σ H = some r
  | 0, _, _, _, _, _, h => by simp [loopN] at h
  | k + 1, k', hk, σ, H, r, h => by
    obtain ⟨k', rfl⟩ : ∃ m, k' = m + 1 := ⟨k' - 1, by omega⟩
    simp only [loopN] at h ⊢
    split at h
    · rename_i σ' H' hev
      rw [hb _ _ _ hev]
      exact loopN_mono hb k k' (by omega) h
    · rename_i hne
      rw [hb _ _ _ h]
      split
      · rename_i σ' H' e; cases e; exact absurd h (hne σ' H')
      · rfl

theorem jumpN_mono {b b' : Option Nat → Env → AHeap → ARes} {has : Nat → Bool} (hb : ∀ l σ H r, b l σ H = some r → b' l σ H = some r) : ∀ (k k' : Nat), k ≤ k' → ∀ {l : Option Nat} {σ : Env} {H : AHeap} {r}, jumpN b has k l σ H = some r → jumpN b' has k' l σ H = some r
  | 0, _, _, _, _, _, _, h => by simp [jumpN] at h
  | k + 1, k', hk, l, σ, H, r, h => by
    obtain ⟨k', rfl⟩ : ∃ m, k' = m + 1 := ⟨k' - 1, by omega⟩
    simp only [jumpN] at h ⊢
    split at h
    · rename_i l' σ' H' hev
      rw [hb _ _ _ _ hev]
      simp only []
      split at h
      · rename_i hl; rw [if_pos hl]; exact jumpN_mono hb k k' (by omega) h
      · rename_i hl; rw [if_neg hl]; exact h
    · rename_i hne
      rw [hb _ _ _ _ h]
      split
      · rename_i l' σ' H' e; cases e; exact absurd h (hne l' σ' H')
      · rfl

theorem evC_mono (h : c.le d) (k k' : Nat) (hk : k ≤ k') : ∀ (ac : ACode) (l : Option Nat) {σ : Env} {H : AHeap} {r}, evC c meth k ac l σ H = some r → evC d meth k' ac l σ H = some r := by
  intro ac
  induction ac with
  | skip => intro l σ H r hr; cases l <;> simp only [evC] at hr ⊢ <;> exact hr
  | reg its live =>
    intro l σ H r hr
    cases l with
    | some l => simp [evC] at hr
    | none =>
      simp only [evC] at hr ⊢
      split at hr
      · rename_i hev; rw [evItems_mono h hev]; exact hr
      · cases hr
  | regd ord its live =>
    intro l σ H r hr
    cases l with
    | some l => simp [evC] at hr
    | none =>
      simp only [evC] at hr ⊢
      split at hr
      · rename_i hev; rw [evItems_mono h hev]; exact hr
      · cases hr
  | seq x y ihx ihy =>
    have both : ∀ l {σ H r}, (match evC c meth k x l σ H with
          | some (.norm, σ₁, H₁) => evC c meth k y none σ₁ H₁
          | r => r) = some r → (match evC d meth k' x l σ H with
          | some (.norm, σ₁, H₁) => evC d meth k' y none σ₁ H₁
          | r => r) = some r := by
      intro l σ H r hr
      split at hr
      · rename_i hev; rw [ihx l hev]; exact ihy none hr
      · rename_i hne
        rw [ihx l hr]
        split
        · rename_i σ' H' e; cases e; exact absurd hr (hne σ' H')
        · rfl
    intro l σ H r hr
    cases l with
    | none => simp only [evC] at hr ⊢; exact both none hr
    | some l =>
      simp only [evC] at hr ⊢
      split at hr
      · rename_i hl; rw [if_pos hl]; exact both (some l) hr
      · rename_i hl; rw [if_neg hl]; exact ihy (some l) hr
  | cond x y z ihy ihz =>
    intro l σ H r hr
    cases l with
    | some l => simp [evC] at hr
    | none =>
      simp only [evC] at hr ⊢
      split at hr
      · exact ihy none hr
      · exact ihz none hr
      · cases hr
  | block id b ih =>
    intro l σ H r hr
    cases l with
    | some l => simp [evC] at hr
    | none =>
      simp only [evC] at hr ⊢
      split at hr
      · rename_i hev; rw [ih none hev]; exact hr
      · rename_i hne
        rw [ih none hr]
        split
        · rename_i i σ' H' e; cases e; exact absurd hr (hne i σ' H')
        · rfl
  | loop b ih =>
    intro l σ H r hr
    cases l with
    | some l => simp [evC] at hr
    | none =>
      simp only [evC] at hr ⊢
      exact loopN_mono (fun σ H r => ih none) k k' hk hr
  | scope b ih =>
    intro l σ H r hr
    cases l with
    | some l => simp [evC] at hr
    | none =>
      simp only [evC] at hr ⊢
      exact jumpN_mono (fun l σ H r => ih l) k k' hk hr
  | exit id => intro l σ H r hr; cases l <;> simp [evC] at hr ⊢; exact hr
  | label m => intro l σ H r hr; cases l <;> simp only [evC] at hr ⊢ <;> exact hr
  | goto m => intro l σ H r hr; cases l <;> simp [evC] at hr ⊢; exact hr
  | ret => intro l σ H r hr; cases l <;> simp [evC] at hr ⊢; exact hr
end

theorem evFn_mono (T : AProg) : ∀ (k k' : Nat), k ≤ k' → ACall.le (evFn T k) (evFn T k')
  | 0, _, _ => fun f vs H r h => by simp [evFn] at h
  | k + 1, k', hk => fun f vs H r h => by
    obtain ⟨k', rfl⟩ : ∃ m, k' = m + 1 := ⟨k' - 1, by omega⟩
    simp only [evFn] at h ⊢
    split at h
    · exact h
    · split at h
      · cases h
      · rename_i fn hfn
        split at h
        · cases h
        · rename_i hlen
          rw [if_neg hlen]
          have hm := fun r => evC_mono (meth := T.meth) (evFn_mono T k k' (by omega)) k k' (by omega) fn.body none (σ := argEnv 0 vs) (H := H) (r := r)
          split at h
          · rename_i hev; rw [hm _ hev]; exact h
          · rename_i hev; rw [hm _ hev]; exact h
          · cases h

/-- What a call comes to. -/
def Ev (T : AProg) (f : FuncId) (vs : List Value) (H : AHeap) (R : Value → AHeap → Prop) : Prop := ∃ k v H', evFn T k f vs H = some (v, H') ∧ R v H'
def EvQ (T : AProg) (f : FuncId) (vs : List Value) (H : AHeap) (R : Value → Prop) : Prop := ∃ k v H', evFn T k f vs H.froz = some (v, H') ∧ closedIn 4 v = true ∧ R v
def EvE (T : AProg) (gl : Nat) (f : FuncId) (vs : List Value) (R : Value → Prop) : Prop := ∃ k v H', evFn T k f vs ⟨.nil, gl, gl⟩ = some (v, H') ∧ (closedIn 4 v && vs.all (closedIn 4)) = true ∧ R v
def WI (T : AProg) (its : List AItem) (σ : Env) (H : AHeap) (Q : Env → AHeap → Prop) : Prop := ∃ k σ' H', evItems (evFn T k) T.meth its σ H = some (σ', H') ∧ Q σ' H'
def WC (T : AProg) (c : ACode) (σ : Env) (H : AHeap) (Q : AEx → Env → AHeap → Prop) : Prop := ∃ k ex σ' H', evC (evFn T k) T.meth k c none σ H = some (ex, σ', H') ∧ Q ex σ' H'

section
variable {T : AProg}

theorem Ev.mono {f : FuncId} {vs : List Value} {H : AHeap} {R R' : Value → AHeap → Prop} (h : Ev T f vs H R) (hr : ∀ v H', R v H' → R' v H') : Ev T f vs H R' :=
  let ⟨k, v, H', h1, h2⟩ := h; ⟨k, v, H', h1, hr v H' h2⟩
theorem EvQ.mono {f : FuncId} {vs : List Value} {H : AHeap} {R R' : Value → Prop} (h : EvQ T f vs H R) (hr : ∀ v, R v → R' v) : EvQ T f vs H R' :=
  let ⟨k, v, H', h1, h2, h3⟩ := h; ⟨k, v, H', h1, h2, hr v h3⟩
theorem EvE.mono {gl : Nat} {f : FuncId} {vs : List Value} {R R' : Value → Prop} (h : EvE T gl f vs R) (hr : ∀ v, R v → R' v) : EvE T gl f vs R' :=
  let ⟨k, v, H', h1, h2, h3⟩ := h; ⟨k, v, H', h1, h2, hr v h3⟩
theorem WC.mono {c : ACode} {σ : Env} {H : AHeap} {Q Q' : AEx → Env → AHeap → Prop} (h : WC T c σ H Q) (hr : ∀ ex σ' H', Q ex σ' H' → Q' ex σ' H') : WC T c σ H Q' :=
  let ⟨k, ex, σ', H', h1, h2⟩ := h; ⟨k, ex, σ', H', h1, hr _ _ _ h2⟩

/-- Quiet calls whose answer is known. -/
theorem EvQ.of_ev {f : FuncId} {vs : List Value} {H : AHeap} {v : Value} {R : Value → Prop} (h : Ev T f vs H.froz fun u _ => u = v) (hc : closedIn 4 v = true) (hr : R v) : EvQ T f vs H R := by
  obtain ⟨k, u, H', h1, rfl⟩ := h
  exact ⟨k, u, H', h1, hc, hr⟩
theorem EvE.of_ev {gl : Nat} {f : FuncId} {vs : List Value} {v : Value} {R : Value → Prop} (h : Ev T f vs ⟨.nil, gl, gl⟩ fun u _ => u = v) (hc : (closedIn 4 v && vs.all (closedIn 4)) = true) (hr : R v) : EvE T gl f vs R := by
  obtain ⟨k, u, H', h1, rfl⟩ := h
  exact ⟨k, u, H', h1, hc, hr⟩

theorem wi_nil {σ : Env} {H : AHeap} {Q : Env → AHeap → Prop} (h : Q σ H) : WI T [] σ H Q := ⟨0, σ, H, rfl, h⟩

/-- An item that makes no call. -/
theorem wi_plain {it : AItem} {its : List AItem} {σ : Env} {H : AHeap} {Q : Env → AHeap → Prop} {v : Value} {H' : AHeap} (he : evItem (fun _ _ _ => none) T.meth σ H it = some (v, H'))
    (h : WI T its (σ.putO it.dst v) H' Q) : WI T (it :: its) σ H Q := by
  obtain ⟨k, σ', H₁, h1, h2⟩ := h
  refine ⟨k, σ', H₁, ?_, h2⟩
  rw [evItems_cons, evItem_mono (c := fun _ _ _ => none) (fun f vs H r h => by cases h) he]
  exact h1

theorem wi_item {it : AItem} {its : List AItem} {σ : Env} {H : AHeap} {Q : Env → AHeap → Prop} {k : Nat} {v : Value} {H' : AHeap} (he : evItem (evFn T k) T.meth σ H it = some (v, H'))
    (h : WI T its (σ.putO it.dst v) H' Q) : WI T (it :: its) σ H Q := by
  obtain ⟨k', σ', H₁, h1, h2⟩ := h
  refine ⟨max k k', σ', H₁, ?_, h2⟩
  rw [evItems_cons, evItem_mono (evFn_mono T k (max k k') (Nat.le_max_left _ _)) he]
  exact evItems_mono (evFn_mono T k' (max k k') (Nat.le_max_right _ _)) h1

theorem wi_call {d : Option Nat} {f : FuncId} {xs : List AOpd} {its : List AItem} {σ : Env} {H : AHeap} {Q : Env → AHeap → Prop} {vs : List Value} (hx : σ.rds xs = some vs)
    (h : Ev T f vs H fun v H' => WI T its (σ.putO d v) H' Q) : WI T (⟨d, none, .call f xs⟩ :: its) σ H Q := by
  obtain ⟨k, v, H', h1, h2⟩ := h
  exact wi_item (k := k) (v := v) (H' := H') (by simp only [evItem, evOp, hx, h1]) h2

theorem wi_callQ {d : Option Nat} {f : FuncId} {xs : List AOpd} {its : List AItem} {σ : Env} {H : AHeap} {Q : Env → AHeap → Prop} {vs : List Value} (hx : σ.rds xs = some vs)
    (h : EvQ T f vs H fun v => WI T its (σ.putO d v) H Q) : WI T (⟨d, none, .callQ f xs⟩ :: its) σ H Q := by
  obtain ⟨k, v, H', h1, h2, h3⟩ := h
  exact wi_item (k := k) (v := v) (H' := H) (by simp only [evItem, evOp, hx, h1, h2, if_true]) h3

theorem wi_callE {d : Option Nat} {gl : Nat} {f : FuncId} {xs : List AOpd} {its : List AItem} {σ : Env} {H : AHeap} {Q : Env → AHeap → Prop} {vs : List Value} (hx : σ.rds xs = some vs)
    (h : EvE T gl f vs fun v => WI T its (σ.putO d v) H Q) : WI T (⟨d, none, .callE gl f xs⟩ :: its) σ H Q := by
  obtain ⟨k, v, H', h1, h2, h3⟩ := h
  exact wi_item (k := k) (v := v) (H' := H) (by simp only [evItem, evOp, hx, h1, h2, if_true]) h3

/-- A guarded item. -/
theorem wi_guard_no {d : Option Nat} {g : Nat} {want b : Bool} {op : AOp} {its : List AItem} {σ : Env} {H : AHeap} {Q : Env → AHeap → Prop} (hg : σ.find g = some (.bool b)) (hb : b ≠ want)
    (h : WI T its (σ.putO d undef) H Q) : WI T (⟨d, some (g, want), op⟩ :: its) σ H Q :=
  wi_item (k := 0) (v := undef) (H' := H) (by simp only [evItem, hg, if_neg hb]) h

theorem wi_guard_yes {d : Option Nat} {g : Nat} {want : Bool} {op : AOp} {its : List AItem} {σ : Env} {H : AHeap} {Q : Env → AHeap → Prop} (hg : σ.find g = some (.bool want))
    (h : WI T (⟨d, none, op⟩ :: its) σ H Q) : WI T (⟨d, some (g, want), op⟩ :: its) σ H Q := by
  obtain ⟨k, σ', H₁, h1, h2⟩ := h
  refine ⟨k, σ', H₁, ?_, h2⟩
  rw [evItems_cons] at h1 ⊢
  simp only [evItem, hg, if_true] at h1 ⊢
  exact h1

theorem wc_reg {its : List AItem} {live : List Nat} {σ : Env} {H : AHeap} {Q : AEx → Env → AHeap → Prop} (h : WI T its σ H fun σ' H' => Q .norm (σ'.keep live) H') : WC T (.reg its live) σ H Q := by
  obtain ⟨k, σ', H', h1, h2⟩ := h
  exact ⟨k, .norm, _, H', by simp only [evC, h1], h2⟩
theorem wc_regd {ord : List Nat} {its : List AItem} {live : List Nat} {σ : Env} {H : AHeap} {Q : AEx → Env → AHeap → Prop} (h : WI T its σ H fun σ' H' => Q .norm (σ'.keep live) H') : WC T (.regd ord its live) σ H Q := by
  obtain ⟨k, σ', H', h1, h2⟩ := h
  exact ⟨k, .norm, _, H', by simp only [evC, h1], h2⟩
theorem wc_skip {σ : Env} {H : AHeap} {Q : AEx → Env → AHeap → Prop} (h : Q .norm σ H) : WC T .skip σ H Q := ⟨0, _, _, _, rfl, h⟩
theorem wc_ret {σ : Env} {H : AHeap} {Q : AEx → Env → AHeap → Prop} (h : Q .ret σ H) : WC T .ret σ H Q := ⟨0, _, _, _, rfl, h⟩
theorem wc_exit {id : Nat} {σ : Env} {H : AHeap} {Q : AEx → Env → AHeap → Prop} (h : Q (.exit id) σ H) : WC T (.exit id) σ H Q := ⟨0, _, _, _, rfl, h⟩
theorem wc_goto {l : Nat} {σ : Env} {H : AHeap} {Q : AEx → Env → AHeap → Prop} (h : Q (.goto l) σ H) : WC T (.goto l) σ H Q := ⟨0, _, _, _, rfl, h⟩
theorem wc_label {l : Nat} {σ : Env} {H : AHeap} {Q : AEx → Env → AHeap → Prop} (h : Q .norm σ H) : WC T (.label l) σ H Q := ⟨0, _, _, _, rfl, h⟩

def AEx.then (K : Env → AHeap → Prop) (Q : AEx → Env → AHeap → Prop) : AEx → Env → AHeap → Prop
  | .norm, σ, H => K σ H
  | e, σ, H => Q e σ H
def AEx.inBlock (id : Nat) (Q : AEx → Env → AHeap → Prop) : AEx → Env → AHeap → Prop
  | .exit i, σ, H => if i = id then Q .norm σ H else Q (.exit i) σ H
  | e, σ, H => Q e σ H

theorem lift2 {T : AProg} {k k' : Nat} {ac : ACode} {l : Option Nat} {σ : Env} {H : AHeap} {r} (h : evC (evFn T k) T.meth k ac l σ H = some r) (hk : k ≤ k') : evC (evFn T k') T.meth k' ac l σ H = some r :=
  evC_mono (evFn_mono T k k' hk) k k' hk ac l h

theorem wc_seq {a b : ACode} {σ : Env} {H : AHeap} {Q : AEx → Env → AHeap → Prop} (h : WC T a σ H (AEx.then (fun σ' H' => WC T b σ' H' Q) Q)) : WC T (.seq a b) σ H Q := by
  obtain ⟨k, ex, σ', H', h1, h2⟩ := h
  cases ex with
  | norm =>
    obtain ⟨k', ex', σ'', H'', h3, h4⟩ := h2
    exact ⟨max k k', ex', σ'', H'', by simp only [evC, lift2 h1 (Nat.le_max_left k k'), lift2 h3 (Nat.le_max_right k k')], h4⟩
  | exit i => exact ⟨k, _, _, _, by simp only [evC, h1], h2⟩
  | goto l => exact ⟨k, _, _, _, by simp only [evC, h1], h2⟩
  | ret => exact ⟨k, _, _, _, by simp only [evC, h1], h2⟩

theorem wc_cond {c : AOpd} {a b : ACode} {σ : Env} {H : AHeap} {Q : AEx → Env → AHeap → Prop} {t : Bool} (hc : σ.rd c = some (.bool t)) (h : WC T (if t then a else b) σ H Q) : WC T (.cond c a b) σ H Q := by
  obtain ⟨k, ex, σ', H', h1, h2⟩ := h
  exact ⟨k, ex, σ', H', by simp only [evC, hc]; cases t <;> exact h1, h2⟩

theorem wc_block {id : Nat} {b : ACode} {σ : Env} {H : AHeap} {Q : AEx → Env → AHeap → Prop} (h : WC T b σ H (AEx.inBlock id Q)) : WC T (.block id b) σ H Q := by
  obtain ⟨k, ex, σ', H', h1, h2⟩ := h
  cases ex with
  | exit i =>
    simp only [AEx.inBlock] at h2
    by_cases e : i = id
    · rw [if_pos e] at h2; exact ⟨k, _, _, _, by simp only [evC, h1, if_pos e], h2⟩
    · rw [if_neg e] at h2; exact ⟨k, _, _, _, by simp only [evC, h1, if_neg e], h2⟩
  | norm => exact ⟨k, _, _, _, by simp only [evC, h1], h2⟩
  | goto l => exact ⟨k, _, _, _, by simp only [evC, h1], h2⟩
  | ret => exact ⟨k, _, _, _, by simp only [evC, h1], h2⟩

/-- A loop: what holds at each round's head, and a measure. -/
theorem wc_loop {b : ACode} {σ : Env} {H : AHeap} {Q : AEx → Env → AHeap → Prop} (Inv : Nat → Env → AHeap → Prop) (n : Nat) (h0 : Inv n σ H)
    (round : ∀ n σ H, Inv n σ H → WC T b σ H (AEx.then (fun σ' H' => ∃ m, m < n ∧ Inv m σ' H') Q)) : WC T (.loop b) σ H Q := by
  suffices hs : ∃ k ex σ' H', loopN (evC (evFn T k) T.meth k b none) k σ H = some (ex, σ', H') ∧ Q ex σ' H' by
    obtain ⟨k, ex, σ', H', h1, h2⟩ := hs
    exact ⟨k, ex, σ', H', h1, h2⟩
  induction n using Nat.strongRecOn generalizing σ H with
  | _ n ih =>
    obtain ⟨k, ex, σ', H', h1, h2⟩ := round n σ H h0
    have stop : ex ≠ .norm → Q ex σ' H' → ∃ k ex σ' H', loopN (evC (evFn T k) T.meth k b none) k σ H = some (ex, σ', H') ∧ Q ex σ' H' := by
      intro hne hq
      refine ⟨k + 1, ex, σ', H', ?_, hq⟩
      simp only [loopN, lift2 h1 (Nat.le_succ k)]
      cases ex <;> first | rfl | exact absurd rfl hne
    cases ex with
    | norm =>
      obtain ⟨m, hm, hi⟩ := h2
      obtain ⟨k', ex', σ'', H'', h3, h4⟩ := ih m hm hi
      refine ⟨max k k' + 1, ex', σ'', H'', ?_, h4⟩
      simp only [loopN, lift2 h1 (show k ≤ max k k' + 1 by omega)]
      exact loopN_mono (fun σ H r hr => lift2 hr (by omega)) k' (max k k') (Nat.le_max_right _ _) h3
    | exit i => exact stop (by simp) h2
    | goto l => exact stop (by simp) h2
    | ret => exact stop (by simp) h2

/-- A scope whose jumps go forward to labels: the code from a label on. -/
def WL (T : AProg) (c : ACode) (l : Option Nat) (σ : Env) (H : AHeap) (Q : AEx → Env → AHeap → Prop) : Prop := ∃ k ex σ' H', evC (evFn T k) T.meth k c l σ H = some (ex, σ', H') ∧ Q ex σ' H'

def AEx.jumps (T : AProg) (b : ACode) (Q : AEx → Env → AHeap → Prop) : AEx → Env → AHeap → Prop
  | .goto l, σ, H => if hasLabel b l then ∃ k ex σ' H', jumpN (evC (evFn T k) T.meth k b) (hasLabel b) k (some l) σ H = some (ex, σ', H') ∧ Q ex σ' H' else Q (.goto l) σ H
  | e, σ, H => Q e σ H

theorem wj_step {b : ACode} {l : Option Nat} {σ : Env} {H : AHeap} {Q : AEx → Env → AHeap → Prop} (h : WL T b l σ H (AEx.jumps T b Q)) :
    ∃ k ex σ' H', jumpN (evC (evFn T k) T.meth k b) (hasLabel b) k l σ H = some (ex, σ', H') ∧ Q ex σ' H' := by
  obtain ⟨k, ex, σ', H', h1, h2⟩ := h
  cases ex with
  | goto l' =>
    simp only [AEx.jumps] at h2
    split at h2
    · rename_i hl
      obtain ⟨k', ex', σ'', H'', h3, h4⟩ := h2
      refine ⟨max k k' + 1, ex', σ'', H'', ?_, h4⟩
      simp only [jumpN, lift2 h1 (show k ≤ max k k' + 1 by omega), hl, if_true]
      exact jumpN_mono (fun l σ H r hr => lift2 hr (by omega)) k' (max k k') (Nat.le_max_right _ _) h3
    · rename_i hl
      refine ⟨k + 1, _, _, _, ?_, h2⟩
      simp only [jumpN, lift2 h1 (Nat.le_succ k), hl]
      rfl
  | norm => exact ⟨k + 1, _, _, _, by simp only [jumpN, lift2 h1 (Nat.le_succ k)], h2⟩
  | exit i => exact ⟨k + 1, _, _, _, by simp only [jumpN, lift2 h1 (Nat.le_succ k)], h2⟩
  | ret => exact ⟨k + 1, _, _, _, by simp only [jumpN, lift2 h1 (Nat.le_succ k)], h2⟩

theorem wc_scope {b : ACode} {σ : Env} {H : AHeap} {Q : AEx → Env → AHeap → Prop} (h : WL T b none σ H (AEx.jumps T b Q)) : WC T (.scope b) σ H Q := by
  obtain ⟨k, ex, σ', H', h1, h2⟩ := wj_step h
  exact ⟨k, ex, σ', H', by simp only [evC]; exact h1, h2⟩

theorem wl_none {b : ACode} {σ : Env} {H : AHeap} {Q : AEx → Env → AHeap → Prop} (h : WC T b σ H Q) : WL T b none σ H Q := h

theorem wl_seq_in {a b : ACode} {l : Nat} {σ : Env} {H : AHeap} {Q : AEx → Env → AHeap → Prop} (hl : hasLabel a l = true) (h : WL T a (some l) σ H (AEx.then (fun σ' H' => WC T b σ' H' Q) Q)) : WL T (.seq a b) (some l) σ H Q := by
  obtain ⟨k, ex, σ', H', h1, h2⟩ := h
  cases ex with
  | norm =>
    obtain ⟨k', ex', σ'', H'', h3, h4⟩ := h2
    exact ⟨max k k', ex', σ'', H'', by simp only [evC, hl, if_true, lift2 h1 (Nat.le_max_left k k'), lift2 h3 (Nat.le_max_right k k')], h4⟩
  | exit i => exact ⟨k, _, _, _, by simp only [evC, hl, if_true, h1], h2⟩
  | goto l => exact ⟨k, _, _, _, by simp only [evC, hl, if_true, h1], h2⟩
  | ret => exact ⟨k, _, _, _, by simp only [evC, hl, if_true, h1], h2⟩

theorem wl_seq_on {a b : ACode} {l : Nat} {σ : Env} {H : AHeap} {Q : AEx → Env → AHeap → Prop} (hl : hasLabel a l = false) (h : WL T b (some l) σ H Q) : WL T (.seq a b) (some l) σ H Q := by
  obtain ⟨k, ex, σ', H', h1, h2⟩ := h
  exact ⟨k, ex, σ', H', by simp only [evC, hl, Bool.false_eq_true, if_false]; exact h1, h2⟩

theorem wl_label {l : Nat} {σ : Env} {H : AHeap} {Q : AEx → Env → AHeap → Prop} (h : Q .norm σ H) : WL T (.label l) (some l) σ H Q := ⟨0, _, _, _, by simp only [evC, if_true], h⟩

/-- A function's body. -/
theorem ev_fn {f : FuncId} {fn : AFn} {vs : List Value} {H : AHeap} {R : Value → AHeap → Prop} (hp : T.prim f = none) (hf : T.fn f = some fn) (hn : vs.length = fn.nargs)
    (h : WC T fn.body (argEnv 0 vs) H fun ex σ' H' => (match ex with | .norm | .ret => true | _ => false) = true ∧ ∃ us, evRes σ' H' fn.res = some us ∧ R (asResult us) H') : Ev T f vs H R := by
  obtain ⟨k, ex, σ', H', h1, h2, us, h3, h4⟩ := h
  refine ⟨k + 1, asResult us, H', ?_, h4⟩
  have hn' : ¬ (vs.length ≠ fn.nargs) := by omega
  simp only [evFn, hp, hf, if_neg hn', h1]
  cases ex <;> simp only [Bool.false_eq_true] at h2
  · simp only [h3]
  · simp only [h3]

theorem ev_prim {f : FuncId} {p} {vs : List Value} {H : AHeap} {R : Value → AHeap → Prop} (hp : T.prim f = some p) {v : Value} {H' : AHeap} (h : p vs H = some (v, H')) (hr : R v H') : Ev T f vs H R :=
  ⟨1, v, H', by simp only [evFn, hp, h], hr⟩
end
end Go.Ab
