/- The framework, in one text. -/
import Derived.Test.YtoiehfgdjjmakaaDoorGA
import Derived.KernelRfl
/- Runs over a heap of one's own choice: what code comes to, said of a heap that the one stands in. -/
namespace Go.Ab
open Go

/-- Handles stand for themselves. -/
def Hid (μ : Mp) : Prop := ∀ s i j, μ (some s) i = some j → j = i

/-- Two heaps before, two heaps behind: the numbers below one stand as they stood. -/
structure SW (gl n : Nat) (μ : Mp) (H K : AHeap) (ν : Mp) (H' K' : AHeap) : Prop where
  hr : HR gl ν H' K'
  hid : Hid ν
  pin : ∀ i j, i < n → μ none i = some j → ν none i = some j
  spot : ∀ s i j, μ (some s) i = some j → ν (some s) i = some j
  lo : H'.lo = H.lo
  klo : K'.lo = K.lo
  knext : K.next ≤ K'.next
  frame : ∀ j, j < K.next → (∀ i o, H.lo ≤ i → H.get i = some o → μ none i ≠ some j) → K'.get j = K.get j
  own : ∀ i o j, H.lo ≤ i → H'.get i = some o → ν none i = some j → K.next ≤ j ∨ ∃ i' o', H.lo ≤ i' ∧ H.get i' = some o' ∧ μ none i' = some j

theorem SW.refl {gl n : Nat} {μ : Mp} {H K : AHeap} (h : HR gl μ H K) (hi : Hid μ) : SW gl n μ H K μ H K :=
  ⟨h, hi, fun _ _ _ h => h, fun _ _ _ h => h, rfl, rfl, Nat.le_refl _, fun _ _ _ => rfl, fun i o j a b c => .inr ⟨i, o, a, b, c⟩⟩

theorem SW.trans {gl n : Nat} {μ ν ξ : Mp} {H K H' K' H'' K'' : AHeap} (h : SW gl n μ H K ν H' K') (h' : SW gl n ν H' K' ξ H'' K'') : SW gl n μ H K ξ H'' K'' := by
  refine ⟨h'.hr, h'.hid, fun i j hi hj => h'.pin i j hi (h.pin i j hi hj), fun s i j hj => h'.spot s i j (h.spot s i j hj), h'.lo.trans h.lo, h'.klo.trans h.klo, Nat.le_trans h.knext h'.knext, ?_, ?_⟩
  · intro j hj hn
    rw [h'.frame j (Nat.lt_of_lt_of_le hj h.knext) ?_, h.frame j hj hn]
    intro i o hi ho he
    rcases h.own i o j (by rw [← h.lo]; exact hi) ho he with h1 | ⟨i', o', a, b, c⟩
    · omega
    · exact hn i' o' a b c
  · intro i o j hi ho he
    rcases h'.own i o j (by rw [h.lo]; exact hi) ho he with h1 | ⟨i', o', a, b, c⟩
    · exact .inl (Nat.le_trans h.knext h1)
    · exact h.own i' o' j (by rw [← h.lo]; exact a) b c

theorem SP.sw {gl n : Nat} {μ ν : Mp} {H K H' K' : AHeap} (hi : Hid μ) (h : SP gl μ H K ν H' K') : SW gl n μ H K ν H' K' :=
  ⟨h.hr, fun s i j hj => hi s i j (by rw [← h.spot]; exact hj), fun i j _ hj => h.ext _ _ _ hj, fun s i j hj => h.ext _ _ _ hj, h.lo, h.klo, h.knext, h.frame, h.own⟩

/-- What code comes to, from a heap of one's own choice. -/
def LW (T : AProg) (gl n : Nat) (b : Nat → Env → AHeap → ARes) (σ : Env) (H : AHeap) (Q : AEx → Env → AHeap → Prop) : Prop := ∀ μ K τ, HR gl μ H K → Hid μ → ER μ σ τ →
  ∃ k ex ν τ' K' σ' H', b k τ K = some (ex, τ', K') ∧ SW gl n μ H K ν H' K' ∧ ER ν σ' τ' ∧ Q ex σ' H'

abbrev LC (T : AProg) (gl n : Nat) (c : ACode) (σ : Env) (H : AHeap) (Q : AEx → Env → AHeap → Prop) : Prop := LW T gl n (fun k => evC (evFn T k) T.meth k c none) σ H Q

/-- A heap in other numbers. -/
def Ren (gl n : Nat) (σ : Env) (H : AHeap) (Q : Env → AHeap → Prop) : Prop := ∀ μ K τ, HR gl μ H K → Hid μ → ER μ σ τ → ∃ ν σ' H', SW gl n μ H K ν H' K ∧ ER ν σ' τ ∧ Q σ' H'

theorem Ren.here {gl n : Nat} {σ : Env} {H : AHeap} {Q : Env → AHeap → Prop} (h : Q σ H) : Ren gl n σ H Q := fun μ K τ hr hi he => ⟨μ, σ, H, .refl hr hi, he, h⟩

section
variable {T : AProg} {gl n : Nat} {σ : Env} {H : AHeap} {Q : AEx → Env → AHeap → Prop}

theorem LW.mono {b : Nat → Env → AHeap → ARes} (h : LW T gl n b σ H Q) {Q' : AEx → Env → AHeap → Prop} (hq : ∀ ex σ' H', Q ex σ' H' → Q' ex σ' H') : LW T gl n b σ H Q' := by
  intro μ K τ hr hi he
  obtain ⟨k, ex, ν, τ', K', σ', H', h1, h2, h3, h4⟩ := h μ K τ hr hi he
  exact ⟨k, ex, ν, τ', K', σ', H', h1, h2, h3, hq _ _ _ h4⟩

/-- A told run. -/
theorem LC.told (hT : SProg gl T) {c : ACode} (hc : codeOk gl c = true) {N : Nat} {hs : List Hint} {ps : List Prop} {ex : AEx} {σ' : Env} {H' : AHeap} (h : oC T gl (oFn T gl N) N c none σ H (hs, []) = some (ex, σ', H', [], ps)) (hp : AllP ps)
    (hq : Ren gl n σ' H' (Q ex)) : LC T gl n c σ H Q := by
  intro μ K τ hr hi he
  obtain ⟨_, g⟩ := oC_ok hT (oFn_ok hT N) N c hc none _ _ _ _ _ _ _ h hp
  obtain ⟨k, ν, τ', K', g1, g2, g3⟩ := g μ K τ hr he
  have sw : SW gl n μ H K ν H' K' := g2.sw hi
  obtain ⟨ξ, σ'', H'', g4, g5, g6⟩ := hq ν K' τ' sw.hr sw.hid g3
  exact ⟨k, ex, ξ, τ', K', σ'', H'', g1, sw.trans g4, g5, g6⟩

/-- Other numbers first. -/
theorem LW.ren {b : Nat → Env → AHeap → ARes} (h : Ren gl n σ H fun σ' H' => LW T gl n b σ' H' Q) : LW T gl n b σ H Q := by
  intro μ K τ hr hi he
  obtain ⟨ν, σ', H', g1, g2, g3⟩ := h μ K τ hr hi he
  obtain ⟨k, ex, ξ, τ', K', σ'', H'', e1, e2, e3, e4⟩ := g3 ν K τ g1.hr g1.hid g2
  exact ⟨k, ex, ξ, τ', K', σ'', H'', e1, g1.trans e2, e3, e4⟩

theorem LC.seq {a b : ACode} (h : LC T gl n a σ H (AEx.then (fun σ' H' => LC T gl n b σ' H' Q) Q)) : LC T gl n (.seq a b) σ H Q := by
  intro μ K τ hr hi he
  obtain ⟨k, ex, ν, τ1, K1, σ1, H1, h1, h2, h3, h4⟩ := h μ K τ hr hi he
  cases ex with
  | norm =>
    obtain ⟨k', ex', ξ, τ', K', σ', H', e1, e2, e3, e4⟩ := h4 ν K1 τ1 h2.hr h2.hid h3
    exact ⟨max k k', ex', ξ, τ', K', σ', H', by simp only [evC, lift2 h1 (Nat.le_max_left k k'), lift2 e1 (Nat.le_max_right k k')], h2.trans e2, e3, e4⟩
  | exit i => exact ⟨k, _, ν, τ1, K1, σ1, H1, by simp only [evC, h1], h2, h3, h4⟩
  | goto l => exact ⟨k, _, ν, τ1, K1, σ1, H1, by simp only [evC, h1], h2, h3, h4⟩
  | ret => exact ⟨k, _, ν, τ1, K1, σ1, H1, by simp only [evC, h1], h2, h3, h4⟩

theorem LC.block {id : Nat} {b : ACode} (h : LC T gl n b σ H (AEx.inBlock id Q)) : LC T gl n (.block id b) σ H Q := by
  intro μ K τ hr hi he
  obtain ⟨k, ex, ν, τ1, K1, σ1, H1, h1, h2, h3, h4⟩ := h μ K τ hr hi he
  cases ex with
  | exit i =>
    simp only [AEx.inBlock] at h4
    split at h4
    · rename_i e; exact ⟨k, _, ν, τ1, K1, σ1, H1, by simp only [evC, h1, if_pos e], h2, h3, h4⟩
    · rename_i e; exact ⟨k, _, ν, τ1, K1, σ1, H1, by simp only [evC, h1, if_neg e], h2, h3, h4⟩
  | norm => exact ⟨k, _, ν, τ1, K1, σ1, H1, by simp only [evC, h1], h2, h3, h4⟩
  | goto l => exact ⟨k, _, ν, τ1, K1, σ1, H1, by simp only [evC, h1], h2, h3, h4⟩
  | ret => exact ⟨k, _, ν, τ1, K1, σ1, H1, by simp only [evC, h1], h2, h3, h4⟩

/-- A loop: what holds ahead of each round, and gets less. -/
theorem LC.loop {b : ACode} (I : Nat → Env → AHeap → Prop) (m : Nat) (h0 : I m σ H)
    (hb : ∀ m σ H, I m σ H → LC T gl n b σ H (AEx.then (fun σ' H' => ∃ m', m' < m ∧ I m' σ' H') Q)) : LC T gl n (.loop b) σ H Q := by
  have key : ∀ m σ H, I m σ H → ∀ μ K τ, HR gl μ H K → Hid μ → ER μ σ τ → ∃ k ex ν τ' K' σ' H', loopN (evC (evFn T k) T.meth k b none) k τ K = some (ex, τ', K') ∧ SW gl n μ H K ν H' K' ∧ ER ν σ' τ' ∧ Q ex σ' H' := by
    intro m
    induction m using Nat.strongRecOn with
    | _ m ih =>
    intro σ H hI μ K τ hr hi he
    obtain ⟨k, ex, ν, τ1, K1, σ1, H1, h1, h2, h3, h4⟩ := hb m σ H hI μ K τ hr hi he
    have stop : ex ≠ .norm → Q ex σ1 H1 → ∃ k ex ν τ' K' σ' H', loopN (evC (evFn T k) T.meth k b none) k τ K = some (ex, τ', K') ∧ SW gl n μ H K ν H' K' ∧ ER ν σ' τ' ∧ Q ex σ' H' := by
      intro hne hq
      refine ⟨k + 1, ex, ν, τ1, K1, σ1, H1, ?_, h2, h3, hq⟩
      simp only [loopN, lift2 h1 (Nat.le_succ k)]
      cases ex with
      | norm => exact absurd rfl hne
      | _ => rfl
    cases ex with
    | norm =>
      obtain ⟨m', hm, hI'⟩ := h4
      obtain ⟨k', ex', ξ, τ', K', σ', H', e1, e2, e3, e4⟩ := ih m' hm σ1 H1 hI' ν K1 τ1 h2.hr h2.hid h3
      refine ⟨max k k' + 1, ex', ξ, τ', K', σ', H', ?_, h2.trans e2, e3, e4⟩
      simp only [loopN, lift2 h1 (show k ≤ max k k' + 1 by omega)]
      exact loopN_mono (fun σ H r hr => lift2 hr (by omega)) k' (max k k') (Nat.le_max_right _ _) e1
    | exit i => exact stop (by simp) h4
    | goto l => exact stop (by simp) h4
    | ret => exact stop (by simp) h4
  intro μ K τ hr hi he
  obtain ⟨k, ex, ν, τ', K', σ', H', e1, e2⟩ := key m σ H h0 μ K τ hr hi he
  exact ⟨k, ex, ν, τ', K', σ', H', by simp only [evC]; exact e1, e2⟩

/-- A function's call: what it tells, and the heap behind. -/
def LF (T : AProg) (gl n : Nat) (f : FuncId) (vs : List Value) (H : AHeap) (Q : Value → AHeap → Prop) : Prop := ∀ μ K us, HR gl μ H K → Hid μ → LSV μ vs us →
  ∃ k u ν K' v H', evFn T k f us K = some (u, K') ∧ SW gl n μ H K ν H' K' ∧ SV ν v u ∧ Q v H'

theorem LF.fn {f : FuncId} {fn : AFn} {vs : List Value} {Q : Value → AHeap → Prop} (hp : T.prim f = none) (hf : T.fn f = some fn) (hn : vs.length = fn.nargs)
    (h : LC T gl n fn.body (argEnv 0 vs) H fun ex σ' H' => (match ex with | .norm | .ret => true | _ => false) = true ∧ ∃ us, evRes σ' H' fn.res = some us ∧ Q (asResult us) H') : LF T gl n f vs H Q := by
  intro μ K us hr hi hl
  obtain ⟨k, ex, ν, τ', K', σ', H', h1, h2, h3, h4, ws, h5, h6⟩ := h μ K _ hr hi (.args hl 0)
  obtain ⟨us', hus, h7⟩ := evRes_sv h2.hr h3 h5
  refine ⟨k + 1, asResult us', ν, K', asResult ws, H', ?_, h2, asResult_sv h7, h6⟩
  have hn' : ¬ (us.length ≠ fn.nargs) := by rw [← hl.length]; omega
  simp only [evFn, hp, hf, if_neg hn', h1]
  cases ex <;> simp only [Bool.false_eq_true] at h4
  · simp only [hus]
  · simp only [hus]

/-- A function's call that is told. -/
theorem LF.told (hT : SProg gl T) {f : FuncId} {vs : List Value} {N : Nat} {hs : List Hint} {ps : List Prop} {v : Value} {H' : AHeap} {Q : Value → AHeap → Prop} (h : oFn T gl N f vs H (hs, []) = some (v, H', [], ps)) (hp : AllP ps)
    (hq : Q v H') : LF T gl n f vs H Q := by
  intro μ K us hr hi hl
  obtain ⟨_, g⟩ := oFn_ok hT N _ _ _ _ _ _ _ h hp
  obtain ⟨k, u, ν, K', g1, g2, g3⟩ := g μ K us hr hl
  exact ⟨k, u, ν, K', v, H', g1, g2.sw hi, g3, hq⟩

/-- A told call's contract. -/
theorem RC.told (hT : SProg gl T) {f : FuncId} {vs : List Value} {N : Nat} {hs : List Hint} {ps : List Prop} {v : Value} {H' : AHeap} (h : oFn T gl N f vs H (hs, []) = some (v, H', [], ps)) (hp : AllP ps) : RC T gl f vs H v H' :=
  (oFn_ok hT N _ _ _ _ _ _ _ h hp).2

/-- From the numbers that stand as they stood, a contract. -/
theorem LF.rc {f : FuncId} {vs : List Value} {v : Value} {H' : AHeap} (hpure : ∀ (μ ν : Mp), (∀ i, μ none i = ν none i) → ∀ u, SV μ v u → SV ν v u) (hobj : ∀ (μ ν : Mp), (∀ i, μ none i = ν none i) → ∀ i o, H'.get i = some o → ∀ l, LSV μ o.cells l → LSV ν o.cells l)
    (hargs : ∀ (μ ν : Mp), (∀ i, μ none i = ν none i) → ∀ u, LSV μ vs u → LSV ν vs u) (hold : ∀ (μ ν : Mp), (∀ i, μ none i = ν none i) → ∀ i o, H.get i = some o → ∀ l, LSV μ o.cells l → LSV ν o.cells l)
    (hlo : H.next ≤ H'.next) (h : LF T gl H.next f vs H fun w L => w = v ∧ L = H') : RC T gl f vs H v H' := by
  intro μ K us hr hl
  let μ0 : Mp := fun s i => match s with | none => μ none i | some _ => none
  have hr0 : HR gl μ0 H K := by
    refine ⟨fun i o ho => ?_, fun s i j hj => ?_, fun i j hj => hr.bnl i j hj, fun i i' o o' j a b c d e => hr.inj i i' o o' j a b c d e, fun g hg => hr.glb g hg, hr.klo⟩
    · obtain ⟨j, p, h1, h2, h3, h4, h5⟩ := hr.obj i o ho
      exact ⟨j, p, h1, h2, h3, hold μ μ0 (fun _ => rfl) i o ho _ h4, h5⟩
    · cases s with
      | none => exact hr.bnd none i j hj
      | some s => cases hj
  obtain ⟨k, u, ν, K', w, L, h1, h2, h3, rfl, rfl⟩ := h μ0 K us hr0 (fun s i j hj => by cases hj) (hargs μ μ0 (fun _ => rfl) us hl)
  let ν' : Mp := fun s i => match s with | none => ν none i | some s => μ (some s) i
  refine ⟨k, u, ν', K', h1, ⟨⟨fun i o ho => ?_, fun s i j hj => ?_, fun i j hj => h2.hr.bnl i j hj, fun i i' o o' j a b c d e => h2.hr.inj i i' o o' j a b c d e, fun g hg => h2.hr.glb g hg, h2.hr.klo⟩, ?_, h2.lo, h2.klo, hlo, h2.knext, h2.frame, h2.own, fun _ _ => rfl⟩, hpure ν ν' (fun _ => rfl) u h3⟩
  · obtain ⟨j, p, g1, g2, g3, g4, g5⟩ := h2.hr.obj i o ho
    exact ⟨j, p, g1, g2, g3, hobj ν ν' (fun _ => rfl) i o ho _ g4, g5⟩
  · cases s with
    | none => exact h2.hr.bnd none i j hj
    | some s => exact Nat.lt_of_lt_of_le (hr.bnd (some s) i j hj) h2.knext
  · intro s i j hj
    cases s with
    | none => exact h2.pin i j (hr.bnl i j hj) hj
    | some s => exact hj
end
end Go.Ab

/- A heap in one's own numbers. -/
namespace Go.Ab
open Go

def mpC (ρ : Nat → Option Nat) (μ : Mp) (K : AHeap) : Mp := fun s i => match s with
  | none => (ρ i).bind (μ none)
  | some _ => if i < K.next then some i else none

/-- A value in one's own numbers, and as it is. -/
inductive CV (ρ : Nat → Option Nat) (μ : Mp) : Value → Value → Prop
  | wild {w : Value} : one w = true → CV ρ μ wild w
  | same {v : Value} : closedIn 4 v = true → CV ρ μ v v
  | ptr {i k off : Nat} : ρ i = some k → CV ρ μ (.pointer (some ⟨i, off, none⟩)) (.pointer (some ⟨k, off, none⟩))
  | sl {i k off n c : Nat} : ρ i = some k → CV ρ μ (.slice (some ⟨i, off, none⟩) n c) (.slice (some ⟨k, off, none⟩) n c)
  | hsl {h off s n c : Nat} : CV ρ μ (.slice (some ⟨h, off, some s⟩) n c) (.slice (some ⟨h, off, some s⟩) n c)
  | nsl {k j off s n c : Nat} : μ none k = some j → CV ρ μ (.slice (some ⟨j, off, some s⟩) n c) (.slice (some ⟨k, off, none⟩) n c)
  | hptr {h off s : Nat} : CV ρ μ (.pointer (some ⟨h, off, some s⟩)) (.pointer (some ⟨h, off, some s⟩))
  | nptr {k j off s : Nat} : μ none k = some j → CV ρ μ (.pointer (some ⟨j, off, some s⟩)) (.pointer (some ⟨k, off, none⟩))
  | iface (t : TypeId) {v w : Value} : CV ρ μ v w → CV ρ μ (.iface t v) (.iface t w)
  | agg (c c' : Array Value) : c.size = c'.size → (∀ (k : Nat) v v', c[k]? = some v → c'[k]? = some v' → CV ρ μ v v') → CV ρ μ (.agg c) (.agg c')
  | tuple (c c' : Array Value) : c.size = c'.size → (∀ (k : Nat) v v', c[k]? = some v → c'[k]? = some v' → CV ρ μ v v') → CV ρ μ (.tuple c) (.tuple c')

inductive CVs (ρ : Nat → Option Nat) (μ : Mp) : List Value → List Value → Prop
  | nil : CVs ρ μ [] []
  | cons {v w : Value} {l m : List Value} : CV ρ μ v w → CVs ρ μ l m → CVs ρ μ (v :: l) (w :: m)

/-- An environment in one's own numbers, or some of it, and as it is. -/
def CE (ρ : Nat → Option Nat) (μ : Mp) : Env → Env → Prop
  | [], _ => True
  | (k, v) :: l, σ => (∃ w, σ.find k = some w ∧ CV ρ μ v w) ∧ CE ρ μ l σ

section
variable {ρ : Nat → Option Nat} {μ : Mp} {gl n : Nat} {H K : AHeap}

theorem CVs.closed : ∀ {l : List Value}, l.all (closedIn 4) = true → CVs ρ μ l l
  | [], _ => .nil
  | v :: l, h => by
    simp only [List.all_cons, Bool.and_eq_true] at h
    exact .cons (.same h.1) (CVs.closed h.2)

theorem CVs.append {a b c d : List Value} (h : CVs ρ μ a b) (h' : CVs ρ μ c d) : CVs ρ μ (a ++ c) (b ++ d) := by
  induction h with
  | nil => exact h'
  | cons hv _ ih => exact .cons hv ih

theorem CV.sv (hr : HR gl μ H K) (hi : Hid μ) {v w : Value} (h : CV ρ μ v w) : ∀ {u : Value}, SV μ w u → SV (mpC ρ μ K) v u := by
  induction h with
  | wild h => intro u hu; exact .wild ((one_sv hu).trans h)
  | same hc => intro u hu; rw [closedIn_seq 4 _ _ hc hu]; exact closedIn_sv _ 4 _ hc
  | ptr hk => intro u hu; cases hu with | ptr hj => exact .ptr (by simp only [mpC, hk, Option.bind_some, hj])
  | sl hk => intro u hu; cases hu with | sl _ _ hj => exact .sl _ _ (by simp only [mpC, hk, Option.bind_some, hj])
  | hsl =>
    intro u hu
    cases hu with
    | sl _ _ hj =>
      have e := hi _ _ _ hj
      have := hr.bnd _ _ _ hj
      subst e
      exact .sl _ _ (by simp only [mpC, if_pos this])
  | hptr =>
    intro u hu
    cases hu with
    | ptr hj =>
      have e := hi _ _ _ hj
      have := hr.bnd _ _ _ hj
      subst e
      exact .ptr (by simp only [mpC, if_pos this])
  | nsl hk =>
    intro u hu
    cases hu with
    | sl _ _ hj =>
      rw [hk] at hj; cases hj
      have := hr.bnd _ _ _ hk
      exact .sl _ _ (by simp only [mpC, if_pos this])
  | nptr hk =>
    intro u hu
    cases hu with
    | ptr hj =>
      rw [hk] at hj; cases hj
      have := hr.bnd _ _ _ hk
      exact .ptr (by simp only [mpC, if_pos this])
  | iface t _ ih => intro u hu; cases hu with | iface _ _ _ h => exact .iface _ _ _ (ih h)
  | agg c c' hs _ ih =>
    intro u hu
    cases hu with
    | agg _ d h1 h2 =>
      refine .agg _ _ (hs.trans h1) fun k v v' hv hv' => ?_
      obtain ⟨w, hw⟩ : ∃ w, c'[k]? = some w := by
        have : k < c.size := (Array.getElem?_eq_some_iff.1 hv).1
        exact ⟨_, Array.getElem?_eq_getElem (by omega)⟩
      exact ih k v w hv hw (h2 k w v' hw hv')
  | tuple c c' hs _ ih =>
    intro u hu
    cases hu with
    | tuple _ d h1 h2 =>
      refine .tuple _ _ (hs.trans h1) fun k v v' hv hv' => ?_
      obtain ⟨w, hw⟩ : ∃ w, c'[k]? = some w := by
        have : k < c.size := (Array.getElem?_eq_some_iff.1 hv).1
        exact ⟨_, Array.getElem?_eq_getElem (by omega)⟩
      exact ih k v w hv hw (h2 k w v' hw hv')

theorem CVs.length {l m : List Value} (h : CVs ρ μ l m) : l.length = m.length := by
  induction h <;> simp_all
theorem CVs.get {l m : List Value} (h : CVs ρ μ l m) : ∀ (k : Nat) v v', l[k]? = some v → m[k]? = some v' → CV ρ μ v v' := by
  induction h with
  | nil => intro k v v' h; simp at h
  | cons hv _ ih =>
    intro k v v' h h'
    cases k with
    | zero => simp at h h'; subst h h'; exact hv
    | succ k => exact ih k v v' (by simpa using h) (by simpa using h')
theorem CVs.agg {l m : List Value} (h : CVs ρ μ l m) : CV ρ μ (.agg l.toArray) (.agg m.toArray) := .agg _ _ (by simp [h.length]) fun k v v' a b => h.get k v v' (by simpa using a) (by simpa using b)
theorem CVs.tuple {l m : List Value} (h : CVs ρ μ l m) : CV ρ μ (.tuple l.toArray) (.tuple m.toArray) := .tuple _ _ (by simp [h.length]) fun k v v' a b => h.get k v v' (by simpa using a) (by simpa using b)

theorem CVs.lsv (hr : HR gl μ H K) (hi : Hid μ) {l m : List Value} (h : CVs ρ μ l m) : ∀ {u : List Value}, LSV μ m u → LSV (mpC ρ μ K) l u := by
  induction h with
  | nil => intro u hu; cases hu; exact .nil
  | cons hv _ ih => intro u hu; cases hu with | cons h1 h2 => exact .cons (hv.sv hr hi h1) (ih h2)

theorem CE.er (hr : HR gl μ H K) (hi : Hid μ) : ∀ {l m : Env}, CE ρ μ l m → ∀ {u : Env}, ER μ m u → ER (mpC ρ μ K) l u
  | [], _, _, _, _ => ER.nil
  | (k, v) :: l, m, h, u, hu => by
    obtain ⟨⟨w, hw, hv⟩, h'⟩ := h
    intro n x hx
    simp only [Env.find] at hx
    split at hx
    · rename_i e; cases hx; subst e
      obtain ⟨y, hy, h1⟩ := hu _ _ hw
      exact ⟨y, hy, hv.sv hr hi h1⟩
    · exact CE.er hr hi h' hu n x hx
end

/-- A heap of these objects. -/
def mkH (objs : List (Nat × AObj)) (next lo : Nat) : AHeap := (⟨.nil, next, lo⟩ : AHeap).puts (objs.map fun p => (p.1, some p.2))

theorem puts_mem : ∀ {l : List (Nat × AObj)} {H : AHeap} {i : Nat} {o : AObj}, (H.puts (l.map fun p => (p.1, some p.2))).get i = some o → (i, o) ∈ l ∨ H.get i = some o
  | [], _, _, _, h => .inr h
  | p :: r, H, i, o, h => by
    simp only [List.map_cons, AHeap.puts] at h
    rcases puts_mem h with h | h
    · exact .inl (List.mem_cons_of_mem _ h)
    · rw [AHeap.put1_get] at h
      split at h
      · rename_i e
        split at h
        · cases h; subst e; exact .inl List.mem_cons_self
        · cases h
      · exact .inr h

theorem mkH_get {objs : List (Nat × AObj)} {next lo i : Nat} {o : AObj} (h : (mkH objs next lo).get i = some o) : (i, o) ∈ objs := by
  rcases puts_mem h with h | h
  · exact h
  · rw [get_nil] at h; cases h
theorem mkH_next (objs : List (Nat × AObj)) (next lo : Nat) : (mkH objs next lo).next = next := by unfold mkH; rw [AHeap.puts_next]
theorem mkH_lo (objs : List (Nat × AObj)) (next lo : Nat) : (mkH objs next lo).lo = lo := by unfold mkH; rw [AHeap.puts_lo]

def rhoF : List (Nat × Nat) → Nat → Option Nat
  | [], _ => none
  | (i, k) :: r, n => if i = n then some k else rhoF r n

def rawF : List (Nat × Option AObj) → Nat → Option AObj
  | [], _ => none
  | (i, o) :: r, n => if i = n then o else rawF r n

def injB : List (Nat × Nat) → Bool
  | [] => true
  | (_, k) :: r => (r.all fun q => q.2 != k) && injB r

def rhoOk (rho : List (Nat × Nat)) (next lo n gl : Nat) : Bool :=
  (rho.all fun p => decide (p.1 < next) && (decide (p.1 < lo) || decide (lo ≤ p.2))) && injB rho && ((List.range n).all fun i => rhoF rho i == some i) && decide (gl ≤ n)

theorem rhoF_mem : ∀ {rho : List (Nat × Nat)} {i k : Nat}, rhoF rho i = some k → (i, k) ∈ rho
  | [], _, _, h => by cases h
  | (a, b) :: r, i, k, h => by
    unfold rhoF at h
    split at h
    · rename_i e; subst e; cases h; exact List.mem_cons_self
    · exact List.mem_cons_of_mem _ (rhoF_mem h)

theorem rhoF_inj : ∀ {rho : List (Nat × Nat)}, injB rho = true → ∀ {i i' k : Nat}, rhoF rho i = some k → rhoF rho i' = some k → i = i'
  | [], _, _, _, _, h, _ => by cases h
  | (a, b) :: r, hb, i, i', k, h, h' => by
    simp only [injB, Bool.and_eq_true, List.all_eq_true] at hb
    unfold rhoF at h h'
    split at h
    · rename_i e
      cases h
      split at h'
      · rename_i e'; exact e.symm.trans e'
      · have := hb.1 _ (rhoF_mem h'); simp at this
    · split at h'
      · cases h'
        have := hb.1 _ (rhoF_mem h); simp at this
      · exact rhoF_inj hb.2 h h'

theorem rawF_mem : ∀ {raw : List (Nat × Option AObj)} {k : Nat} {q : AObj}, rawF raw k = some q → (k, some q) ∈ raw
  | [], _, _, h => by cases h
  | (a, b) :: r, k, q, h => by
    unfold rawF at h
    split at h
    · rename_i e; subst e; rw [h]; exact List.mem_cons_self
    · exact List.mem_cons_of_mem _ (rawF_mem h)

def AllO (P : Nat → AObj → Prop) : List (Nat × AObj) → Prop
  | [] => True
  | p :: r => P p.1 p.2 ∧ AllO P r

theorem AllO.mem {P : Nat → AObj → Prop} : ∀ {l : List (Nat × AObj)}, AllO P l → ∀ {i o}, (i, o) ∈ l → P i o
  | p :: r, h, i, o, hm => by
    rcases List.mem_cons.1 hm with e | hm
    · subst e; exact h.1
    · exact AllO.mem h.2 hm

/-- An object in one's own numbers, and as it is. -/
def CO (rho : List (Nat × Nat)) (μ : Mp) (raw : List (Nat × Option AObj)) (i : Nat) (o : AObj) : Prop := ∃ k q, rhoF rho i = some k ∧ rawF raw k = some q ∧ q.esz = o.esz ∧ CVs (rhoF rho) μ o.cells q.cells

theorem Ren.canon {gl n : Nat} {σ : Env} {H : AHeap} {Q : Env → AHeap → Prop} {raw : List (Nat × Option AObj)} (hraw : ∀ p ∈ raw, H.get p.1 = p.2) (rho : List (Nat × Nat)) {next : Nat} (hok : rhoOk rho next H.lo n gl = true)
    (h : ∀ μ K, HR gl μ H K → Hid μ → ∃ σ' objs, Q σ' (mkH objs next H.lo) ∧ CE (rhoF rho) μ σ' σ ∧ AllO (CO rho μ raw) objs) : Ren gl n σ H Q := by
  intro μ K τ hr hi he
  obtain ⟨σ', objs, hq, hce, hos⟩ := h μ K hr hi
  simp only [rhoOk, Bool.and_eq_true, List.all_eq_true, decide_eq_true_eq, Bool.or_eq_true] at hok
  obtain ⟨⟨⟨h1, h2⟩, h3⟩, h4⟩ := hok
  have pin : ∀ i, i < n → rhoF rho i = some i := fun i hi => by simpa using h3 i (List.mem_range.2 hi)
  have obj : ∀ i o, (mkH objs next H.lo).get i = some o → ∃ k q, rhoF rho i = some k ∧ H.get k = some q ∧ q.esz = o.esz ∧ CVs (rhoF rho) μ o.cells q.cells := by
    intro i o ho
    obtain ⟨k, q, a, b, c, d⟩ := AllO.mem hos (mkH_get ho)
    exact ⟨k, q, a, hraw _ (rawF_mem b), c, d⟩
  refine ⟨mpC (rhoF rho) μ K, σ', mkH objs next H.lo, ⟨⟨?_, ?_, ?_, ?_, ?_, hr.klo⟩, ?_, ?_, ?_, mkH_lo _ _ _, rfl, Nat.le_refl _, fun _ _ _ => rfl, ?_⟩, hce.er hr hi he, hq⟩
  · intro i o ho
    obtain ⟨k, q, a, b, c, d⟩ := obj i o ho
    obtain ⟨j, p, g1, g2, g3, g4, g5⟩ := hr.obj k q b
    refine ⟨j, p, by simp only [mpC, a, Option.bind_some, g1], g2, g3.trans c, d.lsv hr hi g4, fun hl => g5 ?_⟩
    rw [mkH_lo] at hl
    rcases (h1 _ (rhoF_mem a)).2 with h | h
    · simp only at h; omega
    · exact h
  · intro s i j hj
    cases s with
    | none =>
      simp only [mpC] at hj
      rw [Option.bind_eq_some_iff] at hj
      obtain ⟨k, _, hk⟩ := hj
      exact hr.bnd _ _ _ hk
    | some s =>
      simp only [mpC] at hj
      split at hj
      · rename_i h; cases hj; exact h
      · cases hj
  · intro i j hj
    simp only [mpC] at hj
    rw [Option.bind_eq_some_iff] at hj
    obtain ⟨k, hk, _⟩ := hj
    rw [mkH_next]
    exact (h1 _ (rhoF_mem hk)).1
  · intro i i' o o' j ho ho' hj hj' hl
    obtain ⟨k, q, a, b, _, _⟩ := obj i o ho
    obtain ⟨k', q', a', b', _, _⟩ := obj i' o' ho'
    simp only [mpC, a, Option.bind_some] at hj
    simp only [mpC, a', Option.bind_some] at hj'
    have hl' : H.lo ≤ k := by
      rw [mkH_lo] at hl
      rcases (h1 _ (rhoF_mem a)).2 with h | h
      · simp only at h; omega
      · exact h
    have e := hr.inj k k' q q' j b b' hj hj' hl'
    subst e
    exact rhoF_inj h2 a a'
  · intro g hg
    simp only [mpC, pin g (by omega), Option.bind_some, hr.glb g hg]
  · intro s i j hj
    simp only [mpC] at hj
    split at hj
    · cases hj; rfl
    · cases hj
  · intro i j hin hj
    simp only [mpC, pin i hin, Option.bind_some, hj]
  · intro s i j hj
    have e := hi _ _ _ hj
    have := hr.bnd _ _ _ hj
    subst e
    simp only [mpC, if_pos this]
  · intro i o j hl ho hj
    obtain ⟨k, q, a, b, _, _⟩ := obj i o ho
    simp only [mpC, a, Option.bind_some] at hj
    have hl' : H.lo ≤ k := by
      rcases (h1 _ (rhoF_mem a)).2 with h | h
      · simp only at h; omega
      · exact h
    exact .inr ⟨k, q, hl', b, hj⟩

/-- What a told run comes to, as far as it is looked at. -/
def look (ids : List Nat) (r : ORes) : Option (AEx × Env × List (Nat × Option AObj) × Nat × OS) := r.map fun x => (x.1, x.2.1, ids.map fun i => (i, x.2.2.1.get i), x.2.2.1.lo, x.2.2.2)

theorem LC.run {T : AProg} {gl n : Nat} {σ : Env} {H : AHeap} {Q : AEx → Env → AHeap → Prop} (hT : SProg gl T) {c : ACode} (hc : codeOk gl c = true) {N : Nat} {hs : List Hint} (ids : List Nat) {ps : List Prop} {ex : AEx} {σ' : Env} {raw : List (Nat × Option AObj)} {lo : Nat}
    (h : look ids (oC T gl (oFn T gl N) N c none σ H (hs, [])) = some (ex, σ', raw, lo, [], ps)) (hp : AllP ps)
    (hq : ∀ H' : AHeap, (∀ p ∈ raw, H'.get p.1 = p.2) → H'.lo = lo → Ren gl n σ' H' (Q ex)) : LC T gl n c σ H Q := by
  unfold look at h
  rw [Option.map_eq_some_iff] at h
  obtain ⟨⟨ex1, σ1, H1, hs1, ps1⟩, h1, h2⟩ := h
  simp only [Prod.mk.injEq] at h2
  obtain ⟨rfl, rfl, rfl, rfl, rfl, rfl⟩ := h2
  refine LC.told hT hc h1 hp (hq H1 ?_ rfl)
  intro p hp
  rw [List.mem_map] at hp
  obtain ⟨i, _, rfl⟩ := hp
  rfl

/-- A quiet call over some objects, run. -/
theorem ReadQ.of_run {T : AProg} {gl : Nat} (hT : SProg gl T) {f : FuncId} {vs : List Value} {l : List (Nat × AObj)} {u : Value} (hc : closedIn 4 u = true) {H0 : AHeap} (hH : ∀ i o, H0.get i = some o → (i, o) ∈ l ∧ i < H0.lo) (hlast : ∃ i o, H0.get i = some o ∧ i + 1 = H0.next) (hgl : gl ≤ H0.next)
    (hargs : ∀ μ : Mp, (∀ i, i < H0.next → μ none i = some i) → LSV μ vs vs) (hcells : ∀ μ : Mp, (∀ i, i < H0.next → μ none i = some i) → ∀ p ∈ l, LSV μ p.2.cells p.2.cells)
    (h : LF T gl 0 f vs H0 fun w _ => w = u) : ReadQ T f vs (l.map fun p => (p.1, some p.2)) u := by
  intro H hobj
  have hlt : H0.next ≤ H.next := by
    obtain ⟨i, o, h1, h2⟩ := hlast
    have := AHeap.get_lt (hobj (i, some o) (List.mem_map.2 ⟨(i, o), (hH i o h1).1, rfl⟩))
    omega
  · let μ : Mp := fun s i => if s = none ∧ i < H0.next then some i else none
    have hμ : ∀ i, i < H0.next → μ none i = some i := fun i hi => if_pos ⟨rfl, hi⟩
    have hrr : HR gl μ H0 H.froz := by
      refine ⟨?_, ?_, ?_, ?_, ?_, Nat.le_refl _⟩
      · intro i o ho
        obtain ⟨hm, hl⟩ := hH i o ho
        refine ⟨i, o, hμ i (AHeap.get_lt ho), ?_, rfl, hcells μ hμ _ hm, fun hx => by omega⟩
        rw [AHeap.get_froz]
        exact hobj (i, some o) (List.mem_map.2 ⟨(i, o), hm, rfl⟩)
      · intro s i j hj
        simp only [μ] at hj
        split at hj
        · rename_i hx; cases hj; simp; omega
        · cases hj
      · intro i j hj
        simp only [μ] at hj
        split at hj
        · rename_i hx; exact hx.2
        · cases hj
      · intro i i' o o' j ho _ _ _ hl
        have := (hH i o ho).2
        omega
      · intro g hg; exact hμ g (by omega)
    have hid : Hid μ := by
      intro s i j hj
      simp only [μ] at hj
      split at hj
      · rename_i hx; cases hx.1
      · cases hj
    obtain ⟨k, u', ν, K', w, H', h1, h2, h3, rfl⟩ := h μ H.froz vs hrr hid (hargs μ hμ)
    have e := closedIn_seq 4 _ _ hc h3
    subst e
    exact ⟨k, _, K', h1, hc, rfl⟩
end Go.Ab

/- Small facts for told runs. -/
namespace Go.Ab
open Go

theorem w_i8 (n : Int) : IntKind.i8.wrap n = (n + 128) % 256 - 128 := by
  unfold IntKind.wrap
  simp only [IntKind.signed, IntKind.bits, Bool.true_and]
  split
  · rename_i h; simp at h; omega
  · rename_i h; simp at h; omega
theorem wb_i8 (n : Int) : -128 ≤ IntKind.i8.wrap n ∧ IntKind.i8.wrap n ≤ 127 := by rw [w_i8]; omega
theorem vw_i8 {a b : Int} (h : a = b) (h1 : -128 ≤ b) (h2 : b ≤ 127) : Value.int .i8 (IntKind.i8.wrap a) = .int .i8 b := by rw [w_i8]; congr 1; omega
theorem w_i16 (n : Int) : IntKind.i16.wrap n = (n + 32768) % 65536 - 32768 := by
  unfold IntKind.wrap
  simp only [IntKind.signed, IntKind.bits, Bool.true_and]
  split
  · rename_i h; simp at h; omega
  · rename_i h; simp at h; omega
theorem wb_i16 (n : Int) : -32768 ≤ IntKind.i16.wrap n ∧ IntKind.i16.wrap n ≤ 32767 := by rw [w_i16]; omega
theorem vw_i16 {a b : Int} (h : a = b) (h1 : -32768 ≤ b) (h2 : b ≤ 32767) : Value.int .i16 (IntKind.i16.wrap a) = .int .i16 b := by rw [w_i16]; congr 1; omega
theorem w_i32 (n : Int) : IntKind.i32.wrap n = (n + 2147483648) % 4294967296 - 2147483648 := by
  unfold IntKind.wrap
  simp only [IntKind.signed, IntKind.bits, Bool.true_and]
  split
  · rename_i h; simp at h; omega
  · rename_i h; simp at h; omega
theorem wb_i32 (n : Int) : -2147483648 ≤ IntKind.i32.wrap n ∧ IntKind.i32.wrap n ≤ 2147483647 := by rw [w_i32]; omega
theorem vw_i32 {a b : Int} (h : a = b) (h1 : -2147483648 ≤ b) (h2 : b ≤ 2147483647) : Value.int .i32 (IntKind.i32.wrap a) = .int .i32 b := by rw [w_i32]; congr 1; omega
theorem w_i64 (n : Int) : IntKind.i64.wrap n = (n + 9223372036854775808) % 18446744073709551616 - 9223372036854775808 := by
  unfold IntKind.wrap
  simp only [IntKind.signed, IntKind.bits, Bool.true_and]
  split
  · rename_i h; simp at h; omega
  · rename_i h; simp at h; omega
theorem wb_i64 (n : Int) : -9223372036854775808 ≤ IntKind.i64.wrap n ∧ IntKind.i64.wrap n ≤ 9223372036854775807 := by rw [w_i64]; omega
theorem vw_i64 {a b : Int} (h : a = b) (h1 : -9223372036854775808 ≤ b) (h2 : b ≤ 9223372036854775807) : Value.int .i64 (IntKind.i64.wrap a) = .int .i64 b := by rw [w_i64]; congr 1; omega
theorem w_u8 (n : Int) : IntKind.u8.wrap n = n % 256 := by
  unfold IntKind.wrap
  simp only [IntKind.signed, IntKind.bits, Bool.false_and, Bool.false_eq_true, if_false]
  omega
theorem wb_u8 (n : Int) : 0 ≤ IntKind.u8.wrap n ∧ IntKind.u8.wrap n ≤ 255 := by rw [w_u8]; omega
theorem vw_u8 {a b : Int} (h : a = b) (h1 : 0 ≤ b) (h2 : b ≤ 255) : Value.int .u8 (IntKind.u8.wrap a) = .int .u8 b := by rw [w_u8]; congr 1; omega
theorem w_u16 (n : Int) : IntKind.u16.wrap n = n % 65536 := by
  unfold IntKind.wrap
  simp only [IntKind.signed, IntKind.bits, Bool.false_and, Bool.false_eq_true, if_false]
  omega
theorem wb_u16 (n : Int) : 0 ≤ IntKind.u16.wrap n ∧ IntKind.u16.wrap n ≤ 65535 := by rw [w_u16]; omega
theorem vw_u16 {a b : Int} (h : a = b) (h1 : 0 ≤ b) (h2 : b ≤ 65535) : Value.int .u16 (IntKind.u16.wrap a) = .int .u16 b := by rw [w_u16]; congr 1; omega
theorem w_u32 (n : Int) : IntKind.u32.wrap n = n % 4294967296 := by
  unfold IntKind.wrap
  simp only [IntKind.signed, IntKind.bits, Bool.false_and, Bool.false_eq_true, if_false]
  omega
theorem wb_u32 (n : Int) : 0 ≤ IntKind.u32.wrap n ∧ IntKind.u32.wrap n ≤ 4294967295 := by rw [w_u32]; omega
theorem vw_u32 {a b : Int} (h : a = b) (h1 : 0 ≤ b) (h2 : b ≤ 4294967295) : Value.int .u32 (IntKind.u32.wrap a) = .int .u32 b := by rw [w_u32]; congr 1; omega
theorem w_u64 (n : Int) : IntKind.u64.wrap n = n % 18446744073709551616 := by
  unfold IntKind.wrap
  simp only [IntKind.signed, IntKind.bits, Bool.false_and, Bool.false_eq_true, if_false]
  omega
theorem wb_u64 (n : Int) : 0 ≤ IntKind.u64.wrap n ∧ IntKind.u64.wrap n ≤ 18446744073709551615 := by rw [w_u64]; omega
theorem vw_u64 {a b : Int} (h : a = b) (h1 : 0 ≤ b) (h2 : b ≤ 18446744073709551615) : Value.int .u64 (IntKind.u64.wrap a) = .int .u64 b := by rw [w_u64]; congr 1; omega

theorem vi {k : IntKind} {a b : Int} (h : a = b) : Value.int k a = .int k b := congrArg _ h
theorem v_dec {p : Prop} [Decidable p] (h : p) : Value.bool (decide p) = .bool true := by rw [decide_eq_true h]
theorem v_ndec {p : Prop} [Decidable p] (h : ¬ p) : Value.bool (decide p) = .bool false := by rw [decide_eq_false h]
theorem v_eq {a b : Int} (h : a = b) : Value.bool (a == b) = .bool true := by rw [beq_iff_eq.2 h]
theorem v_neq {a b : Int} (h : a ≠ b) : Value.bool (a == b) = .bool false := by rw [beq_eq_false_iff_ne.2 h]
theorem v_bne {a b : Int} (h : a ≠ b) : Value.bool (a != b) = .bool true := by rw [bne_iff_ne.2 h]
theorem v_nbne {a b : Int} (h : a = b) : Value.bool (a != b) = .bool false := by rw [h, bne_self_eq_false]
theorem v_ift {k : IntKind} {p : Prop} [Decidable p] {a b : Int} (h : p) : Value.int k (if p then a else b) = .int k a := by rw [if_pos h]
theorem v_iff {k : IntKind} {p : Prop} [Decidable p] {a b : Int} (h : ¬ p) : Value.int k (if p then a else b) = .int k b := by rw [if_neg h]

/-- Is it a value that is the same as itself at once? -/
def eqAtom : Value → Bool
  | .bool _ | .int .. | .string _ | .pointer _ | .slice .. | .nilIface | .nilFunc => true
  | _ => false
theorem eqV_atom (d : Nat) (v : Value) (h : eqAtom v = true) : eqV d v v = true := by
  cases v <;> first | (simp [eqAtom] at h; done) | simp [eqV]
def eqAtom1 : Value → Bool
  | .agg c => c.toList.all eqAtom
  | v => eqAtom v
theorem eqVs_atoms (d : Nat) : ∀ l : List Value, l.all eqAtom = true → eqVs (eqV d) l l = true
  | [], _ => rfl
  | v :: l, h => by
    simp only [List.all_cons, Bool.and_eq_true] at h
    simp only [eqVs, eqV_atom d v h.1, eqVs_atoms d l h.2, Bool.and_self]
theorem eqV_self (v : Value) (h : eqAtom1 v = true) : eqV 4 v v = true := by
  cases v with
  | agg c => simp only [eqV]; exact eqVs_atoms 3 _ h
  | _ => exact eqV_atom 4 _ h
/-- Parts of code. -/
def ACode.l : ACode → ACode
  | .seq a _ | .cond _ a _ => a
  | c => c
def ACode.r : ACode → ACode
  | .seq _ b | .cond _ _ b => b
  | c => c
def ACode.i : ACode → ACode
  | .block _ b | .loop b | .scope b => b
  | c => c

theorem LF.toldv {T : AProg} {gl n : Nat} {H : AHeap} (hT : SProg gl T) {f : FuncId} {vs : List Value} {N : Nat} {hs : List Hint} {ps : List Prop} {v : Value} (h : (oFn T gl N f vs H (hs, [])).map (fun x => (x.1, x.2.2)) = some (v, [], ps)) (hp : AllP ps) :
    LF T gl n f vs H fun w _ => w = v := by
  rw [Option.map_eq_some_iff] at h
  obtain ⟨⟨v1, H1, hs1, ps1⟩, h1, h2⟩ := h
  simp only [Prod.mk.injEq] at h2
  obtain ⟨rfl, rfl, rfl⟩ := h2
  exact LF.told hT h1 hp rfl

/-- A call that reads nothing, told. -/
theorem EvE.told {T : AProg} {gl : Nat} (hT : SProg gl T) {f : FuncId} {vs : List Value} {N : Nat} {hs : List Hint} {ps : List Prop} {v : Value} (hc : (closedIn 4 v && vs.all (closedIn 4)) = true)
    (h : (oFn T gl N f vs ⟨.nil, gl, gl⟩ (hs, [])).map (fun x => (x.1, x.2.2)) = some (v, [], ps)) (hp : AllP ps) : EvE T gl f vs fun w => w = v := by
  have hc' := hc
  rw [Bool.and_eq_true] at hc'
  obtain ⟨k, u, ν, K', w, H', h1, h2, h3, rfl⟩ := LF.toldv (n := 0) hT h hp _ _ vs (HR.bare gl) (fun s i j hj => by
    split at hj
    · rename_i hx; cases hx.1
    · cases hj) (lsv_closed _ 4 _ hc'.2)
  have e := closedIn_seq 4 _ _ hc'.1 h3
  subst e
  exact ⟨k, _, K', h1, hc, rfl⟩

theorem SV.of_lsv {μ : Mp} {l l' : List Value} (h : LSV μ l l') : SV μ (.agg l.toArray) (.agg l'.toArray) := .agg _ _ h.asv.1 h.asv.2
theorem LSV.int {μ : Mp} {k : IntKind} {n : Int} {l l' : List Value} (h : LSV μ l l') : LSV μ (.int k n :: l) (.int k n :: l') := .cons (.int k n) h

/-- A quiet call over one row of closed values. -/
theorem ReadQ.one {T : AProg} {f : FuncId} {o : AObj} (ho : o.cells.all (closedIn 4) = true) {v : Value} (hv : closedIn 4 v = true) {vs0 vs : List Value}
    (h : LF T 1 0 f vs0 (mkH [(1, o)] 2 2) fun w _ => w = v) {u : Nat} (hargs : ∀ μ : Mp, μ none 1 = some u → LSV μ vs0 vs) : ReadQ T f vs [(u, some o)] v := by
  intro H hH
  have hu : H.get u = some o := hH (u, some o) List.mem_cons_self
  have hlt := AHeap.get_lt hu
  let μ : Mp := fun s i => if s = none ∧ i < 2 then (if i = 0 then some 0 else some u) else none
  have hr : HR 1 μ (mkH [(1, o)] 2 2) H.froz := by
    refine ⟨?_, ?_, ?_, ?_, ?_, Nat.le_refl _⟩
    · intro i q hq
      have := mkH_get hq
      simp only [List.mem_cons, List.not_mem_nil, or_false, Prod.mk.injEq] at this
      obtain ⟨rfl, rfl⟩ := this
      refine ⟨u, q, rfl, ?_, rfl, lsv_closed _ 4 _ ho, fun hl => ?_⟩
      · rw [AHeap.get_froz]; exact hu
      · rw [mkH_lo] at hl; omega
    · intro s i j hj
      simp only [μ] at hj
      split at hj
      · split at hj
        · cases hj; simp; omega
        · cases hj; simpa using hlt
      · cases hj
    · intro i j hj
      simp only [μ] at hj
      split at hj
      · rename_i hx; rw [mkH_next]; exact hx.2
      · cases hj
    · intro i i' q q' j hq _ _ _ hl
      have := AHeap.get_lt hq
      rw [mkH_next] at this
      rw [mkH_lo] at hl
      omega
    · intro g hg
      obtain rfl : g = 0 := by omega
      rfl
  obtain ⟨k, w, ν, K', x, H', h1, h2, h3, rfl⟩ := h μ H.froz _ hr (fun s i j hj => by
    simp only [μ] at hj
    split at hj
    · rename_i hx; cases hx.1
    · cases hj) (hargs μ rfl)
  have e := closedIn_seq 4 _ _ hv h3
  subst e
  exact ⟨k, _, K', h1, hv, rfl⟩

def lookF (ids : List Nat) (r : Option (Value × AHeap × OS)) : Option (Value × List (Nat × Option AObj) × Nat × Nat × OS) := r.map fun x => (x.1, ids.map fun i => (i, x.2.1.get i), x.2.1.next, x.2.1.lo, x.2.2)
end Go.Ab

/- Masks, shifts, capacities; calls over some objects. -/
namespace Go.Ab
open Go

theorem band_nat (w k : Nat) (hk : k ≤ w) (a : Int) : ((BitVec.ofInt w a &&& BitVec.ofInt w (2 ^ k - 1)).toNat : Int) = a % 2 ^ k := by
  have h1 : (BitVec.ofInt w ((2 : Int) ^ k - 1)).toNat = 2 ^ k - 1 := by
    rw [BitVec.toNat_ofInt]
    have hp : (1 : Nat) ≤ 2 ^ k := Nat.one_le_two_pow
    have hle : (2 : Nat) ^ k ≤ 2 ^ w := Nat.pow_le_pow_right (by decide) hk
    have e : ((2 : Int) ^ k - 1) % ((2 ^ w : Nat) : Int) = ((2 ^ k - 1 : Nat) : Int) := by
      rw [show ((2 : Int) ^ k - 1) = ((2 ^ k - 1 : Nat) : Int) by rw [Int.ofNat_sub hp]; simp]
      rw [← Int.natCast_emod, Nat.mod_eq_of_lt (by omega)]
    rw [e]; rfl
  rw [BitVec.toNat_and, h1, Nat.and_two_pow_sub_one_eq_mod, BitVec.toNat_ofInt]
  have hw : (0 : Int) < ((2 ^ w : Nat) : Int) := by have := Nat.two_pow_pos w; omega
  have hnn : 0 ≤ a % ((2 ^ w : Nat) : Int) := Int.emod_nonneg _ (by omega)
  rw [Int.natCast_emod, Int.toNat_of_nonneg hnn]
  have hd : (((2 ^ k : Nat) : Int)) ∣ ((2 ^ w : Nat) : Int) := by
    exact_mod_cast Nat.pow_dvd_pow 2 hk
  rw [Int.emod_emod_of_dvd _ hd]
  simp

theorem v_band {kd : IntKind} {a m c : Int} (k : Nat) (hk : k ≤ kd.bits) (hm : m = 2 ^ k - 1) (hc : c = 2 ^ k) (h1 : kd.wrap (a % c) = a % c) :
    Value.int kd (kd.wrap (BitVec.ofInt kd.bits a &&& BitVec.ofInt kd.bits m).toNat) = .int kd (a % c) := by
  subst hm hc
  rw [band_nat _ _ hk, h1]

theorem v_shr {kd : IntKind} {a b c : Int} (h : (2 : Int) ^ (min b.toNat kd.bits) = c) (hc : 0 < c) : Value.int kd (a.fdiv (2 ^ (min b.toNat kd.bits))) = .int kd (a / c) := by
  rw [h, Int.fdiv_eq_ediv_of_nonneg _ (by omega)]

theorem v_shr1 {kd : IntKind} {a b : Int} (h : (2 : Int) ^ (min b.toNat kd.bits) = 1) : Value.int kd (a.fdiv (2 ^ (min b.toNat kd.bits))) = .int kd a := by
  rw [h, Int.fdiv_one]

/-- The capacities that are made. -/
def IsCap (c : Int) : Prop := c = 2 ∨ c = 4 ∨ c = 8 ∨ c = 16 ∨ c = 32 ∨ c = 64

theorem tmod_b {x m c : Int} (h : 0 ≤ x) (hm : 0 < m) (hc : c = m - 1) : 0 ≤ Int.tmod x m ∧ Int.tmod x m ≤ c := by
  have h1 := Int.tmod_nonneg m h
  have h2 := Int.tmod_lt_of_pos x hm
  omega
theorem mod_cap {c : Int} (h : IsCap c) (p : Int) : 0 ≤ p % c ∧ p % c < c := by
  rcases h with rfl | rfl | rfl | rfl | rfl | rfl <;> omega
theorem div_cap {c p : Int} (h : IsCap c) (hp : 0 ≤ p) : 0 ≤ p / c ∧ p / c ≤ p := by
  rcases h with rfl | rfl | rfl | rfl | rfl | rfl <;> omega

theorem ahead_b_u32 {c : Int} (h : IsCap c) (x : Int) : 0 ≤ IntKind.u32.wrap x / c ∧ IntKind.u32.wrap x / c ≤ 4294967295 := by
  have := wb_u32 x
  have := div_cap h this.1
  omega
theorem ahead_b_u64 {c : Int} (h : IsCap c) (x : Int) : 0 ≤ IntKind.u64.wrap x / c ∧ IntKind.u64.wrap x / c ≤ 18446744073709551615 := by
  have := wb_u64 x
  have := div_cap h this.1
  omega
theorem mul_cap {a c : Int} (h : IsCap c) (h0 : 0 ≤ a) (h1 : a ≤ 6) : 0 ≤ a * c ∧ a * c ≤ 384 := by
  rcases h with rfl | rfl | rfl | rfl | rfl | rfl <;> omega

def idsB (l : List (Nat × AObj)) (n : Nat) : Bool := (l.all fun p => decide (1 ≤ p.1) && decide (p.1 < n)) && ((List.range n).all fun i => i == 0 || l.any fun p => p.1 == i) && decide (2 ≤ n)

theorem ReadQ.ofL {T : AProg} {f : FuncId} {l0 : List (Nat × AObj)} {n0 : Nat} (hn : idsB l0 n0 = true) (m : Nat → Nat) {l : List (Nat × Option AObj)} {v : Value} (hv : closedIn 4 v = true) {vs0 vs : List Value}
    (h : LF T 1 0 f vs0 (mkH l0 n0 n0) fun w _ => w = v)
    (hobj : AllO (fun i o => ∃ p, (m i, some p) ∈ l ∧ p.esz = o.esz ∧ ∀ μ : Mp, (∀ k, 1 ≤ k → k < n0 → μ none k = some (m k)) → LSV μ o.cells p.cells) l0)
    (hargs : ∀ μ : Mp, (∀ k, 1 ≤ k → k < n0 → μ none k = some (m k)) → LSV μ vs0 vs) : ReadQ T f vs l v := by
  simp only [idsB, Bool.and_eq_true, List.all_eq_true, decide_eq_true_eq, Bool.or_eq_true, beq_iff_eq, List.any_eq_true] at hn
  obtain ⟨⟨h1, h2⟩, h3⟩ := hn
  intro H hH
  have hlt : ∀ k, 1 ≤ k → k < n0 → m k < H.next := by
    intro k hk1 hk2
    rcases h2 k (List.mem_range.2 hk2) with e | ⟨⟨i, o⟩, hm, e⟩
    · omega
    · simp only at e; subst e
      obtain ⟨p, hp, _⟩ := AllO.mem hobj hm
      exact AHeap.get_lt (hH _ hp)
  let μ : Mp := fun s i => if s = none ∧ i < n0 then (if i = 0 then some 0 else some (m i)) else none
  have hμ : ∀ k, 1 ≤ k → k < n0 → μ none k = some (m k) := by
    intro k hk1 hk2
    simp only [μ, true_and]
    rw [if_pos hk2, if_neg (by omega)]
  have hr : HR 1 μ (mkH l0 n0 n0) H.froz := by
    refine ⟨?_, ?_, ?_, ?_, ?_, Nat.le_refl _⟩
    · intro i o ho
      have hm := mkH_get ho
      obtain ⟨p, hp, he, hc⟩ := AllO.mem hobj hm
      have hi := h1 _ hm
      refine ⟨m i, p, hμ i hi.1 hi.2, ?_, he, hc μ hμ, fun hl => ?_⟩
      · rw [AHeap.get_froz]; exact hH _ hp
      · rw [mkH_lo] at hl
        have := hi.2
        simp only at this
        omega
    · intro s i j hj
      simp only [μ] at hj
      split at hj
      · rename_i hx
        split at hj
        · cases hj
          have := hlt 1 (by omega) (by omega)
          simp; omega
        · cases hj
          have := hlt i (by omega) hx.2
          simpa using this
      · cases hj
    · intro i j hj
      simp only [μ] at hj
      split at hj
      · rename_i hx; rw [mkH_next]; exact hx.2
      · cases hj
    · intro i i' q q' j hq _ _ _ hl
      have := AHeap.get_lt hq
      rw [mkH_next] at this
      rw [mkH_lo] at hl
      omega
    · intro g hg
      obtain rfl : g = 0 := by omega
      simp only [μ, true_and]
      rw [if_pos (by omega)]; rfl
  obtain ⟨k, w, ν, K', x, H', e1, e2, e3, rfl⟩ := h μ H.froz _ hr (fun s i j hj => by
    simp only [μ] at hj
    split at hj
    · rename_i hx; cases hx.1
    · cases hj) (hargs μ hμ)
  have e := closedIn_seq 4 _ _ hv e3
  subst e
  exact ⟨k, _, K', e1, hv, rfl⟩
end Go.Ab

/- Code in a row. -/
namespace Go.Ab
open Go

/-- Codes, one behind the other. -/
def cat : List ACode → ACode
  | [] => .skip
  | c :: r => .seq c (cat r)

def ACode.flat : ACode → List ACode
  | .seq a b => a.flat ++ b.flat
  | .skip => []
  | c => [c]

section
variable {call : ACall} {meth : TypeId → String → Option FuncId} {k : Nat}

theorem ev_skip_seq (c : ACode) (σ : Env) (H : AHeap) : evC call meth k (.seq .skip c) none σ H = evC call meth k c none σ H := by simp only [evC]

theorem ev_assoc (a b c : ACode) (σ : Env) (H : AHeap) : evC call meth k (.seq (.seq a b) c) none σ H = evC call meth k (.seq a (.seq b c)) none σ H := by
  simp only [evC]
  split
  · rename_i σ1 H1 h1
    split at h1
    · rename_i σ2 H2 h2
      simp only [h1]
    · rename_i hne
      exact absurd h1 (hne σ1 H1)
  · rename_i hne
    split
    · rename_i σ2 H2 h2
      rw [h2] at hne
      simp only at hne
      split
      · rename_i σ3 H3 h3; exact absurd h3 (hne σ3 H3)
      · rfl
    · rfl

theorem ev_seq_congr {a b b' : ACode} (h : ∀ σ H, evC call meth k b none σ H = evC call meth k b' none σ H) (σ : Env) (H : AHeap) : evC call meth k (.seq a b) none σ H = evC call meth k (.seq a b') none σ H := by
  simp only [evC]
  split
  · exact h _ _
  · rfl

theorem ev_cat_app : ∀ (l m : List ACode) (σ : Env) (H : AHeap), evC call meth k (cat (l ++ m)) none σ H = evC call meth k (.seq (cat l) (cat m)) none σ H
  | [], m, σ, H => by rw [List.nil_append, cat, ev_skip_seq]
  | c :: l, m, σ, H => by
    rw [List.cons_append, cat, cat, ev_assoc]
    exact ev_seq_congr (ev_cat_app l m) σ H

theorem ev_seq_skip (c : ACode) (σ : Env) (H : AHeap) : evC call meth k (.seq c .skip) none σ H = evC call meth k c none σ H := by
  simp only [evC]
  split
  · rename_i h; exact h.symm
  · rfl

theorem ev_flat : ∀ (c : ACode) (σ : Env) (H : AHeap), evC call meth k (cat c.flat) none σ H = evC call meth k c none σ H
  | .seq a b, σ, H => by
    rw [ACode.flat, ev_cat_app, ev_seq_congr (fun σ H => ev_flat b σ H)]
    simp only [evC, ev_flat a]
  | .skip, σ, H => rfl
  | .reg .., σ, H => ev_seq_skip _ σ H
  | .regd .., σ, H => ev_seq_skip _ σ H
  | .cond .., σ, H => ev_seq_skip _ σ H
  | .block .., σ, H => ev_seq_skip _ σ H
  | .loop .., σ, H => ev_seq_skip _ σ H
  | .exit .., σ, H => ev_seq_skip _ σ H
  | .scope .., σ, H => ev_seq_skip _ σ H
  | .label .., σ, H => ev_seq_skip _ σ H
  | .goto .., σ, H => ev_seq_skip _ σ H
  | .ret, σ, H => ev_seq_skip _ σ H
end

section
variable {T : AProg} {gl n : Nat} {σ : Env} {H : AHeap} {Q : AEx → Env → AHeap → Prop}

theorem LC.congr {a b : ACode} (h : ∀ k σ H, evC (evFn T k) T.meth k a none σ H = evC (evFn T k) T.meth k b none σ H) (hb : LC T gl n b σ H Q) : LC T gl n a σ H Q := by
  intro μ K τ hr hi he
  obtain ⟨k, ex, ν, τ', K', σ', H', h1, h2⟩ := hb μ K τ hr hi he
  exact ⟨k, ex, ν, τ', K', σ', H', by simp only [h]; exact h1, h2⟩

theorem LC.flat {c : ACode} (h : LC T gl n (cat c.flat) σ H Q) : LC T gl n c σ H Q := LC.congr (fun _ σ H => (ev_flat c σ H).symm) h

/-- The first ones, then the others. -/
theorem LC.split {l : List ACode} (m : Nat) (h : LC T gl n (cat (l.take m)) σ H (AEx.then (fun σ' H' => LC T gl n (cat (l.drop m)) σ' H' Q) Q)) : LC T gl n (cat l) σ H Q := by
  refine LC.congr (b := .seq (cat (l.take m)) (cat (l.drop m))) (fun k σ H => ?_) (LC.seq h)
  rw [← ev_cat_app, List.take_append_drop]

theorem LC.one {c : ACode} (h : LC T gl n c σ H Q) : LC T gl n (cat [c]) σ H Q := LC.congr (fun _ σ H => ev_seq_skip c σ H) h

/-- A told run of a function, and its value and objects in one's own numbers. -/
theorem LF.run (hT : SProg gl T) {f : FuncId} {vs : List Value} {N : Nat} {hs : List Hint} {Q : Value → AHeap → Prop} (ids : List Nat) {ps : List Prop} {v : Value} {raw : List (Nat × Option AObj)} {nx lo : Nat}
    (h : lookF ids (oFn T gl N f vs H (hs, [])) = some (v, raw, nx, lo, [], ps)) (hp : AllP ps)
    (hq : ∀ H' : AHeap, (∀ p ∈ raw, H'.get p.1 = p.2) → H'.lo = lo → H'.next = nx → Ren gl n [(0, v)] H' fun σ' L => ∃ w, σ' = [(0, w)] ∧ Q w L) : LF T gl n f vs H Q := by
  unfold lookF at h
  rw [Option.map_eq_some_iff] at h
  obtain ⟨⟨v1, H1, hs1, ps1⟩, h1, h2⟩ := h
  simp only [Prod.mk.injEq] at h2
  obtain ⟨rfl, rfl, rfl, rfl, rfl, rfl⟩ := h2
  intro μ K us hr hi hl
  obtain ⟨k, u, ν, K', w, L, e1, e2, e3, rfl, rfl⟩ := LF.told (n := n) hT h1 hp (Q := fun w L => w = v1 ∧ L = H1) ⟨rfl, rfl⟩ μ K us hr hi hl
  obtain ⟨ξ, σ', L', g1, g2, x, rfl, g3⟩ := hq L (by
    intro p hp
    rw [List.mem_map] at hp
    obtain ⟨i, _, rfl⟩ := hp
    rfl) rfl rfl ν K' [(0, u)] e2.hr e2.hid (ER.cons e3 ER.nil)
  obtain ⟨y, hy, g4⟩ := g2 0 x rfl
  cases hy
  exact ⟨k, u, ξ, K', x, L', e1, e2.trans g1, g4, g3⟩

/-- A value, a row without handles. -/
def NH (v : Value) : Prop := ∀ (μ ν : Mp), (∀ i, μ none i = ν none i) → ∀ u, SV μ v u → SV ν v u
def NHs (l : List Value) : Prop := ∀ (μ ν : Mp), (∀ i, μ none i = ν none i) → ∀ u, LSV μ l u → LSV ν l u
theorem NH.closed {v : Value} (h : closedIn 4 v = true) : NH v := fun μ ν _ u hu => by rw [closedIn_seq 4 _ _ h hu]; exact closedIn_sv ν 4 v h
theorem NH.wild : NH wild := fun μ ν _ u hu => by cases hu with | wild h => exact .wild h
theorem NH.ptr {i off : Nat} : NH (.pointer (some ⟨i, off, none⟩)) := fun μ ν hm u hu => by
  cases hu with | ptr hj => exact .ptr (by rw [← hm]; exact hj)
theorem NH.sl {i off n c : Nat} : NH (.slice (some ⟨i, off, none⟩) n c) := fun μ ν hm u hu => by
  cases hu with | sl _ _ hj => exact .sl _ _ (by rw [← hm]; exact hj)
theorem NHs.nil : NHs [] := fun μ ν _ u hu => by cases hu; exact .nil
theorem NHs.cons {v : Value} {l : List Value} (h : NH v) (h' : NHs l) : NHs (v :: l) := fun μ ν hm u hu => by
  cases hu with | cons a b => exact .cons (h μ ν hm _ a) (h' μ ν hm _ b)
theorem NHs.closed {l : List Value} (h : l.all (closedIn 4) = true) : NHs l := fun μ ν _ u hu => by rw [hu.eq_closed h]; exact lsv_closed ν 4 l h
theorem NH.agg {l : List Value} (h : NHs l) : NH (.agg l.toArray) := fun μ ν hm u hu => by
  cases hu with
  | agg _ c' h1 h2 =>
    have e : c' = c'.toList.toArray := by simp
    have g : LSV μ l c'.toList := by
      have := (ASV.lsv (μ := μ) (a := l.toArray) (b := c') ⟨h1, h2⟩)
      simpa using this
    rw [e]
    exact SV.of_lsv (h μ ν hm _ g)
theorem NH.tup {l : List Value} (h : NHs l) : NH (.tuple l.toArray) := fun μ ν hm u hu => by
  cases hu with
  | tuple _ c' h1 h2 =>
    have e : c' = c'.toList.toArray := by simp
    have g : LSV μ l c'.toList := by
      have := (ASV.lsv (μ := μ) (a := l.toArray) (b := c') ⟨h1, h2⟩)
      simpa using this
    rw [e]
    have := (h μ ν hm _ g).asv
    exact .tuple _ _ this.1 this.2

/-- From a call over objects without handles, a contract. -/
theorem LF.rcH {f : FuncId} {vs : List Value} {v : Value} {objs objs' : List (Nat × AObj)} {nx nx' lo : Nat} {H' : AHeap} (hv : NH v) (ha : NHs vs) (ho : AllO (fun _ o => NHs o.cells) objs) (ho' : AllO (fun _ o => NHs o.cells) objs') (hlo : nx ≤ nx')
    (h : LF T gl nx f vs (mkH objs nx lo) fun w L => w = v ∧ L = mkH objs' nx' lo)
    {H0 : AHeap} (e0 : H0.next = nx ∧ H0.lo = lo) (g0 : (List.range nx).map H0.get = (List.range nx).map (mkH objs nx lo).get) (e1 : H'.next = nx' ∧ H'.lo = lo) (g1 : (List.range nx').map H'.get = (List.range nx').map (mkH objs' nx' lo).get) :
    RC T gl f vs H0 v H' := by
  have same : ∀ (A B : AHeap) (m : Nat), A.next = m → B.next = m → (List.range m).map A.get = (List.range m).map B.get → ∀ i, A.get i = B.get i := by
    intro A B m hA hB hm i
    by_cases hi : i < m
    · have := congrArg (fun l => l[i]?) hm
      simpa [hi] using this
    · unfold AHeap.get; rw [if_neg (by omega), if_neg (by omega)]
  have s0 := same H0 (mkH objs nx lo) nx e0.1 (mkH_next _ _ _) g0
  have s1 := same H' (mkH objs' nx' lo) nx' e1.1 (mkH_next _ _ _) g1
  have rc : RC T gl f vs (mkH objs nx lo) v (mkH objs' nx' lo) :=
    LF.rc hv (fun μ ν hm i o hi => AllO.mem ho' (mkH_get hi) μ ν hm) ha (fun μ ν hm i o hi => AllO.mem ho (mkH_get hi) μ ν hm) (by rw [mkH_next, mkH_next]; exact hlo) (by rw [mkH_next]; exact h)
  intro μ K us hr hl
  have hr' : HR gl μ (mkH objs nx lo) K := ⟨fun i o hi => by
      have := hr.obj i o (by rw [s0]; exact hi)
      rw [e0.2] at this; rw [mkH_lo]; exact this, hr.bnd, fun i j hj => by rw [mkH_next, ← e0.1]; exact hr.bnl i j hj,
    fun i i' o o' j a b c d e => hr.inj i i' o o' j (by rw [s0]; exact a) (by rw [s0]; exact b) c d (by rw [e0.2]; rw [mkH_lo] at e; exact e), hr.glb, hr.klo⟩
  obtain ⟨k, u, ν, K', h1, h2, h3⟩ := rc μ K us hr' hl
  refine ⟨k, u, ν, K', h1, ⟨⟨fun i o hi => ?_, h2.hr.bnd, fun i j hj => ?_, fun i i' o o' j a b c d e => ?_, h2.hr.glb, h2.hr.klo⟩, h2.ext, ?_, h2.klo, ?_, h2.knext, fun j hj hn => ?_, fun i o j hl hi hj => ?_, h2.spot⟩, h3⟩
  · have := h2.hr.obj i o (by rw [← s1]; exact hi)
    rw [mkH_lo] at this; rw [e1.2]; exact this
  · have := h2.hr.bnl i j hj
    rw [mkH_next] at this; rw [e1.1]; exact this
  · exact h2.hr.inj i i' o o' j (by rw [← s1]; exact a) (by rw [← s1]; exact b) c d (by rw [mkH_lo]; rw [e1.2] at e; exact e)
  · rw [e1.2, e0.2]
  · rw [e1.1, e0.1]; exact hlo
  · exact h2.frame j hj fun i o hl hi => hn i o (by rw [e0.2]; rw [mkH_lo] at hl; exact hl) (by rw [s0]; exact hi)
  · rcases h2.own i o j (by rw [mkH_lo]; rw [e0.2] at hl; exact hl) (by rw [← s1]; exact hi) hj with h | ⟨i', o', a, b, c⟩
    · exact .inl h
    · exact .inr ⟨i', o', by rw [e0.2]; rw [mkH_lo] at a; exact a, by rw [s0]; exact b, c⟩
end

/-- Some codes lead from the one state to the other. -/
def Goes (T : AProg) (n : Nat) (l : List ACode) (σ : Env) (H : AHeap) (σ' : Env) (H' : AHeap) : Prop := LC T 1 n (cat l) σ H fun ex s h => ex = .norm ∧ s = σ' ∧ h = H'

theorem Goes.then {T : AProg} {n : Nat} {l m : List ACode} {σ σ' : Env} {H H' : AHeap} {Q : AEx → Env → AHeap → Prop} (h : Goes T n l σ H σ' H') (h' : LC T 1 n (cat m) σ' H' Q) : LC T 1 n (cat (l ++ m)) σ H Q := by
  refine LC.congr (b := .seq (cat l) (cat m)) (fun k σ H => ev_cat_app l m σ H) (LC.seq (LW.mono h ?_))
  rintro ex s g ⟨rfl, rfl, rfl⟩
  exact h'

theorem Goes.trans {T : AProg} {n : Nat} {l m : List ACode} {σ σ' σ'' : Env} {H H' H'' : AHeap} (h : Goes T n l σ H σ' H') (h' : Goes T n m σ' H' σ'' H'') : Goes T n (l ++ m) σ H σ'' H'' := h.then h'

/-- A told run, in one's own numbers. -/
theorem Goes.run {T : AProg} (hT : SProg 1 T) {n : Nat} {l : List ACode} (hc : codeOk 1 (cat l) = true) {σ σ1 σ' : Env} {objs objs' : List (Nat × AObj)} {nx nx' lo : Nat} {N : Nat} {hs : List Hint} (ids : List Nat) {ps : List Prop} {raw : List (Nat × Option AObj)}
    (h : look ids (oC T 1 (oFn T 1 N) N (cat l) none σ (mkH objs nx lo) (hs, [])) = some (.norm, σ1, raw, lo, [], ps)) (hp : AllP ps) (rho : List (Nat × Nat)) (hok : rhoOk rho nx' lo n 1 = true)
    (hq : ∀ μ : Mp, CE (rhoF rho) μ σ' σ1 ∧ AllO (CO rho μ raw) objs') : Goes T n l σ (mkH objs nx lo) σ' (mkH objs' nx' lo) := by
  refine LC.run hT hc ids h hp fun H' hraw hlo => ?_
  subst hlo
  refine Ren.canon hraw rho hok fun μ K hr hi => ⟨σ', objs', ⟨rfl, rfl, rfl⟩, (hq μ).1, (hq μ).2⟩

/-- A told run that ends a function. -/
theorem LC.runs {T : AProg} (hT : SProg 1 T) {n : Nat} {l : List ACode} (hc : codeOk 1 (cat l) = true) {σ : Env} {objs : List (Nat × AObj)} {nx lo : Nat} {N : Nat} {hs : List Hint} {ps : List Prop} {v : Value} {ex : AEx} {res : List ARv} {Q : AEx → Env → AHeap → Prop}
    (h : (oC T 1 (oFn T 1 N) N (cat l) none σ (mkH objs nx lo) (hs, [])).map (fun x => (x.1, (evRes x.2.1 x.2.2.1 res).map asResult, x.2.2.2)) = some (ex, some v, [], ps)) (hp : AllP ps)
    (hq : ∀ σ' H', (evRes σ' H' res).map asResult = some v → Q ex σ' H') : LC T 1 n (cat l) σ (mkH objs nx lo) Q := by
  rw [Option.map_eq_some_iff] at h
  obtain ⟨⟨ex1, σ1, H1, hs1, ps1⟩, h1, h2⟩ := h
  simp only [Prod.mk.injEq] at h2
  obtain ⟨rfl, h3, rfl, rfl⟩ := h2
  exact LC.told hT hc h1 hp (Ren.here (hq _ _ h3))

def GoesX (T : AProg) (n : Nat) (l : List ACode) (σ : Env) (H : AHeap) (e : AEx) (σ' : Env) (H' : AHeap) : Prop := LC T 1 n (cat l) σ H fun ex s h => ex = e ∧ s = σ' ∧ h = H'

theorem GoesX.run {T : AProg} (hT : SProg 1 T) {n : Nat} {l : List ACode} (hc : codeOk 1 (cat l) = true) {σ σ1 σ' : Env} {objs objs' : List (Nat × AObj)} {nx nx' lo : Nat} {N : Nat} {hs : List Hint} (ids : List Nat) {ps : List Prop} {raw : List (Nat × Option AObj)} {e : AEx}
    (h : look ids (oC T 1 (oFn T 1 N) N (cat l) none σ (mkH objs nx lo) (hs, [])) = some (e, σ1, raw, lo, [], ps)) (hp : AllP ps) (rho : List (Nat × Nat)) (hok : rhoOk rho nx' lo n 1 = true)
    (hq : ∀ μ : Mp, CE (rhoF rho) μ σ' σ1 ∧ AllO (CO rho μ raw) objs') : GoesX T n l σ (mkH objs nx lo) e σ' (mkH objs' nx' lo) := by
  refine LC.run hT hc ids h hp fun H' hraw hlo => ?_
  subst hlo
  refine Ren.canon hraw rho hok fun μ K hr hi => ⟨σ', objs', ⟨rfl, rfl, rfl⟩, (hq μ).1, (hq μ).2⟩

/-- A loop that goes so many rounds. -/
theorem Goes.loop {T : AProg} {n id : Nat} {b : ACode} (S : Nat → Env × AHeap) (N : Nat) {σ' : Env} {H' : AHeap} (hs : ∀ i, i < N → Goes T n b.flat (S i).1 (S i).2 (S (i + 1)).1 (S (i + 1)).2)
    (he : GoesX T n b.flat (S N).1 (S N).2 (.exit id) σ' H') : Goes T n [.block id (.loop b)] (S 0).1 (S 0).2 σ' H' := by
  refine LC.one (LC.block (LC.loop (fun m σ H => ∃ i, i + m = N ∧ σ = (S i).1 ∧ H = (S i).2) N ⟨0, by omega, rfl, rfl⟩ ?_))
  rintro m σ H ⟨i, hi, rfl, rfl⟩
  rcases Nat.eq_zero_or_pos m with hm | hm
  · obtain rfl : i = N := by omega
    refine LC.flat (LW.mono he ?_)
    rintro ex s h ⟨rfl, rfl, rfl⟩
    simp only [AEx.then, AEx.inBlock, if_true]
    exact ⟨trivial, trivial, trivial⟩
  · refine LC.flat (LW.mono (hs i (by omega)) ?_)
    rintro ex s h ⟨rfl, rfl, rfl⟩
    exact ⟨m - 1, by omega, i + 1, by omega, rfl, rfl⟩

/-- A call whose code leads to an end. -/
theorem RC.of_goes {T : AProg} {f : FuncId} {fn : AFn} {vs : List Value} {v : Value} {objs objs' : List (Nat × AObj)} {nx nx' lo : Nat} {σ' : Env} {H1 : AHeap} (hp : T.prim f = none) (hf : T.fn f = some fn) (hn : vs.length = fn.nargs)
    (hv : NH v) (ha : NHs vs) (ho : AllO (fun _ o => NHs o.cells) objs) (ho' : AllO (fun _ o => NHs o.cells) objs') (hlo : nx ≤ nx')
    (h : GoesX T nx fn.body.flat (argEnv 0 vs) (mkH objs nx lo) .ret σ' H1) (hr : (evRes σ' H1 fn.res).map asResult = some v) (h1 : H1 = mkH objs' nx' lo) : RC T 1 f vs (mkH objs nx lo) v (mkH objs' nx' lo) := by
  subst h1
  refine LF.rcH hv ha ho ho' hlo (LF.fn hp hf hn (LC.flat (LW.mono h ?_))) ⟨mkH_next _ _ _, mkH_lo _ _ _⟩ rfl ⟨mkH_next _ _ _, mkH_lo _ _ _⟩ rfl
  rintro ex s g ⟨rfl, rfl, rfl⟩
  rw [Option.map_eq_some_iff] at hr
  obtain ⟨us, h1, h2⟩ := hr
  exact ⟨rfl, us, h1, h2, rfl⟩

theorem Goes.thenX {T : AProg} {n : Nat} {l m : List ACode} {σ σ' σ'' : Env} {H H' H'' : AHeap} {e : AEx} (h : Goes T n l σ H σ' H') (h' : GoesX T n m σ' H' e σ'' H'') : GoesX T n (l ++ m) σ H e σ'' H'' := h.then h'

theorem drop_zero_ints (k : IntKind) (l : List Int) (x : Int) : (l.map (Value.int k)).drop 0 ++ [Value.int k x] = (l ++ [x]).map (Value.int k) := by simp
theorem range_succ_map (f : Nat → Int) (i : Nat) : (List.range i).map f ++ [f i] = (List.range (i + 1)).map f := by rw [List.range_succ, List.map_append]; rfl

/-- A function that comes to true. -/
def RetTrue (fn : AFn) : AEx → Env → AHeap → Prop := fun ex σ' H' => (match ex with | .norm | .ret => true | _ => false) = true ∧ ∃ us, evRes σ' H' fn.res = some us ∧ asResult us = .bool true

theorem RetTrue.of {fn : AFn} {σ : Env} {H : AHeap} (h : (evRes σ H fn.res).map asResult = some (.bool true)) : RetTrue fn .ret σ H := by
  rw [Option.map_eq_some_iff] at h
  obtain ⟨us, h1, h2⟩ := h
  exact ⟨rfl, us, h1, h2⟩

section
variable {T : AProg} {gl n : Nat} {σ : Env} {H : AHeap} {Q : AEx → Env → AHeap → Prop}
theorem LC.first {l : List ACode} (m : Nat) (h : LC T gl n (cat (l.take m ++ l.drop m)) σ H Q) : LC T gl n (cat l) σ H Q := by
  rw [List.take_append_drop] at h; exact h
theorem LC.cut {l : List ACode} (a b : Nat) (h : LC T gl n (cat ((l.drop a).take b ++ l.drop (a + b))) σ H Q) : LC T gl n (cat (l.drop a)) σ H Q := by
  rw [← List.drop_drop, List.take_append_drop] at h; exact h
theorem LF.law {f : FuncId} {fn : AFn} {vs : List Value} (hp : T.prim f = none) (hf : T.fn f = some fn) (hn : vs.length = fn.nargs)
    (h : LC T gl n (cat fn.body.flat) (argEnv 0 vs) H (RetTrue fn)) : LF T gl n f vs H fun v _ => v = .bool true := by
  refine LF.fn hp hf hn (LC.flat (LW.mono h ?_))
  rintro ex s g ⟨h1, us, h2, h3⟩
  exact ⟨h1, us, h2, h3⟩
end

/-- From a heap of one's own choice to the heap that is there. -/
theorem LF.ev {T : AProg} {f : FuncId} {vs us : List Value} {H K : AHeap} {v : Value} (hv : closedIn 4 v = true) (h : LF T 1 1 f vs H fun w _ => w = v) {μ : Mp} (hr : HR 1 μ H K) (hi : Hid μ) (hl : LSV μ vs us) : ∃ k K', evFn T k f us K = some (v, K') := by
  obtain ⟨k, u, ν, K', w, H', h1, h2, h3, rfl⟩ := h μ K us hr hi hl
  have e := closedIn_seq 4 _ _ hv h3
  subst e
  exact ⟨k, K', h1⟩

/-- The heap that holds the library's table, or more, holds the empty one. -/
theorem HR.empty {K : AHeap} (hk : 1 ≤ K.next) (hlo : K.lo ≤ K.next) : HR 1 (fun s i => if s = none ∧ i < 1 then some i else none) (mkH [] 1 1) K where
  obj i o ho := by have := mkH_get ho; cases this
  bnd s i j hj := by
    split at hj
    · rename_i h; cases hj; omega
    · cases hj
  bnl i j hj := by
    split at hj
    · rename_i h; rw [mkH_next]; exact h.2
    · cases hj
  inj i i' o o' j ho := by have := mkH_get ho; cases this
  glb g hg := by rw [if_pos ⟨rfl, hg⟩]
  klo := hlo
end Go.Ab

/- What cells have at first; rows. -/
namespace Go.Ab
open Go

def firstM (k : IntKind) (cap slot s : Int) : Int := k.wrap (s + (slot - s) % cap)
def aheadM (k : IntKind) (cap slot s : Int) : Int := k.wrap (k.wrap (s + (slot - s) % cap) - cap) / cap
def cell1 (s _cell : Int) : Int := s
def cell2 (k : IntKind) (v cap mk s cell : Int) : Int := if cell ≥ mk then (if v = 4 then firstM k cap (cell - mk) s else aheadM k cap (cell - mk) s) else s
def cell5 (k : IntKind) (cap tk sv mk s cell : Int) : Int := if cell = tk then 0 else if cell = sv then 0 else if cell ≥ mk then aheadM k cap (cell - mk) s else s

theorem rep_one (z : Value) (n : Nat) : (repeatCells #[z] (n * 1)).toList = List.replicate n z := by
  unfold repeatCells
  rw [Array.toList_map, Array.toList_range, Nat.mul_one]
  apply List.ext_getElem
  · simp
  · intro i h1 h2
    simp [Nat.mod_one]
theorem closed_rep (z : Value) (h : closedIn 4 z = true) (n : Nat) : (List.replicate n z).all (closedIn 4) = true := by
  rw [List.all_eq_true]
  intro v hv
  rw [List.eq_of_mem_replicate hv]; exact h
theorem ap_ints {k : IntKind} {l : List Int} {x : Int} {cs : List Value} (h : cs = (l ++ [x]).map (Value.int k)) : (l.map (Value.int k)).drop 0 ++ [Value.int k x] = cs := by rw [h]; simp
theorem len_ints (k : IntKind) (l : List Int) : (l.map (Value.int k)).length = l.length := List.length_map ..

theorem ahead_r_u32 {cap : Int} (hc : IsCap cap) (slot s : Int) : 0 ≤ aheadM .u32 cap slot s ∧ aheadM .u32 cap slot s ≤ 4294967295 := ahead_b_u32 hc _
theorem cell1_b_u32 {s cell : Int} (hs : 0 ≤ s ∧ s ≤ 4294967295) : 0 ≤ cell1 s cell ∧ cell1 s cell ≤ 4294967295 := hs
theorem cell5_b_u32 {cap tk sv mk s cell : Int} (hc : IsCap cap) (hs : 0 ≤ s ∧ s ≤ 4294967295) : 0 ≤ cell5 .u32 cap tk sv mk s cell ∧ cell5 .u32 cap tk sv mk s cell ≤ 4294967295 := by
  unfold cell5
  split
  · omega
  · split
    · omega
    · split
      · exact ahead_r_u32 hc _ _
      · exact hs
theorem cell2_b_u32 {v cap mk s cell : Int} (hc : IsCap cap) (hs : 0 ≤ s ∧ s ≤ 4294967295) : 0 ≤ cell2 .u32 v cap mk s cell ∧ cell2 .u32 v cap mk s cell ≤ 4294967295 := by
  unfold cell2
  split
  · split
    · exact wb_u32 _
    · exact ahead_r_u32 hc _ _
  · exact hs

theorem ahead_r_u64 {cap : Int} (hc : IsCap cap) (slot s : Int) : 0 ≤ aheadM .u64 cap slot s ∧ aheadM .u64 cap slot s ≤ 18446744073709551615 := ahead_b_u64 hc _
theorem cell1_b_u64 {s cell : Int} (hs : 0 ≤ s ∧ s ≤ 18446744073709551615) : 0 ≤ cell1 s cell ∧ cell1 s cell ≤ 18446744073709551615 := hs
theorem cell5_b_u64 {cap tk sv mk s cell : Int} (hc : IsCap cap) (hs : 0 ≤ s ∧ s ≤ 18446744073709551615) : 0 ≤ cell5 .u64 cap tk sv mk s cell ∧ cell5 .u64 cap tk sv mk s cell ≤ 18446744073709551615 := by
  unfold cell5
  split
  · omega
  · split
    · omega
    · split
      · exact ahead_r_u64 hc _ _
      · exact hs
theorem cell2_b_u64 {v cap mk s cell : Int} (hc : IsCap cap) (hs : 0 ≤ s ∧ s ≤ 18446744073709551615) : 0 ≤ cell2 .u64 v cap mk s cell ∧ cell2 .u64 v cap mk s cell ≤ 18446744073709551615 := by
  unfold cell2
  split
  · split
    · exact wb_u64 _
    · exact ahead_r_u64 hc _ _
  · exact hs

end Go.Ab

/- Rows of which little is known, marks, and what writes do to them. -/
namespace Go.Ab
open Go

section
variable {ρ : Nat → Option Nat} {μ : Mp}
theorem CVs.wilds : ∀ {m : List Value} {n : Nat}, m.all one = true → m.length = n → CVs ρ μ (List.replicate n wild) m
  | [], n, _, h => by simp at h; subst h; exact .nil
  | v :: m, 0, _, h => by simp at h
  | v :: m, n + 1, h1, h2 => by
    simp only [List.all_cons, Bool.and_eq_true] at h1
    rw [List.replicate_succ]
    exact .cons (.wild h1.1) (CVs.wilds h1.2 (by simpa using h2))
theorem NHs.wilds (n : Nat) : NHs (List.replicate n wild) := by
  induction n with
  | zero => exact NHs.nil
  | succ n ih => rw [List.replicate_succ]; exact NHs.cons NH.wild ih
end
theorem ones_rep (n : Nat) : (List.replicate n wild).all one = true := by
  induction n with
  | zero => rfl
  | succ n ih => rw [List.replicate_succ, List.all_cons, ih]; rfl
theorem ones_app {a b : List Value} (h : a.all one = true) (h' : b.all one = true) : (a ++ b).all one = true := by rw [List.all_append, h, h']; rfl
theorem ones_ints (k : IntKind) : ∀ l : List Int, (l.map (Value.int k)).all one = true
  | [] => rfl
  | _ :: l => by simp only [List.map_cons, List.all_cons, ones_ints k l, Bool.and_true]; rfl

/-- An argument that nobody writes: no row, or the first one. -/
def ZRow (z : Value) : Prop := z = .slice none 0 0 ∨ ∃ n, z = .slice (some ⟨1, 0, none⟩) n n
theorem zcv {ρ : Nat → Option Nat} {μ : Mp} {z : Value} (h : ZRow z) (h1 : ρ 1 = some 1) : CV ρ μ z z := by
  rcases h with rfl | ⟨n, rfl⟩
  · exact .same rfl
  · exact .sl h1

theorem Goes.block {T : AProg} {n id : Nat} {b : ACode} {σ σ' : Env} {H H' : AHeap} (h : Goes T n b.flat σ H σ' H') : Goes T n [.block id b] σ H σ' H' := by
  refine LC.one (LC.block (LC.flat (LW.mono h ?_)))
  rintro ex s g ⟨rfl, rfl, rfl⟩
  exact ⟨rfl, rfl, rfl⟩

/-- The marks of the positions that are published ahead of one. -/
def marks (k : IntKind) (cap p : Int) : List Int := (List.range cap.toNat).map fun (s : Nat) => aheadM k cap (s : Int) p

theorem marks_len (k : IntKind) (cap p : Int) : (marks k cap p).length = cap.toNat := by simp [marks]
theorem marks_get {k : IntKind} {cap p : Int} {s : Int} (h0 : 0 ≤ s) (h1 : s < cap) : (marks k cap p)[s.toNat]? = some (aheadM k cap s p) := by
  unfold marks
  rw [List.getElem?_map, List.getElem?_range (by omega)]
  simp only [Option.map_some, Int.toNat_of_nonneg h0]

theorem marks_set_aux {k : IntKind} {cap p q s0 : Int} (hs0 : 0 ≤ s0) (hs1 : s0 < cap) (hne : ∀ s : Int, 0 ≤ s → s < cap → s ≠ s0 → aheadM k cap s q = aheadM k cap s p) :
    (marks k cap p).set s0.toNat (aheadM k cap s0 q) = marks k cap q := by
  apply List.ext_getElem?
  intro i
  rw [List.getElem?_set]
  by_cases hi : i < cap.toNat
  · have e := marks_get (k := k) (p := q) (s := (i : Int)) (by omega) (show (i : Int) < cap by omega)
    rw [Int.toNat_natCast] at e
    by_cases h : s0.toNat = i
    · rw [if_pos h, if_pos (by rw [marks_len]; omega), e]
      have : s0 = (i : Int) := by omega
      rw [this]
    · rw [if_neg h, e]
      have e2 := marks_get (k := k) (p := p) (s := (i : Int)) (by omega) (show (i : Int) < cap by omega)
      rw [Int.toNat_natCast] at e2
      rw [e2, hne i (by omega) (by omega) (by omega)]
  · have l1 : (marks k cap q)[i]? = none := List.getElem?_eq_none (by rw [marks_len]; omega)
    have l2 : (marks k cap p)[i]? = none := List.getElem?_eq_none (by rw [marks_len]; omega)
    rw [l1]
    split
    · rw [if_neg (by rw [marks_len]; omega)]
    · exact l2

theorem ahead_same {cap p s : Int} (hc : IsCap cap) (h0 : 0 ≤ s) (h1 : s < cap) (hs : s ≠ p % cap) : aheadM .u64 cap s (IntKind.u64.wrap (p + 1)) = aheadM .u64 cap s p := by
  unfold aheadM
  simp only [w_u64]
  rcases hc with rfl | rfl | rfl | rfl | rfl | rfl <;> omega
theorem ahead_new {cap p : Int} (hc : IsCap cap) (h0 : 0 ≤ p) (h1 : p ≤ 18446744073709551615) : aheadM .u64 cap (p % cap) (IntKind.u64.wrap (p + 1)) = p / cap := by
  unfold aheadM
  simp only [w_u64]
  rcases hc with rfl | rfl | rfl | rfl | rfl | rfl <;> omega
theorem marks_set {cap p : Int} (hc : IsCap cap) (h0 : 0 ≤ p) (h1 : p ≤ 18446744073709551615) : (marks .u64 cap p).set (p % cap).toNat (p / cap) = marks .u64 cap (IntKind.u64.wrap (p + 1)) := by
  have hb := mod_cap hc p
  rw [← ahead_new hc h0 h1]
  exact marks_set_aux hb.1 hb.2 fun s a b c => ahead_same hc a b c
/-- What is published is marked; what is next is not. -/
theorem ahead_is {cap p d : Int} (hc : IsCap cap) (h0 : 0 ≤ p) (h1 : p ≤ 18446744073709551615) (hd : 0 < d) (hd' : d ≤ cap) : aheadM .u64 cap ((IntKind.u64.wrap (p - d)) % cap) p = IntKind.u64.wrap (p - d) / cap := by
  unfold aheadM
  simp only [w_u64]
  rcases hc with rfl | rfl | rfl | rfl | rfl | rfl <;> omega
theorem ahead_not {cap p : Int} (hc : IsCap cap) (h0 : 0 ≤ p) (h1 : p ≤ 18446744073709551615) : aheadM .u64 cap (p % cap) p ≠ p / cap := by
  unfold aheadM
  simp only [w_u64]
  rcases hc with rfl | rfl | rfl | rfl | rfl | rfl <;> omega

/-- A board's cells at first, gates ahead. -/
theorem cells5_init (k : IntKind) {cap : Int} (hc : IsCap cap) (s : Int) (nr : Nat) :
    (List.range (cap + (nr + 3 : Nat)).toNat).map (fun j : Nat => cell5 k cap nr (nr + 1 : Nat) (nr + 3 : Nat) s (j : Int)) = List.replicate nr s ++ 0 :: 0 :: s :: marks k cap s := by
  have hcap : 0 ≤ cap := by rcases hc with rfl | rfl | rfl | rfl | rfl | rfl <;> decide
  apply List.ext_getElem?
  intro i
  rw [List.getElem?_map]
  by_cases hi : i < (cap + (nr + 3 : Nat)).toNat
  · rw [List.getElem?_range hi]
    simp only [Option.map_some]
    by_cases h1 : i < nr
    · rw [List.getElem?_append_left (by simpa using h1), List.getElem?_replicate, if_pos h1]
      congr 1
      unfold cell5
      rw [if_neg (by omega), if_neg (by omega), if_neg (by omega)]
    · rw [List.getElem?_append_right (by simpa using (by omega : nr ≤ i)), List.length_replicate]
      obtain ⟨d, rfl⟩ : ∃ d, i = nr + d := ⟨i - nr, by omega⟩
      rw [Nat.add_sub_cancel_left]
      match d with
      | 0 => unfold cell5; rw [if_pos (by omega)]; rfl
      | 1 => unfold cell5; rw [if_neg (by omega), if_pos (by omega)]; rfl
      | 2 => unfold cell5; rw [if_neg (by omega), if_neg (by omega), if_neg (by omega)]; rfl
      | d + 3 =>
        simp only [List.getElem?_cons_succ]
        have e := marks_get (k := k) (cap := cap) (p := s) (s := (d : Int)) (by omega) (by omega)
        rw [Int.toNat_natCast] at e
        rw [e]
        congr 1
        unfold cell5
        rw [if_neg (by omega), if_neg (by omega), if_pos (by omega)]
        congr 1
        omega
  · rw [List.getElem?_eq_none (by simpa using hi), List.getElem?_eq_none]
    · rfl
    · simp [marks_len]; omega

theorem CVs.of_eq {ρ : Nat → Option Nat} {μ : Mp} {c l : List Value} (h : l = c) (hc : l.all (closedIn 4) = true) : CVs ρ μ c l := h ▸ CVs.closed hc
theorem cells5_eq1 {cap : Int} (hc : IsCap cap) (s : Int) : ((List.range (cap + 4).toNat).map (fun j : Nat => cell5 .u64 cap 1 2 4 s (j : Int))).map (Value.int .u64) = (s :: 0 :: 0 :: s :: marks .u64 cap s).map (Value.int .u64) := by
  have := cells5_init .u64 hc s 1
  exact congrArg _ this
theorem cells5_eq2 {cap : Int} (hc : IsCap cap) (s : Int) : ((List.range (cap + 5).toNat).map (fun j : Nat => cell5 .u64 cap 2 3 5 s (j : Int))).map (Value.int .u64) = (s :: s :: 0 :: 0 :: s :: marks .u64 cap s).map (Value.int .u64) := by
  have := cells5_init .u64 hc s 2
  exact congrArg _ this
theorem cells5_eq3 {cap : Int} (hc : IsCap cap) (s : Int) : ((List.range (cap + 6).toNat).map (fun j : Nat => cell5 .u64 cap 3 4 6 s (j : Int))).map (Value.int .u64) = (s :: s :: s :: 0 :: 0 :: s :: marks .u64 cap s).map (Value.int .u64) := by
  have := cells5_init .u64 hc s 3
  exact congrArg _ this
end Go.Ab
