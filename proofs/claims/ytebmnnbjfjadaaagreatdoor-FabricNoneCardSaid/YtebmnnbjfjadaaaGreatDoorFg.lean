/- Soundness: made slices, cuts, append. -/
import Derived.Test.YtebmnnbjfjadaaaGreatDoorFf
namespace Go.Ab
open Go

section
variable {P : Program} {G : Glob} {ι : Inj} {H : AHeap} {w : World}

theorem zeroCells_eq (z : Array Value) (n : Nat) : Builtin.zeroCells z n = repeatCells z (n * z.size) := rfl

theorem wrap64_of {n : Int} (h0 : 0 ≤ n) (h1 : n < 2 ^ 63) : IntKind.i64.wrap n = n := by
  have e : IntKind.i64.wrap n = if n % 18446744073709551616 ≥ 9223372036854775808 then n % 18446744073709551616 - 18446744073709551616 else n % 18446744073709551616 := by
    simp [IntKind.wrap, IntKind.bits, IntKind.signed]
  rw [e]
  split <;> omega

theorem makeSlice_sound (hr : Rel G ι H w) {t e : TypeId} {ei : TypeInfo} {z : Value} (hu : P.underlying t = some (.slice e)) (he : P.info? e = some ei) (hz : ei.zero = some z)
    (hcl : z.cells.toList.all (closedIn 4) = true) (hzs : z.cells.size = ei.size) {n : Int} (h0 : 0 ≤ n) (h1 : n * ei.bytes ≤ 2 ^ 47) (h2 : n < 2 ^ 63) (h3 : 0 < ei.size) :
    ∃ v' w' ι', (Instr.makeSlice t (.int .i64 n) (.int .i64 n)).run P w = .ok v' w' ∧ Post G ι H w ι' (H.new ⟨(repeatCells z.cells (n.toNat * ei.size)).toList, ei.size⟩) w' ∧
      VR ι' (.slice (some ⟨H.next, 0, none⟩) n.toNat n.toNat) v' := by
  have hc := AVR.refl_closed (ι := ι) (closed_repeat hcl (n.toNat * ei.size) (.inr (by omega)))
  obtain ⟨g1, g2, _⟩ := new_row (P := P) hr e ei.size hc
  refine ⟨.slice (some ⟨w.heap.size, 0, none⟩) n.toNat n.toNat, _, _, ?_, g2, sl_put (by rw [size_repeat]) _ _ _ rfl _⟩
  have hw := wrap64_of h0 h2
  have hb : (ei.bytes : Int) * n ≤ 2 ^ 47 := by rw [Int.mul_comm]; exact h1
  have hb' : ¬ ((ei.bytes : Int) * n > 2 ^ 48) := by omega
  have hroom : ¬ (n.toNat * ei.bytes > roomBytes) := by
    unfold roomBytes
    have : ((n.toNat * ei.bytes : Nat) : Int) = n * ei.bytes := by
      rw [Int.natCast_mul, Int.toNat_of_nonneg h0]
    omega
  simp only [Instr.makeSlice, Sem.run_bind, run_underlying hu, Result.andThen_ok, asInt, asIntOf, Sem.run_pure, typeInfo, hw]
  have e1 : (program : Sem Program).run P w = .ok P w := rfl
  simp only [e1, Result.andThen_ok, he, Sem.run_pure]
  have hcond : ¬ ((decide (n < 0) || decide ((ei.bytes : Int) * n > 2 ^ 48)) = true ∨ n < 0 ∨ n > n) := by
    simp only [Bool.or_eq_true, decide_eq_true_eq]; omega
  have hcond' : ((decide (n < 0) || decide ((ei.bytes : Int) * n > 2 ^ 48)) || decide (n < 0) || decide (n > n)) = false := by
    simp only [Bool.or_eq_false_iff, decide_eq_false_iff_not]; omega
  simp only [hcond']
  simp only [Bool.false_eq_true, if_false, Sem.run_bind, Sem.run_pure, Result.andThen_ok, askRoom, if_neg hroom, run_sizeOf_of he]
  by_cases hn0 : n.toNat * ei.size = 0
  · have harr : (Array.range (n.toNat * ei.size)).map ((#[] : Array Value)[· % (#[] : Array Value).size]!) = repeatCells z.cells (n.toNat * ei.size) := by
      simp [hn0, repeatCells]
    rw [if_pos hn0]
    simp only [Sem.run_bind, Sem.run_pure, Result.andThen_ok, harr, g1]
  · rw [if_neg hn0]
    have harr : (Array.range (n.toNat * ei.size)).map (z.cells[· % z.cells.size]!) = repeatCells z.cells (n.toNat * ei.size) := rfl
    simp only [Sem.run_bind, Sem.run_pure, Result.andThen_ok, run_zeroValue_of he hz, harr, g1]

/-- An optional bound. -/
inductive OVR (ι : Inj) : Option Value → Option Value → Prop
  | none : OVR ι none none
  | some {v v' : Value} : VR ι v v' → OVR ι (some v) (some v')

theorem bounds_sound {lo hi lo' hi' : Option Value} (hlo : OVR ι lo lo') (hhi : OVR ι hi hi') {len l h : Nat} (hb : aSliceBounds len lo hi = some (l, h)) :
    h ≤ len ∧ l ≤ h ∧ ∀ cap, len ≤ cap → (Instr.sliceBounds true len cap lo' hi' none).run P w = .ok (l, h, cap) w := by
  have bd : ∀ {v : Value} {y n : Nat}, aBound v y = some n → ∃ k i, v = .int k i ∧ 0 ≤ i ∧ i ≤ (y : Int) ∧ n = i.toNat := by
    intro v y n h
    cases v <;> simp [aBound] at h
    exact ⟨_, _, rfl, h.1.1, h.1.2, h.2.symm⟩
  have low : ∀ h₁ : Nat, aLo h₁ lo = some l →
      l ≤ h₁ ∧ ((lo' = none ∧ l = 0) ∨ ∃ k n, lo' = some (.int k n) ∧ 0 ≤ n ∧ n ≤ (h₁ : Int) ∧ l = n.toNat) := by
    intro h₁ hl
    cases hlo with
    | none => simp only [aLo, Option.some.injEq] at hl; subst hl; exact ⟨Nat.zero_le _, .inl ⟨rfl, rfl⟩⟩
    | some hv =>
      obtain ⟨k, n, rfl, h0, h1, h2⟩ := bd hl
      cases hv
      exact ⟨by omega, .inr ⟨k, n, rfl, h0, h1, h2⟩⟩
  have high : ∀ h₁ : Nat, aHi len hi = some h₁ →
      h₁ ≤ len ∧ ((hi' = none ∧ h₁ = len) ∨ ∃ k n, hi' = some (.int k n) ∧ 0 ≤ n ∧ n ≤ (len : Int) ∧ h₁ = n.toNat) := by
    intro h₁ hl
    cases hhi with
    | none => simp only [aHi, Option.some.injEq] at hl; subst hl; exact ⟨Nat.le_refl _, .inl ⟨rfl, rfl⟩⟩
    | some hv =>
      obtain ⟨k, n, rfl, h0, h1, h2⟩ := bd hl
      cases hv
      exact ⟨by omega, .inr ⟨k, n, rfl, h0, h1, h2⟩⟩
  unfold aSliceBounds at hb
  split at hb
  · cases hb
  · rename_i h₁ hh
    split at hb
    · cases hb
    · rename_i l₁ hl
      cases hb
      obtain ⟨p1, p2⟩ := high _ hh
      obtain ⟨q1, q2⟩ := low _ hl
      refine ⟨p1, q1, fun cap hcap => ?_⟩
      rcases p2 with ⟨rfl, rfl⟩ | ⟨k, n, rfl, h0, h1, rfl⟩ <;> rcases q2 with ⟨rfl, rfl⟩ | ⟨k', n', rfl, h0', h1', rfl⟩
      · rfl
      · simp only [Instr.sliceBounds, Sem.run_bind, Sem.run_pure, Result.andThen_ok, run_sliceBound w k' n' _ _ h0' h1']
      · simp only [Instr.sliceBounds, Sem.run_bind, Sem.run_pure, Result.andThen_ok, run_sliceBound w k n cap _ h0 (by omega)]
      · simp only [Instr.sliceBounds, Sem.run_bind, Sem.run_pure, Result.andThen_ok, run_sliceBound w k n cap _ h0 (by omega), run_sliceBound w k' n' _ _ h0' h1']

theorem slice_sound (hr : Rel G ι H w) {t e : TypeId} {ei : TypeInfo} (hu : P.underlying t = some (.slice e)) (he : P.info? e = some ei)
    {lo hi lo' hi' : Option Value} (hlo : OVR ι lo lo') (hhi : OVR ι hi hi') {a : Option Addr} {len c l h : Nat} (hb : aSliceBounds len lo hi = some (l, h)) {x' : Value} (hx : VR ι (.slice a len c) x')
    {v : Value} (hv : aCut H ei.size a len l h = some v) :
    ∃ v', (Instr.sliceAt t x' lo' hi' none).run P w = .ok v' w ∧ VR ι v v' := by
  have hbounds := bounds_sound (P := P) (w := w) hlo hhi hb
  obtain ⟨g1, g2, g3⟩ := hbounds
  have hrun : ∀ (b : Option Addr) (cap : Nat), len ≤ cap → (Instr.sliceAt t (.slice b len cap) lo' hi' none).run P w =
      .ok (.slice (if cap = l then b else b.map (·.add (l * ei.size))) (h - l) (cap - l)) w := by
    intro b cap hcap
    simp only [Instr.sliceAt, Sem.run_bind, run_underlying hu, Result.andThen_ok, Instr.slice, g3 cap hcap, run_sizeOf_of he, Sem.run_pure]
  cases hx with
  | slNil =>
    simp only [aCut, if_true, Option.some.injEq] at hv
    subst hv
    have hl : l = 0 := by omega
    have hh : h = 0 := by omega
    refine ⟨_, hrun none 0 (Nat.le_refl _), ?_⟩
    subst hl; subst hh
    simp
    exact .slNil
  | slE =>
    simp only [aCut] at hv
    split at hv
    · cases hv
      have hl : l = 0 := by omega
      have hh : h = 0 := by omega
      refine ⟨_, hrun _ 0 (Nat.le_refl _), ?_⟩
      subst hl; subst hh
      simp
      exact .slE
    · cases hv
  | @sl i off _ cap _ ent h1 h2 h3 =>
    simp only [aCut] at hv
    split at hv
    · rename_i hsz
      cases hv
      refine ⟨_, hrun _ cap h2, ?_⟩
      cases hgo : H.get i with
      | none => rw [hgo] at hsz; simp at hsz
      | some o =>
        rw [hgo] at hsz
        simp only [Option.any_some, beq_iff_eq] at hsz
        obtain ⟨e', c', t', fz, k1, k2, _⟩ := hr.obj i o hgo
        rw [h1] at k1; cases k1
        by_cases hc : cap = l
        · have : h - l = 0 := by omega
          rw [if_pos hc, this, show cap - l = 0 by omega]
          exact .slE
        · rw [if_neg hc]
          simp only [Option.map_some, addr_add]
          rw [Nat.add_assoc]
          refine .sl h1 (by omega) ?_
          rw [k2, hsz] at h3 ⊢
          have hle : l ≤ cap := by omega
          have : cap * ei.size = l * ei.size + (cap - l) * ei.size := by rw [← Nat.add_mul]; congr 1; omega
          omega
    · cases hv
end
end Go.Ab
