/- LockNone: whatever its arguments are, it comes to true. -/
import Derived.Test.YtoiehfgdjjmakaaDoorLNz
import Derived.Test.YtoiehfgdjjmakaaDoorOk
import Derived.Test.YtoiehfgdjjmakaaDoorFB
namespace Go.Ab
open Go Go.Proofs

theorem ln_live : isTrue (evFn T 60 33 [] ⟨.nil, 1, 1⟩) = true := by kernel_rfl

theorem wf_u8 {n : Int} (h : (Lit.int .u8 n).wf = true) : 0 ≤ n ∧ n ≤ 255 := by
  have e1 : IntKind.u8.min = 0 := rfl
  have e2 : IntKind.u8.max = 255 := rfl
  simp only [Lit.wf, Bool.and_eq_true, decide_eq_true_eq, e1, e2] at h
  exact h
theorem wf_u64 {n : Int} (h : (Lit.int .u64 n).wf = true) : 0 ≤ n ∧ n ≤ 18446744073709551615 := by
  have e1 : IntKind.u64.min = 0 := rfl
  have e2 : IntKind.u64.max = 18446744073709551615 := rfl
  simp only [Lit.wf, Bool.and_eq_true, decide_eq_true_eq, e1, e2] at h
  exact h
theorem wf_i64 {n : Int} (h : (Lit.int .i64 n).wf = true) : -9223372036854775808 ≤ n ∧ n ≤ 9223372036854775807 := by
  have e1 : IntKind.i64.min = -9223372036854775808 := rfl
  have e2 : IntKind.i64.max = 9223372036854775807 := rfl
  simp only [Lit.wf, Bool.and_eq_true, decide_eq_true_eq, e1, e2] at h
  exact h

theorem case_cap {lg : Int} (h : 0 ≤ lg) : ∃ cap : Int, IsCap cap ∧ 2 ≤ cap ∧ cap ≤ 16 ∧ aBin .shl (.int .i64 2) (.int .u8 (Int.tmod lg 4)) = some (.int .i64 cap) := by
  have h1 := tmod_b (x := lg) (m := 4) (c := 3) h (by decide) rfl
  have h2 : Int.tmod lg 4 = 0 ∨ Int.tmod lg 4 = 1 ∨ Int.tmod lg 4 = 2 ∨ Int.tmod lg 4 = 3 := by omega
  rcases h2 with e | e | e | e <;> rw [e]
  · exact ⟨2, .inl rfl, by decide, by decide, rfl⟩
  · exact ⟨4, .inr (.inl rfl), by decide, by decide, rfl⟩
  · exact ⟨8, .inr (.inr (.inl rfl)), by decide, by decide, rfl⟩
  · exact ⟨16, .inr (.inr (.inr (.inl rfl))), by decide, by decide, rfl⟩

set_option maxRecDepth 100000 in
/-- A case. -/
theorem case_inv {H : AHeap} {f : Nat} {av : Value} (h : TyArg Tryd.prog H (f + 2) 71 av) : ∃ wide lg pr rt start, av = .agg #[.bool wide, .int .u8 lg, .int .u8 pr, .int .u8 rt, .int .u64 start] ∧
    (0 ≤ lg ∧ lg ≤ 255) ∧ (0 ≤ pr ∧ pr ≤ 255) ∧ (0 ≤ rt ∧ rt ≤ 255) ∧ (0 ≤ start ∧ start ≤ 18446744073709551615) := by
  obtain ⟨parts, rfl, hp⟩ := TyArg.struct Tryd.underlying71 h
  obtain ⟨_, _, rfl, p0, hp⟩ := All2.cons_inv hp
  obtain ⟨_, _, rfl, p1, hp⟩ := All2.cons_inv hp
  obtain ⟨_, _, rfl, p2, hp⟩ := All2.cons_inv hp
  obtain ⟨_, _, rfl, p3, hp⟩ := All2.cons_inv hp
  obtain ⟨_, _, rfl, p4, hp⟩ := All2.cons_inv hp
  obtain rfl := All2.nil_inv hp
  obtain ⟨w, rfl⟩ := Ty.bool Tryd.underlying4 p0.2
  obtain ⟨a, rfl, h1⟩ := Ty.int Tryd.underlying5 p1.2
  obtain ⟨b, rfl, h2⟩ := Ty.int Tryd.underlying5 p2.2
  obtain ⟨c, rfl, h3⟩ := Ty.int Tryd.underlying5 p3.2
  obtain ⟨d, rfl, h4⟩ := Ty.int Tryd.underlying22 p4.2
  exact ⟨w, a, b, c, d, rfl, wf_u8 h1, wf_u8 h2, wf_u8 h3, wf_u64 h4⟩

set_option maxRecDepth 100000 in
theorem law_locknone (ι : Inj) (H : AHeap) (avs : List Value) (W : World) (vs : List Value) (hx : Ext ι1 H1 ι H) (hr : Ro G1 ι H W) (hl : LVR ι avs vs)
    (ht : All2 (fun t av => TyArg Tryd.prog H 9 t av) Tryd.f4.params.toList avs) :
    ∃ ι' H' avs', Ro G1 ι' H' W ∧ LVR ι' avs' vs ∧ ∃ k H'', evFn T k 4 avs' H' = some (.bool true, H'') := by
  rw [Tryd.params4] at ht
  obtain ⟨_, _, rfl, t0, ht⟩ := All2.cons_inv ht
  obtain ⟨_, _, rfl, t1, ht⟩ := All2.cons_inv ht
  obtain ⟨_, _, rfl, t2, ht⟩ := All2.cons_inv ht
  obtain rfl := All2.nil_inv ht
  obtain ⟨wide, lg, pr, rt, start, rfl, h1, h2, h3, h4⟩ := case_inv t0
  obtain ⟨parts, rfl, hlen, hp⟩ := TyArg.array Tryd.underlying72 t1
  obtain ⟨n, rfl, hn⟩ := TyArg.int Tryd.underlying3 t2
  match parts, hlen, hp with
  | [p, q], _, hp =>
  obtain ⟨v, rfl, hv⟩ := Ty.int Tryd.underlying3 (hp p (by simp)).2
  obtain ⟨t, rfl, htt⟩ := Ty.int Tryd.underlying3 (hp q (by simp)).2
  have hv := wf_i64 hv
  have htt := wf_i64 htt
  have hn := wf_i64 hn
  refine ⟨ι, H, _, hr, hl, ?_⟩
  obtain ⟨cap, hc, hc1, hc2, hs⟩ := case_cap h1.1
  obtain ⟨HL, hlive⟩ := isTrue_some ln_live
  have live : EvE T 1 33 [] fun w => w = .bool true := ⟨60, _, _, hlive, rfl, rfl⟩
  have hg : H.get 0 = some ⟨tabCells, 1⟩ := hx.sub _ _ (by kernel_rfl)
  have hnx := AHeap.get_lt hg
  have fin : LF T 1 1 4 [.agg #[.bool wide, .int .u8 lg, .int .u8 pr, .int .u8 rt, .int .u64 start], .agg #[.int .i64 v, .int .i64 t], .int .i64 n] (mkH [] 1 1) fun w _ => w = .bool true := by
    cases wide
    · exact LN_n lg pr rt start v t n cap (by omega) (by omega) (by omega) (by omega) (by omega) (by omega) (by omega) (by omega) (by omega) (by omega) (by omega) (by omega) (by omega) (by omega) (by omega) (by omega) hc hs live
    · exact LN_w lg pr rt start v t n cap (by omega) (by omega) (by omega) (by omega) (by omega) (by omega) (by omega) (by omega) (by omega) (by omega) (by omega) (by omega) (by omega) (by omega) (by omega) (by omega) hc hs live
  exact fin.ev rfl (HR.empty hnx hr.rel.lo) (fun s i j hj => by
    split at hj
    · rename_i hx; cases hx.1
    · cases hj) (lsv_closed _ 4 _ rfl)
end Go.Ab
