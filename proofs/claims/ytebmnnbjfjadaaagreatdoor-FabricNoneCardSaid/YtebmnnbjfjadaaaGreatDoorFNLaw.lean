/- FabricNone: whatever its arguments are, it comes to true. -/
import Derived.Test.YtebmnnbjfjadaaaGreatDoorFNRun
import Derived.Test.YtebmnnbjfjadaaaGreatDoorFv
namespace Go.Ab
open Go Go.Proofs

theorem fn_live : isTrue (evFn T 200 16 [] ⟨.nil, 1, 1⟩) = true := by kernel_rfl
theorem fn_run0 (a : Option Addr) (c : Nat) (H : AHeap) : evFn T 10 17 [nilP, .slice a 0 c] H = some (.slice none 0 0, H) := by kernel_rfl


set_option maxHeartbeats 1000000 in
theorem law_walk (a : Option Addr) (n c : Nat) (t m : Int) (H : AHeap)
    (hrun : n ≤ 100 → Ev T 17 [nilP, .slice a n c] H fun v H' => ∃ o, v = outV o n ∧ (0 < n → H'.get o = some ⟨List.replicate n (i64 22), 1⟩) ∧ H'.lo ≤ H'.next) :
    Ev T 4 [.slice a n c, i64 t, i64 m] H fun v _ => v = .bool true := by
  obtain ⟨HL, hlive⟩ := isTrue_some fn_live
  have live : EvE T 1 16 [] fun v => v = .bool true := ⟨200, _, _, hlive, rfl, rfl⟩
  refine ev_fn rfl rfl rfl (wc_seq (wc_reg (wi_plain rfl (wi_nil ?_))))
  refine wc_seq (wc_seq (wc_reg (wi_plain rfl (wi_plain rfl (wi_plain rfl (wi_nil (wc_cond (t := decide ((100 : Int) < n)) rfl ?_)))))))
  rcases Nat.lt_or_ge 100 n with hn | hn
  · rw [if_pos (by simp; omega)]
    refine wc_seq (wc_reg (wi_callE rfl (live.mono ?_)))
    rintro _ rfl
    refine wi_plain rfl (wi_nil (wc_ret ⟨rfl, [.bool true], rfl, rfl⟩))
  · rw [if_neg (by simp; omega)]
    refine wc_skip ?_
    refine wc_seq (wc_reg (wi_plain rfl (wi_nil ?_)))
    refine wc_seq (wc_reg (wi_plain rfl (wi_plain rfl (wi_call rfl ((hrun hn).mono ?_)))))
    rintro _ H1 ⟨o, rfl, ho, hle⟩
    refine wi_plain rfl (wi_nil ?_)
    refine wc_seq (wc_seq (wc_reg (wi_plain rfl (wi_nil ?_))))
    refine wc_block (wc_loop (fun k σ H' => ∃ j, j + k = n ∧ σ = lawEnv (.slice a n c) t m (outV o n) j ∧ H' = H1) n ⟨0, by omega, rfl, rfl⟩ ?_)
    rintro k σ _ ⟨j, hj, rfl, rfl⟩
    have hov : outV o n = .slice (if n = 0 then none else some ⟨o, 0, none⟩) n n := by
      unfold outV; split
      · rename_i e; subst e; rfl
      · rfl
    rw [hov]
    refine wc_seq (wc_seq (wc_reg (wi_plain rfl (wi_plain rfl (wi_plain rfl (wi_plain rfl (wi_nil (wc_cond (t := decide ((j : Int) < n)) rfl ?_))))))))
    rcases Nat.eq_zero_or_pos k with hk | hk
    · rw [if_neg (by simp; omega)]
      refine wc_exit ?_
      refine wc_seq (wc_reg (wi_plain rfl (wi_plain rfl (wi_plain rfl (wi_call rfl ⟨10, _, _, fn_finish t m _, ?_⟩)))))
      simp only [lawEnv, Env.putO, Env.put, Env.keep, List.filter_cons, List.filter_nil, List.contains_cons, List.contains_nil, Nat.reduceBEq, Nat.reduceEqDiff, Bool.or_false, Bool.or_true, Bool.false_eq_true, if_true, if_false]
      refine wi_plain rfl (wi_plain rfl (wi_plain rfl (wi_plain rfl (wi_plain rfl (wi_nil ?_)))))
      simp only [Env.putO, Env.put, List.filter_cons, List.filter_nil, Nat.reduceBEq, Nat.reduceEqDiff, Bool.or_false, Bool.or_true, Bool.false_eq_true, if_true, if_false]
      refine wc_seq (wc_reg (wi_plain rfl (wi_plain rfl (wi_call rfl ((fn_call t _ hle).mono ?_)))))
      rintro _ H2 ⟨rfl, hle2⟩
      simp only [Env.putO, Env.put, Env.keep, List.contains_cons, List.contains_nil, Nat.reduceEqDiff, Bool.or_false, if_false]
      refine wi_plain rfl (wi_plain rfl (wi_plain rfl (wi_plain rfl ?_)))
      simp only [Env.putO, Env.put, Nat.reduceEqDiff, if_false]
      refine wi_store rfl rfl (get_top _ _) ⟨hle2, rfl, by decide, rfl⟩ (wi_plain rfl (wi_nil ?_))
      simp only [Env.putO, Env.put, List.filter_cons, List.filter_nil, Nat.reduceBEq, Nat.reduceEqDiff, Bool.or_false, Bool.or_true, Bool.false_eq_true, if_true, if_false]
      refine wc_seq (wc_reg ?_)
      refine wi_plain rfl ?_
      refine wi_plain rfl ?_
      refine wi_plain rfl ?_
      refine wi_plain rfl ?_
      refine wi_plain (v := .bool true) (H' := _) (show some (Value.bool (decide ((n : Int) = n)), _) = _ by rw [decide_eq_true rfl]) ?_
      simp only [Env.putO, Env.put, Env.keep, List.contains_cons, List.contains_nil, Nat.reduceEqDiff, Bool.or_false, if_false]
      refine wi_plain rfl ?_
      refine wi_guard_yes rfl (wi_plain rfl ?_)
      refine wi_guard_yes rfl (wi_plain rfl ?_)
      refine wi_plain rfl ?_
      refine wi_plain rfl ?_
      simp only [Env.putO, Env.put, Nat.reduceEqDiff, if_false]
      refine wi_guard_yes rfl (wi_plain rfl ?_)
      refine wi_plain rfl ?_
      refine wi_plain rfl ?_
      refine wi_guard_yes rfl (wi_plain rfl ?_)
      refine wi_guard_yes rfl (wi_call rfl ⟨10, _, _, fn_idle _, ?_⟩)
      simp only [Env.putO, Env.put, Nat.reduceEqDiff, if_false]
      refine wi_plain rfl ?_
      refine wi_plain rfl ?_
      refine wi_guard_yes rfl (wi_plain rfl ?_)
      refine wi_guard_yes rfl (wi_plain rfl ?_)
      refine wi_guard_yes rfl (wi_call rfl ⟨10, _, _, fn_busy t _, ?_⟩)
      simp only [Env.putO, Env.put, Nat.reduceEqDiff, if_false]
      refine wi_guard_yes rfl (wi_plain rfl ?_)
      refine wi_plain rfl ?_
      refine wi_plain rfl ?_
      refine wi_guard_yes rfl (wi_plain rfl ?_)
      refine wi_guard_yes rfl (wi_load1 rfl (get_top_set _ _ _) rfl ?_)
      simp only [Env.putO, Env.put, Nat.reduceEqDiff, if_false]
      refine wi_guard_yes rfl (wi_plain rfl ?_)
      refine wi_plain rfl ?_
      refine wi_plain rfl ?_
      refine wi_guard_yes rfl (wi_plain rfl ?_)
      refine wi_guard_yes rfl (wi_plain rfl ?_)
      simp only [Env.putO, Env.put, Nat.reduceEqDiff, if_false]
      refine wi_plain rfl ?_
      refine wi_plain rfl ?_
      refine wi_guard_yes rfl (wi_plain rfl ?_)
      refine wi_guard_yes rfl (wi_call rfl ⟨10, _, _, fn_threads _, ?_⟩)
      refine wi_guard_yes rfl (wi_plain rfl ?_)
      simp only [Env.putO, Env.put, Nat.reduceEqDiff, if_false]
      refine wi_guard_yes rfl (wi_call rfl ⟨10, _, _, fn_noted _, ?_⟩)
      refine wi_guard_yes rfl (wi_plain rfl ?_)
      refine wi_guard_yes rfl (wi_plain rfl ?_)
      refine wi_guard_yes rfl (wi_plain rfl ?_)
      refine wi_guard_yes rfl (wi_call rfl ⟨10, _, _, fn_ready t _, ?_⟩)
      simp only [Env.putO, Env.put, Nat.reduceEqDiff, if_false]
      refine wi_guard_yes rfl (wi_plain rfl ?_)
      refine wi_guard_yes rfl (wi_plain rfl ?_)
      refine wi_guard_yes rfl (wi_plain rfl ?_)
      refine wi_guard_yes rfl (wi_call rfl ⟨10, _, _, fn_events 0 _, ?_⟩)
      refine wi_guard_yes rfl (wi_plain rfl ?_)
      simp only [Env.putO, Env.put, Nat.reduceEqDiff, if_false]
      refine wi_guard_yes rfl (wi_plain rfl ?_)
      refine wi_guard_yes rfl (wi_plain rfl ?_)
      refine wi_guard_yes rfl (wi_call rfl ⟨10, _, _, fn_accesses _, ?_⟩)
      refine wi_guard_yes rfl (wi_plain rfl ?_)
      refine wi_guard_yes rfl (wi_plain rfl ?_)
      simp only [Env.putO, Env.put, Nat.reduceEqDiff, if_false]
      refine wi_guard_yes rfl (wi_plain rfl ?_)
      refine wi_guard_yes rfl (wi_call rfl ((fn_layout _ (Nat.le_succ_of_le hle2)).mono ?_))
      rintro _ H4 ⟨⟨cl, rfl, hcl⟩, hle4⟩
      refine wi_guard_yes rfl (wi_plain (v := i64 0) (H' := H4) (show (match aPart cl 13 none with | some v => some (v, H4) | none => none) = some (i64 0, H4) by rw [hcl]) ?_)
      refine wi_guard_yes rfl (wi_plain rfl ?_)
      refine wi_guard_yes rfl (wi_plain rfl ?_)
      simp only [Env.putO, Env.put, Nat.reduceEqDiff, if_false]
      refine wi_guard_yes rfl (wi_call rfl ((fn_conf _ hle4).mono ?_))
      rintro _ H5 ⟨rfl, hle5⟩
      refine wi_guard_yes rfl (wi_plain rfl ?_)
      refine wi_guard_yes rfl (wi_plain rfl ?_)
      refine wi_guard_yes rfl (wi_plain rfl ?_)
      refine wi_plain rfl ?_
      simp only [Env.putO, Env.put, Nat.reduceEqDiff, if_false]
      refine wi_plain rfl ?_
      refine wi_guard_yes rfl (wi_plain rfl ?_)
      refine wi_guard_yes rfl (wi_plain rfl ?_)
      refine wi_guard_yes rfl (wi_call rfl ⟨10, _, _, fn_peek t _, ?_⟩)
      refine wi_guard_yes rfl (wi_plain rfl ?_)
      simp only [Env.putO, Env.put, Nat.reduceEqDiff, if_false]
      refine wi_plain rfl ?_
      refine wi_plain rfl ?_
      refine wi_guard_yes rfl (wi_callE rfl (live.mono ?_))
      rintro _ rfl
      refine wi_plain rfl ?_
      refine wi_plain rfl ?_
      simp only [Env.putO, Env.put, Nat.reduceEqDiff, if_false]
      exact wi_nil (wc_ret ⟨rfl, [.bool true], rfl, rfl⟩)
    · rw [if_pos (by simp; omega)]
      refine wc_skip ?_
      have hn0 : n ≠ 0 := by omega
      rw [if_neg hn0]
      simp only [lawEnv, Env.putO, Env.put, Env.keep, List.filter_cons, List.filter_nil, List.contains_cons, List.contains_nil, Nat.reduceBEq, Nat.reduceEqDiff, Bool.or_false, Bool.or_true, Bool.false_eq_true, if_true, if_false]
      refine wc_seq (wc_block (wc_seq (wc_reg (wi_plain rfl (wi_plain rfl (wi_indexS rfl rfl ⟨by omega, by omega⟩ (wi_load1 (v := i64 22) rfl (ho (by omega)) ?_ (wi_plain rfl (wi_nil ?_)))))))))
      · show (List.replicate n (i64 22))[0 + (j : Int).toNat * 1]? = _
        rw [List.getElem?_replicate, if_pos (by simp; omega)]
      · simp only [Env.putO, Env.put, Env.keep, List.filter_cons, List.filter_nil, List.contains_cons, List.contains_nil, Nat.reduceBEq, Nat.reduceEqDiff, Bool.or_false, Bool.or_true, Bool.false_eq_true, if_true, if_false]
        refine wc_cond (t := false) rfl (wc_skip ?_)
        refine wc_reg (wi_plain rfl (wi_plain rfl (wi_plain rfl (wi_nil ?_))))
        have hw : IntKind.i64.wrap ((j : Int) + 1) = ((j + 1 : Nat) : Int) := by rw [IntKind.wrap_i64]; omega
        simp only [AEx.then, hw]
        exact ⟨k - 1, by omega, j + 1, by omega, rfl, trivial⟩

set_option maxRecDepth 100000 in
theorem act_one {H : AHeap} {p : List Value} (h : Ty Tryz.prog H 8 85 p) : p.all one = true := by
  obtain ⟨ps, rfl, hp⟩ := Ty.struct Tryz.underlying85 h
  obtain ⟨_, _, rfl, p0, hp⟩ := All2.cons_inv hp
  obtain ⟨_, _, rfl, p1, hp⟩ := All2.cons_inv hp
  obtain rfl := All2.nil_inv hp
  obtain ⟨n0, rfl, _⟩ := Ty.int Tryz.underlying3 p0.2
  obtain ⟨qs, rfl, hq⟩ := Ty.struct Tryz.underlying24 p1.2
  obtain ⟨_, _, rfl, q0, hq⟩ := All2.cons_inv hq
  obtain ⟨_, _, rfl, q1, hq⟩ := All2.cons_inv hq
  obtain ⟨_, _, rfl, q2, hq⟩ := All2.cons_inv hq
  obtain rfl := All2.nil_inv hq
  obtain ⟨n1, rfl, _⟩ := Ty.int Tryz.underlying3 q0.2
  obtain ⟨n2, rfl, _⟩ := Ty.int Tryz.underlying3 q1.2
  rcases Ty.slice Tryz.underlying22 q2.2 with rfl | ⟨i, parts, rfl, _⟩ <;> rfl

theorem flat_len {n : Nat} : ∀ {l : List (List Value)}, (∀ p ∈ l, p.length = n) → l.flatten.length = l.length * n
  | [], _ => by simp
  | p :: l, h => by
    rw [List.flatten_cons, List.length_append, flat_len fun q hq => h q (List.mem_cons_of_mem _ hq), h p List.mem_cons_self, List.length_cons, Nat.succ_mul]; omega

set_option maxRecDepth 100000 in
theorem law_fnone (ι : Inj) (H : AHeap) (avs : List Value) (W : World) (vs : List Value) (_ : Ext ι1 H1 ι H) (hr : Ro G1 ι H W) (hl : LVR ι avs vs)
    (ht : All2 (fun t av => TyArg Tryz.prog H 9 t av) Tryz.f4.params.toList avs) :
    ∃ ι' H' avs', Ro G1 ι' H' W ∧ LVR ι' avs' vs ∧ ∃ k H'', evFn T k 4 avs' H' = some (.bool true, H'') := by
  rw [Tryz.params4] at ht
  obtain ⟨_, _, rfl, t0, ht⟩ := All2.cons_inv ht
  obtain ⟨_, _, rfl, t1, ht⟩ := All2.cons_inv ht
  obtain ⟨_, _, rfl, t2, ht⟩ := All2.cons_inv ht
  obtain rfl := All2.nil_inv ht
  obtain ⟨t, rfl, _⟩ := TyArg.int Tryz.underlying3 t1
  obtain ⟨m, rfl, _⟩ := TyArg.int Tryz.underlying3 t2
  refine ⟨ι, H, _, hr, hl, ?_⟩
  have hle : H.lo ≤ H.next := Nat.le_of_eq hr.all
  have done : ∀ {a : Option Addr} {n c : Nat}, (Ev T 4 [.slice a n c, i64 t, i64 m] H fun v _ => v = .bool true) → ∃ k H'', evFn T k 4 [.slice a n c, i64 t, i64 m] H = some (.bool true, H'') := by
    rintro a n c ⟨k, v, H', h, rfl⟩
    exact ⟨k, H', h⟩
  have nul : ∀ (a : Option Addr) (c : Nat), ∃ k H'', evFn T k 4 [.slice a 0 c, i64 t, i64 m] H = some (.bool true, H'') := fun a c =>
    done (law_walk a 0 c t m H fun _ => ⟨10, _, _, fn_run0 a c H, 0, rfl, fun h => absurd h (by omega), hle⟩)
  rcases TyArg.slice Tryz.underlying41 t0 with rfl | ⟨i, parts, rfl, hg, hp⟩
  · exact nul none 0
  · rcases hg with rfl | hg
    · exact nul (some ⟨i, 0, none⟩) 0
    · refine done (law_walk (some ⟨i, 0, none⟩) parts.length parts.length t m H fun hn => ?_)
      have h4 : Tryz.prog.cellsOf 85 = 4 := by kernel_rfl
      have hi := AHeap.get_lt hg
      rw [h4] at hg hp
      refine (fn_run parts.length i parts.flatten hn (flat_len fun p hx => (hp p hx).1) ?_ H hle (by rw [hr.all]; exact hi) hg).mono ?_
      · rw [List.all_eq_true]
        intro v hv
        obtain ⟨p, hx, hv⟩ := List.mem_flatten.1 hv
        exact List.all_eq_true.1 (act_one (hp p hx).2) v hv
      · rintro v H' ⟨o, h1, h2, _, h3⟩
        exact ⟨o, h1, h2, h3⟩
end Go.Ab
