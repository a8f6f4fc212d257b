/- What the functions of no fabric come to. -/
import Derived.Test.YtebmnnbjfjadaaaGreatDoorOk
import Derived.Test.YtebmnnbjfjadaaaGreatDoorFv
import Derived.KernelRfl
namespace Go.Ab
open Go

abbrev nilP : Value := .pointer none
abbrev i64 (n : Int) : Value := .int .i64 n

theorem fn_do (c : Array Value) (H : AHeap) : evFn T 10 49 [nilP, .agg c] H = some (i64 22, H.new ⟨c.toList, c.size⟩) := by kernel_rfl
theorem fn_finish (t m : Int) (H : AHeap) : evFn T 10 18 [nilP, i64 t, i64 m] H = some (.tuple #[i64 0, .bool true], H) := by kernel_rfl
theorem fn_idle (H : AHeap) : evFn T 10 20 [nilP] H = some (.bool true, H) := by kernel_rfl
theorem fn_busy (t : Int) (H : AHeap) : evFn T 10 21 [nilP, i64 t] H = some (.bool false, H) := by kernel_rfl
theorem fn_threads (H : AHeap) : evFn T 10 22 [nilP] H = some (i64 0, H) := by kernel_rfl
theorem fn_noted (H : AHeap) : evFn T 10 23 [nilP] H = some (i64 0, H) := by kernel_rfl
theorem fn_ready (t : Int) (H : AHeap) : evFn T 10 24 [nilP, i64 t] H = some (i64 0, H) := by kernel_rfl
theorem fn_events (t : Int) (H : AHeap) : evFn T 10 25 [nilP, i64 t] H = some (.slice none 0 0, H) := by kernel_rfl
theorem fn_accesses (H : AHeap) : evFn T 10 26 [nilP] H = some (.slice none 0 0, H) := by kernel_rfl
theorem fn_peek (t : Int) (H : AHeap) : evFn T 10 29 [nilP, i64 t] H = some (.int .u64 0, H) := by kernel_rfl

/-- A new object is stored to, and read. -/
theorem get_top (H : AHeap) (o : AObj) : (H.new o).get H.next = some o := AHeap.get_new_next H o
theorem get_top_set (H : AHeap) (o p : AObj) : ((H.new o).set H.next p).get H.next = some p := by
  rw [AHeap.get_set_same]; exact Nat.lt_succ_self _

theorem fn_call (t : Int) (H : AHeap) (hl : H.lo ≤ H.next) : Ev T 19 [nilP, i64 t] H fun v H' => v = .tuple #[.agg #[i64 0, i64 0, .slice none 0 0], .bool false] ∧ H'.lo ≤ H'.next := by
  refine ev_fn rfl rfl rfl (wc_seq (wc_reg (wi_plain rfl (wi_plain rfl (wi_nil ?_)))))
  refine wc_seq (wc_seq (wc_reg (wi_plain rfl (wi_plain rfl (wi_nil (wc_cond (t := true) rfl ?_))))))
  refine wc_seq (wc_reg (wi_plain rfl (wi_store rfl rfl (get_top _ _) ⟨hl, rfl, by decide, rfl⟩ (wi_plain rfl (wi_nil (wc_ret ?_))))))
  refine ⟨rfl, [.agg #[i64 0, i64 0, .slice none 0 0], .bool false], ?_, rfl, Nat.le_succ_of_le hl⟩
  exact evRes_cell rfl (aLoad_row (get_top_set _ _ _) rfl) (evRes_tmp rfl rfl)
theorem fn_conf (H : AHeap) (hl : H.lo ≤ H.next) : Ev T 28 [nilP] H fun v H' => v = .agg #[i64 0, i64 0, i64 0, i64 0, .int .u64 0, .slice none 0 0] ∧ H'.lo ≤ H'.next := by
  refine ev_fn rfl rfl rfl (wc_seq (wc_reg (wi_plain rfl (wi_nil ?_))))
  refine wc_seq (wc_seq (wc_reg (wi_plain rfl (wi_plain rfl (wi_nil (wc_cond (t := true) rfl ?_))))))
  refine wc_seq (wc_reg (wi_plain rfl (wi_store rfl rfl (get_top _ _) ⟨hl, rfl, by decide, rfl⟩ (wi_nil (wc_ret ?_)))))
  refine ⟨rfl, [.agg #[i64 0, i64 0, i64 0, i64 0, .int .u64 0, .slice none 0 0]], ?_, rfl, Nat.le_succ_of_le hl⟩
  exact evRes_cell rfl (aLoad_row (get_top_set _ _ _) rfl) rfl
theorem fn_layout (H : AHeap) (hl : H.lo ≤ H.next) : Ev T 27 [nilP] H fun v H' => (∃ c, v = .agg c ∧ aPart c 13 none = some (i64 0)) ∧ H'.lo ≤ H'.next := by
  refine ev_fn rfl rfl rfl (wc_seq (wc_reg (wi_plain rfl (wi_nil ?_))))
  refine wc_seq (wc_seq (wc_reg (wi_plain rfl (wi_plain rfl (wi_nil (wc_cond (t := true) rfl ?_))))))
  refine wc_seq (wc_reg (wi_plain rfl (wi_store rfl rfl (get_top _ _) ⟨hl, rfl, by decide, rfl⟩ (wi_nil (wc_ret ?_)))))
  refine ⟨rfl, [.agg #[i64 0, i64 0, i64 0, i64 0, .int .u64 0, .slice none 0 0, i64 0, i64 0, i64 0, i64 0, i64 0, i64 0, i64 0, i64 0]], ?_, ⟨_, rfl, rfl⟩, Nat.le_succ_of_le hl⟩
  exact evRes_cell rfl (aLoad_row (get_top_set _ _ _) rfl) rfl

/-- What Run has so far: so many times the same error. -/
def outV (o j : Nat) : Value := if j = 0 then .slice none 0 0 else .slice (some ⟨o, 0, none⟩) j j
def runEnv (n : Nat) (i : Nat) (out : Value) (j : Nat) : Env := [(0, nilP), (5, out), (8, .slice (some ⟨i, 0, none⟩) n n), (9, i64 n), (10, i64 j)]
def lawEnv (l : Value) (t m : Int) (r : Value) (j : Nat) : Env := [(0, l), (1, i64 t), (2, i64 m), (7, nilP), (8, r), (9, i64 j)]
theorem fn_run (n i : Nat) (cells : List Value) (hn : n ≤ 100) (hlen : cells.length = n * 4) (hone : cells.all one = true) (H : AHeap) (hl : H.lo ≤ H.next) (hi : i < H.lo) (hg : H.get i = some ⟨cells, 4⟩) :
    Ev T 17 [nilP, .slice (some ⟨i, 0, none⟩) n n] H fun v H' => ∃ o, v = outV o n ∧ (0 < n → H'.get o = some ⟨List.replicate n (i64 22), 1⟩) ∧ H'.lo = H.lo ∧ H'.lo ≤ H'.next := by
  refine ev_fn rfl rfl rfl (wc_seq (wc_reg (wi_plain rfl (wi_nil ?_))))
  refine wc_seq (wc_reg (wi_plain rfl (wi_nil ?_)))
  refine wc_seq (wc_seq (wc_reg (wi_plain rfl (wi_plain rfl (wi_plain rfl (wi_nil ?_))))))
  refine wc_block (wc_loop (fun m σ H' => ∃ j o, j + m = n ∧ σ = runEnv n i (outV o j) j ∧ (0 < j → H'.get o = some ⟨List.replicate j (i64 22), 1⟩ ∧ H.lo ≤ o) ∧ H'.lo = H.lo ∧ H'.lo ≤ H'.next ∧ H'.get i = some ⟨cells, 4⟩) n ⟨0, 0, by omega, rfl, by omega, rfl, hl, hg⟩ ?_)
  rintro m σ H1 ⟨j, o, hj, rfl, ho, hlo, hle, hg1⟩
  refine wc_seq (wc_reg (wi_plain rfl (wi_nil ?_)))
  refine wc_seq (wc_cond (t := decide ((j : Int) < n)) rfl ?_)
  rcases Nat.eq_zero_or_pos m with hm | hm
  · obtain rfl : j = n := by omega
    rw [if_neg (by simp)]
    refine wc_exit ?_
    refine wc_seq (wc_reg (wi_plain rfl (wi_plain rfl (wi_nil (wc_ret ⟨rfl, [outV o j], rfl, o, rfl, fun h => (ho h).1, hlo, hle⟩)))))
  · rw [if_pos (by simp; omega)]
    refine wc_skip ?_
    refine wc_seq (wc_block (wc_seq (wc_reg ?_)))
    have hr : readN cells (0 + (j : Int).toNat * 4) 4 = some ((cells.drop (j * 4)).take 4) := by
      unfold readN
      rw [if_pos (by simp; omega)]
      simp
    refine wi_indexS rfl rfl ⟨by omega, by omega⟩ ?_
    refine wi_loadN rfl hg1 hr (wi_plain rfl ?_)
    have hlen4 : ((cells.drop (j * 4)).take 4).length = 4 := by simp; omega
    have hone4 : ((cells.drop (j * 4)).take 4).all one = true := by
      rw [List.all_eq_true] at hone ⊢
      exact fun v hv => hone v (List.mem_of_mem_drop (List.mem_of_mem_take hv))
    generalize (cells.drop (j * 4)).take 4 = q at hlen4 hone4
    refine wi_store rfl rfl (get_top _ _) ⟨hle, by simpa [Value.cells] using hlen4, by simp, by simpa [Value.cells] using hone4⟩ (wi_nil ?_)
    refine wc_reg (wi_plain rfl (wi_plain rfl ?_))
    simp only [runEnv, Env.putO, Env.put, Env.keep, List.filter_cons, List.filter_nil, List.contains_cons, List.contains_nil, Nat.reduceBEq, Nat.reduceEqDiff, Bool.or_false, Bool.or_true, Bool.false_eq_true, if_true, if_false]
    match q, hlen4, hone4 with
    | [a, b, c, d], _, hone4 =>
    refine wi_loadN (cs := [a, b, c, d]) rfl (get_top_set _ _ _) rfl ?_
    refine wi_call (vs := [nilP, .agg #[a, b, c, d]]) rfl ?_
    refine ⟨10, _, _, fn_do #[a, b, c, d] _, ?_⟩
    refine wi_buildSlice (vs := [i64 22]) (cs := #[i64 22]) rfl (by kernel_rfl) (by decide) ?_
    generalize hG : AHeap.new (AHeap.new (AHeap.set _ _ _) _) _ = H4
    have hn4 : H4.next = H1.next + 3 := by rw [← hG]; rfl
    have hl4 : H4.lo = H1.lo := by rw [← hG]; rfl
    have hk4 : ∀ k, k < H1.next → H4.get k = H1.get k := by
      intro k hk
      rw [← hG, AHeap.get_new_ne _ _ (by simp; omega), AHeap.get_new_ne _ _ (by simp; omega), AHeap.get_set_ne _ _ _ (by omega), AHeap.get_new_ne _ _ (by omega)]
    have ht4 : H4.get (H1.next + 2) = some ⟨[i64 22], 1⟩ := by rw [← hG]; exact get_top _ _
    have hg4 : H4.get i = some ⟨cells, 4⟩ := by rw [hk4 i (by omega), hg1]
    have hw : IntKind.i64.wrap ((j : Int) + 1) = ((j + 1 : Nat) : Int) := by rw [IntKind.wrap_i64]; omega
    have fin : ∀ H5 : AHeap, H5.get (H1.next + 3) = some ⟨List.replicate (j + 1) (i64 22), 1⟩ → H5.lo = H1.lo → H5.lo ≤ H5.next → H5.get i = some ⟨cells, 4⟩ →
        ∃ m', m' < m ∧ ∃ j' o', j' + m' = n ∧ ([(0, nilP), (5, .slice (some ⟨H1.next + 3, 0, none⟩) (j + 1) (j + 1)), (8, .slice (some ⟨i, 0, none⟩) n n), (9, i64 n), (10, i64 ((j + 1 : Nat) : Int))] : Env) = runEnv n i (outV o' j') j' ∧
          (0 < j' → H5.get o' = some ⟨List.replicate j' (i64 22), 1⟩ ∧ H.lo ≤ o') ∧ H5.lo = H.lo ∧ H5.lo ≤ H5.next ∧ H5.get i = some ⟨cells, 4⟩ := by
      intro H5 h1 h2 h3 h4
      refine ⟨m - 1, by omega, j + 1, H1.next + 3, by omega, ?_, fun _ => ⟨h1, by omega⟩, h2.trans hlo, h3, h4⟩
      unfold runEnv outV
      rw [if_neg (by omega)]
    simp only [Env.putO, Env.put, Nat.reduceEqDiff, if_false]
    rcases Nat.eq_zero_or_pos j with hj0 | hj0
    · subst hj0
      refine wi_append0 (j := H1.next + 2) (joff := 0) (m := 1) (c := 1) (c0 := 0) (news := [i64 22]) rfl rfl (by decide) ht4 rfl rfl (wi_plain rfl (wi_nil ?_))
      simp only [Env.putO, Env.put, List.filter_cons, List.filter_nil, Nat.reduceBEq, Nat.reduceEqDiff, Bool.or_false, Bool.or_true, Bool.false_eq_true, if_true, if_false]
      refine wc_reg (wi_plain rfl (wi_plain rfl (wi_nil ?_)))
      simp only [Env.putO, Env.put, Env.keep, List.filter_cons, List.filter_nil, List.contains_cons, List.contains_nil, Nat.reduceBEq, Nat.reduceEqDiff, Bool.or_false, Bool.or_true, Bool.false_eq_true, if_true, if_false]
      rw [hn4]
      exact fin _ (by rw [← hn4]; exact get_top _ _) hl4 (by show H4.lo ≤ H4.next + 1; omega) (by rw [AHeap.get_new_ne _ _ (by omega)]; exact hg4)
    · obtain ⟨ho1, ho2⟩ := ho hj0
      have hlt := AHeap.get_lt ho1
      have hv : outV o j = .slice (some ⟨o, 0, none⟩) j j := by unfold outV; rw [if_neg (by omega)]
      rw [hv]
      refine wi_append1 (i := o) (j := H1.next + 2) (joff := 0) (m := 1) (c := 1) (news := [i64 22]) rfl rfl (by decide) ht4 rfl ((hk4 o hlt).trans ho1) (by simp [one]; omega) ⟨by omega, by simp, rfl, by omega⟩ (wi_plain rfl (wi_nil ?_))
      simp only [Env.putO, Env.put, List.filter_cons, List.filter_nil, Nat.reduceBEq, Nat.reduceEqDiff, Bool.or_false, Bool.or_true, Bool.false_eq_true, if_true, if_false]
      refine wc_reg (wi_plain rfl (wi_plain rfl (wi_nil ?_)))
      simp only [Env.putO, Env.put, Env.keep, List.filter_cons, List.filter_nil, List.contains_cons, List.contains_nil, Nat.reduceBEq, Nat.reduceEqDiff, Bool.or_false, Bool.or_true, Bool.false_eq_true, if_true, if_false]
      rw [hn4]
      have hd : (H4.del o).next = H1.next + 3 := hn4
      simp only [AEx.then, hw]
      exact fin _ (by rw [← hd, get_top, List.drop_zero, List.replicate_succ']) hl4 (by show H4.lo ≤ H4.next + 1; omega) (by rw [AHeap.get_new_ne _ _ (by rw [hd]; omega), AHeap.get_del, if_neg (by omega)]; exact hg4)
end Go.Ab
