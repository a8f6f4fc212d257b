/- The numbers of a group, in a row: what the function List comes to. -/
import Derived.Test.YtoiehfgdjjmakaaDoorTabOk
import Derived.Test.YtoiehfgdjjmakaaDoorGA
import Derived.RangeFuncBox
import Derived.RangeFuncKeeps
import Derived.RangeFuncLeaves
import Derived.Shelf.Abstract
import Derived.WalkKit
import Derived.OwnWalkIn
import Derived.TacticsInMore
import Derived.LoopNIn
import Derived.LoopIn
import Derived.Maps.AppendAt
namespace Go.Ab
open Go Go.Proofs Go.RowKit Go.Shelf

attribute [local go_sem] Oper.semAt_some

def isPair (x : Option (Value × AHeap)) (i : Int) (b : Bool) : Bool :=
  match x with
  | some (.tuple c, _) => match c.toList with
    | [.int .i64 a, .bool b'] => decide (a = i) && (b == b')
    | _ => false
  | _ => false

theorem isPair_some {x : Option (Value × AHeap)} {i : Int} {b : Bool} (h : isPair x i b = true) : ∃ H', x = some (.tuple #[.int .i64 i, .bool b], H') := by
  unfold isPair at h
  split at h
  · rename_i c H'
    split at h
    · rename_i a b' hc
      simp only [Bool.and_eq_true, decide_eq_true_eq, beq_iff_eq] at h
      obtain ⟨rfl, rfl⟩ := h
      refine ⟨H', ?_⟩
      have : c = #[.int .i64 a, .bool b] := by rw [← hc]
      rw [this]
    · cases h
  · cases h

def T0 : AProg := { fn := tblFind tbl, prim := fun _ => none, meth := fun _ _ => none }

theorem T0_ok : ProgOk Tryd.prog G1 T0 := ⟨fun f fn h => tblFind_ok tblOk f fn h, fun _ _ h => by simp [T0] at h, fun _ _ _ h => by simp [T0] at h⟩

theorem mixed : Tryd.prog.follows .mixedOrders = true := by kernel_rfl

theorem quietCalls {f : Nat} {vs : List Value} {v : Value} {H' : AHeap} {k : Nat} (he : evFn T0 k f vs H1 = some (v, H')) (hv : closedIn 3 v = true)
    (hvs : vs.all (closedIn 0) = true) {w : World} (hw : G1.S w) :
    Calls Tryd.prog f vs.toArray w fun e w' => e = .returned v ∧ Below w.heap.size w w' := by
  obtain ⟨_, h⟩ := fn_sound T0_ok mixed k f vs H1 v H' he
  refine (h ι1 w vs (rel1 hw) (lvr_closed _ _ hvs)).mono ?_
  rintro e w' ⟨v', ι', rfl, hp, hvv⟩
  rw [closedIn_eq 3 _ _ hv hvv]
  refine ⟨rfl, ⟨hp.os, hp.tape, hp.out, hp.size, fun b hb => hp.frame b hb ?_⟩⟩
  intro i e o hlo ho _
  obtain ⟨rfl, _⟩ := H1_get i o ho
  exact absurd hlo (by decide)

/-- Where the numbers begin, and whether there are any. -/
def hd0 (l : List Int) : Int := l.headD 0
def any0 : List Int → Bool | [] => false | _ => true

def leastChk (g : Nat) : Bool := isPair (evFn T0 12 107 [.int .u64 g] H1) (hd0 (xsOf g)) (any0 (xsOf g))
def suffs : List Int → List (Int × List Int) | [] => [] | x :: r => (x, r) :: suffs r
def nextChk (g : Nat) : Bool := (suffs (xsOf g)).all fun p => isPair (evFn T0 12 108 [.int .u64 g, .int .i64 p.1] H1) (hd0 p.2) (any0 p.2)
theorem leastAll : (List.range 64).all leastChk = true := by kernel_rfl
theorem nextAll : (List.range 64).all nextChk = true := by kernel_rfl

theorem least_calls {g : Nat} (hg : g < 64) {w : World} (hw : G1.S w) :
    Calls Tryd.prog 107 #[.int .u64 g] w fun e w' => e = .returned (.tuple #[.int .i64 (hd0 (xsOf g)), .bool (any0 (xsOf g))]) ∧ Below w.heap.size w w' := by
  have h := leastAll
  rw [List.all_eq_true] at h
  obtain ⟨H', hh⟩ := isPair_some (h g (List.mem_range.2 hg))
  exact quietCalls hh rfl rfl hw

theorem suffs_mem : ∀ {l pre r : List Int} {x : Int}, l = pre ++ x :: r → (x, r) ∈ suffs l
  | _, [], _, _, h => by subst h; exact List.mem_cons_self
  | _, y :: pre, r, x, h => by subst h; exact List.mem_cons_of_mem _ (suffs_mem rfl)

theorem next_calls {g : Nat} (hg : g < 64) {pre r : List Int} {x : Int} (hx : xsOf g = pre ++ x :: r) {w : World} (hw : G1.S w) :
    Calls Tryd.prog 108 #[.int .u64 g, .int .i64 x] w fun e w' => e = .returned (.tuple #[.int .i64 (hd0 r), .bool (any0 r)]) ∧ Below w.heap.size w w' := by
  have h := nextAll
  rw [List.all_eq_true] at h
  have h := h g (List.mem_range.2 hg)
  unfold nextChk at h
  rw [List.all_eq_true] at h
  obtain ⟨H', hh⟩ := isPair_some (h _ (suffs_mem hx))
  exact quietCalls hh rfl rfl hw

theorem G1.below {n : Nat} (hn : 0 < n) {w w' : World} (h : Below n w w') (hw : G1.S w) : G1.S w' :=
  G1.st w w' hw fun b hb => h.block b (by have : b < 1 := hb; omega)

/-- How many numbers are to come from one on. -/
def mOf (g : Nat) (x : Int) : Nat := (xsOf g).length - (xsOf g).idxOf x
def ordChk (g : Nat) : Bool := (suffs (xsOf g)).all fun p => decide (mOf g p.1 = p.2.length + 1)
theorem ordAll : (List.range 64).all ordChk = true := by kernel_rfl
theorem mOf_eq {g : Nat} (hg : g < 64) {pre r : List Int} {x : Int} (hx : xsOf g = pre ++ x :: r) : mOf g x = r.length + 1 := by
  have h := ordAll
  rw [List.all_eq_true] at h
  have h := h g (List.mem_range.2 hg)
  unfold ordChk at h
  rw [List.all_eq_true] at h
  exact of_decide_eq_true (h _ (suffs_mem hx))
def mu (g : Nat) : Value → Value → Nat
  | .int _ x, .bool true => mOf g x
  | _, _ => 0
theorem mu_eq {g : Nat} (hg : g < 64) {pre r : List Int} (hx : xsOf g = pre ++ r) : mu g (.int .i64 (hd0 r)) (.bool (any0 r)) = r.length := by
  cases r with
  | nil => rfl
  | cons x r => exact mOf_eq hg hx

/-- What a round keeps: what lay, and the box of the group. -/
def KpL (n₀ Bn : Nat) (A B : World) : Prop := Below n₀ A B ∧ B.heap[Bn]? = A.heap[Bn]?
theorem KpL.trans {n₀ Bn : Nat} {A B C : World} (h : KpL n₀ Bn A B) (k : KpL n₀ Bn B C) : KpL n₀ Bn A C := ⟨h.1.trans k.1, k.2.trans h.2⟩

set_option maxRecDepth 100000 in
set_option maxHeartbeats 1000000 in
theorem all1_in (n : Nat) (hn : 1 ≤ n) (l Bn n₀ : Nat) (g : Nat) (hg : g < 64) (J Jx : List Int → World → Prop)
    (hY : ∀ pre x W, J pre W → pre.length < (xsOf g).length → YieldAt Fence.wide (n - 1) Tryd.prog l #[.int .i64 x] W fun e W' =>
      (e = .returned (.bool true) ∧ J (pre ++ [x]) W' ∧ KpL n₀ Bn W W') ∨ (e = .returned (.bool false) ∧ Jx (pre ++ [x]) W'))
    (hJ : ∀ pre W W', J pre W → Below W.heap.size W W' → J pre W')
    (W : World) (hBx : Boxed W Bn 123 (.int .u64 g)) (hp0 : 0 < n₀) (hn0 : n₀ ≤ W.heap.size) (hS : G1.S W) (h0 : J [] W) :
    CallsIn Fence.wide n Tryd.prog 106 #[.func (.yield l) #[] #[], .pointer (some ⟨Bn, 0, none⟩)] W fun e W' => (∃ v, e = .returned v) ∧
      ((∃ ys, ys = xsOf g ∧ J ys W') ∨ (∃ pre, pre <+: xsOf g ∧ Jx pre W')) := by
  have hBn := hBx.cell
  have hLeast : Fence.wide.fn 107 := trivial
  have hNext : Fence.wide.fn 108 := trivial
  refine callsIn_of_wp Tryd.func106 rfl trivial ?_ rfl
  simp only [Tryd.ntmps106, List.size_toArray, List.length_cons, List.length_nil, Nat.reduceAdd, Nat.reduceSub, Array.replicate_succ, Array.replicate_zero, List.push_toArray, List.append_toArray, List.nil_append, List.cons_append]
  gi_wp2_with (gi_at_call 107; refine (callsIn_wide.2 (least_calls hg hS)).mono ?_; rintro e w' ⟨rfl, hbw⟩)
  have hg0 : KpL n₀ Bn W w' := ⟨hbw.mono hn0, hbw.block _ hBx.lt⟩
  gi_loopw [3, 4] (fun i ok wr => ∃ (pre rest : List Int), i = .int .i64 (hd0 rest) ∧ ok = .bool (any0 rest) ∧ Hid (xsOf g = pre ++ rest) ∧ KpL n₀ Bn W wr ∧ J pre wr)
    (fun i ok _ => mu g i ok)
  case atStart =>
    exact ⟨[], xsOf g, rfl, rfl, rfl, hg0, hJ _ _ _ h0 hbw⟩
  case round =>
    obtain ⟨pre, rest, rfl, rfl, hx, hbl, hJs⟩ := hrel
    cases rest with
    | nil =>
      gi_wp2
      refine ⟨fun f h => (by cases h), ?_⟩
      gi_wp2
      go_end0
      exact ⟨⟨_, rfl⟩, .inl ⟨pre, by have h := hx.out; simpa using h.symm, hJs⟩⟩
    | cons x rest =>
      have e1 : hd0 (x :: rest) = x := rfl
      have e2 : any0 (x :: rest) = true := rfl
      rw [e1, e2]
      obtain ⟨fn, tmps, assign, body, hy, hR⟩ := hY pre x wr hJs (by rw [hx.out]; simp)
      gi_wp2
      refine hR.mono ?_
      rintro e W3 (⟨rfl, hJ3, hk3⟩ | ⟨rfl, hJx3⟩)
      · have hb3 : KpL n₀ Bn W W3 := KpL.trans hbl hk3
        have hx3 : Boxed W3 Bn 123 (.int .u64 g) := hb3.2.trans hBx
        have hc3 := hx3.cell
        have hS3 : G1.S W3 := G1.below hp0 hb3.1 hS
        gi_wp2_with (gi_at_call 108; refine (callsIn_wide.2 (next_calls hg hx.out hS3)).mono ?_; rintro e w4 ⟨rfl, hbw4⟩)
        have HX : Hid (xsOf g = (pre ++ [x]) ++ rest) := by have h := hx.out; unfold Hid; rw [h]; simp
        go_roundw
        case rel => exact ⟨pre ++ [x], rest, rfl, rfl, HX, KpL.trans hb3 ⟨hbw4.mono (Nat.le_trans hn0 hb3.1.size), hbw4.block _ hx3.lt⟩, hJ _ _ _ hJ3 hbw4⟩
        case measure =>
          rw [mu_eq hg HX.out]
          show _ < mOf g x
          rw [mOf_eq hg hx.out]; omega
      · gi_wp2
        go_end0
        exact ⟨⟨_, rfl⟩, .inr ⟨pre ++ [x], ⟨rest, by have h := hx.out; rw [h]; simp⟩, hJx3⟩⟩

theorem grownBy_of_below {W W' : World} (h : Below W.heap.size W W') : W.grownBy W' none :=
  ⟨h.os, h.tape, h.output, h.size, fun k hk _ => h.block k hk⟩

set_option maxHeartbeats 1000000 in
theorem all_in (n : Nat) (g : Int) (w : World) :
    CallsIn Fence.wide n Tryd.prog 99 #[.int .u64 g] w fun e w' => e = .returned (.func (.func 106) #[] #[.pointer (some ⟨w.heap.size, 0, none⟩)]) ∧ w' = w.alloc (.cells #[.int .u64 g] 123) := by
  refine callsIn_of_wp Tryd.func99 rfl trivial ?_ rfl
  simp only [Tryd.ntmps99, List.size_toArray, List.length_cons, List.length_nil, Nat.reduceAdd, Nat.reduceSub, Array.replicate_succ, Array.replicate_zero, List.push_toArray, List.append_toArray, List.nil_append, List.cons_append]
  gi_wp2
  go_ret
  exact ⟨rfl, rfl⟩

theorem all_stops (n : Nat) (hn : 1 ≤ n) (Bn n₀ : Nat) (g : Nat) (hg : g < 64) (w : World) (hp0 : 0 < n₀) (hn₀ : n₀ ≤ w.heap.size)
    (hc : Boxed w Bn 123 (.int .u64 g)) (hS : G1.S w) :
    SeqStopsK Fence.wide n Tryd.prog 106 #[.pointer (some ⟨Bn, 0, none⟩)] (fun x : Int => #[Value.int .i64 x]) (KpL n₀ Bn) (fun ys => ys = xsOf g) (fun pre => pre <+: xsOf g) (xsOf g).length w := fun l J Jx W hW hA _ hY h0 =>
  all1_in n hn l Bn n₀ g hg J Jx hY (fun pre A B hj hb => hA pre A B none hj (grownBy_of_below hb) (fun r e => by cases e)) W ((hW.block Bn hc.lt).trans hc) hp0 (Nat.le_trans hn₀ hW.size) (G1.below (Nat.lt_of_lt_of_le hp0 hn₀) hW hS) h0

theorem boxed_own {β : Type} (B : Nat) (t : TypeId) (v : Value) : Own (fun (_ : β) W => Boxed W B t v) := by
  intro s X Y row hb hg hrow
  refine hb.kept hg fun e => ?_
  obtain ⟨o, ho, hc⟩ := hrow _ e.symm
  rw [show X.heap[B]? = _ from hb] at ho
  cases ho; cases hc

theorem info3 : (Tryd.prog.info? 3).map (fun i => (i.zero, i.size, i.bytes)) = some (some (.int .i64 0), 1, 8) := by kernel_rfl

theorem xsOf_len (g : Int) : (xsOf g).length ≤ 64 := by
  unfold xsOf
  rw [List.length_map]
  exact Nat.le_trans (List.length_filter_le _ _) (by simp)

set_option maxRecDepth 100000 in
set_option maxHeartbeats 2000000 in
theorem list_in (g : Nat) (hg : g < 64) (w : World) (hS : G1.S w) :
    CallsIn Fence.wide 3 Tryd.prog 83 #[.int .u64 g] w fun e W' => ∃ v, e = .returned v ∧ W'.ownsRow w.heap.size 3 1 v (xsOf g).length ((xsOf g).map (Value.int .i64)) ∧ (v = .slice none 0 0 ↔ xsOf g = []) ∧ Below w.heap.size w W' := by
  have hAll : Fence.wide.fn 99 := trivial
  have hAllF : Fence.wide.fn 106 := trivial
  have hro : Fence.wide.round = none := rfl
  have hlen := xsOf_len g
  have hpos : 0 < w.heap.size := by
    obtain ⟨t, fz, h⟩ := hS
    exact (Array.getElem?_eq_some_iff.1 h).1
  obtain ⟨i0, hi, hz0, hz1, hz2⟩ := info_parts info3
  refine callsIn_of_wp_marks Tryd.func83 rfl trivial ?_ rfl
  simp only [Tryd.ntmps83, List.size_toArray, List.length_cons, List.length_nil, Nat.reduceAdd, Nat.reduceSub, Array.replicate_succ, Array.replicate_zero, List.push_toArray, List.append_toArray, List.nil_append, List.cons_append]
  gi_wp2_with (gi_at_call 99; refine (all_in _ _ _).mono ?_; rintro e w' ⟨rfl, rfl⟩)
  have bO := Boxed.new w 43 (.slice none 0 0)
  have bN := Boxed.new (w.alloc (.cells #[.slice none 0 0] 43)) 123 (.int .u64 (g : Int))
  rw [World.size_alloc] at bN
  have hB0 : Below w.heap.size w ((w.alloc (.cells #[.slice none 0 0] 43)).alloc (.cells #[.int .u64 (g : Int)] 123)) := ((Below.refl _ w).alloc (Nat.le_refl _) _).alloc (by simp) _
  have hB1 : Below (w.heap.size + 2) ((w.alloc (.cells #[.slice none 0 0] 43)).alloc (.cells #[.int .u64 (g : Int)] 123)) ((w.alloc (.cells #[.slice none 0 0] 43)).alloc (.cells #[.int .u64 (g : Int)] 123)) := Below.refl _ _
  refine wpIn_rangeFunc_ownG hro (by decide) (gf := 106) (lb := #[.pointer (some ⟨w.heap.size + 1, 0, none⟩)]) rfl hAllF (enters_of Tryd.func106 (by kernel_rfl) rfl)
    (all_stops 2 (by omega) (w.heap.size + 1) w.heap.size g hg _ hpos (by simp; omega) bN (G1.below hpos hB0 hS)) KpL.trans (fun W l o o' hl ho hc hw => ⟨belowK_b (w := w) (Nat.le_refl _) W l o o' (by simp at hl; omega) ho hc hw, World.putObj_heap_other (by simp at hl; omega)⟩) (Below.refl _ _) (fun _ => rfl)
    (fun (pre : List Int) W => ((∃ v, Boxed W w.heap.size 43 v ∧ W.ownsRow w.heap.size 3 1 v pre.length (pre.map (Value.int .i64)) ∧ (v = .slice none 0 0 ↔ pre = [])) ∧ Boxed W (w.heap.size + 1) 123 (.int .u64 g)) ∧ Below w.heap.size w W)
    (fun _ _ _ => False)
    (OwnFrom.and (OwnFrom.and (Own.from (holdsRow_own w.heap.size w.heap.size 43 3 1 (fun pre : List Int => pre.length) (fun pre : List Int => pre.map (Value.int .i64)) (fun pre v => v = .slice none 0 0 ↔ pre = [])) _) (Own.from (boxed_own _ _ _) _)) (ownFrom_below (Nat.le_refl _) (by simp; omega)))
    (fun _ _ _ _ _ hs _ _ => hs)
    ⟨⟨⟨_, bO.alloc _, World.ownsRow_nil _ _ _ _, by simp⟩, bN⟩, hB0⟩
    (fun x => { tmps := #[.int .u64 g, undef, .slice none 0 0, .pointer (some ⟨w.heap.size, 0, none⟩), .int .i64 x, .int .u64 g, .func (.func 106) #[] #[.pointer (some ⟨w.heap.size + 1, 0, none⟩)], .int .i64 x, undef, undef, undef, undef, undef], defers := [] }) ?assign ?body ?done ?stop
  case assign =>
    intro l x W K hK
    gi_wp2
    exact hK
  case body =>
    rintro l pre x W ⟨⟨⟨v, hv, hrow, hnil⟩, hbg⟩, hB⟩ hlt
    have hc := hv.cell
    gi_wp2_with (gi_at_builtin; refine wpListIn_append_own _ rfl _ _ 43 rfl w.heap.size 3 i0 (.int .i64 0) 1 8 Tryd.underlying43 hi hz0 hz1 hz2 rfl (by decide) _ _ _ rfl (hrow.alloc _) ⟨W.heap.size, 0, none⟩ 1 1 [.int .i64 x] rfl rfl (cell_one_new _ _ _) (by simp [Value.oneCell']) (by simp only [maxLen]; omega) (by omega) (by have := hB.size; simp; omega) ?_; intro v' w1 hown' hgrow _; obtain ⟨g', cap', rfl⟩ := ownsRow_succ hown'; obtain ⟨hv1, hv2, hr2, hk2, hb2⟩ := hv.appended (by decide) hrow hB.size (Nat.le_refl _) hown' hgrow; have hc1 := hv1.cell; have hf1 := hv1.frozen)
    have hbg1 := (hbg.alloc (.cells #[.int .i64 x] 3)).kept hgrow (hbg.not_row (by decide) hrow)
    have hbg2 := hbg1.kept (grownBy_setCell' w1 w.heap.size (.slice (some ⟨g', 0, none⟩) (pre.length + 1) cap')) (by simp)
    exact ⟨hk2.from _, ⟨hb2, hbg2.trans hbg.symm⟩, ⟨⟨_, hv2, by simpa using hr2, by simp⟩, hbg2⟩, hB.trans hb2⟩
  case done =>
    rintro D ys W hD rfl ⟨⟨⟨v, hv, hrow, hnil⟩, _⟩, hB⟩ hK
    have hc := hv.cell
    gi_wp2
    refine ⟨by simp, .inl ⟨_, _, rfl, run_takeDeferred hK, ?_⟩⟩
    exact ⟨_, results_tmp rfl _ _ _, v, rfl, ownsRow_putObj hrow _ hK rfl, hnil, hB.trans (belowK_b (w := w) (Nat.le_refl _) W D _ _ (by simp at hD; omega) hK rfl rfl)⟩
  case stop =>
    rintro D c pre W _ _ h _
    exact h.elim
end Go.Ab
