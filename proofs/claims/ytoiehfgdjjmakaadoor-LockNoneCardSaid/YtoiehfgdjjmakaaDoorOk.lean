/- The program's abstract functions, with the function List and the methods: each call does what they say. -/
import Derived.Test.YtoiehfgdjjmakaaDoorList
import Derived.Test.YtoiehfgdjjmakaaDoorTb
namespace Go.Ab
open Go Go.Proofs Go.RowKit

theorem S_pos {w : World} (h : G1.S w) : G1.n ≤ w.heap.size := by
  obtain ⟨t, fz, h⟩ := h
  exact (Array.getElem?_eq_some_iff.1 h).1

theorem list_ok (vs : List Value) (H : AHeap) (v : Value) (H' : AHeap) (hp : listPrim vs H = some (v, H')) (ι : Inj) (w : World) (vs' : List Value) (hr : Rel G1 ι H w) (hl : LVR ι vs vs') :
    Calls Tryd.prog 83 vs'.toArray w fun e w' => ∃ v' ι', e = .returned v' ∧ Post G1 ι H w ι' H' w' ∧ VR ι' v v' := by
  unfold listPrim at hp
  split at hp
  · rename_i g
    split at hp
    · rename_i hg
      obtain ⟨n, rfl⟩ : ∃ n : Nat, g = n := ⟨g.toNat, by omega⟩
      cases hl with
      | cons h1 h2 =>
      cases h1; cases h2
      have hS := hr.env
      refine (callsIn_wide.1 (list_in n (by omega) w hS)).mono ?_
      rintro e w' ⟨v', rfl, hown, hnil, hb⟩
      split at hp
      · rename_i hx
        cases hp
        rw [hnil.2 hx]
        exact ⟨_, ι, rfl, Post.below hr hb (S_pos hS), .slNil⟩
      · rename_i hx
        cases hp
        rcases hown.2 with ⟨rfl, h0⟩ | ⟨b, cap, cur, rfl, hbb, hbc, hcap, _, hcs, htk⟩
        · exact absurd (List.length_eq_zero_iff.1 h0) hx
        · rw [Nat.mul_one] at htk hcs
          have hlen : (xsOf n).length ≤ cur.size := by rw [hcs]; exact hcap
          refine ⟨_, _, rfl, Post.fresh hr hb (S_pos hS) hbb hbc ((xsOf n).map (Value.int .i64)) 1 (by simpa using hlen) ?_, ?_⟩
          · intro k v hk
            refine ⟨v, ?_, closedIn_vr _ 0 v ?_⟩
            · have : (cur.toList.take (xsOf n).length)[k]? = some v := by rw [htk]; exact hk
              rw [List.getElem?_take] at this
              split at this
              · simpa using this
              · cases this
            · rw [List.getElem?_map] at hk
              cases hx' : (xsOf n)[k]? with
              | none => rw [hx'] at hk; cases hk
              | some y => rw [hx'] at hk; cases hk; rfl
          · have := VR.sl (ι := ι.put H.next ⟨b, 0, cur.size, 1⟩) (i := H.next) (off := 0) (c := (xsOf n).length) (Inj.put_same _ _ _) hcap (by simp [hcs])
            simpa using this
    · cases hp
  · cases hp

theorem T_ok : ProgOk Tryd.prog G1 T where
  fn f fn h := tblFind_ok tblOk f fn h
  prim f p h := by
    by_cases hf : f = 83
    · subst hf
      have : p = listPrim := by simpa [T] using h.symm
      subst this
      exact ⟨by kernel_rfl, fun vs H v H' hp ι w vs' hr hl => list_ok vs H v H' hp ι w vs' hr hl⟩
    · simp [T, hf] at h
  meth := meth_ok mtabOk

theorem sound (k : Nat) : CallS Tryd.prog G1 (evFn T k) := fn_sound T_ok mixed k
end Go.Ab
