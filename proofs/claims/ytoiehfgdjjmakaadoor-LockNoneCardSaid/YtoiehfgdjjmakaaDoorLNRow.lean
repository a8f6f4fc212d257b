/- LockNone: whatever its arguments are, the call returns true and leaves them as they were. The one condition: the library's listed table reads as the program's text lays it. -/
import Derived.Test.YtoiehfgdjjmakaaDoorLNLaw
import Derived.Test.YtoiehfgdjjmakaaDoorRows
import Derived.Test.YtoiehfgdjjmakaaDoorTie
import Derived.Test.YtoiehfgdjjmakaaDoorCards
import Derived.Handed
import Derived.SevenTiedAt
namespace Go.Proofs.YtoiehfgdjjmakaaDoor
open Go Go.Ab Go.ChangeShapes Go.WideShapes Go.RowKit

abbrev lnLaid : List (String × DataW Unit) := [("math/bits.deBruijn64tab", Rows.laid_math_bits_deBruijn64tab)]

theorem lnOwn : ownKnob Tryd.prog.godebug = none := by kernel_rfl

theorem lnDoor (os : Os) (args : Array Value) : laidMetH Tryd.prog lnLaid ((World.doorLaid Tryd.prog 400 os).forCall (fun _ _ => 0) ⟨#[], args, []⟩).memory :=
  laidMetH_of_parts3 (fuel := 8) (laidMet_of_run' 8 (by kernel_rfl) (by kernel_rfl)) (by kernel_rfl) (by kernel_rfl)

set_option maxRecDepth 100000 in
theorem lnLifted (os : Os) (started : os.Started) (H : Type) (enc : TypeId × Value → H) :
    ReturnsInHanded {} Tryd.checked os 4 .any (fun w args => (Rows.lockNoneSpec.pre enc Tryd.prog Tryd.f4 [] false w args ∧ laidMetH Tryd.prog lnLaid w) ∧ sizedMet enc Tryd.prog Tryd.f4 (OpenSpec.ofChange Rows.lockNoneSpec) false w args)
      (Rows.lockNoneSpec.post enc Tryd.prog Tryd.f4 false true false false) := by
  refine returnsInHanded_of_change_and (C := Tryd.checked) (X := fun w _ => laidMetH Tryd.prog lnLaid w) (fun _ _ _ hh h => h.of_heap hh) lnOwn started (by kernel_rfl) Tryd.func4
    (ChangeSpec.witness_shaped (enc := enc) (C := Tryd.checked) (os := os) (X := fun w _ => laidMetH Tryd.prog lnLaid w) false (World.doorLaid Tryd.prog 400 os) #[.agg #[.bool false, .int .u8 0, .int .u8 0, .int .u8 0, .int .u64 0], .agg #[.int .i64 0, .int .i64 0], .int .i64 0] 8 rfl (World.shaped_of_RefB (by kernel_rfl) (by kernel_rfl)) (by kernel_rfl) (by kernel_rfl) (by kernel_rfl) (lnDoor os _)) ?_
  intro W base args ds gs before hval hW _ _ hL _
  exact law_calls_at (Hd := H) (enc := enc) sound (by kernel_rfl) (f := 4) (fn := Tryd.f4) (s := Rows.lockNoneSpec) (by kernel_rfl) (by kernel_rfl) rfl Tryd.underlying4 rfl
    (fun ds h => by
      rw [Tryd.params4] at h
      match ds, h with
      | [_, _, _], _ => exact ⟨rfl, rfl, rfl⟩)
    law_locknone hval hW (laid_S hL (by rfl) rfl (by kernel_rfl) (by kernel_rfl) Tryd.underlying145 Tryd.underlying5 (by kernel_rfl) (by kernel_rfl))

theorem lnRow : Rows.LockNoneSaid :=
  OpenClaim.holds_of_wide 4 Tryd.f4 rfl rfl rfl rfl rfl rfl rfl ⟨rfl, rfl, rfl, rfl, rfl⟩ rfl rfl rfl rfl rfl (by kernel_rfl) Tryd.func4 (by kernel_rfl)
    (of_decide_eq_true (by kernel_rfl)) (by unfold Func.isWrapper; first | (rw [if_pos (by decide +kernel)]; kernel_rfl) | (rw [if_neg (by decide +kernel)]; exact ⟨rfl, rfl⟩))
    (fun os started H enc _ => lnLifted os started H enc)

theorem lnStand : (Tryd.f4.params.toList.all fun t => !Tryd.prog.wantsStandIn t) = true := by kernel_rfl

theorem lnCard : Rows.LockNoneCardSaid :=
  Claim7.holds_tied_plain_at .later [] [.data] true Rows.lockNoneCard.stood.harness false
    lnRow (fun _ h => by cases h) (by kernel_rfl) (fun _ h => by cases h) lockNone_row_tie rfl ⟨rfl, rfl⟩ (by kernel_rfl) rfl
    (fun f fn hf hfn => by
      obtain rfl : f = 4 := Option.some.inj ((show Tryd.prog.funcNamed Rows.lockNoneRow.func = some 4 by kernel_rfl).symm.trans hf) |>.symm
      obtain rfl : fn = Tryd.f4 := (Option.some.inj (Tryd.func4.symm.trans hfn)).symm
      exact ⟨by kernel_rfl, fun j t ht => by
        have h := lnStand
        rw [List.all_eq_true] at h
        have := h t (List.mem_of_getElem? (by simpa using ht))
        exact (show Tryd.prog.wantsStandIn t = false by simpa using this)⟩)
    (by kernel_rfl)
#print axioms lnCard
end Go.Proofs.YtoiehfgdjjmakaaDoor
