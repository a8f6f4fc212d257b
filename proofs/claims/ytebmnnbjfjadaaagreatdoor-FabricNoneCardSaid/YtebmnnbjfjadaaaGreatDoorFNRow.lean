/- FabricNone: whatever its arguments are, the call returns true and leaves them as they were. The one condition: the library's listed table reads as the program's text lays it. -/
import Derived.Test.YtebmnnbjfjadaaaGreatDoorFNLaw
import Derived.Test.YtebmnnbjfjadaaaGreatDoorRows
import Derived.Test.YtebmnnbjfjadaaaGreatDoorTie
import Derived.Test.YtebmnnbjfjadaaaGreatDoorCards
import Derived.Handed
import Derived.SevenTiedAt
namespace Go.Proofs.YtebmnnbjfjadaaaGreatDoor
open Go Go.Ab Go.ChangeShapes Go.WideShapes Go.RowKit

abbrev fnLaid : List (String × DataW Unit) := [("math/bits.deBruijn64tab", Rows.laid_math_bits_deBruijn64tab)]

theorem fnOwn : ownKnob Tryz.prog.godebug = none := by kernel_rfl

theorem fnDoor (os : Os) (args : Array Value) : laidMetH Tryz.prog fnLaid ((World.doorLaid Tryz.prog 400 os).forCall (fun _ _ => 0) ⟨#[], args, []⟩).memory :=
  laidMetH_of_parts3 (fuel := 8) (laidMet_of_run' 8 (by kernel_rfl) (by kernel_rfl)) (by kernel_rfl) (by kernel_rfl)

set_option maxRecDepth 100000 in
theorem fnLifted (os : Os) (started : os.Started) (H : Type) (enc : TypeId × Value → H) :
    ReturnsInHanded {} Tryz.checked os 4 .any (fun w args => (Rows.fabricNoneSpec.pre enc Tryz.prog Tryz.f4 [] false w args ∧ laidMetH Tryz.prog fnLaid w) ∧ sizedMet enc Tryz.prog Tryz.f4 (OpenSpec.ofChange Rows.fabricNoneSpec) false w args)
      (Rows.fabricNoneSpec.post enc Tryz.prog Tryz.f4 false true false false) := by
  refine returnsInHanded_of_change_and (C := Tryz.checked) (X := fun w _ => laidMetH Tryz.prog fnLaid w) (fun _ _ _ hh h => h.of_heap hh) fnOwn started (by kernel_rfl) Tryz.func4
    (ChangeSpec.witness_shaped (enc := enc) (C := Tryz.checked) (os := os) (X := fun w _ => laidMetH Tryz.prog fnLaid w) false (World.doorLaid Tryz.prog 400 os) #[.slice none 0 0, .int .i64 0, .int .i64 0] 8 rfl (World.shaped_of_RefB (by kernel_rfl) (by kernel_rfl)) (by kernel_rfl) (by kernel_rfl) (by kernel_rfl) (fnDoor os _)) ?_
  intro W base args ds gs before hval hW _ _ hL _
  exact law_calls_at (Hd := H) (enc := enc) sound (by kernel_rfl) (f := 4) (fn := Tryz.f4) (s := Rows.fabricNoneSpec) (by kernel_rfl) (by kernel_rfl) rfl Tryz.underlying4 rfl
    (fun ds h => by
      rw [Tryz.params4] at h
      match ds, h with
      | [_, _, _], _ => exact ⟨rfl, rfl, rfl⟩)
    law_fnone hval hW (laid_S hL (by rfl) rfl (by kernel_rfl) (by kernel_rfl) Tryz.underlying260 Tryz.underlying5 (by kernel_rfl) (by kernel_rfl))

theorem fnRow : Rows.FabricNoneSaid :=
  OpenClaim.holds_of_wide 4 Tryz.f4 rfl rfl rfl rfl rfl rfl rfl ⟨rfl, rfl, rfl, rfl, rfl⟩ rfl rfl rfl rfl rfl (by kernel_rfl) Tryz.func4 (by kernel_rfl)
    (of_decide_eq_true (by kernel_rfl)) (by unfold Func.isWrapper; first | (rw [if_pos (by decide +kernel)]; kernel_rfl) | (rw [if_neg (by decide +kernel)]; exact ⟨rfl, rfl⟩))
    (fun os started H enc _ => fnLifted os started H enc)

theorem fnStand : (Tryz.f4.params.toList.all fun t => !Tryz.prog.wantsStandIn t) = true := by kernel_rfl

theorem fnCard : Rows.FabricNoneCardSaid :=
  Claim7.holds_tied_plain_at .later [] [.data] true Rows.fabricNoneCard.stood.harness false
    fnRow (fun _ h => by cases h) (by kernel_rfl) (fun _ h => by cases h) fabricNone_row_tie rfl ⟨rfl, rfl⟩ (by kernel_rfl) rfl
    (fun f fn hf hfn => by
      obtain rfl : f = 4 := Option.some.inj ((show Tryz.prog.funcNamed Rows.fabricNoneRow.func = some 4 by kernel_rfl).symm.trans hf) |>.symm
      obtain rfl : fn = Tryz.f4 := (Option.some.inj (Tryz.func4.symm.trans hfn)).symm
      exact ⟨by kernel_rfl, fun j t ht => by
        have h := fnStand
        rw [List.all_eq_true] at h
        have := h t (List.mem_of_getElem? (by simpa using ht))
        exact (show Tryz.prog.wantsStandIn t = false by simpa using this)⟩)
    (by kernel_rfl)
#print axioms fnCard
end Go.Proofs.YtebmnnbjfjadaaaGreatDoor
