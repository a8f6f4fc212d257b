/- The methods of a program that are found by name. -/
import Derived.Test.YtebmnnbjfjadaaaGreatDoorFq
namespace Go.Ab
open Go

def mFind : List (TypeId × String × FuncId) → TypeId → String → Option FuncId
  | [], _, _ => none
  | (t', m', f) :: r, t, m => if t = t' then (if m = m' then some f else mFind r t m) else mFind r t m

def mPtr : Option TypeDesc → Bool
  | some (.pointer _) => true
  | _ => false

def mRec (f : FuncId) : Option (FuncId × Bool) → Bool
  | some (f', true) => f' == f
  | _ => false

def mMeth (m : String) (f : FuncId) : Option TypeInfo → Bool
  | some i => match i.methods.find? (·.name == m) with
    | some md => md.path.isEmpty && mRec f md.func
    | none => false
  | none => false

def mChk (P : Program) (e : TypeId × String × FuncId) : Bool := mMeth e.2.1 e.2.2 (P.info? e.1) && mPtr (P.underlying e.1)

def mAll (P : Program) : List (TypeId × String × FuncId) → Prop
  | [] => True
  | e :: r => mChk P e = true ∧ mAll P r

theorem meth_one {P : Program} {t : TypeId} {m : String} {f : FuncId} (h : mChk P (t, m, f) = true) (v : Value) (w : World) :
    (method (P.types.size + Made.depth) t v m).run P w = .ok (f, v) w := by
  unfold mChk at h
  simp only [Bool.and_eq_true] at h
  obtain ⟨h1, h2⟩ := h
  unfold mMeth at h1
  split at h1
  · rename_i i hi
    split at h1
    · rename_i md hmd
      simp only [Bool.and_eq_true, Array.isEmpty_iff] at h1
      obtain ⟨hp, hr⟩ := h1
      unfold mRec at hr
      split at hr
      · rename_i f' hf
        simp only [beq_iff_eq] at hr
        subst hr
        unfold mPtr at h2
        split at h2
        · rename_i e hu
          obtain ⟨k, hk⟩ : ∃ k, P.types.size + Made.depth = k + 1 := ⟨P.types.size + 99, by simp [Made.depth]⟩
          rw [hk]
          simp [method, typeInfo, hi, hmd, hp, hf, follow, receiverAt, underlying, hu, Place.get, go_sem]
        · cases h2
      · cases hr
    · cases h1
  · cases h1

theorem meth_ok {P : Program} : ∀ {l : List (TypeId × String × FuncId)}, mAll P l → MethS P (mFind l)
  | [], _ => fun _ _ _ h => nomatch h
  | (t', m', f') :: r, h => fun t m f hf => by
    unfold mFind at hf
    split at hf
    · rename_i e; subst e
      split at hf
      · rename_i e; subst e; cases hf
        exact meth_one h.1
      · exact meth_ok h.2 t m f hf
    · exact meth_ok h.2 t m f hf
end Go.Ab
