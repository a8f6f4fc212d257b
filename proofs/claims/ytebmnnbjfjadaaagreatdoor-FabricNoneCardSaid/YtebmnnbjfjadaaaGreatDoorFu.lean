/- What the premise of a listed table gives: the heap begins with it. -/
import Derived.Test.YtebmnnbjfjadaaaGreatDoorFt
import Derived.LaidMore
import Derived.Stop.Joined
import Derived.ProofKit
namespace Go.Ab
open Go Go.RowKit Go.WideShapes Go.ChangeShapes

section
variable {Hd : Type} {enc : TypeId × Value → Hd} {P : Program} {w : World} {base : Nat} {spare : Nat → Bool} {held : Bool}

theorem arr_lits {t e : TypeId} {n fuel : Nat} {k : IntKind} {cs : List Value} {l : List Int} {p : List MemPlace} (hu : P.underlying t = some (.array n e)) (he : P.underlying e = some (.int k))
    (h1 : P.cellsOf e = 1) (ht : P.cellsOf t = n) (hl : l.length = n) (h : DataW.trod enc P w base spare held fuel t cs = some (.agg (l.map fun x => .lit (.int k x)), p)) : cs = l.map (Value.int k) := by
  obtain ⟨xs, m, rfl, hx, hcl, hxl, hf⟩ := DataW.trod_array hu h
  simp only [Prod.mk.injEq, DataW.agg.injEq] at hx
  apply List.ext_getElem?
  intro i
  rcases Nat.lt_or_ge i n with hi | hi
  · have hf := hf i hi
    rw [List.getElem?_eq_getElem (by omega)] at hf
    obtain ⟨q, e1, e2, _⟩ := DataW.trod_int he hf
    rw [h1, Nat.mul_one] at e1
    have e3 : cs[i]? = some (.int k q) := by
      have := congrArg (fun z => z[0]?) e1
      simpa using this
    have e4 : (xs.map (·.1))[i]? = some (.lit (.int k q)) := by
      rw [List.getElem?_map, List.getElem?_eq_getElem (by omega)]
      simp [e2]
    rw [← hx.1, List.getElem?_map] at e4
    rw [e3, List.getElem?_map]
    cases hq : l[i]? with
    | none => rw [hq] at e4; cases e4
    | some y => rw [hq] at e4; simp at e4; subst e4; rfl
  · rw [List.getElem?_eq_none (by omega), List.getElem?_eq_none (by simp; omega)]
end

def tabInts : List Int := [0, 1, 56, 2, 57, 49, 28, 3, 61, 58, 42, 50, 38, 29, 17, 4, 62, 47, 59, 36, 45, 43, 51, 22, 53, 39, 33, 30, 24, 18, 12, 5, 63, 55, 48, 27, 60, 41, 37, 16, 46, 35, 44, 21, 52, 32, 23, 11, 54, 26, 40, 15, 34, 20, 31, 10, 25, 14, 19, 9, 13, 8, 7, 6]

theorem tabCells_eq : tabCells = tabInts.map (Value.int .u8) := rfl

theorem laid_S {P : Program} {w : World} {nm : String} {d : DataW Unit} {t e : TypeId} (h : laidMetH P [(nm, d)] w) (hpl : d.handleName?.isSome = false) (hd : d = .agg (tabInts.map fun x => .lit (.int .u8 x)))
    (hg : P.globalNamed nm = some 0) (ht : (P.globals[0]?).map (·.type) = some t) (hu : P.underlying t = some (.array 64 e)) (he : P.underlying e = some (.int .u8)) (h1 : P.cellsOf e = 1) (h64 : P.cellsOf t = 64) : G1.S w := by
  unfold laidMetH at h
  have hfl : ([(nm, d)].filter fun x => x.2.handleName?.isSome) = [] := by simp [hpl]
  rw [hfl] at h
  obtain ⟨ps, hv, _, _⟩ := h
  obtain ⟨g0, t0, cs0, f0, p0, q0, hg0, ht0, hv0, hd0, _⟩ := hv
  obtain rfl := Option.some.inj (hg.symm.trans hg0)
  obtain rfl := Option.some.inj (ht.symm.trans ht0)
  rw [hd] at hd0
  have hcs := arr_lits hu he h1 h64 rfl hd0
  unfold World.var? at hv0
  rw [hg] at hv0
  simp only [Option.bind_some] at hv0
  split at hv0
  · rename_i c t' fz hh
    cases hv0
    refine ⟨t', fz, ?_⟩
    rw [hh, tabCells_eq, ← hcs]
  · cases hv0
end Go.Ab
