/- Steps over a heap that is known by what it holds. -/
import Derived.Test.YtebmnnbjfjadaaaGreatDoorFu
namespace Go.Ab
open Go

section
variable {T : AProg} {its : List AItem} {σ : Env} {H : AHeap} {Q : Env → AHeap → Prop}

theorem wi_load1 {d : Option Nat} {x : AOpd} {i off : Nat} {o : AObj} {v : Value} (hx : σ.rd x = some (.pointer (some ⟨i, off, none⟩))) (hg : H.get i = some o) (hv : o.cells[off]? = some v)
    (h : WI T its (σ.putO d v) H Q) : WI T (⟨d, none, .load none x⟩ :: its) σ H Q :=
  wi_plain (v := v) (H' := H) (by simp only [evItem, evOp, hx, aLoad, hg, hv]) h

theorem wi_loadN {d : Option Nat} {x : AOpd} {i off n : Nat} {o : AObj} {cs : List Value} (hx : σ.rd x = some (.pointer (some ⟨i, off, none⟩))) (hg : H.get i = some o) (hv : readN o.cells off n = some cs)
    (h : WI T its (σ.putO d (.agg cs.toArray)) H Q) : WI T (⟨d, none, .load (some n) x⟩ :: its) σ H Q :=
  wi_plain (v := .agg cs.toArray) (H' := H) (by simp only [evItem, evOp, hx, aLoad, AHeap.read, hg, hv]) h

theorem wi_store {d : Option Nat} {x a : AOpd} {i off n : Nat} {o : AObj} {v : Value} (ha : σ.rd a = some (.pointer (some ⟨i, off, none⟩))) (hx : σ.rd x = some v) (hg : H.get i = some o)
    (hc : H.lo ≤ i ∧ v.cells.size = n ∧ off + n ≤ o.cells.length ∧ v.cells.toList.all one = true)
    (h : WI T its (σ.putO d undef) (H.set i { o with cells := writeN o.cells off v.cells.toList }) Q) : WI T (⟨d, none, .store n a x⟩ :: its) σ H Q :=
  wi_plain (v := undef) (H' := H.set i { o with cells := writeN o.cells off v.cells.toList }) (by simp only [evItem, evOp, ha, hx, hg, if_pos hc]) h

theorem wi_indexS {d : Option Nat} {x y : AOpd} {b off size len c : Nat} {k : IntKind} {i : Int} (hx : σ.rd x = some (.slice (some ⟨b, off, none⟩) len c)) (hy : σ.rd y = some (.int k i)) (hi : 0 ≤ i ∧ i < len)
    (h : WI T its (σ.putO d (.pointer (some ⟨b, off + i.toNat * size, none⟩))) H Q) : WI T (⟨d, none, .indexAddr none size x y⟩ :: its) σ H Q :=
  wi_plain (v := .pointer (some ⟨b, off + i.toNat * size, none⟩)) (H' := H) (by simp only [evItem, evOp, hx, hy, if_pos hi]) h

theorem wi_indexA {d : Option Nat} {x y : AOpd} {b off size len : Nat} {k : IntKind} {i : Int} (hx : σ.rd x = some (.pointer (some ⟨b, off, none⟩))) (hy : σ.rd y = some (.int k i)) (hi : 0 ≤ i ∧ i < len)
    (h : WI T its (σ.putO d (.pointer (some ⟨b, off + i.toNat * size, none⟩))) H Q) : WI T (⟨d, none, .indexAddr (some len) size x y⟩ :: its) σ H Q :=
  wi_plain (v := .pointer (some ⟨b, off + i.toNat * size, none⟩)) (H' := H) (by simp only [evItem, evOp, hx, hy, if_pos hi]) h

theorem wi_append0 {d : Option Nat} {x y : AOpd} {size bytes c0 j joff m c : Nat} {o : AObj} {news : List Value} (hx : σ.rd x = some (.slice none 0 c0)) (hy : σ.rd y = some (.slice (some ⟨j, joff, none⟩) m c)) (hm : m ≠ 0)
    (hg : H.get j = some o) (hr : readN o.cells joff (m * size) = some news)
    (hc : (decide ((0 + m) * bytes ≤ 2 ^ 46) && decide (0 < bytes) && decide (0 < size) && (o.esz == size) && news.all one) = true)
    (h : WI T its (σ.putO d (.slice (some ⟨H.next, 0, none⟩) m m)) (H.new ⟨news, size⟩) Q) : WI T (⟨d, none, .append size bytes x y⟩ :: its) σ H Q :=
  wi_plain (v := .slice (some ⟨H.next, 0, none⟩) m m) (H' := H.new ⟨news, size⟩) (by
    simp only [evItem, evOp, hx, hy, aAppend, if_neg hm, AHeap.read, hg, hr, Option.any_some, hc, Bool.not_true, if_true]
    rfl) h

theorem wi_append1 {d : Option Nat} {x y : AOpd} {size bytes i off n c0 j joff m c : Nat} {o p : AObj} {news : List Value} (hx : σ.rd x = some (.slice (some ⟨i, off, none⟩) n c0)) (hy : σ.rd y = some (.slice (some ⟨j, joff, none⟩) m c)) (hm : m ≠ 0)
    (hg : H.get j = some o) (hr : readN o.cells joff (m * size) = some news) (hp : H.get i = some p)
    (hc : (decide ((n + m) * bytes ≤ 2 ^ 46) && decide (0 < bytes) && decide (0 < size) && (o.esz == size) && news.all one) = true)
    (ho : H.lo ≤ i ∧ off + n * size = p.cells.length ∧ p.esz = size ∧ i ≠ j)
    (h : WI T its (σ.putO d (.slice (some ⟨H.next, 0, none⟩) (n + m) (n + m))) ((H.del i).new ⟨p.cells.drop off ++ news, size⟩) Q) : WI T (⟨d, none, .append size bytes x y⟩ :: its) σ H Q :=
  wi_plain (v := .slice (some ⟨H.next, 0, none⟩) (n + m) (n + m)) (H' := (H.del i).new ⟨p.cells.drop off ++ news, size⟩) (by
    simp only [evItem, evOp, hx, hy, aAppend, if_neg hm, AHeap.read, hg, hr, Option.any_some, hc, Bool.not_true, hp, if_pos ho]
    rfl) h

theorem wi_buildSlice {d : Option Nat} {size len : Nat} {zero : Array Value} {ps : List (Nat × AOpd)} {vs : List Value} {cs : Array Value} (hx : σ.rds (ps.map (·.2)) = some vs)
    (hf : fillIn (repeatCells zero (len * size)) (zipParts (ps.map fun p => ((p.1 * size, size), p.2)) vs) = some cs) (hs : size ≠ 0)
    (h : WI T its (σ.putO d (.slice (some ⟨H.next, 0, none⟩) len len)) (H.new ⟨cs.toList, size⟩) Q) : WI T (⟨d, none, .buildSlice size zero len ps⟩ :: its) σ H Q :=
  wi_plain (v := .slice (some ⟨H.next, 0, none⟩) len len) (H' := H.new ⟨cs.toList, size⟩) (by simp only [evItem, evOp, hx, hf, if_neg hs]) h
end

theorem aLoad_row {H : AHeap} {i off n : Nat} {o : AObj} {cs : List Value} (hg : H.get i = some o) (hr : readN o.cells off n = some cs) : aLoad H (some n) (.pointer (some ⟨i, off, none⟩)) = some (.agg cs.toArray) := by
  simp only [aLoad, AHeap.read, hg, hr]
theorem aLoad_one {H : AHeap} {i off : Nat} {o : AObj} {v : Value} (hg : H.get i = some o) (hr : o.cells[off]? = some v) : aLoad H none (.pointer (some ⟨i, off, none⟩)) = some v := by
  simp only [aLoad, hg, hr]
theorem evRes_tmp {σ : Env} {H : AHeap} {t : Nat} {r : List ARv} {v : Value} {us : List Value} (ht : σ.find t = some v) (hr : evRes σ H r = some us) : evRes σ H (.tmp t :: r) = some (v :: us) := by
  simp only [evRes, ht, hr]
theorem evRes_cell {σ : Env} {H : AHeap} {t : Nat} {n : Option Nat} {r : List ARv} {a v : Value} {us : List Value} (ht : σ.find t = some a) (hl : aLoad H n a = some v) (hr : evRes σ H r = some us) : evRes σ H (.cell t n :: r) = some (v :: us) := by
  simp only [evRes, ht, hl, hr]
end Go.Ab
