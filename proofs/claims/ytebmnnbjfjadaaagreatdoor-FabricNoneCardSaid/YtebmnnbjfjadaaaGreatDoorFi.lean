/- The check of an operation that makes no call, and its soundness. -/
import Derived.Test.YtebmnnbjfjadaaaGreatDoorFh
import Derived.Laws.Concat
namespace Go.Ab
open Go

def isBoolT (P : Program) (t : TypeId) : Bool :=
  match P.underlying t with
  | some .bool => true
  | _ => false

def isIntT (P : Program) (t : TypeId) (k : IntKind) : Bool :=
  match P.underlying t with
  | some (.int k') => decide (k' = k)
  | _ => false

/-- How many cells a value of a type takes, if it is an aggregate. -/
def aggOf (P : Program) (t : TypeId) : Option (Option Nat) :=
  match P.underlying t, P.info? t with
  | some d, some i => if isAggT d then some (some i.size) else some none
  | _, _ => none

def zeroOf (P : Program) (t : TypeId) : Option (Array Value) :=
  match P.info? t with
  | some i => match i.zero with
    | some z => if z.cells.toList.all (closedIn 4) then some z.cells else none
    | none => none
  | none => none

def sizeT (P : Program) (t : TypeId) : Option Nat := (P.info? t).map (·.size)

def chkPartsS (gl : Nat) (fields : Array Field) (P : Program) : List ((Nat × Nat) × AOpd) → List (Nat × Operand) → Bool
  | [], [] => true
  | (p, x) :: r, (i, y) :: r' => (match fields[i]? with
      | some f => decide (p = (f.offset, P.cellsOf f.type))
      | none => false) && chkOpd gl x y && chkPartsS gl fields P r r'
  | _, _ => false

def chkPartsA (gl : Nat) (size : Nat) : List ((Nat × Nat) × AOpd) → List (Nat × Operand) → Bool
  | [], [] => true
  | (p, x) :: r, (i, y) :: r' => decide (p = (i * size, size)) && chkOpd gl x y && chkPartsA gl size r r'
  | _, _ => false

def chkPartsI (gl : Nat) : List (Nat × AOpd) → List (Nat × Operand) → Bool
  | [], [] => true
  | (p, x) :: r, (i, y) :: r' => decide (p = i) && chkOpd gl x y && chkPartsI gl r r'
  | _, _ => false

def chkOpdO (gl : Nat) : Option AOpd → Option Operand → Bool
  | none, none => true
  | some x, some y => chkOpd gl x y
  | _, _ => false

def zeroIs (P : Program) (t : TypeId) (z : Array Value) : Bool :=
  match zeroOf P t with
  | some z' => eqVs (eqV 4) z'.toList z.toList
  | none => false

def nilDesc : NilKind → TypeDesc → Value → Bool
  | .ptr, .pointer _, .pointer none => true
  | .sl, .slice _, .slice none 0 0 => true
  | .iface, .interface _, .nilIface => true
  | .fn, .func .., .nilFunc => true
  | _, _, _ => false

def chkOp (P : Program) (gl : Nat) (ao : AOp) (o : Op) : Bool :=
  match ao with
  | .mov x => match o with
    | .move y | .assign y => chkOpd gl x y
    | _ => false
  | .pick c a b => match o with
    | .pick c' a' b' => chkOpd gl c c' && chkOpd gl a a' && chkOpd gl b b'
    | _ => false
  | .alloc zero => match o with
    | .alloc t => zeroIs P t zero.toArray
    | _ => false
  | .box x => match o with
    | .box _ y => chkOpd gl x y
    | _ => false
  | .build zero ps => match o with
    | .build t qs => zeroIs P t zero && (match P.underlying t with
      | some (.struct fields) => fields.toList.all (fun f => (P.info? f.type).isSome) && chkPartsS gl fields P ps qs.toList
      | some (.array _ e) => match sizeT P e with
        | some size => chkPartsA gl size ps qs.toList
        | none => false
      | _ => false)
    | _ => false
  | .buildSlice size zero len ps => match o with
    | .buildSlice t len' qs => decide (len = len') && (match P.underlying t with
      | some (.slice e) => decide (sizeT P e = some size) && zeroIs P e zero && decide (zero.size = size) && decide (len * size ≤ 2 ^ 24) && chkPartsI gl ps qs.toList
      | _ => false)
    | _ => false
  | .load n x => match o with
    | .load t y => decide (aggOf P t = some n) && chkOpd gl x y
    | _ => false
  | .store n a x => match o with
    | .store t b y => decide (sizeT P t = some n) && chkOpd gl a b && chkOpd gl x y
    | _ => false
  | .nilChk x => match o with
    | .nilCheck y => chkOpd gl x y
    | _ => false
  | .bin op x y => match o with
    | .binOp op' _ x' y' _ => decide (op = op') && chkOpd gl x x' && chkOpd gl y y'
    | _ => false
  | .eqB neg x y => match o with
    | .binOp op t x' y' _ => decide (op = if neg then .neq else .eql) && isBoolT P t && chkOpd gl x x' && chkOpd gl y y'
    | _ => false
  | .isNil k neg x => match o with
    | .binOp op t x' (.const v) _ => decide (op = if neg then .neq else .eql) && chkOpd gl x x' && (match P.underlying t with
      | some d => nilDesc k d v
      | none => false)
    | _ => false
  | .un op x => match o with
    | .unOp op' _ y => decide (op = op') && chkOpd gl x y
    | _ => false
  | .conv k x => match o with
    | .convert src dst y => (P.underlying src).isSome && isIntT P dst k && chkOpd gl x y
    | _ => false
  | .mkIface t x => match o with
    | .makeInterface t' y => decide (t = t') && P.concrete t && chkOpd gl x y
    | _ => false
  | .mkFunc fn a c => match o with
    | .makeFunc fn' a' c' => decide (fn = fn') && chkOpds gl a a'.toList && chkOpds gl c c'.toList
    | _ => false
  | .mkSlice size bytes zero l => match o with
    | .makeSlice t x y => chkOpd gl l x && chkOpd gl l y && (match P.underlying t with
      | some (.slice e) => decide ((P.info? e).map (fun i => (i.size, i.bytes)) = some (size, bytes)) && zeroIs P e zero && decide (zero.size = size)
      | _ => false)
    | _ => false
  | .slice size x lo hi => match o with
    | .slice t x' lo' hi' none => chkOpd gl x x' && chkOpdO gl lo lo' && chkOpdO gl hi hi' && (match P.underlying t with
      | some (.slice e) => decide (sizeT P e = some size)
      | _ => false)
    | _ => false
  | .fieldAddr off x => match o with
    | .fieldAddr s y f => chkOpd gl x y && (match P.underlying s with
      | some (.struct fields) => match fields[f]? with
        | some fl => decide (fl.offset = off) && decide (P.cellsOf fl.type ≠ 0)
        | none => false
      | _ => false)
    | _ => false
  | .field off n x => match o with
    | .field s y f => chkOpd gl x y && (match P.underlying s with
      | some (.struct fields) => match fields[f]? with
        | some fl => decide (fl.offset = off) && decide (aggOf P fl.type = some n)
        | none => false
      | _ => false)
    | _ => false
  | .indexAddr arr size x i => match o with
    | .indexAddr t x' i' => chkOpd gl x x' && chkOpd gl i i' && (match P.underlying t with
      | some (.array len e) => decide (arr = some len) && decide (sizeT P e = some size)
      | some (.slice e) => decide (arr = none) && decide (sizeT P e = some size)
      | _ => false)
    | _ => false
  | .index len size n x i => match o with
    | .index t x' i' => chkOpd gl x x' && chkOpd gl i i' && (match P.underlying t with
      | some (.array len' e) => decide (len = len') && decide (sizeT P e = some size) && decide (aggOf P e = some n)
      | _ => false)
    | _ => false
  | .extract x i => match o with
    | .extract y j => decide (i = j) && chkOpd gl x y
    | _ => false
  | .len str x => match o with
    | .call { callee := .builtin .len, args, argTypes } => match args.toList, argTypes.toList with
      | [y], [t] => chkOpd gl x y && (match P.underlying t with
        | some .string => str
        | some (.slice _) => !str
        | _ => false)
      | _, _ => false
    | _ => false
  | .append size bytes x y => match o with
    | .call { callee := .builtin .append, args, argTypes } => match args.toList, argTypes.toList with
      | [x', y'], [t, u] => decide (t = u) && chkOpd gl x x' && chkOpd gl y y' && (match P.underlying t with
        | some (.slice e) => decide ((P.info? e).map (fun i => (i.size, i.bytes)) = some (size, bytes)) && (match zeroOf P e with
          | some z => decide (z.size = size)
          | none => false)
        | _ => false)
      | _, _ => false
    | _ => false
  | .minmax mx x y => match o with
    | .call { callee := .builtin b, args, .. } => (match b with | .max => mx | .min => !mx | _ => false) && (match args.toList with
      | [x', y'] => chkOpd gl x x' && chkOpd gl y y'
      | _ => false)
    | _ => false
  | _ => false

/-- What an operation comes to. -/
def OpR (P : Program) (G : Glob) (ι : Inj) (H : AHeap) (w : World) (s : Sem Next) (v : Value) (H' : AHeap) : Prop :=
  ∃ nx v' w' ι', s.run P w = .ok nx w' ∧ (nx = Next.value v' ∨ (nx = Next.skip ∧ v' = undef)) ∧ Post G ι H w ι' H' w' ∧ VR ι' v v'

section
variable {P : Program} {G : Glob} {ι : Inj} {H : AHeap} {w : World}

theorem OpR.value (hr : Rel G ι H w) {s : Sem Value} {v v' : Value} (h : s.run P w = .ok v' w) (hv : VR ι v v') : OpR P G ι H w (do pure (Next.value (← s))) v H :=
  ⟨Next.value v', v', w, ι, by simp [h], .inl rfl, Post.refl hr, hv⟩

theorem OpR.here (hr : Rel G ι H w) {v v' : Value} (hv : VR ι v v') : OpR P G ι H w (Pure.pure (Next.value v')) v H :=
  ⟨Next.value v', v', w, ι, rfl, .inl rfl, Post.refl hr, hv⟩

theorem OpR.value' {s : Sem Value} {v v' : Value} {w' : World} {ι' : Inj} {H' : AHeap} (h : s.run P w = .ok v' w') (hp : Post G ι H w ι' H' w') (hv : VR ι' v v') :
    OpR P G ι H w (do pure (Next.value (← s))) v H' :=
  ⟨Next.value v', v', w', ι', by simp [h], .inl rfl, hp, hv⟩

theorem zeroOf_spec {t : TypeId} {z : Array Value} (h : zeroOf P t = some z) : ∃ i z', P.info? t = some i ∧ i.zero = some z' ∧ z'.cells = z ∧ z.toList.all (closedIn 4) = true := by
  unfold zeroOf at h
  split at h
  · rename_i i hi
    split at h
    · rename_i z' hz
      split at h
      · rename_i hc; cases h; exact ⟨i, z', hi, hz, rfl, hc⟩
      · cases h
    · cases h
  · cases h

theorem zeroIs_spec {t : TypeId} {z : Array Value} (h : zeroIs P t z = true) : ∃ i z', P.info? t = some i ∧ i.zero = some z' ∧ z'.cells = z ∧ z.toList.all (closedIn 4) = true := by
  unfold zeroIs at h
  split at h
  · rename_i z' hz
    have := arr_eq (eqVs_eq (eqV_eq 4) _ _ h)
    subst this
    exact zeroOf_spec hz
  · cases h

theorem int_inv {k : IntKind} {n : Int} {v' : Value} (h : VR ι (.int k n) v') : v' = .int k n := by cases h; rfl
theorem bool_inv {b : Bool} {v' : Value} (h : VR ι (.bool b) v') : v' = .bool b := by cases h; rfl
theorem string_inv {s : ByteArray} {v' : Value} (h : VR ι (.string s) v') : v' = .string s := by cases h; rfl

theorem aBinInt_sound {op : BinOp} {k yk : IntKind} {a b : Int} {t : TypeId} {v : Value} (h : aBinInt op k a yk b = some v) :
    (binOp op t (.int k a) (.int yk b)).run P w = .ok v w ∧ closedIn 0 v = true := by
  cases op <;> simp only [aBinInt] at h <;> split at h <;> (first | (cases h; done) | skip)
  all_goals (rename_i hc; cases h)
  case quo => obtain ⟨rfl, hb⟩ := hc; refine ⟨?_, rfl⟩; simp [binOp, Op.intDiv, hb]
  case rem => obtain ⟨rfl, hb⟩ := hc; refine ⟨?_, rfl⟩; simp [binOp, Op.intDiv, hb]
  case shl =>
    refine ⟨?_, rfl⟩
    have : ¬ b < 0 := by omega
    simp [binOp, Op.shift, this]
  case shr =>
    refine ⟨?_, rfl⟩
    have : ¬ b < 0 := by omega
    simp [binOp, Op.shift, this]
  all_goals (subst hc; refine ⟨?_, rfl⟩; simp [binOp, Op.intArith, Op.intBits, Op.intCmp])

theorem aBin_sound {op : BinOp} {x y : Value} {t : TypeId} {v : Value} (h : aBin op x y = some v) (ox oy : Operand) :
    (do eqGuard op t ox oy x y; binOp op t x y : Sem Value).run P w = .ok v w ∧ closedIn 0 v = true ∧ (∀ x', VR ι x x' → x' = x) ∧ (∀ y', VR ι y y' → y' = y) := by
  cases x <;> cases y <;> simp only [aBin] at h <;> (first | (cases h; done) | skip)
  case int.int k a yk b =>
    obtain ⟨h1, h2⟩ := aBinInt_sound (P := P) (w := w) (t := t) h
    refine ⟨?_, h2, fun _ h => int_inv h, fun _ h => int_inv h⟩
    have hg : (eqGuard op t ox oy (.int k a) (.int yk b)).run P w = .ok () w := by
      unfold eqGuard; split <;> rfl
    simp only [Sem.run_bind, hg, Result.andThen_ok, h1]
  case string.string a b =>
    have hg : (eqGuard op t ox oy (.string a) (.string b)).run P w = .ok () w := by
      unfold eqGuard; split <;> rfl
    refine ⟨?_, ?_, fun _ h => string_inv h, fun _ h => string_inv h⟩
    · simp only [Sem.run_bind, hg, Result.andThen_ok]
      split at h
      · cases h; rfl
      · cases h; rfl
      · split at h
        · rename_i hc
          cases h
          simp only [binOp]
          exact run_string_add_sum w a b (by omega)
        · cases h
      · cases h
    · split at h
      · cases h; rfl
      · cases h; rfl
      · split at h
        · cases h; rfl
        · cases h
      · cases h
end
end Go.Ab
