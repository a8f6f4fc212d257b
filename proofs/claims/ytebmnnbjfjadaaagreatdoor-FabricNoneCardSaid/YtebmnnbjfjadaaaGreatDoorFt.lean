/- The arguments of a call, all of them, and what a call that leaves them comes to. -/
import Derived.Test.YtebmnnbjfjadaaaGreatDoorFs
import Derived.WideShapes
import Derived.ChangeShapes
import Derived.Carry
import Derived.ChangeSame
import Derived.RowKit
namespace Go.Ab
open Go Go.RowKit Go.WideShapes Go.ChangeShapes

/-- An argument, by its type. -/
def TyArg (P : Program) (H : AHeap) (f : Nat) (t : TypeId) (av : Value) : Prop :=
  match P.underlying t with
  | some (.struct _) => ∃ l, av = .agg l.toArray ∧ Ty P H f t l
  | some (.array _ _) => ∃ l, av = .agg l.toArray ∧ Ty P H f t l
  | _ => Ty P H f t [av]

theorem TyArg.mono {P : Program} {H H' : AHeap} (hs : H.sub H') {f : Nat} {t : TypeId} {av : Value} (h : TyArg P H f t av) : TyArg P H' f t av := by
  unfold TyArg at h ⊢
  split at h
  · obtain ⟨l, h1, h2⟩ := h; exact ⟨l, h1, h2.mono hs⟩
  · obtain ⟨l, h1, h2⟩ := h; exact ⟨l, h1, h2.mono hs⟩
  · exact h.mono hs

section
variable {Hd : Type} {enc : TypeId × Value → Hd} {P : Program} {w : World} {G : Glob} {held : Bool}

theorem read_arg {f b : Nat} {t : TypeId} {v : Value} {d : DataW Hd} {ps : List MemPlace} (h : DataW.Trod enc P w 0 (fun _ => true) held t v d ps) (ht : rty P f t = true)
    (hv : Value.okWide P w .any b t v) {ι : Inj} {H : AHeap} (hr : Ro G ι H w) : ∃ ι' H' av, Ext ι H ι' H' ∧ Ro G ι' H' w ∧ VR ι' av v ∧ TyArg P H' f t av := by
  obtain ⟨fuel, hf⟩ := h
  obtain ⟨ι', H', avs, e, r, l, ty⟩ := read_one f fuel t _ _ hf ht ι H hr
  have one : ∀ x, v = x → v.cells = #[x] → ∃ ι' H' av, Ext ι H ι' H' ∧ Ro G ι' H' w ∧ VR ι' av v ∧ Ty P H' f t [av] := by
    intro x hx hc
    subst hx
    rw [hc] at l
    cases l with
    | cons h1 h2 => cases h2; exact ⟨ι', H', _, e, r, h1, ty⟩
  have agg : ∀ cs, v = .agg cs → ∃ ι' H' av, Ext ι H ι' H' ∧ Ro G ι' H' w ∧ VR ι' av v ∧ ∃ l, av = .agg l.toArray ∧ Ty P H' f t l := by
    intro cs hc
    subst hc
    have := l.avr
    exact ⟨ι', H', .agg avs.toArray, e, r, .agg _ _ (by simpa [Value.cells] using this.1) (by simpa [Value.cells] using this.2), avs, rfl, ty⟩
  cases f with
  | zero => simp [rty] at ht
  | succ f =>
    have ht' := ht
    unfold rty at ht'
    split at ht'
    · rename_i hu
      obtain ⟨x, rfl⟩ := okWide_bool hu hv
      obtain ⟨ι', H', av, a, b, c, d⟩ := one _ rfl rfl
      exact ⟨ι', H', av, a, b, c, by unfold TyArg; rw [hu]; exact d⟩
    · rename_i k hu
      obtain ⟨x, rfl⟩ := okWide_int hu hv
      obtain ⟨ι', H', av, a, b, c, d⟩ := one _ rfl rfl
      exact ⟨ι', H', av, a, b, c, by unfold TyArg; rw [hu]; exact d⟩
    · rename_i e hu
      obtain ⟨x, y, z, rfl⟩ := okWide_slice hu hv
      obtain ⟨ι', H', av, a, b, c, d⟩ := one _ rfl rfl
      exact ⟨ι', H', av, a, b, c, by unfold TyArg; rw [hu]; exact d⟩
    · rename_i fs hu
      unfold Value.okWide at hv
      rw [hu] at hv
      obtain ⟨cs, rfl, _⟩ := hv
      obtain ⟨ι', H', av, a, b, c, d⟩ := agg _ rfl
      exact ⟨ι', H', av, a, b, c, by unfold TyArg; rw [hu]; exact d⟩
    · rename_i n e hu
      unfold Value.okWide at hv
      rw [hu] at hv
      obtain ⟨cs, rfl, _⟩ := hv
      obtain ⟨ι', H', av, a, b, c, d⟩ := agg _ rfl
      exact ⟨ι', H', av, a, b, c, by unfold TyArg; rw [hu]; exact d⟩
    · cases ht'

theorem read_args {f b : Nat} : ∀ {ts : List TypeId} {vs : List Value} {ds : List (DataW Hd)} {ps : List MemPlace}, DataW.TrodAll enc P w 0 (fun _ => true) held ts vs ds ps → ts.all (rty P f) = true →
    (∀ (j : Nat) t v, ts[j]? = some t → vs[j]? = some v → Value.okWide P w .any b t v) → ∀ {ι : Inj} {H : AHeap}, Ro G ι H w →
      ∃ ι' H' avs, Ext ι H ι' H' ∧ Ro G ι' H' w ∧ LVR ι' avs vs ∧ All2 (fun t av => TyArg P H' f t av) ts avs
  | [], [], [], _, _, _, _, ι, H, hr => ⟨ι, H, [], Ext.refl _ _, hr, .nil, .nil⟩
  | t :: ts, v :: vs, d :: ds, _, h, ht, hv, ι, H, hr => by
    obtain ⟨p, q, h1, h2, _⟩ := h
    simp only [List.all_cons, Bool.and_eq_true] at ht
    obtain ⟨ι₁, H₁, av, e1, r1, l1, t1⟩ := read_arg h1 ht.1 (hv 0 t v rfl rfl) hr
    obtain ⟨ι₂, H₂, avs, e2, r2, l2, t2⟩ := read_args h2 ht.2 (fun j t v a b => hv (j + 1) t v (by simpa using a) (by simpa using b)) r1
    exact ⟨ι₂, H₂, av :: avs, e1.trans e2, r2, .cons (l1.mono e2.le) l2, .cons (t1.mono e2.sub) t2⟩
  | [], _ :: _, _, _, h, _, _, _, _, _ => h.elim
  | [], [], _ :: _, _, h, _, _, _, _, _ => h.elim
  | _ :: _, [], _, _, h, _, _, _, _, _ => h.elim
  | _ :: _, _ :: _, [], _, h, _, _, _, _, _ => h.elim
end

theorem ro1 {w : World} (h : G1.S w) : Ro G1 ι1 H1 w := ⟨rel1 h, rfl⟩

/-- What is not to be written lies as it lay. -/
theorem Post.isBelow {G : Glob} {ι ι' : Inj} {H H' : AHeap} {w w' : World} (h : Post G ι H w ι' H' w') (hl : H.lo = H.next) : Below w.heap.size w w' :=
  ⟨h.os, h.tape, h.out, h.size, fun b hb => h.frame b hb fun i e o hi ho _ => by have := AHeap.get_lt ho; omega⟩

section
variable {H : Type} {enc : TypeId × Value → H} {P : Program}
theorem post_of_below {f : Func} {s : ChangeSpec} {apart fresh handsOn again : Bool} {W W' : World} {args : Array Value} {v : Value} {ds gs : List (DataW H)} {before pa pv : List MemPlace}
    (hW : DataW.Whole enc P f.params.toList s.vars apart W args.toList ds gs before)
    (hres : ∀ (b : Nat) (sp : Nat → Bool) (hd : Bool), DataW.TrodAll enc P W' b sp hd f.resultTypes.toList (v.resultList f.resultTypes.size) (s.fn H (ds ++ gs)).results [])
    (hargs : ∀ sp : Nat → Bool, (∀ p ∈ before, sp p.block = true) → DataW.TrodAll enc P W' 0 sp true f.params.toList args.toList (s.fn H (ds ++ gs)).args pa)
    (hvars : ∀ sp : Nat → Bool, (∀ p ∈ before, sp p.block = true) → DataW.TrodVars enc P W' sp s.vars (s.fn H (ds ++ gs)).vars pv)
    (hps : before = pa ++ pv) (hb : Below W.heap.size W W')
    (hok : ∀ (j : Nat) (t : TypeId) (r : Value), f.resultTypes[j]? = some t → (v.resultList f.resultTypes.size)[j]? = some r → Value.okWide P W' .any 0 t r) :
    s.post enc P f apart fresh handsOn again W args v W' := by
  have hlt : ∀ p ∈ before, p.block < W.heap.size := fun p hp => hW.lt p hp
  have hold : ∀ p ∈ before, (fun b => decide (b < W.heap.size)) p.block = true := fun p hp => by simpa using hlt p hp
  refine ⟨ds, gs, before, [], pa, pv, hW, hres _ _ _, hargs _ hold, hvars _ hold, World.keptBut_mono (fun p hp => ⟨hp, ?_⟩) (hb.frame (· ∈ before)), fun _ => ?_⟩
  · rw [hps, List.mem_append] at hp
    exact Or.inr hp
  · obtain ⟨_, _, _, _, _, hz, hn⟩ := hW
    refine ⟨hok, _, _, ([] ++ pa) ++ pv, ⟨[] ++ pa, pv, trodAll_append (hargs _ (fun _ _ => rfl)) (hres _ _ _), hvars _ (fun _ _ => rfl), rfl, ?_, ?_⟩, ?_⟩
    · intro b off hp
      have hin : MemPlace.cell b off ∈ before := by rw [hps]; simpa using hp
      rw [hb.frozen (hlt _ hin)]
      exact hz b off hin
    · intro ha
      have := hn ha
      rw [hps] at this
      simpa using this
    · intro p hp _
      rw [hps]
      simpa using hp
end

section
variable {Hd : Type} {enc : TypeId × Value → Hd} {P : Program}

theorem args_stay (hl : laidOutB P = true) {W W' : World} (hb : Below W.heap.size W W') (sp : Nat → Bool) : ∀ {ts : List TypeId} {vs : List Value} {ds : List (DataW Hd)} {ps : List MemPlace},
    DataW.TrodAll enc P W 0 (fun _ => true) true ts vs ds ps → (ts.all fun t => P.readableRec t && decide (t < P.types.size)) = true → (∀ p ∈ ps, p.block < W.heap.size) → (∀ p ∈ ps, sp p.block = true) →
      DataW.TrodAll enc P W' 0 sp true ts vs ds ps
  | [], [], [], _, h, _, _, _ => h
  | t :: ts, v :: vs, d :: ds, _, h, ht, hlt, hs => by
    obtain ⟨p, q, h1, h2, rfl⟩ := h
    simp only [List.all_cons, Bool.and_eq_true, decide_eq_true_eq] at ht
    exact ⟨p, q, WideElems.Trod_stays hl ht.1.1 ht.1.2 h1 (fun x hx => hb.same (hlt x (List.mem_append_left _ hx))) (fun x hx => hs x (List.mem_append_left _ hx)),
      args_stay hl hb sp h2 ht.2 (fun x hx => hlt x (List.mem_append_right _ hx)) (fun x hx => hs x (List.mem_append_right _ hx)), rfl⟩
  | [], _ :: _, _, _, h, _, _, _ => h.elim
  | [], [], _ :: _, _, h, _, _, _ => h.elim
  | _ :: _, [], _, _, h, _, _, _ => h.elim
  | _ :: _, _ :: _, [], _, h, _, _, _ => h.elim

/-- A LAW: what its abstract function comes to at each read argument is what its call comes to; the heap may be told anew. -/
theorem law_calls_at {T : AProg} (hT : ∀ k, CallS P G1 (evFn T k)) (hl : laidOutB P = true) {f : FuncId} {fn : Func} {s : ChangeSpec} {tb : TypeId} {apart fresh handsOn again : Bool}
    (hts : (fn.params.toList.all fun t => P.readableRec t && decide (t < P.types.size)) = true) (hrty : fn.params.toList.all (rty P 9) = true)
    (hres : fn.resultTypes = #[tb]) (hb : P.underlying tb = some .bool) (hvars : s.vars = [])
    (hsp : ∀ ds : List (DataW Hd), ds.length = fn.params.toList.length → (s.fn Hd ds).results = [.lit (.bool true)] ∧ (s.fn Hd ds).args = ds ∧ (s.fn Hd ds).vars = [])
    (hlaw : ∀ ι H avs (W : World) vs, Ext ι1 H1 ι H → Ro G1 ι H W → LVR ι avs vs → All2 (fun t av => TyArg P H 9 t av) fn.params.toList avs →
      ∃ ι' H' avs', Ro G1 ι' H' W ∧ LVR ι' avs' vs ∧ ∃ k H'', evFn T k f avs' H' = some (.bool true, H''))
    {W : World} {base : Nat} {args : Array Value} {ds gs : List (DataW Hd)} {before : List MemPlace}
    (hval : ∀ (j : Nat) t v, fn.params[j]? = some t → args[j]? = some v → Value.okWide P W .any base t v)
    (hW : DataW.Whole enc P fn.params.toList s.vars apart W args.toList ds gs before) (hS : G1.S W) :
    Calls P f args W fun e W' => ∃ v, e = .returned v ∧ s.post enc P fn apart fresh handsOn again W args v W' := by
  have hW' := hW
  obtain ⟨p, q, hA, hV, hpq, _, _⟩ := hW
  rw [hvars] at hV
  have hgs : gs = [] ∧ q = [] := by
    cases gs with
    | nil => exact ⟨rfl, hV⟩
    | cons _ _ => exact hV.elim
  obtain ⟨rfl, rfl⟩ := hgs
  rw [List.append_nil] at hpq
  subst hpq
  have hlt : ∀ x ∈ before, x.block < W.heap.size := fun x hx => by simpa using hW'.lt x hx
  obtain ⟨ι', H', avs, e1, r1, l1, t1⟩ := read_args (f := 9) (b := base) hA hrty (fun j t v a b => hval j t v (by simpa using a) (by simpa using b)) (ro1 hS)
  obtain ⟨ι', H', avs, r1, l1, k, H'', hk⟩ := hlaw ι' H' avs W args.toList e1 r1 l1 t1
  obtain ⟨_, hc⟩ := hT k f avs H' _ _ hk
  have hc := hc ι' W args.toList r1.rel l1
  rw [Array.toArray_toList] at hc
  refine hc.mono ?_
  rintro e w' ⟨v', ι'', rfl, hp, hv⟩
  cases hv
  have hbw := hp.isBelow r1.all
  have hdl : ds.length = fn.params.toList.length := by
    have key : ∀ {ts : List TypeId} {vs : List Value} {ds : List (DataW Hd)} {ps : List MemPlace}, DataW.TrodAll enc P W 0 (fun _ => true) true ts vs ds ps → ds.length = ts.length := by
      intro ts
      induction ts with
      | nil =>
        intro vs ds ps h
        cases vs <;> cases ds <;> first | rfl | exact h.elim
      | cons t ts ih =>
        intro vs ds ps h
        cases vs <;> cases ds <;> first | exact h.elim | (obtain ⟨_, _, _, h2, _⟩ := h; simp [ih h2])
    exact key hA
  obtain ⟨s1, s2, s3⟩ := hsp ds hdl
  refine ⟨_, rfl, post_of_below (pa := before) (pv := []) hW' ?_ ?_ ?_ (by simp) hbw ?_⟩
  · intro b sp hd
    rw [hres, List.append_nil, s1]
    exact trodAll_mk1 (shut_bool hb true)
  · intro sp hsp'
    rw [List.append_nil, s2]
    exact args_stay hl hbw sp hA hts hlt hsp'
  · intro sp hsp'
    rw [hvars, List.append_nil, s3]
    exact rfl
  · exact ok_one hres rfl (okWide_bool_mk hb true)
end

def ιs (ι : Inj) (es : List Nat) : Inj := fun j => match j with
  | 0 => ι1 0
  | j + 1 => (es[j]?).bind ι

/-- What the arguments' slices hold is forgotten: only where they lie is told. -/
theorem Ro.forget {ι : Inj} {H : AHeap} {w : World} (h : Ro G1 ι H w) (es : List Nat) : Ro G1 (ιs ι es) ⟨H1.tr, 1 + es.length, 1 + es.length⟩ w := by
  have r1 := rel1 h.rel.env
  have hg : ∀ i o, AHeap.get ⟨H1.tr, 1 + es.length, 1 + es.length⟩ i = some o → i = 0 ∧ H1.get 0 = some o := by
    intro i o ho
    unfold AHeap.get at ho
    split at ho
    · have : i = 0 := by
        rcases Nat.eq_zero_or_pos i with e | e
        · exact e
        · have hk : key 0 ≠ key i := fun x => by have := key_inj x; omega
          simp only [H1] at ho
          rw [Tr.find_put_ne _ _ _ _ hk, Tr.find_nil] at ho
          cases ho
      subst this
      refine ⟨rfl, ?_⟩
      unfold AHeap.get
      rw [if_pos (by decide)]
      exact ho
    · cases ho
  refine ⟨⟨?_, ?_, ?_, Nat.le_refl _, ?_, ?_, h.rel.env⟩, rfl⟩
  · intro i o ho
    obtain ⟨rfl, hz⟩ := hg i o ho
    obtain ⟨e, c, t, fz, a1, a2, a3, a4, a5, a6, a7⟩ := r1.obj 0 o hz
    refine ⟨e, c, t, fz, a1, a2, a3, a4, a5, ?_, fun x => absurd x (by simp)⟩
    intro k v hk
    obtain ⟨v', b1, b2⟩ := a6 k v hk
    refine ⟨v', b1, ?_⟩
    obtain ⟨_, rfl⟩ := H1_get 0 o hz
    have := closedIn_eq 0 v v' (tab_closed v (List.mem_of_getElem? hk)) b2
    subst this
    exact closedIn_vr _ 0 _ (tab_closed _ (List.mem_of_getElem? hk))
  · intro i e he
    cases i with
    | zero => have := r1.ent 0 e he; exact ⟨by simp; omega, this.2⟩
    | succ j =>
      unfold ιs at he
      cases hj : es[j]? with
      | none => simp [hj] at he
      | some x =>
        have := (List.getElem?_eq_some_iff.1 hj).1
        simp [hj] at he
        exact ⟨by simp; omega, (h.rel.ent x e he).2⟩
  · intro i j e f o p ho hp _ _ _ hij
    exact absurd ((hg i o ho).1.trans (hg j p hp).1.symm) hij
  · intro g hgn
    have : g = 0 := by simp [G1] at hgn; omega
    subst this
    exact ⟨⟨0, 0, 64, 1⟩, rfl, rfl, rfl⟩
  · intro i e o hlo ho _
    have := AHeap.get_lt ho
    simp at hlo this
    omega

def isTrue : Option (Value × AHeap) → Bool
  | some (.bool b, _) => b
  | _ => false
theorem isTrue_some {x : Option (Value × AHeap)} (h : isTrue x = true) : ∃ H', x = some (.bool true, H') := by
  unfold isTrue at h
  split at h
  · rename_i b H'; subst h; exact ⟨H', rfl⟩
  · cases h

section
variable {P : Program} {H : AHeap} {f : Nat} {t : TypeId} {l : List Value}
theorem Ty.int {k : IntKind} (hu : P.underlying t = some (.int k)) (h : Ty P H (f + 1) t l) : ∃ n, l = [.int k n] ∧ (Lit.int k n).wf = true := by
  unfold Ty at h; rw [hu] at h; exact h
theorem Ty.bool (hu : P.underlying t = some .bool) (h : Ty P H (f + 1) t l) : ∃ b, l = [.bool b] := by
  unfold Ty at h; rw [hu] at h; exact h
theorem Ty.slice {e : TypeId} (hu : P.underlying t = some (.slice e)) (h : Ty P H (f + 1) t l) : l = [.slice none 0 0] ∨ ∃ (i : Nat) (parts : List (List Value)), l = [.slice (some ⟨i, 0, none⟩) parts.length parts.length] ∧
    (parts = [] ∨ H.get i = some ⟨parts.flatten, P.cellsOf e⟩) ∧ ∀ p ∈ parts, p.length = P.cellsOf e ∧ Ty P H f e p := by
  unfold Ty at h; rw [hu] at h; exact h
theorem Ty.struct {fs : Array Field} (hu : P.underlying t = some (.struct fs)) (h : Ty P H (f + 1) t l) :
    ∃ parts : List (List Value), l = parts.flatten ∧ All2 (fun (x : Field) p => p.length = P.cellsOf x.type ∧ Ty P H f x.type p) fs.toList parts := by
  unfold Ty at h; rw [hu] at h; exact h
theorem Ty.array {n : Nat} {e : TypeId} (hu : P.underlying t = some (.array n e)) (h : Ty P H (f + 1) t l) :
    ∃ parts : List (List Value), l = parts.flatten ∧ parts.length = n ∧ ∀ p ∈ parts, p.length = P.cellsOf e ∧ Ty P H f e p := by
  unfold Ty at h; rw [hu] at h; exact h
theorem TyArg.int {k : IntKind} {v : Value} (hu : P.underlying t = some (.int k)) (h : TyArg P H (f + 1) t v) : ∃ n, v = .int k n ∧ (Lit.int k n).wf = true := by
  unfold TyArg at h; rw [hu] at h
  obtain ⟨n, h1, h2⟩ := Ty.int hu h
  exact ⟨n, by simpa using h1, h2⟩
theorem TyArg.bool {v : Value} (hu : P.underlying t = some .bool) (h : TyArg P H (f + 1) t v) : ∃ b, v = .bool b := by
  unfold TyArg at h; rw [hu] at h
  obtain ⟨n, h1⟩ := Ty.bool hu h
  exact ⟨n, by simpa using h1⟩
theorem TyArg.slice {e : TypeId} {v : Value} (hu : P.underlying t = some (.slice e)) (h : TyArg P H (f + 1) t v) : v = .slice none 0 0 ∨ ∃ (i : Nat) (parts : List (List Value)), v = .slice (some ⟨i, 0, none⟩) parts.length parts.length ∧
    (parts = [] ∨ H.get i = some ⟨parts.flatten, P.cellsOf e⟩) ∧ ∀ p ∈ parts, p.length = P.cellsOf e ∧ Ty P H f e p := by
  unfold TyArg at h; rw [hu] at h
  rcases Ty.slice hu h with h | ⟨i, parts, h1, h2⟩
  · exact .inl (by simpa using h)
  · exact .inr ⟨i, parts, by simpa using h1, h2⟩
theorem TyArg.struct {fs : Array Field} {v : Value} (hu : P.underlying t = some (.struct fs)) (h : TyArg P H (f + 1) t v) :
    ∃ parts : List (List Value), v = .agg parts.flatten.toArray ∧ All2 (fun (x : Field) p => p.length = P.cellsOf x.type ∧ Ty P H f x.type p) fs.toList parts := by
  unfold TyArg at h; rw [hu] at h
  obtain ⟨l, rfl, h2⟩ := h
  obtain ⟨parts, rfl, h3⟩ := Ty.struct hu h2
  exact ⟨parts, rfl, h3⟩
theorem TyArg.array {n : Nat} {e : TypeId} {v : Value} (hu : P.underlying t = some (.array n e)) (h : TyArg P H (f + 1) t v) :
    ∃ parts : List (List Value), v = .agg parts.flatten.toArray ∧ parts.length = n ∧ ∀ p ∈ parts, p.length = P.cellsOf e ∧ Ty P H f e p := by
  unfold TyArg at h; rw [hu] at h
  obtain ⟨l, rfl, h2⟩ := h
  obtain ⟨parts, rfl, h3⟩ := Ty.array hu h2
  exact ⟨parts, rfl, h3⟩
end

theorem LVR.cons_inv {ι : Inj} {v : Value} {l vs : List Value} (h : LVR ι (v :: l) vs) : ∃ v' l', vs = v' :: l' ∧ VR ι v v' ∧ LVR ι l l' := by
  cases h with
  | cons h1 h2 => exact ⟨_, _, rfl, h1, h2⟩
theorem LVR.nil_inv {ι : Inj} {vs : List Value} (h : LVR ι [] vs) : vs = [] := by cases h; rfl
theorem VR.agg_list {ι : Inj} {l : List Value} {v : Value} (h : VR ι (.agg l.toArray) v) : ∃ l', v = .agg l'.toArray ∧ LVR ι l l' := by
  cases h with
  | agg c c' h1 h2 => exact ⟨c'.toList, by simp, by have := AVR.lvr (a := l.toArray) (b := c') ⟨h1, h2⟩; simpa using this⟩
theorem VR.of_list {ι : Inj} {l l' : List Value} (h : LVR ι l l') : VR ι (.agg l.toArray) (.agg l'.toArray) := .agg _ _ h.avr.1 h.avr.2
theorem VR.int_any {ι ι' : Inj} {k : IntKind} {n : Int} {v : Value} (h : VR ι (.int k n) v) : VR ι' (.int k n) v := by cases h; exact .int k n
theorem VR.bool_any {ι ι' : Inj} {b : Bool} {v : Value} (h : VR ι (.bool b) v) : VR ι' (.bool b) v := by cases h; exact .bool b
theorem VR.slNil_any {ι ι' : Inj} {v : Value} (h : VR ι (.slice none 0 0) v) : VR ι' (.slice none 0 0) v := by cases h; exact .slNil
theorem VR.slice_to {ι ι' : Inj} {i j off len c : Nat} {v : Value} (h : VR ι (.slice (some ⟨i, off, none⟩) len c) v) (hj : ∀ e, ι i = some e → ι' j = some e) : VR ι' (.slice (some ⟨j, off, none⟩) len c) v := by
  cases h with
  | sl he h1 h2 => exact .sl (hj _ he) h1 h2
  | slE => exact .slE
end Go.Ab
