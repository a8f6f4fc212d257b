/- Soundness: append. -/
import Derived.Test.YtebmnnbjfjadaaaGreatDoorFg
namespace Go.Ab
open Go

section
variable {P : Program} {G : Glob} {ι : Inj} {H : AHeap} {w : World}

theorem setRow_ne (w : World) (g b : Nat) (c : Array Value) (h : b ≠ g) : (w.setRow g c).heap[b]? = w.heap[b]? := by
  have : ¬ g = b := fun e => h e.symm
  unfold World.setRow
  simp [Array.getElem?_modify, this]

theorem setRow_size (w : World) (g : Nat) (c : Array Value) : (w.setRow g c).heap.size = w.heap.size := by
  unfold World.setRow
  simp

theorem firstCells_at (size n : Nat) (b : Addr) (len cap : Nat) (cs : List Value) (hl : cs.length = n * size) (h : ∀ (j : Nat) v, cs[j]? = some v → w.cell? (b.add j) = some v) :
    (Builtin.firstCells size n (.slice (some b) len cap)).run P w = .ok cs.toArray w := by
  exact run_firstCells_some (P := P) w size n b len cap cs hl h

/-- append, nothing. -/
theorem append_none (t ty e : TypeId) (ti : TypeInfo) (hu : P.underlying t = some (.slice e)) (he : P.info? e = some ti) (a b : Option Addr) (n c d : Nat) (hc : n ≤ c) :
    (Builtin.append_ #[t, t] ty #[.slice a n c, .slice b 0 d]).run P w = .ok (.slice a n c) w := by
  have hnew : (Builtin.firstCells ti.size 0 (.slice b 0 d)).run P w = .ok #[] w := by
    cases b with
    | none => rfl
    | some b => simpa using firstCells_at (P := P) (w := w) ti.size 0 b 0 d [] (by simp) (by simp)
  cases a with
  | none => simp [Builtin.append_, run_underlying hu, sizeOf, typeInfo, he, Builtin.lenOf, hc, hnew]
  | some a => simp [Builtin.append_, run_underlying hu, sizeOf, typeInfo, he, Builtin.lenOf, hc, hnew, storeCells]

/-- append, in place. -/
theorem append_room (t ty e : TypeId) (ti : TypeInfo) (hu : P.underlying t = some (.slice e)) (he : P.info? e = some ti)
    (g b0 sLen sCap : Nat) (cur : Array Value) (tt : TypeId) (hg : w.heap[g]? = some (.cells cur tt (0, 0)))
    (a : Addr) (m c : Nat) (news : List Value) (hl : news.length = m * ti.size) (hnews : ∀ (j : Nat) u, news[j]? = some u → w.cell? (a.add j) = some u) (h1 : ∀ u ∈ news, u.oneCell' = true)
    (hroom : sLen + m ≤ sCap) (hfit : b0 + sLen * ti.size + news.length ≤ cur.size) :
    (Builtin.append_ #[t, t] ty #[.slice (some ⟨g, b0, none⟩) sLen sCap, .slice (some a) m c]).run P w =
      .ok (.slice (some ⟨g, b0, none⟩) (sLen + m) sCap) (w.setRow g (cur.toList.take (b0 + sLen * ti.size) ++ news ++ cur.toList.drop (b0 + sLen * ti.size + news.length)).toArray) := by
  have hf := firstCells_at (P := P) (w := w) ti.size m a m c news hl hnews
  have hst := run_storeCells_at P g (b0 + sLen * ti.size) tt news 0 cur w hg (by simpa using hfit) h1
  simp only [Nat.add_zero] at hst
  simp [Builtin.append_, run_underlying hu, sizeOf, typeInfo, he, Builtin.lenOf, hroom, hf, addr_add, hst]

theorem append_sound (hr : Rel G ι H w) {t ty e : TypeId} {ei : TypeInfo} {z : Value} (hu : P.underlying t = some (.slice e)) (he : P.info? e = some ei) (hz : ei.zero = some z)
    (hzs : z.cells.size = ei.size) {a b : Option Addr} {n c m d : Nat} {x' y' : Value} (hx : VR ι (.slice a n c) x') (hy : VR ι (.slice b m d) y') {v : Value} {H' : AHeap}
    (h : aAppend H ei.size ei.bytes a n c b m = some (v, H')) :
    ∃ v' w' ι', (Builtin.append_ #[t, t] ty #[x', y']).run P w = .ok v' w' ∧ Post G ι H w ι' H' w' ∧ VR ι' v v' := by
  unfold aAppend at h
  by_cases hm : m = 0
  · rw [if_pos hm] at h
    cases h
    subst hm
    have hy' : ∃ b' d', y' = .slice b' 0 d' := by cases hy <;> exact ⟨_, _, rfl⟩
    obtain ⟨b', d', rfl⟩ := hy'
    have hx' : ∃ a' c', x' = .slice a' n c' ∧ n ≤ c' := by
      cases hx with
      | slNil => exact ⟨_, _, rfl, Nat.le_refl _⟩
      | slE => exact ⟨_, _, rfl, Nat.le_refl _⟩
      | sl h1 h2 h3 => exact ⟨_, _, rfl, h2⟩
    obtain ⟨a', c', rfl, hc'⟩ := hx'
    exact ⟨_, w, ι, append_none t ty e ei hu he a' b' n c' d' hc', Post.refl hr, hx⟩
  · rw [if_neg hm] at h
    split at h
    · rename_i j joff
      split at h
      · cases h
      · rename_i news hnews
        split at h
        · cases h
        · rename_i hcond
          simp only [Bool.not_eq_true', Bool.not_eq_false, Bool.and_eq_true, decide_eq_true_eq] at hcond
          obtain ⟨⟨⟨⟨hb1, hb2⟩, hb3⟩, hb4⟩, hb5⟩ := hcond
          -- the source
          cases hy with
          | slE => exact absurd rfl hm
          | @sl _ _ _ cap2 _ ent2 k1 k2 k3 =>
            obtain ⟨news', q1, q2, q3⟩ := read_cells hr k1 hnews
            have hone : ∀ u ∈ news', u.oneCell' = true := by
              intro u hu'
              obtain ⟨k, hk, rfl⟩ := List.mem_iff_getElem.1 hu'
              have hk2 : k < news.length := by rw [q2.length]; exact hk
              obtain ⟨u', hu1, hu2⟩ := q2.get k _ (List.getElem?_eq_getElem hk2)
              rw [List.getElem?_eq_getElem hk] at hu1
              cases hu1
              rw [List.all_eq_true] at hb5
              exact one_vr hu2 (hb5 _ (List.getElem_mem hk2))
            have hm1 : 0 < m := Nat.pos_of_ne_zero hm
            have hle : n + m ≤ (n + m) * ei.bytes := Nat.le_mul_of_pos_right _ hb2
            split at h
            · -- nil
              split at h
              · rename_i hn0
                cases h
                subst hn0
                cases hx
                have hrun := run_append_nil (P := P) w t ty e ei z hu he hz ⟨ent2.blk, ent2.base + joff, none⟩ m cap2 news' q1 q3 hm1 (by omega) (by
                  have : m * ei.bytes ≤ (0 + m) * ei.bytes := by rw [Nat.zero_add]; exact Nat.le_refl _
                  omega)
                have hc : AVR ι news.toArray news'.toArray := q2.avr
                have hnew := Post.new (Post.drew hr (w.drawn + 1)).rel (news'.toArray ++ Builtin.zeroCells z.cells (grownCap w m 0 e - m)) e news ei.size (by
                  have := q2.length; simp; omega) (fun k u hk => by
                    obtain ⟨u', h1, h2⟩ := q2.get k u hk
                    refine ⟨u', ?_, h2⟩
                    have hk' : k < news'.length := by
                      rcases Nat.lt_or_ge k news'.length with h | h
                      · exact h
                      · rw [List.getElem?_eq_none h] at h1; cases h1
                    rw [Array.getElem?_append_left (by simpa using hk')]
                    simpa using h1)
                refine ⟨_, _, _, hrun, (Post.drew hr (w.drawn + 1)).trans hnew, ?_⟩
                have hge := grownCap_ge w m 0 e
                have := VR.sl (ι := ι.put H.next ⟨w.heap.size, 0, (news'.toArray ++ Builtin.zeroCells z.cells (grownCap w m 0 e - m)).size, ei.size⟩) (i := H.next) (off := 0) (len := m) (cap := grownCap w m 0 e) (c := m) (Inj.put_same _ _ _) hge (by
                  simp only [Array.size_append, List.size_toArray, q1, size_zeroCells, hzs, Nat.zero_add, Nat.add_zero]
                  rw [← Nat.add_mul]
                  have : m + (grownCap w m 0 e - m) = grownCap w m 0 e := by omega
                  rw [this]
                  exact Nat.le_refl _)
                simpa using this
              · cases h
            · rename_i i off
              split at h
              · cases h
              · rename_i o ho
                split at h
                · rename_i hcond2
                  obtain ⟨c1, c2, c3, c4⟩ := hcond2
                  cases h
                  have hnews_len : news.length = m * ei.size := by have := q2.length; omega
                  have hdrop : ∀ (k : Nat) u, (o.cells.drop off)[k]? = some u → o.cells[off + k]? = some u := by
                    intro k u hk; simpa [List.getElem?_drop] using hk
                  -- the case that it grows
                  have grow : ∀ (bb : Addr) (cap olds), olds.length = n * ei.size → LVR ι (o.cells.drop off) olds → (∀ (k : Nat) u, olds[k]? = some u → w.cell? (bb.add k) = some u) → cap < n + m →
                      ∃ v' w' ι', (Builtin.append_ #[t, t] ty #[.slice (some bb) n cap, .slice (some ⟨ent2.blk, ent2.base + joff, none⟩) m cap2]).run P w = .ok v' w' ∧
                        Post G ι H w ι' ((H.del i).new ⟨o.cells.drop off ++ news, ei.size⟩) w' ∧ VR ι' (.slice (some ⟨H.next, 0, none⟩) (n + m) (n + m)) v' := by
                    intro bb cap olds ho1 ho2 ho3 hg
                    have hrun := run_append_grow (P := P) w t ty e ei z hu he hz bb n cap olds ho1 ho3 ⟨ent2.blk, ent2.base + joff, none⟩ m cap2 news' q1 q3 hg (by omega)
                      (growslice_fits hg (by omega))
                    have hrd := ((Post.drew hr (w.drawn + 1)).del i)
                    have hall := ho2.append q2
                    have hnew := Post.new hrd.rel (olds.toArray ++ news'.toArray ++ Builtin.zeroCells z.cells (grownCap w (n + m) cap e - (n + m))) e (o.cells.drop off ++ news) ei.size (by
                      have := hall.length; simp at this; simp; omega) (fun k u hk => by
                        obtain ⟨u', h1, h2⟩ := hall.get k u hk
                        refine ⟨u', ?_, h2⟩
                        have hk' : k < (olds ++ news').length := by
                          rcases Nat.lt_or_ge k (olds ++ news').length with h | h
                          · exact h
                          · rw [List.getElem?_eq_none h] at h1; cases h1
                        have e1 : olds.toArray ++ news'.toArray = (olds ++ news').toArray := by simp
                        rw [e1, Array.getElem?_append_left (by simpa using hk')]
                        simpa using h1)
                    refine ⟨_, _, _, hrun, hrd.trans hnew, ?_⟩
                    have hge := grownCap_ge w (n + m) cap e
                    have := VR.sl (ι := ι.put H.next ⟨w.heap.size, 0, (olds.toArray ++ news'.toArray ++ Builtin.zeroCells z.cells (grownCap w (n + m) cap e - (n + m))).size, ei.size⟩) (i := H.next) (off := 0) (len := n + m) (cap := grownCap w (n + m) cap e) (c := n + m) (Inj.put_same _ _ _) hge (by
                      simp only [Array.size_append, List.size_toArray, ho1, q1, size_zeroCells, hzs, Nat.zero_add, Nat.add_zero]
                      rw [← Nat.add_mul, ← Nat.add_mul]
                      have : n + m + (grownCap w (n + m) cap e - (n + m)) = grownCap w (n + m) cap e := by omega
                      rw [this]
                      exact Nat.le_refl _)
                    simpa using this
                  cases hx with
                  | slE =>
                    have h0 : o.cells.drop off = [] := by
                      apply List.drop_eq_nil_of_le; omega
                    exact grow _ 0 [] (by simp) (by rw [h0]; exact .nil) (by simp) (by omega)
                  | @sl _ _ _ cap _ ent g1 g2 g3 =>
                    by_cases hg : cap < n + m
                    · -- grows
                      have hread : H.read i off (n * ei.size) = some (o.cells.drop off) := by
                        unfold AHeap.read readN
                        rw [ho]
                        simp only []
                        rw [if_pos (by omega), List.take_of_length_le (by simp; omega)]
                      obtain ⟨olds, p1, p2, p3⟩ := read_cells hr g1 hread
                      exact grow _ cap olds p1 p2 p3 hg
                    · -- in place
                      obtain ⟨ent', cur, tt, fz, r1, r2, r3, r4, r5, r6, r7⟩ := hr.obj i o ho
                      rw [g1] at r1; cases r1
                      have hfz := r7 c1
                      subst hfz
                      have hsz : ent.esz = ei.size := by rw [r2, c3]
                      rw [hsz] at g3
                      have hcapm : (n + m) * ei.size ≤ cap * ei.size := Nat.mul_le_mul_right _ (by omega)
                      rw [Nat.add_mul] at hcapm
                      have hfit : ent.base + off + n * ei.size + news'.length ≤ cur.size := by rw [q1, r4]; omega
                      have hrun := append_room (P := P) (w := w) t ty e ei hu he ent.blk (ent.base + off) n cap cur tt r3 ⟨ent2.blk, ent2.base + joff, none⟩ m cap2 news' q1 q3 hone (by omega) hfit
                      have hkeep : ∀ k, k < ent.base + off + n * ei.size → ∀ u, cur[k]? = some u → (cur.toList.take (ent.base + off + n * ei.size) ++ news' ++ cur.toList.drop (ent.base + off + n * ei.size + news'.length)).toArray[k]? = some u := by
                        intro k hk u hu'
                        have hk2 : k < cur.toList.length := by simp; omega
                        simp only [List.getElem?_toArray]
                        rw [List.append_assoc, List.getElem?_append_left (by simp; omega), List.getElem?_take, if_pos hk]
                        simpa using hu'
                      have hnewat : ∀ (k : Nat) u, news'[k]? = some u → (cur.toList.take (ent.base + off + n * ei.size) ++ news' ++ cur.toList.drop (ent.base + off + n * ei.size + news'.length)).toArray[ent.base + off + n * ei.size + k]? = some u := by
                        intro k u hk
                        have hk2 : k < news'.length := by
                          rcases Nat.lt_or_ge k news'.length with h | h
                          · exact h
                          · rw [List.getElem?_eq_none h] at hk; cases hk
                        simp only [List.getElem?_toArray]
                        have hlt : (cur.toList.take (ent.base + off + n * ei.size)).length = ent.base + off + n * ei.size := by simp; omega
                        rw [List.append_assoc, List.getElem?_append_right (by omega), hlt, List.getElem?_append_left (by omega)]
                        rw [show ent.base + off + n * ei.size + k - (ent.base + off + n * ei.size) = k by omega]
                        exact hk
                      have hfin : (cur.toList.take (ent.base + off + n * ei.size) ++ news' ++ cur.toList.drop (ent.base + off + n * ei.size + news'.length)).toArray.size = cur.size := by
                        simp; omega
                      have hheap := setRow_heap w ent.blk cur (cur.toList.take (ent.base + off + n * ei.size) ++ news' ++ cur.toList.drop (ent.base + off + n * ei.size + news'.length)).toArray tt (0, 0) r3
                      generalize (cur.toList.take (ent.base + off + n * ei.size) ++ news' ++ cur.toList.drop (ent.base + off + n * ei.size + news'.length)).toArray = fin at *
                      have hin : i < H.next := AHeap.get_lt ho
                      have hle2 : ι.le (ι.put H.next ⟨ent.blk, ent.base + off, ent.size, ei.size⟩) := Inj.le_put hr _
                      refine ⟨_, _, ι.put H.next ⟨ent.blk, ent.base + off, ent.size, ei.size⟩, hrun, ⟨⟨?_, ?_, ?_, ?_, ?_, fun k f p hk hp hf => ?_, G.st w _ hr.env fun bb hbb => setRow_ne _ _ _ _ (fun x => ?_)⟩, hle2, rfl, by simp, by rw [setRow_size]; exact Nat.le_refl _, ?_, ?_, rfl, rfl, rfl⟩, ?_⟩
                      case refine_6 =>
                        rw [AHeap.get_new] at hp
                        simp only [AHeap.next_del, AHeap.get_del] at hp
                        by_cases hk1 : k = H.next
                        · subst hk1
                          rw [Inj.put_same] at hf; cases hf
                          exact hr.top i ent o c1 ho g1
                        · rw [if_neg hk1] at hp
                          rw [Inj.put_ne _ _ hk1] at hf
                          split at hp
                          · cases hp
                          · exact hr.top k f p hk hp hf
                      case refine_7 => have := hr.top i ent o c1 ho g1; omega
                      · -- objects
                        intro k p hp
                        rw [AHeap.get_new] at hp
                        split at hp
                        · rename_i hk
                          cases hp
                          simp only [AHeap.next_del] at hk
                          subst hk
                          refine ⟨_, fin, tt, (0, 0), Inj.put_same _ _ _, rfl, hheap, by rw [hfin]; exact r4, ?_, ?_, fun _ => rfl⟩
                          · simp; omega
                          · intro q u hq
                            simp only []
                            by_cases hq1 : q < (o.cells.drop off).length
                            · rw [List.getElem?_append_left hq1] at hq
                              obtain ⟨u', s1, s2⟩ := r6 (off + q) u (hdrop q u hq)
                              refine ⟨u', hkeep _ (by simp at hq1; omega) u' (by rw [Nat.add_assoc]; exact s1), s2.mono hle2⟩
                            · rw [List.getElem?_append_right (by omega)] at hq
                              obtain ⟨u', s1, s2⟩ := q2.get _ u hq
                              have := hnewat _ u' s1
                              refine ⟨u', ?_, s2.mono hle2⟩
                              rw [show ent.base + off + q = ent.base + off + n * ei.size + (q - (o.cells.drop off).length) by simp at hq1 ⊢; omega]
                              exact this
                        · rename_i hk
                          simp only [AHeap.next_del] at hk
                          rw [AHeap.get_del] at hp
                          split at hp
                          · cases hp
                          · rename_i hki
                            obtain ⟨f, cc, t', fz', s1, s2, s3, s4, s5, s6, s7⟩ := hr.obj k p hp
                            have hne : f.blk ≠ ent.blk := fun x => hr.sep i k ent f o p ho hp g1 s1 c1 (fun y => hki y.symm) x.symm
                            refine ⟨f, cc, t', fz', by rw [Inj.put_ne _ _ hk]; exact s1, s2, by rw [setRow_ne _ _ _ _ hne]; exact s3, s4, s5, fun q u hq => ?_, s7⟩
                            obtain ⟨u', z1, z2⟩ := s6 q u hq
                            exact ⟨u', z1, z2.mono hle2⟩
                      · intro k f hf
                        by_cases hk : k = H.next
                        · subst hk
                          rw [Inj.put_same] at hf; cases hf
                          have := hr.ent i ent g1
                          rw [setRow_size]
                          simp; omega
                        · rw [Inj.put_ne _ _ hk] at hf
                          have := hr.ent k f hf
                          rw [setRow_size]
                          simp; omega
                      · intro k l f g p q hp hq hf hg hk hkl
                        rw [AHeap.get_new] at hp hq
                        simp only [AHeap.next_del, AHeap.get_del] at hp hq
                        by_cases hk1 : k = H.next
                        · subst hk1
                          have hl1 : l ≠ H.next := fun x => hkl x.symm
                          rw [if_neg hl1] at hq
                          rw [Inj.put_same] at hf; cases hf
                          rw [Inj.put_ne _ _ hl1] at hg
                          split at hq
                          · cases hq
                          · rename_i hli
                            exact hr.sep i l ent g o q ho hq g1 hg c1 (fun y => hli y.symm)
                        · rw [if_neg hk1] at hp
                          rw [Inj.put_ne _ _ hk1] at hf
                          split at hp
                          · cases hp
                          · rename_i hki
                            by_cases hl1 : l = H.next
                            · subst hl1
                              rw [Inj.put_same] at hg; cases hg
                              exact fun x => hr.sep k i f ent p o hp ho hf g1 hk hki x
                            · rw [if_neg hl1] at hq
                              rw [Inj.put_ne _ _ hl1] at hg
                              split at hq
                              · cases hq
                              · exact hr.sep k l f g p q hp hq hf hg hk hkl
                      · have := hr.lo
                        simp; omega
                      · intro g hg
                        obtain ⟨f, s1, s2, s3⟩ := hr.glb g hg
                        exact ⟨f, hle2 _ _ s1, s2, s3⟩
                      · intro bb hbb hnb
                        exact setRow_ne _ _ _ _ (fun x => hnb i ent o c1 ho g1 x.symm)
                      · intro k f p hk hp hf
                        rw [AHeap.get_new] at hp
                        simp only [AHeap.next_del, AHeap.get_del] at hp
                        by_cases hk1 : k = H.next
                        · subst hk1
                          rw [Inj.put_same] at hf; cases hf
                          exact .inr ⟨i, ent, o, c1, ho, g1, rfl⟩
                        · rw [if_neg hk1] at hp
                          rw [Inj.put_ne _ _ hk1] at hf
                          split at hp
                          · cases hp
                          · exact .inr ⟨k, f, p, hk, hp, hf, rfl⟩
                      · have := VR.sl (ι := ι.put H.next ⟨ent.blk, ent.base + off, ent.size, ei.size⟩) (i := H.next) (off := 0) (len := n + m) (cap := cap) (c := n + m) (Inj.put_same _ _ _) (by omega) (by simp only []; omega)
                        simpa using this
                · cases h
            · cases h
    · cases h
end
end Go.Ab
