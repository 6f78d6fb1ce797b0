/- The abstract layer: literals, append, slices. -/
import Derived.Test.YtkegioliclbbhaaA3
set_option linter.unusedVariables false
set_option linter.unusedSimpArgs false
namespace Go.AL
variable {ι ι' : Nat → Option Nat} {S S' : Store} {F : Nat → Nat → Prop} {w w' : World} {P : Program}

theorem fold_set (off : Nat) : ∀ (vs : List Value) (i : Nat) (cur : Array Value), off + i + vs.length ≤ cur.size →
    (vs.zipIdx i).foldl (fun cs (p : Value × Nat) => cs.setIfInBounds (off + p.2) p.1) cur = (cur.toList.take (off + i) ++ vs ++ cur.toList.drop (off + i + vs.length)).toArray
  | [], i, cur, h => by simp
  | v :: vs, i, cur, h => by
    simp only [List.zipIdx_cons, List.foldl_cons]
    rw [fold_set off vs (i + 1) _ (by simp at h ⊢; omega)]
    have e := list_seg_step cur.toList (off + i) v vs (by simp at h ⊢; omega)
    congr 1
    simpa [Array.toList_setIfInBounds, Nat.add_assoc] using e

theorem fill_step (vs : Array Value) (off : Nat) (cur : Array Value) (h : off + vs.size ≤ cur.size) :
    vs.zipIdx.foldl (fun cs (p : Value × Nat) => cs.setIfInBounds (off + p.2) p.1) cur = (cur.toList.take off ++ vs.toList ++ cur.toList.drop (off + vs.size)).toArray := by
  rw [← Array.foldl_toList, Array.toList_zipIdx]
  have := fold_set off vs.toList 0 cur (by simpa using h)
  simpa using this

theorem RepL.seg {vs cs : Array Value} {l m : List AV} {off : Nat} (h : RepL ι F w vs l) (k : RepL ι F w cs m) (hfit : off + m.length ≤ l.length) :
    RepL ι F w (vs.toList.take off ++ cs.toList ++ vs.toList.drop (off + cs.size)).toArray (l.take off ++ m ++ l.drop (off + m.length)) := by
  have e1 := h.1
  have e2 := k.1
  refine ⟨by simp; omega, fun j v x hv hx => ?_⟩
  have g1 := seg_get vs.toList cs.toList off (by simp; omega) j
  have g2 := seg_get l m off hfit j
  simp only [Array.length_toList, Array.getElem?_toList] at g1
  rw [List.getElem?_toArray, g1] at hv
  rw [g2] at hx
  split at hv
  · rename_i hj; simp only [hj, if_true] at hx; exact h.2 j v x hv hx
  · rename_i hj
    simp only [hj, if_false] at hx
    rw [e2] at hv
    split at hv
    · rename_i hj2; simp only [hj2, if_true] at hx; exact k.2 _ v x hv hx
    · rename_i hj2; simp only [hj2, if_false] at hx; exact h.2 j v x hv hx

theorem seg_one {vs cs : Array Value} {off : Nat} (h : ∀ (j : Nat) v, vs[j]? = some v → v.oneCell' = true) (k : ∀ (j : Nat) v, cs[j]? = some v → v.oneCell' = true) :
    ∀ (j : Nat) v, (vs.toList.take off ++ cs.toList ++ vs.toList.drop (off + cs.size)).toArray[j]? = some v → v.oneCell' = true := by
  intro j v hv
  rw [List.getElem?_toArray] at hv
  have hm := List.mem_iff_getElem?.2 ⟨j, hv⟩
  simp only [List.mem_append] at hm
  rcases hm with (hm | hm) | hm
  · obtain ⟨i, hi⟩ := List.mem_iff_getElem?.1 (List.mem_of_mem_take hm)
    exact h i v (by simpa using hi)
  · obtain ⟨i, hi⟩ := List.mem_iff_getElem?.1 hm
    exact k i v (by simpa using hi)
  · obtain ⟨i, hi⟩ := List.mem_iff_getElem?.1 (List.mem_of_mem_drop hm)
    exact h i v (by simpa using hi)

theorem fill_rep (place : Nat → Option (Nat × Nat)) : ∀ (ps : List (Nat × Value)) (qs : List (Nat × AV)) (cells : Array Value) (zs : List AV), ps.length = qs.length →
    (∀ (j : Nat) p q, ps[j]? = some p → qs[j]? = some q → place p.1 = some (q.1, q.2.cells.length) ∧ Rep ι F w p.2 q.2 ∧ q.2.isVal = true ∧ q.1 + q.2.cells.length ≤ zs.length) →
    RepL ι F w cells zs → (∀ (j : Nat) v, cells[j]? = some v → v.oneCell' = true) →
    ∃ cells', Instr.fill place cells ps = some cells' ∧ RepL ι F w cells' (fillAV zs qs) ∧ (∀ (j : Nat) v, cells'[j]? = some v → v.oneCell' = true)
  | [], [], cells, zs, _, _, h1, h2 => ⟨cells, rfl, h1, h2⟩
  | [], _ :: _, _, _, h, _, _, _ => by simp at h
  | _ :: _, [], _, _, h, _, _, _ => by simp at h
  | (i, v) :: ps, (off, x) :: qs, cells, zs, hl, h, h1, h2 => by
    obtain ⟨hp, hv, hx, hfit⟩ := h 0 (i, v) (off, x) rfl rfl
    simp only at hp hv hx hfit
    obtain ⟨hc, hone⟩ := hv.cells hx
    have hsz := hc.1
    have h1' := h1.1
    have hstep := fill_step v.cells off cells (by omega)
    have hseg := h1.seg hc hfit
    rw [← hsz] at hp
    obtain ⟨cells', hf, hr, ho⟩ := fill_rep place ps qs _ _ (by simpa using hl) (fun j p q hp hq => by
      have := h (j + 1) p q (by simpa using hp) (by simpa using hq)
      refine ⟨this.1, this.2.1, this.2.2.1, ?_⟩
      have h3 := this.2.2.2
      simp only [List.length_append, List.length_take, List.length_drop]
      omega) hseg (seg_one h2 hone)
    refine ⟨cells', ?_, by simpa [fillAV, hsz] using hr, ho⟩
    have hcond : (decide (v.cells.size ≠ v.cells.size) || decide (off + v.cells.size > cells.size)) = false := by
      simp
      omega
    simp only [Instr.fill, hp, hcond, Bool.false_eq_true, if_false]
    rw [hstep]
    exact hf

/-- A struct literal. -/
theorem build_sound {t : TypeId} {ps : Array (Nat × Value)} {qs : List (Nat × AV)} {zs : List AV} {fields : Array Field} {places : List (Nat × Nat)} (hu : P.underlying t = some (.struct fields))
    (hz : zeroAV P t = some zs) (hp : fields.toList.mapM (fun f => (P.info? f.type).map fun i => (f.offset, i.size)) = some places) (hl : ps.size = qs.length)
    (h : ∀ (j : Nat) p q, ps[j]? = some p → qs[j]? = some q → places[p.1]? = some (q.1, q.2.cells.length) ∧ Rep ι F w p.2 q.2 ∧ q.2.isVal = true ∧ q.1 + q.2.cells.length ≤ zs.length) :
    ∃ v, (Instr.build t ps).run P w = .ok v w ∧ Rep ι F w v (.agg (fillAV zs qs)) := by
  obtain ⟨i, z, hi, hiz, hzr, hz1, _⟩ := zeroAV_spec (ι := ι) (F := F) (w := w) hz
  obtain ⟨cells, hf, hr, ho⟩ := fill_rep (places.toArray[·]?) ps.toList qs z.cells zs (by simpa using hl) (fun j p q hp hq => by
    have := h j p q (by simpa using hp) hq
    simpa using this) hzr hz1
  refine ⟨.agg cells, run_build w t ps cells ?_, .agg hr.1 ho hr.2⟩
  simp only [Program.built, hi, hu, hiz, hp]
  exact hf

theorem flat_replicate (z : AV) (n : Nat) : flat (List.replicate n z) = (List.replicate n z.cells).flatten := by
  induction n with
  | zero => rfl
  | succ n ih => simp [List.replicate_succ, ih]

theorem zeros_rep {z : Array Value} {zs : List AV} {sz : Nat} (h : RepL ι F w z zs) (hz : z.size = sz) (hpos : 0 < sz) (x : AV) (hx : x.cells = zs) (n : Nat) :
    RepL ι F w ((Array.range (n * sz)).map (z[· % z.size]!)) (flat (List.replicate n x)) := by
  have hlen : (flat (List.replicate n x)).length = n * sz := by
    rw [flat_length (sz := sz) (fun y hy => by rw [List.eq_of_mem_replicate hy, hx, ← h.1, hz])]
    simp
  refine ⟨by simp [hlen], fun j v y hv hy => ?_⟩
  have hj : j < n * sz := by rw [← hlen]; exact (List.getElem?_eq_some_iff.1 hy).1
  have hjs : j % sz < sz := Nat.mod_lt _ hpos
  have hjd : j / sz < n := by rw [Nat.div_lt_iff_lt_mul hpos]; omega
  have e : j = j / sz * sz + j % sz := by rw [Nat.mul_comm]; exact (Nat.div_add_mod j sz).symm
  have hg := flat_get (sz := sz) (xs := List.replicate n x) (fun y hy => by rw [List.eq_of_mem_replicate hy, hx, ← h.1, hz]) (j / sz) (j % sz) hjs
  rw [← e] at hg
  rw [hg] at hy
  simp only [List.getElem?_replicate, hjd, if_true, Option.bind_some, hx] at hy
  have hv' : v = z[j % sz]! := by
    simp only [Array.getElem?_map, Array.getElem?_range, hj] at hv
    simp at hv
    rw [← hv, hz]
  have hzj : z[j % sz]? = some v := by
    rw [hv', getElem!_pos z (j % sz) (by omega)]
    simp
  exact h.2 _ v y hzj hy

theorem fill_flat {sz : Nat} : ∀ (qs : List (Nat × AV)) (xs : List AV), (∀ x ∈ xs, x.cells.length = sz) → (∀ q ∈ qs, q.2.cells.length = sz ∧ q.1 < xs.length) →
    fillAV (flat xs) (qs.map fun q => (q.1 * sz, q.2)) = flat (qs.foldl (fun xs q => xs.set q.1 q.2) xs)
  | [], xs, _, _ => rfl
  | (i, x) :: qs, xs, h, hq => by
    obtain ⟨hx, hi⟩ := hq (i, x) (by simp)
    simp only at hx hi
    have hset : (flat xs).take (i * sz) ++ x.cells ++ (flat xs).drop (i * sz + x.cells.length) = flat (xs.set i x) := by
      have e : xs = xs.take i ++ xs[i] :: xs.drop (i + 1) := by simp
      have hl : (flat (xs.take i)).length = i * sz := by
        rw [flat_length (sz := sz) fun y hy => h y (List.mem_of_mem_take hy)]
        simp [Nat.le_of_lt hi]
      have hl2 : xs[i].cells.length = sz := h _ (List.getElem_mem hi)
      have e1 : flat xs = flat (xs.take i) ++ (xs[i].cells ++ flat (xs.drop (i + 1))) := by
        conv => lhs; rw [e]
        rw [flat_append, flat_cons]
      rw [List.set_eq_take_append_cons_drop, if_pos hi, flat_append, flat_cons]
      have t1 : (flat xs).take (i * sz) = flat (xs.take i) := by rw [e1, ← hl, List.take_left']; rfl
      have t2 : (flat xs).drop (i * sz + x.cells.length) = flat (xs.drop (i + 1)) := by
        rw [e1, hx, ← hl, ← hl2, ← List.drop_drop, List.drop_left', List.drop_left'] <;> rfl
      rw [t1, t2, List.append_assoc]
    simp only [List.map_cons, List.foldl_cons, fillAV]
    rw [hset]
    exact fill_flat qs (xs.set i x) (fun y hy => by
      rcases List.mem_or_eq_of_mem_set hy with hy | rfl
      · exact h y hy
      · exact hx) (fun q hqm => by simpa using hq q (by simp [hqm]))

/-- What stands for a list whose cells lie at the head of a new block. -/
theorem Rep.list_of_block {b len cap sz : Nat} {t : Tok} {xs : List AV} {vs : Array Value} {e : TypeId} (hlen : len = xs.length) (hcap : len ≤ cap)
    (hsz : ∀ x ∈ xs, x.cells.length = sz) (ht : TokOK ι w sz (some ⟨b, 0, none⟩) len cap t) (hh : w.heap[b]? = some (.cells vs e (0, 0))) (hF : ∀ j, j < len * sz → ¬ F b j)
    (hr : ∀ (j : Nat) v x, vs[j]? = some v → (flat xs)[j]? = some x → Rep ι F w v x) (hone : ∀ (j : Nat) v, j < len * sz → vs[j]? = some v → v.oneCell' = true) (hbig : len * sz ≤ vs.size) :
    Rep ι F w (.slice (some ⟨b, 0, none⟩) len cap) (.list sz t xs) := by
  have hget : ∀ j, j < len * sz → vs[j]? = some (vs.getD j undef) := fun j hj => by
    have : j < vs.size := by omega
    simp [this]
  refine .list (fun j => vs.getD j undef) hlen hcap hsz ht (by simp) (fun j hj => ⟨_, rfl, rfl, ?_, ?_, ?_⟩) (fun j x hx => ?_)
  · simp only [World.cell?, hh, Nat.zero_add]
    simpa using hget j hj
  · simpa using hF j hj
  · exact hone j _ hj (hget j hj)
  · have hj : j < len * sz := by
      rw [hlen, ← flat_length hsz]
      exact (List.getElem?_eq_some_iff.1 hx).1
    exact hr j _ x (hget j hj) hx

theorem not_foot_new (hwf : WF ι S w) (j : Nat) (o : Obj) : ¬ Foot ι S w.heap.size j := by
  rintro ⟨q, ob, _, h2, _⟩
  have := hwf.blt q _ h2
  omega

theorem foldl_set_mem : ∀ (qs : List (Nat × AV)) (xs : List AV), ∀ x ∈ qs.foldl (fun xs q => xs.set q.1 q.2) xs, x ∈ xs ∨ ∃ q ∈ qs, x = q.2
  | [], xs, x, hx => .inl hx
  | q :: qs, xs, x, hx => by
    rcases foldl_set_mem qs (xs.set q.1 q.2) x hx with h | ⟨p, hp, rfl⟩
    · rcases List.mem_or_eq_of_mem_set h with h | rfl
      · exact .inl h
      · exact .inr ⟨q, by simp, rfl⟩
    · exact .inr ⟨p, by simp [hp], rfl⟩

theorem foldl_set_length : ∀ (qs : List (Nat × AV)) (xs : List AV), (qs.foldl (fun xs q => xs.set q.1 q.2) xs).length = xs.length
  | [], xs => rfl
  | q :: qs, xs => by simp [foldl_set_length qs]

/-- A slice literal. -/
theorem buildSlice_sound (hwf : WF ι S w) {t e : TypeId} {i : TypeInfo} {ps : Array (Nat × Value)} {qs : List (Nat × AV)} {zs : List AV} {m : Nat} (hu : P.underlying t = some (.slice e)) (hi : P.info? e = some i)
    (hz : zeroAV P e = some zs) (x0 : AV) (hx0 : x0.cells = zs) (hzl : zs.length = i.size) (hpos : 0 < i.size) (hbig : m * i.size ≤ 2 ^ 24) (hl : ps.size = qs.length)
    (h : ∀ (j : Nat) p q, ps[j]? = some p → qs[j]? = some q → p.1 = q.1 ∧ Rep ι (Foot ι S) w p.2 q.2)
    (hside : ∀ q ∈ qs, q.2.isVal = true ∧ q.2.cells.length = i.size ∧ q.1 < m) :
    ∃ v w', (Instr.buildSlice t m ps).run P w = .ok v w' ∧ Step ι S w ι S w' ∧ WF ι S w' ∧
      Rep ι (Foot ι S) w' v (.list i.size .full (qs.foldl (fun xs q => xs.set q.1 q.2) (List.replicate m x0))) := by
  obtain ⟨i', z, hi', hiz, hzr, hz1, hzv, _⟩ := zeroAV_spec (ι := ι) (F := Foot ι S) (w := w) hz
  rw [hi] at hi'
  cases hi'
  have hzs : z.cells.size = i.size := hzr.1.trans hzl
  let zeros : Array Value := (Array.range (m * i.size)).map (z.cells[· % z.cells.size]!)
  have hzrep : RepL ι (Foot ι S) w zeros (flat (List.replicate m x0)) := zeros_rep hzr hzs hpos x0 hx0 m
  have hone : ∀ (j : Nat) v, zeros[j]? = some v → v.oneCell' = true := by
    intro j v hv
    simp only [zeros, Array.getElem?_map, Option.map_eq_some_iff] at hv
    obtain ⟨k, _, rfl⟩ := hv
    have hk : k % z.cells.size < z.cells.size := Nat.mod_lt _ (by omega)
    rw [getElem!_pos z.cells _ hk]
    exact hz1 _ _ (Array.getElem?_eq_getElem hk)
  have hrl : ∀ y ∈ List.replicate m x0, y.cells.length = i.size := fun y hy => by rw [List.eq_of_mem_replicate hy, hx0, hzl]
  obtain ⟨cells, hf, hr, ho⟩ := fill_rep (fun k => some (k * i.size, i.size)) ps.toList (qs.map fun q => (q.1 * i.size, q.2)) zeros _ (by simpa using hl) (fun j p q hp hq => by
    simp only [List.getElem?_map, Option.map_eq_some_iff] at hq
    obtain ⟨q', hq', rfl⟩ := hq
    obtain ⟨e1, e2⟩ := h j p q' (by simpa using hp) hq'
    obtain ⟨s1, s2, s3⟩ := hside q' (List.mem_of_getElem? hq')
    refine ⟨by rw [e1, s2], e2, s1, ?_⟩
    rw [flat_length hrl, s2]
    simp only [List.length_replicate]
    have : (q'.1 + 1) * i.size ≤ m * i.size := Nat.mul_le_mul_right _ s3
    rw [Nat.succ_mul] at this
    exact this) hzrep hone
  rw [fill_flat qs _ hrl (fun q hq => ⟨(hside q hq).2.1, by simpa using (hside q hq).2.2⟩)] at hr
  have hmem : ∀ y ∈ qs.foldl (fun xs q => xs.set q.1 q.2) (List.replicate m x0), y.cells.length = i.size := by
    intro y hy
    rcases foldl_set_mem qs _ y hy with hy | ⟨q, hq, rfl⟩
    · exact hrl y hy
    · exact (hside q hq).2.1
  have hcs : cells.size = m * i.size := by
    rw [hr.1, flat_length hmem, foldl_set_length]
    simp
  have hs := alloc_step ι S w (.cells cells e)
  refine ⟨.slice (some ⟨w.heap.size, 0, none⟩) m m, w.alloc (.cells cells e), ?_, hs, hwf.alloc _, ?_⟩
  · have hbig' : ¬ (16777216 < m * i.size) := by omega
    have hm0 : (if m * i.size = 0 then (Pure.pure #[] : Sem (Array Value)) else (do pure (← zeroValue e).cells)).run P w = .ok (if m * i.size = 0 then #[] else z.cells) w := by
      split <;> simp [hzv]
    have hf' : Instr.fill (fun k => some (k * i.size, i.size)) ((Array.range (m * i.size)).map ((if m * i.size = 0 then #[] else z.cells)[· % (if m * i.size = 0 then (#[] : Array Value) else z.cells).size]!)) ps.toList = some cells := by
      by_cases h0 : m * i.size = 0
      · have e0 : zeros = #[] := by simp [zeros, h0]
        rw [e0] at hf
        have e1 : (Array.map (fun x => (default : Value)) (Array.range 0)) = #[] := by simp
        simp only [h0, if_true]
        simpa [e1] using hf
      · simpa [h0] using hf
    by_cases h0 : m * i.size = 0
    · simp only [h0, if_true] at hf'
      simp [Instr.buildSlice, run_underlying hu, sizeOf, typeInfo, hi, hbig', hzv, h0, newRow] at hf' ⊢
      rw [hf']
      simp
    · simp only [h0, if_false] at hf'
      simp [Instr.buildSlice, run_underlying hu, sizeOf, typeInfo, hi, hbig', hzv, h0, newRow, hf']
  · refine Rep.list_of_block (vs := cells) (e := e) (by simp [foldl_set_length]) (Nat.le_refl _) hmem rfl (heap_alloc_eq w _) (fun j _ => not_foot_new hwf j (.cells cells e)) (fun j v x hv hx => (hr.2 j v x hv hx).step hs) (fun j v _ hv => ho j v hv) (by omega)

end Go.AL
