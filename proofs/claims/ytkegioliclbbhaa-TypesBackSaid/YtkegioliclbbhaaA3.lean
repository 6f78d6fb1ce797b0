/- The abstract layer: what Go's operations come to, one by one. -/
import Derived.Test.YtkegioliclbbhaaA2
import Derived.Laws.MakeOwn
set_option linter.unusedVariables false
set_option linter.unusedSimpArgs false
namespace Go.AL
variable {ι ι' : Nat → Option Nat} {S S' : Store} {F : Nat → Nat → Prop} {w w' : World} {P : Program}

/-- Cells from an address on that stand for a list. -/
def CellsAt (ι : Nat → Option Nat) (F : Nat → Nat → Prop) (w : World) (a : Addr) (l : List AV) : Prop :=
  a.spot = none ∧ ∃ f : Nat → Value, ∀ j x, l[j]? = some x → w.cell? ⟨a.block, a.off + j, none⟩ = some (f j) ∧ (f j).oneCell' = true ∧ Rep ι F w (f j) x

theorem CellsAt.drop {a : Addr} {l : List AV} (h : CellsAt ι F w a l) (n : Nat) : CellsAt ι F w ⟨a.block, a.off + n, none⟩ (l.drop n) := by
  obtain ⟨h1, f, h2⟩ := h
  refine ⟨rfl, fun j => f (n + j), fun j x hx => ?_⟩
  have := h2 (n + j) x (by simpa using hx)
  simpa [Nat.add_assoc] using this

theorem box_cellsAt {b : Nat} {cs : List AV} (h : ObjRep ι F w b (.box cs)) : CellsAt ι F w ⟨b, 0, none⟩ cs := by
  obtain ⟨vs, e, h1, h2, h3, h4⟩ := h
  refine ⟨rfl, fun j => vs.getD j undef, fun j x hx => ?_⟩
  have hj' := (List.getElem?_eq_some_iff.1 hx).1
  have hj : j < vs.size := by omega
  have hv : vs[j]? = some (vs.getD j undef) := by simp [hj]
  refine ⟨by simp [World.cell?, h1, hj], h4 j _ hj' hv, h3 j _ x hv hx⟩

theorem arr_cellsAt {b sz : Nat} {xs : List AV} (h : ObjRep ι F w b (.arr sz xs)) : CellsAt ι F w ⟨b, 0, none⟩ (flat xs) := by
  obtain ⟨vs, e, h1, h2, h3, h4, h5⟩ := h
  refine ⟨rfl, fun j => vs.getD j undef, fun j x hx => ?_⟩
  have hj' : j < xs.length * sz := by
    rw [← flat_length h2]
    exact (List.getElem?_eq_some_iff.1 hx).1
  have hj : j < vs.size := by omega
  have hv : vs[j]? = some (vs.getD j undef) := by simp [hj]
  exact ⟨by simp [World.cell?, h1, hj], h5 j _ hj' hv, h4 j _ x hv hx⟩

theorem cptr_cellsAt {a : Addr} {l : List AV} (h : Rep ι F w (.pointer (some a)) (.cptr l)) : CellsAt ι F w a l := by
  cases h with
  | cptr cs ha hc hr =>
    refine ⟨ha, cs, fun j x hx => ?_⟩
    have hj := (List.getElem?_eq_some_iff.1 hx).1
    obtain ⟨h1, h2, h3⟩ := hc j hj
    exact ⟨h1, h3, hr j x hx⟩

theorem run_loadVar_one (t : TypeId) (a : Addr) (v : Value) (hagg : (isAgg t).run P w = .ok false w) (h : w.cell? a = some v) : (loadVar t a).run P w = .ok v w := by
  simp [loadVar, hagg, h]

theorem run_loadVar_agg (t : TypeId) (a : Addr) (n : Nat) (f : Nat → Value) (hagg : (isAgg t).run P w = .ok true w) (hs : (sizeOf t).run P w = .ok n w)
    (h : ∀ j, j < n → w.cell? (a.add j) = some (f j)) : (loadVar t a).run P w = .ok (.agg ((List.range n).map f).toArray) w := by
  simp [loadVar, hagg, hs, run_loadCells w a n f h]

theorem load_cells (t : TypeId) (n : Nat) (agg : Bool) (hagg : (isAgg t).run P w = .ok agg w) (hs : (sizeOf t).run P w = .ok n w) {a : Addr} {l : List AV} (hc : CellsAt ι F w a l)
    (hn : n ≤ l.length) {x : AV} (hx : loadAV n agg l = some x) : ∃ v, (Instr.loadAt t (.pointer (some a))).run P w = .ok v w ∧ Rep ι F w v x := by
  obtain ⟨ha, f, h⟩ := hc
  cases agg with
  | false =>
    simp only [loadAV, Bool.false_eq_true, if_false] at hx
    cases l with
    | nil => simp at hx
    | cons y r =>
      simp at hx
      subst hx
      obtain ⟨h1, h2, h3⟩ := h 0 y (by simp)
      have ha' : a = ⟨a.block, a.off + 0, none⟩ := by cases a; simp_all
      refine ⟨f 0, ?_, h3⟩
      simp only [Instr.loadAt, Instr.sureAddr, Sem.run_bind, Sem.run_pure, Result.andThen_ok]
      exact run_loadVar_one t a (f 0) hagg (by rw [ha']; exact h1)
  | true =>
    simp only [loadAV, if_true] at hx
    cases hx
    refine ⟨.agg ((List.range n).map f).toArray, ?_, ?_⟩
    · simp only [Instr.loadAt, Instr.sureAddr, Sem.run_bind, Sem.run_pure, Result.andThen_ok]
      refine run_loadVar_agg t a n f hagg hs fun j hj => ?_
      rw [addr_add a ha]
      exact (h j l[j] (by simp)).1
    · refine .agg (by simp; omega) (fun j v hv => ?_) (fun j v x hv hx => ?_)
      · simp only [List.getElem?_toArray, List.getElem?_map, List.getElem?_range, Option.map_eq_some_iff] at hv
        obtain ⟨k, hk, rfl⟩ := hv
        have hj : j < n := by
          rcases Nat.lt_or_ge j n with h' | h'
          · exact h'
          · simp [List.getElem?_eq_none, h'] at hk
        have hk' : k = j := by simpa [hj, List.getElem?_range] using hk.symm
        subst hk'
        exact (h k l[k] (by simp)).2.1
      · simp only [List.getElem?_toArray, List.getElem?_map, Option.map_eq_some_iff] at hv
        obtain ⟨k, hk, rfl⟩ := hv
        have hj : j < n := by
          rcases Nat.lt_or_ge j n with h' | h'
          · exact h'
          · simp [List.getElem?_eq_none, h'] at hk
        have hk' : k = j := by simpa [hj, List.getElem?_range] using hk.symm
        subst hk'
        rw [List.getElem?_take_of_lt hj] at hx
        exact (h k x hx).2.2

theorem run_storeVar (t : TypeId) (g o n : Nat) (e : TypeId) (v : Value) (cur : Array Value) (hs : (sizeOf t).run P w = .ok n w) (hn : v.cells.size = n)
    (hg : w.heap[g]? = some (.cells cur e (0, 0))) (hfit : o + n ≤ cur.size) (h1 : ∀ (j : Nat) u, v.cells[j]? = some u → u.oneCell' = true) :
    (Instr.storeAt t (.pointer (some ⟨g, o, none⟩)) v).run P w = .ok () (w.setRow g (cur.toList.take o ++ v.cells.toList ++ cur.toList.drop (o + n)).toArray) := by
  have hst := run_storeCells_at P g o e v.cells.toList 0 cur w hg (by simp; omega) (fun u hu => by
    obtain ⟨j, hj⟩ := List.mem_iff_getElem?.1 hu
    exact h1 j u (by simpa using hj))
  simp only [Instr.storeAt, Instr.sureAddr, storeVar, Sem.run_bind, Sem.run_pure, Result.andThen_ok, hs, hn, ne_eq, not_true, if_false]
  simpa [hn] using hst

theorem seg_get {α : Type} (l m : List α) (o : Nat) (ho : o + m.length ≤ l.length) (j : Nat) :
    (l.take o ++ m ++ l.drop (o + m.length))[j]? = if j < o then l[j]? else if j < o + m.length then m[j - o]? else l[j]? := by
  have hlen : (l.take o).length = o := by simp; omega
  by_cases h1 : j < o
  · rw [if_pos h1, List.append_assoc, List.getElem?_append_left (by omega), List.getElem?_take_of_lt h1]
  · rw [if_neg h1, List.append_assoc, List.getElem?_append_right (by omega), hlen]
    by_cases h2 : j < o + m.length
    · rw [if_pos h2, List.getElem?_append_left (by omega)]
    · rw [if_neg h2, List.getElem?_append_right (by omega), List.getElem?_drop]
      congr 1
      omega

/-- A box is written. -/
theorem store_box (hwf : WF ι S w) {o b off n : Nat} {cs : List AV} (ho : S o = some (.box cs)) (hb : ι o = some b) {v : Value} {x : AV} (hv : Rep ι (Foot ι S) w v x) (hx : x.isVal = true)
    (hn : x.cells.length = n) (hfit : off + n ≤ cs.length) (t : TypeId) (hs : (sizeOf t).run P w = .ok n w) :
    ∃ w', (Instr.storeAt t (.pointer (some ⟨b, off, none⟩)) v).run P w = .ok () w' ∧ Step ι S w ι (putS S o (.box (storeAV cs off x))) w' ∧ WF ι (putS S o (.box (storeAV cs off x))) w' := by
  obtain ⟨vs, e, h1, hsz, h2, h3⟩ := hwf.rep o _ b ho hb
  obtain ⟨⟨hc1, hc2⟩, hc3⟩ := hv.cells hx
  have hvn : v.cells.size = n := hc1.trans hn
  have hrun := run_storeVar (P := P) t b off n e v vs hs hvn h1 (by omega) hc3
  have hlen : (vs.toList.take off ++ v.cells.toList ++ vs.toList.drop (off + n)).toArray.size = vs.size := by simp; omega
  have hget : ∀ j : Nat, (vs.toList.take off ++ v.cells.toList ++ vs.toList.drop (off + n)).toArray[j]? = if j < off then vs[j]? else if j < off + n then v.cells[j - off]? else vs[j]? := by
    intro j
    have := seg_get vs.toList v.cells.toList off (by simp; omega) j
    simp only [Array.length_toList, hvn, Array.getElem?_toList] at this
    simpa using this
  have hget' : ∀ j : Nat, (storeAV cs off x)[j]? = if j < off then cs[j]? else if j < off + n then x.cells[j - off]? else cs[j]? := by
    intro j
    have := seg_get cs x.cells off (by omega) j
    simpa [storeAV, hn] using this
  refine ⟨_, hrun, write_obj hwf ho hb h1 hlen (fun _ => trivial) fun hkeep hheap => ?_⟩
  have hsl : (storeAV cs off x).length = cs.length := by simp [storeAV]; omega
  refine ⟨_, e, hheap, by rw [hlen, hsl]; exact hsz, fun j u y hu hy => ?_, fun j u hj0 hu => ?_⟩
  · rw [hget] at hu
    rw [hget'] at hy
    refine hkeep _ _ ?_
    split at hu
    · rename_i hj; simp only [hj, if_true] at hy; exact h2 j u y hu hy
    · rename_i hj
      simp only [hj, if_false] at hy
      split at hu
      · rename_i hj2; simp only [hj2, if_true] at hy; exact hc2 _ u y hu hy
      · rename_i hj2; simp only [hj2, if_false] at hy; exact h2 j u y hu hy
  · rw [hget] at hu
    rw [hsl] at hj0
    split at hu
    · exact h3 j u hj0 hu
    · split at hu
      · exact hc3 _ u hu
      · exact h3 j u hj0 hu

/-- A new box. -/
theorem new_box (hwf : WF ι S w) {n : Nat} (hι : ι n = none) {vs : Array Value} {cs : List AV} (h : RepL ι (Foot ι S) w vs cs) (h1 : ∀ (j : Nat) v, vs[j]? = some v → v.oneCell' = true) (e : TypeId) :
    Step ι S w (putι ι n w.heap.size) (putS S n (.box cs)) (w.alloc (.cells vs e)) ∧ WF (putι ι n w.heap.size) (putS S n (.box cs)) (w.alloc (.cells vs e)) := by
  have hs := alloc_obj_step hwf hι (.cells vs e) (.box cs)
  exact ⟨hs, alloc_obj_wf hwf hι _ _ ⟨vs, e, heap_alloc_eq w _, Nat.le_of_eq h.1.symm, (h.step hs).2, fun j v _ => h1 j v⟩⟩

/-! ## Constants -/

def constAV : Value → Option AV
  | .bool b => some (.bool b)
  | .int k n => some (.int k n)
  | .string s => some (.str s)
  | .pointer none => some .nilptr
  | .slice none 0 0 => some (.list 0 .full [])
  | .map none => some .nilmap
  | .nilFunc => some .nilfn
  | _ => none

theorem constAV_rep (v : Value) {x : AV} (h : constAV v = some x) : Rep ι F w v x := by
  unfold constAV at h
  split at h <;> simp at h <;> subst h
  · exact .bool _
  · exact .int _ _
  · exact .str _
  · exact .nilptr
  · exact .list (fun _ => undef) rfl (Nat.le_refl _) (by simp) rfl (by simp) (by simp) (by simp)
  · exact .nilmap
  · exact .nilfn

theorem constAV_cell (v : Value) {x : AV} (h : constAV v = some x) : v.oneCell' = true := by
  unfold constAV at h
  split at h <;> simp at h <;> subst h <;> rfl

theorem constAV_isVal (v : Value) {x : AV} (h : constAV v = some x) : x.isVal = true ∧ x.cells = [x] := by
  unfold constAV at h
  split at h <;> simp at h <;> subst h <;> exact ⟨rfl, rfl⟩

def zeroAV (P : Program) (t : TypeId) : Option (List AV) := (P.info? t).bind fun i => i.zero.bind fun z => z.cells.toList.mapM constAV

theorem mapM_rep {vs : List Value} {l : List AV} (h : vs.mapM constAV = some l) : vs.length = l.length ∧ ∀ (j : Nat) v x, vs[j]? = some v → l[j]? = some x → constAV v = some x := by
  induction vs generalizing l with
  | nil => simp at h; subst h; simp
  | cons v vs ih =>
    simp only [List.mapM_cons, Option.bind_eq_bind, Option.pure_def] at h
    cases hv : constAV v with
    | none => simp [hv] at h
    | some y =>
      cases hr : vs.mapM constAV with
      | none => simp [hv, hr] at h
      | some r =>
        simp [hv, hr] at h
        subst h
        obtain ⟨h1, h2⟩ := ih hr
        refine ⟨by simp [h1], fun j u x hu hx => ?_⟩
        cases j with
        | zero => simp at hu hx; subst hu hx; exact hv
        | succ j => simp at hu hx; exact h2 j u x hu hx

theorem zeroAV_spec {t : TypeId} {zs : List AV} (h : zeroAV P t = some zs) : ∃ i z, P.info? t = some i ∧ i.zero = some z ∧ RepL ι F w z.cells zs ∧ (∀ (j : Nat) v, z.cells[j]? = some v → v.oneCell' = true) ∧
    (zeroValue t).run P w = .ok z w ∧ (∀ x ∈ zs, x.isVal = true ∧ x.cells = [x]) := by
  unfold zeroAV at h
  cases hi : P.info? t with
  | none => simp [hi] at h
  | some i =>
    cases hz : i.zero with
    | none => simp [hi, hz] at h
    | some z =>
      simp [hi, hz] at h
      obtain ⟨h1, h2⟩ := mapM_rep h
      have hex : ∀ (j : Nat) v, z.cells[j]? = some v → ∃ x, zs[j]? = some x ∧ constAV v = some x := by
        intro j v hv
        have hj : j < zs.length := by rw [← h1]; simpa using (Array.getElem?_eq_some_iff.1 hv).1
        exact ⟨zs[j], by simp, h2 j v _ (by simpa using hv) (by simp)⟩
      refine ⟨i, z, rfl, hz, ⟨by simpa using h1, fun j v x hv hx => constAV_rep v (h2 j v x (by simpa using hv) hx)⟩, fun j v hv => ?_, ?_, ?_⟩
      · obtain ⟨x, _, hx⟩ := hex j v hv; exact constAV_cell v hx
      · simp [zeroValue, typeInfo, hi, hz]
      · intro x hx
        obtain ⟨j, hj⟩ := List.mem_iff_getElem?.1 hx
        have hj' : j < z.cells.toList.length := by rw [h1]; exact (List.getElem?_eq_some_iff.1 hj).1
        exact constAV_isVal _ (h2 j z.cells.toList[j] x (by simp) hj)

end Go.AL
