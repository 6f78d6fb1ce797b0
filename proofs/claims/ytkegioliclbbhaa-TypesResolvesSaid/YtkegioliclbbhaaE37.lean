/- The abstract layer: a slice of ints is sorted. -/
import Derived.Test.YtkegioliclbbhaaA17
import Derived.Sort.Row
import Derived.Sort.Grow
set_option linter.unusedVariables false
set_option linter.unusedSimpArgs false
namespace Go.AL
open Go.Sort
variable {P : Program} {ι ι' : Nat → Option Nat} {s s' : St} {w w' : World}

def ilist (zs : List Int) : List AV := zs.map (AV.int .i64)
def isort (zs : List Int) : List Int := zs.mergeSort fun x y => decide (x ≤ y)
theorem isort_length (zs : List Int) : (isort zs).length = zs.length := by simp [isort]

theorem ahead_step (ι : Nat → Option Nat) (S : Store) (w : World) (n : Nat) : Step ι S w ι S (Sort.ahead w n) :=
  grow_step (Nat.le_refl _) rfl rfl rfl (fun _ _ => rfl) (fun _ _ h => h) (fun _ _ _ h => h) (fun _ _ h => h)
theorem WF.ahead {S : Store} (hwf : WF ι S w) (n : Nat) : WF ι S (Sort.ahead w n) :=
  hwf.of_step (ahead_step ι S w n) hwf.blt hwf.inj fun _ _ b h1 h2 => .inl ⟨h1, h2, rfl⟩

theorem putRow_setRow {enc : Int → Value} {w : World} {b : Nat} {vs : Array Value} {e : TypeId} {fr : Nat × Nat} (d : Array Int) (h : w.heap[b]? = some (.cells vs e fr)) : putRow enc w b 0 d = w.setRow b (putCells enc 0 d vs) := by
  unfold putRow mapBlock World.setRow
  congr 1
  apply Array.ext_getElem?
  intro k
  simp only [Array.getElem?_modify]
  by_cases hk : b = k
  · subst hk
    simp only [if_true, h, Option.map_some, onCells]
  · simp [hk]

theorem sort_sound {f : FuncId} (hcb : Callable P f) (hnone : ∀ (p : Option Addr) (cap : Nat) (w : World), Calls P f #[.slice p 0 cap] w fun e w' => e = .returned (.tuple #[]) ∧ w' = w)
    (hsort : ∀ (blk off cap : Nat) (zs : List Int) (w : World), Holds (Value.int .i64) w blk off zs.toArray → blk < w.heap.size → zs.length < 4611686018427387904 →
      Calls P f #[.slice (some ⟨blk, off, none⟩) zs.length cap] w fun e w' => e = .returned (.tuple #[]) ∧ ∃ n os, w' = Go.Sort.grow (putRow (Value.int .i64) (Sort.ahead w n) blk off (zs.mergeSort fun x y => decide (x ≤ y)).toArray) os)
    (zs : List Int) (o : Nat) {K : AV → St → Prop} (hlen : zs.length < 4611686018427387904) (ho : s.m o = some (.box (ilist zs))) (hK : K (.tup []) (s.set o (.box (ilist (isort zs))))) : ACalls P f [.mref 1 o 0 zs.length] s K := by
  refine ⟨hcb, fun ι w vs hwf hbnd hvs => ?_⟩
  obtain ⟨v, rfl⟩ : ∃ v, vs = #[v] := by
    obtain ⟨l⟩ := vs
    match l, hvs.1 with
    | [v], _ => exact ⟨v, rfl⟩
  have hv := hvs.2 0 v _ rfl rfl
  have hbnd' : Bnd ι (s.set o (.box (ilist (isort zs)))).m s.nx := ⟨fun q ob hq => by
    by_cases e : q = o
    · subst e; exact hbnd.lt q _ ho
    · simp [St.set, e] at hq; exact hbnd.lt q ob hq, hbnd.ilt⟩
  cases zs with
  | nil =>
    have hvv : ∃ p cap, v = .slice p 0 cap := by
      cases hv with
      | mref h hcap hb => exact ⟨_, _, rfl⟩
      | mnil => exact ⟨_, _, rfl⟩
    obtain ⟨p, cap, rfl⟩ := hvv
    refine (hnone p cap w).mono ?_
    rintro e w' ⟨rfl, rfl⟩
    have hm : (s.set o (.box (ilist (isort [])))).m = s.m := by
      funext q
      by_cases e : q = o
      · subst e; simp [St.set, ho, isort, ilist]
      · simp [St.set, e]
    refine ⟨_, _, s.set o (.box (ilist (isort []))), ι, rfl, ?_, ?_, ?_, Inc.refl _ _, .tup rfl (by simp), hK⟩
    · rw [hm]; exact Step.refl _ _ _
    · rw [hm]; exact hwf
    · exact hbnd'
  | cons z zs =>
    generalize hzz : z :: zs = zl at *
    have hne : zl.length ≠ 0 := by rw [← hzz]; simp
    generalize hln : zl.length = ln at hv
    cases hv with
    | mnil => exact absurd hln hne
    | @mref _ _ b _ _ cap h hcap hb =>
      subst hln
      obtain ⟨cvs, e, h1, h2, h3, h4⟩ := hwf.rep o _ b ho h
      simp only [ilist, List.length_map] at h2
      have hcell : ∀ j, j < zl.length → cvs[j]? = some (.int .i64 zl[j]!) := by
        intro j hj
        have hjc : j < cvs.size := by omega
        have hx : (ilist zl)[j]? = some (.int .i64 zl[j]!) := by simp [ilist, hj]
        have := h3 j cvs[j] _ (by simp [hjc]) hx
        rw [Array.getElem?_eq_getElem hjc]
        generalize cvs[j] = u at this
        cases this
        rfl
      have hH : Holds (Value.int .i64) w b (0 * 1) zl.toArray := by
        intro j hj
        have hj' : j < zl.length := by simpa using hj
        refine ⟨?_, ?_⟩
        · simp [World.cell?, h1, hcell j hj']
        · simp [World.frozen?, h1]
      have hblk : b < w.heap.size := (Array.getElem?_eq_some_iff.1 h1).1
      refine (hsort b (0 * 1) cap zl w hH hblk hlen).mono ?_
      rintro e' w' ⟨rfl, n, os, hw'⟩
      have h1a : (Sort.ahead w n).heap[b]? = some (.cells cvs e (0, 0)) := h1
      rw [Nat.zero_mul, putRow_setRow _ h1a] at hw'
      have hszp : (putCells (Value.int .i64) 0 (isort zl).toArray cvs).size = cvs.size := by simp [putCells]
      have hget : ∀ (j : Nat) v x, (putCells (Value.int .i64) 0 (isort zl).toArray cvs)[j]? = some v → (ilist (isort zl))[j]? = some x → ∃ m, v = .int .i64 m ∧ x = .int .i64 m := by
        intro j v x hv hx
        simp only [ilist, List.getElem?_map, Option.map_eq_some_iff] at hx
        obtain ⟨m, hm, rfl⟩ := hx
        have hjl : j < (isort zl).length := (List.getElem?_eq_some_iff.1 hm).1
        have hjc : j < cvs.size := by rw [isort_length] at hjl; omega
        rw [putCells, Array.getElem?_mapIdx, Array.getElem?_eq_getElem hjc] at hv
        simp only [Option.map_some, Option.some.injEq, Nat.zero_add, Nat.zero_le, true_and, Nat.sub_zero, List.size_toArray] at hv
        rw [if_pos hjl] at hv
        subst hv
        refine ⟨m, ?_, rfl⟩
        simp [hm]
      obtain ⟨q1, q2⟩ := write_obj (obj' := .box (ilist (isort zl))) (cs := putCells (Value.int .i64) 0 (isort zl).toArray cvs) (hwf.ahead n) ho h h1a hszp (fun _ => trivial) fun hR hh =>
        ⟨_, e, hh, by rw [hszp]; simp only [ilist, List.length_map, isort_length]; exact h2, fun j v x hv hx => by obtain ⟨m, rfl, rfl⟩ := hget j v x hv hx; exact .int _ _,
          fun j v hj hv => by
            have hx : (ilist (isort zl))[j]? = some (ilist (isort zl))[j] := by simp [hj]
            obtain ⟨m, rfl, _⟩ := hget j v _ hv hx
            rfl⟩
      obtain ⟨w2, hw2⟩ : ∃ w2, w2 = (Sort.ahead w n).setRow b (putCells (Value.int .i64) 0 (isort zl).toArray cvs) := ⟨_, rfl⟩
      change w' = Go.Sort.grow ((Sort.ahead w n).setRow b (putCells (Value.int .i64) 0 (isort zl).toArray cvs)) os at hw'
      rw [← hw2] at q1 q2 hw'
      subst hw'
      have hgr : Grown (putS s.m o (.box (ilist (isort zl)))) ι w2 (Go.Sort.grow w2 os) none :=
        ⟨⟨rfl, rfl, rfl, by simp [Go.Sort.grow], fun k hk _ => by simp [Go.Sort.grow, Array.getElem?_append_left hk]⟩, fun r e => by cases e⟩
      exact ⟨_, _, s.set o (.box (ilist (isort zl))), ι, rfl, hgr.step ((ahead_step ι s.m w n).trans q1) (fun r e => by cases e), hgr.wf q2, hbnd', Inc.refl _ _, .tup rfl (by simp), hK⟩
end Go.AL
/- Sets of numbers. -/
set_option linter.unusedVariables false
set_option linter.unusedSimpArgs false
namespace Go.AL.Ty
open Go Go.Proofs

/-- A set of ints, as a map. -/
def imapF : Nat → List Int → List (Nat × AV × AV)
  | _, [] => []
  | i, n :: r => (i, .int .i64 n, .bool true) :: imapF (i + 1) r
def obS (l : List Int) : AObj := .map (imapF 0 l) l.length
def ains (l : List Int) (n : Int) : List Int := if n ∈ l then l else l ++ [n]
theorem imapF_length : ∀ (l : List Int) (i : Nat), (imapF i l).length = l.length
  | [], _ => rfl
  | n :: r, i => by simp [imapF, imapF_length r]
theorem idxOf_ne {a n : Int} {r : List Int} (h : ¬ a = n) : (a :: r).idxOf n = r.idxOf n + 1 := by
  rw [List.idxOf_cons]
  have : (a == n) = false := by simpa using h
  rw [this]; rfl
theorem mfind_imap (n : Int) : ∀ (l : List Int) (i k : Nat), mfind (.int .i64 n) (imapF i l) k = some (if n ∈ l then some (k + l.idxOf n) else none)
  | [], i, k => by simp [imapF, mfind]
  | a :: r, i, k => by
    simp only [imapF, mfind, keq, if_true]
    by_cases h : n = a
    · subst h; simp
    · have ha : ¬ a = n := fun e => h e.symm
      rw [decide_eq_false h]
      simp only [mfind_imap n r (i + 1) (k + 1), List.mem_cons, h, false_or]
      by_cases hm : n ∈ r
      · simp only [hm, if_true, idxOf_ne ha]
        congr 2
        omega
      · simp [hm]
theorem modify_imap (n : Int) : ∀ (l : List Int) (i : Nat), n ∈ l → (imapF i l).modify (l.idxOf n) (fun e => (e.1, .int .i64 n, .bool true)) = imapF i l
  | [], i, h => by simp at h
  | a :: r, i, h => by
    by_cases e : a = n
    · subst e; simp [imapF]
    · have hm : n ∈ r := by
        rcases List.mem_cons.1 h with h | h
        · exact absurd h.symm e
        · exact h
      rw [idxOf_ne e]
      simp [imapF, modify_imap n r (i + 1) hm]
theorem append_imap (n : Int) : ∀ (l : List Int) (i : Nat), imapF i l ++ [(i + l.length, .int .i64 n, .bool true)] = imapF i (l ++ [n])
  | [], i => by simp [imapF]
  | a :: r, i => by
    simp only [imapF, List.cons_append, List.length_cons]
    rw [← append_imap n r (i + 1)]
    congr 3
    congr 1
    omega

/-- A number is put into a set. -/
theorem up_set (n : Int) (l : List Int) (o : Nat) (s : St) (K : AV → St → Prop) (hk : go (K (.tup []) (s.set o (obS (ains l n))))) : go (upO o (.int .i64 n) (.bool true) (some (obS l)) s K) := by
  rw [obS, go_upO_map, mfind_imap]
  by_cases h : n ∈ l
  · rw [if_pos h, go_upR_some, Nat.zero_add, modify_imap n l 0 h]
    rw [ains, if_pos h] at hk
    exact hk
  · rw [if_neg h, go_upR_none]
    rw [ains, if_neg h, obS, ← append_imap, Nat.zero_add, List.length_append] at hk
    exact hk

def vnum (op : Int) (t : Ty) (b : Int) (x : List Int) : List Int := if t.op = op then (if op = 1 then (if b ≤ t.n then ains x (t.n - b) else x) else ains x t.n) else x

theorem v134 (o : Nat) (op : Int) : Visits (.fn 134 [] [.cptr [.int .i64 op], .cptr [.map o]]) o obS (vnum op) := by
  refine ⟨134, [], _, rfl, fun t b x s K hf ho hon hK => ?_⟩
  generalize hfin : vnum op t b x = fin at hK
  refine ACalls.upd (r := .bool true) (ob := obS fin) hon (fun_sound mixed Try.func134 Try.call134 c134 rfl (awpFun_go _ _ _ _ ?_)) fun m hm => hK m hm
  have hn := wide_n hf.1
  have hb := hf.2
  have w1 : IntKind.i64.wrap (t.n - b) = t.n - b := wrap64 (by omega) (by omega)
  simp (implicitDefEqProofs := false) (maxSteps := 2000000) (disch := (first | omega | (simp only [St.new_nx, St.set_nx, St.del_nx, St.bump_nx]; done) | (simp only [St.new_nx, St.set_nx, St.del_nx, St.bump_nx]; omega) | fail)) [a134, a134b, a134r0, a134r1, a134r2, a134r3, a134r4, a134r5, a134r6, w1]
  rw [← hfin]
  refine ⟨fun h => by rw [ho, vnum, if_neg h], fun h => ⟨fun h1 => ?_, fun h1 => ⟨fun h2 => ?_, fun h2 => ?_⟩⟩⟩
  · rw [ho]
    refine up_set _ _ _ _ _ ?_
    simp (implicitDefEqProofs := false) (maxSteps := 2000000) (disch := (first | omega | (simp only [St.new_nx, St.set_nx, St.del_nx, St.bump_nx]; done) | (simp only [St.new_nx, St.set_nx, St.del_nx, St.bump_nx]; omega) | fail)) [vnum, h, h1]
  · rw [ho]
    refine up_set _ _ _ _ _ ?_
    simp (implicitDefEqProofs := false) (maxSteps := 2000000) (disch := (first | omega | (simp only [St.new_nx, St.set_nx, St.del_nx, St.bump_nx]; done) | (simp only [St.new_nx, St.set_nx, St.del_nx, St.bump_nx]; omega) | fail)) [vnum, h, h1, h2]
  · have h2' : ¬ b ≤ t.n := by omega
    rw [ho, vnum, if_pos h, if_pos h1, if_neg h2']

theorem mem_imapF : ∀ (l : List Int) (i : Nat) (e : Nat × AV × AV), e ∈ imapF i l → ∃ j, j < l.length ∧ e = (i + j, .int .i64 (l.getD j 0), .bool true)
  | [], i, e, h => by simp [imapF] at h
  | a :: r, i, e, h => by
    simp only [imapF, List.mem_cons] at h
    rcases h with rfl | h
    · exact ⟨0, by simp, by simp⟩
    · obtain ⟨j, hj, rfl⟩ := mem_imapF r (i + 1) e h
      exact ⟨j + 1, by simpa using hj, by simp; omega⟩
theorem find_imapF : ∀ (l : List Int) (i j : Nat), j < l.length → ((imapF i l).find? fun e => e.1 == i + j) = some (i + j, .int .i64 (l.getD j 0), .bool true)
  | [], i, j, h => by simp at h
  | a :: r, i, 0, h => by simp [imapF]
  | a :: r, i, j + 1, h => by
    have := find_imapF r (i + 1) j (by simpa using h)
    have e1 : i + 1 + j = i + (j + 1) := by omega
    rw [e1] at this
    have e2 : ¬ i = i + (j + 1) := by omega
    simp only [imapF, List.find?_cons]
    have e3 : (i == i + (j + 1)) = false := by simp
    rw [e3, this]
    simp
theorem in_imapF : ∀ (l : List Int) (i j : Nat), j < l.length → (i + j, AV.int .i64 (l.getD j 0), AV.bool true) ∈ imapF i l := fun l i j h => List.mem_of_find?_eq_some (find_imapF l i j h)
theorem isort_perm {a b : List Int} (h : a.Perm b) : isort a = isort b := by
  have h1 : (isort a).Perm (isort b) := (List.mergeSort_perm a _).trans (h.trans (List.mergeSort_perm b _).symm)
  refine List.Perm.eq_of_pairwise (le := fun x y => x ≤ y) (fun x y _ _ h1 h2 => Int.le_antisymm h1 h2) ?_ ?_ h1
  · exact (List.pairwise_mergeSort (le := fun x y : Int => decide (x ≤ y)) (fun a b c h1 h2 => by simp at *; omega) (fun a b => by simp; omega) a).imp (by simp)
  · exact (List.pairwise_mergeSort (le := fun x y : Int => decide (x ≤ y)) (fun a b c h1 h2 => by simp at *; omega) (fun a b => by simp; omega) b).imp (by simp)
/-- All indexes, each once: the numbers in another order. -/
theorem perm_seen (l : List Int) (seen : List Nat) (hnd : seen.Nodup) (hlt : ∀ j ∈ seen, j < l.length) (hall : ∀ j, j < l.length → j ∈ seen) : (seen.map fun j => l.getD j 0).Perm l := by
  have h1 : seen.Perm (List.range l.length) := by
    rw [List.perm_ext_iff_of_nodup hnd List.nodup_range]
    intro j
    rw [List.mem_range]
    exact ⟨hlt j, hall j⟩
  have h2 : (List.range l.length).map (fun j => l.getD j 0) = l := by
    apply List.ext_getElem
    · simp
    · intro i h1 h2; simp [h2]
  have := h1.map fun j => l.getD j 0
  rw [h2] at this
  exact this
theorem nodup_le {seen : List Nat} {n : Nat} (hnd : seen.Nodup) (hlt : ∀ j ∈ seen, j < n) : seen.length ≤ n := by
  have h : seen.Perm ((List.range n).filter fun j => decide (j ∈ seen)) := by
    rw [List.perm_ext_iff_of_nodup hnd (List.nodup_range.filter _)]
    intro j
    simp only [List.mem_filter, List.mem_range, decide_eq_true_eq]
    exact ⟨fun h => ⟨hlt j h, h⟩, fun h => h.2⟩
  have h1 := h.length_eq
  have h2 := List.length_filter_le (fun j => decide (j ∈ seen)) (List.range n)
  simp only [List.length_range] at h2
  omega
theorem flat_il (l : List Int) : flat (il l) = il l := by
  induction l with
  | nil => rfl
  | cons a r ih => simp [il] at ih ⊢; exact ih

theorem p138 (zs : List Int) (o : Nat) (s : St) (K : AV → St → Prop) (hlen : zs.length ≤ 1000000) (ho : s.m o = some (.box (il zs))) (hK : K (.tup []) (s.set o (.box (il (isort zs))))) : ACalls Try.prog 138 [.mref 1 o 0 zs.length] s K :=
  sort_sound Try.call138 (fun p cap w => Any.slices_Sort_int_none Try.l189 p cap w) (fun blk off cap zs w h1 h2 h3 => Any.slices_Sort_int Try.l189 blk off cap zs w h1 h2 h3) zs o (by omega) ho hK

/-- The numbers of a set, ascending. -/
def I135 (s : St) (l : List Int) (o k : Nat) (g : Env) (s1 : St) : Prop :=
  ∃ (seen : List Nat) (acc : List Int) (oa : Nat), k = l.length - seen.length ∧ seen.length = acc.length ∧ seen.Nodup ∧ (∀ j ∈ seen, j < l.length) ∧ acc = seen.map (fun j => l.getD j 0) ∧
    g.get 6 = .ptr (s.nx + 1 + 1) 0 ∧ g.get 3 = .mref 1 oa 0 acc.length ∧ s1.m oa = some (.box (il acc)) ∧ s.nx ≤ oa ∧ oa < s1.nx ∧ oa ≠ s.nx + 1 + 1 ∧
    s1.m (s.nx + 1 + 1) = some (.iter (some o) l.length seen l.length) ∧ s1.m o = some (obS l) ∧ Kept s s1 ∧ s.nx + 1 + 1 < s1.nx
theorem p135k (l : List Int) (o : Nat) (s : St) (Q : AV → St → Prop) (ho : s.m o = some (obS l)) (hon : o < s.nx) (hlen : l.length ≤ 1000000) (hnd : l.Nodup)
    (hQ : ∀ oa s', s.nx ≤ oa → oa < s'.nx → s'.m oa = some (.box (il (isort l))) → Kept s s' → Q (.mref 1 oa 0 l.length) s') : ACalls Try.prog 135 [.map o] s Q := by
  refine fun_sound mixed Try.func135 Try.call135 c135 rfl (awpFun_go _ _ _ _ ?_)
  simp (implicitDefEqProofs := false) (maxSteps := 2000000) (disch := (first | omega | (simp only [St.new_nx, St.set_nx, St.del_nx, St.bump_nx]; done) | (simp only [St.new_nx, St.set_nx, St.del_nx, St.bump_nx]; omega) | fail)) [a135, a135b, a135r0, a135r1, a135r2, ho, obS]
  refine go_loop (I135 s l o) l.length ⟨[], [], s.nx + 1, by simp, rfl, by simp, by simp, rfl, ?_, ?_, ?_, ?_, ?_, ?_, ?_, ?_, ?_, ?_⟩ ?_
  iterate 10 (simp (implicitDefEqProofs := false) (maxSteps := 2000000) (disch := (first | omega | (simp only [St.new_nx, St.set_nx, St.del_nx, St.bump_nx]; done) | (simp only [St.new_nx, St.set_nx, St.del_nx, St.bump_nx]; omega) | fail)) [il, ho, obS])
  rintro n g s1 ⟨seen, acc, oa, hn, hsl, hsn, hlt, hacc, h6, h3, hOA, hoa1, hoa2, hoa3, hIT, hO, hk, hnx⟩
  have hsle : seen.length ≤ l.length := nodup_le hsn hlt
  simp (implicitDefEqProofs := false) (maxSteps := 2000000) (disch := (first | omega | (simp only [St.new_nx, St.set_nx, St.del_nx, St.bump_nx]; done) | (simp only [St.new_nx, St.set_nx, St.del_nx, St.bump_nx]; omega) | fail)) [a135l6, a135r3, h6, hIT, hO]
  rw [obS]
  refine nx_intro ?_ (fun hall => ?_) (fun e he hes => ?_)
  · cases l with
    | nil => exact .inr (.inl rfl)
    | cons a r => exact .inr (.inr ⟨_, by rw [imapF]; exact List.mem_cons_self .., by simp⟩)
  · have hp : acc.Perm l := by
      rw [hacc]
      refine perm_seen l seen hsn hlt fun j hj => ?_
      have := hall _ (in_imapF l 0 j hj) (by simpa using hj)
      simpa using this
    have hal : acc.length = l.length := hp.length_eq
    simp (implicitDefEqProofs := false) (maxSteps := 2000000) (disch := (first | omega | (simp only [St.new_nx, St.set_nx, St.del_nx, St.bump_nx]; done) | (simp only [St.new_nx, St.set_nx, St.del_nx, St.bump_nx]; omega) | fail)) [a135r7, h3]
    refine go_calls (p138 acc oa _ _ (by omega) hOA (go_of ?_))
    simp (implicitDefEqProofs := false) (maxSteps := 2000000) (disch := (first | omega | (simp only [St.new_nx, St.set_nx, St.del_nx, St.bump_nx]; done) | (simp only [St.new_nx, St.set_nx, St.del_nx, St.bump_nx]; omega) | fail)) [a135r8, h3]
    rw [hal]
    refine hQ oa _ hoa1 ?_ ?_ ?_
    · simp (implicitDefEqProofs := false) (maxSteps := 2000000) (disch := (first | omega | (simp only [St.new_nx, St.set_nx, St.del_nx, St.bump_nx]; done) | (simp only [St.new_nx, St.set_nx, St.del_nx, St.bump_nx]; omega) | fail))
      exact hoa2
    · simp (implicitDefEqProofs := false) (maxSteps := 2000000) (disch := (first | omega | (simp only [St.new_nx, St.set_nx, St.del_nx, St.bump_nx]; done) | (simp only [St.new_nx, St.set_nx, St.del_nx, St.bump_nx]; omega) | fail)) [isort_perm hp]
    · intro q hq
      simp (implicitDefEqProofs := false) (maxSteps := 2000000) (disch := (first | omega | (simp only [St.new_nx, St.set_nx, St.del_nx, St.bump_nx]; done) | (simp only [St.new_nx, St.set_nx, St.del_nx, St.bump_nx]; omega) | fail)) [hk q hq]
  · obtain ⟨j, hj, rfl⟩ := mem_imapF l 0 e he
    have hj' : j ∉ seen := by simpa using hes
    have hf := find_imapF l 0 j hj
    simp only [Nat.zero_add] at hf ⊢
    simp (implicitDefEqProofs := false) (maxSteps := 2000000) (disch := (first | omega | (simp only [St.new_nx, St.set_nx, St.del_nx, St.bump_nx]; done) | (simp only [St.new_nx, St.set_nx, St.del_nx, St.bump_nx]; omega) | fail)) [a135r4, h6, hO]
    rw [obS]
    refine en_intro (st := j) (by simp) rfl hf ?_
    simp (implicitDefEqProofs := false) (maxSteps := 2000000) (disch := (first | omega | (simp only [St.new_nx, St.set_nx, St.del_nx, St.bump_nx]; done) | (simp only [St.new_nx, St.set_nx, St.del_nx, St.bump_nx]; omega) | fail)) [a135r5, h3, hOA]
    have hsn' : (seen ++ [j]).Nodup := by
      rw [List.nodup_append]
      refine ⟨hsn, by simp, fun a ha b hb => ?_⟩
      simp at hb; subst hb
      exact fun e => hj' (e ▸ ha)
    have hlt' : ∀ k ∈ seen ++ [j], k < l.length := by
      intro k hk
      rcases List.mem_append.1 hk with h | h
      · exact hlt k h
      · simp at h; subst h; exact hj
    have hle' := nodup_le hsn' hlt'
    simp only [List.length_append, List.length_singleton] at hle'
    have hgd : l[j] = l.getD j 0 := by simp [hj]
    refine go_next (l.length - (seen.length + 1)) (by omega) ⟨seen ++ [j], acc ++ [l[j]], s1.nx, by simp, by simp [hsl], hsn', hlt', by rw [List.map_append, ← hacc, hgd]; rfl, ?_, ?_, ?_, ?_, ?_, ?_, ?_, ?_, ?_, ?_⟩
    all_goals (try simp (implicitDefEqProofs := false) (maxSteps := 2000000) (disch := (first | omega | (simp only [St.new_nx, St.set_nx, St.del_nx, St.bump_nx]; done) | (simp only [St.new_nx, St.set_nx, St.del_nx, St.bump_nx]; omega) | fail)) [h6, il, hO, hk])
    all_goals omega

/-- A slice that is written no more is the result. -/
theorem freeze1 {P : Program} {f : FuncId} {args : List AV} {s : St} {K : AV → St → Prop} (h : ACalls P f args s fun r s' => ∃ sz o len xs, r = .mref sz o 0 len ∧ s'.m o = some (.box (flat xs)) ∧ (∀ x ∈ xs, x.cells.length = sz) ∧ xs.length = len ∧
    K (.list sz .none xs) (s'.del o)) : ACalls P f args s K := by
  refine ⟨h.1, fun ι w ws h1 h2 h3 => Calls.mono (h.2 ι w ws h1 h2 h3) ?_⟩
  rintro e w' ⟨v, r, s', ι', k1, k2, k3, k4, k5, k6, sz, o, len, xs, rfl, ho, hsz, hlen, hk⟩
  have hst : Step ι' s'.m w' ι' (s'.del o).m w' := drop_step s'.m (delS s'.m o) (delS_sub s'.m o) ι' w'
  exact ⟨v, _, _, ι', k1, k2.trans hst, k3.drop (delS_sub s'.m o), ⟨fun q ob hq => k4.lt q ob (delS_sub s'.m o q ob hq), k4.ilt⟩, k5, k6.freeze k3 ho hsz hlen, hk⟩

/-- The numbers of a kind of variables. -/
def nums (t : Ty) (op : Int) : List Int := isort (wlk (vnum op) t 0 [])
theorem ains_nodup {l : List Int} (h : l.Nodup) (n : Int) : (ains l n).Nodup := by
  unfold ains
  by_cases hm : n ∈ l
  · rw [if_pos hm]; exact h
  · rw [if_neg hm, List.nodup_append]
    refine ⟨h, by simp, fun a ha b hb => ?_⟩
    simp at hb; subst hb
    exact fun e => hm (e ▸ ha)
theorem ains_len (l : List Int) (n : Int) : (ains l n).length ≤ l.length + 1 := by
  unfold ains
  by_cases hm : n ∈ l
  · rw [if_pos hm]; omega
  · rw [if_neg hm]; simp
theorem vnum_ok (op : Int) (t : Ty) (b : Int) (x : List Int) (h : x.Nodup) : (vnum op t b x).Nodup ∧ (vnum op t b x).length ≤ x.length + 1 := by
  unfold vnum
  by_cases h1 : t.op = op
  · rw [if_pos h1]
    by_cases h2 : op = 1
    · rw [if_pos h2]
      by_cases h3 : b ≤ t.n
      · rw [if_pos h3]; exact ⟨ains_nodup h _, ains_len _ _⟩
      · rw [if_neg h3]; exact ⟨h, by omega⟩
    · rw [if_neg h2]; exact ⟨ains_nodup h _, ains_len _ _⟩
  · rw [if_neg h1]; exact ⟨h, by omega⟩

theorem wlks_num (op o2 : Int) : ∀ (l : List Ty) (i : Nat) (b : Int) (x : List Int), (∀ t ∈ l, ∀ b x, x.Nodup → (wlk (vnum op) t b x).Nodup ∧ (wlk (vnum op) t b x).length ≤ x.length + sz t) → x.Nodup →
    (wlks (vnum op) o2 l i b x).Nodup ∧ (wlks (vnum op) o2 l i b x).length ≤ x.length + szs l
  | [], i, b, x, _, hx => by simp [wlks, szs, hx]
  | t :: ts, i, b, x, h, hx => by
    obtain ⟨h1, h2⟩ := h t (by simp) (b + belw o2 i) x hx
    obtain ⟨h3, h4⟩ := wlks_num op o2 ts (i + 1) b _ (fun u hu => h u (by simp [hu])) h1
    rw [wlks]
    refine ⟨h3, ?_⟩
    simp only [szs]
    omega
theorem wlk_num (op : Int) (t : Ty) : ∀ b x, x.Nodup → (wlk (vnum op) t b x).Nodup ∧ (wlk (vnum op) t b x).length ≤ x.length + sz t := by
  induction t using Ty.ind with
  | h t ih =>
    intro b x hx
    rw [wlk_eq]
    obtain ⟨h1, h2⟩ := vnum_ok op t b x hx
    obtain ⟨h3, h4⟩ := wlks_num op t.op t.args 0 b _ ih h1
    refine ⟨h3, ?_⟩
    rw [sz_eq]
    omega

theorem p119 (t : Ty) (op : Int) (hf : Fit t 0) (hs : sz t ≤ 1000000) : PureC Try.prog 119 [t.av, .int .i64 op] (.list 1 .none (il (nums t op))) := by
  refine PureC.intro fun s => freeze1 (fun_sound mixed Try.func119 Try.call119 c119 rfl (awpFun_go _ _ _ _ ?_))
  obtain ⟨hnd, hlen⟩ := wlk_num op t 0 [] (by simp)
  simp only [List.length_nil, Nat.zero_add] at hlen
  simp (implicitDefEqProofs := false) (maxSteps := 2000000) (disch := (first | omega | (simp only [St.new_nx, St.set_nx, St.del_nx, St.bump_nx]; done) | (simp only [St.new_nx, St.set_nx, St.del_nx, St.bump_nx]; omega) | fail)) [a119, a119b, a119r0, a119r1, a119r2]
  refine go_calls (p61 _ (s.nx + 1 + 1) obS (vnum op) (v134 (s.nx + 1 + 1) op) t hf [] _ _ ?_ ?_ fun m hm => go_of ?_)
  · simp (implicitDefEqProofs := false) (maxSteps := 2000000) (disch := (first | omega | (simp only [St.new_nx, St.set_nx, St.del_nx, St.bump_nx]; done) | (simp only [St.new_nx, St.set_nx, St.del_nx, St.bump_nx]; omega) | fail)) [obS, imapF]
  · simp (implicitDefEqProofs := false) (maxSteps := 2000000) (disch := (first | omega | (simp only [St.new_nx, St.set_nx, St.del_nx, St.bump_nx]; done) | (simp only [St.new_nx, St.set_nx, St.del_nx, St.bump_nx]; omega) | fail))
  simp only [St.new_nx, St.bump_nx, St.set_nx, St.del_nx] at hm
  simp (implicitDefEqProofs := false) (maxSteps := 2000000) (disch := (first | omega | (simp only [St.new_nx, St.set_nx, St.del_nx, St.bump_nx]; done) | (simp only [St.new_nx, St.set_nx, St.del_nx, St.bump_nx]; omega) | fail)) [a119r3]
  refine go_calls (p135k (wlk (vnum op) t 0 []) (s.nx + 1 + 1) _ _ ?_ ?_ (by omega) hnd fun oa s' hm1 h2 h3 h4 => go_of ?_)
  · simp (implicitDefEqProofs := false) (maxSteps := 2000000) (disch := (first | omega | (simp only [St.new_nx, St.set_nx, St.del_nx, St.bump_nx]; done) | (simp only [St.new_nx, St.set_nx, St.del_nx, St.bump_nx]; omega) | fail))
  · simp (implicitDefEqProofs := false) (maxSteps := 2000000) (disch := (first | omega | (simp only [St.new_nx, St.set_nx, St.del_nx, St.bump_nx]; done) | (simp only [St.new_nx, St.set_nx, St.del_nx, St.bump_nx]; omega) | fail))
    omega
  simp only [St.new_nx, St.bump_nx, St.set_nx, St.del_nx] at hm1
  simp (implicitDefEqProofs := false) (maxSteps := 2000000) (disch := (first | omega | (simp only [St.new_nx, St.set_nx, St.del_nx, St.bump_nx]; done) | (simp only [St.new_nx, St.set_nx, St.del_nx, St.bump_nx]; omega) | fail))
  refine ⟨1, oa, _, ⟨rfl, rfl, rfl⟩, il (nums t op), ?_, ?_, ?_, ?_, ?_⟩
  · rw [flat_il]; exact h3
  · intro x hx
    simp only [il, List.mem_map] at hx
    obtain ⟨y, _, rfl⟩ := hx
    rfl
  · simp [nums, isort_length]
  · simp
  · intro q hq
    have := h4 q (by simp only [St.new_nx, St.bump_nx, St.set_nx, St.del_nx]; omega)
    simp (implicitDefEqProofs := false) (maxSteps := 2000000) (disch := (first | omega | (simp only [St.new_nx, St.set_nx, St.del_nx, St.bump_nx]; done) | (simp only [St.new_nx, St.set_nx, St.del_nx, St.bump_nx]; omega) | fail)) [this]
end Go.AL.Ty
/- The order of types. -/
set_option linter.unusedVariables false
set_option linter.unusedSimpArgs false
namespace Go.AL.Ty
open Go Go.Proofs

mutual
def ord : Ty → Ty → Int
  | mk op n s args, u => orI [cmpI (1 + szs args) (sz u), orI [cmpI op u.op, cmpI n u.n, cmpS s u.s], ords args u.args]
def ords : List Ty → List Ty → Int
  | [], us => if us.length = 0 then 0 else -1
  | t :: ts, us => match us with
    | [] => 1
    | u :: us => orI [ord t u, ords ts us]
end
theorem ord_eq (t u : Ty) : ord t u = orI [cmpI (sz t) (sz u), orI [cmpI t.op u.op, cmpI t.n u.n, cmpS t.s u.s], ords t.args u.args] := by cases t; rw [ord, sz_eq]; rfl
theorem orI_two (a b : Int) : orI [a, b] = if a = 0 then b else a := by
  simp only [orI]
  by_cases hb : b = 0 <;> simp [hb]
theorem orI_three (a b c : Int) : orI [a, b, c] = if a = 0 then (if b = 0 then c else b) else a := by
  simp only [orI]
  by_cases hc : c = 0 <;> simp [hc]

def C79 (t : Ty) : Prop := ∀ u, sz t ≤ 1000000 → sz u ≤ 1000000 → PureC Try.prog 79 [t.av, u.av] (.int .i64 (ord t u))

def I133 (ts us : List Ty) (R : Int) (s : St) (n : Nat) (g : Env) (s1 : St) : Prop :=
  ∃ (i : Nat), i ≤ ts.length ∧ n = ts.length - i ∧ i ≤ us.length ∧ ords (ts.drop i) (us.drop i) = R ∧
    g.get 0 = .list 4 .none (ts.map av) ∧ g.get 1 = .list 4 .none (us.map av) ∧ g.get 2 = .fn 79 [] [] ∧ g.get 11 = .list 4 .none (ts.map av) ∧ g.get 12 = .int .i64 ts.length ∧ g.get 13 = .int .i64 i ∧ Kept s s1 ∧ s.nx ≤ s1.nx

theorem p133 (ts us : List Ty) (ih : ∀ x ∈ ts, C79 x) (h1 : ∀ x ∈ ts, sz x ≤ 1000000) (h2 : ∀ x ∈ us, sz x ≤ 1000000) (hl : ts.length ≤ 1000000) (hl2 : us.length ≤ 1000000) :
    PureC Try.prog 133 [.list 4 .none (ts.map av), .list 4 .none (us.map av), .fn 79 [] []] (.int .i64 (ords ts us)) := by
  refine PureC.intro fun s => fun_sound mixed Try.func133 Try.call133 c133 rfl (awpFun_go _ _ _ _ ?_)
  generalize hR : ords ts us = R
  simp (implicitDefEqProofs := false) (maxSteps := 2000000) (disch := (first | omega | (simp only [St.new_nx, St.set_nx, St.del_nx, St.bump_nx]; done) | (simp only [St.new_nx, St.set_nx, St.del_nx, St.bump_nx]; omega) | fail)) [a133, a133b, a133r0, a133r1]
  refine go_loop (I133 ts us R s) ts.length ⟨0, by omega, by omega, by omega, by simpa using hR, ?_, ?_, ?_, ?_, ?_, ?_, ?_, ?_⟩ ?_
  rotate_right
  · rintro n g s1 ⟨i, hi, rfl, hiu, hg, g0, g1, g2, g11, g12, g13, hk, hn⟩
    by_cases hlt : i < ts.length
    · have hx : ts[i]? = some ts[i] := by simp [hlt]
      have hlt' : (i : Int) < ts.length := by omega
      have w2 : IntKind.i64.wrap ((i : Int) + 1) = ((i + 1 : Nat) : Int) := by rw [wrap64 (by omega) (by omega)]; omega
      have hdrop : ts.drop i = ts[i] :: ts.drop (i + 1) := List.drop_eq_getElem_cons hlt
      by_cases hlu : i < us.length
      · have hy : us[i]? = some us[i] := by simp [hlu]
        have hlu' : ¬ (us.length : Int) ≤ i := by omega
        have hlu2 : (i : Int) < us.length := by omega
        have hdu : us.drop i = us[i] :: us.drop (i + 1) := List.drop_eq_getElem_cons hlu
        rw [hdrop, hdu, ords] at hg
        simp only [orI_two] at hg
        simp (implicitDefEqProofs := false) (maxSteps := 2000000) (disch := (first | omega | (simp only [St.new_nx, St.set_nx, St.del_nx, St.bump_nx]; done) | (simp only [St.new_nx, St.set_nx, St.del_nx, St.bump_nx]; omega) | fail)) [a133l11, a133r2, a133r3, a133r4, a133r6, a133r7, g0, g1, g2, g11, g12, g13, hlt', hlt, hx, hy, hlu', hlu2, hlu]
        refine go_pure (ih _ (List.getElem_mem hlt) us[i] (h1 _ (List.getElem_mem hlt)) (h2 _ (List.getElem_mem hlu))) fun mm1 hm1 => ?_
        try simp only [St.new_nx, St.bump_nx, St.set_nx, St.del_nx] at hm1
        simp (implicitDefEqProofs := false) (maxSteps := 2000000) (disch := (first | omega | (simp only [St.new_nx, St.set_nx, St.del_nx, St.bump_nx]; done) | (simp only [St.new_nx, St.set_nx, St.del_nx, St.bump_nx]; omega) | fail)) [a133r8, a133r9, a133r10, g13, w2]
        refine ⟨fun hb => ?_, fun hb => ?_⟩
        · rw [if_neg hb] at hg
          exact ⟨hg, hk⟩
        · rw [if_pos hb] at hg
          refine go_next (ts.length - (i + 1)) (by omega) ⟨i + 1, by omega, rfl, by omega, hg, ?_, ?_, ?_, ?_, ?_, ?_, ?_, ?_⟩ <;> (try simp (implicitDefEqProofs := false) (maxSteps := 2000000) (disch := (first | omega | (simp only [St.new_nx, St.set_nx, St.del_nx, St.bump_nx]; done) | (simp only [St.new_nx, St.set_nx, St.del_nx, St.bump_nx]; omega) | fail)) [g0, g1, g2, g11, g12, g13, hk])
          omega
      · have hlu' : (us.length : Int) ≤ i := by omega
        have hdu : us.drop i = [] := List.drop_eq_nil_of_le (by omega)
        rw [hdrop, hdu, ords] at hg
        simp (implicitDefEqProofs := false) (maxSteps := 2000000) (disch := (first | omega | (simp only [St.new_nx, St.set_nx, St.del_nx, St.bump_nx]; done) | (simp only [St.new_nx, St.set_nx, St.del_nx, St.bump_nx]; omega) | fail)) [a133l11, a133r2, a133r3, a133r4, a133r5, g0, g1, g2, g11, g12, g13, hlt', hlt, hx, hlu']
        exact ⟨hg, hk⟩
    · have hlt' : ¬ (i : Int) < ts.length := by omega
      have hdrop : ts.drop i = [] := List.drop_eq_nil_of_le (by omega)
      rw [hdrop, ords] at hg
      simp (implicitDefEqProofs := false) (maxSteps := 2000000) (disch := (first | omega | (simp only [St.new_nx, St.set_nx, St.del_nx, St.bump_nx]; done) | (simp only [St.new_nx, St.set_nx, St.del_nx, St.bump_nx]; omega) | fail)) [a133l11, a133r2, g0, g1, g2, g11, g12, g13, hlt', a133r12, a133r13, a133r14]
      refine ⟨fun hb => ⟨?_, hk⟩, fun hb => ⟨?_, hk⟩⟩
      · rw [← hg, if_neg (by rw [List.length_drop]; omega)]
      · rw [← hg, if_pos (by rw [List.length_drop]; omega)]
  all_goals (try simp (implicitDefEqProofs := false) (maxSteps := 2000000) (disch := (first | omega | (simp only [St.new_nx, St.set_nx, St.del_nx, St.bump_nx]; done) | (simp only [St.new_nx, St.set_nx, St.del_nx, St.bump_nx]; omega) | fail)))

theorem szs_mem : ∀ (l : List Ty) x, x ∈ l → sz x ≤ szs l
  | t :: ts, x, h => by
    have := szs_pos ts
    have := sz_pos t
    simp only [List.mem_cons] at h
    simp only [szs]
    rcases h with rfl | h
    · omega
    · have := szs_mem ts x h; omega
theorem sz_mem {t x : Ty} (h : x ∈ t.args) : sz x + 1 ≤ sz t := by
  have := szs_mem _ _ h
  rw [sz_eq t]; omega

theorem p118 (t u : Ty) (ih : ∀ x ∈ t.args, C79 x) (h1 : sz t ≤ 1000000) (h2 : sz u ≤ 1000000) :
    PureC Try.prog 118 [t.av, u.av] (.int .i64 (orI [orI [cmpI t.op u.op, cmpI t.n u.n, cmpS t.s u.s], ords t.args u.args])) := by
  refine PureC.intro fun s => fun_sound mixed Try.func118 Try.call118 c118 rfl (awpFun_go _ _ _ _ ?_)
  have ha := sz_args t
  have hb := sz_args u
  have h133 := p133 t.args u.args ih (fun x hx => by have := sz_mem hx; omega) (fun x hx => by have := sz_mem hx; omega) (by omega) (by omega)
  have h131 := p131 [cmpI t.op u.op, cmpI t.n u.n, cmpS t.s u.s] (by simp)
  rw [orI_two]
  generalize orI [cmpI t.op u.op, cmpI t.n u.n, cmpS t.s u.s] = c at *
  generalize ords t.args u.args = r at *
  simp (implicitDefEqProofs := false) (maxSteps := 2000000) (disch := (first | omega | (simp only [St.new_nx, St.set_nx, St.del_nx, St.bump_nx]; done) | (simp only [St.new_nx, St.set_nx, St.del_nx, St.bump_nx]; omega) | fail)) [a118, a118b, a118r0, a118r1]
  refine pcV_intro (p117 t.op u.op) ?_
  simp (implicitDefEqProofs := false) (maxSteps := 2000000) (disch := (first | omega | (simp only [St.new_nx, St.set_nx, St.del_nx, St.bump_nx]; done) | (simp only [St.new_nx, St.set_nx, St.del_nx, St.bump_nx]; omega) | fail))
  refine pcV_intro (p117 t.n u.n) ?_
  simp (implicitDefEqProofs := false) (maxSteps := 2000000) (disch := (first | omega | (simp only [St.new_nx, St.set_nx, St.del_nx, St.bump_nx]; done) | (simp only [St.new_nx, St.set_nx, St.del_nx, St.bump_nx]; omega) | fail))
  refine pcV_intro (p132 t.s u.s) ?_
  simp (implicitDefEqProofs := false) (maxSteps := 2000000) (disch := (first | omega | (simp only [St.new_nx, St.set_nx, St.del_nx, St.bump_nx]; done) | (simp only [St.new_nx, St.set_nx, St.del_nx, St.bump_nx]; omega) | fail))
  refine pcV_intro (PureC.argw h131 (by simp [il])) ?_
  simp (implicitDefEqProofs := false) (maxSteps := 2000000) (disch := (first | omega | (simp only [St.new_nx, St.set_nx, St.del_nx, St.bump_nx]; done) | (simp only [St.new_nx, St.set_nx, St.del_nx, St.bump_nx]; omega) | fail)) [a118r2, a118r3, a118r4]
  intro m hm
  refine ⟨fun k1 k2 => absurd k2 k1, fun k1 => ?_⟩
  rw [if_pos k1]
  refine go_pure h133 fun mm2 hm2 => ?_
  try simp only [St.new_nx, St.bump_nx, St.set_nx, St.del_nx] at hm2
  simp (implicitDefEqProofs := false) (maxSteps := 2000000) (disch := (first | omega | (simp only [St.new_nx, St.set_nx, St.del_nx, St.bump_nx]; done) | (simp only [St.new_nx, St.set_nx, St.del_nx, St.bump_nx]; omega) | fail))
theorem p79 (t : Ty) : C79 t := by
  induction t using Ty.ind with
  | h t ih =>
    intro u h1 h2
    have ha := sz_args t
    have hb := sz_args u
    have h118 := p118 t u ih h1 h2
    refine PureC.intro fun s => fun_sound mixed Try.func79 Try.call79 c79 rfl (awpFun_go _ _ _ _ ?_)
    rw [ord_eq, orI_three]
    rw [orI_two] at h118
    generalize orI [cmpI t.op u.op, cmpI t.n u.n, cmpS t.s u.s] = c at *
    generalize ords t.args u.args = r at *
    generalize hR : (if cmpI (sz t) (sz u) = 0 then (if c = 0 then r else c) else cmpI (sz t) (sz u)) = R
    simp (implicitDefEqProofs := false) (maxSteps := 2000000) (disch := (first | omega | (simp only [St.new_nx, St.set_nx, St.del_nx, St.bump_nx]; done) | (simp only [St.new_nx, St.set_nx, St.del_nx, St.bump_nx]; omega) | fail)) [a79, a79b, a79r0, a79r1]
    refine pcV_intro (p84 t h1 (by omega)) ?_
    simp (implicitDefEqProofs := false) (maxSteps := 2000000) (disch := (first | omega | (simp only [St.new_nx, St.set_nx, St.del_nx, St.bump_nx]; done) | (simp only [St.new_nx, St.set_nx, St.del_nx, St.bump_nx]; omega) | fail))
    refine pcV_intro (p84 u h2 (by omega)) ?_
    simp (implicitDefEqProofs := false) (maxSteps := 2000000) (disch := (first | omega | (simp only [St.new_nx, St.set_nx, St.del_nx, St.bump_nx]; done) | (simp only [St.new_nx, St.set_nx, St.del_nx, St.bump_nx]; omega) | fail))
    refine pcV_intro (p117 _ _) ?_
    simp (implicitDefEqProofs := false) (maxSteps := 2000000) (disch := (first | omega | (simp only [St.new_nx, St.set_nx, St.del_nx, St.bump_nx]; done) | (simp only [St.new_nx, St.set_nx, St.del_nx, St.bump_nx]; omega) | fail)) [a79r2, a79r3, a79r4]
    intro m hm
    refine ⟨fun k1 => by rw [← hR, if_neg k1], fun k1 => ?_⟩
    rw [if_pos k1] at hR
    subst hR
    refine go_pure h118 fun mm3 hm3 => ?_
    try simp only [St.new_nx, St.bump_nx, St.set_nx, St.del_nx] at hm3
    simp (implicitDefEqProofs := false) (maxSteps := 2000000) (disch := (first | omega | (simp only [St.new_nx, St.set_nx, St.del_nx, St.bump_nx]; done) | (simp only [St.new_nx, St.set_nx, St.del_nx, St.bump_nx]; omega) | fail))

theorem gd_sz (t : Ty) : ∀ d l, (gd t d l).1 = true → 0 ≤ l - sz t ∧ (gd t d l).2 = l - sz t := by
  induction t using Ty.ind with
  | h t ih =>
    intro d l h
    have gds_sz : ∀ (ts : List Ty) (d l : Int), (∀ x ∈ ts, x ∈ t.args) → (gds ts d l).1 = true → 0 ≤ l → 0 ≤ l - szs ts ∧ (gds ts d l).2 = l - szs ts := by
      intro ts
      induction ts with
      | nil => intro d l _ _ hl; simp [gds, szs, hl]
      | cons x xs ih2 =>
        intro d l hx h hl
        simp only [gds] at h ⊢
        split at h
        · rename_i hb
          have h3 := ih x (hx x (by simp)) d l hb
          rw [if_pos hb]
          rw [h3.2] at h ⊢
          have h4 := ih2 d _ (fun y hy => hx y (by simp [hy])) h h3.1
          simp only [szs]
          omega
        · cases h
    rw [gd_eq] at h ⊢
    split at h
    · cases h
    split at h
    · cases h
    split at h
    · cases h
    split at h
    · cases h
    rename_i h1 h2 h3 h4
    rw [if_neg h1, if_neg h2, if_neg h3, if_neg h4]
    have := gds_sz t.args (d + 1) (l - 1) (fun x hx => hx) h (by omega)
    rw [sz_eq]
    omega
theorem proper_sz {t : Ty} (h : proper t = true) : sz t ≤ 600 := by
  have := gd_sz t 1 600 h
  omega

theorem p36 (t u : Ty) : PureC Try.prog 36 [t.av, u.av] (if proper t = true ∧ proper u = true then .tup [.int .i64 (ord t u), .int .i64 0] else .tup [.int .i64 0, .int .i64 2]) := by
  refine PureC.intro fun s => fun_sound mixed Try.func36 Try.call36 c36 rfl (awpFun_go _ _ _ _ ?_)
  generalize hR : (if proper t = true ∧ proper u = true then AV.tup [.int .i64 (ord t u), .int .i64 0] else .tup [.int .i64 0, .int .i64 2]) = R
  simp (implicitDefEqProofs := false) (maxSteps := 2000000) (disch := (first | omega | (simp only [St.new_nx, St.set_nx, St.del_nx, St.bump_nx]; done) | (simp only [St.new_nx, St.set_nx, St.del_nx, St.bump_nx]; omega) | fail)) [a36, a36b, a36r0, a36r1]
  refine go_pure (p53 t) fun mm4 hm4 => ?_
  try simp only [St.new_nx, St.bump_nx, St.set_nx, St.del_nx] at hm4
  simp (implicitDefEqProofs := false) (maxSteps := 2000000) (disch := (first | omega | (simp only [St.new_nx, St.set_nx, St.del_nx, St.bump_nx]; done) | (simp only [St.new_nx, St.set_nx, St.del_nx, St.bump_nx]; omega) | fail))
  refine ⟨fun h1 => ?_, fun h1 => ?_⟩
  · refine go_pure (p53 u) fun mm5 hm5 => ?_
    try simp only [St.new_nx, St.bump_nx, St.set_nx, St.del_nx] at hm5
    simp (implicitDefEqProofs := false) (maxSteps := 2000000) (disch := (first | omega | (simp only [St.new_nx, St.set_nx, St.del_nx, St.bump_nx]; done) | (simp only [St.new_nx, St.set_nx, St.del_nx, St.bump_nx]; omega) | fail)) [a36r2, a36r3]
    refine ⟨fun h2 => ?_, fun h2 => ?_⟩
    · rw [← hR, if_neg (by simp [h2])]
      simp
    · have := proper_sz h1
      have := proper_sz h2
      refine go_pure (p79 t u (by omega) (by omega)) fun mm6 hm6 => ?_
      try simp only [St.new_nx, St.bump_nx, St.set_nx, St.del_nx] at hm6
      simp (implicitDefEqProofs := false) (maxSteps := 2000000) (disch := (first | omega | (simp only [St.new_nx, St.set_nx, St.del_nx, St.bump_nx]; done) | (simp only [St.new_nx, St.set_nx, St.del_nx, St.bump_nx]; omega) | fail))
      rw [← hR, if_pos ⟨h1, h2⟩]
      simp
  · rw [← hR, if_neg (by simp [h1])]
    simp (implicitDefEqProofs := false) (maxSteps := 2000000) (disch := (first | omega | (simp only [St.new_nx, St.set_nx, St.del_nx, St.bump_nx]; done) | (simp only [St.new_nx, St.set_nx, St.del_nx, St.bump_nx]; omega) | fail)) [a36r2]

def C37 (t : Ty) : Prop := ∀ u : Ty, PureC Try.prog 37 [t.av, u.av] (.bool (same t u))
def I80 (ts us : List Ty) (R : Bool) (s : St) (n : Nat) (g : Env) (s1 : St) : Prop :=
  ∃ (i : Nat), i ≤ ts.length ∧ n = ts.length - i ∧ sames (ts.drop i) (us.drop i) = R ∧
      g.get 1 = .list 4 .none (us.map av) ∧ g.get 2 = .fn 37 [] [] ∧ g.get 15 = .list 4 .none (ts.map av) ∧ g.get 16 = .int .i64 ts.length ∧ g.get 17 = .int .i64 i ∧ Kept s s1 ∧ s.nx ≤ s1.nx
theorem p80 (ts : List Ty) (ih : ∀ x ∈ ts, C37 x) (hl : ts.length ≤ 9223372036854775807) (us : List Ty) : PureC Try.prog 80 [.list 4 .none (ts.map av), .list 4 .none (us.map av), .fn 37 [] []] (.bool (sames ts us)) := by
  refine PureC.intro fun s => fun_sound mixed Try.func80 Try.call80 c80 rfl (awpFun_go _ _ _ _ ?_)
  generalize hR : sames ts us = R
  by_cases hlen : ts.length = us.length
  · have hlen2 : (ts.length : Int) = us.length := by omega
    simp (implicitDefEqProofs := false) (maxSteps := 2000000) (disch := (first | omega | (simp only [St.new_nx, St.set_nx, St.del_nx, St.bump_nx]; done) | (simp only [St.new_nx, St.set_nx, St.del_nx, St.bump_nx]; omega) | fail)) [a80, a80b, a80r0, a80r1, a80r2, a80r3, hlen2]
    rw [← hlen2]
    refine go_loop (I80 ts us R s) ts.length ⟨0, Nat.zero_le _, by simp, by simpa using hR, ?_, ?_, ?_, ?_, ?_, ?_, ?_⟩ ?_
    rotate_right
    · rintro n g s1 ⟨i, hi, rfl, hg, h1, h2, h15, h16, h17, hk, hn⟩
      by_cases hlt : i < ts.length
      · have hlu : i < us.length := by omega
        have hx : ts[i]? = some ts[i] := by simp [hlt]
        have hy : us[i]? = some us[i] := by simp [hlu]
        have hlt' : (i : Int) < ts.length := by omega
        have hlu' : (i : Int) < us.length := by omega
        have w2 : IntKind.i64.wrap ((i : Int) + 1) = ((i + 1 : Nat) : Int) := by rw [wrap64 (by omega) (by omega)]; omega
        have hdrop : ts.drop i = ts[i] :: ts.drop (i + 1) := List.drop_eq_getElem_cons hlt
        have hdropu : us.drop i = us[i] :: us.drop (i + 1) := List.drop_eq_getElem_cons hlu
        rw [hdrop, hdropu, sames] at hg
        simp (implicitDefEqProofs := false) (maxSteps := 2000000) (disch := (first | omega | (simp only [St.new_nx, St.set_nx, St.del_nx, St.bump_nx]; done) | (simp only [St.new_nx, St.set_nx, St.del_nx, St.bump_nx]; omega) | fail)) [a80l10, a80r4, a80r5, a80r6, a80r7, h1, h2, h15, h16, h17, hlt', hlt, hlu, hlu', hx, hy]
        refine go_pure (ih ts[i] (List.getElem_mem hlt) us[i]) fun mm7 hm7 => ?_
        try simp only [St.new_nx, St.bump_nx, St.set_nx, St.del_nx] at hm7
        simp (implicitDefEqProofs := false) (maxSteps := 2000000) (disch := (first | omega | (simp only [St.new_nx, St.set_nx, St.del_nx, St.bump_nx]; done) | (simp only [St.new_nx, St.set_nx, St.del_nx, St.bump_nx]; omega) | fail)) [a80r8, a80r9, h17, w2]
        refine ⟨fun hb => ?_, fun hb => ?_⟩
        · rw [hb] at hg
          exact ⟨by rw [← hg]; rfl, hk⟩
        · rw [hb, Bool.true_and] at hg
          refine go_next (ts.length - (i + 1)) (by omega) ⟨i + 1, by omega, rfl, hg, ?_, ?_, ?_, ?_, ?_, ?_, ?_⟩ <;> (try simp (implicitDefEqProofs := false) (maxSteps := 2000000) (disch := (first | omega | (simp only [St.new_nx, St.set_nx, St.del_nx, St.bump_nx]; done) | (simp only [St.new_nx, St.set_nx, St.del_nx, St.bump_nx]; omega) | fail)) [h1, h2, h15, h16, h17, hk])
          omega
      · have hlt' : ¬ (i : Int) < ts.length := by omega
        have hd : ts.drop i = [] := List.drop_eq_nil_of_le (by omega)
        have hdu : us.drop i = [] := List.drop_eq_nil_of_le (by omega)
        rw [hd, hdu] at hg
        simp only [sames, List.isEmpty_nil] at hg
        simp (implicitDefEqProofs := false) (maxSteps := 2000000) (disch := (first | omega | (simp only [St.new_nx, St.set_nx, St.del_nx, St.bump_nx]; done) | (simp only [St.new_nx, St.set_nx, St.del_nx, St.bump_nx]; omega) | fail)) [a80l10, a80r4, h1, h2, h15, h16, h17, hlt', a80r11, ← hg, hk]
    all_goals (try simp (implicitDefEqProofs := false) (maxSteps := 2000000) (disch := (first | omega | (simp only [St.new_nx, St.set_nx, St.del_nx, St.bump_nx]; done) | (simp only [St.new_nx, St.set_nx, St.del_nx, St.bump_nx]; omega) | fail)))
  · have : R = false := by
      rw [← hR]
      cases h : sames ts us with
      | false => rfl
      | true => exact (hlen (sames_len _ _ h)).elim
    have hlen' : ¬ (ts.length : Int) = us.length := by omega
    simp (implicitDefEqProofs := false) (maxSteps := 2000000) (disch := (first | omega | (simp only [St.new_nx, St.set_nx, St.del_nx, St.bump_nx]; done) | (simp only [St.new_nx, St.set_nx, St.del_nx, St.bump_nx]; omega) | fail)) [a80, a80b, a80r0, a80r1, a80r2, hlen', this]

theorem p37 (t : Ty) (hl : lim t) : C37 t := by
  induction t using Ty.ind with
  | h t ih =>
    intro u
    have hla : t.args.length ≤ 9223372036854775807 ∧ lims t.args := by cases t; simpa only [lim, args_mk] using hl
    have h80 := p80 t.args (fun x hx => ih x hx (lims_mem _ _ hla.2 hx)) hla.1 u.args
    have he : same t u = (decide (t.op = u.op) && (decide (t.n = u.n) && (decide (t.s = u.s) && sames t.args u.args))) := by cases t; rw [same]; rfl
    refine PureC.intro fun s => fun_sound mixed Try.func37 Try.call37 c37 rfl (awpFun_go _ _ _ _ ?_)
    rw [he]
    simp (implicitDefEqProofs := false) (maxSteps := 2000000) (disch := (first | omega | (simp only [St.new_nx, St.set_nx, St.del_nx, St.bump_nx]; done) | (simp only [St.new_nx, St.set_nx, St.del_nx, St.bump_nx]; omega) | fail)) [a37, a37b, a37r0, a37r1]
    refine ⟨fun h1 => ⟨fun h2 => ⟨fun h3 => go_pure h80 fun m hm => ?_, fun h3 => ?_⟩, fun h2 => ?_⟩, fun h1 => ?_⟩
    · simp (implicitDefEqProofs := false) (maxSteps := 2000000) (disch := (first | omega | (simp only [St.new_nx, St.set_nx, St.del_nx, St.bump_nx]; done) | (simp only [St.new_nx, St.set_nx, St.del_nx, St.bump_nx]; omega) | fail)) [h1, h2, h3]
    · simp (implicitDefEqProofs := false) (maxSteps := 2000000) (disch := (first | omega | (simp only [St.new_nx, St.set_nx, St.del_nx, St.bump_nx]; done) | (simp only [St.new_nx, St.set_nx, St.del_nx, St.bump_nx]; omega) | fail)) [h1, h2, h3]
    · simp (implicitDefEqProofs := false) (maxSteps := 2000000) (disch := (first | omega | (simp only [St.new_nx, St.set_nx, St.del_nx, St.bump_nx]; done) | (simp only [St.new_nx, St.set_nx, St.del_nx, St.bump_nx]; omega) | fail)) [h1, h2]
    · simp (implicitDefEqProofs := false) (maxSteps := 2000000) (disch := (first | omega | (simp only [St.new_nx, St.set_nx, St.del_nx, St.bump_nx]; done) | (simp only [St.new_nx, St.set_nx, St.del_nx, St.bump_nx]; omega) | fail)) [h1]
end Go.AL.Ty
/- The reference's numbers of a type. -/
set_option linter.unusedVariables false
set_option linter.unusedSimpArgs false
namespace Go.AL.Ty
open Go Go.Proofs

def ladd (n : Int) : List Int → List Int
  | [] => [n]
  | a :: r => if a < n then a :: ladd n r else if a = n then a :: r else n :: a :: r
theorem ladd_drop (n : Int) : ∀ (l : List Int) (i : Nat), (∀ x ∈ l.take i, x < n) → ladd n l = l.take i ++ ladd n (l.drop i)
  | [], i, _ => by simp
  | a :: r, 0, _ => by simp
  | a :: r, i + 1, h => by
    have ha : a < n := h a (by simp)
    simp only [ladd, if_pos ha, List.take_succ_cons, List.drop_succ_cons, List.cons_append]
    rw [ladd_drop n r i fun x hx => h x (by simp [hx])]
theorem ladd_len (n : Int) : ∀ (l : List Int), (ladd n l).length ≤ l.length + 1
  | [] => by simp [ladd]
  | a :: r => by
    have := ladd_len n r
    unfold ladd
    split
    · simp; omega
    · split <;> simp

theorem p120 (l : List Int) (n : Int) (hlen : l.length ≤ 1000000) : PureC Try.prog 120 [.list 1 .none (il l), .int .i64 n] (.list 1 .none (il (ladd n l))) := by
  refine PureC.intro fun s => fun_sound mixed Try.func120 Try.call120 c120 rfl (awpFun_go _ _ _ _ ?_)
  simp (implicitDefEqProofs := false) (maxSteps := 2000000) (disch := (first | omega | (simp only [St.new_nx, St.set_nx, St.del_nx, St.bump_nx]; done) | (simp only [St.new_nx, St.set_nx, St.del_nx, St.bump_nx]; omega) | fail)) [a120, a120b, a120r0, a120r1]
  refine go_loop (fun k g s1 => ∃ (i : Nat), i ≤ l.length ∧ k = l.length - i ∧ (∀ x ∈ l.take i, x < n) ∧ g.get 0 = .list 1 .none (il l) ∧ g.get 1 = .int .i64 n ∧ g.get 5 = .int .i64 i ∧ Kept s s1 ∧ s.nx ≤ s1.nx) l.length ⟨0, by omega, by omega, by simp, ?_, ?_, ?_, ?_, ?_⟩ ?_
  iterate 5 (simp (implicitDefEqProofs := false) (maxSteps := 2000000) (disch := (first | omega | (simp only [St.new_nx, St.set_nx, St.del_nx, St.bump_nx]; done) | (simp only [St.new_nx, St.set_nx, St.del_nx, St.bump_nx]; omega) | fail)))
  rintro k g s1 ⟨i, hi, rfl, hlt, h0, h1, h5, hk, hn⟩
  have hla := ladd_drop n l i hlt
  by_cases hil : i < l.length
  · have hx : l[i]? = some l[i] := by simp [hil]
    have hx' := il_get hx
    have hcc : (il l)[i]'(by simpa using hil) = .int .i64 l[i] := by simp [il]
    have hlt' : (i : Int) < l.length := by omega
    have w2 : IntKind.i64.wrap ((i : Int) + 1) = ((i + 1 : Nat) : Int) := by rw [wrap64 (by omega) (by omega)]; omega
    have hdrop : l.drop i = l[i] :: l.drop (i + 1) := List.drop_eq_getElem_cons hil
    simp (implicitDefEqProofs := false) (maxSteps := 2000000) (disch := (first | omega | (simp only [St.new_nx, St.set_nx, St.del_nx, St.bump_nx]; done) | (simp only [St.new_nx, St.set_nx, St.del_nx, St.bump_nx]; omega) | fail)) [a120l4, a120r2, h0, h1, h5, hlt', hil, hx', hcc]
    refine ⟨fun h => ?_, fun h => ?_⟩
    · simp (implicitDefEqProofs := false) (maxSteps := 2000000) (disch := (first | omega | (simp only [St.new_nx, St.set_nx, St.del_nx, St.bump_nx]; done) | (simp only [St.new_nx, St.set_nx, St.del_nx, St.bump_nx]; omega) | fail)) [a120r3, h5, w2]
      refine go_next (l.length - (i + 1)) (by omega) ⟨i + 1, by omega, rfl, ?_, ?_, ?_, ?_, ?_, ?_⟩
      · intro x hx
        rw [List.take_succ_eq_append_getElem hil] at hx
        rcases List.mem_append.1 hx with hx | hx
        · exact hlt x hx
        · simp at hx; subst hx; exact h
      all_goals (try simp (implicitDefEqProofs := false) (maxSteps := 2000000) (disch := (first | omega | (simp only [St.new_nx, St.set_nx, St.del_nx, St.bump_nx]; done) | (simp only [St.new_nx, St.set_nx, St.del_nx, St.bump_nx]; omega) | fail)) [h0, h1, hk, hn])
    · simp (implicitDefEqProofs := false) (maxSteps := 2000000) (disch := (first | omega | (simp only [St.new_nx, St.set_nx, St.del_nx, St.bump_nx]; done) | (simp only [St.new_nx, St.set_nx, St.del_nx, St.bump_nx]; omega) | fail)) [a120r5, h0, h1, h5, hlt', hil, hx', hcc]
      rw [hla, hdrop, ladd, if_neg (by omega)]
      refine ⟨fun h2 => ?_, fun h2 => ?_⟩
      · rw [if_pos h2]
        simp (implicitDefEqProofs := false) (maxSteps := 2000000) (disch := (first | omega | (simp only [St.new_nx, St.set_nx, St.del_nx, St.bump_nx]; done) | (simp only [St.new_nx, St.set_nx, St.del_nx, St.bump_nx]; omega) | fail)) [a120r6, h0]
        exact hk
      · rw [if_neg h2, ← hdrop]
        simp (implicitDefEqProofs := false) (maxSteps := 2000000) (disch := (first | omega | (simp only [St.new_nx, St.set_nx, St.del_nx, St.bump_nx]; done) | (simp only [St.new_nx, St.set_nx, St.del_nx, St.bump_nx]; omega) | fail)) [a120r7, a120r8, a120r9, a120r10, a120r11, h0, h1, h5, hk, hil]
        have e : List.take i (il l) ++ AV.int .i64 n :: List.drop i (il l) = il (List.take i l ++ n :: List.drop i l) := by simp [il]
        rw [e]
        exact wkL_refl _
  · obtain rfl : i = l.length := by omega
    have hlt' : ¬ (l.length : Int) < l.length := by omega
    simp (implicitDefEqProofs := false) (maxSteps := 2000000) (disch := (first | omega | (simp only [St.new_nx, St.set_nx, St.del_nx, St.bump_nx]; done) | (simp only [St.new_nx, St.set_nx, St.del_nx, St.bump_nx]; omega) | fail)) [a120l4, a120r2, a120r5, h0, h1, h5]
    rw [hla]
    simp (implicitDefEqProofs := false) (maxSteps := 2000000) (disch := (first | omega | (simp only [St.new_nx, St.set_nx, St.del_nx, St.bump_nx]; done) | (simp only [St.new_nx, St.set_nx, St.del_nx, St.bump_nx]; omega) | fail)) [a120r7, a120r8, a120r9, a120r10, a120r11, h0, h1, h5, hk, ladd]
    have e : List.take l.length (il l) ++ AV.int .i64 n :: List.drop l.length (il l) = il (l ++ [n]) := by
      rw [List.take_of_length_le (by simp [il]), List.drop_of_length_le (by simp [il])]
      simp [il]
    rw [e]
    exact wkL_refl _

mutual
def col (op : Int) : Ty → Int → List Int → List Int
  | mk o n s args, k, l => if o = op ∧ (op ≠ 1 ∨ k ≤ n) then ladd (if op = 1 then n - k else n) l else cols op o args 0 k l
def cols (op o : Int) : List Ty → Nat → Int → List Int → List Int
  | [], _, _, l => l
  | t :: ts, i, k, l => cols op o ts (i + 1) k (col op t (k + belw o i) l)
end
theorem col_eq (op : Int) (t : Ty) (k : Int) (l : List Int) : col op t k l = if t.op = op ∧ (op ≠ 1 ∨ k ≤ t.n) then ladd (if op = 1 then t.n - k else t.n) l else cols op t.op t.args 0 k l := by cases t; rw [col]; rfl
theorem cols_len (op o : Int) : ∀ (ts : List Ty) (i : Nat) (k : Int) (l : List Int), (∀ t ∈ ts, ∀ k l, ((col op t k l).length : Int) ≤ l.length + sz t) → ((cols op o ts i k l).length : Int) ≤ l.length + szs ts
  | [], i, k, l, _ => by simp [cols, szs]
  | t :: ts, i, k, l, h => by
    have h1 := h t (by simp) (k + belw o i) l
    have h2 := cols_len op o ts (i + 1) k (col op t (k + belw o i) l) fun u hu => h u (by simp [hu])
    rw [cols]
    simp only [szs]
    omega
theorem sz_pos' (t : Ty) : 1 ≤ sz t := by
  rw [sz_eq]
  have := szs_pos t.args
  omega
theorem col_len (op : Int) (t : Ty) : ∀ k l, ((col op t k l).length : Int) ≤ l.length + sz t := by
  induction t using Ty.ind with
  | h t ih =>
    intro k l
    rw [col_eq]
    have h0 := szs_pos t.args
    rw [sz_eq]
    split
    · have := ladd_len (if op = 1 then t.n - k else t.n) l
      omega
    · have := cols_len op t.op t.args 0 k l ih
      omega
theorem szs_length (ts : List Ty) : (ts.length : Int) ≤ szs ts := by
  induction ts with
  | nil => simp [szs]
  | cons u us ih =>
    have h1 := sz_pos' u
    simp only [szs, List.length_cons]; omega

def C86 (op : Int) (t : Ty) (k : Int) : Prop := ∀ l : List Int, (l.length : Int) + sz t ≤ 1000000 → PureC Try.prog 86 [t.av, .int .i64 op, .int .i64 k, .list 1 .none (il l)] (.list 1 .none (il (col op t k l)))
def I86 (op : Int) (t : Ty) (k : Int) (fin : List Int) (l0 : List Int) (s : St) (n : Nat) (g : Env) (s1 : St) : Prop :=
  ∃ (i : Nat) (l : List Int), i ≤ t.args.length ∧ n = t.args.length - i ∧ cols op t.op (t.args.drop i) i k l = fin ∧ (l.length : Int) + szs (t.args.drop i) ≤ 1000000 ∧
    g.get 38 = .list 4 .none (t.args.map av) ∧ g.get 39 = .int .i64 t.args.length ∧ g.get 40 = .int .i64 i ∧ g.get 1 = .int .i64 op ∧ g.get 2 = .int .i64 k ∧ g.get 3 = .list 1 .none (il l) ∧ g.get 4 = .ptr s.nx 0 ∧
    s1.m s.nx = some (.box [.int .i64 t.op, .int .i64 t.n, .str t.s, .list 4 .none (t.args.map av)]) ∧ Kept s s1 ∧ s.nx < s1.nx
theorem l86 (op : Int) (t : Ty) (k : Int) (hf : Fit t k) (ih : ∀ (x : Ty), x ∈ t.args → ∀ (k : Int), x.Fit k → C86 op x k) (l : List Int) (hl : (l.length : Int) + sz t ≤ 1000000) (s s1 : St) (g : Env)
    (h0 : g.get 1 = .int .i64 op) (h2 : g.get 2 = .int .i64 k) (h3 : g.get 3 = .list 1 .none (il l)) (h4 : g.get 4 = .ptr s.nx 0) (hT : s1.m s.nx = some (.box [.int .i64 t.op, .int .i64 t.n, .str t.s, .list 4 .none (t.args.map av)]))
    (hk : Kept s s1) (hnx : s.nx < s1.nx) (fin : List Int) (hfin : cols op t.op t.args 0 k l = fin) :
    go (aops Try.prog a86r6 (regQ (seqQ Try.prog (.block 0 (.loop a86l11)) (seqQ Try.prog (.seq (.reg false a86r12) .ret) (finQ [.tmp (true, 8)] fun r' s' => AL.wk r' (.list 1 .none (il fin)) ∧ Kept s s')))) g [] s1) := by
  have hn := wide_n hf.1
  have hb := hf.2
  have hsl := szs_length t.args
  have hsz := sz_eq t
  simp (implicitDefEqProofs := false) (maxSteps := 2000000) (disch := (first | omega | (simp only [St.new_nx, St.set_nx, St.del_nx, St.bump_nx]; done) | (simp only [St.new_nx, St.set_nx, St.del_nx, St.bump_nx]; omega) | fail)) [a86r6, h4, hT]
  refine go_loop (I86 op t k fin l s) t.args.length ⟨0, l, by omega, by omega, by simpa using hfin, by simp; omega, ?_, ?_, ?_, ?_, ?_, ?_, ?_, ?_, ?_, ?_⟩ ?_
  iterate 10 (simp (implicitDefEqProofs := false) (maxSteps := 2000000) (disch := (first | omega | (simp only [St.new_nx, St.set_nx, St.del_nx, St.bump_nx]; done) | (simp only [St.new_nx, St.set_nx, St.del_nx, St.bump_nx]; omega) | fail)) [h0, h2, h3, h4, hT, hk, hnx])
  rintro n g s2 ⟨i, l', hi, rfl, hg, hsz', h38, h39, h40, h1, h2, h3, h4, hT, hk, hnx⟩
  by_cases hlt : i < t.args.length
  · have hx : t.args[i]? = some t.args[i] := by simp [hlt]
    have hlt' : (i : Int) < t.args.length := by omega
    have w2 : IntKind.i64.wrap ((i : Int) + 1) = ((i + 1 : Nat) : Int) := by rw [wrap64 (by omega) (by omega)]; omega
    have hbw := belw_bound t.op i
    have w1 : IntKind.i64.wrap (k + belw t.op i) = k + belw t.op i := wrap64 (by omega) (by omega)
    have hdrop : t.args.drop i = t.args[i] :: t.args.drop (i + 1) := List.drop_eq_getElem_cons hlt
    rw [hdrop, cols] at hg
    rw [hdrop, szs] at hsz'
    have h0s := szs_pos (t.args.drop (i + 1))
    have hcl := col_len op t.args[i] (k + belw t.op i) l'
    simp (implicitDefEqProofs := false) (maxSteps := 2000000) (disch := (first | omega | (simp only [St.new_nx, St.set_nx, St.del_nx, St.bump_nx]; done) | (simp only [St.new_nx, St.set_nx, St.del_nx, St.bump_nx]; omega) | fail)) [a86l11, a86r7, a86r8, a86r9, a86r10, h38, h39, h40, h1, h2, h3, h4, hT, hlt', hlt, hx, w2]
    refine pcV_intro (p103 t i) ?_
    simp (implicitDefEqProofs := false) (maxSteps := 2000000) (disch := (first | omega | (simp only [St.new_nx, St.set_nx, St.del_nx, St.bump_nx]; done) | (simp only [St.new_nx, St.set_nx, St.del_nx, St.bump_nx]; omega) | fail)) [w1, h3]
    refine pcV_intro (ih _ (List.getElem_mem hlt) _ (hf.child i _ hx) l' (by omega)) ?_
    simp (implicitDefEqProofs := false) (maxSteps := 2000000) (disch := (first | omega | (simp only [St.new_nx, St.set_nx, St.del_nx, St.bump_nx]; done) | (simp only [St.new_nx, St.set_nx, St.del_nx, St.bump_nx]; omega) | fail)) [h40, w2]
    intro m3 hm3
    refine go_next (t.args.length - (i + 1)) (by omega) ⟨i + 1, col op t.args[i] (k + belw t.op i) l', by omega, rfl, hg, by omega, ?_, ?_, ?_, ?_, ?_, ?_, ?_, ?_, ?_, ?_⟩
    all_goals (try simp (implicitDefEqProofs := false) (maxSteps := 2000000) (disch := (first | omega | (simp only [St.new_nx, St.set_nx, St.del_nx, St.bump_nx]; done) | (simp only [St.new_nx, St.set_nx, St.del_nx, St.bump_nx]; omega) | fail)) [h38, h39, h40, h1, h2, h3, h4, hT, hk, w2])
    all_goals omega
  · have hlt' : ¬ (i : Int) < t.args.length := by omega
    have hie : i = t.args.length := by omega
    subst hie
    have hg' : l' = fin := by simpa [cols] using hg
    subst hg'
    simp (implicitDefEqProofs := false) (maxSteps := 2000000) (disch := (first | omega | (simp only [St.new_nx, St.set_nx, St.del_nx, St.bump_nx]; done) | (simp only [St.new_nx, St.set_nx, St.del_nx, St.bump_nx]; omega) | fail)) [a86l11, a86r7, a86r12, h38, h39, h40, h3, hlt', hk]

theorem p86 (op : Int) (t : Ty) : ∀ k, Fit t k → C86 op t k := by
  induction t using Ty.ind with
  | h t ih =>
    intro k hf l hl
    refine PureC.intro fun s => fun_sound mixed Try.func86 Try.call86 c86 rfl (awpFun_go _ _ _ _ ?_)
    generalize hfin : col op t k l = fin
    rw [col_eq] at hfin
    have hn := wide_n hf.1
    have hb := hf.2
    have w1 : IntKind.i64.wrap (t.n - k) = t.n - k := wrap64 (by omega) (by omega)
    have hsp := sz_pos' t
    simp (implicitDefEqProofs := false) (maxSteps := 2000000) (disch := (first | omega | (simp only [St.new_nx, St.set_nx, St.del_nx, St.bump_nx]; done) | (simp only [St.new_nx, St.set_nx, St.del_nx, St.bump_nx]; omega) | fail)) [a86, a86b, a86r0, a86r1]
    refine ⟨fun ho => ⟨fun h1 => ⟨fun h2 => ?_, fun h2 => ?_⟩, fun h1 => ?_⟩, fun ho => ?_⟩
    · rw [if_pos ⟨ho, .inr h2⟩, if_pos h1] at hfin
      simp (implicitDefEqProofs := false) (maxSteps := 2000000) (disch := (first | omega | (simp only [St.new_nx, St.set_nx, St.del_nx, St.bump_nx]; done) | (simp only [St.new_nx, St.set_nx, St.del_nx, St.bump_nx]; omega) | fail)) [a86r2, a86r3, a86r4, a86r5, h1, w1]
      refine go_pure (p120 l (t.n - k) (by omega)) fun mm1 hm1 => ?_
      try simp only [St.new_nx, St.bump_nx, St.set_nx, St.del_nx] at hm1
      simp (implicitDefEqProofs := false) (maxSteps := 2000000) (disch := (first | omega | (simp only [St.new_nx, St.set_nx, St.del_nx, St.bump_nx]; done) | (simp only [St.new_nx, St.set_nx, St.del_nx, St.bump_nx]; omega) | fail))
      simp (implicitDefEqProofs := false) (maxSteps := 2000000) (disch := (first | omega | (simp only [St.new_nx, St.set_nx, St.del_nx, St.bump_nx]; done) | (simp only [St.new_nx, St.set_nx, St.del_nx, St.bump_nx]; omega) | fail)) [hfin]
    · rw [if_neg (by rintro ⟨_, h | h⟩ <;> omega)] at hfin
      refine l86 op t k hf ih l hl s _ _ ?_ ?_ ?_ ?_ ?_ ?_ ?_ fin hfin <;> simp (implicitDefEqProofs := false) (maxSteps := 2000000) (disch := (first | omega | (simp only [St.new_nx, St.set_nx, St.del_nx, St.bump_nx]; done) | (simp only [St.new_nx, St.set_nx, St.del_nx, St.bump_nx]; omega) | fail))
    · rw [if_pos ⟨ho, .inl h1⟩, if_neg h1] at hfin
      simp (implicitDefEqProofs := false) (maxSteps := 2000000) (disch := (first | omega | (simp only [St.new_nx, St.set_nx, St.del_nx, St.bump_nx]; done) | (simp only [St.new_nx, St.set_nx, St.del_nx, St.bump_nx]; omega) | fail)) [a86r2, a86r3, a86r4, a86r5, h1, w1]
      refine go_pure (p120 l t.n (by omega)) fun mm2 hm2 => ?_
      try simp only [St.new_nx, St.bump_nx, St.set_nx, St.del_nx] at hm2
      simp (implicitDefEqProofs := false) (maxSteps := 2000000) (disch := (first | omega | (simp only [St.new_nx, St.set_nx, St.del_nx, St.bump_nx]; done) | (simp only [St.new_nx, St.set_nx, St.del_nx, St.bump_nx]; omega) | fail))
      simp (implicitDefEqProofs := false) (maxSteps := 2000000) (disch := (first | omega | (simp only [St.new_nx, St.set_nx, St.del_nx, St.bump_nx]; done) | (simp only [St.new_nx, St.set_nx, St.del_nx, St.bump_nx]; omega) | fail)) [hfin]
    · rw [if_neg (by rintro ⟨h, _⟩; exact ho h)] at hfin
      refine l86 op t k hf ih l hl s _ _ ?_ ?_ ?_ ?_ ?_ ?_ ?_ fin hfin <;> simp (implicitDefEqProofs := false) (maxSteps := 2000000) (disch := (first | omega | (simp only [St.new_nx, St.set_nx, St.del_nx, St.bump_nx]; done) | (simp only [St.new_nx, St.set_nx, St.del_nx, St.bump_nx]; omega) | fail))
end Go.AL.Ty
