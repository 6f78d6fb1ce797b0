/- The abstract layer: append at a slice that is written. -/
import Derived.Test.YtkegioliclbbhaaA5
set_option linter.unusedVariables false
set_option linter.unusedSimpArgs false
namespace Go.AL
variable {ι ι' : Nat → Option Nat} {S S' : Store} {F : Nat → Nat → Prop} {w w' : World} {P : Program}

/-- The cells of a list are loaded alike in all worlds of one heap. -/
theorem firstCells_heap {a : Option Addr} {n c sz : Nat} {t : Tok} {l : List AV} {vs : Array Value} (hrep : Rep ι F w (.slice a n c) (.list sz t l))
    (hrun : (Builtin.firstCells sz n (.slice a n c)).run P w = .ok vs w) : ∀ w', w'.heap = w.heap → (Builtin.firstCells sz n (.slice a n c)).run P w' = .ok vs w' := by
  intro w' hw'
  have hrep' : Rep ι F w' (.slice a n c) (.list sz t l) := hrep.keep (fun _ _ h => h) (fun b off _ _ => by simp [World.cell?, hw']) (fun _ _ _ h => h) (fun b k h => by simpa [BlockOf, hw'] using h)
  have e : ∀ vs', (Builtin.firstCells sz n (.slice a n c)).run P w' = .ok vs' w' → vs' = vs := by
    intro vs' h'
    cases a with
    | none => simp [Builtin.firstCells] at hrun h'; rw [hrun, h'] <;> rfl
    | some ad =>
      simp only [Builtin.firstCells] at hrun h'
      cases hrep with
      | list cs h1 h2 h3 h4 h5 h6 h7 =>
        have r1 := run_loadCells (P := P) w ad (n * sz) cs (fun j hj => by obtain ⟨ad', k1, k2, k3, _⟩ := h6 j hj; cases k1; rw [addr_add ad k2]; exact k3)
        have r2 := run_loadCells (P := P) w' ad (n * sz) cs (fun j hj => by obtain ⟨ad', k1, k2, k3, _⟩ := h6 j hj; cases k1; rw [addr_add ad k2]; simpa [World.cell?, hw'] using k3)
        rw [r1] at hrun
        rw [r2] at h'
        cases hrun
        cases h'
        rfl
  obtain ⟨vs', h1, _⟩ := firstCells_list (P := P) hrep' n rfl
  rw [h1, e vs' h1]

/-- What a slice that is written is. -/
theorem mref_facts (hwf : WF ι S w) {sv : Value} {sz o len : Nat} {cs : List AV} (hs : Rep ι F w sv (.mref sz o 0 len)) (hSo : S o = some (.box cs)) (hcs : cs.length = len * sz) :
    ∃ (a : Option Addr) (cap : Nat) (olds : Array Value), sv = .slice a len cap ∧ len ≤ cap ∧ (∀ w', w'.heap = w.heap → (Builtin.firstCells sz len (.slice a len cap)).run P w' = .ok olds w') ∧
      RepL ι (Foot ι S) w olds cs ∧ (∀ (j : Nat) v, olds[j]? = some v → v.oneCell' = true) ∧ olds.size = len * sz ∧
      ((a = none ∧ cap = 0) ∨ ∃ b vs e, a = some ⟨b, 0, none⟩ ∧ ι o = some b ∧ w.heap[b]? = some (.cells vs e (0, 0)) ∧ cap * sz ≤ vs.size ∧ ∀ j, j < len * sz → vs[j]? = olds[j]?) := by
  cases hs with
  | @mref _ _ b _ _ cap h hcap hb =>
    obtain ⟨vs, e, h1, h2, h3, h4⟩ := hwf.rep o _ b hSo h
    obtain ⟨vs', e', k1, k2⟩ := hb
    rw [h1] at k1
    cases k1
    simp only [Nat.zero_add, Nat.zero_mul] at k2 ⊢
    have hj : ∀ j, j < len * sz → j < vs.size := fun j hj => by omega
    refine ⟨_, cap, ((List.range (len * sz)).map fun j => vs.getD j undef).toArray, rfl, hcap, fun w' hw' => ?_, ⟨by simp [hcs], fun j v x hv hx => ?_⟩, fun j v hv => ?_, by simp, .inr ⟨b, vs, _, rfl, h, h1, k2, fun j hjl => ?_⟩⟩
    · exact run_loadCells (P := P) w' ⟨b, 0, none⟩ (len * sz) (fun j => vs.getD j undef) fun j hjl => by
        rw [addr_add _ rfl]
        simp [World.cell?, hw', h1, hj j hjl]
    · have hjl : j < len * sz := by rw [← hcs]; exact (List.getElem?_eq_some_iff.1 hx).1
      simp [List.getElem?_range, hjl] at hv
      have := hj j hjl
      refine h3 j v x ?_ hx
      rw [← hv]; simp [this]
    · have hjl : j < len * sz := by simpa using (Array.getElem?_eq_some_iff.1 hv).1
      simp [List.getElem?_range, hjl] at hv
      have := hj j hjl
      refine h4 j v (by rw [hcs]; exact hjl) ?_
      rw [← hv]; simp [this]
    · have := hj j hjl
      simp [List.getElem?_range, hjl, this]
  | mnil =>
    simp only [Nat.zero_mul] at hcs
    have : cs = [] := List.length_eq_zero_iff.1 hcs
    subst this
    exact ⟨none, 0, #[], rfl, Nat.le_refl _, fun w' _ => by simp [Builtin.firstCells], ⟨rfl, by simp⟩, by simp, by simp, .inl ⟨rfl, rfl⟩⟩

theorem append_msound (hwf : WF ι S w) {nid : Nat} (hn : ι nid = none) (hSn : S nid = none) {sv xv : Value} {sz1 sz o len : Nat} {t1 : Tok} {cs ys : List AV}
    (hs : Rep ι (Foot ι S) w sv (.mref sz o 0 len)) (hx : Rep ι (Foot ι S) w xv (.list sz1 t1 ys)) (hz1 : sz1 = sz ∨ ys = [])
    {ty ty2 rt e d : TypeId} {i : TypeInfo} {z : Value} (hu : P.underlying ty = some (.slice e)) (hu2 : P.underlying ty2 = some (.slice d)) (hi : P.info? e = some i) (hz : i.zero = some z)
    (hsz : i.size = sz) (hzc : z.cells.size = sz) (hb : (len + ys.length) * i.bytes ≤ 140737488355328) (h63 : len + ys.length ≤ 9223372036854775807)
    (hSo : S o = some (.box cs)) (hcs : cs.length = len * sz) (hS : S' = putS (delS S o) nid (.box (cs ++ flat ys))) :
    ∃ v' w' ι', (Builtin.append_ #[ty, ty2] rt #[sv, xv]).run P w = .ok v' w' ∧ Step ι S w ι' S' w' ∧ WF ι' S' w' ∧ Rep ι' (Foot ι' S') w' v' (.mref sz nid 0 (len + ys.length)) ∧
      ∀ q b, ι' q = some b → q = nid ∨ ι q = some b := by
  have hx' : Rep ι (Foot ι S) w xv (.list sz .none ys) := by
    rcases hz1 with rfl | rfl
    · cases hx with
      | list cs hlen hcap hsz0 ht hnone hc hr => exact .list cs hlen hcap hsz0 trivial hnone hc hr
    · cases hx with
      | list cs hlen hcap hsz0 ht hnone hc hr =>
        simp only [List.length_nil] at hlen
        subst hlen
        exact .list cs rfl hcap (by simp) trivial hnone (fun j hj => by omega) (by simp)
  clear hx hz1
  obtain ⟨a, cap, olds, rfl, hcap, hold, holdr, hold1, holdn, hblk⟩ := mref_facts (P := P) hwf hs hSo hcs
  cases xv <;> try (cases hx'; done)
  rename_i a2 len2 cap2
  obtain ⟨news, hnew, hnewr, hnew1, hnewn⟩ := firstCells_list (P := P) hx' len2 rfl
  have hlen2 : len2 = ys.length := by cases hx' with | list _ h => exact h
  have hmem : ∀ x ∈ ys, x.cells.length = sz := by cases hx' with | list _ _ _ h => exact h
  have hfl2 : (flat ys).length = len2 * sz := by rw [← hnewr.1, hnewn]
  have hsub := delS_sub S o
  have hS1n : delS S o nid = none := by unfold delS; split <;> first | rfl | exact hSn
  by_cases hroom : len + len2 ≤ cap
  · rcases hblk with ⟨rfl, rfl⟩ | ⟨b, vs, e', rfl, hob, hh, hvs, hvo⟩
    · -- nothing, nowhere
      have h2 : len2 = 0 := by omega
      have h0 : len = 0 := by omega
      subst h2 h0
      have hys : ys = [] := List.length_eq_zero_iff.1 hlen2.symm
      subst hys
      have hd := drop_step S (delS S o) hsub ι w
      have hwf1 := hwf.drop hsub
      have hv := virtual_step hn (delS S o) w (.box (cs ++ flat []))
      have hst : Step ι S w ι S' w := by rw [hS]; exact hd.trans hv
      refine ⟨.slice none 0 0, w, ι, ?_, hst, by rw [hS]; exact hwf1.virtual hn _, .mnil, fun q b h => .inr h⟩
      have e0 : news = #[] := by
        apply Array.eq_empty_of_size_eq_zero
        rw [hnewn]; simp
      subst e0
      subst hsz
      simp [Builtin.append_, run_underlying hu, run_underlying hu2, sizeOf, typeInfo, hi, Builtin.lenOf, hnew, storeCells]
    · -- room in the block
      have hblt : b < w.heap.size := hwf.blt o b hob
      have hbig : (len + len2) * sz ≤ cap * sz := Nat.mul_le_mul_right _ hroom
      rw [Nat.add_mul] at hbig
      have hstore := run_storeCells_at P b (len * sz) e' news.toList 0 vs w hh (by simp; omega) (fun u hum => by
        obtain ⟨j, hj⟩ := List.mem_iff_getElem?.1 hum
        exact hnew1 j u (by simpa using hj))
      simp only [Nat.add_zero, Array.length_toList, hnewn] at hstore
      let arr : Array Value := (vs.toList.take (len * sz) ++ news.toList ++ vs.toList.drop (len * sz + len2 * sz)).toArray
      have harr : arr.size = vs.size := by simp [arr]; omega
      have hget : ∀ j : Nat, arr[j]? = if j < len * sz then vs[j]? else if j < len * sz + len2 * sz then news[j - len * sz]? else vs[j]? := by
        intro j
        have := seg_get vs.toList news.toList (len * sz) (by simp; omega) j
        simp only [Array.length_toList, hnewn, Array.getElem?_toList] at this
        simpa [arr] using this
      have hfoot : ∀ b' off, Foot (putι ι nid b) S' b' off → b' = b ∨ (b' ≠ b ∧ Foot ι S b' off) := by
        rintro b' off ⟨q, ob, h1, h2, h3⟩
        rw [hS] at h1
        unfold putS at h1
        unfold putι at h2
        by_cases hq : q = nid
        · simp only [hq, if_true] at h1 h2
          simp at h1 h2
          subst h2
          exact .inl rfl
        · simp only [hq, if_false] at h1 h2
          have h1' := delS_sub S o q ob h1
          have hqo : q ≠ o := by
            intro e
            simp [delS, e] at h1
          refine .inr ⟨fun e => hqo (hwf.inj q o ob _ b h1' hSo (e ▸ h2) hob), q, ob, h1', h2, h3⟩
      have hst : Step ι S w (putι ι nid b) S' (w.setRow b arr) := by
        refine write_step hSo hob hh harr (fun j hj => (hj trivial).elim) (putι_ext hn) (fun b' off hb' hf => ?_) (fun b' hb' hf => ?_)
        · rcases hfoot b' off hf with rfl | ⟨_, h⟩
          · exact ⟨o, _, hSo, hob, trivial⟩
          · exact h
        · obtain ⟨q, ob, h1, h2⟩ := hf
          rw [hS] at h1
          unfold putS at h1
          unfold putι at h2
          by_cases hq : q = nid
          · simp only [hq, if_true] at h2
            simp at h2
            subst h2
            exact ⟨o, _, hSo, hob⟩
          · simp only [hq, if_false] at h1 h2
            exact ⟨q, ob, delS_sub S o q ob h1, h2⟩
      have hheap := setRow_heap w b vs arr e' (0, 0) hh
      refine ⟨.slice (some ⟨b, 0, none⟩) (len + len2) cap, w.setRow b arr, putι ι nid b, ?_, hst, ?_, ?_, ?_⟩
      · have hz0 : ({ block := b, off := 0, spot := none } : Addr).add (len * sz) = ⟨b, len * sz, none⟩ := by rw [addr_add _ rfl]; simp
        subst hsz
        simp [Builtin.append_, run_underlying hu, run_underlying hu2, sizeOf, typeInfo, hi, Builtin.lenOf, hroom, hnew, hz0, hstore, arr]
      · refine hwf.of_step hst ?_ ?_ ?_
        · intro q c hq
          unfold putι at hq
          split at hq
          · simp at hq; subst hq; simpa using hblt
          · have := hwf.blt q c hq; simpa using this
        · intro q q' ob ob' c h1 h2 h3 h4
          rw [hS] at h1 h2
          unfold putS at h1 h2
          unfold putι at h3 h4
          have key : ∀ q ob, q ≠ nid → delS S o q = some ob → ι q = some b → False := by
            intro q ob _ k1 k2
            have hqo : q ≠ o := by intro e; simp [delS, e] at k1
            exact hqo (hwf.inj q o ob _ b (delS_sub S o q ob k1) hSo k2 hob)
          by_cases eq : q = nid <;> by_cases eq' : q' = nid <;> simp only [eq, eq', if_true, if_false] at h1 h2 h3 h4 ⊢
          · simp at h3; subst h3; exact (key q' ob' eq' h2 h4).elim
          · simp at h4; subst h4; exact (key q ob eq h1 h3).elim
          · exact hwf.inj q q' ob ob' c (delS_sub S o _ _ h1) (delS_sub S o _ _ h2) h3 h4
        · intro q ob c h1 h2
          rw [hS] at h1
          unfold putS at h1
          unfold putι at h2
          by_cases eq : q = nid
          · simp only [eq, if_true] at h1 h2
            simp at h1 h2
            subst h1 h2
            refine .inr ⟨arr, e', hheap, ?_, fun j v x hv hx => ?_, fun j v hj hv => ?_⟩
            · rw [harr, List.length_append, hcs, hfl2]
              omega
            · rw [hget] at hv
              by_cases hj : j < len * sz
              · rw [if_pos hj, hvo j hj] at hv
                rw [List.getElem?_append_left (by omega)] at hx
                exact (holdr.2 j v x hv hx).step hst
              · rw [if_neg hj] at hv
                rw [List.getElem?_append_right (by omega), hcs] at hx
                have hj2 : j < len * sz + len2 * sz := by
                  have h3 := (List.getElem?_eq_some_iff.1 hx).1
                  omega
                rw [if_pos hj2] at hv
                exact (hnewr.2 _ v x hv hx).step hst
            · rw [hget] at hv
              rw [List.length_append, hcs, hfl2] at hj
              by_cases hj1 : j < len * sz
              · rw [if_pos hj1, hvo j hj1] at hv
                exact hold1 j v hv
              · rw [if_neg hj1, if_pos hj] at hv
                exact hnew1 _ v hv
          · simp only [eq, if_false] at h1 h2
            have h1' := delS_sub S o q ob h1
            have hqo : q ≠ o := by intro e; simp [delS, e] at h1
            have hne : c ≠ b := fun e => hqo (hwf.inj q o ob _ b h1' hSo (e ▸ h2) hob)
            exact .inl ⟨h1', h2, setRow_other w b c arr hne⟩
      · rw [← hlen2]
        have := Rep.mref (ι := putι ι nid b) (F := Foot (putι ι nid b) S') (w := w.setRow b arr) (sz := sz) (o := nid) (b := b) (off := 0) (len := len + len2) (cap := cap) (by simp [putι]) hroom
          ⟨arr, e', hheap, by rw [harr, Nat.zero_add]; exact hvs⟩
        rwa [Nat.zero_mul] at this
      · intro q c hq
        unfold putι at hq
        split at hq
        · rename_i e; exact .inl e
        · exact .inr hq
  · -- it grows
    have hrun := run_append_lists (P := P) (w := w) (rt := rt) hu hu2 hi hz (a := a) (len := len) (cap := cap) (a2 := a2) (len2 := len2) (cap2 := cap2) (olds := olds) (news := news)
      (by rw [hsz]; exact firstCells_heap hx' hnew) (by rw [hsz]; exact hold) (by omega) (by omega) (by rw [hlen2]; exact hb)
    have hge := grownCap_ge w (len + len2) cap e
    generalize hc : grownCap w (len + len2) cap e = nc at hrun hge
    let cells : Array Value := olds ++ news ++ Builtin.zeroCells z.cells (nc - (len + len2))
    have hcsz : cells.size = nc * sz := by
      simp only [cells, Array.size_append, size_zeroCells, holdn, hnewn, hzc]
      rw [← Nat.add_mul, ← Nat.add_mul]
      congr 1
      omega
    have hd : Step ι S w ι (delS S o) w.drew := (drop_step S (delS S o) hsub ι w).trans (drew_step ι (delS S o) w)
    have hwf1 : WF ι (delS S o) w.drew := (hwf.drop hsub).drew
    have hnew_step := alloc_obj_step hwf1 hn (.cells cells e) (.box (cs ++ flat ys))
    have hst := hd.trans hnew_step
    rw [← hS] at hst
    have hblk' : (w.drew.alloc (.cells cells e)).heap[w.heap.size]? = some (.cells cells e (0, 0)) := heap_alloc_eq w.drew _
    have hfit : (len + len2) * sz ≤ nc * sz := Nat.mul_le_mul_right _ hge
    have hfit' := hfit
    rw [Nat.add_mul] at hfit'
    have hwf2 : WF (putι ι nid w.heap.size) S' (w.drew.alloc (.cells cells e)) := by
      rw [hS]
      refine alloc_obj_wf hwf1 hn _ _ ?_
      rw [← hS]
      refine ⟨cells, e, hblk', by rw [hcsz, List.length_append, hcs, hfl2]; exact hfit', fun j v x hv hx => ?_, fun j v hj hv => ?_⟩
      · simp only [cells, Array.append_assoc] at hv
        by_cases h1 : j < len * sz
        · rw [Array.getElem?_append_left (by omega)] at hv
          rw [List.getElem?_append_left (by omega)] at hx
          exact (holdr.2 j v x hv hx).step hst
        · rw [List.getElem?_append_right (by omega), hcs] at hx
          have := (List.getElem?_eq_some_iff.1 hx).1
          rw [Array.getElem?_append_right (by omega), Array.getElem?_append_left (by omega), holdn] at hv
          exact (hnewr.2 _ v x hv hx).step hst
      · rw [List.length_append, hcs, hfl2] at hj
        simp only [cells, Array.append_assoc] at hv
        by_cases h1 : j < len * sz
        · rw [Array.getElem?_append_left (by omega)] at hv
          exact hold1 j v hv
        · rw [Array.getElem?_append_right (by omega), Array.getElem?_append_left (by omega), holdn] at hv
          exact hnew1 _ v hv
    refine ⟨_, _, putι ι nid w.heap.size, hrun, hst, hwf2, ?_, ?_⟩
    · rw [← hlen2]
      have := Rep.mref (ι := putι ι nid w.heap.size) (F := Foot (putι ι nid w.heap.size) S') (w := w.drew.alloc (.cells cells e)) (sz := sz) (o := nid) (b := w.heap.size) (off := 0) (len := len + len2) (cap := nc) (by simp [putι]) hge
        ⟨cells, e, hblk', by rw [hcsz, Nat.zero_add]; exact Nat.le_refl _⟩
      rwa [Nat.zero_mul] at this
    · intro q c hq
      unfold putι at hq
      split at hq
      · rename_i e; exact .inl e
      · exact .inr hq

end Go.AL
