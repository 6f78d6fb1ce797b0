/- The abstract layer: append and slices of lists. -/
import Derived.Test.YtkegioliclbbhaaA4
set_option linter.unusedVariables false
set_option linter.unusedSimpArgs false
namespace Go.AL
variable {ι ι' : Nat → Option Nat} {S S' : Store} {F : Nat → Nat → Prop} {w w' : World} {P : Program}

theorem Rep.list_inv {v : Value} {sz : Nat} {t : Tok} {xs : List AV} (h : Rep ι F w v (.list sz t xs)) : ∃ (a : Option Addr) (len cap : Nat) (cs : Nat → Value), v = .slice a len cap ∧ len = xs.length ∧ len ≤ cap ∧
    (∀ x ∈ xs, x.cells.length = sz) ∧ TokOK ι w sz a len cap t ∧ (a = none → cap = 0) ∧
    (∀ j, j < len * sz → ∃ ad, a = some ad ∧ ad.spot = none ∧ w.cell? ⟨ad.block, ad.off + j, none⟩ = some (cs j) ∧ ¬ F ad.block (ad.off + j) ∧ (cs j).oneCell' = true) ∧
    (∀ j x, (flat xs)[j]? = some x → Rep ι F w (cs j) x) := by
  cases h with
  | list cs h1 h2 h3 h4 h5 h6 h7 => exact ⟨_, _, _, cs, rfl, h1, h2, h3, h4, h5, h6, h7⟩

/-- The cells of a list, loaded. -/
theorem firstCells_list {a : Option Addr} {len cap sz : Nat} {t : Tok} {xs : List AV} (h : Rep ι F w (.slice a len cap) (.list sz t xs)) (n : Nat) (hn : n = len) :
    ∃ vs : Array Value, (Builtin.firstCells sz n (.slice a len cap)).run P w = .ok vs w ∧ RepL ι F w vs (flat xs) ∧ (∀ (j : Nat) v, vs[j]? = some v → v.oneCell' = true) ∧ vs.size = len * sz := by
  subst hn
  cases h with
  | list cs hlen hcap hsz ht hnone hc hr =>
    have hfl : (flat xs).length = n * sz := by rw [flat_length hsz, hlen]
    cases a with
    | none =>
      have h0 : n = 0 := by have := hnone rfl; omega
      subst h0
      refine ⟨#[], by simp [Builtin.firstCells], ⟨by rw [hfl]; simp, by simp⟩, by simp, by simp⟩
    | some ad =>
      by_cases h0 : n * sz = 0
      · refine ⟨#[], ?_, ⟨by rw [hfl, h0]; rfl, by simp⟩, by simp, by simp [h0]⟩
        simp [Builtin.firstCells, h0, loadCells, loadCellsFrom]
      · obtain ⟨ad', e1, e2, _⟩ := hc 0 (by omega)
        cases e1
        have hl := run_loadCells (P := P) w ad (n * sz) cs (fun j hj => by
          obtain ⟨ad', e1, e2, e3, _⟩ := hc j hj
          cases e1
          rw [addr_add ad e2]
          exact e3)
        refine ⟨_, by simpa [Builtin.firstCells] using hl, ⟨by rw [hfl]; simp, fun j v x hv hx => ?_⟩, fun j v hv => ?_, by simp⟩
        · have hj : j < n * sz := by rw [← hfl]; exact (List.getElem?_eq_some_iff.1 hx).1
          simp [List.getElem?_range, hj] at hv
          subst hv
          exact hr j x hx
        · simp only [List.getElem?_toArray, List.getElem?_map, Option.map_eq_some_iff] at hv
          obtain ⟨k, hk, rfl⟩ := hv
          have hj : j < n * sz := by
            rcases Nat.lt_or_ge j (n * sz) with h' | h'
            · exact h'
            · simp [List.getElem?_eq_none, h'] at hk
          have hk' : k = j := by simpa [hj, List.getElem?_range] using hk.symm
          subst hk'
          obtain ⟨_, _, _, _, _, e⟩ := hc k hj
          exact e

theorem foot_of_put {q : Nat} {n : Nat} {obj : AObj} {b off : Nat} (h : Foot ι (putS S n obj) b off) : (ι n = some b ∧ obj.mut off) ∨ Foot ι (delS S n) b off := by
  obtain ⟨q, ob, h1, h2, h3⟩ := h
  unfold putS at h1
  split at h1
  · rename_i e; subst e; simp at h1; subst h1; exact .inl ⟨h2, h3⟩
  · rename_i e
    exact .inr ⟨q, ob, by simp [delS, e, h1], h2, h3⟩

/-- What an append needs to know of the store: nothing, or the object that owns the room. -/
def AppS (S S' : Store) (nid N sz : Nat) (xs : List AV) : Tok → Prop
  | .none => False
  | .full => S' = putS S nid (.spare N)
  | .own o => S o = some (.spare (xs.length * sz)) ∧ S' = putS (delS S o) nid (.spare N)

theorem delS_sub (S : Store) (o : Nat) : ∀ q obj, delS S o q = some obj → S q = some obj := by
  intro q obj h
  unfold delS at h
  split at h
  · cases h
  · exact h

theorem run_append_lists {ty ty2 rt e d : TypeId} {i : TypeInfo} {z : Value} (hu : P.underlying ty = some (.slice e)) (hu2 : P.underlying ty2 = some (.slice d))
    (hi : P.info? e = some i) (hz : i.zero = some z)
    {a : Option Addr} {len cap : Nat} {a2 : Option Addr} {len2 cap2 : Nat} {olds news : Array Value}
    (hnew : ∀ w', w'.heap = w.heap → (Builtin.firstCells i.size len2 (.slice a2 len2 cap2)).run P w' = .ok news w')
    (hold : ∀ w', w'.heap = w.heap → (Builtin.firstCells i.size len (.slice a len cap)).run P w' = .ok olds w')
    (hgrow : cap < len + len2) (h63 : ((len + len2 : Nat) : Int) ≤ 9223372036854775807) (hb : (len + len2) * i.bytes ≤ 140737488355328) :
    (Builtin.append_ #[ty, ty2] rt #[.slice a len cap, .slice a2 len2 cap2]).run P w =
      .ok (.slice (some ⟨w.heap.size, 0, none⟩) (len + len2) (grownCap w (len + len2) cap e))
        (w.drew.alloc (.cells (olds ++ news ++ Builtin.zeroCells z.cells (grownCap w (len + len2) cap e - (len + len2))) e)) := by
  have hn : ¬ (len + len2 ≤ cap) := by omega
  have h63' : ¬ (9223372036854775807 < ((len : Int) + (len2 : Int))) := by omega
  have hfit := growslice_fits hgrow hb
  have h48' : ¬ (281474976710656 < Builtin.nextslicecap (len + len2) cap * i.bytes) := by omega
  have h1 := hnew w.drew rfl
  have h2 := hold w.drew rfl
  simp [Builtin.append_, run_underlying hu, run_underlying hu2, sizeOf, typeInfo, zeroValue, hi, hz, Builtin.lenOf, hn, h63', h48', Question.forced, h1, h2, newRow, grownCap]

theorem grownCap_ge (w : World) (need old : Nat) (e : TypeId) : need ≤ grownCap w need old e := by
  simp [grownCap, Question.cut]

theorem size_zeroCells (z : Array Value) (n : Nat) : (Builtin.zeroCells z n).size = n * z.size := by simp [Builtin.zeroCells]

theorem append_sound (hwf : WF ι S w) {nid : Nat} (hn : ι nid = none) (hSn : S nid = none) {sv xv : Value} {sz0 sz1 sz : Nat} {t t1 : Tok} {xs ys : List AV}
    (hs : Rep ι (Foot ι S) w sv (.list sz0 t xs)) (hx : Rep ι (Foot ι S) w xv (.list sz1 t1 ys)) (hz0 : sz0 = sz ∨ (xs = [] ∧ t = .full)) (hz1 : sz1 = sz ∨ ys = [])
    {ty ty2 rt e d : TypeId} {i : TypeInfo} {z : Value} (hu : P.underlying ty = some (.slice e)) (hu2 : P.underlying ty2 = some (.slice d)) (hi : P.info? e = some i) (hz : i.zero = some z)
    (hsz : i.size = sz) (hzc : z.cells.size = sz) (hb : (xs.length + ys.length) * i.bytes ≤ 140737488355328) (h63 : xs.length + ys.length ≤ 9223372036854775807)
    (hS : AppS S S' nid ((xs.length + ys.length) * sz) sz xs t) :
    ∃ v' w' ι', (Builtin.append_ #[ty, ty2] rt #[sv, xv]).run P w = .ok v' w' ∧ Step ι S w ι' S' w' ∧ WF ι' S' w' ∧ Rep ι' (Foot ι' S') w' v' (.list sz (.own nid) (xs ++ ys)) ∧
      ∀ q b, ι' q = some b → q = nid ∨ ι q = some b := by
  -- both lists at the operation's own size
  have hs' : Rep ι (Foot ι S) w sv (.list sz t xs) := by
    rcases hz0 with rfl | ⟨rfl, rfl⟩
    · exact hs
    · cases hs with
      | list cs hlen hcap hsz0 ht hnone hc hr =>
        simp only [List.length_nil] at hlen
        subst hlen
        simp only [TokOK] at ht
        exact .list cs rfl hcap (by simp) ht hnone (fun j hj => by omega) (by simp)
  have hx' : Rep ι (Foot ι S) w xv (.list sz .none ys) := by
    rcases hz1 with rfl | rfl
    · cases hx with
      | list cs hlen hcap hsz0 ht hnone hc hr => exact .list cs hlen hcap hsz0 trivial hnone hc hr
    · cases hx with
      | list cs hlen hcap hsz0 ht hnone hc hr =>
        simp only [List.length_nil] at hlen
        subst hlen
        exact .list cs rfl hcap (by simp) trivial hnone (fun j hj => by omega) (by simp)
  clear hs hx hz0 hz1
  have hmem : ∀ x ∈ xs ++ ys, x.cells.length = sz := by
    intro x hxm
    rw [List.mem_append] at hxm
    rcases hxm with hxm | hxm
    · cases hs' with | list _ _ _ h => exact h x hxm
    · cases hx' with | list _ _ _ h => exact h x hxm
  cases sv <;> try (cases hs'; done)
  rename_i a len cap
  cases xv <;> try (cases hx'; done)
  rename_i a2 len2 cap2
  obtain ⟨olds, hold, holdr, hold1, holdn⟩ := firstCells_list (P := P) hs' len rfl
  obtain ⟨news, hnew, hnewr, hnew1, hnewn⟩ := firstCells_list (P := P) hx' len2 rfl
  have hlen : len = xs.length := by cases hs' with | list _ h => exact h
  have hlen2 : len2 = ys.length := by cases hx' with | list _ h => exact h
  have hcap : len ≤ cap := by cases hs' with | list _ _ h => exact h
  -- the store after
  have hS1 : ∃ S1, (∀ o obj, S1 o = some obj → S o = some obj) ∧ S' = putS S1 nid (.spare ((xs.length + ys.length) * sz)) ∧ S1 nid = none := by
    cases t with
    | none => exact hS.elim
    | full => exact ⟨S, fun _ _ h => h, hS, hSn⟩
    | own o => exact ⟨delS S o, delS_sub S o, hS.2, by unfold delS; split <;> first | rfl | exact hSn⟩
  obtain ⟨S1, hsub, hS', hS1n⟩ := hS1
  by_cases hroom : len + len2 ≤ cap
  · by_cases htight : cap = len
    · -- nothing to append, no room: the world is as it was
      have h2 : len2 = 0 := by omega
      subst h2
      have hys : ys = [] := List.length_eq_zero_iff.1 hlen2.symm
      subst hys
      have hd := drop_step S S1 hsub ι w
      have hwf1 := hwf.drop hsub
      have hv := virtual_step hn S1 w (.spare ((xs.length + ([] : List AV).length) * sz))
      have hst : Step ι S w ι S' w := by rw [hS']; exact hd.trans hv
      refine ⟨.slice a len cap, w, ι, ?_, hst, by rw [hS']; exact hwf1.virtual hn _, ?_, fun q b h => .inr h⟩
      · have e0 : news = #[] := by
          apply Array.eq_empty_of_size_eq_zero
          rw [hnewn]; simp
        subst e0
        have hlast : (match a with | some a => storeCells (a.add (len * sz)) [] | none => Pure.pure ()).run P w = .ok () w := by cases a <;> rfl
        subst hsz
        cases a <;> simp [Builtin.append_, run_underlying hu, run_underlying hu2, sizeOf, typeInfo, hi, Builtin.lenOf, hcap, hnew, storeCells]
      · rw [List.append_nil]
        have := hs'.step hst
        cases this with
        | list cs h1 h2 h3 h4 h5 h6 h7 => exact .list cs h1 h2 h3 (.inl htight) h5 h6 h7
    · -- room: it is the owner's
      cases t with
      | none => exact hS.elim
      | full =>
        have : cap = len := by cases hs' with | list _ _ _ _ h => exact h
        exact (htight this).elim
      | own o =>
        obtain ⟨hSo, hS2⟩ := hS
        have hown : ∃ b, ι o = some b ∧ a = some ⟨b, 0, none⟩ ∧ BlockOf w b (cap * sz) := by
          cases hs' with | list _ _ _ _ h => exact h.resolve_left htight
        obtain ⟨b, hob, rfl, vs, e', hh, hvs⟩ := hown
        have hblt : b < w.heap.size := hwf.blt o b hob
        have hbig : (len + len2) * sz ≤ cap * sz := Nat.mul_le_mul_right _ hroom
        rw [Nat.add_mul] at hbig
        have hstore := run_storeCells_at P b (len * sz) e' news.toList 0 vs w hh (by simp; omega) (fun u hum => by
          obtain ⟨j, hj⟩ := List.mem_iff_getElem?.1 hum
          exact hnew1 j u (by simpa using hj))
        simp only [Nat.add_zero, Array.length_toList, hnewn] at hstore
        let arr : Array Value := (vs.toList.take (len * sz) ++ news.toList ++ vs.toList.drop (len * sz + len2 * sz)).toArray
        have harr : arr.size = vs.size := by simp [arr]; omega
        have hget : ∀ j : Nat, arr[j]? = if j < len * sz then vs[j]? else if j < len * sz + len2 * sz then news[j - len * sz]? else vs[j]? := by
          intro j
          have := seg_get vs.toList news.toList (len * sz) (by simp; omega) j
          simp only [Array.length_toList, hnewn, Array.getElem?_toList] at this
          simpa [arr] using this
        have hfoot : ∀ b' off, Foot (putι ι nid b) S' b' off → (b' = b ∧ (xs.length + ys.length) * sz ≤ off) ∨ (b' ≠ b ∧ Foot ι S b' off) := by
          rintro b' off ⟨q, ob, h1, h2, h3⟩
          rw [hS2] at h1
          unfold putS at h1
          unfold putι at h2
          by_cases hq : q = nid
          · simp only [hq, if_true] at h1 h2
            simp at h1 h2
            subst h1 h2
            exact .inl ⟨rfl, h3⟩
          · simp only [hq, if_false] at h1 h2
            have h1' := delS_sub S o q ob h1
            have hqo : q ≠ o := by
              intro e
              simp [delS, e] at h1
            refine .inr ⟨fun e => hqo (hwf.inj q o ob _ b h1' hSo (e ▸ h2) hob), q, ob, h1', h2, h3⟩
        have hst : Step ι S w (putι ι nid b) S' (w.setRow b arr) := by
          refine write_step hSo hob hh harr (fun j hj => ?_) (putι_ext hn) (fun b' off hb' hf => ?_) (fun b' hb' hf => ?_)
          · have hj' : j < len * sz := by
              rw [hlen]
              simpa [AObj.mut] using hj
            rw [hget, if_pos hj']
          · rcases hfoot b' off hf with ⟨rfl, h⟩ | ⟨_, h⟩
            · refine ⟨o, _, hSo, hob, ?_⟩
              simp only [AObj.mut]
              rw [Nat.add_mul] at h
              omega
            · exact h
          · obtain ⟨q, ob, h1, h2⟩ := hf
            rw [hS2] at h1
            unfold putS at h1
            unfold putι at h2
            by_cases hq : q = nid
            · simp only [hq, if_true] at h2
              simp at h2
              subst h2
              exact ⟨o, _, hSo, hob⟩
            · simp only [hq, if_false] at h1 h2
              exact ⟨q, ob, delS_sub S o q ob h1, h2⟩
        have hheap := setRow_heap w b vs arr e' (0, 0) hh
        refine ⟨.slice (some ⟨b, 0, none⟩) (len + len2) cap, w.setRow b arr, putι ι nid b, ?_, hst, ?_, ?_, ?_⟩
        · have hz0 : ({ block := b, off := 0, spot := none } : Addr).add (len * sz) = ⟨b, len * sz, none⟩ := by rw [addr_add _ rfl]; simp
          subst hsz
          simp [Builtin.append_, run_underlying hu, run_underlying hu2, sizeOf, typeInfo, hi, Builtin.lenOf, hroom, hnew, hz0, hstore, arr]
        · refine hwf.of_step hst ?_ ?_ ?_
          · intro q c hq
            unfold putι at hq
            split at hq
            · simp at hq; subst hq; simpa using hblt
            · have := hwf.blt q c hq; simpa using this
          · intro q q' ob ob' c h1 h2 h3 h4
            rw [hS2] at h1 h2
            unfold putS at h1 h2
            unfold putι at h3 h4
            have key : ∀ q ob, q ≠ nid → delS S o q = some ob → ι q = some b → False := by
              intro q ob _ k1 k2
              have hqo : q ≠ o := by intro e; simp [delS, e] at k1
              exact hqo (hwf.inj q o ob _ b (delS_sub S o q ob k1) hSo k2 hob)
            by_cases eq : q = nid <;> by_cases eq' : q' = nid <;> simp only [eq, eq', if_true, if_false] at h1 h2 h3 h4 ⊢
            · simp at h3; subst h3; exact (key q' ob' eq' h2 h4).elim
            · simp at h4; subst h4; exact (key q ob eq h1 h3).elim
            · exact hwf.inj q q' ob ob' c (delS_sub S o _ _ h1) (delS_sub S o _ _ h2) h3 h4
          · intro q ob c h1 h2
            rw [hS2] at h1
            unfold putS at h1
            unfold putι at h2
            by_cases eq : q = nid
            · simp only [eq, if_true] at h1 h2
              simp at h1 h2
              subst h1 h2
              refine .inr ⟨arr, e', hheap, ?_⟩
              rw [harr, ← hlen, ← hlen2, Nat.add_mul]
              omega
            · simp only [eq, if_false] at h1 h2
              have h1' := delS_sub S o q ob h1
              have hqo : q ≠ o := by intro e; simp [delS, e] at h1
              have hne : c ≠ b := fun e => hqo (hwf.inj q o ob _ b h1' hSo (e ▸ h2) hob)
              exact .inl ⟨h1', h2, setRow_other w b c arr hne⟩
        · refine Rep.list_of_block (vs := arr) (e := e') (by simp [hlen, hlen2]) hroom hmem (.inr ⟨b, by simp [putι], rfl, arr, e', hheap, by rw [harr]; exact hvs⟩) hheap (fun j hj hf => ?_) (fun j v x hv hx => ?_) (fun j v hj hv => ?_) (by rw [harr, Nat.add_mul]; omega)
          · rcases hfoot b j hf with ⟨_, h⟩ | ⟨h, _⟩
            · rw [hlen, hlen2] at hj; omega
            · exact h rfl
          · rw [hget] at hv
            rw [flat_append] at hx
            have hfl : (flat xs).length = len * sz := by rw [← holdr.1, holdn]
            by_cases hj : j < len * sz
            · rw [if_pos hj] at hv
              rw [List.getElem?_append_left (by omega)] at hx
              refine Rep.step hst ?_
              obtain ⟨_, _, _, cs, e0, h1, h2, h3, h4, h5, h6, h7⟩ := hs'.list_inv
              cases e0
              obtain ⟨ad, k1, k2, k3, _⟩ := h6 j hj
              cases k1
              simp only [World.cell?, hh, Nat.zero_add] at k3
              simp at k3
              rw [hv] at k3
              cases k3
              exact h7 j x hx
            · rw [if_neg hj] at hv
              rw [List.getElem?_append_right (by omega), hfl] at hx
              have hj2 : j < len * sz + len2 * sz := by
                have h3 := (List.getElem?_eq_some_iff.1 hx).1
                rw [← hnewr.1, hnewn] at h3
                omega
              rw [if_pos hj2] at hv
              exact (hnewr.2 _ v x hv hx).step hst
          · rw [hget] at hv
            rw [Nat.add_mul] at hj
            by_cases hj1 : j < len * sz
            · rw [if_pos hj1] at hv
              obtain ⟨_, _, _, cs, e0, h1, h2, h3, h4, h5, h6, h7⟩ := hs'.list_inv
              cases e0
              obtain ⟨ad, k1, k2, k3, _, k5⟩ := h6 j hj1
              cases k1
              simp only [World.cell?, hh, Nat.zero_add] at k3
              simp at k3
              rw [hv] at k3
              cases k3
              exact k5
            · rw [if_neg hj1, if_pos hj] at hv
              exact hnew1 _ v hv
        · intro q c hq
          unfold putι at hq
          split at hq
          · rename_i e; exact .inl e
          · exact .inr hq
  · -- it grows
    have keep : ∀ {a : Option Addr} {n c : Nat} {t : Tok} {l : List AV} {vs : Array Value}, Rep ι (Foot ι S) w (.slice a n c) (.list sz t l) → (Builtin.firstCells sz n (.slice a n c)).run P w = .ok vs w →
        ∀ w', w'.heap = w.heap → (Builtin.firstCells sz n (.slice a n c)).run P w' = .ok vs w' := by
      intro a n c t l vs hrep hrun w' hw'
      have hrep' : Rep ι (Foot ι S) w' (.slice a n c) (.list sz t l) := hrep.keep (fun _ _ h => h) (fun b off _ _ => by simp [World.cell?, hw']) (fun _ _ _ h => h) (fun b k h => by simpa [BlockOf, hw'] using h)
      have e : ∀ vs', (Builtin.firstCells sz n (.slice a n c)).run P w' = .ok vs' w' → vs' = vs := by
        intro vs' h'
        cases a with
        | none => simp [Builtin.firstCells] at hrun h'; rw [hrun, h'] <;> rfl
        | some ad =>
          simp only [Builtin.firstCells] at hrun h'
          cases hrep with
          | list cs h1 h2 h3 h4 h5 h6 h7 =>
            have r1 := run_loadCells (P := P) w ad (n * sz) cs (fun j hj => by obtain ⟨ad', k1, k2, k3, _⟩ := h6 j hj; cases k1; rw [addr_add ad k2]; exact k3)
            have r2 := run_loadCells (P := P) w' ad (n * sz) cs (fun j hj => by obtain ⟨ad', k1, k2, k3, _⟩ := h6 j hj; cases k1; rw [addr_add ad k2]; simpa [World.cell?, hw'] using k3)
            rw [r1] at hrun
            rw [r2] at h'
            cases hrun
            cases h'
            rfl
      obtain ⟨vs', h1, _⟩ := firstCells_list (P := P) hrep' n rfl
      rw [h1, e vs' h1]
    have hrun := run_append_lists (P := P) (w := w) (rt := rt) hu hu2 hi hz (a := a) (len := len) (cap := cap) (a2 := a2) (len2 := len2) (cap2 := cap2) (olds := olds) (news := news)
      (by rw [hsz]; exact keep hx' hnew) (by rw [hsz]; exact keep hs' hold) (by omega) (by omega) (by rw [hlen, hlen2]; exact hb)
    have hge := grownCap_ge w (len + len2) cap e
    generalize hc : grownCap w (len + len2) cap e = nc at hrun hge
    let cells : Array Value := olds ++ news ++ Builtin.zeroCells z.cells (nc - (len + len2))
    have hcs : cells.size = nc * sz := by
      simp only [cells, Array.size_append, size_zeroCells, holdn, hnewn, hzc]
      rw [← Nat.add_mul, ← Nat.add_mul]
      congr 1
      omega
    have hd : Step ι S w ι S1 w.drew := (drop_step S S1 hsub ι w).trans (drew_step ι S1 w)
    have hwf1 : WF ι S1 w.drew := (hwf.drop hsub).drew
    have hnew_step := alloc_obj_step hwf1 hn (.cells cells e) (.spare ((xs.length + ys.length) * sz))
    have hst := hd.trans hnew_step
    rw [← hS'] at hst
    have hsize : w.drew.heap.size = w.heap.size := rfl
    have hblk : (w.drew.alloc (.cells cells e)).heap[w.heap.size]? = some (.cells cells e (0, 0)) := heap_alloc_eq w.drew _
    have hfit : (len + len2) * sz ≤ nc * sz := Nat.mul_le_mul_right _ hge
    have hwf2 : WF (putι ι nid w.heap.size) S' (w.drew.alloc (.cells cells e)) := by
      rw [hS']
      refine alloc_obj_wf hwf1 hn _ _ ?_
      exact ⟨cells, e, hblk, by rw [hcs, ← hlen, ← hlen2]; exact hfit⟩
    refine ⟨_, _, putι ι nid w.heap.size, hrun, hst, hwf2, ?_, ?_⟩
    · refine Rep.list_of_block (vs := cells) (e := e) (by simp [hlen, hlen2]) hge hmem (.inr ⟨_, by simp [putι], rfl, cells, e, hblk, by rw [hcs]; exact Nat.le_refl _⟩) hblk (fun j hj hf => ?_) (fun j v x hv hx => ?_) (fun j v hj hv => ?_) (by rw [hcs]; exact hfit)
      · rw [hS'] at hf
        obtain ⟨q, ob, h1, h2, h3⟩ := hf
        unfold putS at h1
        unfold putι at h2
        by_cases hq : q = nid
        · simp only [hq, if_true] at h1
          simp at h1
          subst h1
          simp only [AObj.mut] at h3
          rw [hlen, hlen2] at hj
          omega
        · simp only [hq, if_false] at h2
          have := hwf.blt q _ h2
          omega
      · rw [flat_append] at hx
        have hfl : (flat xs).length = len * sz := by rw [← holdr.1, holdn]
        have hfl2 : (flat ys).length = len2 * sz := by rw [← hnewr.1, hnewn]
        have hj : j < len * sz + len2 * sz := by
          have := (List.getElem?_eq_some_iff.1 hx).1
          simp only [List.length_append, hfl, hfl2] at this
          exact this
        simp only [cells, Array.append_assoc] at hv
        by_cases h1 : j < len * sz
        · rw [Array.getElem?_append_left (by omega)] at hv
          rw [List.getElem?_append_left (by omega)] at hx
          exact (holdr.2 j v x hv hx).step hst
        · rw [Array.getElem?_append_right (by omega), Array.getElem?_append_left (by omega), holdn] at hv
          rw [List.getElem?_append_right (by omega), hfl] at hx
          exact (hnewr.2 _ v x hv hx).step hst
      · rw [Nat.add_mul] at hj
        simp only [cells, Array.append_assoc] at hv
        by_cases h1 : j < len * sz
        · rw [Array.getElem?_append_left (by omega)] at hv
          exact hold1 j v hv
        · rw [Array.getElem?_append_right (by omega), Array.getElem?_append_left (by omega), holdn] at hv
          exact hnew1 _ v hv
    · intro q c hq
      unfold putι at hq
      split at hq
      · rename_i e; exact .inl e
      · exact .inr hq

end Go.AL
