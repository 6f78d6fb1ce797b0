/- Maps that are written no more: frozen, thawed for a call; objects lent to a call. -/
import Derived.Test.YtlledcnjfgcipaaGreatDoorS1
import Derived.Test.YtlledcnjfgcipaaGreatDoorP1
import Derived.Test.YtlledcnjfgcipaaGreatDoorC4
set_option linter.unusedVariables false
set_option linter.unusedSimpArgs false
namespace Go.AL
variable {P : Program} {ι ι' : Nat → Option Nat} {S : Store} {F : Nat → Nat → Prop} {w w' : World}
theorem nodup_get {α : Type} : ∀ {l : List α} (_ : l.Nodup) {i j : Nat} {x : α}, l[i]? = some x → l[j]? = some x → i = j
 | [], _, i, j, x, h, _ => by simp at h
 | a :: l, hn, i, j, x, h1, h2 => by
  obtain ⟨hn1, hn2⟩ := List.nodup_cons.1 hn
  cases i <;> cases j <;> simp at h1 h2
  ·rfl
  ·subst h1; exact absurd (List.mem_of_getElem? h2) hn1
  ·subst h2; exact absurd (List.mem_of_getElem? h1) hn1
  ·rw [nodup_get hn2 h1 h2]
theorem perm_idx {α : Type} {a b : List α} (h : a.Perm b) : ∃ σ : Nat → Nat, (∀ j, j < a.length → σ j < a.length) ∧ (∀ i j, i < a.length → j < a.length → σ i = σ j → i = j) ∧ (∀ i, i < a.length → ∃ j, j < a.length ∧ σ j = i) ∧ ∀ j, j < a.length → b[σ j]? = a[j]? := by
 induction h with
 | nil => exact ⟨id, by simp, by simp, by simp, by simp⟩
 | @cons x a b h ih =>
  obtain ⟨σ, h1, h2, h3, h4⟩ := ih
  refine ⟨fun j => match j with | 0 => 0 | j + 1 => σ j + 1, ?_, ?_, ?_, ?_⟩
  ·intro j hj
   cases j with
   | zero => simp
   | succ j => simp at hj ⊢; exact h1 j hj
  ·intro i j hi hj e
   cases i <;> cases j <;> simp at hi hj e ⊢
   exact h2 _ _ hi hj e
  ·intro i hi
   cases i with
   | zero => exact ⟨0, by simp, rfl⟩
   | succ i =>
    simp at hi
    obtain ⟨j, hj, rfl⟩ := h3 i hi
    exact ⟨j + 1, by simpa using hj, rfl⟩
  ·intro j hj
   cases j with
   | zero => simp
   | succ j => simp at hj ⊢; exact h4 j hj
 | swap x y l =>
  refine ⟨fun j => match j with | 0 => 1 | 1 => 0 | j + 2 => j + 2, ?_, ?_, ?_, ?_⟩
  ·intro j hj
   match j with
   | 0 => simp
   | 1 => simp
   | j + 2 => simpa using hj
  ·intro i j hi hj e
   match i, j with
   | 0, 0 => rfl
   | 0, 1 => simp at e
   | 0, j + 2 => simp at e
   | 1, 0 => simp at e
   | 1, 1 => rfl
   | 1, j + 2 => simp at e
   | i + 2, 0 => simp at e
   | i + 2, 1 => simp at e
   | i + 2, j + 2 => simpa using e
  ·intro i hi
   match i with
   | 0 => exact ⟨1, by simp, rfl⟩
   | 1 => exact ⟨0, by simp, rfl⟩
   | i + 2 => exact ⟨i + 2, hi, rfl⟩
  ·intro j hj
   match j with
   | 0 => simp
   | 1 => simp
   | j + 2 => simp
 | @trans a b c h1 h2 ih1 ih2 =>
  obtain ⟨σ, a1, a2, a3, a4⟩ := ih1
  obtain ⟨τ, b1, b2, b3, b4⟩ := ih2
  have hl := h1.length_eq
  rw [← hl] at b1 b2 b3 b4
  refine ⟨fun j => τ (σ j), fun j hj => b1 _ (a1 j hj), fun i j hi hj e => a2 i j hi hj (b2 _ _ (a1 i hi) (a1 j hj) e), fun i hi => ?_, fun j hj => (b4 _ (a1 j hj)).trans (a4 j hj)⟩
  obtain ⟨j, hj, rfl⟩ := b3 i hi
  obtain ⟨k, hk, rfl⟩ := a3 j hj
  exact ⟨k, hk, rfl⟩
def keyAV : AV → Prop
 | .int .i64 _ | .str _ => True
 | _ => False
theorem key_eq {v : Value} {x y : AV} (hx : Rep ι F w v x) (hy : Rep ι F w v y) (kx : keyAV x) (ky : keyAV y) : x = y := by
 cases x <;> simp only [keyAV] at kx <;> cases y <;> simp only [keyAV] at ky <;> cases hx <;> cases hy <;> rfl
def inord (kes : List (AV × AV)) : List (Nat × AV × AV) := kes.mapIdx fun j p => (j, p)
theorem inord_get {kes : List (AV × AV)} {j : Nat} : (inord kes)[j]? = (kes[j]?).map fun p => (j, p) := by simp [inord]
theorem inord_len (kes : List (AV × AV)) : (inord kes).length = kes.length := by simp [inord]
theorem frz_rep [Glob] (hwf : WF ι S w) {o b : Nat} {kes kes' : List (AV × AV)} (ho : S o = some (.map (inord kes) kes.length)) (hb : ι o = some b) (hp : kes.Perm kes') (hk : ∀ p ∈ kes, keyAV p.1) (hnd : (kes.map (·.1)).Nodup) :
  Rep ι (Foot ι (delS S o)) w (.map (some b)) (.kmap kes') := by
 obtain ⟨ces, h1, h2, h3⟩ := hwf.rep o _ b ho hb
 rw [inord_len] at h2
 obtain ⟨σ, s1, s2, s3, s4⟩ := perm_idx hp
 have hl := hp.length_eq
 have hst := drop_step S (delS S o) (delS_sub S o) ι w
 have hent : ∀ (j : Nat) (e : MapEntry), ces[j]? = some e → ∃ p, kes[j]? = some p ∧ kes'[σ j]? = some p ∧ e.born = j ∧ Rep ι (Foot ι S) w e.key p.1 ∧ Rep ι (Foot ι S) w e.val p.2 := by
  intro j e he
  have hj : j < kes.length := by have := (Array.getElem?_eq_some_iff.1 he).1; omega
  have hg : (inord kes)[j]? = some (j, kes[j]) := by rw [inord_get]; simp [hj]
  obtain ⟨k1, k2, k3⟩ := h3 j e _ he hg
  exact ⟨kes[j], by simp [hj], by rw [s4 j hj]; simp [hj], k1, k2, k3⟩
 rw [hl] at s1 s2 s3
 refine .kmap σ (by rw [h1, h2]) ?_ (by omega) s1 s2 s3 (fun j e he => ?_) (fun i j e e' he he' heq => ?_) (fun j e p he hp' => ?_) (fun j e p he hp' => ?_)
 ·rintro off ⟨q, ob, k1, k2, k3⟩
  have hq : q ≠ o := by
   intro e
   simp [delS, e] at k1
  exact hq (hwf.inj q o ob _ b (delS_sub S o q ob k1) ho k2 hb)
 ·obtain ⟨p, _, _, h, _⟩ := hent j e he; exact h
 ·obtain ⟨p, hp1, _, _, hr, _⟩ := hent i e he
  obtain ⟨q, hq1, _, _, hr', _⟩ := hent j e' he'
  rw [heq] at hr
  have hpq := key_eq hr hr' (hk _ (List.mem_of_getElem? hp1)) (hk _ (List.mem_of_getElem? hq1))
  refine nodup_get hnd (i := i) (j := j) (x := p.1) ?_ ?_
  ·rw [List.getElem?_map, hp1]; rfl
  ·rw [List.getElem?_map, hq1, hpq]; rfl
 ·obtain ⟨q, _, hq, _, hr, _⟩ := hent j e he
  rw [hq] at hp'; cases hp'; exact hr.step hst
 ·obtain ⟨q, _, hq, _, _, hr⟩ := hent j e he
  rw [hq] at hp'; cases hp'; exact hr.step hst
section
variable {f : FuncId} {args : List AV} {s : St} {K : AV → St → Prop}
theorem ACalls.recast [Glob] (h : ACalls P f args s fun r s' => ∃ r' S2, (∀ q ob, S2 q = some ob → s'.m q = some ob) ∧ (∀ ι w v, WF ι s'.m w → Rep ι (Foot ι s'.m) w v r → Rep ι (Foot ι S2) w v r') ∧ K r' ⟨S2, s'.nx⟩) : ACalls P f args s K := by
 refine ⟨h.1, fun ι w vs h1 h2 h3 => Calls.mono (h.2 ι w vs h1 h2 h3) ?_⟩
 rintro e w' ⟨v, r, s', ι', k1, k2, k3, k4, k5, k6, r', S2, hS, hr, hk⟩
 exact ⟨v, r', ⟨S2, s'.nx⟩, ι', k1, k2.trans (drop_step s'.m S2 hS ι' w'), k3.drop hS, ⟨fun q ob hq => k4.lt q ob (hS q ob hq), k4.ilt⟩, k5, hr ι' w' v k3 k6, hk⟩
def FrzM (K : AV → St → Prop) (r : AV) (s' : St) : Prop := ∃ o kes kes', r = .map o ∧ s'.m o = some (.map (inord kes) kes.length) ∧ kes.Perm kes' ∧ (∀ p ∈ kes, keyAV p.1) ∧ (kes.map (·.1)).Nodup ∧ K (.kmap kes') (s'.del o)
theorem ACalls.frzMap [Glob] (h : ACalls P f args s (FrzM K)) : ACalls P f args s K := by
 refine ACalls.recast (ACalls.mono h fun r s' hn hh => ?_)
 obtain ⟨o, kes, kes', rfl, ho, hp, hk, hnd, hK⟩ := hh
 refine ⟨.kmap kes', (s'.del o).m, delS_sub s'.m o, fun ι w v hwf hv => ?_, hK⟩
 obtain ⟨b, hb, rfl⟩ := rep_map hv
 exact frz_rep hwf ho hb hp hk hnd
def FrzN (x : AV) (K : AV → St → Prop) (r : AV) (s' : St) : Prop := ∃ o kes kes', r = .agg [x, .map o] ∧ s'.m o = some (.map (inord kes) kes.length) ∧ kes.Perm kes' ∧ (∀ p ∈ kes, keyAV p.1) ∧ (kes.map (·.1)).Nodup ∧ K (.agg [x, .kmap kes']) (s'.del o)
theorem ACalls.frzNeed [Glob] {x : AV} (hx : ∀ (ι ι' : Nat → Option Nat) (F F' : Nat → Nat → Prop) w v, Rep ι F w v x → Rep ι' F' w v x) (h : ACalls P f args s (FrzN x K)) : ACalls P f args s K := by
 refine ACalls.recast (ACalls.mono h fun r s' hn hh => ?_)
 obtain ⟨o, kes, kes', rfl, ho, hp, hk, hnd, hK⟩ := hh
 refine ⟨.agg [x, .kmap kes'], (s'.del o).m, delS_sub s'.m o, fun ι w v hwf hv => ?_, hK⟩
 cases hv with
 | agg hl hc hr =>
  refine .agg hl hc fun j u y hu hy => ?_
  match j with
  | 0 =>
   simp at hy; subst hy
   exact hx _ _ _ _ _ _ (hr 0 u _ hu rfl)
  | 1 =>
   simp at hy; subst hy
   obtain ⟨b, hb, rfl⟩ := rep_map (hr 1 u _ hu rfl)
   exact frz_rep hwf ho hb hp hk hnd
  | j + 2 => simp at hy
end
def isetK (l : List Int) : List (AV × AV) := l.map fun k => (.int .i64 k, .bool true)
theorem imapF_inord : ∀ (l : List Int) (i : Nat), imapF i l = (isetK l).mapIdx fun j p => (i + j, p)
 | [], i => rfl
 | a :: r, i => by
  simp only [imapF, isetK, List.map_cons, List.mapIdx_cons]
  rw [imapF_inord r (i + 1)]
  simp only [isetK, Nat.add_zero]
  congr 2
  funext j p
  congr 1
  omega
theorem obS_inord [Glob] (l : List Int) : obS l = .map (inord (isetK l)) (isetK l).length := by
 rw [obS, imapF_inord, inord]
 simp [isetK]
theorem isetK_key (l : List Int) : ∀ p ∈ isetK l, keyAV p.1 := by
 intro p hp
 simp only [isetK, List.mem_map] at hp
 obtain ⟨k, _, rfl⟩ := hp
 trivial
theorem isetK_nodup {l : List Int} (h : l.Nodup) : ((isetK l).map (·.1)).Nodup := by
 simp only [isetK, List.map_map]
 exact List.Pairwise.map _ (fun a b h => by simpa using h) h
theorem isetK_perm {a b : List Int} (h : a.Perm b) : (isetK a).Perm (isetK b) := h.map _
def entsA (l : List Int) : Array MapEntry := (l.mapIdx fun j k => (⟨.int .i64 k, .bool true, j⟩ : MapEntry)).toArray
theorem obS_ents [Glob] {b : Nat} {l : List Int} (h : ObjRep ι F w b (obS l)) : w.heap[b]? = some (.map (entsA l) l.length) := by
 rw [obS_inord] at h
 obtain ⟨ces, h1, h2, h3⟩ := h
 rw [h1]
 have hil : (isetK l).length = l.length := by simp [isetK]
 rw [inord_len] at h2
 have : ces = entsA l := by
  apply Array.ext_getElem?
  intro j
  by_cases hj : j < l.length
  ·have hjc : j < ces.size := by omega
   have hp : (inord (isetK l))[j]? = some (j, .int .i64 l[j], .bool true) := by rw [inord_get]; simp [isetK, hj]
   obtain ⟨k1, k2, k3⟩ := h3 j ces[j] _ (by simp [hjc]) hp
   have e : ces[j] = ⟨.int .i64 l[j], .bool true, j⟩ := by
    generalize ces[j] = e at k1 k2 k3
    obtain ⟨a, b, c⟩ := e
    simp only at k1 k2 k3
    have := rep_int k2
    have := rep_bool k3
    simp [*]
   simp [hjc, e, entsA, hj]
  ·have hjc : ¬ j < ces.size := by omega
   simp [entsA, hj, hjc]
 rw [this, hil]
theorem ents_obS [Glob] {b : Nat} {l : List Int} (h : w.heap[b]? = some (.map (entsA l) l.length)) : ObjRep ι F w b (obS l) := by
 rw [obS_inord]
 have hil : (isetK l).length = l.length := by simp [isetK]
 refine ⟨entsA l, by rw [h, hil], by simp [entsA, inord_len, hil], fun j e p he hp => ?_⟩
 rw [inord_get] at hp
 have hj : j < l.length := by have := (Array.getElem?_eq_some_iff.1 he).1; simpa [entsA] using this
 simp [entsA, hj] at he
 simp [isetK, hj] at hp
 subst he hp
 exact ⟨rfl, .int _ _, .bool _⟩
theorem kmap_inv [Glob] {v : Value} {l : List Int} (h : Rep ι F w v (.kmap (isetK l))) : ∃ b l', v = .map (some b) ∧ l'.Perm l ∧ w.heap[b]? = some (.map (entsA l') l'.length) ∧ ∀ off, ¬ F b off := by
 cases h with
 | @kmap b ces _ σ h1 hf hsz hσ hinj hsur hborn hnd hkk hvv =>
  have hil : (isetK l).length = l.length := by simp [isetK]
  rw [hil] at hsz hσ hinj hsur
  refine ⟨b, (List.range l.length).map fun j => l.getD (σ j) 0, rfl, ?_, ?_, hf⟩
  ·have e : ((List.range l.length).map σ).Perm (List.range l.length) := by
    rw [List.perm_ext_iff_of_nodup ?_ List.nodup_range]
    ·intro i
     simp only [List.mem_map, List.mem_range]
     constructor
     ·rintro ⟨j, hj, rfl⟩; exact hσ j hj
     ·intro hi; exact hsur i hi
    ·unfold List.Nodup
     rw [List.pairwise_map]
     refine List.Pairwise.imp_of_mem (fun {a b} ha hb hab e => ?_) List.nodup_range
     exact hab (hinj a b (by simpa using ha) (by simpa using hb) e)
   have e2 := e.map fun j => l.getD j 0
   rw [List.map_map] at e2
   have e3 : (List.range l.length).map (fun j => l.getD j 0) = l := by
    apply List.ext_getElem
    ·simp
    ·intro i h1 h2; simp [h2]
   rw [e3] at e2
   exact e2
  ·rw [h1]
   have : ces = entsA ((List.range l.length).map fun j => l.getD (σ j) 0) := by
    apply Array.ext_getElem?
    intro j
    by_cases hj : j < l.length
    ·have hjc : j < ces.size := by omega
     have hsj := hσ j hj
     have hp : (isetK l)[σ j]? = some (.int .i64 l[σ j], .bool true) := by simp [isetK, hsj]
     have k1 := hborn j ces[j] (by simp [hjc])
     have k2 := hkk j ces[j] _ (by simp [hjc]) hp
     have k3 := hvv j ces[j] _ (by simp [hjc]) hp
     have e : ces[j] = ⟨.int .i64 l[σ j], .bool true, j⟩ := by
      generalize ces[j] = e at k1 k2 k3
      obtain ⟨a, b, c⟩ := e
      simp only at k1 k2 k3
      have := rep_int k2
      have := rep_bool k3
      simp [*]
     simp [hjc, e, entsA, hj, hsj]
    ·have hjc : ¬ j < ces.size := by omega
     simp [entsA, hj, hjc]
   rw [this]
   simp [entsA]
theorem kmap_intro [Glob] {b : Nat} {l' lr : List Int} (hh : w.heap[b]? = some (.map (entsA l') l'.length)) (hnd : l'.Nodup) (hp : l'.Perm lr) (hf : ∀ off, ¬ F b off) : Rep ι F w (.map (some b)) (.kmap (isetK lr)) := by
 obtain ⟨σ, s1, s2, s3, s4⟩ := perm_idx (isetK_perm hp)
 have hil : ∀ l : List Int, (isetK l).length = l.length := fun l => by simp [isetK]
 have hl : (isetK l').length = (isetK lr).length := (isetK_perm hp).length_eq
 rw [hl] at s1 s2 s3 s4
 have hsz : (entsA l').size = l'.length := by simp [entsA]
 have hent : ∀ (j : Nat) (e : MapEntry), (entsA l')[j]? = some e → ∃ k, l'[j]? = some k ∧ e = ⟨.int .i64 k, .bool true, j⟩ ∧ (isetK lr)[σ j]? = some (.int .i64 k, .bool true) := by
  intro j e he
  have hj : j < l'.length := by have := (Array.getElem?_eq_some_iff.1 he).1; omega
  simp [entsA, hj] at he
  refine ⟨l'[j], by simp [hj], he.symm, ?_⟩
  rw [s4 j (by rw [← hl, hil]; exact hj)]
  simp [isetK, hj]
 refine .kmap σ (by rw [hh, hsz]) hf (by rw [hsz, ← hl, hil]) s1 s2 s3 (fun j e he => ?_) (fun i j e e' he he' heq => ?_) (fun j e p he hp' => ?_) (fun j e p he hp' => ?_)
 ·obtain ⟨k, _, rfl, _⟩ := hent j e he; rfl
 ·obtain ⟨k, h1, rfl, _⟩ := hent i e he
  obtain ⟨k', h1', rfl, _⟩ := hent j e' he'
  simp only [Value.int.injEq, true_and] at heq
  subst heq
  exact nodup_get hnd h1 h1'
 ·obtain ⟨k, _, rfl, h⟩ := hent j e he
  rw [h] at hp'; cases hp'; exact .int _ _
 ·obtain ⟨k, _, rfl, h⟩ := hent j e he
  rw [h] at hp'; cases hp'; exact .bool _
def GlobOK [Glob] : Prop := ∀ g x, Glob.gt g = some x → ∀ (ι ι' : Nat → Option Nat) (F F' : Nat → Nat → Prop) w v, Rep ι F w v x → (∀ b off, F' b off → ∃ l : List Int, w.heap[b]? = some (.map (entsA l) l.length)) → Rep ι' F' w v x
theorem thaw [Glob] {f : FuncId} {Ak : List AV} {A : Nat → Nat → List AV} {l1 l2 lr : List Int} {x : AV} (hG : GlobOK) (hcb : Callable P f) (hx : x.isVal = true) (hx1 : ∀ (ι ι' : Nat → Option Nat) (F F' : Nat → Nat → Prop) w v, Rep ι F w v x → Rep ι' F' w v x)
  (hA : ∀ (ι : Nat → Option Nat) (F : Nat → Nat → Prop) w vs, RepL ι F w vs Ak → ∃ v1 v2, Rep ι F w v1 (.kmap (isetK l1)) ∧ Rep ι F w v2 (.kmap (isetK l2)) ∧
   ∀ (ι' : Nat → Option Nat) (F' : Nat → Nat → Prop) o1 o2, Rep ι' F' w v1 (.map o1) → Rep ι' F' w v2 (.map o2) → RepL ι' F' w vs (A o1 o2))
  (h : ∀ o1 o2 l1' l2' s, l1'.Perm l1 → l2'.Perm l2 → o1 < s.nx → o2 < s.nx → s.m o1 = some (obS l1') → s.m o2 = some (obS l2') → ACalls P f (A o1 o2) s fun r s' => ∃ o' l', r = .agg [x, .map o'] ∧ s.nx ≤ o' ∧ s'.m o' = some (obS l') ∧ l'.Perm lr ∧ l'.Nodup ∧ s'.m o1 = some (obS l1') ∧ s'.m o2 = some (obS l2')) :
  PureC P f Ak (.agg [x, .kmap (isetK lr)]) := by
 intro s
 refine ⟨hcb, fun ι w vs hwf hbnd hvs => ?_⟩
 obtain ⟨v1, v2, hv1, hv2, hvA⟩ := hA ι _ w vs hvs
 obtain ⟨b1, l1', rfl, hp1, hh1, hf1⟩ := kmap_inv hv1
 obtain ⟨b2, l2', rfl, hp2, hh2, hf2⟩ := kmap_inv hv2
 have hb1 : b1 < w.heap.size := (Array.getElem?_eq_some_iff.1 hh1).1
 have hb2 : b2 < w.heap.size := (Array.getElem?_eq_some_iff.1 hh2).1
 -- the numbers of the two, above all others; one if they are one
 obtain ⟨o1, ho1⟩ : ∃ o, o = s.nx := ⟨_, rfl⟩
 obtain ⟨o2, ho2⟩ : ∃ o, o = if b2 = b1 then s.nx else s.nx + 1 := ⟨_, rfl⟩
 have ho12 : o1 = o2 ↔ b2 = b1 := by
  rw [ho1, ho2]
  split
  ·simp [*]
  ·constructor
   ·intro h; omega
   ·intro h; contradiction
 have hl12 : b2 = b1 → obS l2' = obS l1' := by
  intro e
  subst e
  rw [hh1] at hh2
  injection hh2 with e
  injection e with e1 e2
  have : l1' = l2' := by
   apply List.ext_getElem e2
   intro j k1 k2
   have := congrArg (fun (a : Array MapEntry) => (a[j]?).map (·.key)) e1
   simpa [entsA, k1, k2] using this
  rw [this]
 let ι1 : Nat → Option Nat := fun q => if q = o1 then some b1 else if q = o2 then some b2 else ι q
 let S1 : Store := fun q => if q = o1 then some (obS l1') else if q = o2 then some (obS l2') else none
 have hι1 : ι1 o1 = some b1 := by simp [ι1]
 have hι2 : ι1 o2 = some b2 := by
  by_cases e : o2 = o1
  ·have := ho12.1 e.symm; simp [ι1, e, this]
  ·simp [ι1, e]
 have hS1 : S1 o1 = some (obS l1') := by simp [S1]
 have hS2 : S1 o2 = some (obS l2') := by
  by_cases e : o2 = o1
  ·have := hl12 (ho12.1 e.symm); simp [S1, e, this]
  ·simp [S1, e]
 have hSonly : ∀ q ob, S1 q = some ob → (q = o1 ∨ q = o2) := by
  intro q ob hq
  simp only [S1] at hq
  split at hq
  ·exact .inl (by assumption)
  ·split at hq
   ·exact .inr (by assumption)
   ·cases hq
 have hge : s.nx ≤ o1 ∧ s.nx ≤ o2 ∧ o1 < s.nx + 2 ∧ o2 < s.nx + 2 := by
  rw [ho1, ho2]; split <;> omega
 have hext : ∀ q b, ι q = some b → ι1 q = some b := by
  intro q b hq
  have := hbnd.ilt q b hq
  have h1 : q ≠ o1 := by omega
  have h2 : q ≠ o2 := by omega
  simp [ι1, h1, h2, hq]
 have hfoot1 : ∀ b off, Foot ι1 S1 b off → b = b1 ∨ b = b2 := by
  rintro b off ⟨q, ob, k1, k2, _⟩
  rcases hSonly q ob k1 with rfl | rfl
  ·rw [hι1] at k2; cases k2; exact .inl rfl
  ·rw [hι2] at k2; cases k2; exact .inr rfl
 have hblk1 : ∀ b, Blk ι1 S1 b → b = b1 ∨ b = b2 := by
  rintro b ⟨q, ob, k1, k2⟩
  rcases hSonly q ob k1 with rfl | rfl
  ·rw [hι1] at k2; cases k2; exact .inl rfl
  ·rw [hι2] at k2; cases k2; exact .inr rfl
 have hwf1 : WF ι1 S1 w := by
  refine ⟨fun q b hq => ?_, fun q q' ob ob' b k1 k2 k3 k4 => ?_, fun q ob b k1 k2 => ?_, fun g x hg => hG g x hg _ _ _ _ _ _ (hwf.laid g x hg) fun b off hf => ?_⟩
  ·simp only [ι1] at hq
   split at hq
   ·cases hq; exact hb1
   ·split at hq
    ·cases hq; exact hb2
    ·exact hwf.blt q b hq
  ·rcases hSonly q ob k1 with rfl | rfl <;> rcases hSonly q' ob' k2 with h' | h' <;> subst h' <;> try rfl
   ·rw [hι1] at k3; rw [hι2] at k4; cases k3; cases k4; exact ho12.2 rfl
   ·rw [hι2] at k3; rw [hι1] at k4; cases k3; cases k4; exact (ho12.2 rfl).symm
  ·rcases hSonly q ob k1 with rfl | rfl
   ·rw [hS1] at k1; rw [hι1] at k2; cases k1; cases k2; exact ents_obS hh1
   ·rw [hS2] at k1; rw [hι2] at k2; cases k1; cases k2; exact ents_obS hh2
  ·rcases hfoot1 b off hf with rfl | rfl
   ·exact ⟨_, hh1⟩
   ·exact ⟨_, hh2⟩
 have hbnd1 : Bnd ι1 S1 (s.nx + 2) := by
  refine ⟨fun q ob hq => ?_, fun q b hq => ?_⟩
  ·rcases hSonly q ob hq with rfl | rfl <;> omega
  ·simp only [ι1] at hq
   split at hq
   ·omega
   ·split at hq
    ·omega
    ·have := hbnd.ilt q b hq; omega
 refine Calls.mono ((h o1 o2 l1' l2' ⟨S1, s.nx + 2⟩ hp1 hp2 hge.2.2.1 hge.2.2.2 hS1 hS2).2 ι1 w vs hwf1 hbnd1 (hvA ι1 _ o1 o2 (.map hι1) (.map hι2))) ?_
 rintro e w' ⟨v, r, s', ι', rfl, hst, hwf', hbnd', hinc, hrep, o', l', rfl, ho', hSo', hperm, hnd', hk1, hk2⟩
 have hsame : ∀ b, b < w.heap.size → w'.heap[b]? = w.heap[b]? := by
  intro b hb
  by_cases e1 : b = b1
  ·subst e1
   rw [obS_ents (hwf'.rep o1 _ _ hk1 (hst.ext _ _ hι1)), hh1]
  ·by_cases e2 : b = b2
   ·subst e2
    rw [obS_ents (hwf'.rep o2 _ _ hk2 (hst.ext _ _ hι2)), hh2]
   ·exact hst.blk b hb fun hk => (hblk1 b hk).elim e1 e2
 have hstep : Step ι s.m w ι s.m w' := grow_step hst.size hst.os hst.tape hst.output hsame (fun _ _ h => h) (fun _ _ _ h => h) (fun _ _ h => h)
 refine ⟨v, .agg [x, .kmap (isetK lr)], s, ι, rfl, hstep, hwf.of_step hstep (fun q b hq => Nat.lt_of_lt_of_le (hwf.blt q b hq) hst.size) hwf.inj (fun q ob b k1 k2 => .inl ⟨k1, k2, hsame b (hwf.blt q b k2)⟩), hbnd, Inc.refl _ _, ?_, rfl, fun _ _ => rfl⟩
 cases hrep with
 | agg hl hc hr =>
  refine .agg hl hc fun j u y hu hy => ?_
  match j with
  | 0 =>
   simp at hy; subst hy
   exact hx1 _ _ _ _ _ _ (hr 0 u _ hu rfl)
  | 1 =>
   simp at hy; subst hy
   obtain ⟨b', hb', rfl⟩ := rep_map (hr 1 u _ hu rfl)
   have hnew : ¬ b' < w.heap.size := by
    intro hlt
    have hB := hblk1 b' (hst.nblk b' hlt ⟨o', _, hSo', hb'⟩)
    rcases hB with rfl | rfl
    ·have := hwf'.inj o' o1 _ _ _ hSo' hk1 hb' (hst.ext _ _ hι1)
     simp only at ho'; omega
    ·have := hwf'.inj o' o2 _ _ _ hSo' hk2 hb' (hst.ext _ _ hι2)
     simp only at ho'; omega
   refine kmap_intro (obS_ents (hwf'.rep o' _ _ hSo' hb')) hnd' hperm ?_
   rintro off ⟨q, ob, _, k2, _⟩
   exact hnew (hwf.blt q _ k2)
  | j + 2 => simp at hy
def Plain (x : AV) : Prop := ∀ (ι ι' : Nat → Option Nat) (F F' : Nat → Nat → Prop) w v, Rep ι F w v x → Rep ι' F' w v x
theorem plain_int (k : IntKind) (n : Int) : Plain (.int k n) := fun _ _ _ _ _ _ h => by cases h; exact .int _ _
theorem plain_bool (b : Bool) : Plain (.bool b) := fun _ _ _ _ _ _ h => by cases h; exact .bool _
theorem plain_agg {l : List AV} (hl : ∀ x ∈ l, Plain x) : Plain (.agg l) := fun ι ι' F F' w v h => by
 cases h with
 | agg h1 h2 h3 => exact .agg h1 h2 fun j v x hv hx => hl x (List.mem_of_getElem? hx) _ _ _ _ _ _ (h3 j v x hv hx)
theorem borrow [Glob] {f : FuncId} {rest : List AV} {r : AV} {oa og : Nat} {kes : List (AV × AV)} {s : St} (h : PureC P f (.cptr [.kmap kes] :: rest) r) (hr : Plain r) (hoa : s.m oa = some (.box [.map og])) (hog : s.m og = some (.map (inord kes) kes.length))
  (hk : ∀ p ∈ kes, keyAV p.1) (hnd : (kes.map (·.1)).Nodup) : ACalls P f (.ptr oa 0 :: rest) s fun r' s' => r' = r ∧ ∀ q, q < s.nx → s'.m q = s.m q := by
 refine ⟨(h s).1, fun ι w vs hwf hbnd hvs => ?_⟩
 have hS0 : ∀ o obj, (fun _ => none : Store) o = some obj → s.m o = some obj := fun _ _ h => by cases h
 have hd := drop_step s.m (fun _ => none) hS0 ι w
 have hF0 : ∀ b off, ¬ Foot ι (fun _ => none) b off := by rintro b off ⟨q, ob, k1, _⟩; cases k1
 have hargs : RepL ι (Foot ι (fun _ => none)) w vs (.cptr [.kmap kes] :: rest) := by
  refine ⟨hvs.1, fun j v x hv hx => ?_⟩
  cases j with
  | succ j => exact (hvs.2 (j + 1) v x hv (by simpa using hx)).step hd
  | zero =>
   simp at hx
   subst hx
   have hp := hvs.2 0 v _ hv rfl
   cases hp with
   | @ptr _ b _ hb =>
    obtain ⟨cvs, e, h1, h2, h3, h4⟩ := hwf.rep oa _ b hoa hb
    have hc0 : 0 < cvs.size := by simp only [List.length_singleton] at h2; omega
    have hcell := h3 0 cvs[0] _ (by simp [hc0]) rfl
    obtain ⟨bg, hbg, hcv⟩ := rep_map hcell
    have hfr := frz_rep hwf hog hbg (List.Perm.refl _) hk hnd
    have hfr2 := hfr.step (S' := fun _ => none) (ι' := ι) (w' := w) (drop_step _ _ (fun _ _ h => by cases h) ι w)
    refine .cptr (fun _ => cvs[0]) rfl (fun j hj => ?_) (fun j x hx => ?_)
    ·simp at hj
     subst hj
     refine ⟨by simp [World.cell?, h1, hc0], hF0 _ _, ?_⟩
     rw [hcv]; rfl
    ·cases j with
     | zero => simp at hx; subst hx; rw [hcv]; exact hfr2
     | succ j => simp at hx
 refine Calls.mono ((h ⟨fun _ => none, s.nx⟩).2 ι w vs (hwf.drop hS0) ⟨fun _ _ h => (by cases h), hbnd.ilt⟩ hargs) ?_
 rintro e w' ⟨v, r', s', ι', rfl, hst, hwf', hbnd', hinc, hrep, rfl, _⟩
 have hsame : ∀ b, b < w.heap.size → w'.heap[b]? = w.heap[b]? := fun b hb => hst.blk b hb (by rintro ⟨q, ob, k1, _⟩; cases k1)
 have hstep : Step ι s.m w ι s.m w' := grow_step hst.size hst.os hst.tape hst.output hsame (fun _ _ h => h) (fun _ _ _ h => h) (fun _ _ h => h)
 exact ⟨v, r', s, ι, rfl, hstep, hwf.of_step hstep (fun q b hq => Nat.lt_of_lt_of_le (hwf.blt q b hq) hst.size) hwf.inj (fun q ob b k1 k2 => .inl ⟨k1, k2, hsame b (hwf.blt q b k2)⟩), hbnd, Inc.refl _ _, hr _ _ _ _ _ _ hrep, rfl, fun _ _ => rfl⟩
end Go.AL
namespace Go.AL.Dm
open Go Go.Proofs
theorem cell_not_map {w : World} {b off c : Nat} {v : Value} {ces : Array MapEntry} (h : w.cell? ⟨b, off, none⟩ = some v) (hm : w.heap[b]? = some (.map ces c)) : False := by
 simp [World.cell?, hm] at h
theorem rob_cptr {l : List AV} (hl : ∀ x ∈ l, ∀ (ι ι' : Nat → Option Nat) (F F' : Nat → Nat → Prop) w v, Rep ι F w v x → (∀ b off, F' b off → ∃ l : List Int, w.heap[b]? = some (.map (entsA l) l.length)) → Rep ι' F' w v x)
  (ι ι' : Nat → Option Nat) (F F' : Nat → Nat → Prop) (w : World) (v : Value) (h : Rep ι F w v (.cptr l)) (hF : ∀ b off, F' b off → ∃ l : List Int, w.heap[b]? = some (.map (entsA l) l.length)) : Rep ι' F' w v (.cptr l) := by
 cases h with
 | @cptr a _ cs ha hc hr =>
  refine .cptr cs ha (fun j hj => ?_) fun j x hx => hl x (List.mem_of_getElem? hx) _ _ _ _ _ _ (hr j x hx) hF
  obtain ⟨h1, h2, h3⟩ := hc j hj
  refine ⟨h1, fun hf => ?_, h3⟩
  obtain ⟨l, hl⟩ := hF _ _ hf
  exact cell_not_map h1 hl
theorem rob_cmap {es : List (Value × Value)} {p : Value × Value} (hp : p ∈ es) (hne : ∀ k, ¬ (p.1 = .int .i64 k ∧ p.2 = .bool true)) (ι ι' : Nat → Option Nat) (F F' : Nat → Nat → Prop) (w : World) (v : Value) (h : Rep ι F w v (.cmap es))
  (hF : ∀ b off, F' b off → ∃ l : List Int, w.heap[b]? = some (.map (entsA l) l.length)) : Rep ι' F' w v (.cmap es) := by
 cases h with
 | @cmap b clock ces _ h1 hf hin hout hnd =>
  refine .cmap h1 (fun off hf' => ?_) hin hout hnd
  obtain ⟨l, hl⟩ := hF _ _ hf'
  rw [h1] at hl
  injection hl with hl
  injection hl with e1 e2
  obtain ⟨j, e, he, k1, k2⟩ := hout p hp
  rw [e1] at he
  have hj : j < l.length := by have := (Array.getElem?_eq_some_iff.1 he).1; simpa [entsA] using this
  simp [entsA, hj] at he
  subst he
  exact hne _ ⟨k1.symm, k2.symm⟩
theorem globOK : GlobOK := by
 intro g x hg
 have hplain : ∀ {x : AV}, Plain x → ∀ (ι ι' : Nat → Option Nat) (F F' : Nat → Nat → Prop) w v, Rep ι F w v x → (∀ b off, F' b off → ∃ l : List Int, w.heap[b]? = some (.map (entsA l) l.length)) → Rep ι' F' w v x :=
  fun h ι ι' F F' w v hr _ => h _ _ _ _ _ _ hr
 match g, hg with
 | 0, hg =>
  cases hg
  refine rob_cptr fun x hx => ?_
  simp only [List.mem_singleton] at hx
  subst hx
  exact rob_cmap (p := es_shp.head (by simp [es_shp])) (List.head_mem _) (by intro k h; simp [es_shp] at h)
 | 1, hg =>
  cases hg
  refine rob_cptr fun x hx => ?_
  simp only [List.mem_singleton] at hx
  subst hx
  exact rob_cmap (p := es_ari.head (by simp [es_ari])) (List.head_mem _) (by intro k h; simp [es_ari] at h)
 | 2, hg =>
  cases hg
  refine rob_cptr fun x hx => ?_
  simp only [List.mem_singleton] at hx
  subst hx
  exact rob_cmap (p := es_pur.head (by simp [es_pur])) (List.head_mem _) (by intro k h; simp [es_pur] at h)
 | 3, hg =>
  cases hg
  refine rob_cptr fun x hx => hplain ?_
  have : ∃ n, x = .int .i64 n := by
   simp only [List.mem_cons, List.not_mem_nil, or_false] at hx
   rcases hx with rfl | rfl | rfl | rfl | rfl | rfl | rfl | rfl | rfl | rfl | rfl | rfl | rfl | rfl | rfl | rfl | rfl | rfl | rfl | rfl | rfl | rfl | rfl | rfl | rfl | rfl | rfl <;> exact ⟨_, rfl⟩
  obtain ⟨n, rfl⟩ := this
  exact plain_int _ _
 | n + 4, hg => cases hg
def ndv : ND → AV
 | none => .agg [.bool true, .nilmap]
 | some l => .agg [.bool false, .kmap (isetK l)]
@[simp] theorem isVal_kmap (es : List (AV × AV)) : (AV.kmap es).isVal = true := rfl
@[simp] theorem cells_kmap (es : List (AV × AV)) : (AV.kmap es).cells = [.kmap es] := rfl
@[simp] theorem isVal_map (o : Nat) : (AV.map o).isVal = true := rfl
@[simp] theorem cells_map (o : Nat) : (AV.map o).cells = [.map o] := rfl
@[simp] theorem isVal_nilmap : (AV.nilmap).isVal = true := rfl
@[simp] theorem cells_nilmap : (AV.nilmap).cells = [.nilmap] := rfl
theorem retNeed {l lr : List Int} {o : Nat} {s' : St} {K : AV → St → Prop} (ho : s'.m o = some (obS l)) (hnd : l.Nodup) (hp : l.Perm lr) (hK : K (ndv (some lr)) (s'.del o)) : FrzN (.bool false) K (.agg [.bool false, .map o]) s' :=
 ⟨o, isetK l, isetK lr, rfl, by rw [ho, obS_inord], isetK_perm hp, isetK_key l, isetK_nodup hnd, hK⟩
theorem p87 : PureC Tryz.prog 87 [] (ndv (some [])) := by
 refine PureC.intro fun s => ACalls.frzNeed (plain_bool false) (fun_sound mixed Tryz.func87 Tryz.call87 c87 rfl (awpFun_go _ _ _ _ ?_))
 simp -implicitDefEqProofs (disch:=first|omega|simp only[nx4]<;>omega|fail) [a87, a87b, a87r0, a87r1]
 refine retNeed (l := []) (lr := []) (by simp -implicitDefEqProofs (disch:=first|omega|simp only[nx4]<;>omega|fail) [obS, imapF]) (by simp) (List.Perm.refl _) ⟨wk_refl _, by simp -implicitDefEqProofs (disch:=first|omega|simp only[nx4]<;>omega|fail)⟩
theorem p164 : PureC Tryz.prog 164 [] (ndv none) := by
 refine PureC.intro fun s => fun_sound mixed Tryz.func164 Tryz.call164 c164 rfl (awpFun_go _ _ _ _ ?_)
 simp -implicitDefEqProofs (disch:=first|omega|simp only[nx4]<;>omega|fail) [a164, a164b, a164r0, a164r1, ndv]
theorem p122 (t : Pl) : PureC Tryz.prog 122 [t.av] (ndv (some [t.n])) := by
 refine PureC.intro fun s => ACalls.frzNeed (plain_bool false) (fun_sound mixed Tryz.func122 Tryz.call122 c122 rfl (awpFun_go _ _ _ _ ?_))
 simp -implicitDefEqProofs (disch:=first|omega|simp only[nx4]<;>omega|fail) [a122, a122b, a122r0, a122r1]
 simp -implicitDefEqProofs (disch:=first|omega|simp only[nx4]<;>omega|fail) [mfind, mapSet]
 refine retNeed (l := [t.n]) (lr := [t.n]) (by simp -implicitDefEqProofs (disch:=first|omega|simp only[nx4]<;>omega|fail) [obS, imapF]) (by simp) (List.Perm.refl _) ⟨wk_refl _, by simp -implicitDefEqProofs (disch:=first|omega|simp only[nx4]<;>omega|fail)⟩
theorem seen_step {l : List Int} {seen : List Nat} {j : Nat} (hsn : seen.Nodup) (hlt : ∀ k ∈ seen, k < l.length) (hj : j < l.length) (hj' : j ∉ seen) : (seen ++ [j]).Nodup ∧ (∀ k ∈ seen ++ [j], k < l.length) ∧ seen.length + 1 ≤ l.length := by
 have hsn' : (seen ++ [j]).Nodup := by
  rw [List.nodup_append]
  refine ⟨hsn, by simp, fun a ha b hb => ?_⟩
  simp at hb; subst hb
  exact fun e => hj' (e ▸ ha)
 have hlt' : ∀ k ∈ seen ++ [j], k < l.length := by
  intro k hk
  rcases List.mem_append.1 hk with h | h
  ·exact hlt k h
  ·simp at h; subst h; exact hj
 have := nodup_le hsn' hlt'
 simp only [List.length_append, List.length_singleton] at this
 exact ⟨hsn', hlt', this⟩
def vals (l : List Int) (seen : List Nat) : List Int := seen.map fun j => l.getD j 0
theorem vals_all {l : List Int} {seen : List Nat} (hsn : seen.Nodup) (hlt : ∀ k ∈ seen, k < l.length) (hall : ∀ j, j < l.length → j ∈ seen) {k : Int} : k ∈ vals l seen ↔ k ∈ l := (perm_seen l seen hsn hlt hall).mem_iff
theorem q87 (s : St) : ACalls Tryz.prog 87 [] s fun r s' => ∃ o, r = .agg [.bool false, .map o] ∧ s.nx ≤ o ∧ o < s'.nx ∧ s'.m o = some (obS []) ∧ Kept s s' := by
 refine fun_sound mixed Tryz.func87 Tryz.call87 c87 rfl (awpFun_go _ _ _ _ ?_)
 simp -implicitDefEqProofs (disch:=first|omega|simp only[nx4]<;>omega|fail) [a87, a87b, a87r0, a87r1]
 rfl
-- with: two walks
structure J165 (s : St) (l1 l2 : List Int) (o1 o2 on b5 : Nat) (out : List Int) (s1 : St) : Prop where
 bx : s1.m b5 = some (.box [.bool false, .map on])
 bo : s1.m on = some (obS out)
 m1 : s1.m o1 = some (obS l1)
 m2 : s1.m o2 = some (obS l2)
 rs : s1.m (s.nx + 1 + 1) = some (.box [.bool false, .nilmap])
 n1 : s.nx + 1 + 1 < on
 n2 : on < b5
 n3 : b5 < s1.nx
 nd : out.Nodup
def IA165 (s : St) (l1 l2 : List Int) (o1 o2 on b5 : Nat) (m : Nat) (g : Env) (s1 : St) : Prop :=
 ∃ (i : Nat) (out : List Int), i ≤ 2 ∧ m = 2 - i ∧ (∀ k, k ∈ out ↔ (0 < i ∧ k ∈ l1) ∨ (1 < i ∧ k ∈ l2)) ∧ g.get 21 = .list 1 .full [.map o1, .map o2] ∧ g.get 22 = .int .i64 2 ∧ g.get 23 = .int .i64 i ∧ g.get 4 = .ptr (s.nx + 1 + 1) 0 ∧ g.get 5 = .ptr b5 0 ∧ J165 s l1 l2 o1 o2 on b5 out s1
def IB165 (s : St) (l1 l2 : List Int) (o1 o2 on b5 i : Nat) (out0 l : List Int) (oq it : Nat) (m : Nat) (g : Env) (s1 : St) : Prop :=
 ∃ (seen : List Nat) (out : List Int), m = l.length - seen.length ∧ seen.Nodup ∧ (∀ j ∈ seen, j < l.length) ∧ (∀ k, k ∈ out ↔ k ∈ out0 ∨ k ∈ vals l seen) ∧ g.get 21 = .list 1 .full [.map o1, .map o2] ∧ g.get 22 = .int .i64 2 ∧ g.get 23 = .int .i64 i ∧ g.get 4 = .ptr (s.nx + 1 + 1) 0 ∧ g.get 5 = .ptr b5 0 ∧
  g.get 28 = .ptr it 0 ∧ s1.m it = some (.iter (some oq) l.length seen l.length) ∧ s1.m oq = some (obS l) ∧ b5 < it ∧ it < s1.nx ∧ J165 s l1 l2 o1 o2 on b5 out s1
theorem q165 (l1 l2 : List Int) (o1 o2 : Nat) (s : St) (h1 : o1 < s.nx) (h2 : o2 < s.nx) (hm1 : s.m o1 = some (obS l1)) (hm2 : s.m o2 = some (obS l2)) :
  ACalls Tryz.prog 165 [.agg [.bool false, .map o1], .agg [.bool false, .map o2]] s fun r s' => ∃ o' l', r = .agg [.bool false, .map o'] ∧ s.nx ≤ o' ∧ s'.m o' = some (obS l') ∧ l'.Nodup ∧ (∀ k, k ∈ l' ↔ k ∈ l1 ∨ k ∈ l2) ∧ s'.m o1 = some (obS l1) ∧ s'.m o2 = some (obS l2) := by
 refine fun_sound mixed Tryz.func165 Tryz.call165 c165 rfl (awpFun_go _ _ _ _ ?_)
 simp -implicitDefEqProofs (disch:=first|omega|simp only[nx4]<;>omega|fail) [a165, a165b, a165r0, a165r1, a165r3]
 refine go_calls (ACalls.mono (q87 _) fun r s2 hn2 h => go_of ?_)
 obtain ⟨on, rfl, n1, n2, hon, hk2⟩ := h
 simp -implicitDefEqProofs (disch:=first|omega|simp only[nx4]<;>omega|fail) at n1 hn2
 have k0 := hk2 s.nx (by simp -implicitDefEqProofs (disch:=first|omega|simp only[nx4]<;>omega|fail); omega)
 have k1 := hk2 (s.nx + 1) (by simp -implicitDefEqProofs (disch:=first|omega|simp only[nx4]<;>omega|fail))
 have k2 := hk2 (s.nx + 1 + 1) (by simp -implicitDefEqProofs (disch:=first|omega|simp only[nx4]<;>omega|fail))
 have k3 := hk2 o1 (by simp -implicitDefEqProofs (disch:=first|omega|simp only[nx4]<;>omega|fail); omega)
 have k4 := hk2 o2 (by simp -implicitDefEqProofs (disch:=first|omega|simp only[nx4]<;>omega|fail); omega)
 simp -implicitDefEqProofs (disch:=first|omega|simp only[nx4]<;>omega|fail) at k0 k1 k2 k3 k4
 simp -implicitDefEqProofs (disch:=first|omega|simp only[nx4]<;>omega|fail) [a165r4, k0, k1, k2]
 refine go_loop (IA165 s l1 l2 o1 o2 on s2.nx) 2 ⟨0, [], by omega, by omega, by simp, ?_, ?_, ?_, ?_, ?_, ?_, ?_, ?_, ?_, ?_, ?_, ?_, ?_, ?_⟩ ?_
 all_goals (try simp -implicitDefEqProofs (disch:=first|omega|simp only[nx4]<;>omega|fail) [k3, k4, hm1, hm2, hon, k2])
 all_goals (try omega)
 rintro m g s3 ⟨i, out, hi, rfl, hout, e21, e22, e23, e4, e5, J⟩
 by_cases hlt : i < 2
 ·have hlt' : (i : Int) < 2 := by omega
  obtain ⟨l, oq, hq, hO, hoq, hmem⟩ : ∃ l oq, (∀ h, [AV.map o1, AV.map o2][i]'h = .map oq) ∧ s3.m oq = some (obS l) ∧ oq < s.nx ∧ ∀ k, (k ∈ out ∨ k ∈ l) ↔ (0 < i + 1 ∧ k ∈ l1) ∨ (1 < i + 1 ∧ k ∈ l2) := by
   match i, hlt with
   | 0, _ => exact ⟨l1, o1, fun _ => rfl, J.m1, h1, fun k => by rw [hout]; simp⟩
   | 1, _ => exact ⟨l2, o2, fun _ => rfl, J.m2, h2, fun k => by rw [hout]; simp⟩
  have hO' : s3.m oq = some (.map (imapF 0 l) l.length) := hO
  have J3 := J.n3
  have J2 := J.n2
  have J1 := J.n1
  simp -implicitDefEqProofs (disch:=first|omega|simp only[nx4]<;>omega|fail) [a165l13, a165r5, a165r6, a165r7, e21, e22, e23, hlt', hq, hO']
  refine go_loop (IB165 s l1 l2 o1 o2 on s2.nx i out l oq s3.nx) l.length ⟨[], out, by simp, by simp, by simp, by simp [vals], ?_, ?_, ?_, ?_, ?_, ?_, ?_, ?_, ?_, ?_, ⟨?_, ?_, ?_, ?_, ?_, ?_, ?_, ?_, J.nd⟩⟩ ?_
  all_goals (try simp -implicitDefEqProofs (disch:=first|omega|simp only[nx4]<;>omega|fail) [e21, e22, e23, e4, e5, hO, J.bx, J.bo, J.m1, J.m2, J.rs])
  all_goals (try omega)
  clear e21 e22 e23 e4 e5 J hO hO'
  rintro m g s4 ⟨seen, out2, rfl, hsn, hlts, hmo, e21, e22, e23, e4, e5, e28, hIT, hO, hb1, hb2, J⟩
  have hO' : s4.m oq = some (.map (imapF 0 l) l.length) := hO
  have hsle : seen.length ≤ l.length := nodup_le hsn hlts
  simp -implicitDefEqProofs (disch:=first|omega|simp only[nx4]<;>omega|fail) [a165l11, a165r8, e28, hIT, hO']
  refine nx_intro ?_ (fun hall => ?_) (fun e he hes => ?_)
  ·cases l with
   | nil => exact .inr (.inl rfl)
   | cons a r => exact .inr (.inr ⟨_, by rw [imapF]; exact List.mem_cons_self .., by simp⟩)
  ·have hva := fun k => vals_all (k := k) hsn hlts (fun j hj => by simpa using hall _ (in_imapF l 0 j hj) (by simpa using hj))
   have w3 := wrapS (i := i) (by omega)
   simp -implicitDefEqProofs (disch:=first|omega|simp only[nx4]<;>omega|fail) [a165r12, e23, w3]
   refine go_next (2 - (i + 1)) (by omega) ⟨i + 1, out2, by omega, rfl, fun k => ?_, ?_, ?_, ?_, ?_, ?_, ⟨?_, ?_, ?_, ?_, ?_, ?_, ?_, ?_, J.nd⟩⟩
   ·rw [hmo, hva]; exact hmem k
   all_goals (try simp -implicitDefEqProofs (disch:=first|omega|simp only[nx4]<;>omega|fail) [e21, e22, e4, e5, J.bx, J.bo, J.m1, J.m2, J.rs])
   all_goals (try omega)
  ·obtain ⟨j, hj, rfl⟩ := mem_imapF l 0 e he
   have hj' : j ∉ seen := by simpa using hes
   have hf := find_imapF l 0 j hj
   simp only [Nat.zero_add] at hf ⊢
   obtain ⟨hsn', hlt2, hle'⟩ := seen_step hsn hlts hj hj'
   simp -implicitDefEqProofs (disch:=first|omega|simp only[nx4]<;>omega|fail) [a165r9, e28, hO']
   refine en_intro (st := j) (by simp) rfl hf ?_
   simp -implicitDefEqProofs (disch:=first|omega|simp only[nx4]<;>omega|fail) [a165r10, e5, J.bx, J.bo]
   refine up_set _ _ _ _ _ ?_
   have hgd : l[j] = l.getD j 0 := by simp [hj]
   simp -implicitDefEqProofs (disch:=first|omega|simp only[nx4]<;>omega|fail)
   refine go_next (l.length - (seen.length + 1)) (by omega) ⟨seen ++ [j], ains out2 l[j], by simp, hsn', hlt2, fun k => ?_, ?_, ?_, ?_, ?_, ?_, ?_, ?_, ?_, ?_, ?_, ⟨?_, ?_, ?_, ?_, ?_, ?_, ?_, ?_, ains_nodup J.nd _⟩⟩
   ·rw [mem_ains, hmo, or_assoc, hgd]
    simp [vals]
   all_goals (try simp -implicitDefEqProofs (disch:=first|omega|simp only[nx4]<;>omega|fail) [e21, e22, e23, e4, e5, e28, hO, J.bx, J.bo, J.m1, J.m2, J.rs])
   all_goals (try omega)
 ·have hlt' : ¬ (i : Int) < 2 := by omega
  have J3 := J.n3
  have J2 := J.n2
  have J1 := J.n1
  obtain rfl : i = 2 := by omega
  simp -implicitDefEqProofs (disch:=first|omega|simp only[nx4]<;>omega|fail) [a165l13, a165r5, e21, e22, e23, hlt', a165r14, e4, e5, J.bx, J.rs]
  exact ⟨by omega, out, J.bo, J.nd, fun k => by rw [hout]; simp, J.m1, J.m2⟩
theorem perm_of_mem {a b : List Int} (ha : a.Nodup) (hb : b.Nodup) (h : ∀ k, k ∈ a ↔ k ∈ b) : a.Perm b := (List.perm_ext_iff_of_nodup ha hb).2 h
theorem need_inv {ι : Nat → Option Nat} {F : Nat → Nat → Prop} {w : World} {v : Value} {x : AV} (h : Rep ι F w v (.agg [.bool false, x])) :
  ∃ u, Rep ι F w u x ∧ ∀ (ι' : Nat → Option Nat) (F' : Nat → Nat → Prop) y, Rep ι' F' w u y → Rep ι' F' w v (.agg [.bool false, y]) := by
 cases h with
 | @agg vs _ hl hc hr =>
  simp only [List.length_cons, List.length_nil] at hl
  have h1 : 1 < vs.size := by omega
  refine ⟨vs[1], hr 1 _ _ (by simp [h1]) rfl, fun ι' F' y hy => .agg hl hc fun j u z hu hz => ?_⟩
  match j with
  | 0 =>
   simp at hz; subst hz
   exact plain_bool false _ _ _ _ _ _ (hr 0 u _ hu rfl)
  | 1 =>
   simp at hz; subst hz
   simp [h1] at hu; subst hu
   exact hy
  | j + 2 => simp at hz
theorem repL_two {ι : Nat → Option Nat} {F : Nat → Nat → Prop} {w : World} {vs : Array Value} {x y : AV} (h : RepL ι F w vs [x, y]) :
  ∃ u v, Rep ι F w u x ∧ Rep ι F w v y ∧ ∀ (ι' : Nat → Option Nat) (F' : Nat → Nat → Prop) x' y', Rep ι' F' w u x' → Rep ι' F' w v y' → RepL ι' F' w vs [x', y'] := by
 have hl := h.1
 simp only [List.length_cons, List.length_nil] at hl
 have h0 : 0 < vs.size := by omega
 have h1 : 1 < vs.size := by omega
 refine ⟨vs[0], vs[1], h.2 0 _ _ (by simp [h0]) rfl, h.2 1 _ _ (by simp [h1]) rfl, fun ι' F' x' y' hx hy => ⟨hl, fun j v z hv hz => ?_⟩⟩
 match j with
 | 0 =>
  simp at hz; subst hz
  simp [h0] at hv; subst hv; exact hx
 | 1 =>
  simp at hz; subst hz
  simp [h1] at hv; subst hv; exact hy
 | j + 2 => simp at hz
theorem p165 (x y : ND) (hx : x.ok) (hy : y.ok) : PureC Tryz.prog 165 [ndv x, ndv y] (ndv (nWith x y)) := by
 have en : ndv none = .agg [.bool true, .nilmap] := rfl
 cases x with
 | none =>
  refine PureC.intro fun s => fun_sound mixed Tryz.func165 Tryz.call165 c165 rfl (awpFun_go _ _ _ _ ?_)
  cases y
  all_goals
   simp -implicitDefEqProofs (disch:=first|omega|simp only[nx4]<;>omega|fail) [a165, a165b, a165r0, a165r1, ndv, nWith]
   refine go_pure p164 fun mm2 hm2 => ?_
   try simp only [nx4] at hm2
   simp -implicitDefEqProofs (disch:=first|omega|simp only[nx4]<;>omega|fail) [a165r2, ndv]
 | some l1 =>
  cases y with
  | none =>
   refine PureC.intro fun s => fun_sound mixed Tryz.func165 Tryz.call165 c165 rfl (awpFun_go _ _ _ _ ?_)
   simp -implicitDefEqProofs (disch:=first|omega|simp only[nx4]<;>omega|fail) [a165, a165b, a165r0, a165r1, ndv, nWith]
   refine go_pure p164 fun mm3 hm3 => ?_
   try simp only [nx4] at hm3
   simp -implicitDefEqProofs (disch:=first|omega|simp only[nx4]<;>omega|fail) [a165r2, ndv]
  | some l2 =>
   refine thaw (l1 := l1) (l2 := l2) (A := fun o1 o2 => [.agg [.bool false, .map o1], .agg [.bool false, .map o2]]) globOK Tryz.call165 rfl (plain_bool false) ?_ ?_
   ·intro ι F w vs h
    obtain ⟨u, v, hu, hv, hR⟩ := repL_two h
    obtain ⟨u1, hu1, hU⟩ := need_inv hu
    obtain ⟨v1, hv1, hV⟩ := need_inv hv
    exact ⟨u1, v1, hu1, hv1, fun ι' F' o1 o2 h1 h2 => hR _ _ _ _ (hU _ _ _ h1) (hV _ _ _ h2)⟩
   ·intro o1 o2 l1' l2' s hp1 hp2 h1 h2 hm1 hm2
    refine ACalls.mono (q165 l1' l2' o1 o2 s h1 h2 hm1 hm2) fun r s' hn h => ?_
    obtain ⟨o', l', rfl, k1, k2, k3, k4, k5, k6⟩ := h
    exact ⟨o', l', rfl, k1, k2, perm_of_mem k3 (lun_asc hx).nodup (fun k => by rw [k4, mem_lun, hp1.mem_iff, hp2.mem_iff]), k3, k5, k6⟩
-- outside: one walk
structure J166 (s : St) (l1 : List Int) (o1 on b5 : Nat) (out : List Int) (s1 : St) : Prop where
 bx : s1.m b5 = some (.box [.bool false, .map on])
 bo : s1.m on = some (obS out)
 m1 : s1.m o1 = some (obS l1)
 rs : s1.m (s.nx + 1) = some (.box [.bool false, .nilmap])
 n1 : s.nx + 1 < on
 n2 : on < b5
 n3 : b5 < s1.nx
 nd : out.Nodup
 kp : Kept s s1
def I166 (s : St) (l1 : List Int) (n : Int) (o1 on b5 it : Nat) (m : Nat) (g : Env) (s1 : St) : Prop :=
 ∃ (seen : List Nat) (out : List Int), m = l1.length - seen.length ∧ seen.Nodup ∧ (∀ j ∈ seen, j < l1.length) ∧ (∀ k, k ∈ out ↔ k + n ∈ vals l1 seen ∧ 0 ≤ k) ∧ g.get 1 = .int .i64 n ∧ g.get 4 = .ptr (s.nx + 1) 0 ∧ g.get 5 = .ptr b5 0 ∧
  g.get 13 = .ptr it 0 ∧ s1.m it = some (.iter (some o1) l1.length seen l1.length) ∧ b5 < it ∧ it < s1.nx ∧ J166 s l1 o1 on b5 out s1
theorem q166 (l1 : List Int) (n : Int) (o1 : Nat) (s : St) (hn0 : 0 ≤ n) (hr : ∀ k ∈ l1, i64 k) (h1 : o1 < s.nx) (hm1 : s.m o1 = some (obS l1)) :
  ACalls Tryz.prog 166 [.agg [.bool false, .map o1], .int .i64 n] s fun r s' => ∃ o' l', r = .agg [.bool false, .map o'] ∧ s.nx ≤ o' ∧ s'.m o' = some (obS l') ∧ l'.Nodup ∧ (∀ k, k ∈ l' ↔ k + n ∈ l1 ∧ 0 ≤ k) ∧ s'.m o1 = some (obS l1) ∧ Kept s s' := by
 refine fun_sound mixed Tryz.func166 Tryz.call166 c166 rfl (awpFun_go _ _ _ _ ?_)
 simp -implicitDefEqProofs (disch:=first|omega|simp only[nx4]<;>omega|fail) [a166, a166b, a166r0, a166r1, a166r3]
 refine go_calls (ACalls.mono (q87 _) fun r s2 hn2 h => go_of ?_)
 obtain ⟨on, rfl, n1, n2, hon, hk2⟩ := h
 simp -implicitDefEqProofs (disch:=first|omega|simp only[nx4]<;>omega|fail) at n1 hn2
 have k0 := hk2 s.nx (by simp -implicitDefEqProofs (disch:=first|omega|simp only[nx4]<;>omega|fail); omega)
 have k1 := hk2 (s.nx + 1) (by simp -implicitDefEqProofs (disch:=first|omega|simp only[nx4]<;>omega|fail))
 have k3 := hk2 o1 (by simp -implicitDefEqProofs (disch:=first|omega|simp only[nx4]<;>omega|fail); omega)
 simp -implicitDefEqProofs (disch:=first|omega|simp only[nx4]<;>omega|fail) at k0 k1 k3
 have hkp : Kept s s2 := fun q hq => (hk2 q (by simp -implicitDefEqProofs (disch:=first|omega|simp only[nx4]<;>omega|fail); omega)).trans (by simp -implicitDefEqProofs (disch:=first|omega|simp only[nx4]<;>omega|fail))
 have hO' : s2.m o1 = some (.map (imapF 0 l1) l1.length) := k3.trans hm1
 simp -implicitDefEqProofs (disch:=first|omega|simp only[nx4]<;>omega|fail) [a166r4, k0, k1, hO']
 refine go_loop (I166 s l1 n o1 on s2.nx (s2.nx + 1)) l1.length ⟨[], [], by simp, by simp, by simp, by simp [vals], ?_, ?_, ?_, ?_, ?_, ?_, ?_, ⟨?_, ?_, ?_, ?_, ?_, ?_, ?_, ?_, ?_⟩⟩ ?_
 all_goals (try simp -implicitDefEqProofs (disch:=first|omega|simp only[nx4]<;>omega|fail) [k1, k3, hm1, hon, hkp])
 all_goals (try omega)
 clear k0 k1 k3 hO' hk2 hon
 rintro m g s4 ⟨seen, out2, rfl, hsn, hlts, hmo, e1, e4, e5, e13, hIT, hb1, hb2, J⟩
 have hO' : s4.m o1 = some (.map (imapF 0 l1) l1.length) := J.m1
 have J3 := J.n3
 have J2 := J.n2
 have J1 := J.n1
 have hsle : seen.length ≤ l1.length := nodup_le hsn hlts
 simp -implicitDefEqProofs (disch:=first|omega|simp only[nx4]<;>omega|fail) [a166l9, a166r5, e13, hIT, hO']
 refine nx_intro ?_ (fun hall => ?_) (fun e he hes => ?_)
 ·cases l1 with
  | nil => exact .inr (.inl rfl)
  | cons a r => exact .inr (.inr ⟨_, by rw [imapF]; exact List.mem_cons_self .., by simp⟩)
 ·have hva := fun k => vals_all (k := k) hsn hlts (fun j hj => by simpa using hall _ (in_imapF l1 0 j hj) (by simpa using hj))
  simp -implicitDefEqProofs (disch:=first|omega|simp only[nx4]<;>omega|fail) [a166r10, e4, e5, J.bx, J.rs]
  exact ⟨by omega, out2, J.bo, J.nd, fun k => by rw [hmo, hva], J.m1, fun q hq => by simp -implicitDefEqProofs (disch:=first|omega|simp only[nx4]<;>omega|fail) [J.kp q hq]⟩
 ·obtain ⟨j, hj, rfl⟩ := mem_imapF l1 0 e he
  have hj' : j ∉ seen := by simpa using hes
  have hf := find_imapF l1 0 j hj
  simp only [Nat.zero_add] at hf ⊢
  obtain ⟨hsn', hlt2, hle'⟩ := seen_step hsn hlts hj hj'
  have hgd : l1[j] = l1.getD j 0 := by simp [hj]
  have hrj := hr _ (List.getElem_mem hj)
  unfold i64 at hrj
  simp -implicitDefEqProofs (disch:=first|omega|simp only[nx4]<;>omega|fail) [a166r6, e13, hO']
  refine en_intro (st := j) (by simp) rfl hf ?_
  simp -implicitDefEqProofs (disch:=first|omega|simp only[nx4]<;>omega|fail) [a166r7, e1]
  refine ⟨fun hle => ?_, fun hgt => ?_⟩
  ·have w1 : IntKind.i64.wrap (l1[j] - n) = l1[j] - n := wrap64 (by omega) (by omega)
   simp -implicitDefEqProofs (disch:=first|omega|simp only[nx4]<;>omega|fail) [a166r8, e1, e5, J.bx, J.bo, w1]
   refine up_set _ _ _ _ _ ?_
   simp -implicitDefEqProofs (disch:=first|omega|simp only[nx4]<;>omega|fail)
   refine go_next (l1.length - (seen.length + 1)) (by omega) ⟨seen ++ [j], ains out2 (l1[j] - n), by simp, hsn', hlt2, fun k => ?_, ?_, ?_, ?_, ?_, ?_, ?_, ?_, ⟨?_, ?_, ?_, ?_, ?_, ?_, ?_, ains_nodup J.nd _, ?_⟩⟩
   ·rw [mem_ains, hmo, hgd]
    simp only [vals, List.map_append, List.mem_append, List.map_cons, List.map_nil, List.mem_singleton]
    rw [hgd] at hle
    constructor
    ·rintro (⟨h1, h2⟩ | h)
     ·exact ⟨.inl h1, h2⟩
     ·exact ⟨.inr (by omega), by omega⟩
    ·rintro ⟨h1 | h1, h2⟩
     ·exact .inl ⟨h1, h2⟩
     ·exact .inr (by omega)
   all_goals (try simp -implicitDefEqProofs (disch:=first|omega|simp only[nx4]<;>omega|fail) [e1, e4, e5, e13, J.bx, J.bo, J.m1, J.rs, J.kp])
   all_goals (try omega)
  ·refine go_next (l1.length - (seen.length + 1)) (by omega) ⟨seen ++ [j], out2, by simp, hsn', hlt2, fun k => ?_, ?_, ?_, ?_, ?_, ?_, ?_, ?_, ⟨?_, ?_, ?_, ?_, ?_, ?_, ?_, J.nd, ?_⟩⟩
   ·rw [hmo]
    simp only [vals, List.map_append, List.mem_append, List.map_cons, List.map_nil, List.mem_singleton]
    rw [hgd] at hgt
    constructor
    ·rintro ⟨h1, h2⟩
     exact ⟨.inl h1, h2⟩
    ·rintro ⟨h1 | h1, h2⟩
     ·exact ⟨h1, h2⟩
     ·omega
   all_goals (try simp -implicitDefEqProofs (disch:=first|omega|simp only[nx4]<;>omega|fail) [e1, e4, e5, e13, J.bx, J.bo, J.m1, J.rs, J.kp])
   all_goals (try omega)
theorem p166 (x : ND) (n : Int) (hn : 0 ≤ n) (hx : x.ok) (hr : ∀ k, x.has k → i64 k) : PureC Tryz.prog 166 [ndv x, .int .i64 n] (ndv (nOut n x)) := by
 cases x with
 | none =>
  refine PureC.intro fun s => fun_sound mixed Tryz.func166 Tryz.call166 c166 rfl (awpFun_go _ _ _ _ ?_)
  simp -implicitDefEqProofs (disch:=first|omega|simp only[nx4]<;>omega|fail) [a166, a166b, a166r0, a166r1, a166r2, ndv, nOut]
 | some l1 =>
  refine thaw (l1 := l1) (l2 := l1) (A := fun o1 o2 => [.agg [.bool false, .map o1], .int .i64 n]) globOK Tryz.call166 rfl (plain_bool false) ?_ ?_
  ·intro ι F w vs h
   obtain ⟨u, v, hu, hv, hR⟩ := repL_two h
   obtain ⟨u1, hu1, hU⟩ := need_inv hu
   exact ⟨u1, u1, hu1, hu1, fun ι' F' o1 o2 h1 h2 => hR _ _ _ _ (hU _ _ _ h1) (plain_int _ _ _ _ _ _ _ _ hv)⟩
  ·intro o1 o2 l1' l2' s hp1 hp2 h1 h2 hm1 hm2
   refine ACalls.mono (q166 l1' n o1 s hn (fun k hk => hr k (hp1.mem_iff.1 hk)) h1 hm1) fun r s' hn h => ?_
   obtain ⟨o', l', rfl, k1, k2, k3, k4, k5, k6⟩ := h
   exact ⟨o', l', rfl, k1, k2, perm_of_mem k3 (nOut_asc hx _).nodup (fun k => by rw [k4, mem_nOut, hp1.mem_iff]), k3, k5, (k6 o2 h2).trans hm2⟩
end Go.AL.Dm
namespace Go.AL.Dm
open Go Go.Proofs
theorem lk_set (n : Int) (l : List Int) (s : St) (K : KS) : lkR false [.bool false] false (imapF 0 l) (mfind (.int .i64 n) (imapF 0 l) 0) s K = K (.bool (decide (n ∈ l))) s := by
 have hks : kset (fun k : Int => AV.int .i64 k) (imapF 0 l) l := by
  rw [imapF_inord]
  unfold kset
  simp only [isetK]
  apply List.ext_getElem
  ·simp
  ·intro i h1 h2
   simp
 exact kset_lk (f := fun k : Int => AV.int .i64 k) keq_int n hks s K
structure J167 (s : St) (l1 l2 : List Int) (o1 o2 on b5 : Nat) (out : List Int) (s1 : St) : Prop where
 bx : s1.m b5 = some (.box [.bool false, .map on])
 bo : s1.m on = some (obS out)
 m1 : s1.m o1 = some (obS l1)
 m2 : s1.m o2 = some (obS l2)
 b3 : s1.m (s.nx + 1) = some (.box [.bool false, .map o2])
 rs : s1.m (s.nx + 1 + 1) = some (.box [.bool false, .nilmap])
 n1 : s.nx + 1 + 1 < on
 n2 : on < b5
 n3 : b5 < s1.nx
 nd : out.Nodup
def I167 (s : St) (l1 l2 : List Int) (o1 o2 on b5 it : Nat) (m : Nat) (g : Env) (s1 : St) : Prop :=
 ∃ (seen : List Nat) (out : List Int), m = l1.length - seen.length ∧ seen.Nodup ∧ (∀ j ∈ seen, j < l1.length) ∧ (∀ k, k ∈ out ↔ k ∈ vals l1 seen ∧ k ∈ l2) ∧ g.get 3 = .ptr (s.nx + 1) 0 ∧ g.get 4 = .ptr (s.nx + 1 + 1) 0 ∧ g.get 5 = .ptr b5 0 ∧
  g.get 18 = .ptr it 0 ∧ s1.m it = some (.iter (some o1) l1.length seen l1.length) ∧ b5 < it ∧ it < s1.nx ∧ J167 s l1 l2 o1 o2 on b5 out s1
theorem q167 (l1 l2 : List Int) (o1 o2 : Nat) (s : St) (h1 : o1 < s.nx) (h2 : o2 < s.nx) (hm1 : s.m o1 = some (obS l1)) (hm2 : s.m o2 = some (obS l2)) :
  ACalls Tryz.prog 167 [.agg [.bool false, .map o1], .agg [.bool false, .map o2]] s fun r s' => ∃ o' l', r = .agg [.bool false, .map o'] ∧ s.nx ≤ o' ∧ s'.m o' = some (obS l') ∧ l'.Nodup ∧ (∀ k, k ∈ l' ↔ k ∈ l1 ∧ k ∈ l2) ∧ s'.m o1 = some (obS l1) ∧ s'.m o2 = some (obS l2) := by
 refine fun_sound mixed Tryz.func167 Tryz.call167 c167 rfl (awpFun_go _ _ _ _ ?_)
 simp -implicitDefEqProofs (disch:=first|omega|simp only[nx4]<;>omega|fail) [a167, a167b, a167r0, a167r1, a167r3, a167r5]
 refine go_calls (ACalls.mono (q87 _) fun r s2 hn2 h => go_of ?_)
 obtain ⟨on, rfl, n1, n2, hon, hk2⟩ := h
 simp -implicitDefEqProofs (disch:=first|omega|simp only[nx4]<;>omega|fail) at n1 hn2
 have k0 := hk2 s.nx (by simp -implicitDefEqProofs (disch:=first|omega|simp only[nx4]<;>omega|fail); omega)
 have k1 := hk2 (s.nx + 1) (by simp -implicitDefEqProofs (disch:=first|omega|simp only[nx4]<;>omega|fail))
 have k2 := hk2 (s.nx + 1 + 1) (by simp -implicitDefEqProofs (disch:=first|omega|simp only[nx4]<;>omega|fail))
 have k3 := hk2 o1 (by simp -implicitDefEqProofs (disch:=first|omega|simp only[nx4]<;>omega|fail); omega)
 have k4 := hk2 o2 (by simp -implicitDefEqProofs (disch:=first|omega|simp only[nx4]<;>omega|fail); omega)
 simp -implicitDefEqProofs (disch:=first|omega|simp only[nx4]<;>omega|fail) at k0 k1 k2 k3 k4
 have hO' : s2.m o1 = some (.map (imapF 0 l1) l1.length) := k3.trans hm1
 simp -implicitDefEqProofs (disch:=first|omega|simp only[nx4]<;>omega|fail) [a167r6, k0, k1, hO']
 refine go_loop (I167 s l1 l2 o1 o2 on s2.nx (s2.nx + 1)) l1.length ⟨[], [], by simp, by simp, by simp, by simp [vals], ?_, ?_, ?_, ?_, ?_, ?_, ?_, ⟨?_, ?_, ?_, ?_, ?_, ?_, ?_, ?_, ?_, ?_⟩⟩ ?_
 all_goals (try simp -implicitDefEqProofs (disch:=first|omega|simp only[nx4]<;>omega|fail) [k1, k2, k3, k4, hm1, hm2, hon])
 all_goals (try omega)
 clear k0 k1 k2 k3 k4 hO' hk2 hon
 rintro m g s4 ⟨seen, out2, rfl, hsn, hlts, hmo, e3, e4, e5, e18, hIT, hb1, hb2, J⟩
 have hO' : s4.m o1 = some (.map (imapF 0 l1) l1.length) := J.m1
 have hO2 : s4.m o2 = some (.map (imapF 0 l2) l2.length) := J.m2
 have J3 := J.n3
 have J2 := J.n2
 have J1 := J.n1
 have hsle : seen.length ≤ l1.length := nodup_le hsn hlts
 simp -implicitDefEqProofs (disch:=first|omega|simp only[nx4]<;>omega|fail) [a167l11, a167r7, e18, hIT, hO']
 refine nx_intro ?_ (fun hall => ?_) (fun e he hes => ?_)
 ·cases l1 with
  | nil => exact .inr (.inl rfl)
  | cons a r => exact .inr (.inr ⟨_, by rw [imapF]; exact List.mem_cons_self .., by simp⟩)
 ·have hva := fun k => vals_all (k := k) hsn hlts (fun j hj => by simpa using hall _ (in_imapF l1 0 j hj) (by simpa using hj))
  simp -implicitDefEqProofs (disch:=first|omega|simp only[nx4]<;>omega|fail) [a167r12, e4, e5, J.bx, J.rs]
  exact ⟨by omega, out2, J.bo, J.nd, fun k => by rw [hmo, hva], J.m1, J.m2⟩
 ·obtain ⟨j, hj, rfl⟩ := mem_imapF l1 0 e he
  have hj' : j ∉ seen := by simpa using hes
  have hf := find_imapF l1 0 j hj
  simp only [Nat.zero_add] at hf ⊢
  obtain ⟨hsn', hlt2, hle'⟩ := seen_step hsn hlts hj hj'
  have hgd : l1[j] = l1.getD j 0 := by simp [hj]
  have hlk := fun s K => lk_set l1[j] l2 s K
  simp -implicitDefEqProofs (disch:=first|omega|simp only[nx4]<;>omega|fail) [a167r8, e18, hO']
  refine en_intro (st := j) (by simp) rfl hf ?_
  simp -implicitDefEqProofs (disch:=first|omega|simp only[nx4]<;>omega|fail) [a167r9, e3, J.b3, hO2, hlk]
  refine ⟨fun hle => ?_, fun hgt => ?_⟩
  ·simp -implicitDefEqProofs (disch:=first|omega|simp only[nx4]<;>omega|fail) [a167r10, e5, J.bx, J.bo]
   refine up_set _ _ _ _ _ ?_
   simp -implicitDefEqProofs (disch:=first|omega|simp only[nx4]<;>omega|fail)
   refine go_next (l1.length - (seen.length + 1)) (by omega) ⟨seen ++ [j], ains out2 l1[j], by simp, hsn', hlt2, fun k => ?_, ?_, ?_, ?_, ?_, ?_, ?_, ?_, ⟨?_, ?_, ?_, ?_, ?_, ?_, ?_, ?_, ?_, ains_nodup J.nd _⟩⟩
   ·rw [mem_ains, hmo]
    rw [hgd] at hle ⊢
    simp only [vals, List.map_append, List.mem_append, List.map_cons, List.map_nil, List.mem_singleton]
    constructor
    ·rintro (⟨h1, h2⟩ | rfl)
     ·exact ⟨.inl h1, h2⟩
     ·exact ⟨.inr rfl, hle⟩
    ·rintro ⟨h1 | h1, h2⟩
     ·exact .inl ⟨h1, h2⟩
     ·exact .inr h1
   all_goals (try simp -implicitDefEqProofs (disch:=first|omega|simp only[nx4]<;>omega|fail) [e3, e4, e5, e18, J.bx, J.bo, J.m1, J.m2, J.b3, J.rs])
   all_goals (try omega)
  ·refine go_next (l1.length - (seen.length + 1)) (by omega) ⟨seen ++ [j], out2, by simp, hsn', hlt2, fun k => ?_, ?_, ?_, ?_, ?_, ?_, ?_, ?_, ⟨?_, ?_, ?_, ?_, ?_, ?_, ?_, ?_, ?_, J.nd⟩⟩
   ·rw [hmo]
    rw [hgd] at hgt
    simp only [vals, List.map_append, List.mem_append, List.map_cons, List.map_nil, List.mem_singleton]
    constructor
    ·rintro ⟨h1, h2⟩
     exact ⟨.inl h1, h2⟩
    ·rintro ⟨h1 | h1, h2⟩
     ·exact ⟨h1, h2⟩
     ·subst h1; exact absurd h2 hgt
   all_goals (try simp -implicitDefEqProofs (disch:=first|omega|simp only[nx4]<;>omega|fail) [e3, e4, e5, e18, J.bx, J.bo, J.m1, J.m2, J.b3, J.rs])
   all_goals (try omega)
theorem p167 (x y : ND) (hx : x.ok) (hy : y.ok) : PureC Tryz.prog 167 [ndv x, ndv y] (ndv (nBoth x y)) := by
 cases x with
 | none =>
  refine PureC.intro fun s => fun_sound mixed Tryz.func167 Tryz.call167 c167 rfl (awpFun_go _ _ _ _ ?_)
  cases y
  all_goals simp -implicitDefEqProofs (disch:=first|omega|simp only[nx4]<;>omega|fail) [a167, a167b, a167r0, a167r1, a167r2, ndv, nBoth]
 | some l1 =>
  cases y with
  | none =>
   refine PureC.intro fun s => fun_sound mixed Tryz.func167 Tryz.call167 c167 rfl (awpFun_go _ _ _ _ ?_)
   simp -implicitDefEqProofs (disch:=first|omega|simp only[nx4]<;>omega|fail) [a167, a167b, a167r0, a167r1, a167r3, a167r4, ndv, nBoth]
  | some l2 =>
   refine thaw (l1 := l1) (l2 := l2) (A := fun o1 o2 => [.agg [.bool false, .map o1], .agg [.bool false, .map o2]]) globOK Tryz.call167 rfl (plain_bool false) ?_ ?_
   ·intro ι F w vs h
    obtain ⟨u, v, hu, hv, hR⟩ := repL_two h
    obtain ⟨u1, hu1, hU⟩ := need_inv hu
    obtain ⟨v1, hv1, hV⟩ := need_inv hv
    exact ⟨u1, v1, hu1, hv1, fun ι' F' o1 o2 h1 h2 => hR _ _ _ _ (hU _ _ _ h1) (hV _ _ _ h2)⟩
   ·intro o1 o2 l1' l2' s hp1 hp2 h1 h2 hm1 hm2
    refine ACalls.mono (q167 l1' l2' o1 o2 s h1 h2 hm1 hm2) fun r s' hn h => ?_
    obtain ⟨o', l', rfl, k1, k2, k3, k4, k5, k6⟩ := h
    exact ⟨o', l', rfl, k1, k2, perm_of_mem k3 (nMeet_asc hx).nodup (fun k => by rw [k4, nMeet, hp1.mem_iff, hp2.mem_iff]; simp), k3, k5, k6⟩
theorem p168 (s : ByteArray) (h : ∃ k, arI s = some k) : PureC Tryz.prog 168 [.str s] (.bool (decide (9 < primI s))) := by
 refine PureC.intro fun st => fun_sound mixed Tryz.func168 Tryz.call168 c168 rfl (awpFun_go _ _ _ _ ?_)
 have h1 := ari_find s
 have h2 := pur_find s
 obtain ⟨k, hk⟩ := h
 have h0 : 0 ≤ primI s := by
  unfold arI at hk
  split at hk
  ·cases hk
  ·omega
 rw [hk] at h1
 have hg1 : gv_ari = .cptr [.cmap es_ari] := rfl
 have hg2 : gv_pur = .cptr [.cmap es_pur] := rfl
 by_cases hp : purI s = true
 ·have hd : ¬ 9 < primI s := by simp only [purI, decide_eq_true_eq, Bool.and_eq_true] at hp; omega
  rw [if_pos hp] at h2
  simp -implicitDefEqProofs (disch:=first|omega|simp only[nx4]<;>omega|fail) [a168, a168b, a168r0, a168r1, a168r2, hg1, hg2, h1, h2, hd, lookAV]
 ·have hd : 9 < primI s := by simp only [purI, decide_eq_true_eq, Bool.and_eq_true] at hp; omega
  rw [if_neg hp] at h2
  simp -implicitDefEqProofs (disch:=first|omega|simp only[nx4]<;>omega|fail) [a168, a168b, a168r0, a168r1, a168r2, hg1, hg2, h1, h2, hd, lookAV]
end Go.AL.Dm
namespace Go.AL.Dm
theorem map_need (K : ByteArray → Kn) (l : List Pl) : (l.map fun x => (x, need K x, needB K x)).map (·.2.1) = l.map (need K) := by simp
section
variable {K : ByteArray → Kn} {t : Pl}
theorem need_var (h : t.op = 1) : need K t = some [t.n] := by rw [need_eq, comb.eq_def, if_pos h]
theorem need_glob (h : t.op = 2) : need K t = if (K t.s).w = 0 ∧ (K t.s).fails = true then none else some [] := by rw [need_eq, comb.eq_def, if_neg (by omega), if_pos h]
theorem need_made (h : t.op = 3 ∨ t.op = 4 ∨ t.op = 5) : need K t = some [] := by
 rw [need_eq, comb.eq_def, if_neg (by omega), if_neg (by omega), if_neg (by omega), if_neg (by omega), if_neg (by omega), if_neg (by omega)]
theorem need_app (h : t.op = 6) {f : Pl} {l : List Pl} (ha : t.args = f :: l) : need K t = (if f.op = 5 ∧ f.n ≤ (l.length : Int) then lamArgs (needB K f) f.n 0 (l.map (need K)) (nOut f.n (needB K f)) else if f.op ≠ 2 then need K f else if (K f.s).w = 0 then need K f
  else if (l.length : Int) < (K f.s).w then some [] else if (K f.s).fails = true then none else unionIf (K f.s).st (l.map (need K)) (some [])) := by
 rw [need_eq, comb.eq_def, if_neg (by omega), if_neg (by omega), if_pos h, ha, List.map_cons]
 simp only [map_need, List.length_map]
theorem need_let (h : t.op = 7) {vs : List Pl} {b : Pl} (ha : t.args = vs ++ [b]) : need K t = letC (vs.map (need K)) (need K b) := by
 rw [need_eq, comb.eq_def, if_neg (by omega), if_neg (by omega), if_neg (by omega), if_pos h, ha]
 simp
 rfl
theorem need_cas (h : t.op = 8) {x : Pl} (ha : t.args = [x]) : need K t = nWith (need K x) ((t.alts.map fun a => nOut (bnd a.1) (need K a.2)).foldl nBoth none) := by
 rw [need_eq, comb.eq_def, if_neg (by omega), if_neg (by omega), if_neg (by omega), if_neg (by omega), if_pos h, ha]
 simp
 rfl
theorem need_throw (h : t.op = 9) (hs : t.s = throwS) : need K t = none := by
 rw [need_eq, comb.eq_def, if_neg (by omega), if_neg (by omega), if_neg (by omega), if_neg (by omega), if_neg (by omega), if_pos h, if_pos hs]
theorem need_act (h : t.op = 9) (hs : t.s ≠ throwS) (hp : ¬ primI t.s < 9) : need K t = some [] := by
 rw [need_eq, comb.eq_def, if_neg (by omega), if_neg (by omega), if_neg (by omega), if_neg (by omega), if_neg (by omega), if_pos h, if_neg hs, if_neg hp]
theorem need_prim (h : t.op = 9) (hs : t.s ≠ throwS) (hp : primI t.s < 9) {x y : Pl} (ha : t.args = [x, y]) : need K t = nWith (need K x) (need K y) := by
 rw [need_eq, comb.eq_def, if_neg (by omega), if_neg (by omega), if_neg (by omega), if_neg (by omega), if_neg (by omega), if_pos h, if_neg hs, if_pos hp, ha]
 simp
end
theorem throwS_eq : primI throwS = 9 := by kernel_rfl
theorem idxB_inj : ∀ (l : List ByteArray) (a b : ByteArray) (i : Int), 0 ≤ i → 0 ≤ idxB l a i → idxB l a i = idxB l b i → a = b
 | [], a, b, i, _, h, _ => by simp [idxB] at h
 | x :: r, a, b, i, hi, h, e => by
  simp only [idxB] at h e
  have hle := fun t => idxB_le r t (i + 1) (by omega)
  have hlb : ∀ (l : List ByteArray) (t : ByteArray) (i : Int), idxB l t i = -1 ∨ i ≤ idxB l t i := by
   intro l
   induction l with
   | nil => intro t i; simp [idxB]
   | cons y l ih =>
    intro t i
    simp only [idxB]
    split
    ·exact .inr (by omega)
    ·rcases ih t (i + 1) with h | h
     ·exact .inl h
     ·exact .inr (by omega)
  split at h
  ·rename_i e1
   rw [if_pos e1] at e
   split at e
   ·rename_i e2; rw [← e1, ← e2]
   ·rcases hlb r b (i + 1) with h2 | h2 <;> omega
  ·rename_i e1
   rw [if_neg e1] at e
   split at e
   ·rcases hlb r a (i + 1) with h2 | h2 <;> omega
   ·exact idxB_inj r a b (i + 1) (by omega) h e
theorem throw_iff {s : ByteArray} : s = throwS ↔ primI s = 9 := by
 constructor
 ·rintro rfl; exact throwS_eq
 ·intro h
  refine idxB_inj prims s throwS 0 (by omega) ?_ ?_
  ·change 0 ≤ primI s; omega
  ·change primI s = primI throwS; rw [h, throwS_eq]
theorem ar_two {s : ByteArray} {k : Int} (h : arI s = some k) (hp : primI s < 9) : k = 2 := by
 unfold arI at h
 split at h
 ·cases h
 ·rename_i h0
  obtain ⟨n, hn⟩ : ∃ n : Nat, primI s = n := ⟨(primI s).toNat, by omega⟩
  rw [hn] at h hp
  have : n < 9 := by omega
  simp only [Int.toNat_natCast] at h
  match n, this with
  | 0, _ | 1, _ | 2, _ | 3, _ | 4, _ | 5, _ | 6, _ | 7, _ | 8, _ => simpa [ars] using h.symm
def NB (x : ND) : Prop := ∀ k, x.has k → 0 ≤ k ∧ k ≤ 9223372036854775807
theorem nb_nil : NB (some []) := fun k h => by simp [ND.has] at h
theorem nb_none : NB none := fun k h => by simp [ND.has] at h
theorem nb_with {a b : ND} (ha : NB a) (hb : NB b) : NB (nWith a b) := by
 cases a <;> cases b <;> try exact nb_none
 intro k hk
 simp only [nWith, ND.has, mem_lun] at hk
 exact hk.elim (ha k) (hb k)
theorem nb_out {a : ND} {n : Int} (hn : 0 ≤ n) (ha : NB a) : NB (nOut n a) := by
 cases a with
 | none => exact nb_none
 | some l =>
  intro k hk
  simp only [nOut, ND.has, mem_nOut] at hk
  have := ha (k + n) hk.1
  omega
theorem nb_both {a b : ND} (ha : NB a) (hb : NB b) : NB (nBoth a b) := by
 cases a with
 | none => exact hb
 | some l =>
  cases b with
  | none => exact ha
  | some m =>
   intro k hk
   simp only [nBoth, ND.has, nMeet, List.mem_filter] at hk
   exact ha k hk.1
theorem nb_union : ∀ (bs : List Bool) (xs : List ND) (acc : ND), (∀ x ∈ xs, NB x) → NB acc → NB (unionIf bs xs acc)
 | [], xs, acc, _, h => by cases xs <;> exact h
 | b :: bs, [], acc, _, h => h
 | b :: bs, x :: xs, acc, hx, h => by
  rw [unionIf]
  refine nb_union bs xs _ (fun y hy => hx y (by simp [hy])) ?_
  split
  ·exact nb_with h (hx x (by simp))
  ·exact h
theorem nb_lam (fb : ND) (n : Int) : ∀ (xs : List ND) (i : Int) (acc : ND), (∀ x ∈ xs, NB x) → NB acc → NB (lamArgs fb n i xs acc)
 | [], i, acc, _, h => h
 | x :: xs, i, acc, hx, h => by
  rw [lamArgs]
  split
  ·refine nb_lam fb n xs _ _ (fun y hy => hx y (by simp [hy])) ?_
   split
   ·exact nb_with h (hx x (by simp))
   ·exact h
  ·exact h
theorem nb_fold : ∀ (l : List ND) (acc : ND), (∀ x ∈ l, NB x) → NB acc → NB (l.foldl nBoth acc)
 | [], acc, _, h => h
 | x :: l, acc, hx, h => nb_fold l _ (fun y hy => hx y (by simp [hy])) (nb_both h (hx x (by simp)))
theorem nb_let {vs : List ND} {b : ND} (hv : ∀ x ∈ vs, NB x) (hb : NB b) : NB (letC vs b) := by
 by_cases h : AllR vs.length (valOf vs) b
 ·rw [letC_none.2 h]; exact nb_none
 ·obtain ⟨l, e, _, hm⟩ := letC_some h
  rw [e]
  intro k hk
  obtain ⟨h1, h2⟩ := (hm k).1 hk
  have h3 := reach_in h1
  rcases List.mem_append.1 h3 with h3 | h3
  ·cases b with
   | none => simp at h3
   | some lb => have := hb _ h3; omega
  ·obtain ⟨x, hx, hk2⟩ := List.mem_flatMap.1 h3
   cases x with
   | none => simp at hk2
   | some lx => have := hv _ hx _ hk2; omega
theorem len_two {α : Type} {l : List α} (h : l.length = 2) : ∃ x y, l = [x, y] := by
 match l, h with
 | [x, y], _ => exact ⟨x, y, rfl⟩
theorem split_last {α : Type} {l : List α} (h : l ≠ []) : ∃ vs b, l = vs ++ [b] := ⟨l.dropLast, l.getLast h, (List.dropLast_concat_getLast h).symm⟩
theorem need_bnd (K : ByteArray → Kn) (t : Pl) : wf t = true → rng t → NB (need K t) ∧ NB (needB K t) := by
 induction t using Pl.ind with
 | h t ih1 ih2 =>
  intro hw hr
  obtain ⟨hnd, hwa, hwb⟩ := wf_nd hw
  have hr' := (rng_eq t).1 hr
  have h1 : ∀ x ∈ t.args, NB (need K x) ∧ NB (needB K x) := fun x hx => ih1 x hx (hwa x hx) (hr'.2.2.1 x hx)
  have h2 : ∀ a ∈ t.alts, NB (need K a.2) := fun a ha => (ih2 a ha (hwb a ha) (hr'.2.2.2 a ha).2.2).1
  refine ⟨?_, ?_⟩
  ·have ho := hnd.op
   by_cases o1 : t.op = 1
   ·rw [need_var o1]
    intro k hk
    simp only [ND.has, List.mem_singleton] at hk
    subst hk
    exact ⟨(hnd.var o1).1, hr'.2.1.2⟩
   by_cases o2 : t.op = 2
   ·rw [need_glob o2]; split
    ·exact nb_none
    ·exact nb_nil
   by_cases o3 : t.op = 3 ∨ t.op = 4 ∨ t.op = 5
   ·rw [need_made o3]; exact nb_nil
   by_cases o6 : t.op = 6
   ·obtain ⟨f, l, hfl⟩ : ∃ f l, t.args = f :: l := by
     cases h : t.args with
     | nil => have := hnd.app o6; rw [h] at this; simp at this
     | cons f l => exact ⟨f, l, rfl⟩
    have hf := h1 f (by rw [hfl]; simp)
    have hl : ∀ x ∈ l.map (need K), NB x := by
     intro x hx
     obtain ⟨y, hy, rfl⟩ := List.mem_map.1 hx
     exact (h1 y (by rw [hfl]; simp [hy])).1
    rw [need_app o6 hfl]
    split
    ·rename_i hc
     have hwf := wf_nd (hwa f (by rw [hfl]; simp))
     exact nb_lam _ _ _ _ _ hl (nb_out (by have := hwf.1.lam hc.1; omega) hf.2)
    split
    ·exact hf.1
    split
    ·exact hf.1
    split
    ·exact nb_nil
    split
    ·exact nb_none
    ·exact nb_union _ _ _ hl nb_nil
   by_cases o7 : t.op = 7
   ·obtain ⟨vs, b, hvb⟩ := split_last (l := t.args) (by intro h; have := hnd.lt o7; rw [h] at this; simp at this)
    rw [need_let o7 hvb]
    refine nb_let (fun x hx => ?_) (h1 b (by rw [hvb]; simp)).1
    obtain ⟨y, hy, rfl⟩ := List.mem_map.1 hx
    exact (h1 y (by rw [hvb]; simp [hy])).1
   by_cases o8 : t.op = 8
   ·obtain ⟨x, hx⟩ := List.length_eq_one_iff.1 (hnd.cas o8).1
    rw [need_cas o8 hx]
    refine nb_with (h1 x (by rw [hx]; simp)).1 (nb_fold _ _ (fun y hy => ?_) nb_none)
    obtain ⟨a, ha, rfl⟩ := List.mem_map.1 hy
    exact nb_out (by have := hnd.bnd ha; omega) (h2 a ha)
   ·have o9 : t.op = 9 := by omega
    by_cases hs : t.s = throwS
    ·rw [need_throw o9 hs]; exact nb_none
    by_cases hp : primI t.s < 9
    ·obtain ⟨k, hk, hl⟩ := hnd.prm o9
     have := ar_two hk hp
     obtain ⟨x, y, hxy⟩ := len_two (show t.args.length = 2 by omega)
     rw [need_prim o9 hs hp hxy]
     exact nb_with (h1 x (by rw [hxy]; simp)).1 (h1 y (by rw [hxy]; simp)).1
    ·rw [need_act o9 hs hp]; exact nb_nil
  ·rw [needB_eq]
   cases h : t.args with
   | nil => exact nb_nil
   | cons x l => exact (h1 x (by rw [h]; simp)).1
end Go.AL.Dm
namespace Go.AL.Dm
open Go Go.Proofs
def ndm : ND → AV
 | none => .nilmap
 | some l => .kmap (isetK l)
theorem ndv_eq (x : ND) : ndv x = .agg [.bool x.isNone, ndm x] := by cases x <;> rfl
@[simp] theorem ndm_isVal (x : ND) : (ndm x).isVal = true := by cases x <;> rfl
@[simp] theorem ndm_cells (x : ND) : (ndm x).cells = [ndm x] := by cases x <;> rfl
theorem kfind_set (k : Int) : ∀ l : List Int, kfind (.int .i64 k) (isetK l) = some (if k ∈ l then some (.bool true) else none)
 | [] => rfl
 | a :: l => by
  have ih := kfind_set k l
  simp only [isetK, List.map_cons, kfind, keq, if_true] at ih ⊢
  rw [ih]
  by_cases h : k = a
  ·subst h; simp
  ·simp [h]
theorem lk_ndm (x : ND) (k : Int) (s : St) (K : KS) : go (lkV false false [.bool false] false (ndm x) (.int .i64 k) s K) = go (K (.bool (decide (x.has k))) s) := by
 cases x with
 | none =>
  have h : decide (ND.has none k) = false := decide_eq_false (by simp [ND.has])
  rw [h, ndm]
  simp [lookAV]
 | some l =>
  rw [ndm]
  simp only [go_lkV_kmap, kfind_set, go_lkC_some]
  have e : (ND.has (some l) k) = (k ∈ l) := rfl
  by_cases h : k ∈ l <;> simp [h, lookAV, e, ok, keyOK]
def kr (k : Kn) : List AV := [.bool (k.st.getD 0 false), .bool (k.st.getD 1 false), .bool (k.st.getD 2 false), .bool (k.st.getD 3 false), .bool (k.st.getD 4 false), .bool (k.st.getD 5 false), .bool (k.st.getD 6 false), .bool (k.st.getD 7 false), .bool k.fails]
@[simp] theorem kr_len (k : Kn) : (kr k).length = 9 := rfl
theorem kr_drop {k : Kn} {i : Nat} (h : i < 8) : (kr k).drop i = .bool (k.st.getD i false) :: (kr k).drop (i + 1) := by
 match i, h with
 | 0, _ | 1, _ | 2, _ | 3, _ | 4, _ | 5, _ | 6, _ | 7, _ => rfl
@[simp] theorem kr_8 (k : Kn) : (kr k).drop 8 = [.bool k.fails] := rfl
def kAV (k : Kn) : AV := .agg (.int .i64 k.w :: kr k)
def Kn.zero : Kn := ⟨0, [], false⟩
def lookK (D : List (ByteArray × Kn)) (s : ByteArray) : Kn := ((D.find? fun p => decide (p.1 = s)).map (·.2)).getD Kn.zero
def kes (D : List (ByteArray × Kn)) : List (AV × AV) := D.map fun p => (.str p.1, kAV p.2)
theorem kfind_kes (s : ByteArray) : ∀ D : List (ByteArray × Kn), kfind (.str s) (kes D) = some ((D.find? fun p => decide (p.1 = s)).map fun p => kAV p.2)
 | [] => rfl
 | p :: D => by
  have ih := kfind_kes s D
  simp only [kes, List.map_cons, kfind, keq] at ih ⊢
  rw [ih]
  by_cases h : s = p.1
  ·subst h; simp
  ·have h' : ¬ p.1 = s := fun e => h e.symm
   simp [h, h']
def kz : List AV := [.int .i64 0, .bool false, .bool false, .bool false, .bool false, .bool false, .bool false, .bool false, .bool false, .bool false]
theorem lk_kes (D : List (ByteArray × Kn)) (n : ByteArray) (s : St) (K : KS) : go (lkV true false kz true (.kmap (kes D)) (.str n) s K) = go (K (kAV (lookK D n)) s) := by
 simp only [go_lkV_kmap, kfind_kes]
 have e : lookAV false kz true ((D.find? fun p => decide (p.1 = n)).map fun p => kAV p.2) = kAV (lookK D n) := by
  unfold lookK
  cases D.find? fun p => decide (p.1 = n) with
  | none => rfl
  | some p => rfl
 have e2 : lkC false kz true (some ((D.find? fun p => decide (p.1 = n)).map fun p => kAV p.2)) s K = K (kAV (lookK D n)) s := by rw [← e]; rfl
 rw [e2]
 simp [ok, keyOK]
def ana (D : List (ByteArray × Kn)) : AV := .cptr [.kmap (kes D)]
@[simp] theorem ana_isVal (D : List (ByteArray × Kn)) : (ana D).isVal = true := rfl
@[simp] theorem ana_cells (D : List (ByteArray × Kn)) : (ana D).cells = [ana D] := rfl
structure GoodD (D : List (ByteArray × Kn)) : Prop where
 w : ∀ n, 0 ≤ (lookK D n).w ∧ (lookK D n).w ≤ 8
 st : ∀ n, ((lookK D n).st.length : Int) = (lookK D n).w
theorem p88 (D : List (ByteArray × Kn)) : PureC Tryz.prog 88 [ana D] (.kmap [(.int .i64 1, .fn 122 [] []), (.int .i64 2, .fn 123 [ana D] []), (.int .i64 3, .fn 121 [] []), (.int .i64 4, .fn 121 [] []), (.int .i64 5, .fn 121 [] []),
  (.int .i64 6, .fn 124 [ana D] []), (.int .i64 7, .fn 125 [] [.cptr [ana D]]), (.int .i64 8, .fn 127 [ana D] []), (.int .i64 9, .fn 128 [ana D] [])]) := by
 refine PureC.intro fun s => ACalls.frzMap (fun_sound mixed Tryz.func88 Tryz.call88 c88 rfl (awpFun_go _ _ _ _ ?_))
 simp -implicitDefEqProofs (disch:=first|omega|simp only[nx4]<;>omega|fail) [a88, a88b, a88r0, a88r1, a88r2, mfind, mapSet, keq]
 refine ⟨_, [(.int .i64 1, .fn 122 [] []), (.int .i64 2, .fn 123 [ana D] []), (.int .i64 3, .fn 121 [] []), (.int .i64 4, .fn 121 [] []), (.int .i64 5, .fn 121 [] []),
  (.int .i64 6, .fn 124 [ana D] []), (.int .i64 7, .fn 125 [] [.cptr [ana D]]), (.int .i64 8, .fn 127 [ana D] []), (.int .i64 9, .fn 128 [ana D] [])], _, rfl, by simp -implicitDefEqProofs (disch:=first|omega|simp only[nx4]<;>omega|fail) [inord], List.Perm.refl _, ?_, by simp, wk_refl _, ?_⟩
 ·intro p hp
  simp only [List.mem_cons, List.not_mem_nil, or_false] at hp
  rcases hp with rfl | rfl | rfl | rfl | rfl | rfl | rfl | rfl | rfl <;> trivial
 ·simp -implicitDefEqProofs (disch:=first|omega|simp only[nx4]<;>omega|fail)
def C49 (D : List (ByteArray × Kn)) (t : Pl) : Prop := wf t = true → small t → rng t → PureC Tryz.prog 49 [ana D, t.av] (ndv (need (lookK D) t))
theorem p123 (D : List (ByteArray × Kn)) (t : Pl) : PureC Tryz.prog 123 [ana D, t.av] (ndv (if (lookK D t.s).w = 0 ∧ (lookK D t.s).fails = true then none else some [])) := by
 refine PureC.intro fun s => fun_sound mixed Tryz.func123 Tryz.call123 c123 rfl (awpFun_go _ _ _ _ ?_)
 have hk := fun s K => lk_kes D t.s s K
 generalize lookK D t.s = k at hk ⊢
 have hkz : kz = [.int .i64 0, .bool false, .bool false, .bool false, .bool false, .bool false, .bool false, .bool false, .bool false, .bool false] := rfl
 rw [hkz] at hk
 have hka : kAV k = .agg (.int .i64 k.w :: kr k) := rfl
 simp -implicitDefEqProofs (disch:=first|omega|simp only[nx4]<;>omega|fail) [a123, a123b, a123r0, a123r1, ana, hk, hka]
 intro m hm
 by_cases h1 : k.w = 0
 ·cases h2 : k.fails
  ·simp -implicitDefEqProofs (disch:=first|omega|simp only[nx4]<;>omega|fail) [a123r2, h1, h2]
   refine go_pure p87 fun mm1 hm1 => ?_
   try simp only [nx4] at hm1
   simp -implicitDefEqProofs (disch:=first|omega|simp only[nx4]<;>omega|fail) [a123r4, ndv]
  ·simp -implicitDefEqProofs (disch:=first|omega|simp only[nx4]<;>omega|fail) [a123r2, h1, h2]
   refine go_pure p164 fun mm2 hm2 => ?_
   try simp only [nx4] at hm2
   simp -implicitDefEqProofs (disch:=first|omega|simp only[nx4]<;>omega|fail) [a123r3, ndv]
 ·simp -implicitDefEqProofs (disch:=first|omega|simp only[nx4]<;>omega|fail) [a123r2, h1]
  refine go_pure p87 fun mm3 hm3 => ?_
  try simp only [nx4] at hm3
  simp -implicitDefEqProofs (disch:=first|omega|simp only[nx4]<;>omega|fail) [a123r4, ndv]
theorem p165' (x y : ND) (hx : x.ok) (hy : y.ok) : PureC Tryz.prog 165 [.agg [.bool x.isNone, ndm x], .agg [.bool y.isNone, ndm y]] (ndv (nWith x y)) := by
 rw [← ndv_eq, ← ndv_eq]; exact p165 x y hx hy
theorem p128 (D : List (ByteArray × Kn)) (t : Pl) (hw : wf t = true) (hs : small t) (hr : rng t) (o9 : t.op = 9) (ih : ∀ x ∈ t.args, C49 D x) : PureC Tryz.prog 128 [ana D, t.av] (ndv (need (lookK D) t)) := by
 refine PureC.intro fun s => fun_sound mixed Tryz.func128 Tryz.call128 c128 rfl (awpFun_go _ _ _ _ ?_)
 obtain ⟨hnd, hwa, hwb⟩ := wf_nd hw
 obtain ⟨k, hk, hlen⟩ := hnd.prm o9
 have h168 := p168 t.s ⟨k, hk⟩
 have hr' := (rng_eq t).1 hr
 have hth : throwS = ⟨#[116, 104, 114, 111, 119]⟩ := rfl
 by_cases ht : t.s = throwS
 ·rw [need_throw o9 ht]
  rw [hth] at ht
  simp -implicitDefEqProofs (disch:=first|omega|simp only[nx4]<;>omega|fail) [a128, a128b, a128r0, a128r1, ht]
  refine go_pure p164 fun mm4 hm4 => ?_
  try simp only [nx4] at hm4
  simp -implicitDefEqProofs (disch:=first|omega|simp only[nx4]<;>omega|fail) [a128r2, ndv]
 have ht' : ¬ t.s = ⟨#[116, 104, 114, 111, 119]⟩ := ht
 by_cases hp : primI t.s < 9
 ·have h2 := ar_two hk hp
  obtain ⟨x, y, hxy⟩ := len_two (show t.args.length = 2 by omega)
  rw [need_prim o9 ht hp hxy]
  have hd : ¬ 9 < primI t.s := by omega
  rw [decide_eq_false hd] at h168
  have hx : x ∈ t.args := by rw [hxy]; simp
  have hy : y ∈ t.args := by rw [hxy]; simp
  have ihx := ih x hx (hwa x hx) (small_arg hs hx) (hr'.2.2.1 x hx)
  have ihy := ih y hy (hwa y hy) (small_arg hs hy) (hr'.2.2.1 y hy)
  have hxo := need_ok (lookK D) x
  have hyo := need_ok (lookK D) y
  generalize need (lookK D) x = nx at ihx hxo ⊢
  generalize need (lookK D) y = ny at ihy hyo ⊢
  have h165 := p165 nx ny hxo hyo
  simp -implicitDefEqProofs (disch:=first|omega|simp only[nx4]<;>omega|fail) [a128, a128b, a128r0, a128r1, ht', a128r3]
  have gl : t.args.length = 2 := by rw [hxy]; rfl
  have g0 : t.args[0]'(by omega) = x := by simp [hxy]
  have g1 : t.args[1]'(by omega) = y := by simp [hxy]
  refine go_pure h168 fun mm5 hm5 => ?_
  try simp only [nx4] at hm5
  simp -implicitDefEqProofs (disch:=first|omega|simp only[nx4]<;>omega|fail) [a128r5, g0, g1, gl]
  refine pcV_intro ihx ?_
  simp -implicitDefEqProofs (disch:=first|omega|simp only[nx4]<;>omega|fail) [g1, gl]
  refine pcV_intro ihy ?_
  simp -implicitDefEqProofs (disch:=first|omega|simp only[nx4]<;>omega|fail) []
  refine pcV_intro h165 ?_
  simp -implicitDefEqProofs (disch:=first|omega|simp only[nx4]<;>omega|fail) [ndv_eq]
 ·have hp9 : primI t.s ≠ 9 := fun h => ht (throw_iff.2 h)
  have hd : 9 < primI t.s := by omega
  rw [decide_eq_true hd] at h168
  rw [need_act o9 ht hp]
  simp -implicitDefEqProofs (disch:=first|omega|simp only[nx4]<;>omega|fail) [a128, a128b, a128r0, a128r1, ht', a128r3]
  refine go_pure h168 fun mm6 hm6 => ?_
  try simp only [nx4] at hm6
  simp -implicitDefEqProofs (disch:=first|omega|simp only[nx4]<;>omega|fail) [a128r4]
  refine go_pure p87 fun mm7 hm7 => ?_
  try simp only [nx4] at hm7
  simp -implicitDefEqProofs (disch:=first|omega|simp only[nx4]<;>omega|fail) [ndv]
end Go.AL.Dm
namespace Go.AL.Dm
open Go Go.Proofs
noncomputable def fA (K : ByteArray → Kn) (a : Hd × Pl) : ND := nOut (bnd a.1) (need K a.2)
def I127 (D : List (ByteArray × Kn)) (t : Pl) (nx fin : ND) (b5 b6 : Nat) (s : St) (m : Nat) (g : Env) (s1 : St) : Prop :=
 ∃ (i : Nat) (acc : ND), i ≤ t.alts.length ∧ m = t.alts.length - i ∧ ((t.alts.drop i).map (fA (lookK D))).foldl nBoth acc = fin ∧ acc.ok ∧ g.get 0 = ana D ∧ g.get 4 = .ptr (s.nx + 1) 0 ∧ g.get 5 = .ptr b5 0 ∧ g.get 6 = .ptr b6 0 ∧
  g.get 20 = .list 8 .none (t.alts.map Pl.altv) ∧ g.get 21 = .int .i64 t.alts.length ∧ g.get 22 = .int .i64 i ∧ s1.m (s.nx + 1) = some (.box [.bool false, .nilmap]) ∧ s1.m b5 = some (.box [.bool false, ndm nx]) ∧ s1.m b6 = some (.box [.bool acc.isNone, ndm acc]) ∧ Kept s s1 ∧ b6 < s1.nx
theorem p127 (D : List (ByteArray × Kn)) (t : Pl) (hw : wf t = true) (hs : small t) (hr : rng t) (o8 : t.op = 8) (ih : ∀ x ∈ t.args, C49 D x) (ih2 : ∀ a ∈ t.alts, C49 D a.2) : PureC Tryz.prog 127 [ana D, t.av] (ndv (need (lookK D) t)) := by
 refine PureC.intro fun s => fun_sound mixed Tryz.func127 Tryz.call127 c127 rfl (awpFun_go _ _ _ _ ?_)
 obtain ⟨hnd, hwa, hwb⟩ := wf_nd hw
 have hr' := (rng_eq t).1 hr
 obtain ⟨hl1, _, hal⟩ := hnd.cas o8
 obtain ⟨x, hx⟩ := List.length_eq_one_iff.1 hl1
 rw [need_cas o8 hx]
 have hxm : x ∈ t.args := by rw [hx]; simp
 have ihx := ih x hxm (hwa x hxm) (small_arg hs hxm) (hr'.2.2.1 x hxm)
 have hxo := need_ok (lookK D) x
 have gl : t.args.length = 1 := by rw [hx]; rfl
 have g0 : t.args[0]'(by omega) = x := by simp [hx]
 generalize need (lookK D) x = nx at ihx hxo ⊢
 simp -implicitDefEqProofs (disch:=first|omega|simp only[nx4]<;>omega|fail) [a127, a127b, a127r0, a127r1, gl, g0]
 refine go_pure ihx fun mm1 hm1 => ?_
 try simp only [nx4] at hm1
 simp -implicitDefEqProofs (disch:=first|omega|simp only[nx4]<;>omega|fail) [ndv_eq, a127r2]
 cases hn : nx with
 | none =>
  simp -implicitDefEqProofs (disch:=first|omega|simp only[nx4]<;>omega|fail) [a127r3, nWith]
 | some lx =>
 rw [← hn]
 have hns : nx.isNone = false := by rw [hn]; rfl
 simp -implicitDefEqProofs (disch:=first|omega|simp only[nx4]<;>omega|fail) [hn, a127r4]
 rw [← hn]
 refine go_pure p164 fun mm2 hm2 => ?_
 try simp only [nx4] at hm2
 simp -implicitDefEqProofs (disch:=first|omega|simp only[nx4]<;>omega|fail) [a127r5, ndv]
 have hfd : (t.alts.map fun a => nOut (bnd a.1) (need (lookK D) a.2)).foldl nBoth none = (t.alts.map (fA (lookK D))).foldl nBoth none := rfl
 rw [hfd]
 generalize hfin : (t.alts.map (fA (lookK D))).foldl nBoth none = fin
 have hfok : fin.ok := by
  rw [← hfin]
  refine foldBoth_ok _ _ (fun y hy => ?_) trivial
  obtain ⟨a, ha, rfl⟩ := List.mem_map.1 hy
  exact nOut_ok (need_ok _ _) _
 refine go_loop (I127 D t nx fin mm1 mm2 s) t.alts.length ⟨0, none, by omega, by omega, hfin, trivial, ?_, ?_, ?_, ?_, ?_, ?_, ?_, ?_, ?_, ?_, ?_, ?_⟩ ?_
 iterate 12 (simp -implicitDefEqProofs (disch:=first|omega|simp only[nx4]<;>omega|fail) [ndm])
 rintro m g s1 ⟨i, acc, hi, rfl, hf, hao, e0, e4, e5, e6, e20, e21, e22, j1, j2, j3, hk, hn⟩
 by_cases hlt : i < t.alts.length
 ·have hlt' : (i : Int) < t.alts.length := by omega
  have w3 := wrapS (i := i) (by omega)
  rw [List.drop_eq_getElem_cons hlt, List.map_cons, List.foldl_cons] at hf
  have hb := hnd.bnd (List.getElem_mem hlt)
  have h142 := p142 t.alts[i] (fun h2 => by have := hnd.hd _ (List.getElem_mem hlt) h2; omega)
  have iha := ih2 _ (List.getElem_mem hlt) (hwb _ (List.getElem_mem hlt)) (small_alt hs (List.getElem_mem hlt)) (hr'.2.2.2 _ (List.getElem_mem hlt)).2.2
  have hno := need_ok (lookK D) t.alts[i].2
  have hnb := (need_bnd (lookK D) t.alts[i].2 (hwb _ (List.getElem_mem hlt)) (hr'.2.2.2 _ (List.getElem_mem hlt)).2.2).1
  have hfa : fA (lookK D) t.alts[i] = nOut (bnd t.alts[i].1) (need (lookK D) t.alts[i].2) := rfl
  rw [hfa] at hf
  generalize hxx : t.alts[i] = a at hf hb h142 iha hno hnb
  generalize need (lookK D) a.2 = na at hf iha hno hnb
  have h166 := p166 na (bnd a.1) (by omega) hno (fun k hk => by have := hnb k hk; unfold i64; omega)
  have hoo := nOut_ok hno (bnd a.1)
  generalize nOut (bnd a.1) na = no at hf h166 hoo
  have h167 := p167 acc no hao hoo
  rw [ndv_eq, ndv_eq] at h167
  rw [ndv_eq] at h166
  simp -implicitDefEqProofs (disch:=first|omega|simp only[nx4]<;>omega|fail) [a127l10, a127r6, a127r7, a127r8, e0, e6, e20, e21, e22, hlt', hxx, j3]
  refine pcV_intro iha ?_
  simp -implicitDefEqProofs (disch:=first|omega|simp only[nx4]<;>omega|fail) [ndv_eq]
  refine pcV_intro h142 ?_
  simp -implicitDefEqProofs (disch:=first|omega|simp only[nx4]<;>omega|fail) []
  refine pcV_intro h166 ?_
  simp -implicitDefEqProofs (disch:=first|omega|simp only[nx4]<;>omega|fail) [ndv_eq]
  refine pcV_intro h167 ?_
  simp -implicitDefEqProofs (disch:=first|omega|simp only[nx4]<;>omega|fail) [ndv_eq, e6, j3]
  intro m hm
  simp -implicitDefEqProofs (disch:=first|omega|simp only[nx4]<;>omega|fail) [a127r9, e22, w3]
  refine go_next (t.alts.length - (i + 1)) (by omega) ⟨i + 1, nBoth acc no, by omega, rfl, hf, nBoth_ok hao hoo, ?_, ?_, ?_, ?_, ?_, ?_, rfl, ?_, ?_, ?_, ?_, ?_⟩
  all_goals (try simp -implicitDefEqProofs (disch:=first|omega|simp only[nx4]<;>omega|fail) [e0, e4, e5, e6, e20, e21, j1, j2, hk])
  all_goals (try omega)
 ·have hlt' : ¬ (i : Int) < t.alts.length := by omega
  obtain rfl : i = t.alts.length := by omega
  rw [List.drop_length, List.map_nil, List.foldl_nil] at hf
  subst hf
  have h165 := p165' nx acc hxo hao
  rw [hns] at h165
  simp -implicitDefEqProofs (disch:=first|omega|simp only[nx4]<;>omega|fail) [a127l10, a127r6, e0, e4, e5, e6, e20, e21, e22, hlt', a127r11, j1, j2, j3]
  refine go_pure h165 fun mm3 hm3 => ?_
  try simp only [nx4] at hm3
  simp -implicitDefEqProofs (disch:=first|omega|simp only[nx4]<;>omega|fail) [ndv_eq, e4, j1, hk]
end Go.AL.Dm
