/- From what is read of the arguments to abstract values, and back: the frame of a row. -/
import Derived.Test.YtkegioliclbbhaaE14
import Derived.Carry
import Derived.SizedLaws
import Derived.ProofKit
import Derived.ChangeArms
set_option linter.unusedVariables false
set_option linter.unusedSimpArgs false
namespace Go.AL
open Go Go.Proofs

/-- Nothing is an object. -/
abbrev ι0 : Nat → Option Nat := fun _ => none
abbrev F0 : Nat → Nat → Prop := Foot ι0 (fun _ => none)
theorem F0_no (b off : Nat) : ¬ F0 b off := fun ⟨_, _, h, _⟩ => by cases h

/-- Cells that stand for abstract ones. -/
def Cells (w : World) (cs : List Value) (xs : List AV) : Prop :=
  cs.length = xs.length ∧ (∀ v ∈ cs, v.oneCell' = true) ∧ ∀ (j : Nat) v y, cs[j]? = some v → xs[j]? = some y → Rep ι0 F0 w v y

theorem Cells.nil (w : World) : Cells w [] [] := ⟨rfl, by simp, by simp⟩
theorem Cells.cons {w : World} {v : Value} {x : AV} {cs : List Value} {xs : List AV} (h1 : v.oneCell' = true) (h2 : Rep ι0 F0 w v x) (h : Cells w cs xs) : Cells w (v :: cs) (x :: xs) := by
  refine ⟨by simp [h.1], by simpa using ⟨h1, h.2.1⟩, fun j v' y hv hy => ?_⟩
  cases j with
  | zero => simp at hv hy; subst hv; subst hy; exact h2
  | succ j => exact h.2.2 j v' y (by simpa using hv) (by simpa using hy)
theorem Cells.agg {w : World} {cs : Array Value} {xs : List AV} (h : Cells w cs.toList xs) : Rep ι0 F0 w (.agg cs) (.agg xs) := by
  refine .agg (by simpa using h.1) (fun j v hv => h.2.1 v ?_) (fun j v x hv hx => h.2.2 j v x (by simpa using hv) hx)
  have : cs.toList[j]? = some v := by simpa using hv
  exact List.mem_of_getElem? this

theorem reads_list {α : Type} {n : Nat} {Q : Nat → α → Prop} (h : ∀ i, i < n → ∃ a, Q i a) : ∃ l : List α, l.length = n ∧ ∀ i a, l[i]? = some a → Q i a := by
  induction n with
  | zero => exact ⟨[], rfl, by simp⟩
  | succ n ih =>
    obtain ⟨l, hl, hq⟩ := ih fun i hi => h i (by omega)
    obtain ⟨a, ha⟩ := h n (by omega)
    refine ⟨l ++ [a], by simp [hl], fun i b hb => ?_⟩
    by_cases hi : i < n
    · rw [List.getElem?_append_left (by omega)] at hb
      exact hq i b hb
    · have : i = n := by
        have := (List.getElem?_eq_some_iff.1 hb).1
        simp at this; omega
      subst this
      rw [List.getElem?_append_right (by omega)] at hb
      simp [hl] at hb
      subst hb
      exact ha

/-- A slice that is read: its elements, one by one. -/
theorem slice_reads {H : Type} {enc : TypeId × Value → H} {P : Program} {w : World} {n : Nat} {t e : TypeId} {cs : List Value} {x : DataW H × List MemPlace} {α : Type} {f : α → List AV} {sz : Nat}
    (ht : P.underlying t = some (.slice e)) (hs : P.cellsOf e = sz) (hpos : 0 < sz)
    (hel : ∀ m, m < n → ∀ cs y, DataW.trod enc P w 0 (fun _ => true) true m e cs = some y → ∃ a, Cells w cs (f a))
    (h : DataW.trod enc P w 0 (fun _ => true) true n t cs = some x) :
    ∃ (v : Value) (l : List α), cs = [v] ∧ v.oneCell' = true ∧ (∀ (g : α → AV), (∀ a, (g a).cells = f a) → Rep ι0 F0 w v (.list sz .none (l.map g))) ∧ (∀ a b, x.1 = .slice a b → l.length = a.length) ∧ (x.1 = .nil → l = []) ∧ l.length ≤ 9223372036854775807 := by
  rcases DataW.trod_slice ht h with ⟨rfl, rfl⟩ | ⟨a, len, cap, elems, rest, m, rfl, rfl, rfl, _, hlc, hcm, hlen, hget, _, _⟩
  · exact ⟨_, [], rfl, rfl, fun g hg => .list (fun _ => default) rfl (Nat.le_refl _) (by simp) trivial (by simp) (by simp) (by simp), fun a b h => by simp at h, fun _ => rfl, by simp⟩
  · have key : ∀ i, i < len → ∃ a0 : α, ∃ cs' : List Value, w.cells? 0 (a.add (i * sz)) sz = some cs' ∧ Cells w cs' (f a0) := by
      intro i hi
      have h1 := hget i hi
      obtain ⟨y, hy⟩ : ∃ y, elems[i]? = some y := ⟨elems[i]'(by omega), by simp [hlen, hi]⟩
      rw [hy, hs, Option.bind_eq_some_iff] at h1
      obtain ⟨cs', hc', hd⟩ := h1
      obtain ⟨a0, ha0⟩ := hel m (by omega) cs' y hd
      exact ⟨a0, cs', hc', ha0⟩
    obtain ⟨l, hl, hq⟩ := reads_list key
    refine ⟨_, l, rfl, rfl, fun g hg => ?_, fun a b h => by simp at h; rw [← h.1]; simp [hl, hlen], fun h => by simp at h, by rw [hl]; exact Nat.le_trans hlc hcm⟩
    have hall : ∀ i, i < len → ∃ a0 cs', l[i]? = some a0 ∧ w.cells? 0 (a.add (i * sz)) sz = some cs' ∧ Cells w cs' (f a0) := fun i hi => by
      have h1 : l[i]? = some (l[i]'(by omega)) := by simp [hl, hi]
      obtain ⟨cs', h2, h3⟩ := hq i _ h1
      exact ⟨_, cs', h1, h2, h3⟩
    have hfl : ∀ a0 ∈ l, (f a0).length = sz := fun a0 h0 => by
      obtain ⟨i, hi⟩ := List.getElem?_of_mem h0
      obtain ⟨cs', h2, h3⟩ := hq i a0 hi
      rw [← h3.1]
      exact (World.cells?_some h2).2.1
    have hsz : ∀ x ∈ l.map g, x.cells.length = sz := by
      intro x hx
      obtain ⟨a0, h0, rfl⟩ := List.mem_map.1 hx
      rw [hg]; exact hfl a0 h0
    have hcell : ∀ j, j < len * sz → ∃ a0 cs' v, a.spot = none ∧ l[j / sz]? = some a0 ∧ Cells w cs' (f a0) ∧ cs'[j % sz]? = some v ∧ w.cell? ⟨a.block, a.off + j, none⟩ = some v := by
      intro j hj
      have hi : j / sz < len := Nat.div_lt_of_lt_mul (by rw [Nat.mul_comm]; exact hj)
      have hm : j % sz < sz := Nat.mod_lt _ hpos
      obtain ⟨a0, cs', h1, h2, h3⟩ := hall _ hi
      obtain ⟨_, e1, e2⟩ := World.cells?_some h2
      obtain ⟨v, hv⟩ : ∃ v, cs'[j % sz]? = some v := ⟨cs'[j % sz]'(by omega), by simp [e1, hm]⟩
      have e3 := e2 (j % sz) hm
      rw [hv] at e3
      obtain ⟨b, off, spot⟩ := a
      have hsp : spot = none := by
        obtain ⟨a1, cs1, g1, g2, g3⟩ := hall 0 (Nat.lt_of_le_of_lt (Nat.zero_le _) hi)
        obtain ⟨_, k1, k2⟩ := World.cells?_some g2
        obtain ⟨v1, hv1⟩ : ∃ v, cs1[0]? = some v := ⟨cs1[0]'(by omega), by simp [k1, hpos]⟩
        have k3 := k2 0 hpos
        rw [hv1] at k3
        simpa [Addr.add] using World.cell?_spot k3
      subst hsp
      rw [WideShapes.add_plain, WideShapes.add_plain] at e3
      refine ⟨a0, cs', v, rfl, h1, h3, hv, ?_⟩
      rw [← e3, Nat.add_assoc, Nat.div_add_mod']
    refine .list (fun j => (w.cell? ⟨a.block, a.off + j, none⟩).getD default) (by simp [hl]) hlc hsz trivial (by simp) (fun j hj => ?_) (fun j x hx => ?_)
    · obtain ⟨a0, cs', v, h1, h2, h3, h4, h5⟩ := hcell j hj
      exact ⟨a, rfl, h1, by rw [h5]; rfl, F0_no _ _, by rw [h5]; exact h3.2.1 v (List.mem_of_getElem? h4)⟩
    · have hj : j < len * sz := by
        have := (List.getElem?_eq_some_iff.1 hx).1
        rw [flat_length hsz] at this
        simpa [hl] using this
      obtain ⟨a0, cs', v, h1, h2, h3, h4, h5⟩ := hcell j hj
      rw [h5]
      have hm : j % sz < sz := Nat.mod_lt _ hpos
      have hx' := flat_get hsz (j / sz) (j % sz) hm
      rw [Nat.div_add_mod'] at hx'
      rw [hx', List.getElem?_map, h2] at hx
      simp only [Option.map_some, Option.bind_some, hg] at hx
      exact h3.2.2 _ v x h4 hx

/-- A step from nothing leaves all that was there. -/
theorem Step.below {w w' : World} {ι' : Nat → Option Nat} {S' : Store} (h : Step ι0 (fun _ => none) w ι' S' w') : RowKit.Below w.heap.size w w' :=
  ⟨h.os, h.tape, h.output, h.size, fun k hk => h.blk k hk fun ⟨_, _, e, _⟩ => by cases e⟩

theorem WF0 (w : World) : WF ι0 (fun _ => none) w := ⟨by simp, by simp, by simp⟩

/-- A law that is proved as a contract, from nothing. -/
theorem law_calls {P : Program} {f : FuncId} {args : List AV} {b : Bool} (h : PureC P f args (.bool b)) {w : World} {vs : Array Value} (hr : RepL ι0 F0 w vs args) :
    Calls P f vs w fun e w' => e = .returned (.bool b) ∧ RowKit.Below w.heap.size w w' := by
  refine Calls.mono ((h ⟨fun _ => none, 0⟩).2 ι0 w vs (WF0 w) ⟨by simp, by simp⟩ hr) ?_
  rintro e w' ⟨v, r, s', ι', rfl, h1, h2, h3, h4, h5, rfl, h6⟩
  cases h5
  exact ⟨rfl, h1.below⟩
end Go.AL
