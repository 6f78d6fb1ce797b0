/- The order of types: antisymmetric, total, transitive. -/
import Derived.Test.YtkegioliclbbhaaE23
set_option linter.unusedVariables false
set_option linter.unusedSimpArgs false
namespace Go.AL.Ty
open Go Go.Proofs

theorem bl_irrefl : ∀ x, Op.bytesLess x x = false
  | [] => rfl
  | a :: x => by simp [Op.bytesLess, bl_irrefl x, UInt8.lt_irrefl]
theorem bl_trans : ∀ x y z, Op.bytesLess x y = true → Op.bytesLess y z = true → Op.bytesLess x z = true
  | _, [], _, h, _ => by cases ‹List UInt8› <;> simp [Op.bytesLess] at h
  | _, _ :: _, [], _, h => by simp [Op.bytesLess] at h
  | [], _ :: _, _ :: _, _, _ => by simp [Op.bytesLess]
  | a :: x, b :: y, c :: z, h1, h2 => by
    simp only [Op.bytesLess, Bool.or_eq_true, decide_eq_true_eq, Bool.and_eq_true, beq_iff_eq] at h1 h2 ⊢
    rcases h1 with h1 | ⟨rfl, h1⟩
    · rcases h2 with h2 | ⟨rfl, h2⟩
      · exact .inl (UInt8.lt_trans h1 h2)
      · exact .inl h1
    · rcases h2 with h2 | ⟨rfl, h2⟩
      · exact .inl h2
      · exact .inr ⟨rfl, bl_trans x y z h1 h2⟩
theorem bl_tri : ∀ x y, Op.bytesLess x y = false → x ≠ y → Op.bytesLess y x = true
  | [], [], _, h => absurd rfl h
  | [], _ :: _, h, _ => by simp [Op.bytesLess] at h
  | _ :: _, [], _, _ => by simp [Op.bytesLess]
  | a :: x, b :: y, h1, h2 => by
    simp only [Op.bytesLess, Bool.or_eq_false_iff, decide_eq_false_iff_not, Bool.and_eq_false_iff, beq_eq_false_iff_ne] at h1
    simp only [Op.bytesLess, Bool.or_eq_true, decide_eq_true_eq, Bool.and_eq_true, beq_iff_eq]
    by_cases e : a = b
    · subst e
      rcases h1.2 with h | h
      · exact absurd rfl h
      · exact .inr ⟨rfl, bl_tri x y h fun k => h2 (by rw [k])⟩
    · refine .inl ?_
      have h3 := h1.1
      rcases UInt8.lt_or_lt_of_ne e with h | h
      · exact absurd h h3
      · exact h
theorem bl_asymm (x y : List UInt8) (h : Op.bytesLess x y = true) : Op.bytesLess y x = false := by
  cases h2 : Op.bytesLess y x with
  | false => rfl
  | true =>
    have := bl_trans _ _ _ h h2
    rw [bl_irrefl] at this; exact this.symm
theorem ba_inj {a b : ByteArray} (h : a.toList = b.toList) : a = b := by
  have h2 := toList_eq_of a b
  rw [h] at h2
  simpa using h2.symm

theorem cmpI_neg (a b : Int) : cmpI b a = - cmpI a b := by
  unfold cmpI
  split <;> split <;> omega
theorem cmpS_neg (a b : ByteArray) : cmpS b a = - cmpS a b := by
  unfold cmpS
  by_cases e : a = b
  · subst e; simp [bl_irrefl]
  · have e' : ¬ b = a := fun h => e h.symm
    cases h : Op.bytesLess a.toList b.toList
    · have h2 := bl_tri _ _ h fun k => e (ba_inj k)
      simp [h2, e, e']
    · have h2 := bl_asymm _ _ h
      simp [h2, e, e']
theorem cmpS_zero (a b : ByteArray) : cmpS a b = 0 ↔ a = b := by
  unfold cmpS
  by_cases e : a = b
  · subst e; simp [bl_irrefl]
  · cases h : Op.bytesLess a.toList b.toList <;> simp [e]
theorem cmpI_zero_iff (a b : Int) : cmpI a b = 0 ↔ a = b := ⟨cmpI_zero, fun h => by subst h; simp [cmpI]⟩
theorem orI_neg (l : List Int) : orI (l.map fun x => -x) = - orI l := by
  induction l with
  | nil => rfl
  | cons x xs ih =>
    simp only [List.map_cons, orI, ih]
    by_cases h : x = 0 <;> simp [h]
theorem orI_zero (l : List Int) : orI l = 0 ↔ ∀ x ∈ l, x = 0 := by
  induction l with
  | nil => simp [orI]
  | cons x xs ih =>
    simp only [orI, List.mem_cons, forall_eq_or_imp]
    by_cases h : x = 0 <;> simp [h, ih]
theorem ords_neg : ∀ (ts us : List Ty), (∀ x ∈ ts, ∀ u, ord u x = - ord x u) → ords us ts = - ords ts us
  | [], [], _ => by simp [ords]
  | [], u :: us, _ => by simp [ords]
  | t :: ts, [], _ => by simp [ords]
  | t :: ts, u :: us, h => by
    have := orI_neg [ord t u, ords ts us]
    simp only [ords]
    rw [h t (by simp) u, ords_neg ts us fun x hx => h x (by simp [hx]), ← this]
    rfl
theorem ord_neg (t : Ty) : ∀ u, ord u t = - ord t u := by
  induction t using Ty.ind with
  | h t ih =>
    intro u
    have h1 := orI_neg [cmpI (sz t) (sz u), orI [cmpI t.op u.op, cmpI t.n u.n, cmpS t.s u.s], ords t.args u.args]
    have h2 := orI_neg [cmpI t.op u.op, cmpI t.n u.n, cmpS t.s u.s]
    rw [ord_eq u t, ord_eq t u, ← h1]
    simp only [List.map_cons, List.map_nil] at h2 ⊢
    rw [cmpI_neg (sz t), cmpI_neg t.op, cmpI_neg t.n, cmpS_neg t.s, ords_neg _ _ ih, ← h2]
theorem ords_zero : ∀ (ts us : List Ty), (∀ x ∈ ts, ∀ u, ord x u = 0 ↔ same x u = true) → (ords ts us = 0 ↔ sames ts us = true)
  | [], [], _ => by simp [ords, sames]
  | [], u :: us, _ => by simp [ords, sames]
  | t :: ts, [], _ => by simp [ords, sames]
  | t :: ts, u :: us, h => by
    simp only [ords, sames, orI_zero, List.mem_cons, List.not_mem_nil, or_false, forall_eq_or_imp, forall_eq, Bool.and_eq_true]
    rw [h t (by simp) u, ords_zero ts us fun x hx => h x (by simp [hx])]
theorem sames_szs : ∀ (ts us : List Ty), (∀ x ∈ ts, ∀ u, same x u = true → sz x = sz u) → sames ts us = true → szs ts = szs us
  | [], us, _, h => by simp [sames] at h; subst h; rfl
  | t :: ts, [], _, h => by simp [sames] at h
  | t :: ts, u :: us, hx, h => by
    simp only [sames, Bool.and_eq_true] at h
    simp only [szs]
    rw [hx t (by simp) u h.1, sames_szs ts us (fun x hx' => hx x (by simp [hx'])) h.2]
theorem same_eq (t u : Ty) : same t u = true ↔ t.op = u.op ∧ t.n = u.n ∧ t.s = u.s ∧ sames t.args u.args = true := by
  cases t; simp [same]
theorem same_sz (t : Ty) : ∀ u, same t u = true → sz t = sz u := by
  induction t using Ty.ind with
  | h t ih =>
    intro u h
    rw [sz_eq, sz_eq, sames_szs _ _ ih ((same_eq _ _).1 h).2.2.2]
theorem ord_zero (t : Ty) : ∀ u, ord t u = 0 ↔ same t u = true := by
  induction t using Ty.ind with
  | h t ih =>
    intro u
    rw [ord_eq, orI_zero]
    simp only [List.mem_cons, List.not_mem_nil, or_false, forall_eq_or_imp, forall_eq, orI_zero, cmpI_zero_iff, cmpS_zero, ords_zero _ _ ih]
    constructor
    · rintro ⟨_, ⟨h1, h2, h3⟩, h4⟩
      exact (same_eq _ _).2 ⟨h1, h2, h3, h4⟩
    · intro h
      obtain ⟨h1, h2, h3, h4⟩ := (same_eq _ _).1 h
      exact ⟨same_sz t u h, ⟨h1, h2, h3⟩, h4⟩
theorem sames_symm : ∀ (ts us : List Ty), (∀ x ∈ ts, ∀ u, same u x = same x u) → sames us ts = sames ts us
  | [], [], _ => rfl
  | [], u :: us, _ => by simp [sames]
  | t :: ts, [], _ => by simp [sames]
  | t :: ts, u :: us, h => by simp only [sames]; rw [h t (by simp) u, sames_symm ts us fun x hx => h x (by simp [hx])]
theorem same_symm (t u : Ty) : same u t = same t u := by
  rw [Bool.eq_iff_iff, ← ord_zero, ← ord_zero, ord_neg t u]
  omega
theorem orI_bound (l : List Int) (h : ∀ x ∈ l, -1 ≤ x ∧ x ≤ 1) : -1 ≤ orI l ∧ orI l ≤ 1 := by
  induction l with
  | nil => simp [orI]
  | cons x xs ih =>
    simp only [orI]
    split
    · exact ih fun y hy => h y (by simp [hy])
    · exact h x (by simp)
theorem cmpI_bound (a b : Int) : -1 ≤ cmpI a b ∧ cmpI a b ≤ 1 := by unfold cmpI; split <;> (try split) <;> omega
theorem cmpS_bound (a b : ByteArray) : -1 ≤ cmpS a b ∧ cmpS a b ≤ 1 := by unfold cmpS; split <;> (try split) <;> omega
theorem ords_bound : ∀ (ts us : List Ty), (∀ x ∈ ts, ∀ u, -1 ≤ ord x u ∧ ord x u ≤ 1) → -1 ≤ ords ts us ∧ ords ts us ≤ 1
  | [], us, _ => by simp only [ords]; split <;> omega
  | t :: ts, [], _ => by simp [ords]
  | t :: ts, u :: us, h => by
    simp only [ords]
    refine orI_bound _ ?_
    simp only [List.mem_cons, List.not_mem_nil, or_false, forall_eq_or_imp, forall_eq]
    exact ⟨h t (by simp) u, ords_bound ts us fun x hx => h x (by simp [hx])⟩
theorem ord_bound (t : Ty) : ∀ u, -1 ≤ ord t u ∧ ord t u ≤ 1 := by
  induction t using Ty.ind with
  | h t ih =>
    intro u
    rw [ord_eq]
    refine orI_bound _ ?_
    simp only [List.mem_cons, List.not_mem_nil, or_false, forall_eq_or_imp, forall_eq]
    refine ⟨cmpI_bound _ _, orI_bound _ ?_, ords_bound _ _ ih⟩
    simp only [List.mem_cons, List.not_mem_nil, or_false, forall_eq_or_imp, forall_eq]
    exact ⟨cmpI_bound _ _, cmpI_bound _ _, cmpS_bound _ _⟩
end Go.AL.Ty
