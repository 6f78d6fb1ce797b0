/- TypesBack: the plain laws. -/
import Derived.Test.YtkegioliclbbhaaE20
set_option linter.unusedVariables false
set_option linter.unusedSimpArgs false
namespace Go.AL.Ty
open Go Go.Proofs

theorem pt_mk (l : List Ty) (op n : Int) (s : ByteArray) (a : List Ty) (b : Int) : pt l (mk op n s a) b = if op ≠ 1 then none else if n - b < 0 then some (mk op n s a)
  else if n - b < l.length then (l[l.length - 1 - (n - b).toNat]?).map fun x => moved x b 0 else some (mk 1 (n - l.length) ⟨#[]⟩ []) := rfl
theorem mv_mk (by_ from_ : Int) (op n : Int) (s : ByteArray) (a : List Ty) (b : Int) : mv by_ from_ (mk op n s a) b = if op ≠ 1 then none else if n < b + from_ then some (mk op n s a) else some (mk 1 (n + by_) ⟨#[]⟩ []) := rfl
theorem map_mk (f : Ty → Int → Option Ty) (op n : Int) (s : ByteArray) (a : List Ty) (b : Int) : map f (mk op n s a) b = match f (mk op n s a) b with | some u => u | none => mk op n s (maps f op a 0 b) := by rw [map]; rfl
theorem shf_mk (by_ from_ : Int) (op n : Int) (s : ByteArray) (a : List Ty) (k : Int) : shf by_ from_ (mk op n s a) k = if op = 1 ∧ from_ ≤ n - k then (mk op (n + by_) s [], decide (from_ ≤ n + by_ - k)) else (mk op n s (shfs by_ from_ op a 0 k).1, (shfs by_ from_ op a 0 k).2) := by rw [shf]
theorem shfs_back (d op : Int) : ∀ (l : List Ty) (i : Nat) (b : Int), (∀ x ∈ l, ∀ b, shf (-d) 0 (shf d 0 x b).1 b = (x, true)) → shfs (-d) 0 op (shfs d 0 op l i b).1 i b = (l, true)
  | [], _, _, _ => by simp [shfs]
  | t :: ts, i, b, h => by
    simp only [shfs]
    rw [h t (by simp), shfs_back d op ts (i + 1) b fun x hx => h x (by simp [hx])]
    rfl
theorem shf_back (d : Int) (hd : 0 ≤ d) (t : Ty) : Gd t → ∀ b, shf (-d) 0 (shf d 0 t b).1 b = (t, true) := by
  induction t using Ty.ind with
  | h t ih =>
    intro hg b
    rw [shf_eq d]
    by_cases hc : t.op = 1 ∧ 0 ≤ t.n - b
    · rw [if_pos hc]
      dsimp only
      rw [shf_mk, if_pos ⟨hc.1, by omega⟩]
      have hv := hg.var hc.1
      have e1 : t.s = ⟨#[]⟩ := by rw [hv]; rfl
      have e2 : mk t.op (t.n + d + -d) t.s [] = t := by
        rw [hc.1, e1, show t.n + d + -d = t.n by omega]
        exact hv.symm
      rw [e2]
      congr 1
      simp only [decide_eq_true_eq]; omega
    · rw [if_neg hc]
      dsimp only
      rw [shf_mk, if_neg hc, shfs_back d t.op t.args 0 b fun x hx b => ih x hx (hg.spec.2 x hx) b]
      simp only [eta]

theorem maps_back (f : Ty → Int → Option Ty) (g : Ty → Int → Ty) (gs : List Ty → Nat → Int → List Ty) (op : Int) (h0 : ∀ i b, gs [] i b = []) (h1 : ∀ t ts i b, gs (t :: ts) i b = g t (b + belw op i) :: gs ts (i + 1) b) :
    ∀ (l : List Ty) (i : Nat) (b : Int), 0 ≤ b → (∀ x ∈ l, ∀ b, 0 ≤ b → map f (g x b) b = x) → maps f op (gs l i b) i b = l
  | [], i, b, _, _ => by simp [maps, h0]
  | t :: ts, i, b, hb, h => by
    have := belw_bound op i
    rw [h1, maps, h t (by simp) _ (by omega), maps_back f g gs op h0 h1 ts (i + 1) b hb fun x hx => h x (by simp [hx])]
theorem put_back (l : List Ty) (t : Ty) : Gd t → ∀ b, 0 ≤ b → map (pt l) (shf l.length 0 t b).1 b = t := by
  induction t using Ty.ind with
  | h t ih =>
    intro hg b hb
    rw [shf_eq]
    by_cases hc : t.op = 1 ∧ 0 ≤ t.n - b
    · rw [if_pos hc]
      have hv := hg.var hc.1
      have e1 : t.s = ⟨#[]⟩ := by rw [hv]; rfl
      dsimp only
      rw [map_mk, pt_mk, if_neg (by simp [hc.1]), if_neg (by omega), if_neg (by omega)]
      simp only
      rw [show t.n + (l.length : Int) - l.length = t.n by omega]
      exact hv.symm
    · rw [if_neg hc]
      dsimp only
      rw [map_mk, pt_mk]
      by_cases ho : t.op = 1
      · have hv := hg.var ho
        have e2 : t.args = [] := by rw [hv]; rfl
        rw [if_neg (by simp [ho]), if_pos (by omega), e2, shfs]
        simp only
        rw [← e2, eta]
      · rw [if_pos (by simp [ho])]
        simp only
        rw [maps_back (pt l) (fun x b => (shf l.length 0 x b).1) (fun x i b => (shfs l.length 0 t.op x i b).1) t.op (fun _ _ => by simp [shfs]) (fun _ _ _ _ => by simp [shfs]) t.args 0 b hb fun x hx b hb => ih x hx (hg.spec.2 x hx) b hb, eta]

theorem idx_get (l : List Int) (n : Int) (h : n ∈ l) : 0 ≤ idx l n ∧ idx l n < l.length ∧ l[(idx l n).toNat]? = some n := by
  have : ∀ (l : List Int) (i : Nat), n ∈ l → ∃ j : Nat, firstAt (fun x => decide (n = x)) l i = ((i + j : Nat) : Int) ∧ l[j]? = some n := by
    intro l
    induction l with
    | nil => intro i h; cases h
    | cons x xs ih =>
      intro i h
      simp only [firstAt]
      by_cases e : n = x
      · exact ⟨0, by simp [e], by simp [e]⟩
      · obtain ⟨j, h1, h2⟩ := ih (i + 1) (by simpa [e] using h)
        exact ⟨j + 1, by simp [e, h1]; omega, by simpa using h2⟩
  obtain ⟨j, h1, h2⟩ := this l 0 h
  have hj := (List.getElem?_eq_some_iff.1 h2).1
  rw [← idx] at h1
  rw [h1]
  refine ⟨by omega, by omega, ?_⟩
  simpa using h2
theorem Gd.num {t : Ty} (h : Gd t) (ho : t.op = 6 ∨ t.op = 7) : t = mk t.op t.n ⟨#[]⟩ [] := by
  obtain ⟨⟨h1, h2, h3, h4, h5, h6, h7⟩, h8⟩ := h.spec
  cases t with
  | mk op n s args =>
    simp only [op_mk, n_mk, s_mk, args_mk] at *
    have e1 : args = [] := List.length_eq_zero_iff.1 (by have : kids op = 0 := by unfold kids; split <;> omega
                                                         omega)
    have e2 : s = ⟨#[]⟩ := Decidable.byContradiction fun hn => by have := h7.2 hn; omega
    rw [e1, e2]
def owns (op : Int) (l : List Int) : List Ty := l.map fun n => mk op n ⟨#[]⟩ []
theorem own_back (op : Int) (hop : op = 6 ∨ op = 7) (l : List Int) (t : Ty) : Gd t → ∀ b, 0 ≤ b → map (pt (owns op l)) (bn op l t b) b = t := by
  induction t using Ty.ind with
  | h t ih =>
    intro hg b hb
    have hlen : (owns op l).length = l.length := by simp [owns]
    rw [bn_eq]
    by_cases hA : t.op = op ∧ t.n ∈ l
    · rw [if_pos hA]
      obtain ⟨g1, g2, g3⟩ := idx_get l t.n hA.2
      have hgt : (owns op l)[(owns op l).length - 1 - ((l.length : Int) - 1 - idx l t.n + b - b).toNat]? = some (mk op t.n ⟨#[]⟩ []) := by
        rw [hlen, show l.length - 1 - ((l.length : Int) - 1 - idx l t.n + b - b).toNat = (idx l t.n).toNat by omega]
        simp [owns, g3]
      rw [var, map_mk, pt_mk, if_neg (by simp), if_neg (by omega), if_pos (by omega), hgt]
      simp only [Option.map_some]
      have e : moved (mk op t.n ⟨#[]⟩ []) b 0 = mk op t.n ⟨#[]⟩ [] := by
        rw [moved, map_mk, mv_mk, if_pos (by omega)]
        simp [maps]
      rw [e, ← hA.1]
      exact (hg.num (by rw [hA.1]; exact hop)).symm
    · rw [if_neg hA]
      by_cases ho : t.op = 1
      · have hv := hg.var ho
        have e1 : t.s = ⟨#[]⟩ := by rw [hv]; rfl
        have e2 : t.args = [] := by rw [hv]; rfl
        by_cases hn : b ≤ t.n
        · rw [if_pos ⟨ho, hn⟩, map_mk, pt_mk, if_neg (by simp [ho]), if_neg (by omega), if_neg (by omega), hlen]
          simp only
          rw [show t.n + (l.length : Int) - l.length = t.n by omega]
          exact hv.symm
        · rw [if_neg (by omega), map_mk, pt_mk, if_neg (by simp [ho]), if_pos (by omega), e2, bns]
          simp only
          rw [← e2, eta]
      · rw [if_neg (by simp [ho]), map_mk, pt_mk, if_pos (by simp [ho])]
        simp only
        rw [maps_back (pt (owns op l)) (bn op l) (bns op l t.op) t.op (fun _ _ => by simp [bns]) (fun _ _ _ _ => by simp [bns]) t.args 0 b hb fun x hx b hb => ih x hx (hg.spec.2 x hx) b hb, eta]
end Go.AL.Ty
