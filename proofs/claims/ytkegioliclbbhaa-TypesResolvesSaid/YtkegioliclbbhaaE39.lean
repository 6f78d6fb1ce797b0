/- TypesChecks returns true. -/
import Derived.Test.YtkegioliclbbhaaE37
set_option linter.unusedVariables false
set_option linter.unusedSimpArgs false
namespace Go.AL.Ty
open Go Go.Proofs

def SS (l : List Int) : Prop := l.Pairwise (· < ·)
theorem SS.eq {a b : List Int} (ha : SS a) (hb : SS b) (h : ∀ x, x ∈ a ↔ x ∈ b) : a = b := by
  have na : a.Nodup := ha.imp (fun h => by omega)
  have nb : b.Nodup := hb.imp (fun h => by omega)
  exact List.Perm.eq_of_pairwise (le := fun x y => x < y) (fun x y _ _ h1 h2 => by omega) ha hb ((List.perm_ext_iff_of_nodup na nb).2 h)
theorem mem_ladd (n : Int) : ∀ (l : List Int) (x : Int), x ∈ ladd n l ↔ x = n ∨ x ∈ l
  | [], x => by simp [ladd]
  | a :: r, x => by
    unfold ladd
    by_cases h : a < n
    · rw [if_pos h, List.mem_cons, List.mem_cons, mem_ladd n r x]
      exact ⟨fun h => by rcases h with h | h | h <;> simp [h], fun h => by rcases h with h | h | h <;> simp [h]⟩
    · rw [if_neg h]
      by_cases e : a = n
      · rw [if_pos e, List.mem_cons]; subst e; simp
      · rw [if_neg e]; simp
theorem SS.ladd {l : List Int} (n : Int) (h : SS l) : SS (ladd n l) := by
  induction l with
  | nil => simp [Ty.ladd, SS]
  | cons a r ih =>
    obtain ⟨h1, h2⟩ := List.pairwise_cons.1 h
    unfold Ty.ladd
    by_cases hl : a < n
    · rw [if_pos hl]
      refine List.pairwise_cons.2 ⟨fun x hx => ?_, ih h2⟩
      rcases (mem_ladd n r x).1 hx with rfl | hx
      · exact hl
      · exact h1 x hx
    · rw [if_neg hl]
      by_cases e : a = n
      · rw [if_pos e]; exact h
      · rw [if_neg e]
        refine List.pairwise_cons.2 ⟨fun x hx => ?_, h⟩
        rcases List.mem_cons.1 hx with rfl | hx
        · omega
        · have := h1 x hx; omega
theorem isort_mem (l : List Int) (x : Int) : x ∈ isort l ↔ x ∈ l := (List.mergeSort_perm l _).mem_iff
theorem SS.isort {l : List Int} (h : l.Nodup) : SS (isort l) := by
  have h1 : (Go.AL.isort l).Pairwise (fun x y => x ≤ y) := (List.pairwise_mergeSort (le := fun x y : Int => decide (x ≤ y)) (fun a b c h1 h2 => by simp at *; omega) (fun a b => by simp; omega) l).imp (by simp)
  have h2 : (Go.AL.isort l).Nodup := (List.mergeSort_perm l _).nodup_iff.2 h
  exact (h1.and h2).imp fun ⟨h1, h2⟩ => by omega
theorem ladd_isort {x : List Int} (h : x.Nodup) (n : Int) : ladd n (isort x) = isort (ains x n) := by
  refine SS.eq (SS.ladd n (SS.isort h)) (SS.isort (ains_nodup h n)) fun y => ?_
  rw [mem_ladd, isort_mem, isort_mem, ains]
  by_cases hm : n ∈ x
  · rw [if_pos hm]
    refine ⟨fun h => ?_, .inr⟩
    rcases h with rfl | h
    · exact hm
    · exact h
  · rw [if_neg hm]; simp [or_comm]

theorem cols_nums (op o : Int) : ∀ (ts : List Ty) (i : Nat) (b : Int) (x : List Int), (∀ t ∈ ts, ∀ b x, x.Nodup → col op t b (isort x) = isort (wlk (vnum op) t b x)) → x.Nodup → cols op o ts i b (isort x) = isort (wlks (vnum op) o ts i b x)
  | [], i, b, x, _, _ => by simp [cols, wlks]
  | t :: ts, i, b, x, h, hx => by
    rw [cols, wlks, h t (by simp) _ x hx]
    exact cols_nums op o ts (i + 1) b _ (fun u hu => h u (by simp [hu])) (wlk_num op t _ x hx).1
theorem col_nums (op : Int) (hop : op = 1 ∨ op = 6 ∨ op = 7) (t : Ty) : Gd t → ∀ b x, x.Nodup → col op t b (isort x) = isort (wlk (vnum op) t b x) := by
  induction t using Ty.ind with
  | h t ih =>
    intro hg b x hx
    rw [col_eq, wlk_eq]
    obtain ⟨⟨hk, _⟩, hga⟩ := hg.spec
    by_cases ho : t.op = op
    · have ha : t.args = [] := by
        have : kids t.op = 0 := by rw [ho]; rcases hop with rfl | rfl | rfl <;> rfl
        rw [this] at hk
        exact List.length_eq_zero_iff.1 (by omega)
      rw [ha, wlks]
      by_cases h1 : op = 1
      · by_cases h2 : b ≤ t.n
        · rw [if_pos ⟨ho, .inr h2⟩, if_pos h1, ladd_isort hx, vnum, if_pos ho, if_pos h1, if_pos h2]
        · rw [if_neg (by rintro ⟨_, h | h⟩ <;> omega), cols, vnum, if_pos ho, if_pos h1, if_neg h2]
      · rw [if_pos ⟨ho, .inl h1⟩, if_neg h1, ladd_isort hx, vnum, if_pos ho, if_neg h1]
    · rw [if_neg (by rintro ⟨h, _⟩; exact ho h)]
      have hv : vnum op t b x = x := by rw [vnum, if_neg ho]
      rw [hv]
      exact cols_nums op t.op t.args 0 b x (fun u hu => ih u hu (hga u hu)) hx
theorem nums_col (op : Int) (hop : op = 1 ∨ op = 6 ∨ op = 7) (t : Ty) (hg : Gd t) : col op t 0 [] = nums t op := by
  have := col_nums op hop t hg 0 [] (by simp)
  simpa [isort, nums] using this

theorem p83 (t : Ty) (op : Int) : PureC Try.prog 83 [t.av, .int .i64 op] (if proper t then .tup [.list 1 .none (il (nums t op)), .int .i64 0] else .tup [.list 1 .none [], .int .i64 2]) := by
  refine PureC.intro fun s => fun_sound mixed Try.func83 Try.call83 c83 rfl (awpFun_go _ _ _ _ ?_)
  simp (implicitDefEqProofs := false) (maxSteps := 2000000) (disch := (first | omega | (simp only [St.new_nx, St.set_nx, St.del_nx, St.bump_nx]; done) | (simp only [St.new_nx, St.set_nx, St.del_nx, St.bump_nx]; omega) | fail)) [a83, a83b, a83r0, a83r1]
  refine go_pure (p53 t) fun mm1 hm1 => ?_
  try simp only [St.new_nx, St.bump_nx, St.set_nx, St.del_nx] at hm1
  simp (implicitDefEqProofs := false) (maxSteps := 2000000) (disch := (first | omega | (simp only [St.new_nx, St.set_nx, St.del_nx, St.bump_nx]; done) | (simp only [St.new_nx, St.set_nx, St.del_nx, St.bump_nx]; omega) | fail))
  by_cases hp : proper t = true
  · have hs := proper_sz hp
    simp (implicitDefEqProofs := false) (maxSteps := 2000000) (disch := (first | omega | (simp only [St.new_nx, St.set_nx, St.del_nx, St.bump_nx]; done) | (simp only [St.new_nx, St.set_nx, St.del_nx, St.bump_nx]; omega) | fail)) [hp, a83r2, a83r3]
    refine go_pure (p119 t op (proper_fit hp) (by omega)) fun mm2 hm2 => ?_
    try simp only [St.new_nx, St.bump_nx, St.set_nx, St.del_nx] at hm2
    simp (implicitDefEqProofs := false) (maxSteps := 2000000) (disch := (first | omega | (simp only [St.new_nx, St.set_nx, St.del_nx, St.bump_nx]; done) | (simp only [St.new_nx, St.set_nx, St.del_nx, St.bump_nx]; omega) | fail))
  · simp (implicitDefEqProofs := false) (maxSteps := 2000000) (disch := (first | omega | (simp only [St.new_nx, St.set_nx, St.del_nx, St.bump_nx]; done) | (simp only [St.new_nx, St.set_nx, St.del_nx, St.bump_nx]; omega) | fail)) [hp, a83r2]
theorem p39 (t : Ty) : PureC Try.prog 39 [t.av] (if proper t then .tup [.list 1 .none (il (nums t 1)), .int .i64 0] else .tup [.list 1 .none [], .int .i64 2]) := by
  refine PureC.intro fun s => fun_sound mixed Try.func39 Try.call39 c39 rfl (awpFun_go _ _ _ _ ?_)
  have h := p83 t 1
  by_cases hp : proper t = true
  · rw [if_pos hp] at h ⊢
    simp (implicitDefEqProofs := false) (maxSteps := 2000000) (disch := (first | omega | (simp only [St.new_nx, St.set_nx, St.del_nx, St.bump_nx]; done) | (simp only [St.new_nx, St.set_nx, St.del_nx, St.bump_nx]; omega) | fail)) [a39, a39b, a39r0, a39r1]
    refine go_pure h fun mm3 hm3 => ?_
    try simp only [St.new_nx, St.bump_nx, St.set_nx, St.del_nx] at hm3
    simp (implicitDefEqProofs := false) (maxSteps := 2000000) (disch := (first | omega | (simp only [St.new_nx, St.set_nx, St.del_nx, St.bump_nx]; done) | (simp only [St.new_nx, St.set_nx, St.del_nx, St.bump_nx]; omega) | fail))
  · rw [if_neg hp] at h ⊢
    simp (implicitDefEqProofs := false) (maxSteps := 2000000) (disch := (first | omega | (simp only [St.new_nx, St.set_nx, St.del_nx, St.bump_nx]; done) | (simp only [St.new_nx, St.set_nx, St.del_nx, St.bump_nx]; omega) | fail)) [a39, a39b, a39r0, a39r1]
    refine go_pure h fun mm4 hm4 => ?_
    try simp only [St.new_nx, St.bump_nx, St.set_nx, St.del_nx] at hm4
    simp (implicitDefEqProofs := false) (maxSteps := 2000000) (disch := (first | omega | (simp only [St.new_nx, St.set_nx, St.del_nx, St.bump_nx]; done) | (simp only [St.new_nx, St.set_nx, St.del_nx, St.bump_nx]; omega) | fail))
theorem p40 (t : Ty) : PureC Try.prog 40 [t.av] (if proper t then .tup [.list 1 .none (il (nums t 6)), .int .i64 0] else .tup [.list 1 .none [], .int .i64 2]) := by
  refine PureC.intro fun s => fun_sound mixed Try.func40 Try.call40 c40 rfl (awpFun_go _ _ _ _ ?_)
  have h := p83 t 6
  by_cases hp : proper t = true
  · rw [if_pos hp] at h ⊢
    simp (implicitDefEqProofs := false) (maxSteps := 2000000) (disch := (first | omega | (simp only [St.new_nx, St.set_nx, St.del_nx, St.bump_nx]; done) | (simp only [St.new_nx, St.set_nx, St.del_nx, St.bump_nx]; omega) | fail)) [a40, a40b, a40r0, a40r1]
    refine go_pure h fun mm5 hm5 => ?_
    try simp only [St.new_nx, St.bump_nx, St.set_nx, St.del_nx] at hm5
    simp (implicitDefEqProofs := false) (maxSteps := 2000000) (disch := (first | omega | (simp only [St.new_nx, St.set_nx, St.del_nx, St.bump_nx]; done) | (simp only [St.new_nx, St.set_nx, St.del_nx, St.bump_nx]; omega) | fail))
  · rw [if_neg hp] at h ⊢
    simp (implicitDefEqProofs := false) (maxSteps := 2000000) (disch := (first | omega | (simp only [St.new_nx, St.set_nx, St.del_nx, St.bump_nx]; done) | (simp only [St.new_nx, St.set_nx, St.del_nx, St.bump_nx]; omega) | fail)) [a40, a40b, a40r0, a40r1]
    refine go_pure h fun mm6 hm6 => ?_
    try simp only [St.new_nx, St.bump_nx, St.set_nx, St.del_nx] at hm6
    simp (implicitDefEqProofs := false) (maxSteps := 2000000) (disch := (first | omega | (simp only [St.new_nx, St.set_nx, St.del_nx, St.bump_nx]; done) | (simp only [St.new_nx, St.set_nx, St.del_nx, St.bump_nx]; omega) | fail))
theorem p41 (t : Ty) : PureC Try.prog 41 [t.av] (if proper t then .tup [.list 1 .none (il (nums t 7)), .int .i64 0] else .tup [.list 1 .none [], .int .i64 2]) := by
  refine PureC.intro fun s => fun_sound mixed Try.func41 Try.call41 c41 rfl (awpFun_go _ _ _ _ ?_)
  have h := p83 t 7
  by_cases hp : proper t = true
  · rw [if_pos hp] at h ⊢
    simp (implicitDefEqProofs := false) (maxSteps := 2000000) (disch := (first | omega | (simp only [St.new_nx, St.set_nx, St.del_nx, St.bump_nx]; done) | (simp only [St.new_nx, St.set_nx, St.del_nx, St.bump_nx]; omega) | fail)) [a41, a41b, a41r0, a41r1]
    refine go_pure h fun mm7 hm7 => ?_
    try simp only [St.new_nx, St.bump_nx, St.set_nx, St.del_nx] at hm7
    simp (implicitDefEqProofs := false) (maxSteps := 2000000) (disch := (first | omega | (simp only [St.new_nx, St.set_nx, St.del_nx, St.bump_nx]; done) | (simp only [St.new_nx, St.set_nx, St.del_nx, St.bump_nx]; omega) | fail))
  · rw [if_neg hp] at h ⊢
    simp (implicitDefEqProofs := false) (maxSteps := 2000000) (disch := (first | omega | (simp only [St.new_nx, St.set_nx, St.del_nx, St.bump_nx]; done) | (simp only [St.new_nx, St.set_nx, St.del_nx, St.bump_nx]; omega) | fail)) [a41, a41b, a41r0, a41r1]
    refine go_pure h fun mm8 hm8 => ?_
    try simp only [St.new_nx, St.bump_nx, St.set_nx, St.del_nx] at hm8
    simp (implicitDefEqProofs := false) (maxSteps := 2000000) (disch := (first | omega | (simp only [St.new_nx, St.set_nx, St.del_nx, St.bump_nx]; done) | (simp only [St.new_nx, St.set_nx, St.del_nx, St.bump_nx]; omega) | fail))
theorem p42 (t : Ty) : PureC Try.prog 42 [t.av] (if proper t then .tup [.int .i64 (sz t), .int .i64 0] else .tup [.int .i64 0, .int .i64 2]) := by
  refine PureC.intro fun s => fun_sound mixed Try.func42 Try.call42 c42 rfl (awpFun_go _ _ _ _ ?_)
  simp (implicitDefEqProofs := false) (maxSteps := 2000000) (disch := (first | omega | (simp only [St.new_nx, St.set_nx, St.del_nx, St.bump_nx]; done) | (simp only [St.new_nx, St.set_nx, St.del_nx, St.bump_nx]; omega) | fail)) [a42, a42b, a42r0, a42r1]
  refine go_pure (p53 t) fun mm9 hm9 => ?_
  try simp only [St.new_nx, St.bump_nx, St.set_nx, St.del_nx] at hm9
  simp (implicitDefEqProofs := false) (maxSteps := 2000000) (disch := (first | omega | (simp only [St.new_nx, St.set_nx, St.del_nx, St.bump_nx]; done) | (simp only [St.new_nx, St.set_nx, St.del_nx, St.bump_nx]; omega) | fail))
  by_cases hp : proper t = true
  · have hs := proper_sz hp
    have hl := wide_len (proper_fit hp).1
    simp (implicitDefEqProofs := false) (maxSteps := 2000000) (disch := (first | omega | (simp only [St.new_nx, St.set_nx, St.del_nx, St.bump_nx]; done) | (simp only [St.new_nx, St.set_nx, St.del_nx, St.bump_nx]; omega) | fail)) [hp, a42r2, a42r3]
    refine go_pure (p84 t (by omega) (by omega)) fun mm10 hm10 => ?_
    try simp only [St.new_nx, St.bump_nx, St.set_nx, St.del_nx] at hm10
    simp (implicitDefEqProofs := false) (maxSteps := 2000000) (disch := (first | omega | (simp only [St.new_nx, St.set_nx, St.del_nx, St.bump_nx]; done) | (simp only [St.new_nx, St.set_nx, St.del_nx, St.bump_nx]; omega) | fail))
  · simp (implicitDefEqProofs := false) (maxSteps := 2000000) (disch := (first | omega | (simp only [St.new_nx, St.set_nx, St.del_nx, St.bump_nx]; done) | (simp only [St.new_nx, St.set_nx, St.del_nx, St.bump_nx]; omega) | fail)) [hp, a42r2]
theorem p43 (t : Ty) : PureC Try.prog 43 [t.av] (.int .i64 (if proper t then 0 else 2)) := by
  refine PureC.intro fun s => fun_sound mixed Try.func43 Try.call43 c43 rfl (awpFun_go _ _ _ _ ?_)
  simp (implicitDefEqProofs := false) (maxSteps := 2000000) (disch := (first | omega | (simp only [St.new_nx, St.set_nx, St.del_nx, St.bump_nx]; done) | (simp only [St.new_nx, St.set_nx, St.del_nx, St.bump_nx]; omega) | fail)) [a43, a43b, a43r0, a43r1]
  refine go_pure (p53 t) fun mm11 hm11 => ?_
  try simp only [St.new_nx, St.bump_nx, St.set_nx, St.del_nx] at hm11
  simp (implicitDefEqProofs := false) (maxSteps := 2000000) (disch := (first | omega | (simp only [St.new_nx, St.set_nx, St.del_nx, St.bump_nx]; done) | (simp only [St.new_nx, St.set_nx, St.del_nx, St.bump_nx]; omega) | fail))
  by_cases hp : proper t = true
  · simp (implicitDefEqProofs := false) (maxSteps := 2000000) (disch := (first | omega | (simp only [St.new_nx, St.set_nx, St.del_nx, St.bump_nx]; done) | (simp only [St.new_nx, St.set_nx, St.del_nx, St.bump_nx]; omega) | fail)) [hp, a43r2, a43r3]
  · simp (implicitDefEqProofs := false) (maxSteps := 2000000) (disch := (first | omega | (simp only [St.new_nx, St.set_nx, St.del_nx, St.bump_nx]; done) | (simp only [St.new_nx, St.set_nx, St.del_nx, St.bump_nx]; omega) | fail)) [hp, a43r2]
theorem p45 (t : Ty) (hf : Fit t 0) (hs : sz t ≤ 1000000) : PureC Try.prog 45 [t.av] (.list 1 .none (il (col 1 t 0 []))) := by
  refine PureC.intro fun s => fun_sound mixed Try.func45 Try.call45 c45 rfl (awpFun_go _ _ _ _ ?_)
  simp (implicitDefEqProofs := false) (maxSteps := 2000000) (disch := (first | omega | (simp only [St.new_nx, St.set_nx, St.del_nx, St.bump_nx]; done) | (simp only [St.new_nx, St.set_nx, St.del_nx, St.bump_nx]; omega) | fail)) [a45, a45b, a45r0, a45r1]
  refine go_pure (PureC.argw (p86 1 t 0 hf [] (by simpa using hs)) (by simp [il])) fun mm12 hm12 => ?_
  try simp only [St.new_nx, St.bump_nx, St.set_nx, St.del_nx] at hm12
  simp (implicitDefEqProofs := false) (maxSteps := 2000000) (disch := (first | omega | (simp only [St.new_nx, St.set_nx, St.del_nx, St.bump_nx]; done) | (simp only [St.new_nx, St.set_nx, St.del_nx, St.bump_nx]; omega) | fail))
theorem p46 (t : Ty) (hf : Fit t 0) (hs : sz t ≤ 1000000) : PureC Try.prog 46 [t.av] (.list 1 .none (il (col 6 t 0 []))) := by
  refine PureC.intro fun s => fun_sound mixed Try.func46 Try.call46 c46 rfl (awpFun_go _ _ _ _ ?_)
  simp (implicitDefEqProofs := false) (maxSteps := 2000000) (disch := (first | omega | (simp only [St.new_nx, St.set_nx, St.del_nx, St.bump_nx]; done) | (simp only [St.new_nx, St.set_nx, St.del_nx, St.bump_nx]; omega) | fail)) [a46, a46b, a46r0, a46r1]
  refine go_pure (PureC.argw (p86 6 t 0 hf [] (by simpa using hs)) (by simp [il])) fun mm13 hm13 => ?_
  try simp only [St.new_nx, St.bump_nx, St.set_nx, St.del_nx] at hm13
  simp (implicitDefEqProofs := false) (maxSteps := 2000000) (disch := (first | omega | (simp only [St.new_nx, St.set_nx, St.del_nx, St.bump_nx]; done) | (simp only [St.new_nx, St.set_nx, St.del_nx, St.bump_nx]; omega) | fail))
theorem p47 (t : Ty) (hf : Fit t 0) (hs : sz t ≤ 1000000) : PureC Try.prog 47 [t.av] (.list 1 .none (il (col 7 t 0 []))) := by
  refine PureC.intro fun s => fun_sound mixed Try.func47 Try.call47 c47 rfl (awpFun_go _ _ _ _ ?_)
  simp (implicitDefEqProofs := false) (maxSteps := 2000000) (disch := (first | omega | (simp only [St.new_nx, St.set_nx, St.del_nx, St.bump_nx]; done) | (simp only [St.new_nx, St.set_nx, St.del_nx, St.bump_nx]; omega) | fail)) [a47, a47b, a47r0, a47r1]
  refine go_pure (PureC.argw (p86 7 t 0 hf [] (by simpa using hs)) (by simp [il])) fun mm14 hm14 => ?_
  try simp only [St.new_nx, St.bump_nx, St.set_nx, St.del_nx] at hm14
  simp (implicitDefEqProofs := false) (maxSteps := 2000000) (disch := (first | omega | (simp only [St.new_nx, St.set_nx, St.del_nx, St.bump_nx]; done) | (simp only [St.new_nx, St.set_nx, St.del_nx, St.bump_nx]; omega) | fail))

theorem p85 (l : List Int) (hl : l.length ≤ 1000000) : PureC Try.prog 85 [.list 1 .none (il l), .list 1 .none (il l)] (.bool true) := by
  refine PureC.intro fun s => fun_sound mixed Try.func85 Try.call85 c85 rfl (awpFun_go _ _ _ _ ?_)
  simp (implicitDefEqProofs := false) (maxSteps := 2000000) (disch := (first | omega | (simp only [St.new_nx, St.set_nx, St.del_nx, St.bump_nx]; done) | (simp only [St.new_nx, St.set_nx, St.del_nx, St.bump_nx]; omega) | fail)) [a85, a85b, a85r0, a85r1, a85r3]
  refine go_loop (fun k g s1 => ∃ (i : Nat), i ≤ l.length ∧ k = l.length - i ∧ g.get 0 = .list 1 .none (il l) ∧ g.get 1 = .list 1 .none (il l) ∧ g.get 12 = .int .i64 l.length ∧ g.get 13 = .int .i64 i ∧ Kept s s1 ∧ s.nx ≤ s1.nx) l.length ⟨0, by omega, by omega, ?_, ?_, ?_, ?_, ?_, ?_⟩ ?_
  iterate 6 (simp (implicitDefEqProofs := false) (maxSteps := 2000000) (disch := (first | omega | (simp only [St.new_nx, St.set_nx, St.del_nx, St.bump_nx]; done) | (simp only [St.new_nx, St.set_nx, St.del_nx, St.bump_nx]; omega) | fail)))
  rintro k g s1 ⟨i, hi, rfl, h0, h1, h12, h13, hk, hn⟩
  by_cases hil : i < l.length
  · have hx : l[i]? = some l[i] := by simp [hil]
    have hx' := il_get hx
    have hcc : (il l)[i]'(by simpa using hil) = .int .i64 l[i] := by simp [il]
    have hlt' : (i : Int) < l.length := by omega
    have w2 : IntKind.i64.wrap ((i : Int) + 1) = ((i + 1 : Nat) : Int) := by rw [wrap64 (by omega) (by omega)]; omega
    simp (implicitDefEqProofs := false) (maxSteps := 2000000) (disch := (first | omega | (simp only [St.new_nx, St.set_nx, St.del_nx, St.bump_nx]; done) | (simp only [St.new_nx, St.set_nx, St.del_nx, St.bump_nx]; omega) | fail)) [a85l9, a85r4, a85r5, a85r6, a85r7, a85r8, h0, h1, h12, h13, hlt', hil, hx', hcc, w2]
    intro m hm
    refine go_next (l.length - (i + 1)) (by omega) ⟨i + 1, by omega, rfl, ?_, ?_, ?_, ?_, ?_, ?_⟩
    all_goals (try simp (implicitDefEqProofs := false) (maxSteps := 2000000) (disch := (first | omega | (simp only [St.new_nx, St.set_nx, St.del_nx, St.bump_nx]; done) | (simp only [St.new_nx, St.set_nx, St.del_nx, St.bump_nx]; omega) | fail)) [h0, h1, h12, hk])
    all_goals omega
  · have hlt' : ¬ (i : Int) < l.length := by omega
    simp (implicitDefEqProofs := false) (maxSteps := 2000000) (disch := (first | omega | (simp only [St.new_nx, St.set_nx, St.del_nx, St.bump_nx]; done) | (simp only [St.new_nx, St.set_nx, St.del_nx, St.bump_nx]; omega) | fail)) [a85l9, a85r4, a85r10, h12, h13, hlt', hk]
theorem p44 (l : List Int) (hl : l.length ≤ 1000000) : PureC Try.prog 44 [.list 1 .none (il l), .list 1 .none (il l)] (.bool true) := by
  refine PureC.intro fun s => fun_sound mixed Try.func44 Try.call44 c44 rfl (awpFun_go _ _ _ _ ?_)
  simp (implicitDefEqProofs := false) (maxSteps := 2000000) (disch := (first | omega | (simp only [St.new_nx, St.set_nx, St.del_nx, St.bump_nx]; done) | (simp only [St.new_nx, St.set_nx, St.del_nx, St.bump_nx]; omega) | fail)) [a44, a44b, a44r0, a44r1]
  refine go_pure (p85 l hl) fun mm15 hm15 => ?_
  try simp only [St.new_nx, St.bump_nx, St.set_nx, St.del_nx] at hm15
  simp (implicitDefEqProofs := false) (maxSteps := 2000000) (disch := (first | omega | (simp only [St.new_nx, St.set_nx, St.del_nx, St.bump_nx]; done) | (simp only [St.new_nx, St.set_nx, St.del_nx, St.bump_nx]; omega) | fail))

theorem p10 (t : Ty) : PureC Try.prog 10 [t.av] (.bool true) := by
  refine PureC.intro fun s => fun_sound mixed Try.func10 Try.call10 c10 rfl (awpFun_go _ _ _ _ ?_)
  have h39 := p39 t
  have h40 := p40 t
  have h41 := p41 t
  have h42 := p42 t
  have h43 := p43 t
  have h13 := p13 t
  by_cases hp : proper t = true
  · rw [if_pos hp] at h39 h40 h41 h42 h43
    rw [hp] at h13
    have hs := proper_sz hp
    have hf := proper_fit hp
    have hg := Gd.of hp
    have hl := wide_len hf.1
    have c1 := nums_col 1 (by omega) t hg
    have c6 := nums_col 6 (by omega) t hg
    have c7 := nums_col 7 (by omega) t hg
    have l1 := col_len 1 t 0 []
    have l6 := col_len 6 t 0 []
    have l7 := col_len 7 t 0 []
    rw [c1] at l1
    rw [c6] at l6
    rw [c7] at l7
    have h45 := p45 t hf (by omega)
    have h46 := p46 t hf (by omega)
    have h47 := p47 t hf (by omega)
    rw [c1] at h45
    rw [c6] at h46
    rw [c7] at h47
    simp only [List.length_nil] at l1 l6 l7
    have s1 := p44 (nums t 1) (by omega)
    have s6 := p44 (nums t 6) (by omega)
    have s7 := p44 (nums t 7) (by omega)
    have h48 := p48 t (by omega) (by omega)
    generalize nums t 1 = n1 at *
    generalize nums t 6 = n6 at *
    generalize nums t 7 = n7 at *
    simp (implicitDefEqProofs := false) (maxSteps := 2000000) (disch := (first | omega | (simp only [St.new_nx, St.set_nx, St.del_nx, St.bump_nx]; done) | (simp only [St.new_nx, St.set_nx, St.del_nx, St.bump_nx]; omega) | fail)) [a10, a10b, a10r0, a10r1]
    refine go_pure h39 fun mm16 hm16 => ?_
    try simp only [St.new_nx, St.bump_nx, St.set_nx, St.del_nx] at hm16
    simp (implicitDefEqProofs := false) (maxSteps := 2000000) (disch := (first | omega | (simp only [St.new_nx, St.set_nx, St.del_nx, St.bump_nx]; done) | (simp only [St.new_nx, St.set_nx, St.del_nx, St.bump_nx]; omega) | fail)) [a10r2]
    refine go_pure h40 fun mm17 hm17 => ?_
    try simp only [St.new_nx, St.bump_nx, St.set_nx, St.del_nx] at hm17
    simp (implicitDefEqProofs := false) (maxSteps := 2000000) (disch := (first | omega | (simp only [St.new_nx, St.set_nx, St.del_nx, St.bump_nx]; done) | (simp only [St.new_nx, St.set_nx, St.del_nx, St.bump_nx]; omega) | fail)) [a10r3]
    refine go_pure h41 fun mm18 hm18 => ?_
    try simp only [St.new_nx, St.bump_nx, St.set_nx, St.del_nx] at hm18
    simp (implicitDefEqProofs := false) (maxSteps := 2000000) (disch := (first | omega | (simp only [St.new_nx, St.set_nx, St.del_nx, St.bump_nx]; done) | (simp only [St.new_nx, St.set_nx, St.del_nx, St.bump_nx]; omega) | fail)) [a10r4]
    refine go_pure h42 fun mm19 hm19 => ?_
    try simp only [St.new_nx, St.bump_nx, St.set_nx, St.del_nx] at hm19
    simp (implicitDefEqProofs := false) (maxSteps := 2000000) (disch := (first | omega | (simp only [St.new_nx, St.set_nx, St.del_nx, St.bump_nx]; done) | (simp only [St.new_nx, St.set_nx, St.del_nx, St.bump_nx]; omega) | fail)) [a10r5]
    refine go_pure h43 fun mm20 hm20 => ?_
    try simp only [St.new_nx, St.bump_nx, St.set_nx, St.del_nx] at hm20
    simp (implicitDefEqProofs := false) (maxSteps := 2000000) (disch := (first | omega | (simp only [St.new_nx, St.set_nx, St.del_nx, St.bump_nx]; done) | (simp only [St.new_nx, St.set_nx, St.del_nx, St.bump_nx]; omega) | fail)) [a10r6]
    refine go_pure h13 fun mm21 hm21 => ?_
    try simp only [St.new_nx, St.bump_nx, St.set_nx, St.del_nx] at hm21
    simp (implicitDefEqProofs := false) (maxSteps := 2000000) (disch := (first | omega | (simp only [St.new_nx, St.set_nx, St.del_nx, St.bump_nx]; done) | (simp only [St.new_nx, St.set_nx, St.del_nx, St.bump_nx]; omega) | fail)) [a10r8]
    refine go_pure h45 fun mm22 hm22 => ?_
    try simp only [St.new_nx, St.bump_nx, St.set_nx, St.del_nx] at hm22
    simp (implicitDefEqProofs := false) (maxSteps := 2000000) (disch := (first | omega | (simp only [St.new_nx, St.set_nx, St.del_nx, St.bump_nx]; done) | (simp only [St.new_nx, St.set_nx, St.del_nx, St.bump_nx]; omega) | fail))
    refine go_pure s1 fun mm23 hm23 => ?_
    try simp only [St.new_nx, St.bump_nx, St.set_nx, St.del_nx] at hm23
    simp (implicitDefEqProofs := false) (maxSteps := 2000000) (disch := (first | omega | (simp only [St.new_nx, St.set_nx, St.del_nx, St.bump_nx]; done) | (simp only [St.new_nx, St.set_nx, St.del_nx, St.bump_nx]; omega) | fail))
    refine go_pure h46 fun mm24 hm24 => ?_
    try simp only [St.new_nx, St.bump_nx, St.set_nx, St.del_nx] at hm24
    simp (implicitDefEqProofs := false) (maxSteps := 2000000) (disch := (first | omega | (simp only [St.new_nx, St.set_nx, St.del_nx, St.bump_nx]; done) | (simp only [St.new_nx, St.set_nx, St.del_nx, St.bump_nx]; omega) | fail))
    refine go_pure s6 fun mm25 hm25 => ?_
    try simp only [St.new_nx, St.bump_nx, St.set_nx, St.del_nx] at hm25
    simp (implicitDefEqProofs := false) (maxSteps := 2000000) (disch := (first | omega | (simp only [St.new_nx, St.set_nx, St.del_nx, St.bump_nx]; done) | (simp only [St.new_nx, St.set_nx, St.del_nx, St.bump_nx]; omega) | fail))
    refine go_pure h47 fun mm26 hm26 => ?_
    try simp only [St.new_nx, St.bump_nx, St.set_nx, St.del_nx] at hm26
    simp (implicitDefEqProofs := false) (maxSteps := 2000000) (disch := (first | omega | (simp only [St.new_nx, St.set_nx, St.del_nx, St.bump_nx]; done) | (simp only [St.new_nx, St.set_nx, St.del_nx, St.bump_nx]; omega) | fail))
    refine go_pure s7 fun mm27 hm27 => ?_
    try simp only [St.new_nx, St.bump_nx, St.set_nx, St.del_nx] at hm27
    simp (implicitDefEqProofs := false) (maxSteps := 2000000) (disch := (first | omega | (simp only [St.new_nx, St.set_nx, St.del_nx, St.bump_nx]; done) | (simp only [St.new_nx, St.set_nx, St.del_nx, St.bump_nx]; omega) | fail))
    refine go_pure h48 fun mm28 hm28 => ?_
    try simp only [St.new_nx, St.bump_nx, St.set_nx, St.del_nx] at hm28
    simp (implicitDefEqProofs := false) (maxSteps := 2000000) (disch := (first | omega | (simp only [St.new_nx, St.set_nx, St.del_nx, St.bump_nx]; done) | (simp only [St.new_nx, St.set_nx, St.del_nx, St.bump_nx]; omega) | fail))
    refine go_pure p16 fun mm29 hm29 => ?_
    try simp only [St.new_nx, St.bump_nx, St.set_nx, St.del_nx] at hm29
    simp (implicitDefEqProofs := false) (maxSteps := 2000000) (disch := (first | omega | (simp only [St.new_nx, St.set_nx, St.del_nx, St.bump_nx]; done) | (simp only [St.new_nx, St.set_nx, St.del_nx, St.bump_nx]; omega) | fail))
  · have hp' : proper t = false := by simpa using hp
    rw [if_neg hp] at h39 h40 h41 h42 h43
    rw [hp'] at h13
    simp (implicitDefEqProofs := false) (maxSteps := 2000000) (disch := (first | omega | (simp only [St.new_nx, St.set_nx, St.del_nx, St.bump_nx]; done) | (simp only [St.new_nx, St.set_nx, St.del_nx, St.bump_nx]; omega) | fail)) [a10, a10b, a10r0, a10r1]
    refine go_pure h39 fun mm30 hm30 => ?_
    try simp only [St.new_nx, St.bump_nx, St.set_nx, St.del_nx] at hm30
    simp (implicitDefEqProofs := false) (maxSteps := 2000000) (disch := (first | omega | (simp only [St.new_nx, St.set_nx, St.del_nx, St.bump_nx]; done) | (simp only [St.new_nx, St.set_nx, St.del_nx, St.bump_nx]; omega) | fail)) [a10r2]
    refine go_pure h40 fun mm31 hm31 => ?_
    try simp only [St.new_nx, St.bump_nx, St.set_nx, St.del_nx] at hm31
    simp (implicitDefEqProofs := false) (maxSteps := 2000000) (disch := (first | omega | (simp only [St.new_nx, St.set_nx, St.del_nx, St.bump_nx]; done) | (simp only [St.new_nx, St.set_nx, St.del_nx, St.bump_nx]; omega) | fail)) [a10r3]
    refine go_pure h41 fun mm32 hm32 => ?_
    try simp only [St.new_nx, St.bump_nx, St.set_nx, St.del_nx] at hm32
    simp (implicitDefEqProofs := false) (maxSteps := 2000000) (disch := (first | omega | (simp only [St.new_nx, St.set_nx, St.del_nx, St.bump_nx]; done) | (simp only [St.new_nx, St.set_nx, St.del_nx, St.bump_nx]; omega) | fail)) [a10r4]
    refine go_pure h42 fun mm33 hm33 => ?_
    try simp only [St.new_nx, St.bump_nx, St.set_nx, St.del_nx] at hm33
    simp (implicitDefEqProofs := false) (maxSteps := 2000000) (disch := (first | omega | (simp only [St.new_nx, St.set_nx, St.del_nx, St.bump_nx]; done) | (simp only [St.new_nx, St.set_nx, St.del_nx, St.bump_nx]; omega) | fail)) [a10r5]
    refine go_pure h43 fun mm34 hm34 => ?_
    try simp only [St.new_nx, St.bump_nx, St.set_nx, St.del_nx] at hm34
    simp (implicitDefEqProofs := false) (maxSteps := 2000000) (disch := (first | omega | (simp only [St.new_nx, St.set_nx, St.del_nx, St.bump_nx]; done) | (simp only [St.new_nx, St.set_nx, St.del_nx, St.bump_nx]; omega) | fail)) [a10r6]
    refine go_pure h13 fun mm35 hm35 => ?_
    try simp only [St.new_nx, St.bump_nx, St.set_nx, St.del_nx] at hm35
    simp (implicitDefEqProofs := false) (maxSteps := 2000000) (disch := (first | omega | (simp only [St.new_nx, St.set_nx, St.del_nx, St.bump_nx]; done) | (simp only [St.new_nx, St.set_nx, St.del_nx, St.bump_nx]; omega) | fail)) [a10r7, show IntKind.i64.wrap 0 = 0 from rfl]
    refine go_pure p16 fun mm36 hm36 => ?_
    try simp only [St.new_nx, St.bump_nx, St.set_nx, St.del_nx] at hm36
    simp (implicitDefEqProofs := false) (maxSteps := 2000000) (disch := (first | omega | (simp only [St.new_nx, St.set_nx, St.del_nx, St.bump_nx]; done) | (simp only [St.new_nx, St.set_nx, St.del_nx, St.bump_nx]; omega) | fail))
end Go.AL.Ty
/- Metavariables: what needs what, resolved types. -/
set_option linter.unusedVariables false
set_option linter.unusedSimpArgs false
namespace Go.AL.Ty
open Go Go.Proofs

mutual
/-- A metavariable occurs. -/
def occ (k : Int) : Ty → Prop
  | mk op n _ args => (op = 6 ∧ n = k) ∨ occs k args
def occs (k : Int) : List Ty → Prop
  | [] => False
  | t :: ts => occ k t ∨ occs k ts
end
theorem occs_iff (k : Int) : ∀ l, occs k l ↔ ∃ x ∈ l, occ k x
  | [] => by simp [occs]
  | t :: ts => by simp [occs, occs_iff k ts]
theorem occ_eq (k : Int) (t : Ty) : occ k t ↔ (t.op = 6 ∧ t.n = k) ∨ ∃ x ∈ t.args, occ k x := by
  cases t
  rw [occ, occs_iff]
  rfl
theorem mem_ains (l : List Int) (n x : Int) : x ∈ ains l n ↔ x ∈ l ∨ x = n := by
  unfold ains
  by_cases h : n ∈ l
  · rw [if_pos h]
    exact ⟨.inl, fun h' => h'.elim id (fun e => e ▸ h)⟩
  · rw [if_neg h]; simp
theorem mem_wlks (o : Int) (x : Int) : ∀ (ts : List Ty) (i : Nat) (b : Int) (l : List Int), (∀ t ∈ ts, ∀ b l, x ∈ wlk (vnum 6) t b l ↔ x ∈ l ∨ occ x t) → (x ∈ wlks (vnum 6) o ts i b l ↔ x ∈ l ∨ ∃ t ∈ ts, occ x t)
  | [], i, b, l, _ => by simp [wlks]
  | t :: ts, i, b, l, h => by
    rw [wlks, mem_wlks o x ts (i + 1) b _ (fun u hu => h u (by simp [hu])), h t (by simp)]
    simp [or_assoc]
theorem mem_wlk (x : Int) (t : Ty) : ∀ b l, x ∈ wlk (vnum 6) t b l ↔ x ∈ l ∨ occ x t := by
  induction t using Ty.ind with
  | h t ih =>
    intro b l
    rw [wlk_eq, mem_wlks t.op x t.args 0 b _ ih, occ_eq]
    unfold vnum
    by_cases h : t.op = 6
    · rw [if_pos h, if_neg (by decide), mem_ains]
      simp only [h, true_and]
      constructor
      · rintro ((h | h) | h)
        · exact .inl h
        · exact .inr (.inl h.symm)
        · exact .inr (.inr h)
      · rintro (h | h | h)
        · exact .inl (.inl h)
        · exact .inl (.inr h.symm)
        · exact .inr h
    · rw [if_neg h]
      simp [h]
theorem mem_nums (t : Ty) (x : Int) : x ∈ nums t 6 ↔ occ x t := by
  rw [nums, isort_mem, mem_wlk]; simp

/-! ## What is good but for its size -/

def lgC (t : Ty) : Prop := ((t.args.length : Int) = kids t.op ∧ 0 ≤ t.n ∧ t.n ≤ 9999 ∧ 1 ≤ t.op ∧ t.op ≤ 7 ∧ (t.n ≠ 0 → isNum t.op = true) ∧ (t.op = 2 ↔ t.s ≠ ⟨#[]⟩)) ∧ t.s.size ≤ 40
inductive LG : Ty → Prop
  | node {t : Ty} : lgC t → (∀ x ∈ t.args, LG x) → LG t
theorem LG.c {t : Ty} (h : LG t) : lgC t := by cases h; assumption
theorem LG.args {t : Ty} (h : LG t) : ∀ x ∈ t.args, LG x := by cases h; assumption
theorem kids_le (o : Int) : 0 ≤ kids o ∧ kids o ≤ 2 := by unfold kids; split <;> omega
theorem LG.gd {t : Ty} (h : LG t) (d l : Int) : gd t d l = if l - 1 < 0 ∨ 40 < d then (false, l - 1) else gds t.args (d + 1) (l - 1) := by
  obtain ⟨⟨h1, h2, h3, h4, h5, h6, h7⟩, h8⟩ := h.c
  rw [gd_eq]
  by_cases hc : l - 1 < 0 ∨ 40 < d
  · rw [if_pos hc, if_pos hc]
  · rw [if_neg hc, if_neg hc, if_neg (by omega), if_neg, if_neg]
    · rintro (h | h)
      · exact h h7
      · omega
    · rintro (h | h | ⟨h, h'⟩)
      · omega
      · omega
      · rw [h6 h] at h'; cases h'
theorem gds_all : ∀ (ts : List Ty) (d l : Int), (gds ts d l).1 = true → ∀ x ∈ ts, ∃ l', (Ty.gd x d l').1 = true
  | [], _, _, _, x, hx => by simp at hx
  | t :: ts, d, l, h, x, hx => by
    simp only [gds] at h
    by_cases ht : (Ty.gd t d l).1 = true
    · rw [if_pos ht] at h
      rcases List.mem_cons.1 hx with rfl | hx
      · exact ⟨l, ht⟩
      · exact gds_all ts d _ h x hx
    · rw [if_neg ht] at h; cases h
theorem lg_of (t : Ty) : ∀ d l, (Ty.gd t d l).1 = true → LG t := by
  induction t using Ty.ind with
  | h t ih =>
    intro d l h
    rw [gd_eq] at h
    split at h
    · cases h
    split at h
    · cases h
    split at h
    · cases h
    split at h
    · cases h
    rename_i h1 h2 h3 h4
    refine .node ⟨⟨by omega, by omega, by omega, by omega, by omega, fun hn => ?_, ?_⟩, by omega⟩ fun x hx => ?_
    · cases hb : isNum t.op
      · exact absurd (.inr (.inr ⟨hn, hb⟩)) h3
      · rfl
    · exact Classical.byContradiction fun hc => h4 (.inl hc)
    · obtain ⟨l', hl⟩ := gds_all _ _ _ h x hx
      exact ih x hx _ _ hl
theorem Gd.lg {t : Ty} (h : Gd t) : LG t := by
  obtain ⟨d, l, _, h⟩ := h
  exact lg_of t d l h
theorem LG.gds_iff : ∀ (ts : List Ty) (d l : Int), (∀ x ∈ ts, ∀ d l, 0 ≤ l → ((Ty.gd x d l).1 = true ↔ sz x ≤ l ∧ d + ht x ≤ 41)) → 0 ≤ l → d ≤ 41 → ((gds ts d l).1 = true ↔ szs ts ≤ l ∧ d + hts ts ≤ 41)
  | [], d, l, _, h1, h2 => by simp [gds, szs, hts]; omega
  | t :: ts, d, l, h, h1, h2 => by
    have hth := h t (by simp) d l h1
    have hp := szs_pos ts
    simp only [gds, szs, hts]
    by_cases hb : (Ty.gd t d l).1 = true
    · have hs := gd_sz t d l hb
      rw [if_pos hb, LG.gds_iff ts d _ (fun x hx => h x (by simp [hx])) (by omega) h2, hs.2]
      have := hth.1 hb
      omega
    · rw [if_neg hb]
      have : ¬ (sz t ≤ l ∧ d + ht t ≤ 41) := fun hc => hb (hth.2 hc)
      simp only [Bool.false_eq_true, false_iff]
      omega
theorem LG.gd_iff {t : Ty} : LG t → ∀ d l, 0 ≤ l → ((Ty.gd t d l).1 = true ↔ sz t ≤ l ∧ d + ht t ≤ 41) := by
  induction t using Ty.ind with
  | h t ih =>
    intro h d l hl
    have hp := szs_pos t.args
    have hht : ht t = 1 + hts t.args := by cases t; rw [ht]; rfl
    rw [h.gd, sz_eq, hht]
    by_cases hc : l - 1 < 0 ∨ 40 < d
    · rw [if_pos hc]; simp; omega
    · rw [if_neg hc, LG.gds_iff t.args (d + 1) (l - 1) (fun x hx => ih x hx (h.args x hx)) (by omega) (by omega)]
      omega
theorem LG.proper_iff {t : Ty} (h : LG t) : proper t = true ↔ sz t ≤ 600 ∧ ht t ≤ 40 := by
  rw [proper, h.gd_iff 1 600 (by omega)]
  omega
theorem LG.up {t x : Ty} (h : LG t) (hx : x ∈ t.args) (hp : proper t = true) : proper x = true := by
  rw [h.proper_iff] at hp
  rw [(h.args x hx).proper_iff]
  have h1 := sz_mem hx
  have h2 := ht_mem hx
  omega
theorem LG.occ_nn {k : Int} {t : Ty} : LG t → occ k t → 0 ≤ k ∧ k ≤ 9999 := by
  induction t using Ty.ind with
  | h t ih =>
    intro h ho
    rcases (occ_eq k t).1 ho with ⟨_, rfl⟩ | ⟨x, hx, ho⟩
    · obtain ⟨⟨h1, h2, h3, _⟩, _⟩ := h.c
      exact ⟨h2, h3⟩
    · exact ih x hx (h.args x hx) ho
theorem LG.meta {t : Ty} (h : LG t) (ho : t.op = 6) : t.args = [] := by
  obtain ⟨⟨h1, _⟩, _⟩ := h.c
  rw [ho] at h1
  exact List.length_eq_zero_iff.1 (by have : kids 6 = 0 := rfl; omega)

/-! ## Metavariables -/

structure Mt where
  kind : Ty
  lvl : Int
  solved : Bool
  value : Ty
def Mt.av (m : Mt) : AV := .agg [.int .i64 m.kind.op, .int .i64 m.kind.n, .str m.kind.s, .list 4 .none (m.kind.args.map Ty.av), .int .i64 m.lvl, .bool m.solved, .int .i64 m.value.op, .int .i64 m.value.n, .str m.value.s, .list 4 .none (m.value.args.map Ty.av)]
@[simp] theorem Mt.av_cells (m : Mt) : m.av.cells = [.int .i64 m.kind.op, .int .i64 m.kind.n, .str m.kind.s, .list 4 .none (m.kind.args.map Ty.av), .int .i64 m.lvl, .bool m.solved, .int .i64 m.value.op, .int .i64 m.value.n, .str m.value.s, .list 4 .none (m.value.args.map Ty.av)] := rfl

/-- The value of a solved metavariable. -/
def vl (M : List Mt) (k : Int) : Option Ty := if 0 ≤ k then (match M[k.toNat]? with | some m => if m.solved then some m.value else none | none => none) else none
def dep (M : List Mt) (i j : Int) : Prop := ∃ v, vl M j = some v ∧ occ i v
def okM (M : List Mt) : Prop := ∀ m ∈ M, m.solved = true → proper m.value = true ∧ nums m.value 1 = [] ∧ ∀ k ∈ nums m.value 6, k < M.length
def GK (M : List Mt) (t : Ty) : Prop := LG t ∧ ∀ k, occ k t → k < M.length
theorem vl_some {M : List Mt} {k : Int} {v : Ty} (h : vl M k = some v) : ∃ m, 0 ≤ k ∧ M[k.toNat]? = some m ∧ m.solved = true ∧ m.value = v ∧ k < M.length ∧ m ∈ M := by
  unfold vl at h
  split at h
  · rename_i hk
    split at h
    · rename_i m hm
      split at h
      · rename_i hs
        simp at h
        have := (List.getElem?_eq_some_iff.1 hm).1
        exact ⟨m, hk, hm, hs, h, by omega, List.mem_of_getElem? hm⟩
      · cases h
    · cases h
  · cases h
theorem okM.gk {M : List Mt} (h : okM M) {k : Int} {v : Ty} (hv : vl M k = some v) : GK M v ∧ Gd v := by
  obtain ⟨m, _, _, hs, rfl, _, hm⟩ := vl_some hv
  obtain ⟨h1, _, h3⟩ := h m hm hs
  exact ⟨⟨(Gd.of h1).lg, fun k hk => h3 k ((mem_nums _ _).2 hk)⟩, Gd.of h1⟩

mutual
/-- A type with values for metavariables. -/
def rs (f : Int → Option Ty) : Ty → Ty
  | mk op n s args => if op = 6 then (f n).getD (mk op n s args) else mk op n s (rss f args)
def rss (f : Int → Option Ty) : List Ty → List Ty
  | [] => []
  | t :: ts => rs f t :: rss f ts
end
theorem rss_map (f : Int → Option Ty) : ∀ l, rss f l = l.map (rs f)
  | [] => rfl
  | t :: ts => by simp [rss, rss_map f ts]
theorem rs_eq (f : Int → Option Ty) (t : Ty) : rs f t = if t.op = 6 then (f t.n).getD t else mk t.op t.n t.s (t.args.map (rs f)) := by
  cases t; rw [rs, rss_map]; rfl
theorem rs_congr {f g : Int → Option Ty} {t : Ty} : (∀ k, occ k t → f k = g k) → rs f t = rs g t := by
  induction t using Ty.ind with
  | h t ih =>
    intro h
    rw [rs_eq, rs_eq]
    by_cases ho : t.op = 6
    · rw [if_pos ho, if_pos ho, h t.n ((occ_eq _ _).2 (.inl ⟨ho, rfl⟩))]
    · rw [if_neg ho, if_neg ho]
      congr 1
      exact List.map_congr_left fun x hx => ih x hx fun k hk => h k ((occ_eq _ _).2 (.inr ⟨x, hx, hk⟩))
theorem rs_lg {f : Int → Option Ty} {t : Ty} : LG t → (∀ k w, occ k t → f k = some w → LG w) → LG (rs f t) := by
  induction t using Ty.ind with
  | h t ih =>
    intro hl h
    rw [rs_eq]
    by_cases ho : t.op = 6
    · rw [if_pos ho]
      cases hf : f t.n with
      | none => exact hl
      | some w => exact h t.n w ((occ_eq _ _).2 (.inl ⟨ho, rfl⟩)) hf
    · rw [if_neg ho]
      obtain ⟨⟨h1, h2⟩, h3⟩ := hl.c
      refine .node ⟨⟨by simpa using h1, h2⟩, h3⟩ ?_
      intro x hx
      simp only [args_mk, List.mem_map] at hx
      obtain ⟨y, hy, rfl⟩ := hx
      exact ih y hy (hl.args y hy) fun k w hk => h k w ((occ_eq _ _).2 (.inr ⟨y, hy, hk⟩))

section
variable {M : List Mt}
open Classical in
noncomputable def val (hw : WellFounded (dep M)) : Int → Ty :=
  hw.fix fun n ih => match vl M n with
    | some v => rs (fun k => (vl M k).bind fun _ => if h : dep M k n then some (ih k h) else none) v
    | none => nul
noncomputable def rsf (hw : WellFounded (dep M)) (k : Int) : Option Ty := (vl M k).map fun _ => val hw k
/-- A resolved type. -/
noncomputable def rv (hw : WellFounded (dep M)) (t : Ty) : Ty := rs (rsf hw) t
theorem val_eq (hw : WellFounded (dep M)) {n : Int} {v : Ty} (h : vl M n = some v) : val hw n = rv hw v := by
  rw [val, WellFounded.fix_eq]
  simp only [h]
  refine rs_congr fun k hk => ?_
  have hd : dep M k n := ⟨v, h, hk⟩
  cases hv : vl M k with
  | none => simp [rsf, hv]
  | some w => simp [rsf, hv, hd]; rfl
theorem rv_meta (hw : WellFounded (dep M)) {t v : Ty} (ho : t.op = 6) (h : vl M t.n = some v) : rv hw t = rv hw v := by
  rw [← val_eq hw h, rv, rs_eq, if_pos ho, rsf, h]; rfl
theorem rv_none (hw : WellFounded (dep M)) {t : Ty} (ho : t.op = 6) (h : vl M t.n = none) : rv hw t = t := by
  rw [rv, rs_eq, if_pos ho, rsf, h]; rfl
theorem rv_node (hw : WellFounded (dep M)) {t : Ty} (ho : t.op ≠ 6) : rv hw t = mk t.op t.n t.s (t.args.map (rv hw)) := by
  rw [rv, rs_eq, if_neg ho]; rfl
theorem val_lg (hw : WellFounded (dep M)) (hM : okM M) (n : Int) : ∀ v, vl M n = some v → LG (val hw n) := by
  induction n using hw.induction with
  | _ n ih =>
    intro v hv
    rw [val_eq hw hv]
    refine rs_lg (hM.gk hv).1.1 fun k w hk hf => ?_
    unfold rsf at hf
    cases hw' : vl M k with
    | none => rw [hw'] at hf; cases hf
    | some w' =>
      rw [hw'] at hf
      cases hf
      exact ih k ⟨v, hv, hk⟩ w' hw'
theorem rv_lg (hw : WellFounded (dep M)) (hM : okM M) {t : Ty} (h : LG t) : LG (rv hw t) := by
  refine rs_lg h fun k w hk hf => ?_
  unfold rsf at hf
  cases hw' : vl M k with
  | none => rw [hw'] at hf; cases hf
  | some w' =>
    rw [hw'] at hf
    cases hf
    exact val_lg hw hM k w' hw'

open Classical in
noncomputable def clen (hw : WellFounded (dep M)) : Int → Nat :=
  hw.fix fun n ih => match vl M n with
    | some v => 1 + (if h : v.op = 6 ∧ dep M v.n n then ih v.n h.2 else 0)
    | none => 0
/-- How many metavariables stand in a chain. -/
noncomputable def cl (hw : WellFounded (dep M)) (t : Ty) : Nat := if t.op = 6 then clen hw t.n else 0
theorem cl_eq (hw : WellFounded (dep M)) {t v : Ty} (ho : t.op = 6) (h : vl M t.n = some v) : cl hw t = 1 + cl hw v := by
  rw [cl, if_pos ho, clen, WellFounded.fix_eq]
  simp only [h]
  congr 1
  by_cases h6 : v.op = 6
  · have hd : v.op = 6 ∧ dep M v.n t.n := ⟨h6, v, h, (occ_eq _ _).2 (.inl ⟨h6, rfl⟩)⟩
    rw [dif_pos hd, cl, if_pos h6]; rfl
  · rw [dif_neg (fun hc => h6 hc.1), cl, if_neg h6]
end
end Go.AL.Ty
