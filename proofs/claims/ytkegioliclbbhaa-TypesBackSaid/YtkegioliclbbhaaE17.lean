/- Numbers in lists, variables bound. -/
import Derived.Test.YtkegioliclbbhaaE16
set_option linter.unusedVariables false
set_option linter.unusedSimpArgs false
namespace Go.AL.Ty
open Go Go.Proofs

def il (l : List Int) : List AV := l.map (.int .i64)
@[simp] theorem il_length (l : List Int) : (il l).length = l.length := by simp [il]
theorem il_get {l : List Int} {i : Nat} {x : Int} (h : l[i]? = some x) : (il l)[i]? = some (.int .i64 x) := by simp [il, h]
theorem il_take (l : List Int) (i : Nat) : (il l).take i = il (l.take i) := by simp [il, List.map_take]
def idx (l : List Int) (n : Int) : Int := firstAt (fun x => decide (n = x)) l 0
theorem idx_neg (l : List Int) (n : Int) : decide (0 ≤ idx l n) = decide (n ∈ l) := by
  have h := firstAt_neg (fun x => decide (n = x)) l 0
  rw [idx, decide_eq_decide, h]
  simp only [List.any_eq_true, decide_eq_true_eq]
  exact ⟨fun ⟨x, hx, e⟩ => e ▸ hx, fun h => ⟨n, h, rfl⟩⟩

theorem p107 (l : List Int) (n : Int) (hlen : l.length ≤ 9223372036854775807) : PureC Try.prog 107 [.list 1 .none (il l), .int .i64 n] (.int .i64 (idx l n)) := by
  refine PureC.intro fun s => fun_sound mixed Try.func107 Try.call107 c107 rfl (awpFun_go _ _ _ _ ?_)
  simp (implicitDefEqProofs := false) (maxSteps := 2000000) (disch := (first | omega | (simp only [St.new_nx, St.set_nx, St.del_nx, St.bump_nx]; done) | (simp only [St.new_nx, St.set_nx, St.del_nx, St.bump_nx]; omega) | fail)) [a107, a107b, a107r0, a107r1]
  refine go_loop (fun k g s1 => ∃ (i : Nat), i ≤ l.length ∧ k = l.length - i ∧ firstAt (fun x => decide (n = x)) (l.drop i) i = idx l n ∧
    g.get 0 = .list 1 .none (il l) ∧ g.get 7 = .int .i64 l.length ∧ g.get 8 = .int .i64 i ∧ g.get 1 = .int .i64 n ∧ Kept s s1 ∧ s.nx ≤ s1.nx) l.length ⟨0, Nat.zero_le _, by simp, by simp [idx], by simp, by simp, by simp, by simp, by simp, by simp⟩ ?_
  rintro k g s1 ⟨i, hi, rfl, hg, h0, h7, h8, h1, hk, hn⟩
  by_cases hlt : i < l.length
  · have hx : l[i]? = some l[i] := by simp [hlt]
    have hx' := il_get hx
    have hlt' : (i : Int) < l.length := by omega
    have w2 : IntKind.i64.wrap ((i : Int) + 1) = ((i + 1 : Nat) : Int) := by rw [wrap64 (by omega) (by omega)]; omega
    have hdrop : l.drop i = l[i] :: l.drop (i + 1) := List.drop_eq_getElem_cons hlt
    rw [hdrop, firstAt] at hg
    simp (implicitDefEqProofs := false) (maxSteps := 2000000) (disch := (first | omega | (simp only [St.new_nx, St.set_nx, St.del_nx, St.bump_nx]; done) | (simp only [St.new_nx, St.set_nx, St.del_nx, St.bump_nx]; omega) | fail)) [a107l7, a107r2, a107r3, a107r4, a107r5, a107r6, h0, h7, h8, h1, hlt', hlt, hx']
    refine ⟨fun hb => ?_, fun hb => ?_⟩
    · rw [if_pos (by simpa using hb)] at hg
      exact ⟨hg, hk⟩
    · rw [if_neg (by simpa using hb)] at hg
      rw [w2]
      refine go_next (l.length - (i + 1)) (by omega) ⟨i + 1, by omega, rfl, hg, ?_, ?_, ?_, ?_, ?_, ?_⟩ <;> (try simp (implicitDefEqProofs := false) (maxSteps := 2000000) (disch := (first | omega | (simp only [St.new_nx, St.set_nx, St.del_nx, St.bump_nx]; done) | (simp only [St.new_nx, St.set_nx, St.del_nx, St.bump_nx]; omega) | fail)) [h0, h7, h8, h1, hk])
      exact hn
  · have hlt' : ¬ (i : Int) < l.length := by omega
    have hdrop : l.drop i = [] := List.drop_eq_nil_of_le (by omega)
    rw [hdrop, firstAt] at hg
    simp (implicitDefEqProofs := false) (maxSteps := 2000000) (disch := (first | omega | (simp only [St.new_nx, St.set_nx, St.del_nx, St.bump_nx]; done) | (simp only [St.new_nx, St.set_nx, St.del_nx, St.bump_nx]; omega) | fail)) [a107l7, a107r2, h0, h7, h8, h1, hlt', a107r8, ← hg, hk]

theorem p65 (l : List Int) (n : Int) (hlen : l.length ≤ 9223372036854775807) : PureC Try.prog 65 [.list 1 .none (il l), .int .i64 n] (.bool (decide (n ∈ l))) := by
  refine PureC.intro fun s => fun_sound mixed Try.func65 Try.call65 c65 rfl (awpFun_go _ _ _ _ ?_)
  simp (implicitDefEqProofs := false) (maxSteps := 2000000) (disch := (first | omega | (simp only [St.new_nx, St.set_nx, St.del_nx, St.bump_nx]; done) | (simp only [St.new_nx, St.set_nx, St.del_nx, St.bump_nx]; omega) | fail)) [a65, a65b, a65r0, a65r1]
  refine go_pure (p107 l n hlen) fun mm1 hm1 => ?_
  try simp only [St.new_nx, St.bump_nx, St.set_nx, St.del_nx] at hm1
  simp (implicitDefEqProofs := false) (maxSteps := 2000000) (disch := (first | omega | (simp only [St.new_nx, St.set_nx, St.del_nx, St.bump_nx]; done) | (simp only [St.new_nx, St.set_nx, St.del_nx, St.bump_nx]; omega) | fail)) [idx_neg]

theorem p109 (n : Int) : PureC Try.prog 109 [.int .i64 n] (var n).av := by
  refine PureC.intro fun s => fun_sound mixed Try.func109 Try.call109 c109 rfl (awpFun_go _ _ _ _ ?_)
  simp (implicitDefEqProofs := false) (maxSteps := 2000000) (disch := (first | omega | (simp only [St.new_nx, St.set_nx, St.del_nx, St.bump_nx]; done) | (simp only [St.new_nx, St.set_nx, St.del_nx, St.bump_nx]; omega) | fail)) [a109, a109b, a109r0, a109r1, var, av_mk]

theorem idx_bound (l : List Int) (n : Int) : -1 ≤ idx l n ∧ idx l n < l.length ∨ l = [] ∧ idx l n = -1 := by
  have : ∀ (l : List Int) (i : Nat), firstAt (fun x => decide (n = x)) l i = -1 ∨ (i : Int) ≤ firstAt (fun x => decide (n = x)) l i ∧ firstAt (fun x => decide (n = x)) l i < i + l.length := by
    intro l
    induction l with
    | nil => intro i; simp [firstAt]
    | cons x xs ih =>
      intro i
      simp only [firstAt]
      split
      · right; simp; omega
      · rcases ih (i + 1) with h | h
        · exact .inl h
        · right; simp at h ⊢; omega
  have h := this l 0
  rw [← idx] at h
  cases l with
  | nil => right; simp [idx, firstAt]
  | cons x xs => left; simp at h ⊢; omega

/-- What Bound does at a node. -/
def bnd (op : Int) (l : List Int) (t : Ty) (b : Int) : Option Ty :=
  if t.op = op ∧ t.n ∈ l then some (var (l.length - 1 - idx l t.n + b))
  else if t.op = 1 ∧ b ≤ t.n then some (var (t.n + l.length))
  else if t.op = 1 then some t else none
theorem p108 (op : Int) (l : List Int) (t : Ty) (b : Int) (hf : Fit t b) (hl : l.length ≤ 1000000) :
    ∃ u : Ty, PureC Try.prog 108 [t.av, .int .i64 b, .cptr [.int .i64 op], .cptr [.list 1 .none (il l)]] (.tup [u.av, .bool (bnd op l t b).isSome]) ∧ ∀ v, bnd op l t b = some v → u = v := by
  refine ⟨(bnd op l t b).getD t, PureC.intro fun s => fun_sound mixed Try.func108 Try.call108 c108 rfl (awpFun_go _ _ _ _ ?_), fun v hv => by rw [hv]; rfl⟩
  have hn := wide_n hf.1
  have hb := hf.2
  have hi := idx_bound l t.n
  have w1 : IntKind.i64.wrap ((l.length : Int) - 1) = (l.length : Int) - 1 := wrap64 (by omega) (by omega)
  have w2 : IntKind.i64.wrap ((l.length : Int) - 1 - idx l t.n) = (l.length : Int) - 1 - idx l t.n := wrap64 (by omega) (by omega)
  have w3 : IntKind.i64.wrap ((l.length : Int) - 1 - idx l t.n + b) = (l.length : Int) - 1 - idx l t.n + b := wrap64 (by omega) (by omega)
  have w4 : IntKind.i64.wrap (t.n + l.length) = t.n + l.length := wrap64 (by omega) (by omega)
  generalize hB : bnd op l t b = B
  simp (implicitDefEqProofs := false) (maxSteps := 2000000) (disch := (first | omega | (simp only [St.new_nx, St.set_nx, St.del_nx, St.bump_nx]; done) | (simp only [St.new_nx, St.set_nx, St.del_nx, St.bump_nx]; omega) | fail)) [a108, a108b, a108r0, a108r1, a108r2, a108r3, a108r4, a108r5]
  have tail : ¬ (t.op = op ∧ t.n ∈ l) → B = if t.op = 1 ∧ b ≤ t.n then some (var (t.n + l.length)) else if t.op = 1 then some t else none := fun h1 => by rw [← hB, bnd, if_neg h1]
  refine ⟨fun h1 => ?_, fun h1 => ?_⟩
  · refine go_pure (p65 l t.n (by omega)) fun mm2 hm2 => ?_
    try simp only [St.new_nx, St.bump_nx, St.set_nx, St.del_nx] at hm2
    simp (implicitDefEqProofs := false) (maxSteps := 2000000) (disch := (first | omega | (simp only [St.new_nx, St.set_nx, St.del_nx, St.bump_nx]; done) | (simp only [St.new_nx, St.set_nx, St.del_nx, St.bump_nx]; omega) | fail))
    refine ⟨fun h2 => ?_, fun h2 => ?_⟩
    · have hB' : B = some (var (l.length - 1 - idx l t.n + b)) := by rw [← hB, bnd, if_pos ⟨h1, h2⟩]
      refine pcV_intro (p107 l t.n (by omega)) ?_
      simp (implicitDefEqProofs := false) (maxSteps := 2000000) (disch := (first | omega | (simp only [St.new_nx, St.set_nx, St.del_nx, St.bump_nx]; done) | (simp only [St.new_nx, St.set_nx, St.del_nx, St.bump_nx]; omega) | fail)) [w1, w2, w3]
      refine pcV_intro (p109 (l.length - 1 - idx l t.n + b)) ?_
      simp (implicitDefEqProofs := false) (maxSteps := 2000000) (disch := (first | omega | (simp only [St.new_nx, St.set_nx, St.del_nx, St.bump_nx]; done) | (simp only [St.new_nx, St.set_nx, St.del_nx, St.bump_nx]; omega) | fail)) [hB']
    · have hB' := tail (by simp [h2])
      refine ⟨fun h3 => ⟨fun h4 => ?_, fun h4 => ?_⟩, fun h3 => ?_⟩
      · rw [w4]
        rw [if_pos ⟨h3, h4⟩] at hB'
        refine go_pure (p109 (t.n + l.length)) fun mm3 hm3 => ?_
        try simp only [St.new_nx, St.bump_nx, St.set_nx, St.del_nx] at hm3
        simp (implicitDefEqProofs := false) (maxSteps := 2000000) (disch := (first | omega | (simp only [St.new_nx, St.set_nx, St.del_nx, St.bump_nx]; done) | (simp only [St.new_nx, St.set_nx, St.del_nx, St.bump_nx]; omega) | fail)) [hB']
      · rw [if_neg (by omega), if_pos h3] at hB'
        simp [hB', h3]
      · rw [if_neg (by omega), if_neg h3] at hB'
        simp [hB', h3]
  · have hB' := tail (by simp [h1])
    refine ⟨fun h3 => ⟨fun h4 => ?_, fun h4 => ?_⟩, fun h3 => ?_⟩
    · rw [w4]
      rw [if_pos ⟨h3, h4⟩] at hB'
      refine go_pure (p109 (t.n + l.length)) fun mm4 hm4 => ?_
      try simp only [St.new_nx, St.bump_nx, St.set_nx, St.del_nx] at hm4
      simp (implicitDefEqProofs := false) (maxSteps := 2000000) (disch := (first | omega | (simp only [St.new_nx, St.set_nx, St.del_nx, St.bump_nx]; done) | (simp only [St.new_nx, St.set_nx, St.del_nx, St.bump_nx]; omega) | fail)) [hB']
    · rw [if_neg (by omega), if_pos h3] at hB'
      simp [hB', h3]
    · rw [if_neg (by omega), if_neg h3] at hB'
      simp [hB', h3]

def bound (t : Ty) (op : Int) (l : List Int) : Ty := map (bnd op l) t 0
theorem p66 (t : Ty) (op : Int) (l : List Int) (hl : l.length ≤ 1000000) (ht : Fit t 0) : PureC Try.prog 66 [t.av, .int .i64 op, .list 1 .none (il l)] (bound t op l).av := by
  refine PureC.intro fun s => fun_sound mixed Try.func66 Try.call66 c66 rfl (awpFun_go _ _ _ _ ?_)
  simp (implicitDefEqProofs := false) (maxSteps := 2000000) (disch := (first | omega | (simp only [St.new_nx, St.set_nx, St.del_nx, St.bump_nx]; done) | (simp only [St.new_nx, St.set_nx, St.del_nx, St.bump_nx]; omega) | fail)) [a66, a66b, a66r0, a66r1]
  have h98 := p98 108 [] [.cptr [.int .i64 op], .cptr [.list 1 .none (il l)]] (bnd op l) Fit
    (fun t b h => p108 op l t b h hl)
    (fun t b h _ => ⟨wide_len h.1, by have := h.2; omega, by have := h.2; omega, h.child⟩) t 0 ht
  refine go_pure h98 fun mm5 hm5 => ?_
  try simp only [St.new_nx, St.bump_nx, St.set_nx, St.del_nx] at hm5
  simp (implicitDefEqProofs := false) (maxSteps := 2000000) (disch := (first | omega | (simp only [St.new_nx, St.set_nx, St.del_nx, St.bump_nx]; done) | (simp only [St.new_nx, St.set_nx, St.del_nx, St.bump_nx]; omega) | fail)) [bound]
end Go.AL.Ty
