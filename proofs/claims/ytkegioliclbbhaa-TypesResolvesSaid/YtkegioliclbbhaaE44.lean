/- Types whose metavariables are known. -/
import Derived.Test.YtkegioliclbbhaaE39
import Derived.Test.YtkegioliclbbhaaC9
set_option linter.unusedVariables false
set_option linter.unusedSimpArgs false
namespace Go.AL.Ty
open Go Go.Proofs

theorem p89 (t : Ty) (hf : Fit t 0) (hs : sz t ≤ 1000000) : PureC Try.prog 89 [t.av] (.list 1 .none (il (nums t 6))) := by
  refine PureC.intro fun s => fun_sound mixed Try.func89 Try.call89 c89 rfl (awpFun_go _ _ _ _ ?_)
  simp (implicitDefEqProofs := false) (maxSteps := 2000000) (disch := (first | omega | (simp only [St.new_nx, St.set_nx, St.del_nx, St.bump_nx]; done) | (simp only [St.new_nx, St.set_nx, St.del_nx, St.bump_nx]; omega) | fail)) [a89, a89b, a89r0, a89r1]
  refine go_pure (p119 t 6 hf hs) fun mm1 hm1 => ?_
  try simp only [St.new_nx, St.bump_nx, St.set_nx, St.del_nx] at hm1
  simp (implicitDefEqProofs := false) (maxSteps := 2000000) (disch := (first | omega | (simp only [St.new_nx, St.set_nx, St.del_nx, St.bump_nx]; done) | (simp only [St.new_nx, St.set_nx, St.del_nx, St.bump_nx]; omega) | fail))
theorem p91 (t : Ty) (hf : Fit t 0) (hs : sz t ≤ 1000000) : PureC Try.prog 91 [t.av] (.list 1 .none (il (nums t 1))) := by
  refine PureC.intro fun s => fun_sound mixed Try.func91 Try.call91 c91 rfl (awpFun_go _ _ _ _ ?_)
  simp (implicitDefEqProofs := false) (maxSteps := 2000000) (disch := (first | omega | (simp only [St.new_nx, St.set_nx, St.del_nx, St.bump_nx]; done) | (simp only [St.new_nx, St.set_nx, St.del_nx, St.bump_nx]; omega) | fail)) [a91, a91b, a91r0, a91r1]
  refine go_pure (p119 t 1 hf hs) fun mm2 hm2 => ?_
  try simp only [St.new_nx, St.bump_nx, St.set_nx, St.del_nx] at hm2
  simp (implicitDefEqProofs := false) (maxSteps := 2000000) (disch := (first | omega | (simp only [St.new_nx, St.set_nx, St.del_nx, St.bump_nx]; done) | (simp only [St.new_nx, St.set_nx, St.del_nx, St.bump_nx]; omega) | fail))
theorem p90 (xs : List AV) (n : Int) : PureC Try.prog 90 [.int .i64 n, .cptr [.list 10 .none xs]] (.bool (decide ((xs.length : Int) ≤ n))) := by
  refine PureC.intro fun s => fun_sound mixed Try.func90 Try.call90 c90 rfl (awpFun_go _ _ _ _ ?_)
  simp (implicitDefEqProofs := false) (maxSteps := 2000000) (disch := (first | omega | (simp only [St.new_nx, St.set_nx, St.del_nx, St.bump_nx]; done) | (simp only [St.new_nx, St.set_nx, St.del_nx, St.bump_nx]; omega) | fail)) [a90, a90b, a90r0, a90r1]

theorem p121 (l : List Int) (k : FuncId) (a b : List AV) (p : Int → Bool) (hp : ∀ n, PureC Try.prog k (a ++ [.int .i64 n] ++ b) (.bool (p n))) (hlen : l.length ≤ 1000000) :
    PureC Try.prog 121 [.list 1 .none (il l), .fn k a b] (.int .i64 (firstAt p l 0)) := by
  refine PureC.intro fun s => fun_sound mixed Try.func121 Try.call121 c121 rfl (awpFun_go _ _ _ _ ?_)
  simp (implicitDefEqProofs := false) (maxSteps := 2000000) (disch := (first | omega | (simp only [St.new_nx, St.set_nx, St.del_nx, St.bump_nx]; done) | (simp only [St.new_nx, St.set_nx, St.del_nx, St.bump_nx]; omega) | fail)) [a121, a121b, a121r0, a121r1]
  refine go_loop (fun m g s1 => ∃ (i : Nat), i ≤ l.length ∧ m = l.length - i ∧ firstAt p (l.drop i) i = firstAt p l 0 ∧
    g.get 0 = .list 1 .none (il l) ∧ g.get 7 = .int .i64 l.length ∧ g.get 8 = .int .i64 i ∧ g.get 1 = .fn k a b ∧ Kept s s1 ∧ s.nx ≤ s1.nx) l.length ⟨0, Nat.zero_le _, by simp, by simp, by simp, by simp, by simp, by simp, by simp, by simp⟩ ?_
  rintro m g s1 ⟨i, hi, rfl, hg, h0, h7, h8, h1, hk, hn⟩
  by_cases hlt : i < l.length
  · have hx : l[i]? = some l[i] := by simp [hlt]
    have hx' := il_get hx
    have hlt' : (i : Int) < l.length := by omega
    have w2 : IntKind.i64.wrap ((i : Int) + 1) = ((i + 1 : Nat) : Int) := by rw [wrap64 (by omega) (by omega)]; omega
    have hdrop : l.drop i = l[i] :: l.drop (i + 1) := List.drop_eq_getElem_cons hlt
    rw [hdrop, firstAt] at hg
    simp (implicitDefEqProofs := false) (maxSteps := 2000000) (disch := (first | omega | (simp only [St.new_nx, St.set_nx, St.del_nx, St.bump_nx]; done) | (simp only [St.new_nx, St.set_nx, St.del_nx, St.bump_nx]; omega) | fail)) [a121l7, a121r2, a121r3, a121r4, h0, h7, h8, h1, hlt', hlt, hx']
    have hp' := hp l[i]
    simp only [List.append_assoc, List.singleton_append] at hp'
    refine go_pure hp' fun mm3 hm3 => ?_
    try simp only [St.new_nx, St.bump_nx, St.set_nx, St.del_nx] at hm3
    simp (implicitDefEqProofs := false) (maxSteps := 2000000) (disch := (first | omega | (simp only [St.new_nx, St.set_nx, St.del_nx, St.bump_nx]; done) | (simp only [St.new_nx, St.set_nx, St.del_nx, St.bump_nx]; omega) | fail)) [a121r5, a121r6]
    refine ⟨fun hb => ?_, fun hb => ?_⟩
    · rw [if_pos hb] at hg
      exact ⟨hg, hk⟩
    · rw [if_neg (by simp [hb])] at hg
      simp (implicitDefEqProofs := false) (maxSteps := 2000000) (disch := (first | omega | (simp only [St.new_nx, St.set_nx, St.del_nx, St.bump_nx]; done) | (simp only [St.new_nx, St.set_nx, St.del_nx, St.bump_nx]; omega) | fail)) [h8, w2]
      refine go_next (l.length - (i + 1)) (by omega) ⟨i + 1, by omega, rfl, hg, ?_, ?_, ?_, ?_, ?_, ?_⟩ <;> (try simp (implicitDefEqProofs := false) (maxSteps := 2000000) (disch := (first | omega | (simp only [St.new_nx, St.set_nx, St.del_nx, St.bump_nx]; done) | (simp only [St.new_nx, St.set_nx, St.del_nx, St.bump_nx]; omega) | fail)) [h0, h7, h8, h1, hk])
      omega
  · have hlt' : ¬ (i : Int) < l.length := by omega
    have hdrop : l.drop i = [] := List.drop_eq_nil_of_le (by omega)
    rw [hdrop, firstAt] at hg
    simp (implicitDefEqProofs := false) (maxSteps := 2000000) (disch := (first | omega | (simp only [St.new_nx, St.set_nx, St.del_nx, St.bump_nx]; done) | (simp only [St.new_nx, St.set_nx, St.del_nx, St.bump_nx]; omega) | fail)) [a121l7, a121r2, h0, h7, h8, h1, hlt', a121r8, ← hg, hk]
theorem p88 (l : List Int) (k : FuncId) (a b : List AV) (p : Int → Bool) (hp : ∀ n, PureC Try.prog k (a ++ [.int .i64 n] ++ b) (.bool (p n))) (hlen : l.length ≤ 1000000) :
    PureC Try.prog 88 [.list 1 .none (il l), .fn k a b] (.bool (l.any p)) := by
  refine PureC.intro fun s => fun_sound mixed Try.func88 Try.call88 c88 rfl (awpFun_go _ _ _ _ ?_)
  simp (implicitDefEqProofs := false) (maxSteps := 2000000) (disch := (first | omega | (simp only [St.new_nx, St.set_nx, St.del_nx, St.bump_nx]; done) | (simp only [St.new_nx, St.set_nx, St.del_nx, St.bump_nx]; omega) | fail)) [a88, a88b, a88r0, a88r1]
  refine go_pure (p121 l k a b p hp hlen) fun mm4 hm4 => ?_
  try simp only [St.new_nx, St.bump_nx, St.set_nx, St.del_nx] at hm4
  simp (implicitDefEqProofs := false) (maxSteps := 2000000) (disch := (first | omega | (simp only [St.new_nx, St.set_nx, St.del_nx, St.bump_nx]; done) | (simp only [St.new_nx, St.set_nx, St.del_nx, St.bump_nx]; omega) | fail)) [firstAt_neg, -List.any_eq_true]

def outs (M : List Mt) (t : Ty) : Bool := (nums t 6).any fun n => decide ((M.length : Int) ≤ n)
def known (M : List Mt) (t : Ty) : Bool := proper t && !outs M t
theorem outs_false (M : List Mt) (t : Ty) : outs M t = false ↔ ∀ k, occ k t → k < M.length := by
  simp only [outs, List.any_eq_false, decide_eq_true_eq, mem_nums]
  exact ⟨fun h k hk => by have := h k hk; omega, fun h k hk => by have := h k hk; omega⟩
theorem nums_len (t : Ty) (op : Int) : ((nums t op).length : Int) ≤ sz t := by
  have := (wlk_num op t 0 [] (by simp)).2
  simpa [nums, isort_length] using this
theorem p87 (M : List Mt) (t : Ty) : PureC Try.prog 87 [t.av, .cptr [.list 10 .none (M.map Mt.av)]] (.bool (known M t)) := by
  refine PureC.intro fun s => fun_sound mixed Try.func87 Try.call87 c87 rfl (awpFun_go _ _ _ _ ?_)
  simp (implicitDefEqProofs := false) (maxSteps := 2000000) (disch := (first | omega | (simp only [St.new_nx, St.set_nx, St.del_nx, St.bump_nx]; done) | (simp only [St.new_nx, St.set_nx, St.del_nx, St.bump_nx]; omega) | fail)) [a87, a87b, a87r0, a87r1]
  refine go_pure (p53 t) fun mm5 hm5 => ?_
  try simp only [St.new_nx, St.bump_nx, St.set_nx, St.del_nx] at hm5
  simp (implicitDefEqProofs := false) (maxSteps := 2000000) (disch := (first | omega | (simp only [St.new_nx, St.set_nx, St.del_nx, St.bump_nx]; done) | (simp only [St.new_nx, St.set_nx, St.del_nx, St.bump_nx]; omega) | fail))
  by_cases hp : proper t = true
  · have hs := proper_sz hp
    have hl := nums_len t 6
    simp (implicitDefEqProofs := false) (maxSteps := 2000000) (disch := (first | omega | (simp only [St.new_nx, St.set_nx, St.del_nx, St.bump_nx]; done) | (simp only [St.new_nx, St.set_nx, St.del_nx, St.bump_nx]; omega) | fail)) [hp]
    refine go_pure (p89 t (proper_fit hp) (by omega)) fun mm6 hm6 => ?_
    try simp only [St.new_nx, St.bump_nx, St.set_nx, St.del_nx] at hm6
    simp (implicitDefEqProofs := false) (maxSteps := 2000000) (disch := (first | omega | (simp only [St.new_nx, St.set_nx, St.del_nx, St.bump_nx]; done) | (simp only [St.new_nx, St.set_nx, St.del_nx, St.bump_nx]; omega) | fail))
    refine go_pure (p88 (nums t 6) 90 [] [.cptr [.list 10 .none (M.map Mt.av)]] (fun n => decide ((M.length : Int) ≤ n)) (fun n => by simpa using p90 (M.map Mt.av) n) (by omega)) fun mm7 hm7 => ?_
    try simp only [St.new_nx, St.bump_nx, St.set_nx, St.del_nx] at hm7
    simp (implicitDefEqProofs := false) (maxSteps := 2000000) (disch := (first | omega | (simp only [St.new_nx, St.set_nx, St.del_nx, St.bump_nx]; done) | (simp only [St.new_nx, St.set_nx, St.del_nx, St.bump_nx]; omega) | fail))
    simp (implicitDefEqProofs := false) (maxSteps := 2000000) (disch := (first | omega | (simp only [St.new_nx, St.set_nx, St.del_nx, St.bump_nx]; done) | (simp only [St.new_nx, St.set_nx, St.del_nx, St.bump_nx]; omega) | fail)) [known, hp, outs, -List.any_eq_true]
  · simp (implicitDefEqProofs := false) (maxSteps := 2000000) (disch := (first | omega | (simp only [St.new_nx, St.set_nx, St.del_nx, St.bump_nx]; done) | (simp only [St.new_nx, St.set_nx, St.del_nx, St.bump_nx]; omega) | fail)) [hp, known]

theorem p50 (M : List Mt) (t : Ty) (hg : Gd t) (hs : sz t ≤ 1000000) : PureC Try.prog 50 [.list 10 .none (M.map Mt.av), t.av] (.bool (!outs M t)) := by
  refine PureC.intro fun s => fun_sound mixed Try.func50 Try.call50 c50 rfl (awpFun_go _ _ _ _ ?_)
  have h46 := p46 t hg.fit hs
  rw [nums_col 6 (by omega) t hg] at h46
  have hll := nums_len t 6
  unfold outs
  generalize nums t 6 = l at *
  generalize hR : (l.any fun n => decide ((M.length : Int) ≤ n)) = R
  simp (implicitDefEqProofs := false) (maxSteps := 2000000) (disch := (first | omega | (simp only [St.new_nx, St.set_nx, St.del_nx, St.bump_nx]; done) | (simp only [St.new_nx, St.set_nx, St.del_nx, St.bump_nx]; omega) | fail)) [a50, a50b, a50r0, a50r1]
  refine go_pure h46 fun mm8 hm8 => ?_
  try simp only [St.new_nx, St.bump_nx, St.set_nx, St.del_nx] at hm8
  simp (implicitDefEqProofs := false) (maxSteps := 2000000) (disch := (first | omega | (simp only [St.new_nx, St.set_nx, St.del_nx, St.bump_nx]; done) | (simp only [St.new_nx, St.set_nx, St.del_nx, St.bump_nx]; omega) | fail))
  refine go_loop (fun m g s1 => ∃ (i : Nat), i ≤ l.length ∧ m = l.length - i ∧ ((l.drop i).any fun n => decide ((M.length : Int) ≤ n)) = R ∧
    g.get 0 = .list 10 .none (M.map Mt.av) ∧ g.get 8 = .list 1 .none (il l) ∧ g.get 9 = .int .i64 l.length ∧ g.get 10 = .int .i64 i ∧ Kept s s1 ∧ s.nx ≤ s1.nx) l.length ⟨0, Nat.zero_le _, by simp, by simpa using hR, ?_, ?_, ?_, ?_, ?_, ?_⟩ ?_
  iterate 6 (simp (implicitDefEqProofs := false) (maxSteps := 2000000) (disch := (first | omega | (simp only [St.new_nx, St.set_nx, St.del_nx, St.bump_nx]; done) | (simp only [St.new_nx, St.set_nx, St.del_nx, St.bump_nx]; omega) | fail)))
  · omega
  rintro m g s1 ⟨i, hi, rfl, hg', h0, h8, h9, h10, hk, hn⟩
  by_cases hlt : i < l.length
  · have hx : l[i]? = some l[i] := by simp [hlt]
    have hx' := il_get hx
    have hlt' : (i : Int) < l.length := by omega
    have w2 : IntKind.i64.wrap ((i : Int) + 1) = ((i + 1 : Nat) : Int) := by rw [wrap64 (by omega) (by omega)]; omega
    have hdrop : l.drop i = l[i] :: l.drop (i + 1) := List.drop_eq_getElem_cons hlt
    rw [hdrop, List.any_cons] at hg'
    simp (implicitDefEqProofs := false) (maxSteps := 2000000) (disch := (first | omega | (simp only [St.new_nx, St.set_nx, St.del_nx, St.bump_nx]; done) | (simp only [St.new_nx, St.set_nx, St.del_nx, St.bump_nx]; omega) | fail)) [a50l7, a50r2, a50r3, a50r4, a50r5, a50r6, h0, h8, h9, h10, hlt', hlt, hx', w2]
    refine ⟨fun hb => ?_, fun hb => ?_⟩
    · rw [decide_eq_true hb] at hg'
      simp only [Bool.true_or] at hg'
      exact ⟨hg'.symm, hk⟩
    · rw [decide_eq_false (by omega), Bool.false_or] at hg'
      refine go_next (l.length - (i + 1)) (by omega) ⟨i + 1, by omega, rfl, hg', ?_, ?_, ?_, ?_, ?_, ?_⟩ <;> (try simp (implicitDefEqProofs := false) (maxSteps := 2000000) (disch := (first | omega | (simp only [St.new_nx, St.set_nx, St.del_nx, St.bump_nx]; done) | (simp only [St.new_nx, St.set_nx, St.del_nx, St.bump_nx]; omega) | fail)) [h0, h8, h9, h10, hk, w2])
      all_goals omega
  · have hlt' : ¬ (i : Int) < l.length := by omega
    have hdrop : l.drop i = [] := List.drop_eq_nil_of_le (by omega)
    rw [hdrop] at hg'
    simp (implicitDefEqProofs := false) (maxSteps := 2000000) (disch := (first | omega | (simp only [St.new_nx, St.set_nx, St.del_nx, St.bump_nx]; done) | (simp only [St.new_nx, St.set_nx, St.del_nx, St.bump_nx]; omega) | fail)) [a50l7, a50r2, h9, h10, hlt', a50r8, ← hg', hk]
end Go.AL.Ty
/- Rings of metavariables. -/
set_option linter.unusedVariables false
set_option linter.unusedSimpArgs false
namespace Go.AL
/-- A call that changes one object, in one of several ways. -/
theorem ACalls.updE {P : Program} {f : FuncId} {args : List AV} {s : St} {K : AV → St → Prop} {o : Nat} {Post : AV → AObj → Prop} (ho : o < s.nx)
    (h : ACalls P f args s fun r' s' => ∃ r ob, wk r' r ∧ s'.m o = some ob ∧ KeptX s o s' ∧ Post r ob) (hK : ∀ r ob, Post r ob → ∀ m, s.nx ≤ m → K r ((s.set o ob).bump m)) : ACalls P f args s K := by
  refine ACalls.bnd h.1 fun hb => ACalls.res (ACalls.norm (ACalls.mono h fun r' s' hn ⟨r, ob, h1, h2, h3, h4⟩ => ⟨(s.set o ob).m, fun q b hq => ?_, r, h1, hK r ob h4 _ hn⟩))
  by_cases e : q = o
  · subst e
    rw [St.set_eq] at hq
    rw [h2, hq]
  · rw [St.set_ne _ _ _ _ e] at hq
    rw [h3 q (hb q b hq) e, hq]
namespace Ty
open Go Go.Proofs

theorem acc_irr0 {α : Type} {r : α → α → Prop} {a : α} (h : Acc r a) : ¬ r a a := by
  induction h with
  | intro a _ ih => intro hc; exact ih a hc hc
theorem acc_irr {α : Type} {r : α → α → Prop} {a : α} (h : Acc r a) : ¬ Relation.TransGen r a a := acc_irr0 h.transGen
theorem wf_of {M : List Mt} (h : ∀ i : Nat, i < M.length → Acc (dep M) i) : WellFounded (dep M) := by
  refine ⟨fun n => ?_⟩
  cases hv : vl M n with
  | none => exact ⟨_, fun k ⟨v, h1, _⟩ => by rw [hv] at h1; cases h1⟩
  | some v =>
    obtain ⟨m, h0, _, _, _, hl, _⟩ := vl_some hv
    have := h n.toNat (by omega)
    rwa [show ((n.toNat : Nat) : Int) = n by omega] at this

def zc (σ : List Int) : Nat := σ.countP (fun x => x == 0)
structure Srch (M : List Mt) (σ : List Int) : Prop where
  len : σ.length = M.length
  vals : ∀ (i : Nat) x, σ[i]? = some x → x = 0 ∨ x = 1 ∨ x = 2
  two : ∀ (i : Nat), σ[i]? = some 2 → Acc (dep M) i
abbrev P122 (M : List Mt) (n : Nat) (σ : List Int) (b : Bool) (σ' : List Int) : Prop :=
  (b = true → ∃ i : Int, ¬ Acc (dep M) i) ∧ (b = false → Acc (dep M) n ∧ Srch M σ' ∧ (∀ (i : Nat) x, σ[i]? = some x → x ≠ 0 → σ'[i]? = some x) ∧ (∀ i : Nat, σ'[i]? = some 1 → σ[i]? = some 1) ∧ zc σ' ≤ zc σ)
def vfn (M : List Mt) (oS ov : Nat) : AV := .fn 122 [] [.cptr [.mref 1 oS 0 M.length], .cptr [.list 10 .none (M.map Mt.av)], .ptr ov 0]
def C122 (M : List Mt) (oS ov : Nat) (n : Nat) (σ : List Int) : Prop := ∀ (s : St) (K : AV → St → Prop), s.m oS = some (.box (il σ)) → s.m ov = some (.box [vfn M oS ov]) → oS < s.nx → ov < s.nx → (oS < ov ∨ ov < oS) →
  (∀ b σ', P122 M n σ b σ' → ∀ m, s.nx ≤ m → K (.bool b) ((s.set oS (.box (il σ'))).bump m)) → ACalls Try.prog 122 [.int .i64 n, .cptr [.mref 1 oS 0 M.length], .cptr [.list 10 .none (M.map Mt.av)], .ptr ov 0] s K

def Q122 (M : List Mt) (n : Nat) (σ : List Int) (r : AV) (ob : AObj) : Prop := ∃ b σ', r = .bool b ∧ ob = .box (il σ') ∧ P122 M n σ b σ'
theorem il_drop {l : List Int} {i : Nat} (h : i < l.length) : (il l).drop i = .int .i64 l[i] :: (il l).drop (i + 1) := by
  rw [List.drop_eq_getElem_cons (by simpa using h)]; simp [il]
theorem mt_get {M : List Mt} {i : Nat} (h : i < M.length) : (M.map Mt.av)[i]? = some (M[i]).av := by simp [h]

theorem il_store {l : List Int} {i : Nat} (h : i < l.length) (x : Int) : (il l).take i ++ .int .i64 x :: (il l).drop (i + 1) = il (l.set i x) := by
  rw [List.set_eq_take_append_cons_drop, if_pos h]
  simp [il]
theorem zc_set {σ : List Int} {n : Nat} (h : n < σ.length) (x : Int) : zc (σ.set n x) + (if σ[n] = 0 then 1 else 0) = zc σ + (if x = 0 then 1 else 0) := by
  induction σ generalizing n with
  | nil => simp at h
  | cons a r ih =>
    cases n with
    | zero => simp [zc, List.countP_cons]; omega
    | succ n =>
      have := ih (n := n) (by simpa using h)
      simp only [zc, List.set_cons_succ, List.countP_cons, List.getElem_cons_succ] at this ⊢
      omega
/-- In the loop of a visit. -/
def I122 (M : List Mt) (oS ov n : Nat) (σ1 : List Int) (ns : List Int) (s : St) (m : Nat) (g : Env) (s1 : St) : Prop :=
  ∃ (i : Nat) (σ : List Int), i ≤ ns.length ∧ m = ns.length - i ∧ (∀ k ∈ ns.take i, Acc (dep M) k) ∧ Srch M σ ∧ (∀ (j : Nat) x, σ1[j]? = some x → x ≠ 0 → σ[j]? = some x) ∧ (∀ j : Nat, σ[j]? = some 1 → σ1[j]? = some 1) ∧ zc σ ≤ zc σ1 ∧
    g.get 36 = .list 1 .none (il ns) ∧ g.get 37 = .int .i64 ns.length ∧ g.get 38 = .int .i64 i ∧ g.get 0 = .int .i64 n ∧ g.get 1 = .cptr [.mref 1 oS 0 M.length] ∧ g.get 2 = .cptr [.list 10 .none (M.map Mt.av)] ∧ g.get 3 = .ptr ov 0 ∧
    s1.m oS = some (.box (il σ)) ∧ KeptX s oS s1 ∧ s.nx ≤ s1.nx

theorem p122 (M : List Mt) (hM : okM M) (hlen : M.length ≤ 600) (oS ov : Nat) : ∀ (k n : Nat) (σ : List Int), zc σ < k → Srch M σ → (∀ i : Nat, σ[i]? = some 1 → Relation.TransGen (dep M) n i) → n < M.length → C122 M oS ov n σ := by
  intro k
  induction k with
  | zero => intro n σ h; omega
  | succ k ih =>
    intro n σ hz hσ hpath hn s K hoS hov hS hV hne hK
    refine ACalls.updE (Post := Q122 M n σ) hS ?_ fun r ob ⟨b, σ', hr, hob, h1⟩ m hm => by rw [hr, hob]; exact hK b σ' h1 m hm
    clear hK K
    refine fun_sound mixed Try.func122 Try.call122 c122 rfl (awpFun_go _ _ _ _ ?_)
    have hσn : n < σ.length := by rw [hσ.len]; exact hn
    have hx : σ[n]? = some σ[n] := by simp [hσn]
    have hx' := il_get hx
    have hdr := il_drop hσn
    have hMn := mt_get hn
    have hMx : M[n]? = some M[n] := by simp [hn]
    simp (implicitDefEqProofs := false) (maxSteps := 2000000) (disch := (first | omega | (simp only [St.new_nx, St.set_nx, St.del_nx, St.bump_nx]; done) | (simp only [St.new_nx, St.set_nx, St.del_nx, St.bump_nx]; omega) | fail)) [a122, a122b, a122r0, a122r1, a122r2, hoS, hx', hσ.len, hn, hσn, hdr]
    refine ⟨fun h1 => ?_, fun h1 => ?_⟩
    · refine ⟨.bool true, by simp, true, σ, rfl, rfl, fun _ => ⟨n, fun ha => acc_irr ha (hpath n (by rw [hx, h1]))⟩, fun h => by cases h⟩
    simp (implicitDefEqProofs := false) (maxSteps := 2000000) (disch := (first | omega | (simp only [St.new_nx, St.set_nx, St.del_nx, St.bump_nx]; done) | (simp only [St.new_nx, St.set_nx, St.del_nx, St.bump_nx]; omega) | fail)) [a122r3, a122r4, hoS, hx', hσ.len, hn, hσn, hdr, hMn]
    have hvl : M[n].solved = true → vl M n = some M[n].value := fun h => by simp [vl, hMx, h]
    refine ⟨fun h2 => ⟨fun hs => ?_, fun hs => ?_⟩, fun h2 => ?_⟩
    · refine ⟨.bool false, by simp, false, σ, rfl, rfl, fun h => (by cases h), fun _ => ⟨⟨_, fun k ⟨v, h, _⟩ => ?_⟩, hσ, fun _ _ h _ => h, fun _ h => h, Nat.le_refl _⟩⟩
      simp [vl, hMx, hs] at h
    rotate_left
    · exact ⟨.bool false, by simp, false, σ, rfl, rfl, fun h => (by cases h), fun _ => ⟨hσ.two n (by rw [hx, h2]), hσ, fun _ _ h _ => h, fun _ h => h, Nat.le_refl _⟩⟩
    have hv := hvl hs
    have hmem : M[n] ∈ M := List.getElem_mem hn
    obtain ⟨hp, _, hks⟩ := hM _ hmem hs
    have hsz := proper_sz hp
    have hnl := nums_len M[n].value 6
    have h0 : σ[n] = 0 := by rcases hσ.vals n _ hx with h | h | h <;> first | exact h | exact absurd h h1 | exact absurd h h2
    have hz1 := zc_set hσn 1
    rw [if_pos h0, if_neg (by omega)] at hz1
    have hst := il_store hσn 1
    generalize hns : nums M[n].value 6 = ns at hks hnl
    have hocc : ∀ k, occ k M[n].value ↔ k ∈ ns := fun k => by rw [← mem_nums, hns]
    generalize hσ1 : σ.set n 1 = σ1 at hz1 hst
    have hS1 : Srch M σ1 := by
      refine ⟨by rw [← hσ1]; simp [hσ.len], fun i x hi => ?_, fun i hi => ?_⟩
      · rw [← hσ1, List.getElem?_set] at hi
        split at hi
        · simp at hi; omega
        · exact hσ.vals i x hi
      · rw [← hσ1, List.getElem?_set] at hi
        split at hi
        · simp at hi
        · exact hσ.two i hi
    have h1of : ∀ i : Nat, σ1[i]? = some 1 → i = n ∨ σ[i]? = some 1 := by
      intro i hi
      rw [← hσ1, List.getElem?_set] at hi
      split at hi
      · rename_i e; exact .inl e.symm
      · exact .inr hi
    simp (implicitDefEqProofs := false) (maxSteps := 2000000) (disch := (first | omega | (simp only [St.new_nx, St.set_nx, St.del_nx, St.bump_nx]; done) | (simp only [St.new_nx, St.set_nx, St.del_nx, St.bump_nx]; omega) | fail)) [a122r5, a122r6, hoS, hx', hσ.len, hn, hσn, hdr, hMn, hst]
    have h89 := p89 M[n].value (proper_fit hp) (by omega)
    rw [hns] at h89
    refine go_pure h89 fun mm1 hm1 => ?_
    try simp only [St.new_nx, St.bump_nx, St.set_nx, St.del_nx] at hm1
    simp (implicitDefEqProofs := false) (maxSteps := 2000000) (disch := (first | omega | (simp only [St.new_nx, St.set_nx, St.del_nx, St.bump_nx]; done) | (simp only [St.new_nx, St.set_nx, St.del_nx, St.bump_nx]; omega) | fail))
    refine go_loop (I122 M oS ov n σ1 ns s) ns.length ⟨0, σ1, by omega, by omega, by simp, hS1, fun _ _ h _ => h, fun _ h => h, Nat.le_refl _, ?_, ?_, ?_, ?_, ?_, ?_, ?_, ?_, ?_, ?_⟩ ?_
    iterate 9 (simp (implicitDefEqProofs := false) (maxSteps := 2000000) (disch := (first | omega | (simp only [St.new_nx, St.set_nx, St.del_nx, St.bump_nx]; done) | (simp only [St.new_nx, St.set_nx, St.del_nx, St.bump_nx]; omega) | fail)))
    · simp (implicitDefEqProofs := false) (maxSteps := 2000000) (disch := (first | omega | (simp only [St.new_nx, St.set_nx, St.del_nx, St.bump_nx]; done) | (simp only [St.new_nx, St.set_nx, St.del_nx, St.bump_nx]; omega) | fail))
      omega
    rintro m g s1 ⟨i, σ', hi, rfl, hacc, hσ', hnz, h11, hzz, h36, h37, h38, g0, g1, g2, g3, hoS', hk, hnx⟩
    by_cases hlt : i < ns.length
    · have hx2 : ns[i]? = some ns[i] := by simp [hlt]
      have hx2' := il_get hx2
      have hdr2 := il_drop hlt
      have hlt' : (i : Int) < ns.length := by omega
      have w2 : IntKind.i64.wrap ((i : Int) + 1) = ((i + 1 : Nat) : Int) := by rw [wrap64 (by omega) (by omega)]; omega
      have hin : ns[i] ∈ ns := List.getElem_mem hlt
      have hkl := hks _ hin
      have hd : dep M ns[i] n := ⟨_, hv, (hocc _).2 hin⟩
      have h0k : 0 ≤ ns[i] := by
        have := ((hM.gk hv).1.1.occ_nn ((hocc _).2 hin)).1
        exact this
      have hkn : ((ns[i].toNat : Nat) : Int) = ns[i] := by omega
      have hovk : s1.m ov = some (.box [vfn M oS ov]) := by rw [hk ov hV (by omega)]; exact hov
      simp (implicitDefEqProofs := false) (maxSteps := 2000000) (disch := (first | omega | (simp only [St.new_nx, St.set_nx, St.del_nx, St.bump_nx]; done) | (simp only [St.new_nx, St.set_nx, St.del_nx, St.bump_nx]; omega) | fail)) [a122l12, a122r7, a122r8, a122r9, a122r10, a122r11, h36, h37, h38, g0, g1, g2, g3, hlt', hlt, hx2', hdr2, hkl, hovk, vfn]
      have hc := ih ns[i].toNat σ' (by omega) hσ' (fun j hj => ?_) (by omega)
      rotate_left
      · rw [hkn]
        rcases h1of j (h11 j hj) with rfl | h
        · exact .single hd
        · exact Relation.TransGen.trans (.single hd) (hpath j h)
      unfold C122 at hc
      rw [hkn] at hc
      refine go_calls (hc _ _ hoS' hovk (by omega) (by omega) hne fun b σ2 hP m2 hm2 => go_of ?_)
      simp (implicitDefEqProofs := false) (maxSteps := 2000000) (disch := (first | omega | (simp only [St.new_nx, St.set_nx, St.del_nx, St.bump_nx]; done) | (simp only [St.new_nx, St.set_nx, St.del_nx, St.bump_nx]; omega) | fail))
      refine ⟨fun hb => ?_, fun hb => ?_⟩
      · exact ⟨.bool true, by simp, hk, true, σ2, rfl, rfl, fun _ => hP.1 hb, fun h => (by cases h)⟩
      · obtain ⟨hA, hS2, hn2, h12, hz2⟩ := hP.2 hb
        rw [hkn] at hA
        simp (implicitDefEqProofs := false) (maxSteps := 2000000) (disch := (first | omega | (simp only [St.new_nx, St.set_nx, St.del_nx, St.bump_nx]; done) | (simp only [St.new_nx, St.set_nx, St.del_nx, St.bump_nx]; omega) | fail)) [h38, w2]
        refine go_next (ns.length - (i + 1)) (by omega) ⟨i + 1, σ2, by omega, rfl, ?_, hS2, fun j x h hx => hn2 j x (hnz j x h hx) hx, fun j h => h11 j (h12 j h), by omega, ?_, ?_, ?_, ?_, ?_, ?_, ?_, ?_, ?_, ?_⟩
        · intro k hk
          rw [List.take_succ_eq_append_getElem hlt] at hk
          rcases List.mem_append.1 hk with hk | hk
          · exact hacc k hk
          · simp at hk; subst hk; exact hA
        all_goals (try simp (implicitDefEqProofs := false) (maxSteps := 2000000) (disch := (first | omega | (simp only [St.new_nx, St.set_nx, St.del_nx, St.bump_nx]; done) | (simp only [St.new_nx, St.set_nx, St.del_nx, St.bump_nx]; omega) | fail)) [h36, h37, h38, g0, g1, g2, g3, hk])
        all_goals omega
    · have hlt' : ¬ (i : Int) < ns.length := by omega
      have hie : i = ns.length := by omega
      have hall : ∀ k ∈ ns, Acc (dep M) k := by rw [hie, List.take_length] at hacc; exact hacc
      have hσn' : n < σ'.length := by rw [hσ'.len]; exact hn
      have hst' := il_store hσn' 2
      have hAn : Acc (dep M) n := ⟨_, fun k ⟨v, h, ho⟩ => by rw [hv] at h; cases h; exact hall k ((hocc k).1 ho)⟩
      have hs1n : σ1[n]? = some 1 := by rw [← hσ1]; simp [hσn]
      have hsn' : σ'[n]? = some 1 := hnz n 1 hs1n (by decide)
      have hsg : σ'[n] = 1 := by simpa [hσn'] using hsn'
      have hz3 := zc_set hσn' 2
      rw [if_neg (by omega), if_neg (by omega)] at hz3
      simp (implicitDefEqProofs := false) (maxSteps := 2000000) (disch := (first | omega | (simp only [St.new_nx, St.set_nx, St.del_nx, St.bump_nx]; done) | (simp only [St.new_nx, St.set_nx, St.del_nx, St.bump_nx]; omega) | fail)) [a122l12, a122r7, a122r13, a122r14, h37, h38, g0, g1, g2, g3, hlt', hoS', hσ'.len, hn, hσn', hst', hk]
      refine ⟨.bool false, by simp, false, _, rfl, rfl, fun h => (by cases h), fun _ => ⟨hAn, ⟨by simp [hσ'.len], fun j x hj => ?_, fun j hj => ?_⟩, fun j x hj hx0 => ?_, fun j hj => ?_, by omega⟩⟩
      · rw [List.getElem?_set] at hj
        split at hj
        · simp at hj; omega
        · exact hσ'.vals j x hj
      · rw [List.getElem?_set] at hj
        split at hj
        · rename_i e; rw [← e]; exact hAn
        · exact hσ'.two j hj
      · have hne2 : n ≠ j := by
          rintro rfl
          rw [hx] at hj
          simp at hj
          omega
        rw [List.getElem?_set_ne hne2]
        refine hnz j x ?_ hx0
        rw [← hσ1, List.getElem?_set_ne hne2]
        exact hj
      · rw [List.getElem?_set] at hj
        split at hj
        · simp at hj
        · rename_i hne2
          have := h11 j hj
          rw [← hσ1, List.getElem?_set_ne hne2] at this
          exact this
end Ty
end Go.AL
/- Whether metavariables need each other in a ring. -/
set_option linter.unusedVariables false
set_option linter.unusedSimpArgs false
namespace Go.AL
@[simp] theorem isVal_mref (a b c d : Nat) : (AV.mref a b c d).isVal = true := rfl
@[simp] theorem cells_mref (a b c d : Nat) : (AV.mref a b c d).cells = [.mref a b c d] := rfl
namespace Ty
open Go Go.Proofs

open Classical in
noncomputable def ring (M : List Mt) : Bool := !decide (WellFounded (dep M))
theorem ring_true {M : List Mt} (h : ¬ WellFounded (dep M)) : ring M = true := by simp [ring, h]
theorem ring_false {M : List Mt} (h : WellFounded (dep M)) : ring M = false := by simp [ring, h]
def I92 (M : List Mt) (oS ov : Nat) (s : St) (m : Nat) (g : Env) (s1 : St) : Prop :=
  ∃ (i : Nat) (σ : List Int), i ≤ M.length ∧ m = M.length - i ∧ (∀ k : Nat, k < i → Acc (dep M) k) ∧ Srch M σ ∧ (∀ j : Nat, σ[j]? ≠ some 1) ∧
    g.get 11 = .int .i64 M.length ∧ g.get 12 = .int .i64 i ∧ g.get 4 = .ptr ov 0 ∧ s1.m oS = some (.box (il σ)) ∧ s1.m ov = some (.box [vfn M oS ov]) ∧ Kept s s1 ∧ oS < s1.nx ∧ ov < s1.nx
theorem rep_il (n : Nat) : (List.replicate n [AV.int .i64 0]).flatten = il (List.replicate n 0) := by
  induction n with
  | zero => rfl
  | succ n ih => simp [List.replicate_succ, il]
theorem p92 (M : List Mt) (hM : okM M) (hlen : M.length ≤ 600) : PureC Try.prog 92 [.list 10 .none (M.map Mt.av)] (.bool (ring M)) := by
  refine PureC.intro fun s => fun_sound mixed Try.func92 Try.call92 c92 rfl (awpFun_go _ _ _ _ ?_)
  have hrep := rep_il M.length
  simp (implicitDefEqProofs := false) (maxSteps := 2000000) (disch := (first | omega | (simp only [St.new_nx, St.set_nx, St.del_nx, St.bump_nx]; done) | (simp only [St.new_nx, St.set_nx, St.del_nx, St.bump_nx]; omega) | fail)) [a92, a92b, a92r0, a92r1, a92r2, a92r3, a92r4, hrep]
  refine go_loop (I92 M (s.nx + 1) (s.nx + 1 + 1 + 1) s) M.length ⟨0, List.replicate M.length 0, by omega, by omega, by omega, ⟨by simp, fun i x h => ?_, fun i h => ?_⟩, fun j h => ?_, ?_, ?_, ?_, ?_, ?_, ?_, ?_, ?_⟩ ?_
  · rw [List.getElem?_replicate] at h
    split at h
    · simp at h; omega
    · cases h
  · rw [List.getElem?_replicate] at h
    split at h
    · simp at h
    · cases h
  · rw [List.getElem?_replicate] at h
    split at h
    · simp at h
    · cases h
  iterate 8 (simp (implicitDefEqProofs := false) (maxSteps := 2000000) (disch := (first | omega | (simp only [St.new_nx, St.set_nx, St.del_nx, St.bump_nx]; done) | (simp only [St.new_nx, St.set_nx, St.del_nx, St.bump_nx]; omega) | fail)) [vfn])
  rintro m g s1 ⟨i, σ, hi, rfl, hacc, hσ, h1, h11, h12, h4, hoS, hov, hk, hS, hV⟩
  by_cases hlt : i < M.length
  · have hlt' : (i : Int) < M.length := by omega
    have w2 : IntKind.i64.wrap ((i : Int) + 1) = ((i + 1 : Nat) : Int) := by rw [wrap64 (by omega) (by omega)]; omega
    simp (implicitDefEqProofs := false) (maxSteps := 2000000) (disch := (first | omega | (simp only [St.new_nx, St.set_nx, St.del_nx, St.bump_nx]; done) | (simp only [St.new_nx, St.set_nx, St.del_nx, St.bump_nx]; omega) | fail)) [a92l10, a92r5, a92r6, a92r7, a92r8, a92r9, h11, h12, h4, hlt', hov, vfn]
    refine go_calls (p122 M hM hlen (s.nx + 1) (s.nx + 1 + 1 + 1) (zc σ + 1) i σ (by omega) hσ (fun j hj => absurd hj (h1 j)) hlt _ _ hoS hov hS hV (by omega) fun b σ2 hP m2 hm2 => go_of ?_)
    simp (implicitDefEqProofs := false) (maxSteps := 2000000) (disch := (first | omega | (simp only [St.new_nx, St.set_nx, St.del_nx, St.bump_nx]; done) | (simp only [St.new_nx, St.set_nx, St.del_nx, St.bump_nx]; omega) | fail))
    refine ⟨fun hb => ?_, fun hb => ?_⟩
    · obtain ⟨k, hk'⟩ := hP.1 hb
      exact ⟨ring_true fun hw => hk' (hw.apply k), hk⟩
    · obtain ⟨hA, hS2, hn2, h12', hz2⟩ := hP.2 hb
      simp (implicitDefEqProofs := false) (maxSteps := 2000000) (disch := (first | omega | (simp only [St.new_nx, St.set_nx, St.del_nx, St.bump_nx]; done) | (simp only [St.new_nx, St.set_nx, St.del_nx, St.bump_nx]; omega) | fail)) [h12, w2]
      refine go_next (M.length - (i + 1)) (by omega) ⟨i + 1, σ2, by omega, rfl, fun k hk => ?_, hS2, fun j hj => h1 j (h12' j hj), ?_, ?_, ?_, ?_, ?_, ?_, ?_, ?_⟩
      · by_cases e : k = i
        · subst e; exact hA
        · exact hacc k (by omega)
      all_goals (try simp (implicitDefEqProofs := false) (maxSteps := 2000000) (disch := (first | omega | (simp only [St.new_nx, St.set_nx, St.del_nx, St.bump_nx]; done) | (simp only [St.new_nx, St.set_nx, St.del_nx, St.bump_nx]; omega) | fail)) [h11, h12, h4, hk, hov])
      all_goals omega
  · have hlt' : ¬ (i : Int) < M.length := by omega
    simp (implicitDefEqProofs := false) (maxSteps := 2000000) (disch := (first | omega | (simp only [St.new_nx, St.set_nx, St.del_nx, St.bump_nx]; done) | (simp only [St.new_nx, St.set_nx, St.del_nx, St.bump_nx]; omega) | fail)) [a92l10, a92r5, a92r11, h11, h12, hlt', hk]
    exact ring_false (wf_of fun k hk => hacc k (by omega))
end Ty
end Go.AL
/- What the reference calls solvable. -/
set_option linter.unusedVariables false
set_option linter.unusedSimpArgs false
namespace Go.AL.Ty
open Go Go.Proofs

def okm (M : List Mt) (m : Mt) : Prop := m.solved = true → proper m.value = true ∧ nums m.value 1 = [] ∧ ∀ k ∈ nums m.value 6, k < M.length
open Classical in
noncomputable def solvable (M : List Mt) : Bool := decide (okM M ∧ WellFounded (dep M))
theorem solvable_bad {M : List Mt} {m : Mt} (hm : m ∈ M) (h : ¬ okm M m) : solvable M = false := by
  rw [solvable, decide_eq_false_iff_not]
  exact fun hc => h (hc.1 m hm)
def bl (l : List Bool) : List AV := l.map AV.bool
@[simp] theorem bl_length (l : List Bool) : (bl l).length = l.length := by simp [bl]
theorem bl_get {l : List Bool} {i : Nat} (h : i < l.length) : (bl l)[i]? = some (.bool l[i]) := by simp [bl, h]
theorem bl_drop {l : List Bool} {i : Nat} (h : i < l.length) : (bl l).drop i = .bool l[i] :: (bl l).drop (i + 1) := by
  rw [List.drop_eq_getElem_cons (by simpa using h)]; simp [bl]
theorem bl_store {l : List Bool} {i : Nat} (h : i < l.length) (x : Bool) : (bl l).take i ++ .bool x :: (bl l).drop (i + 1) = bl (l.set i x) := by
  rw [List.set_eq_take_append_cons_drop, if_pos h]
  simp [bl]
theorem rep_bl (n : Nat) : (List.replicate n [AV.bool false]).flatten = bl (List.replicate n false) := by
  induction n with
  | zero => rfl
  | succ n ih => simp [List.replicate_succ, bl]
def ct (l : List Bool) : Nat := l.countP id
theorem ct_set {l : List Bool} {i : Nat} (h : l[i]? = some false) : ct (l.set i true) = ct l + 1 := by
  induction l generalizing i with
  | nil => simp at h
  | cons a r ih =>
    cases i with
    | zero => simp at h; subst h; simp [ct]
    | succ n =>
      have := ih (i := n) (by simpa using h)
      simp only [ct, List.set_cons_succ, List.countP_cons] at this ⊢
      omega
theorem ct_all {l : List Bool} (h : l.length ≤ ct l) : ∀ (i : Nat) x, l[i]? = some x → x = true := by
  have : ct l = l.length := Nat.le_antisymm List.countP_le_length h
  rw [ct, List.countP_eq_length] at this
  intro i x hx
  exact this x (List.mem_of_getElem? hx)
def Sound (M : List Mt) (σ : List Bool) : Prop := σ.length = M.length ∧ ∀ i : Nat, σ[i]? = some true → Acc (dep M) i
def Closed (M : List Mt) (σ : List Bool) (n : Nat) : Prop := ∀ j : Nat, j < n → σ[j]? = some false → ∃ k : Nat, dep M k j ∧ σ[k]? = some false
theorem closed_wf {M : List Mt} {σ : List Bool} (hl : σ.length = M.length) (h : Closed M σ M.length) (hw : WellFounded (dep M)) (i : Int) : ∀ n : Nat, (n : Int) = i → n < M.length → σ[n]? ≠ some false := by
  induction i using hw.induction with
  | _ i ih =>
    rintro n rfl hn hf
    obtain ⟨k, hd, hk⟩ := h n hn hf
    refine ih k hd k rfl ?_ hk
    have := (List.getElem?_eq_some_iff.1 hk).1
    omega
theorem solvable_not {M : List Mt} (h : ¬ (okM M ∧ WellFounded (dep M))) : solvable M = false := by
  rw [solvable, decide_eq_false_iff_not]; exact h
theorem solvable_is {M : List Mt} (h : okM M ∧ WellFounded (dep M)) : solvable M = true := by
  rw [← Bool.not_eq_false, solvable, decide_eq_false_iff_not]; exact fun hc => hc h

/-- The last loop. -/
theorem f51 (M : List Mt) (hM : okM M) (hlen : M.length ≤ 600) (s s1 : St) (g : Env) (oS : Nat) (σ : List Bool) (hσ : Sound M σ) (hc : Closed M σ M.length) (h7 : g.get 7 = .mref 1 oS 0 M.length)
    (hoS : s1.m oS = some (.box (bl σ))) (hk : Kept s s1) : go (aops Try.prog a51r39 (regQ (seqQ Try.prog (.block 10 (.loop a51l45)) (seqQ Try.prog ((ACode.reg false a51r46).seq .ret) (finQ [.tmp (true, 2)] fun r' s' => wk r' (.bool (solvable M)) ∧ Kept s s')))) g [] s1) := by
  simp (implicitDefEqProofs := false) (maxSteps := 2000000) (disch := (first | omega | (simp only [St.new_nx, St.set_nx, St.del_nx, St.bump_nx]; done) | (simp only [St.new_nx, St.set_nx, St.del_nx, St.bump_nx]; omega) | fail)) [a51r39, h7]
  refine go_loop (fun m g s1 => ∃ i : Nat, i ≤ M.length ∧ m = M.length - i ∧ (∀ j : Nat, j < i → σ[j]? = some true) ∧ g.get 98 = .mref 1 oS 0 M.length ∧ g.get 99 = .int .i64 M.length ∧ g.get 100 = .int .i64 i ∧ s1.m oS = some (.box (bl σ)) ∧ Kept s s1)
    M.length ⟨0, by omega, by omega, by omega, ?_, ?_, ?_, ?_, ?_⟩ ?_
  iterate 5 (try simp (implicitDefEqProofs := false) (maxSteps := 2000000) (disch := (first | omega | (simp only [St.new_nx, St.set_nx, St.del_nx, St.bump_nx]; done) | (simp only [St.new_nx, St.set_nx, St.del_nx, St.bump_nx]; omega) | fail)) [h7, hoS, hk])
  rintro m g s2 ⟨i, hi, rfl, hall, h98, h99, h100, hoS, hk⟩
  by_cases hlt : i < M.length
  · have hlt' : (i : Int) < M.length := by omega
    have hσi : i < σ.length := by rw [hσ.1]; exact hlt
    have hdr := bl_drop hσi
    have hx := bl_get hσi
    have hxs : σ[i]? = some σ[i] := by simp [hσi]
    have w2 : IntKind.i64.wrap ((i : Int) + 1) = ((i + 1 : Nat) : Int) := by rw [wrap64 (by omega) (by omega)]; omega
    simp (implicitDefEqProofs := false) (maxSteps := 2000000) (disch := (first | omega | (simp only [St.new_nx, St.set_nx, St.del_nx, St.bump_nx]; done) | (simp only [St.new_nx, St.set_nx, St.del_nx, St.bump_nx]; omega) | fail)) [a51l45, a51r40, a51r41, a51r42, a51r43, a51r44, h98, h99, h100, hlt', hlt, hoS, hdr, hx, hσ.1, hσi]
    refine ⟨fun hb => ?_, fun hb => ?_⟩
    · refine ⟨?_, hk⟩
      refine solvable_not fun hcc => closed_wf hσ.1 hc hcc.2 i i rfl hlt (by rw [hxs, hb])
    · simp (implicitDefEqProofs := false) (maxSteps := 2000000) (disch := (first | omega | (simp only [St.new_nx, St.set_nx, St.del_nx, St.bump_nx]; done) | (simp only [St.new_nx, St.set_nx, St.del_nx, St.bump_nx]; omega) | fail)) [h100, w2]
      refine go_next (M.length - (i + 1)) (by omega) ⟨i + 1, by omega, rfl, fun j hj => ?_, ?_, ?_, ?_, ?_, ?_⟩
      · by_cases e : j = i
        · subst e; rw [hxs, hb]
        · exact hall j (by omega)
      all_goals (try simp (implicitDefEqProofs := false) (maxSteps := 2000000) (disch := (first | omega | (simp only [St.new_nx, St.set_nx, St.del_nx, St.bump_nx]; done) | (simp only [St.new_nx, St.set_nx, St.del_nx, St.bump_nx]; omega) | fail)) [h98, h99, hoS, hk])
  · have hlt' : ¬ (i : Int) < M.length := by omega
    simp (implicitDefEqProofs := false) (maxSteps := 2000000) (disch := (first | omega | (simp only [St.new_nx, St.set_nx, St.del_nx, St.bump_nx]; done) | (simp only [St.new_nx, St.set_nx, St.del_nx, St.bump_nx]; omega) | fail)) [a51l45, a51r40, a51r46, h99, h100, hlt', hk]
    exact solvable_is ⟨hM, wf_of fun j hj => hσ.2 j (hall j (by omega))⟩

/-- The metavariables of a value, one by one. -/
def I51g (M : List Mt) (oS i0 : Nat) (σ : List Bool) (b : Bool) (ns : List Int) (s : St) (r : Nat) (m : Nat) (g : Env) (s1 : St) : Prop :=
  ∃ j : Nat, j ≤ ns.length ∧ m = ns.length - j ∧ g.get 11 = .bool ((ns.take j).all fun k => σ.getD k.toNat false) ∧
    g.get 72 = .list 1 .none (il ns) ∧ g.get 73 = .int .i64 ns.length ∧ g.get 74 = .int .i64 j ∧ g.get 7 = .mref 1 oS 0 M.length ∧ g.get 0 = .list 10 .none (M.map Mt.av) ∧ g.get 8 = .bool b ∧ g.get 9 = .int .i64 i0 ∧
    g.get 57 = .list 10 .none (M.map Mt.av) ∧ g.get 58 = .int .i64 M.length ∧ g.get 59 = .int .i64 i0 ∧ g.get 54 = .int .i64 M.length ∧ g.get 55 = .int .i64 r ∧
    s1.m oS = some (.box (bl σ)) ∧ Kept s s1 ∧ oS < s1.nx
/-- A pass. -/
def I51p (M : List Mt) (oS : Nat) (s : St) (r : Nat) (m : Nat) (g : Env) (s1 : St) : Prop :=
  ∃ (i : Nat) (σ : List Bool) (b : Bool), i ≤ M.length ∧ m = M.length - i ∧ Sound M σ ∧ r ≤ ct σ ∧ (b = true → r + 1 ≤ ct σ) ∧ (b = false → Closed M σ i) ∧
    g.get 57 = .list 10 .none (M.map Mt.av) ∧ g.get 58 = .int .i64 M.length ∧ g.get 59 = .int .i64 i ∧ g.get 7 = .mref 1 oS 0 M.length ∧ g.get 0 = .list 10 .none (M.map Mt.av) ∧ g.get 8 = .bool b ∧
    g.get 54 = .int .i64 M.length ∧ g.get 55 = .int .i64 r ∧ s1.m oS = some (.box (bl σ)) ∧ Kept s s1 ∧ oS < s1.nx
/-- All passes. -/
def I51r (M : List Mt) (oS : Nat) (s : St) (m : Nat) (g : Env) (s1 : St) : Prop :=
  ∃ (r : Nat) (σ : List Bool), r ≤ M.length ∧ m = M.length - r ∧ Sound M σ ∧ r ≤ ct σ ∧
    g.get 7 = .mref 1 oS 0 M.length ∧ g.get 0 = .list 10 .none (M.map Mt.av) ∧ g.get 54 = .int .i64 M.length ∧ g.get 55 = .int .i64 r ∧ s1.m oS = some (.box (bl σ)) ∧ Kept s s1 ∧ oS < s1.nx

theorem r51 (M : List Mt) (hM : okM M) (hlen : M.length ≤ 600) (s s1 : St) (g : Env) (oS : Nat) (h7 : g.get 7 = .mref 1 oS 0 M.length) (h0 : g.get 0 = .list 10 .none (M.map Mt.av)) (hon : s.nx ≤ oS) (hS : oS < s1.nx)
    (hoS : s1.m oS = some (.box (bl (List.replicate M.length false)))) (hk : Kept s s1) :
    go (aops Try.prog a51r17 (regQ (seqQ Try.prog (.block 4 (.loop a51l38)) (seqQ Try.prog (((ACode.reg false a51r39).seq (.block 10 (.loop a51l45))).seq ((ACode.reg false a51r46).seq .ret)) (finQ [.tmp (true, 2)] fun r' s' => wk r' (.bool (solvable M)) ∧ Kept s s')))) g [] s1) := by
  simp (implicitDefEqProofs := false) (maxSteps := 2000000) (disch := (first | omega | (simp only [St.new_nx, St.set_nx, St.del_nx, St.bump_nx]; done) | (simp only [St.new_nx, St.set_nx, St.del_nx, St.bump_nx]; omega) | fail)) [a51r17, h0]
  refine go_loop (I51r M oS s) M.length ⟨0, _, by omega, by omega, ⟨by simp, fun i h => ?_⟩, by omega, ?_, ?_, ?_, ?_, hoS, hk, hS⟩ ?_
  · rw [List.getElem?_replicate] at h
    split at h
    · simp at h
    · cases h
  iterate 4 (simp (implicitDefEqProofs := false) (maxSteps := 2000000) (disch := (first | omega | (simp only [St.new_nx, St.set_nx, St.del_nx, St.bump_nx]; done) | (simp only [St.new_nx, St.set_nx, St.del_nx, St.bump_nx]; omega) | fail)) [h7, h0])
  clear h7 h0 hoS hk hS
  rintro m g s1 ⟨r, σ, hr, rfl, hσ, hct, h7, h0, h54, h55, hoS, hk, hS⟩
  by_cases hlt : r < M.length
  · have hlt' : (r : Int) < M.length := by omega
    have w2 : IntKind.i64.wrap ((r : Int) + 1) = ((r + 1 : Nat) : Int) := by rw [wrap64 (by omega) (by omega)]; omega
    simp (implicitDefEqProofs := false) (maxSteps := 2000000) (disch := (first | omega | (simp only [St.new_nx, St.set_nx, St.del_nx, St.bump_nx]; done) | (simp only [St.new_nx, St.set_nx, St.del_nx, St.bump_nx]; omega) | fail)) [a51l38, a51r18, a51r19, a51r20, h54, h55, h7, h0, hlt']
    refine go_loop (I51p M oS s r) M.length ⟨0, σ, false, by omega, by omega, hσ, hct, fun h => (by cases h), fun _ j hj => by omega, ?_, ?_, ?_, ?_, ?_, ?_, ?_, ?_, ?_, ?_, ?_⟩ ?_
    iterate 11 (try simp (implicitDefEqProofs := false) (maxSteps := 2000000) (disch := (first | omega | (simp only [St.new_nx, St.set_nx, St.del_nx, St.bump_nx]; done) | (simp only [St.new_nx, St.set_nx, St.del_nx, St.bump_nx]; omega) | fail)) [h7, h0, h54, h55, hoS, hk, hS])
    clear h7 h0 h54 h55 hoS hk hS
    rintro m g s1 ⟨i, σ, b, hi, rfl, hσ, hct, hbt, hbf, h57, h58, h59, h7, h0, h8, h54, h55, hoS, hk, hS⟩
    by_cases hli : i < M.length
    · have hli' : (i : Int) < M.length := by omega
      have hσi : i < σ.length := by rw [hσ.1]; exact hli
      have hdr := bl_drop hσi
      have hx := bl_get hσi
      have hxs : σ[i]? = some σ[i] := by simp [hσi]
      have hMi := mt_get hli
      have hMx : M[i]? = some M[i] := by simp [hli]
      have w3 : IntKind.i64.wrap ((i : Int) + 1) = ((i + 1 : Nat) : Int) := by rw [wrap64 (by omega) (by omega)]; omega
      simp (implicitDefEqProofs := false) (maxSteps := 2000000) (disch := (first | omega | (simp only [St.new_nx, St.set_nx, St.del_nx, St.bump_nx]; done) | (simp only [St.new_nx, St.set_nx, St.del_nx, St.bump_nx]; omega) | fail)) [a51l35, a51r21, a51r22, a51r23, a51r34, h57, h58, h59, h7, h0, h8, h54, h55, hli', hli, hMi, hoS, hdr, hx, hσ.1, hσi, w3]
      refine ⟨fun hb => ?_, fun hb => ?_⟩
      · refine go_next (M.length - (i + 1)) (by omega) ⟨i + 1, σ, b, by omega, rfl, hσ, hct, hbt, fun h j hj hf => ?_, ?_, ?_, ?_, ?_, ?_, ?_, ?_, ?_, ?_, ?_, ?_⟩
        · by_cases e : j = i
          · subst e; rw [hxs, hb] at hf; cases hf
          · exact hbf h j (by omega) hf
        all_goals (try simp (implicitDefEqProofs := false) (maxSteps := 2000000) (disch := (first | omega | (simp only [St.new_nx, St.set_nx, St.del_nx, St.bump_nx]; done) | (simp only [St.new_nx, St.set_nx, St.del_nx, St.bump_nx]; omega) | fail)) [h57, h58, h59, h7, h0, h8, h54, h55, hoS, hk, w3])
        all_goals omega
      have hxf : σ[i]? = some false := by rw [hxs, hb]
      have key : ∀ (c : Bool), (c = true → Acc (dep M) i) → (c = false → ∃ k : Nat, dep M k i ∧ σ[k]? = some false) →
          Sound M (σ.set i c) ∧ r ≤ ct (σ.set i c) ∧ ((b || c) = true → r + 1 ≤ ct (σ.set i c)) ∧ ((b || c) = false → Closed M (σ.set i c) (i + 1)) := by
        intro c h1 h2
        cases c with
        | true =>
          refine ⟨⟨by simp [hσ.1], fun j hj => ?_⟩, by rw [ct_set hxf]; omega, fun _ => by rw [ct_set hxf]; omega, fun h => by simp at h⟩
          rw [List.getElem?_set] at hj
          split at hj
          · rename_i e; subst e; exact h1 rfl
          · exact hσ.2 j hj
        | false =>
          have hsame : σ.set i false = σ := by
            apply List.ext_getElem?
            intro j
            rw [List.getElem?_set]
            split
            · rename_i e; subst e; exact hxf.symm
            · rfl
          rw [hsame]
          refine ⟨hσ, hct, fun h => hbt (by simpa using h), fun h j hj hf => ?_⟩
          by_cases e : j = i
          · subst e; exact h2 rfl
          · exact hbf (by simpa using h) j (by omega) hf
      simp (implicitDefEqProofs := false) (maxSteps := 2000000) (disch := (first | omega | (simp only [St.new_nx, St.set_nx, St.del_nx, St.bump_nx]; done) | (simp only [St.new_nx, St.set_nx, St.del_nx, St.bump_nx]; omega) | fail)) [a51r24, a51r25, hb]
      refine ⟨fun hs => ?_, fun hs => ?_⟩
      · have hmem : M[i] ∈ M := List.getElem_mem hli
        obtain ⟨hp, _, hks⟩ := hM _ hmem hs
        have hv : vl M i = some M[i].value := by simp [vl, hMx, hs]
        have hsz := proper_sz hp
        have hnl := nums_len M[i].value 6
        have h46 := p46 M[i].value (proper_fit hp) (by omega)
        rw [nums_col 6 (by omega) _ (Gd.of hp)] at h46
        have hocc : ∀ k, occ k M[i].value ↔ k ∈ nums M[i].value 6 := fun k => by rw [← mem_nums]
        generalize nums M[i].value 6 = ns at hks hnl h46 hocc
        simp (implicitDefEqProofs := false) (maxSteps := 2000000) (disch := (first | omega | (simp only [St.new_nx, St.set_nx, St.del_nx, St.bump_nx]; done) | (simp only [St.new_nx, St.set_nx, St.del_nx, St.bump_nx]; omega) | fail)) [a51r26]
        refine go_pure h46 fun mm1 hm1 => ?_
        try simp only [St.new_nx, St.bump_nx, St.set_nx, St.del_nx] at hm1
        simp (implicitDefEqProofs := false) (maxSteps := 2000000) (disch := (first | omega | (simp only [St.new_nx, St.set_nx, St.del_nx, St.bump_nx]; done) | (simp only [St.new_nx, St.set_nx, St.del_nx, St.bump_nx]; omega) | fail))
        refine go_loop (I51g M oS i σ b ns s r) ns.length ⟨0, by omega, by omega, ?_, ?_, ?_, ?_, ?_, ?_, ?_, ?_, ?_, ?_, ?_, ?_, ?_, ?_, ?_, ?_⟩ ?_
        iterate 15 (simp (implicitDefEqProofs := false) (maxSteps := 2000000) (disch := (first | omega | (simp only [St.new_nx, St.set_nx, St.del_nx, St.bump_nx]; done) | (simp only [St.new_nx, St.set_nx, St.del_nx, St.bump_nx]; omega) | fail)) [h57, h58, h59, h7, h0, h8, h54, h55, hoS, hk])
        · simp (implicitDefEqProofs := false) (maxSteps := 2000000) (disch := (first | omega | (simp only [St.new_nx, St.set_nx, St.del_nx, St.bump_nx]; done) | (simp only [St.new_nx, St.set_nx, St.del_nx, St.bump_nx]; omega) | fail))
          omega
        clear h57 h58 h59 h7 h0 h8 h54 h55 hoS hk hS
        rintro m g s2 ⟨j, hj, rfl, h11, h72, h73, h74, h7, h0, h8, h9, h57, h58, h59, h54, h55, hoS, hk, hS⟩
        by_cases hlj : j < ns.length
        · have hx2 : ns[j]? = some ns[j] := by simp [hlj]
          have hx2' := il_get hx2
          have hdr2 := il_drop hlj
          have hlj' : (j : Int) < ns.length := by omega
          have w4 : IntKind.i64.wrap ((j : Int) + 1) = ((j + 1 : Nat) : Int) := by rw [wrap64 (by omega) (by omega)]; omega
          have hin : ns[j] ∈ ns := List.getElem_mem hlj
          have hkl := hks _ hin
          have h0k : 0 ≤ ns[j] := ((hM.gk hv).1.1.occ_nn ((hocc _).2 hin)).1
          obtain ⟨q, hq⟩ : ∃ q : Nat, ns[j] = q := ⟨ns[j].toNat, by omega⟩
          have hqM : q < M.length := by omega
          have hσq : q < σ.length := by rw [hσ.1]; exact hqM
          have hdrq := bl_drop hσq
          have hgd : σ.getD q false = σ[q] := by simp [hσq]
          have hta : (ns.take (j + 1)).all (fun k => σ.getD k.toNat false) = ((ns.take j).all (fun k => σ.getD k.toNat false) && σ[q]) := by
            rw [List.take_succ_eq_append_getElem hlj, List.all_append, hq, ← hgd]; simp
          generalize (ns.take j).all (fun k => σ.getD k.toNat false) = c at h11 hta
          simp (implicitDefEqProofs := false) (maxSteps := 2000000) (disch := (first | omega | (simp only [St.new_nx, St.set_nx, St.del_nx, St.bump_nx]; done) | (simp only [St.new_nx, St.set_nx, St.del_nx, St.bump_nx]; omega) | fail)) [a51l31, a51r27, a51r28, a51r29, a51r30, h72, h73, h74, h11, h7, hlj', hlj, hx2', hdr2, hq, hqM, hσq, hdrq, hoS, hσ.1, w4]
          refine ⟨fun hc => ?_, fun hc => ?_⟩
          · refine go_next (ns.length - (j + 1)) (by omega) ⟨j + 1, by omega, rfl, ?_, ?_, ?_, ?_, ?_, ?_, ?_, ?_, ?_, ?_, ?_, ?_, ?_, ?_, ?_, ?_⟩
            · rw [hta, hc, Bool.true_and]
              simp (implicitDefEqProofs := false) (maxSteps := 2000000) (disch := (first | omega | (simp only [St.new_nx, St.set_nx, St.del_nx, St.bump_nx]; done) | (simp only [St.new_nx, St.set_nx, St.del_nx, St.bump_nx]; omega) | fail))
            all_goals (try simp (implicitDefEqProofs := false) (maxSteps := 2000000) (disch := (first | omega | (simp only [St.new_nx, St.set_nx, St.del_nx, St.bump_nx]; done) | (simp only [St.new_nx, St.set_nx, St.del_nx, St.bump_nx]; omega) | fail)) [h72, h73, h74, h57, h58, h59, h7, h0, h8, h9, h54, h55, hoS, hk, w4])
            all_goals omega
          · refine go_next (ns.length - (j + 1)) (by omega) ⟨j + 1, by omega, rfl, ?_, ?_, ?_, ?_, ?_, ?_, ?_, ?_, ?_, ?_, ?_, ?_, ?_, ?_, ?_, ?_⟩
            · rw [hta, hc, Bool.false_and]
              simp (implicitDefEqProofs := false) (maxSteps := 2000000) (disch := (first | omega | (simp only [St.new_nx, St.set_nx, St.del_nx, St.bump_nx]; done) | (simp only [St.new_nx, St.set_nx, St.del_nx, St.bump_nx]; omega) | fail))
            all_goals (try simp (implicitDefEqProofs := false) (maxSteps := 2000000) (disch := (first | omega | (simp only [St.new_nx, St.set_nx, St.del_nx, St.bump_nx]; done) | (simp only [St.new_nx, St.set_nx, St.del_nx, St.bump_nx]; omega) | fail)) [h72, h73, h74, h57, h58, h59, h7, h0, h8, h9, h54, h55, hoS, hk, w4])
            all_goals omega
        · have hlj' : ¬ (j : Int) < ns.length := by omega
          have hie : j = ns.length := by omega
          rw [hie, List.take_length] at h11
          have hall : ∀ c, (ns.all (fun k => σ.getD k.toNat false)) = c → (c = true → Acc (dep M) i) ∧ (c = false → ∃ k : Nat, dep M k i ∧ σ[k]? = some false) := by
            rintro c rfl
            refine ⟨fun h => ⟨_, fun k ⟨v, h1, ho⟩ => ?_⟩, fun h => ?_⟩
            · rw [hv] at h1; cases h1
              have hin := (hocc k).1 ho
              have h0k : 0 ≤ k := ((hM.gk hv).1.1.occ_nn ho).1
              have hkl := hks k hin
              have := List.all_eq_true.1 h k hin
              have h2 := hσ.2 k.toNat (by rw [List.getD_eq_getElem?_getD] at this; cases hh : σ[k.toNat]? with | none => rw [hh] at this; simp at this | some x => rw [hh] at this; simp at this; rw [this])
              rwa [show ((k.toNat : Nat) : Int) = k by omega] at h2
            · rw [List.all_eq_false] at h
              obtain ⟨k, hin, hk⟩ := h
              have ho := (hocc k).2 hin
              have h0k : 0 ≤ k := ((hM.gk hv).1.1.occ_nn ho).1
              have hkl := hks k hin
              have hkn : ((k.toNat : Nat) : Int) = k := by omega
              refine ⟨k.toNat, ⟨_, hv, by rw [hkn]; exact ho⟩, ?_⟩
              have hlt : k.toNat < σ.length := by rw [hσ.1]; omega
              simpa [hlt] using hk
          generalize ns.all (fun k => σ.getD k.toNat false) = c at h11 hall
          obtain ⟨hc1, hc2⟩ := hall c rfl
          simp (implicitDefEqProofs := false) (maxSteps := 2000000) (disch := (first | omega | (simp only [St.new_nx, St.set_nx, St.del_nx, St.bump_nx]; done) | (simp only [St.new_nx, St.set_nx, St.del_nx, St.bump_nx]; omega) | fail)) [a51l31, a51r27, h73, h74, hlj']
          have hset := bl_store hσi (c)
          simp (implicitDefEqProofs := false) (maxSteps := 2000000) (disch := (first | omega | (simp only [St.new_nx, St.set_nx, St.del_nx, St.bump_nx]; done) | (simp only [St.new_nx, St.set_nx, St.del_nx, St.bump_nx]; omega) | fail)) [a51r32, a51r33, h57, h58, h59, h7, h0, h8, h9, h11, h54, h55, hoS, hli, hset, hσ.1, w3]
          obtain ⟨k1, k2, k3, k4⟩ := key (c) hc1 hc2
          refine ⟨fun hbb => ?_, fun hbb => ?_⟩ <;> refine go_next (M.length - (i + 1)) (by omega) ⟨i + 1, _, b || (c), by omega, rfl, k1, k2, k3, k4, ?_, ?_, ?_, ?_, ?_, ?_, ?_, ?_, ?_, ?_, ?_⟩
          all_goals (try simp (implicitDefEqProofs := false) (maxSteps := 2000000) (disch := (first | omega | (simp only [St.new_nx, St.set_nx, St.del_nx, St.bump_nx]; done) | (simp only [St.new_nx, St.set_nx, St.del_nx, St.bump_nx]; omega) | fail)) [h57, h58, h59, h7, h0, h8, h9, h11, h54, h55, hoS, hk, w3, hbb])
          all_goals omega
      · have h9 : True := trivial
        have hAi : Acc (dep M) i := ⟨_, fun k ⟨v, h1, _⟩ => by simp [vl, hMx, hs] at h1⟩
        have h11 : True := trivial
        have hset := bl_store hσi (true)
        simp (implicitDefEqProofs := false) (maxSteps := 2000000) (disch := (first | omega | (simp only [St.new_nx, St.set_nx, St.del_nx, St.bump_nx]; done) | (simp only [St.new_nx, St.set_nx, St.del_nx, St.bump_nx]; omega) | fail)) [a51r32, a51r33, h57, h58, h59, h7, h0, h8, h9, h11, h54, h55, hoS, hli, hset, hσ.1, w3]
        obtain ⟨k1, k2, k3, k4⟩ := key (true) (fun _ => hAi) (fun h => by cases h)
        refine ⟨fun hbb => ?_, fun hbb => ?_⟩ <;> refine go_next (M.length - (i + 1)) (by omega) ⟨i + 1, _, b || (true), by omega, rfl, k1, k2, k3, k4, ?_, ?_, ?_, ?_, ?_, ?_, ?_, ?_, ?_, ?_, ?_⟩
        all_goals (try simp (implicitDefEqProofs := false) (maxSteps := 2000000) (disch := (first | omega | (simp only [St.new_nx, St.set_nx, St.del_nx, St.bump_nx]; done) | (simp only [St.new_nx, St.set_nx, St.del_nx, St.bump_nx]; omega) | fail)) [h57, h58, h59, h7, h0, h8, h9, h11, h54, h55, hoS, hk, w3, hbb])
        all_goals omega
    · have hli' : ¬ (i : Int) < M.length := by omega
      have hie : i = M.length := by omega
      subst hie
      simp (implicitDefEqProofs := false) (maxSteps := 2000000) (disch := (first | omega | (simp only [St.new_nx, St.set_nx, St.del_nx, St.bump_nx]; done) | (simp only [St.new_nx, St.set_nx, St.del_nx, St.bump_nx]; omega) | fail)) [a51l35, a51r21, a51r36, a51r37, h58, h59, h8, h55, hli', w2]
      refine ⟨fun hb => ?_, fun hb => ?_⟩
      · exact f51 M hM hlen s s1 _ oS σ hσ (hbf hb) (by simp (implicitDefEqProofs := false) (maxSteps := 2000000) (disch := (first | omega | (simp only [St.new_nx, St.set_nx, St.del_nx, St.bump_nx]; done) | (simp only [St.new_nx, St.set_nx, St.del_nx, St.bump_nx]; omega) | fail)) [h7]) hoS hk
      · refine go_next (M.length - (r + 1)) (by omega) ⟨r + 1, σ, by omega, rfl, hσ, hbt hb, ?_, ?_, ?_, ?_, ?_, ?_, ?_⟩
        all_goals (try simp (implicitDefEqProofs := false) (maxSteps := 2000000) (disch := (first | omega | (simp only [St.new_nx, St.set_nx, St.del_nx, St.bump_nx]; done) | (simp only [St.new_nx, St.set_nx, St.del_nx, St.bump_nx]; omega) | fail)) [h7, h0, h54, h55, hoS, hk, w2])
        all_goals omega
  · have hlt' : ¬ (r : Int) < M.length := by omega
    have hall : ∀ (i : Nat) x, σ[i]? = some x → x = true := ct_all (by rw [hσ.1]; omega)
    simp (implicitDefEqProofs := false) (maxSteps := 2000000) (disch := (first | omega | (simp only [St.new_nx, St.set_nx, St.del_nx, St.bump_nx]; done) | (simp only [St.new_nx, St.set_nx, St.del_nx, St.bump_nx]; omega) | fail)) [a51l38, a51r18, h54, h55, hlt']
    exact f51 M hM hlen s s1 _ oS σ hσ (fun j _ hj => by have := hall j _ hj; cases this) (by simp (implicitDefEqProofs := false) (maxSteps := 2000000) (disch := (first | omega | (simp only [St.new_nx, St.set_nx, St.del_nx, St.bump_nx]; done) | (simp only [St.new_nx, St.set_nx, St.del_nx, St.bump_nx]; omega) | fail)) [h7]) hoS hk
end Go.AL.Ty
/- What the reference calls solvable: the values. -/
set_option linter.unusedVariables false
set_option linter.unusedSimpArgs false
namespace Go.AL.Ty
open Go Go.Proofs

theorem p51 (M : List Mt) (hlen : M.length ≤ 600) : PureC Try.prog 51 [.list 10 .none (M.map Mt.av)] (.bool (solvable M)) := by
  refine PureC.intro fun s => fun_sound mixed Try.func51 Try.call51 c51 rfl (awpFun_go _ _ _ _ ?_)
  simp (implicitDefEqProofs := false) (maxSteps := 2000000) (disch := (first | omega | (simp only [St.new_nx, St.set_nx, St.del_nx, St.bump_nx]; done) | (simp only [St.new_nx, St.set_nx, St.del_nx, St.bump_nx]; omega) | fail)) [a51, a51b, a51r0, a51r1]
  refine go_loop (fun m g s1 => ∃ i : Nat, i ≤ M.length ∧ m = M.length - i ∧ (∀ x ∈ M.take i, okm M x) ∧ g.get 16 = .list 10 .none (M.map Mt.av) ∧ g.get 17 = .int .i64 M.length ∧ g.get 18 = .int .i64 i ∧ g.get 0 = .list 10 .none (M.map Mt.av) ∧ Kept s s1 ∧ s.nx ≤ s1.nx)
    M.length ⟨0, by omega, by omega, by simp, ?_, ?_, ?_, ?_, ?_, ?_⟩ ?_
  iterate 6 (simp (implicitDefEqProofs := false) (maxSteps := 2000000) (disch := (first | omega | (simp only [St.new_nx, St.set_nx, St.del_nx, St.bump_nx]; done) | (simp only [St.new_nx, St.set_nx, St.del_nx, St.bump_nx]; omega) | fail)))
  rintro m g s1 ⟨i, hi, rfl, hall, h16, h17, h18, h0, hk, hn⟩
  by_cases hlt : i < M.length
  · have hlt' : (i : Int) < M.length := by omega
    have hMi := mt_get hlt
    have hmem : M[i] ∈ M := List.getElem_mem hlt
    have w2 : IntKind.i64.wrap ((i : Int) + 1) = ((i + 1 : Nat) : Int) := by rw [wrap64 (by omega) (by omega)]; omega
    have next : okm M M[i] → ∀ x ∈ M.take (i + 1), okm M x := by
      intro h x hx
      rw [List.take_succ_eq_append_getElem hlt] at hx
      rcases List.mem_append.1 hx with hx | hx
      · exact hall x hx
      · simp at hx; subst hx; exact h
    simp (implicitDefEqProofs := false) (maxSteps := 2000000) (disch := (first | omega | (simp only [St.new_nx, St.set_nx, St.del_nx, St.bump_nx]; done) | (simp only [St.new_nx, St.set_nx, St.del_nx, St.bump_nx]; omega) | fail)) [a51l15, a51r2, a51r3, a51r4, a51r14, h16, h17, h18, h0, hlt', hlt, hMi, w2]
    refine ⟨fun hs => ?_, fun hs => ?_⟩
    · refine go_next (M.length - (i + 1)) (by omega) ⟨i + 1, by omega, rfl, next (fun h => by rw [hs] at h; cases h), ?_, ?_, ?_, ?_, ?_, ?_⟩
      all_goals (try simp (implicitDefEqProofs := false) (maxSteps := 2000000) (disch := (first | omega | (simp only [St.new_nx, St.set_nx, St.del_nx, St.bump_nx]; done) | (simp only [St.new_nx, St.set_nx, St.del_nx, St.bump_nx]; omega) | fail)) [h16, h17, h18, h0, hk, w2])
      all_goals omega
    simp (implicitDefEqProofs := false) (maxSteps := 2000000) (disch := (first | omega | (simp only [St.new_nx, St.set_nx, St.del_nx, St.bump_nx]; done) | (simp only [St.new_nx, St.set_nx, St.del_nx, St.bump_nx]; omega) | fail)) [a51r5, a51r6]
    refine go_pure (p13 M[i].value) fun mm1 hm1 => ?_
    try simp only [St.new_nx, St.bump_nx, St.set_nx, St.del_nx] at hm1
    simp (implicitDefEqProofs := false) (maxSteps := 2000000) (disch := (first | omega | (simp only [St.new_nx, St.set_nx, St.del_nx, St.bump_nx]; done) | (simp only [St.new_nx, St.set_nx, St.del_nx, St.bump_nx]; omega) | fail))
    by_cases hp : proper M[i].value = true
    · have hg := Gd.of hp
      have hsz := proper_sz hp
      have hn1 := nums_len M[i].value 1
      have hn6 := nums_len M[i].value 6
      have h45 := p45 M[i].value (proper_fit hp) (by omega)
      have h46 := p46 M[i].value (proper_fit hp) (by omega)
      rw [nums_col 1 (by omega) _ hg] at h45
      rw [nums_col 6 (by omega) _ hg] at h46
      have hok : okm M M[i] ↔ nums M[i].value 1 = [] ∧ ∀ k ∈ nums M[i].value 6, k < M.length := by
        unfold okm; rw [hs, hp]; simp
      generalize nums M[i].value 1 = n1 at h45 hn1 hok
      generalize nums M[i].value 6 = ns at h46 hn6 hok
      simp (implicitDefEqProofs := false) (maxSteps := 2000000) (disch := (first | omega | (simp only [St.new_nx, St.set_nx, St.del_nx, St.bump_nx]; done) | (simp only [St.new_nx, St.set_nx, St.del_nx, St.bump_nx]; omega) | fail)) [hp]
      refine go_pure h45 fun mm2 hm2 => ?_
      try simp only [St.new_nx, St.bump_nx, St.set_nx, St.del_nx] at hm2
      simp (implicitDefEqProofs := false) (maxSteps := 2000000) (disch := (first | omega | (simp only [St.new_nx, St.set_nx, St.del_nx, St.bump_nx]; done) | (simp only [St.new_nx, St.set_nx, St.del_nx, St.bump_nx]; omega) | fail))
      refine ⟨fun hb => ?_, fun hb => ?_⟩
      · refine ⟨solvable_bad hmem fun h => ?_, hk⟩
        rw [(hok.1 h).1] at hb
        simp at hb
      simp (implicitDefEqProofs := false) (maxSteps := 2000000) (disch := (first | omega | (simp only [St.new_nx, St.set_nx, St.del_nx, St.bump_nx]; done) | (simp only [St.new_nx, St.set_nx, St.del_nx, St.bump_nx]; omega) | fail)) [a51r7]
      refine go_pure h46 fun mm3 hm3 => ?_
      try simp only [St.new_nx, St.bump_nx, St.set_nx, St.del_nx] at hm3
      simp (implicitDefEqProofs := false) (maxSteps := 2000000) (disch := (first | omega | (simp only [St.new_nx, St.set_nx, St.del_nx, St.bump_nx]; done) | (simp only [St.new_nx, St.set_nx, St.del_nx, St.bump_nx]; omega) | fail))
      refine go_loop (fun m g s1 => ∃ j : Nat, j ≤ ns.length ∧ m = ns.length - j ∧ (∀ x ∈ ns.take j, x < M.length) ∧ g.get 38 = .list 1 .none (il ns) ∧ g.get 39 = .int .i64 ns.length ∧ g.get 40 = .int .i64 j ∧
        g.get 16 = .list 10 .none (M.map Mt.av) ∧ g.get 17 = .int .i64 M.length ∧ g.get 18 = .int .i64 i ∧ g.get 0 = .list 10 .none (M.map Mt.av) ∧ Kept s s1 ∧ s.nx ≤ s1.nx)
        ns.length ⟨0, by omega, by omega, by simp, ?_, ?_, ?_, ?_, ?_, ?_, ?_, ?_, ?_⟩ ?_
      iterate 8 (simp (implicitDefEqProofs := false) (maxSteps := 2000000) (disch := (first | omega | (simp only [St.new_nx, St.set_nx, St.del_nx, St.bump_nx]; done) | (simp only [St.new_nx, St.set_nx, St.del_nx, St.bump_nx]; omega) | fail)) [h16, h17, h18, h0, hk])
      · simp (implicitDefEqProofs := false) (maxSteps := 2000000) (disch := (first | omega | (simp only [St.new_nx, St.set_nx, St.del_nx, St.bump_nx]; done) | (simp only [St.new_nx, St.set_nx, St.del_nx, St.bump_nx]; omega) | fail))
        omega
      clear h16 h17 h18 h0 hk hn
      rintro m g s2 ⟨j, hj, rfl, hlj, h38, h39, h40, h16, h17, h18, h0, hk, hn⟩
      by_cases hjn : j < ns.length
      · have hx2 : ns[j]? = some ns[j] := by simp [hjn]
        have hx2' := il_get hx2
        have hdr2 := il_drop hjn
        have hjn' : (j : Int) < ns.length := by omega
        have w4 : IntKind.i64.wrap ((j : Int) + 1) = ((j + 1 : Nat) : Int) := by rw [wrap64 (by omega) (by omega)]; omega
        simp (implicitDefEqProofs := false) (maxSteps := 2000000) (disch := (first | omega | (simp only [St.new_nx, St.set_nx, St.del_nx, St.bump_nx]; done) | (simp only [St.new_nx, St.set_nx, St.del_nx, St.bump_nx]; omega) | fail)) [a51l13, a51r8, a51r9, a51r10, a51r11, a51r12, h38, h39, h40, h0, hjn', hjn, hx2', hdr2, w4]
        refine ⟨fun hb => ?_, fun hb => ?_⟩
        · refine ⟨solvable_bad hmem fun h => ?_, hk⟩
          have := (hok.1 h).2 _ (List.getElem_mem hjn)
          omega
        · refine go_next (ns.length - (j + 1)) (by omega) ⟨j + 1, by omega, rfl, fun x hx => ?_, ?_, ?_, ?_, ?_, ?_, ?_, ?_, ?_, ?_⟩
          · rw [List.take_succ_eq_append_getElem hjn] at hx
            rcases List.mem_append.1 hx with hx | hx
            · exact hlj x hx
            · simp at hx; subst hx; omega
          all_goals (try simp (implicitDefEqProofs := false) (maxSteps := 2000000) (disch := (first | omega | (simp only [St.new_nx, St.set_nx, St.del_nx, St.bump_nx]; done) | (simp only [St.new_nx, St.set_nx, St.del_nx, St.bump_nx]; omega) | fail)) [h38, h39, h16, h17, h18, h0, hk, w4])
          all_goals omega
      · have hjn' : ¬ (j : Int) < ns.length := by omega
        have hje : j = ns.length := by omega
        rw [hje, List.take_length] at hlj
        simp (implicitDefEqProofs := false) (maxSteps := 2000000) (disch := (first | omega | (simp only [St.new_nx, St.set_nx, St.del_nx, St.bump_nx]; done) | (simp only [St.new_nx, St.set_nx, St.del_nx, St.bump_nx]; omega) | fail)) [a51l13, a51r8, h39, h40, h18, hjn', w2]
        refine go_next (M.length - (i + 1)) (by omega) ⟨i + 1, by omega, rfl, next (hok.2 ⟨hb, hlj⟩), ?_, ?_, ?_, ?_, ?_, ?_⟩
        all_goals (try simp (implicitDefEqProofs := false) (maxSteps := 2000000) (disch := (first | omega | (simp only [St.new_nx, St.set_nx, St.del_nx, St.bump_nx]; done) | (simp only [St.new_nx, St.set_nx, St.del_nx, St.bump_nx]; omega) | fail)) [h16, h17, h18, h0, hk, w2])
        all_goals omega
    · have hbad : solvable M = false := solvable_bad hmem fun h => hp (h hs).1
      simp (implicitDefEqProofs := false) (maxSteps := 2000000) (disch := (first | omega | (simp only [St.new_nx, St.set_nx, St.del_nx, St.bump_nx]; done) | (simp only [St.new_nx, St.set_nx, St.del_nx, St.bump_nx]; omega) | fail)) [hp]
      exact ⟨hbad, hk⟩
  · have hlt' : ¬ (i : Int) < M.length := by omega
    have hie : i = M.length := by omega
    have hM : okM M := by
      rw [hie, List.take_length] at hall
      exact hall
    have hrep := rep_bl M.length
    simp (implicitDefEqProofs := false) (maxSteps := 2000000) (disch := (first | omega | (simp only [St.new_nx, St.set_nx, St.del_nx, St.bump_nx]; done) | (simp only [St.new_nx, St.set_nx, St.del_nx, St.bump_nx]; omega) | fail)) [a51l15, a51r2, a51r16, h17, h18, h0, hlt', hrep]
    refine r51 M hM hlen s _ _ s1.nx ?_ ?_ ?_ ?_ ?_ ?_
    all_goals (try simp (implicitDefEqProofs := false) (maxSteps := 2000000) (disch := (first | omega | (simp only [St.new_nx, St.set_nx, St.del_nx, St.bump_nx]; done) | (simp only [St.new_nx, St.set_nx, St.del_nx, St.bump_nx]; omega) | fail)) [h0, hk])
    all_goals omega
end Go.AL.Ty
