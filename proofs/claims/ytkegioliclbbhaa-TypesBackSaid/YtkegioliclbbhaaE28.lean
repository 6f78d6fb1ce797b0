/- TypesBack. -/
import Derived.Test.YtkegioliclbbhaaE27
set_option linter.unusedVariables false
set_option linter.unusedSimpArgs false
namespace Go.AL.Ty
open Go Go.Proofs

theorem wrapu (d : Int) : 0 ≤ IntKind.u64.wrap d := by
  unfold IntKind.wrap
  simp [IntKind.bits, IntKind.signed]
  omega
theorem dd_bound (d : Int) : 0 ≤ IntKind.i64.wrap ((IntKind.u64.wrap d).tmod 40) ∧ IntKind.i64.wrap ((IntKind.u64.wrap d).tmod 40) < 40 := by
  have h := wrapu d
  generalize IntKind.u64.wrap d = x at *
  have h1 : 0 ≤ x.tmod 40 := Int.tmod_nonneg _ h
  have h2 : x.tmod 40 < 40 := Int.tmod_lt_of_pos _ (by omega)
  rw [wrap64 (by omega) (by omega)]
  exact ⟨h1, h2⟩
theorem chk_all : ∀ (l pre : List Int), chk pre l = true → ∀ n ∈ l, 0 ≤ n ∧ n ≤ 9999
  | [], _, _, n, hn => by cases hn
  | x :: xs, pre, h, n, hn => by
    simp only [chk, Bool.and_eq_true, decide_eq_true_eq] at h
    simp only [List.mem_cons] at hn
    rcases hn with rfl | hn
    · exact h.1.1
    · exact chk_all xs _ h.2 n hn
theorem owns_propers (op : Int) (hop : op = 6 ∨ op = 7) (l : List Int) (hl : l.length ≤ 600) (h : ∀ n ∈ l, 0 ≤ n ∧ n ≤ 9999) : propers (owns op l) = true := by
  simp only [propers, owns, List.length_map, Bool.and_eq_true, decide_eq_true_eq, List.all_eq_true]
  refine ⟨hl, fun x hx => ?_⟩
  obtain ⟨n, hn, rfl⟩ := List.mem_map.1 hx
  have := h n hn
  rw [proper, gd]
  rw [if_neg (by omega), if_neg, if_neg, if_neg]
  · rfl
  · rcases hop with rfl | rfl <;> simp [ByteArray.size]
  · rcases hop with rfl | rfl <;> simp [isNum] <;> omega
  · rcases hop with rfl | rfl <;> simp [kids]

/-- The box of the law's argument, and what else stays. -/
def S7 (t : Ty) (s : St) (g : Env) (s1 : St) : Prop :=
  g.get 3 = .ptr s.nx 0 ∧ s1.m s.nx = some (.box [.int .i64 t.op, .int .i64 t.n, .str t.s, .list 4 .none (t.args.map av)]) ∧ Kept s s1 ∧ s.nx < s1.nx
def ol (op : Int) (l : List Int) : List AV := l.map fun n => .agg [.int .i64 op, .int .i64 n, .str ⟨#[]⟩, .list 0 .full []]
theorem ol_wk (op : Int) (l : List Int) : wkL (ol op l) ((owns op l).map av) := by
  induction l with
  | nil => simp [ol, owns]
  | cons n l ih =>
    simp only [ol, owns, List.map_cons, wkL_cons] at ih ⊢
    exact ⟨by simp [av_mk], ih⟩
def own1 (s : St) (i : Nat) (sz : Nat) (tok : Tok) (s1 : St) : Prop := (i = 0 ∧ sz = 0 ∧ tok = .full) ∨ (sz = 4 ∧ ∃ q, tok = .own q ∧ s1.m q = some (.spare (i * 4)) ∧ q < s1.nx ∧ s.nx < q)
def I7c (t : Ty) (op : Int) (l : List Int) (i : Nat) (s : St) (n : Nat) (g : Env) (s1 : St) : Prop :=
  ∃ (k sz : Nat) (tok : Tok), k ≤ l.length ∧ n = l.length - k ∧ g.get 93 = .list 1 .none (il l) ∧ g.get 94 = .int .i64 l.length ∧ g.get 95 = .int .i64 k ∧ g.get 15 = .int .i64 op ∧ g.get 2 = .list 1 .none (il l) ∧
    g.get 16 = .list sz tok (ol op (l.take k)) ∧ g.get 87 = .list 1 .full [.int .i64 6, .int .i64 7] ∧ g.get 88 = .int .i64 2 ∧ g.get 89 = .int .i64 i ∧ own1 s k sz tok s1 ∧ S7 t s g s1
def I7b (t : Ty) (l : List Int) (s : St) (n : Nat) (g : Env) (s1 : St) : Prop :=
  ∃ (i : Nat), i ≤ 2 ∧ n = 2 - i ∧ g.get 2 = .list 1 .none (il l) ∧ g.get 87 = .list 1 .full [.int .i64 6, .int .i64 7] ∧ g.get 88 = .int .i64 2 ∧ g.get 89 = .int .i64 i ∧ S7 t s g s1
/-- What is known when the owns are laid. -/
def E7c (t : Ty) (op : Int) (l : List Int) (i : Nat) (s : St) (g : Env) (s1 : St) : Prop :=
  (∃ sz tok, g.get 16 = .list sz tok (ol op l) ∧ (sz = 4 ∨ ol op l = [])) ∧ g.get 15 = .int .i64 op ∧ g.get 2 = .list 1 .none (il l) ∧ g.get 87 = .list 1 .full [.int .i64 6, .int .i64 7] ∧ g.get 88 = .int .i64 2 ∧ g.get 89 = .int .i64 i ∧ S7 t s g s1
theorem inner7 (t : Ty) (op : Int) (l : List Int) (hl : l.length ≤ 1000) (i : Nat) (s : St) (G : Env) (S : St) (Q : AExit → Env → St → Prop) (h : I7c t op l i s l.length G S)
    (hQ : ∀ g s1, E7c t op l i s g s1 → go (Q .normal g s1)) : go (awp Try.prog (.loop a7l28) (blockQ 4 Q) G S) := by
  refine go_loop (I7c t op l i s) l.length h ?_
  rintro n g s1 ⟨k, sz, tok, hk, rfl, h93, h94, h95, h15, h2, h16, h87, h88, h89, hown, hS⟩
  have hS' := hS
  obtain ⟨h3, hT, hkp, hn⟩ := hS'
  by_cases hlt : k < l.length
  · have hx : l[k]? = some l[k] := by simp [hlt]
    have hx' := il_get hx
    have hlt' : (k : Int) < l.length := by omega
    have w2 : IntKind.i64.wrap ((k : Int) + 1) = ((k + 1 : Nat) : Int) := by rw [wrap64 (by omega) (by omega)]; omega
    have hta : ol op (l.take (k + 1)) = ol op (l.take k) ++ [.agg [.int .i64 op, .int .i64 l[k], .str ⟨#[]⟩, .list 0 .full []]] := by
      rw [List.take_add_one, hx, ol, List.map_append]; rfl
    have hlo : (ol op (l.take k)).length = k := by simp [ol]; omega
    generalize ol op (l.take k) = A at *
    rcases hown with ⟨rfl, rfl, rfl⟩ | ⟨rfl, q, rfl, hq, hq2, hq3⟩
    · have hA : A = [] := List.length_eq_zero_iff.1 hlo
      subst hA
      simp only [List.nil_append] at hta
      simp (implicitDefEqProofs := false) (maxSteps := 2000000) (disch := (first | omega | (simp only [St.new_nx, St.set_nx, St.del_nx, St.bump_nx]; done) | (simp only [St.new_nx, St.set_nx, St.del_nx, St.bump_nx]; omega) | fail)) [a7l28, a7r24, a7r25, a7r26, a7r27, h93, h94, h95, h15, h2, h16, hlt', hlt, hx', w2, show IntKind.i64.wrap 1 = 1 from rfl]
      rw [← hta]
      refine go_next (l.length - 1) (by omega) ⟨1, 4, .own s1.nx, by omega, rfl, ?_, ?_, ?_, ?_, ?_, ?_, ?_, ?_, ?_, .inr ⟨rfl, _, rfl, ?_, ?_, hn⟩, ?_, ?_, ?_, ?_⟩
      all_goals (try simp (implicitDefEqProofs := false) (maxSteps := 2000000) (disch := (first | omega | (simp only [St.new_nx, St.set_nx, St.del_nx, St.bump_nx]; done) | (simp only [St.new_nx, St.set_nx, St.del_nx, St.bump_nx]; omega) | fail)) [h93, h94, h95, h15, h2, h87, h88, h89, h3, hT, hkp])
      all_goals omega
    · simp (implicitDefEqProofs := false) (maxSteps := 2000000) (disch := (first | omega | (simp only [St.new_nx, St.set_nx, St.del_nx, St.bump_nx]; done) | (simp only [St.new_nx, St.set_nx, St.del_nx, St.bump_nx]; omega) | fail)) [a7l28, a7r24, a7r25, a7r26, a7r27, h93, h94, h95, h15, h2, h16, hlt', hlt, hx', w2, hq, hlo]
      rw [← hta]
      refine go_next (l.length - (k + 1)) (by omega) ⟨k + 1, 4, .own s1.nx, by omega, rfl, ?_, ?_, ?_, ?_, ?_, ?_, ?_, ?_, ?_, .inr ⟨rfl, _, rfl, ?_, ?_, hn⟩, ?_, ?_, ?_, ?_⟩
      all_goals (try simp (implicitDefEqProofs := false) (maxSteps := 2000000) (disch := (first | omega | (simp only [St.new_nx, St.set_nx, St.del_nx, St.bump_nx]; done) | (simp only [St.new_nx, St.set_nx, St.del_nx, St.bump_nx]; omega) | fail)) [h93, h94, h95, h15, h2, h87, h88, h89, h3, hT, hkp])
      all_goals omega
  · have hlt' : ¬ (k : Int) < l.length := by omega
    have hke : k = l.length := by omega
    subst hke
    rw [List.take_length] at h16
    simp (implicitDefEqProofs := false) (maxSteps := 2000000) (disch := (first | omega | (simp only [St.new_nx, St.set_nx, St.del_nx, St.bump_nx]; done) | (simp only [St.new_nx, St.set_nx, St.del_nx, St.bump_nx]; omega) | fail)) [a7l28, a7r24, h93, h94, h95, hlt']
    refine hQ _ _ ⟨⟨sz, tok, ?_, ?_⟩, ?_, ?_, ?_, ?_, ?_, ?_, hT, hkp, hn⟩
    · simp (implicitDefEqProofs := false) (maxSteps := 2000000) (disch := (first | omega | (simp only [St.new_nx, St.set_nx, St.del_nx, St.bump_nx]; done) | (simp only [St.new_nx, St.set_nx, St.del_nx, St.bump_nx]; omega) | fail)) [h16]
    · rcases hown with ⟨h0, _, _⟩ | ⟨h4, _⟩
      · right
        have : l = [] := List.length_eq_zero_iff.1 h0
        rw [this]; rfl
      · exact .inl h4
    all_goals simp (implicitDefEqProofs := false) (maxSteps := 2000000) (disch := (first | omega | (simp only [St.new_nx, St.set_nx, St.del_nx, St.bump_nx]; done) | (simp only [St.new_nx, St.set_nx, St.del_nx, St.bump_nx]; omega) | fail)) [h15, h2, h87, h88, h89, h3]

/-- The second half: what Bind makes is put back. -/
theorem half7 (t : Ty) (hp : proper t = true) (l : List Int) (hl : l.length ≤ 20) (hc : chk [] l = true) (s : St) (n : Nat) (g : Env) (s1 : St) (h : I7b t l s n g s1) :
    go (awp Try.prog a7l37 (loopQ n (I7b t l s) (blockQ 2 (seqQ Try.prog ((ACode.reg false a7r38).seq .ret) (finQ [.tmp (true, 6)] fun r' s' => wk r' (.bool true) ∧ Kept s s')))) g s1) := by
  obtain ⟨i, hi, rfl, h2, h87, h88, h89, hS⟩ := h
  have hS' := hS
  obtain ⟨h3, hT, hkp, hn⟩ := hS'
  by_cases hlt : i < 2
  · have hlt' : (i : Int) < 2 := by omega
    obtain ⟨op, hop, hx⟩ : ∃ op : Int, (op = 6 ∨ op = 7) ∧ [AV.int .i64 6, .int .i64 7][i]? = some (.int .i64 op) := by
      match i, hlt with
      | 0, _ => exact ⟨6, .inl rfl, rfl⟩
      | 1, _ => exact ⟨7, .inr rfl, rfl⟩
    have w2 : IntKind.i64.wrap ((i : Int) + 1) = ((i + 1 : Nat) : Int) := by rw [wrap64 (by omega) (by omega)]; omega
    have hcc : [AV.int .i64 6, AV.int .i64 7][i]'(by simpa using hlt) = .int .i64 op := by
      have := List.getElem?_eq_some_iff.1 hx
      exact this.2
    have hb := p22 t op l
    have hok : proper t = true ∧ l.length ≤ 600 ∧ (op = 7 ∨ op = 6) ∧ chk [] l = true := ⟨hp, by omega, by omega, hc⟩
    rw [bindR, if_pos hok] at hb
    have hback : putted (bound t op l) (owns op l) = t := by
      rw [bound_bind op l hp]
      exact own_back op hop l t (.of hp) 0 (by omega)
    have hpr : propers (owns op l) = true := owns_propers op hop l (by omega) (chk_all l [] hc)
    have hft : fin t = .tup [t.av, .int .i64 0] := by rw [fin, if_pos hp]
    have h31 := p31 t (proper_lim hp) t
    rw [same_refl] at h31
    simp (implicitDefEqProofs := false) (maxSteps := 2000000) (disch := (first | omega | (simp only [St.new_nx, St.set_nx, St.del_nx, St.bump_nx]; done) | (simp only [St.new_nx, St.set_nx, St.del_nx, St.bump_nx]; omega) | fail)) [a7l37, a7r20, a7r21, a7r22, a7r23, h2, h87, h88, h89, hlt', hlt, hx, hcc]
    refine inner7 t op l (by omega) i s _ _ _ ⟨0, 0, .full, by omega, by omega, ?_, ?_, ?_, ?_, ?_, ?_, ?_, ?_, ?_, .inl ⟨rfl, rfl, rfl⟩, ?_, hT, hkp, hn⟩ fun g s1 hE => ?_
    iterate 10 (simp (implicitDefEqProofs := false) (maxSteps := 2000000) (disch := (first | omega | (simp only [St.new_nx, St.set_nx, St.del_nx, St.bump_nx]; done) | (simp only [St.new_nx, St.set_nx, St.del_nx, St.bump_nx]; omega) | fail)) [h2, h87, h88, h89, h3, ol])
    obtain ⟨⟨sz, tok, h16, hsz⟩, h15, h2, h87, h88, h89, h3, hT, hkp, hn⟩ := hE
    simp (implicitDefEqProofs := false) (maxSteps := 2000000) (disch := (first | omega | (simp only [St.new_nx, St.set_nx, St.del_nx, St.bump_nx]; done) | (simp only [St.new_nx, St.set_nx, St.del_nx, St.bump_nx]; omega) | fail)) [a7r29, h16, h15, h2, h87, h88, h89, h3, hT]
    by_cases hpb : proper (bound t op l) = true
    · rw [fin, if_pos hpb] at hb
      have h12 := p12 (bound t op l) (owns op l)
      rw [if_pos (by rw [hpb, hpr]; rfl), hback, hft] at h12
      refine go_pure hb fun mm1 hm1 => ?_
      try simp only [St.new_nx, St.bump_nx, St.set_nx, St.del_nx] at hm1
      simp (implicitDefEqProofs := false) (maxSteps := 2000000) (disch := (first | omega | (simp only [St.new_nx, St.set_nx, St.del_nx, St.bump_nx]; done) | (simp only [St.new_nx, St.set_nx, St.del_nx, St.bump_nx]; omega) | fail)) [a7r30, a7r31, a7r33, h16]
      refine go_pure (PureC.argw h12 ?_) fun m4 hm4 => ?_
      · simp only [wkL_cons, wk_rfl, wk_list, wkL_nil, true_and, and_true]
        exact ⟨hsz, ol_wk op l⟩
      simp only [St.new_nx, St.bump_nx, St.set_nx, St.del_nx] at hm4
      simp (implicitDefEqProofs := false) (maxSteps := 2000000) (disch := (first | omega | (simp only [St.new_nx, St.set_nx, St.del_nx, St.bump_nx]; done) | (simp only [St.new_nx, St.set_nx, St.del_nx, St.bump_nx]; omega) | fail)) [a7r34, h3, hT]
      refine go_pure h31 fun mm2 hm2 => ?_
      try simp only [St.new_nx, St.bump_nx, St.set_nx, St.del_nx] at hm2
      simp (implicitDefEqProofs := false) (maxSteps := 2000000) (disch := (first | omega | (simp only [St.new_nx, St.set_nx, St.del_nx, St.bump_nx]; done) | (simp only [St.new_nx, St.set_nx, St.del_nx, St.bump_nx]; omega) | fail)) [a7r36, h89, w2]
      refine go_next (2 - (i + 1)) (by omega) ⟨i + 1, by omega, rfl, ?_, ?_, ?_, ?_, ?_, ?_, ?_, ?_⟩
      all_goals (try simp (implicitDefEqProofs := false) (maxSteps := 2000000) (disch := (first | omega | (simp only [St.new_nx, St.set_nx, St.del_nx, St.bump_nx]; done) | (simp only [St.new_nx, St.set_nx, St.del_nx, St.bump_nx]; omega) | fail)) [h2, h87, h88, h89, h3, hT, hkp])
      all_goals omega
    · rw [fin, if_neg hpb] at hb
      refine go_pure hb fun mm3 hm3 => ?_
      try simp only [St.new_nx, St.bump_nx, St.set_nx, St.del_nx] at hm3
      simp (implicitDefEqProofs := false) (maxSteps := 2000000) (disch := (first | omega | (simp only [St.new_nx, St.set_nx, St.del_nx, St.bump_nx]; done) | (simp only [St.new_nx, St.set_nx, St.del_nx, St.bump_nx]; omega) | fail)) [a7r30, a7r31, a7r36, h89, w2]
      refine go_next (2 - (i + 1)) (by omega) ⟨i + 1, by omega, rfl, ?_, ?_, ?_, ?_, ?_, ?_, ?_, ?_⟩
      all_goals (try simp (implicitDefEqProofs := false) (maxSteps := 2000000) (disch := (first | omega | (simp only [St.new_nx, St.set_nx, St.del_nx, St.bump_nx]; done) | (simp only [St.new_nx, St.set_nx, St.del_nx, St.bump_nx]; omega) | fail)) [h2, h87, h88, h89, h3, hT, hkp])
      all_goals omega
  · have hlt' : ¬ (i : Int) < 2 := by omega
    simp (implicitDefEqProofs := false) (maxSteps := 2000000) (disch := (first | omega | (simp only [St.new_nx, St.set_nx, St.del_nx, St.bump_nx]; done) | (simp only [St.new_nx, St.set_nx, St.del_nx, St.bump_nx]; omega) | fail)) [a7l37, a7r20, h2, h87, h88, h89, hlt', a7r38]
    refine go_pure p16 fun mm4 hm4 => ?_
    try simp only [St.new_nx, St.bump_nx, St.set_nx, St.del_nx] at hm4
    simp (implicitDefEqProofs := false) (maxSteps := 2000000) (disch := (first | omega | (simp only [St.new_nx, St.set_nx, St.del_nx, St.bump_nx]; done) | (simp only [St.new_nx, St.set_nx, St.del_nx, St.bump_nx]; omega) | fail)) [hkp]
end Go.AL.Ty
