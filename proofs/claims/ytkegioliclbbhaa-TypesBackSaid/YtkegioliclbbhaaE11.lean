/- The reference: put. -/
import Derived.Test.YtkegioliclbbhaaE10
set_option linter.unusedVariables false
set_option linter.unusedSimpArgs false
namespace Go.AL.Ty
open Go Go.Proofs

theorem p21 (t : Ty) (by_ from_ : Int) (h1 : -1000000 ≤ by_) (h2 : by_ ≤ 1000000) (hf : Fit t 0) : PureC Try.prog 21 [t.av, .int .i64 by_, .int .i64 from_] (.tup [(shf by_ from_ t 0).1.av, .bool (shf by_ from_ t 0).2]) := by
  refine PureC.intro fun s => fun_sound mixed Try.func21 Try.call21 c21 rfl (awpFun_go _ _ _ _ ?_)
  simp (implicitDefEqProofs := false) (maxSteps := 2000000) (disch := (first | omega | (simp only [St.new_nx, St.set_nx, St.del_nx, St.bump_nx]; done) | (simp only [St.new_nx, St.set_nx, St.del_nx, St.bump_nx]; omega) | fail)) [a21, a21b, a21r0, a21r1]
  refine go_pure (p64 by_ from_ h1 h2 t 0 hf) fun m hm => ?_
  simp (implicitDefEqProofs := false) (maxSteps := 2000000) (disch := (first | omega | (simp only [St.new_nx, St.set_nx, St.del_nx, St.bump_nx]; done) | (simp only [St.new_nx, St.set_nx, St.del_nx, St.bump_nx]; omega) | fail))
theorem p102 (t : Ty) (by_ : Int) (h1 : -1000000 ≤ by_) (h2 : by_ ≤ 1000000) (hf : Fit t 0) : PureC Try.prog 102 [t.av, .int .i64 by_] (shf by_ 0 t 0).1.av := by
  refine PureC.intro fun s => fun_sound mixed Try.func102 Try.call102 c102 rfl (awpFun_go _ _ _ _ ?_)
  simp (implicitDefEqProofs := false) (maxSteps := 2000000) (disch := (first | omega | (simp only [St.new_nx, St.set_nx, St.del_nx, St.bump_nx]; done) | (simp only [St.new_nx, St.set_nx, St.del_nx, St.bump_nx]; omega) | fail)) [a102, a102b, a102r0, a102r1, a102r2]
  refine go_pure (p21 t by_ 0 h1 h2 hf) fun m hm => ?_
  simp only [St.new_nx, St.bump_nx, St.set_nx] at hm
  simp (implicitDefEqProofs := false) (maxSteps := 2000000) (disch := (first | omega | (simp only [St.new_nx, St.set_nx, St.del_nx, St.bump_nx]; done) | (simp only [St.new_nx, St.set_nx, St.del_nx, St.bump_nx]; omega) | fail))

/-- What the reference's put does at a node. -/
def pr (l : List Ty) (t : Ty) (b : Int) : Option Ty :=
  if t.op ≠ 1 then none else if t.n < b then some t
  else if t.n - b < l.length then (l[l.length - 1 - (t.n - b).toNat]?).map fun x => (shf b 0 x 0).1
  else some (var (t.n - l.length))

def C60 (l : List Ty) (t : Ty) (k : Int) : Prop := PureC Try.prog 60 [t.av, .list 4 .none (l.map av), .int .i64 k] (map (pr l) t k).av

theorem loop60 (l : List Ty) (t : Ty) (b : Int) (f : Ty → Int → Option Ty) (hf : f = pr l) (s : St) (oT oO oR : Nat) (G : Env) (S : St)
    (ih : ∀ (i : Nat) x, t.args[i]? = some x → C60 l x (b + belw t.op i)) (hlen : t.args.length ≤ 1000000) (hb : -1000000 ≤ b) (hb2 : b ≤ 1000000)
    (h29 : G.get 54 = .list 4 .none (t.args.map av)) (h30 : G.get 55 = .int .i64 t.args.length) (h31 : G.get 56 = .int .i64 0) (h1 : G.get 1 = .list 4 .none (l.map av)) (h2 : G.get 2 = .int .i64 b)
    (h3 : G.get 3 = .ptr oT 0) (h9 : G.get 8 = .ptr oO 0) (h6 : G.get 6 = .ptr oR 0)
    (hT : S.m oT = some (.box [.int .i64 t.op, .int .i64 t.n, .str t.s, .list 4 .none (t.args.map av)])) (hO : S.m oO = some (.box [.int .i64 t.op, .int .i64 t.n, .str t.s, .list 0 .full []]))
    (hR : S.m oR = some (.box [.int .i64 0, .int .i64 0, .str ⟨#[]⟩, .list 0 .full []])) (hk : Kept s S) (n1 : s.nx ≤ oT) (n2 : oT < oR) (n3 : oR < oO) (n4 : oO < S.nx) :
    go (awp Try.prog (.loop a60l14) (blockQ 1 (seqQ Try.prog ((ACode.reg false a60r15).seq .ret) (finQ [.cell (true, 6) 4 true] fun r' s' => wk r' (mk t.op t.n t.s (maps f t.op t.args 0 b)).av ∧ Kept s s'))) G S) := by
  have hml := maps_length f t.op t.args 0 b
  generalize hres : maps f t.op t.args 0 b = res at hml ⊢
  refine go_loop (fun n g s1 => ∃ (i sz : Nat) (tok : Tok), i ≤ t.args.length ∧ n = t.args.length - i ∧
    g.get 54 = .list 4 .none (t.args.map av) ∧ g.get 55 = .int .i64 t.args.length ∧ g.get 56 = .int .i64 i ∧ g.get 1 = .list 4 .none (l.map av) ∧ g.get 2 = .int .i64 b ∧ g.get 3 = .ptr oT 0 ∧ g.get 8 = .ptr oO 0 ∧ g.get 6 = .ptr oR 0 ∧
    s1.m oT = some (.box [.int .i64 t.op, .int .i64 t.n, .str t.s, .list 4 .none (t.args.map av)]) ∧ s1.m oO = some (.box [.int .i64 t.op, .int .i64 t.n, .str t.s, .list sz tok ((res.take i).map av)]) ∧
    s1.m oR = some (.box [.int .i64 0, .int .i64 0, .str ⟨#[]⟩, .list 0 .full []]) ∧ Kept s s1 ∧ oO < s1.nx ∧
    ((i = 0 ∧ sz = 0 ∧ tok = .full) ∨ (sz = 4 ∧ ∃ q, tok = .own q ∧ s1.m q = some (.spare (i * 4)) ∧ oO < q ∧ q < s1.nx))) t.args.length
    ⟨0, 0, .full, Nat.zero_le _, by simp, h29, h30, h31, h1, h2, h3, h9, h6, hT, by simpa using hO, hR, hk, n4, .inl ⟨rfl, rfl, rfl⟩⟩ ?_
  clear h29 h30 h31 h1 h2 h3 h9 h6 hT hO hR hk n4
  rintro n g s1 ⟨i, sz, tok, hi, rfl, h29, h30, h31, h1, h2, h3, h9, h6, hT, hO, hR, hk, n4, htok⟩
  by_cases hlt : i < t.args.length
  · have hx : t.args[i]? = some t.args[i] := by simp [hlt]
    have hlt' : (i : Int) < t.args.length := by omega
    have w2 : IntKind.i64.wrap ((i : Int) + 1) = ((i + 1 : Nat) : Int) := by rw [wrap64 (by omega) (by omega)]; omega
    have hbw : 0 ≤ belw t.op i ∧ belw t.op i ≤ 1 := by unfold belw; split <;> omega
    have w1 : IntKind.i64.wrap (b + belw t.op i) = b + belw t.op i := wrap64 (by omega) (by omega)
    have hri : res[i]? = some (map f t.args[i] (b + belw t.op i)) := by
      have := maps_get f t.op t.args 0 i b _ hx
      rw [hres] at this
      simpa using this
    have htake : (res.take (i + 1)).map av = (res.take i).map av ++ [(map f t.args[i] (b + belw t.op i)).av] := by
      rw [List.take_add_one, hri]; simp
    have hih := ih i _ hx
    rw [C60, ← hf] at hih
    simp (implicitDefEqProofs := false) (maxSteps := 2000000) (disch := (first | omega | (simp only [St.new_nx, St.set_nx, St.del_nx, St.bump_nx]; done) | (simp only [St.new_nx, St.set_nx, St.del_nx, St.bump_nx]; omega) | fail)) [a60l14, a60r10, a60r11, a60r12, h29, h30, h31, h1, h2, h3, h9, h6, hT, hO, hlt', hlt, hx]
    refine pcV_intro (p103 t i) ?_
    simp (implicitDefEqProofs := false) (maxSteps := 2000000) (disch := (first | omega | (simp only [St.new_nx, St.set_nx, St.del_nx, St.bump_nx]; done) | (simp only [St.new_nx, St.set_nx, St.del_nx, St.bump_nx]; omega) | fail)) [w1, h1, h2]
    refine pcV_intro hih ?_
    rcases htok with ⟨rfl, rfl, rfl⟩ | ⟨rfl, q, rfl, hq, q1, q2⟩
    · simp (implicitDefEqProofs := false) (maxSteps := 2000000) (disch := (first | omega | (simp only [St.new_nx, St.set_nx, St.del_nx, St.bump_nx]; done) | (simp only [St.new_nx, St.set_nx, St.del_nx, St.bump_nx]; omega) | fail)) [hO, h9, h31, show IntKind.i64.wrap 1 = 1 from rfl, a60r13]
      intro m hm
      simp only [Nat.zero_add, List.take_zero, List.map_nil, List.nil_append] at htake
      refine go_next (t.args.length - 1) (by omega) ⟨1, by omega, rfl, ?_, ?_, ?_, ?_, ?_, ?_, ?_, ?_, ?_, 4, .own (s1.nx + 1), ?_, ?_, ?_, ?_, .inr ⟨rfl, _, rfl, ?_, ?_, ?_⟩⟩ <;> (try simp (implicitDefEqProofs := false) (maxSteps := 2000000) (disch := (first | omega | (simp only [St.new_nx, St.set_nx, St.del_nx, St.bump_nx]; done) | (simp only [St.new_nx, St.set_nx, St.del_nx, St.bump_nx]; omega) | fail)) [h29, h30, h31, h1, h2, h3, h9, h6, hT, hO, hR, hk, ← List.map_take, htake])
      all_goals omega
    · simp (implicitDefEqProofs := false) (maxSteps := 2000000) (disch := (first | omega | (simp only [St.new_nx, St.set_nx, St.del_nx, St.bump_nx]; done) | (simp only [St.new_nx, St.set_nx, St.del_nx, St.bump_nx]; omega) | fail)) [hO, hq, h9, h31, w2, a60r13]
      intro m hm
      refine go_next (t.args.length - (i + 1)) (by omega) ⟨i + 1, by omega, rfl, ?_, ?_, ?_, ?_, ?_, ?_, ?_, ?_, ?_, 4, .own (s1.nx + 1), ?_, ?_, ?_, ?_, .inr ⟨rfl, _, rfl, ?_, ?_, ?_⟩⟩ <;> (try simp (implicitDefEqProofs := false) (maxSteps := 2000000) (disch := (first | omega | (simp only [St.new_nx, St.set_nx, St.del_nx, St.bump_nx]; done) | (simp only [St.new_nx, St.set_nx, St.del_nx, St.bump_nx]; omega) | fail)) [h29, h30, h31, h1, h2, h3, h9, h6, hT, hO, hR, hk, ← List.map_take, htake])
      all_goals omega
  · have hlt' : ¬ (i : Int) < t.args.length := by omega
    have hie : i = t.args.length := by omega
    subst hie
    have htk : res.take t.args.length = res := by rw [← hml]; simp
    rw [htk] at hO
    simp (implicitDefEqProofs := false) (maxSteps := 2000000) (disch := (first | omega | (simp only [St.new_nx, St.set_nx, St.del_nx, St.bump_nx]; done) | (simp only [St.new_nx, St.set_nx, St.del_nx, St.bump_nx]; omega) | fail)) [a60l14, a60r10, h29, h30, h31, h9, h6, hlt', a60r15, hO, hR, hk]
    rw [av_mk]
    rcases htok with ⟨h0, rfl, rfl⟩ | ⟨rfl, q, rfl, _⟩
    · have : res = [] := List.length_eq_zero_iff.1 (by omega)
      simp [this]
    · simp

theorem p60 (l : List Ty) (hl : l.length ≤ 1000000) (hx : ∀ x ∈ l, Fit x 0) (t : Ty) : ∀ k, Fit t k → C60 l t k := by
  induction t using Ty.ind with
  | h t ih =>
    intro k hf
    refine PureC.intro fun s => fun_sound mixed Try.func60 Try.call60 c60 rfl (awpFun_go _ _ _ _ ?_)
    have h7 := wide_n hf.1
    have hk := hf.2
    have w1 : IntKind.i64.wrap (t.n - k) = t.n - k := wrap64 (by omega) (by omega)
    have w2 : IntKind.i64.wrap (t.n - l.length) = t.n - l.length := wrap64 (by omega) (by omega)
    have w3 : IntKind.i64.wrap ((l.length : Int) - 1) = (l.length : Int) - 1 := wrap64 (by omega) (by omega)
    have w4 : IntKind.i64.wrap ((l.length : Int) - 1 - (t.n - k)) = (l.length : Int) - 1 - (t.n - k) := wrap64 (by omega) (by omega)
    simp (implicitDefEqProofs := false) (maxSteps := 2000000) (disch := (first | omega | (simp only [St.new_nx, St.set_nx, St.del_nx, St.bump_nx]; done) | (simp only [St.new_nx, St.set_nx, St.del_nx, St.bump_nx]; omega) | fail)) [a60, a60b, a60r0, a60r1, a60r2, a60r3, a60r4, a60r5, a60r6, a60r7, a60r8, a60r9, w1, w2, w3, w4]
    refine ⟨fun ho => ⟨fun hb => ?_, fun hb => ⟨fun hn => ?_, fun hn => ?_⟩⟩, fun ho => ?_⟩
    · have e : pr l t k = some t := by simp [pr, ho, hb]
      rw [map_eq, e]; simp
    · have hb' : ¬ t.n < k := by omega
      have hi : l.length - 1 - (t.n - k).toNat < l.length := by omega
      have hti : ((l.length : Int) - 1 - (t.n - k)).toNat = l.length - 1 - (t.n - k).toNat := by omega
      have hx1 : l[l.length - 1 - (t.n - k).toNat]? = some l[l.length - 1 - (t.n - k).toNat] := by simp [hi]
      have e : pr l t k = some (shf k 0 l[l.length - 1 - (t.n - k).toNat] 0).1 := by
        simp only [pr, ho, hb', hn, hx1, ne_eq, not_true, if_false, if_true, Option.map_some]
      refine ok_intro (by omega) ?_
      rw [hti, hx1, map_eq, e]
      simp (implicitDefEqProofs := false) (maxSteps := 2000000) (disch := (first | omega | (simp only [St.new_nx, St.set_nx, St.del_nx, St.bump_nx]; done) | (simp only [St.new_nx, St.set_nx, St.del_nx, St.bump_nx]; omega) | fail))
      refine go_pure (p102 _ k (by omega) (by omega) (hx _ (List.getElem_mem hi))) fun m hm => ?_
      simp only [St.new_nx, St.bump_nx, St.set_nx] at hm
      simp (implicitDefEqProofs := false) (maxSteps := 2000000) (disch := (first | omega | (simp only [St.new_nx, St.set_nx, St.del_nx, St.bump_nx]; done) | (simp only [St.new_nx, St.set_nx, St.del_nx, St.bump_nx]; omega) | fail))
    · have hb' : ¬ t.n < k := by omega
      have hn' : ¬ t.n - k < l.length := by omega
      have e : pr l t k = some (var (t.n - l.length)) := by simp [pr, ho, hb', hn']
      refine go_pure (p59 _) fun m hm => ?_
      simp only [St.new_nx, St.bump_nx, St.set_nx] at hm
      rw [map_eq, e]
      simp (implicitDefEqProofs := false) (maxSteps := 2000000) (disch := (first | omega | (simp only [St.new_nx, St.set_nx, St.del_nx, St.bump_nx]; done) | (simp only [St.new_nx, St.set_nx, St.del_nx, St.bump_nx]; omega) | fail)) [var, av_mk]
    · have e : pr l t k = none := by simp [pr, ho]
      rw [map_eq, e]
      refine loop60 l t k _ rfl s s.nx (s.nx + 1 + 1) (s.nx + 1) _ _ (fun i x hx' => ih x (List.mem_of_getElem? hx') _ (Fit.child hf i x hx')) (wide_len hf.1) (by omega) (by omega) ?_ ?_ ?_ ?_ ?_ ?_ ?_ ?_ ?_ ?_ ?_ ?_ ?_ ?_ ?_ ?_ <;> (try simp (implicitDefEqProofs := false) (maxSteps := 2000000) (disch := (first | omega | (simp only [St.new_nx, St.set_nx, St.del_nx, St.bump_nx]; done) | (simp only [St.new_nx, St.set_nx, St.del_nx, St.bump_nx]; omega) | fail)))
      all_goals omega

def put (t : Ty) (l : List Ty) : Ty := map (pr l) t 0
theorem p18 (t : Ty) (l : List Ty) (hl : l.length ≤ 1000000) (hx : ∀ x ∈ l, Fit x 0) (ht : Fit t 0) : PureC Try.prog 18 [t.av, .list 4 .none (l.map av)] (put t l).av := by
  refine PureC.intro fun s => fun_sound mixed Try.func18 Try.call18 c18 rfl (awpFun_go _ _ _ _ ?_)
  simp (implicitDefEqProofs := false) (maxSteps := 2000000) (disch := (first | omega | (simp only [St.new_nx, St.set_nx, St.del_nx, St.bump_nx]; done) | (simp only [St.new_nx, St.set_nx, St.del_nx, St.bump_nx]; omega) | fail)) [a18, a18b, a18r0, a18r1]
  refine go_pure (p60 l hl hx t 0 ht) fun m hm => ?_
  simp (implicitDefEqProofs := false) (maxSteps := 2000000) (disch := (first | omega | (simp only [St.new_nx, St.set_nx, St.del_nx, St.bump_nx]; done) | (simp only [St.new_nx, St.set_nx, St.del_nx, St.bump_nx]; omega) | fail)) [put]

theorem p15 (t : Ty) (hl : lim t) : PureC Try.prog 15 [t.av] (.bool (same t nul)) := by
  refine PureC.intro fun s => fun_sound mixed Try.func15 Try.call15 c15 rfl (awpFun_go _ _ _ _ ?_)
  simp (implicitDefEqProofs := false) (maxSteps := 2000000) (disch := (first | omega | (simp only [St.new_nx, St.set_nx, St.del_nx, St.bump_nx]; done) | (simp only [St.new_nx, St.set_nx, St.del_nx, St.bump_nx]; omega) | fail)) [a15, a15b, a15r0, a15r1]
  have h := p31 t hl nul
  simp only [nul, av_mk, List.map_nil] at h
  refine go_pure (PureC.argw h (by simp)) fun m hm => ?_
  simp (implicitDefEqProofs := false) (maxSteps := 2000000) (disch := (first | omega | (simp only [St.new_nx, St.set_nx, St.del_nx, St.bump_nx]; done) | (simp only [St.new_nx, St.set_nx, St.del_nx, St.bump_nx]; omega) | fail)) [nul]

/-- What whole says. -/
def whol (t : Ty) (e : Int) (want : Ty) : Bool := if proper want then decide (e = 0) && same t want else same t nul && decide (e = 5)
theorem p17 (t : Ty) (e : Int) (want : Ty) (hl : lim t) : PureC Try.prog 17 [t.av, .int .i64 e, want.av] (.bool (whol t e want)) := by
  refine PureC.intro fun s => fun_sound mixed Try.func17 Try.call17 c17 rfl (awpFun_go _ _ _ _ ?_)
  simp (implicitDefEqProofs := false) (maxSteps := 2000000) (disch := (first | omega | (simp only [St.new_nx, St.set_nx, St.del_nx, St.bump_nx]; done) | (simp only [St.new_nx, St.set_nx, St.del_nx, St.bump_nx]; omega) | fail)) [a17, a17b, a17r0, a17r1]
  refine go_pure (p13 want) fun m hm => ?_
  simp only [St.new_nx, St.bump_nx, St.set_nx] at hm
  simp (implicitDefEqProofs := false) (maxSteps := 2000000) (disch := (first | omega | (simp only [St.new_nx, St.set_nx, St.del_nx, St.bump_nx]; done) | (simp only [St.new_nx, St.set_nx, St.del_nx, St.bump_nx]; omega) | fail)) [a17r2, a17r3]
  refine ⟨fun hw => ?_, fun hw => ⟨fun he => ?_, fun he => ?_⟩⟩
  · refine go_pure (p15 t hl) fun m2 hm2 => ?_
    simp only [St.new_nx, St.bump_nx, St.set_nx] at hm2
    simp (implicitDefEqProofs := false) (maxSteps := 2000000) (disch := (first | omega | (simp only [St.new_nx, St.set_nx, St.del_nx, St.bump_nx]; done) | (simp only [St.new_nx, St.set_nx, St.del_nx, St.bump_nx]; omega) | fail)) [whol, hw]
    by_cases hz : same t nul = true
    · simp (implicitDefEqProofs := false) (maxSteps := 2000000) (disch := (first | omega | (simp only [St.new_nx, St.set_nx, St.del_nx, St.bump_nx]; done) | (simp only [St.new_nx, St.set_nx, St.del_nx, St.bump_nx]; omega) | fail)) [hz]
    · simp only [Bool.not_eq_true] at hz
      simp (implicitDefEqProofs := false) (maxSteps := 2000000) (disch := (first | omega | (simp only [St.new_nx, St.set_nx, St.del_nx, St.bump_nx]; done) | (simp only [St.new_nx, St.set_nx, St.del_nx, St.bump_nx]; omega) | fail)) [hz]
  · refine go_pure (p31 t hl want) fun m2 hm2 => ?_
    simp only [St.new_nx, St.bump_nx, St.set_nx] at hm2
    simp (implicitDefEqProofs := false) (maxSteps := 2000000) (disch := (first | omega | (simp only [St.new_nx, St.set_nx, St.del_nx, St.bump_nx]; done) | (simp only [St.new_nx, St.set_nx, St.del_nx, St.bump_nx]; omega) | fail)) [whol, hw, he]
  · simp [whol, hw, he]
end Go.AL.Ty
