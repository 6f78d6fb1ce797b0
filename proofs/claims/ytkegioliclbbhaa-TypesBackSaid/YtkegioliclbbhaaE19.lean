/- The reference's bind; TypesBinds. -/
import Derived.Test.YtkegioliclbbhaaE18
set_option linter.unusedVariables false
set_option linter.unusedSimpArgs false
namespace Go.AL.Ty
open Go Go.Proofs

mutual
def bn (op : Int) (l : List Int) : Ty → Int → Ty
  | mk o n s args, k => if o = op ∧ n ∈ l then var (l.length - 1 - idx l n + k) else mk o (if o = 1 ∧ k ≤ n then n + l.length else n) s (bns op l o args 0 k)
def bns (op : Int) (l : List Int) (o : Int) : List Ty → Nat → Int → List Ty
  | [], _, _ => []
  | t :: ts, i, k => bn op l t (k + belw o i) :: bns op l o ts (i + 1) k
end
theorem bn_eq (op : Int) (l : List Int) (t : Ty) (k : Int) : bn op l t k = if t.op = op ∧ t.n ∈ l then var (l.length - 1 - idx l t.n + k) else mk t.op (if t.op = 1 ∧ k ≤ t.n then t.n + l.length else t.n) t.s (bns op l t.op t.args 0 k) := by cases t; rw [bn]; rfl
theorem bns_length (op : Int) (l : List Int) (o : Int) : ∀ (ts : List Ty) (i : Nat) (k : Int), (bns op l o ts i k).length = ts.length
  | [], _, _ => by simp [bns]
  | t :: ts, i, k => by simp [bns, bns_length op l o ts (i + 1) k]
theorem bns_get (op : Int) (l : List Int) (o : Int) : ∀ (ts : List Ty) (i j : Nat) (k : Int) (x : Ty), ts[j]? = some x → (bns op l o ts i k)[j]? = some (bn op l x (k + belw o ((i + j : Nat) : Int)))
  | t :: ts, i, 0, k, x, h => by simp at h; subst h; simp [bns]
  | t :: ts, i, j + 1, k, x, h => by
    simp at h
    have := bns_get op l o ts (i + 1) j k x h
    simp only [bns, List.getElem?_cons_succ, this]
    rw [show i + 1 + j = i + (j + 1) by omega]

def C67 (op : Int) (l : List Int) (t : Ty) (k : Int) : Prop := PureC Try.prog 67 [t.av, .int .i64 op, .list 1 .none (il l), .int .i64 k] (bn op l t k).av

def I67 (op : Int) (l : List Int) (t : Ty) (b : Int) (on : Int) (res : List Ty) (s : St) (oT oO oR : Nat) (n : Nat) (g : Env) (s1 : St) : Prop :=
  ∃ (i sz : Nat) (tok : Tok), i ≤ t.args.length ∧ n = t.args.length - i ∧
    g.get 61 = .list 4 .none (t.args.map av) ∧ g.get 62 = .int .i64 t.args.length ∧ g.get 63 = .int .i64 i ∧ g.get 1 = .int .i64 op ∧ g.get 2 = .list 1 .none (il l) ∧ g.get 3 = .int .i64 b ∧ g.get 4 = .ptr oT 0 ∧ g.get 9 = .ptr oO 0 ∧ g.get 8 = .ptr oR 0 ∧
    s1.m oT = some (.box [.int .i64 t.op, .int .i64 t.n, .str t.s, .list 4 .none (t.args.map av)]) ∧ s1.m oO = some (.box [.int .i64 t.op, .int .i64 on, .str t.s, .list sz tok ((res.take i).map av)]) ∧
    s1.m oR = some (.box [.int .i64 0, .int .i64 0, .str ⟨#[]⟩, .list 0 .full []]) ∧ Kept s s1 ∧ oO < s1.nx ∧
    ((i = 0 ∧ sz = 0 ∧ tok = .full) ∨ (sz = 4 ∧ ∃ q, tok = .own q ∧ s1.m q = some (.spare (i * 4)) ∧ oO < q ∧ q < s1.nx))

theorem loop67 (op : Int) (l : List Int) (t : Ty) (b on : Int) (s : St) (oT oO oR : Nat) (G : Env) (S : St)
    (ih : ∀ (i : Nat) x, t.args[i]? = some x → C67 op l x (b + belw t.op i)) (hlen : t.args.length ≤ 1000000) (hb : -1000000 ≤ b) (hb2 : b ≤ 1000000)
    (h61 : G.get 61 = .list 4 .none (t.args.map av)) (h62 : G.get 62 = .int .i64 t.args.length) (h63 : G.get 63 = .int .i64 0) (h1 : G.get 1 = .int .i64 op) (h2 : G.get 2 = .list 1 .none (il l)) (h3 : G.get 3 = .int .i64 b)
    (h4 : G.get 4 = .ptr oT 0) (h9 : G.get 9 = .ptr oO 0) (h8 : G.get 8 = .ptr oR 0)
    (hT : S.m oT = some (.box [.int .i64 t.op, .int .i64 t.n, .str t.s, .list 4 .none (t.args.map av)])) (hO : S.m oO = some (.box [.int .i64 t.op, .int .i64 on, .str t.s, .list 0 .full []]))
    (hR : S.m oR = some (.box [.int .i64 0, .int .i64 0, .str ⟨#[]⟩, .list 0 .full []])) (hk : Kept s S) (n1 : s.nx ≤ oT) (n2 : oT < oR) (n3 : oR < oO) (n4 : oO < S.nx) :
    go (awp Try.prog (.loop a67l17) (blockQ 2 (seqQ Try.prog ((ACode.reg false a67r18).seq .ret) (finQ [.cell (true, 8) 4 true] fun r' s' => wk r' (mk t.op on t.s (bns op l t.op t.args 0 b)).av ∧ Kept s s'))) G S) := by
  have hml := bns_length op l t.op t.args 0 b
  generalize hres : bns op l t.op t.args 0 b = res at hml ⊢
  refine go_loop (I67 op l t b on res s oT oO oR) t.args.length
    ⟨0, 0, .full, Nat.zero_le _, by simp, h61, h62, h63, h1, h2, h3, h4, h9, h8, hT, by simpa using hO, hR, hk, n4, .inl ⟨rfl, rfl, rfl⟩⟩ ?_
  clear h61 h62 h63 h1 h2 h3 h4 h9 h8 hT hO hR hk n4
  rintro n g s1 ⟨i, sz, tok, hi, rfl, h61, h62, h63, h1, h2, h3, h4, h9, h8, hT, hO, hR, hk, n4, htok⟩
  by_cases hlt : i < t.args.length
  · have hx : t.args[i]? = some t.args[i] := by simp [hlt]
    have hlt' : (i : Int) < t.args.length := by omega
    have w2 : IntKind.i64.wrap ((i : Int) + 1) = ((i + 1 : Nat) : Int) := by rw [wrap64 (by omega) (by omega)]; omega
    have hbw := belw_bound t.op i
    have w1 : IntKind.i64.wrap (b + belw t.op i) = b + belw t.op i := wrap64 (by omega) (by omega)
    have hri : res[i]? = some (bn op l t.args[i] (b + belw t.op i)) := by
      have := bns_get op l t.op t.args 0 i b _ hx
      rw [hres] at this
      simpa using this
    have htake : (res.take (i + 1)).map av = (res.take i).map av ++ [(bn op l t.args[i] (b + belw t.op i)).av] := by
      rw [List.take_add_one, hri]; simp
    simp (implicitDefEqProofs := false) (maxSteps := 2000000) (disch := (first | omega | (simp only [St.new_nx, St.set_nx, St.del_nx, St.bump_nx]; done) | (simp only [St.new_nx, St.set_nx, St.del_nx, St.bump_nx]; omega) | fail)) [a67l17, a67r13, a67r14, a67r15, h61, h62, h63, h1, h2, h3, h4, h9, h8, hT, hO, hlt', hlt, hx]
    refine pcV_intro (p103 t i) ?_
    simp (implicitDefEqProofs := false) (maxSteps := 2000000) (disch := (first | omega | (simp only [St.new_nx, St.set_nx, St.del_nx, St.bump_nx]; done) | (simp only [St.new_nx, St.set_nx, St.del_nx, St.bump_nx]; omega) | fail)) [w1, h1, h2]
    refine pcV_intro (ih i _ hx) ?_
    rcases htok with ⟨rfl, rfl, rfl⟩ | ⟨rfl, q, rfl, hq, q1, q2⟩
    · simp (implicitDefEqProofs := false) (maxSteps := 2000000) (disch := (first | omega | (simp only [St.new_nx, St.set_nx, St.del_nx, St.bump_nx]; done) | (simp only [St.new_nx, St.set_nx, St.del_nx, St.bump_nx]; omega) | fail)) [hO, h9, h63, show IntKind.i64.wrap 1 = 1 from rfl, a67r16]
      intro m hm
      simp only [Nat.zero_add, List.take_zero, List.map_nil, List.nil_append] at htake
      refine go_next (t.args.length - 1) (by omega) ⟨1, 4, .own (s1.nx + 1), by omega, rfl, ?_, ?_, ?_, ?_, ?_, ?_, ?_, ?_, ?_, ?_, ?_, ?_, ?_, ?_, .inr ⟨rfl, _, rfl, ?_, ?_, ?_⟩⟩ <;> (try simp (implicitDefEqProofs := false) (maxSteps := 2000000) (disch := (first | omega | (simp only [St.new_nx, St.set_nx, St.del_nx, St.bump_nx]; done) | (simp only [St.new_nx, St.set_nx, St.del_nx, St.bump_nx]; omega) | fail)) [h61, h62, h63, h1, h2, h3, h4, h9, h8, hT, hO, hR, hk, ← List.map_take, htake])
      all_goals omega
    · simp (implicitDefEqProofs := false) (maxSteps := 2000000) (disch := (first | omega | (simp only [St.new_nx, St.set_nx, St.del_nx, St.bump_nx]; done) | (simp only [St.new_nx, St.set_nx, St.del_nx, St.bump_nx]; omega) | fail)) [hO, hq, h9, h63, w2, a67r16]
      intro m hm
      refine go_next (t.args.length - (i + 1)) (by omega) ⟨i + 1, 4, .own (s1.nx + 1), by omega, rfl, ?_, ?_, ?_, ?_, ?_, ?_, ?_, ?_, ?_, ?_, ?_, ?_, ?_, ?_, .inr ⟨rfl, _, rfl, ?_, ?_, ?_⟩⟩ <;> (try simp (implicitDefEqProofs := false) (maxSteps := 2000000) (disch := (first | omega | (simp only [St.new_nx, St.set_nx, St.del_nx, St.bump_nx]; done) | (simp only [St.new_nx, St.set_nx, St.del_nx, St.bump_nx]; omega) | fail)) [h61, h62, h63, h1, h2, h3, h4, h9, h8, hT, hO, hR, hk, ← List.map_take, htake])
      all_goals omega
  · have hlt' : ¬ (i : Int) < t.args.length := by omega
    have hie : i = t.args.length := by omega
    subst hie
    have htk : res.take t.args.length = res := by rw [← hml]; simp
    rw [htk] at hO
    simp (implicitDefEqProofs := false) (maxSteps := 2000000) (disch := (first | omega | (simp only [St.new_nx, St.set_nx, St.del_nx, St.bump_nx]; done) | (simp only [St.new_nx, St.set_nx, St.del_nx, St.bump_nx]; omega) | fail)) [a67l17, a67r13, h61, h62, h63, h9, h8, hlt', a67r18, hO, hR, hk]
    rw [av_mk]
    rcases htok with ⟨h0, rfl, rfl⟩ | ⟨rfl, q, rfl, _⟩
    · have : res = [] := List.length_eq_zero_iff.1 (by omega)
      simp [this]
    · simp

def S67 (op : Int) (l : List Int) (t : Ty) (k on : Int) (s : St) (G : Env) (S : St) : Prop :=
  G.get 1 = .int .i64 op ∧ G.get 2 = .list 1 .none (il l) ∧ G.get 3 = .int .i64 k ∧ G.get 4 = .ptr s.nx 0 ∧ G.get 9 = .ptr (s.nx + 1 + 1) 0 ∧ G.get 8 = .ptr (s.nx + 1) 0 ∧
    S.m s.nx = some (.box [.int .i64 t.op, .int .i64 t.n, .str t.s, .list 4 .none (t.args.map av)]) ∧ S.m (s.nx + 1 + 1) = some (.box [.int .i64 t.op, .int .i64 on, .str t.s, .list 0 .full []]) ∧
    S.m (s.nx + 1) = some (.box [.int .i64 0, .int .i64 0, .str ⟨#[]⟩, .list 0 .full []]) ∧ Kept s S ∧ s.nx + 1 + 1 < S.nx
def I67s (op : Int) (l : List Int) (t : Ty) (k on : Int) (s : St) (n : Nat) (g : Env) (s1 : St) : Prop :=
  ∃ (i : Nat), i ≤ l.length ∧ n = l.length - i ∧ firstAt (fun x => decide (t.n = x)) (l.drop i) i = idx l t.n ∧ g.get 40 = .list 1 .none (il l) ∧ g.get 41 = .int .i64 l.length ∧ g.get 42 = .int .i64 i ∧ S67 op l t k on s g s1

theorem p67 (op : Int) (l : List Int) (hl : l.length ≤ 1000000) (t : Ty) : ∀ k, Fit t k → C67 op l t k := by
  induction t using Ty.ind with
  | h t ih =>
    intro k hf
    refine PureC.intro fun s => fun_sound mixed Try.func67 Try.call67 c67 rfl (awpFun_go _ _ _ _ ?_)
    have hn := wide_n hf.1
    have hk := hf.2
    have hil := idx_bound l t.n
    have hin := idx_neg l t.n
    have w1 : IntKind.i64.wrap (t.n + l.length) = t.n + l.length := wrap64 (by omega) (by omega)
    have hb := bn_eq op l t k
    generalize hres : bn op l t k = res at hb
    generalize hon : (if t.op = 1 ∧ k ≤ t.n then t.n + (l.length : Int) else t.n) = on at hb
    have keyA : ∀ (G : Env) (S : St), ¬ (t.op = op ∧ t.n ∈ l) → G.get 61 = .list 4 .none (t.args.map av) → G.get 62 = .int .i64 t.args.length → G.get 63 = .int .i64 0 → S67 op l t k on s G S →
        go (awp Try.prog (.loop a67l17) (blockQ 2 (seqQ Try.prog ((ACode.reg false a67r18).seq .ret) (finQ [.cell (true, 8) 4 true] fun r' s' => wk r' res.av ∧ Kept s s'))) G S) := by
      rintro G S hne h61 h62 h63 ⟨h1, h2, h3, h4, h9, h8, hT, hO, hR, hk1, hn1⟩
      rw [hb, if_neg hne]
      exact loop67 op l t k on s s.nx (s.nx + 1 + 1) (s.nx + 1) _ _ (fun i x hx => ih x (List.mem_of_getElem? hx) _ (hf.child i x hx)) (wide_len hf.1) (by omega) (by omega) h61 h62 h63 h1 h2 h3 h4 h9 h8 hT hO hR hk1 (by omega) (by omega) (by omega) hn1
    have keyS : ∀ (G : Env) (S : St), t.op = op → G.get 40 = .list 1 .none (il l) → G.get 41 = .int .i64 l.length → G.get 42 = .int .i64 0 → S67 op l t k on s G S →
        go (awp Try.prog (.loop a67l11) (blockQ 0 (seqQ Try.prog (((ACode.reg false a67r12).seq (ACode.block 2 a67l17.loop)).seq ((ACode.reg false a67r18).seq .ret)) (finQ [.cell (true, 8) 4 true] fun r' s' => wk r' res.av ∧ Kept s s'))) G S) := by
      intro G S hop h40 h41 h42 hS
      refine go_loop (I67s op l t k on s) l.length ⟨0, by omega, by omega, by simp [idx], h40, h41, h42, hS⟩ ?_
      clear h40 h41 h42 hS
      rintro n g s1 ⟨i, hi, rfl, hg, h40, h41, h42, hS⟩
      have hS' := hS
      obtain ⟨h1, h2, h3, h4, h9, h8, hT, hO, hR, hk1, hn1⟩ := hS'
      by_cases hlt : i < l.length
      · have hx : l[i]? = some l[i] := by simp [hlt]
        have hx' := il_get hx
        have hlt' : (i : Int) < l.length := by omega
        have w2 : IntKind.i64.wrap ((i : Int) + 1) = ((i + 1 : Nat) : Int) := by rw [wrap64 (by omega) (by omega)]; omega
        have w3 : IntKind.i64.wrap ((l.length : Int) - 1) = (l.length : Int) - 1 := wrap64 (by omega) (by omega)
        have w4 : IntKind.i64.wrap ((l.length : Int) - 1 - i) = (l.length : Int) - 1 - i := wrap64 (by omega) (by omega)
        have w5 : IntKind.i64.wrap ((l.length : Int) - 1 - i + k) = (l.length : Int) - 1 - i + k := wrap64 (by omega) (by omega)
        have hdrop : l.drop i = l[i] :: l.drop (i + 1) := List.drop_eq_getElem_cons hlt
        rw [hdrop, firstAt] at hg
        simp (implicitDefEqProofs := false) (maxSteps := 2000000) (disch := (first | omega | (simp only [St.new_nx, St.set_nx, St.del_nx, St.bump_nx]; done) | (simp only [St.new_nx, St.set_nx, St.del_nx, St.bump_nx]; omega) | fail)) [a67l11, a67r6, a67r7, a67r8, a67r9, a67r10, h40, h41, h42, h1, h2, h3, h4, h9, h8, hT, hO, hR, hlt', hlt, hx', w2, w3, w4, w5]
        refine ⟨fun g1 => ?_, fun g1 => ?_⟩
        · rw [if_pos (by simp [g1])] at hg
          have hm : t.n ∈ l := by rw [← g1]; exact List.getElem_mem hlt
          rw [if_pos ⟨hop, hm⟩, ← hg] at hb
          refine go_pure (p59 _) fun mm1 hm1 => ?_
          try simp only [St.new_nx, St.bump_nx, St.set_nx, St.del_nx] at hm1
          simp (implicitDefEqProofs := false) (maxSteps := 2000000) (disch := (first | omega | (simp only [St.new_nx, St.set_nx, St.del_nx, St.bump_nx]; done) | (simp only [St.new_nx, St.set_nx, St.del_nx, St.bump_nx]; omega) | fail)) [h8, hR, hb, var, av_mk, hk1]
        · rw [if_neg (by simpa using fun h => g1 h.symm)] at hg
          refine go_next (l.length - (i + 1)) (by omega) ⟨i + 1, by omega, rfl, hg, ?_, ?_, ?_, ?_, ?_, ?_, ?_, ?_, ?_, hT, hO, hR, hk1, hn1⟩ <;> simp (implicitDefEqProofs := false) (maxSteps := 2000000) (disch := (first | omega | (simp only [St.new_nx, St.set_nx, St.del_nx, St.bump_nx]; done) | (simp only [St.new_nx, St.set_nx, St.del_nx, St.bump_nx]; omega) | fail)) [h40, h41, h42, h1, h2, h3, h4, h9, h8]
      · have hlt' : ¬ (i : Int) < l.length := by omega
        have hdrop : l.drop i = [] := List.drop_eq_nil_of_le (by omega)
        rw [hdrop, firstAt] at hg
        rw [← hg] at hin
        simp (implicitDefEqProofs := false) (maxSteps := 2000000) (disch := (first | omega | (simp only [St.new_nx, St.set_nx, St.del_nx, St.bump_nx]; done) | (simp only [St.new_nx, St.set_nx, St.del_nx, St.bump_nx]; omega) | fail)) [a67l11, a67r6, h40, h41, h42, h4, hT, hlt', a67r12]
        refine keyA _ _ (fun h => ?_) ?_ ?_ ?_ ?_
        · have := hin.symm
          simp [h.2] at this
        · simp (implicitDefEqProofs := false) (maxSteps := 2000000) (disch := (first | omega | (simp only [St.new_nx, St.set_nx, St.del_nx, St.bump_nx]; done) | (simp only [St.new_nx, St.set_nx, St.del_nx, St.bump_nx]; omega) | fail))
        · simp (implicitDefEqProofs := false) (maxSteps := 2000000) (disch := (first | omega | (simp only [St.new_nx, St.set_nx, St.del_nx, St.bump_nx]; done) | (simp only [St.new_nx, St.set_nx, St.del_nx, St.bump_nx]; omega) | fail))
        · simp (implicitDefEqProofs := false) (maxSteps := 2000000) (disch := (first | omega | (simp only [St.new_nx, St.set_nx, St.del_nx, St.bump_nx]; done) | (simp only [St.new_nx, St.set_nx, St.del_nx, St.bump_nx]; omega) | fail))
        · refine ⟨?_, ?_, ?_, ?_, ?_, ?_, hT, hO, hR, hk1, hn1⟩ <;> simp (implicitDefEqProofs := false) (maxSteps := 2000000) (disch := (first | omega | (simp only [St.new_nx, St.set_nx, St.del_nx, St.bump_nx]; done) | (simp only [St.new_nx, St.set_nx, St.del_nx, St.bump_nx]; omega) | fail)) [h1, h2, h3, h4, h9, h8]
    simp (implicitDefEqProofs := false) (maxSteps := 2000000) (disch := (first | omega | (simp only [St.new_nx, St.set_nx, St.del_nx, St.bump_nx]; done) | (simp only [St.new_nx, St.set_nx, St.del_nx, St.bump_nx]; omega) | fail)) [a67, a67b, a67r0, a67r1, a67r2, a67r3, a67r4, a67r5, w1]
    refine ⟨fun g1 => ⟨fun g2 => ?_, fun g2 => ?_⟩, fun g1 => ?_⟩
    · rw [if_pos ⟨g1, g2⟩] at hon
      subst hon
      refine ⟨fun g3 => ?_, fun g3 => ?_⟩
      · refine keyS _ _ g3 ?_ ?_ ?_ ⟨?_, ?_, ?_, ?_, ?_, ?_, ?_, ?_, ?_, ?_, ?_⟩ <;> (try simp (implicitDefEqProofs := false) (maxSteps := 2000000) (disch := (first | omega | (simp only [St.new_nx, St.set_nx, St.del_nx, St.bump_nx]; done) | (simp only [St.new_nx, St.set_nx, St.del_nx, St.bump_nx]; omega) | fail)))
      · simp (implicitDefEqProofs := false) (maxSteps := 2000000) (disch := (first | omega | (simp only [St.new_nx, St.set_nx, St.del_nx, St.bump_nx]; done) | (simp only [St.new_nx, St.set_nx, St.del_nx, St.bump_nx]; omega) | fail)) [a67r12]
        refine keyA _ _ (fun h => g3 h.1) ?_ ?_ ?_ ⟨?_, ?_, ?_, ?_, ?_, ?_, ?_, ?_, ?_, ?_, ?_⟩ <;> (try simp (implicitDefEqProofs := false) (maxSteps := 2000000) (disch := (first | omega | (simp only [St.new_nx, St.set_nx, St.del_nx, St.bump_nx]; done) | (simp only [St.new_nx, St.set_nx, St.del_nx, St.bump_nx]; omega) | fail)))
    · rw [if_neg (by omega)] at hon
      subst hon
      refine ⟨fun g3 => ?_, fun g3 => ?_⟩
      · refine keyS _ _ g3 ?_ ?_ ?_ ⟨?_, ?_, ?_, ?_, ?_, ?_, ?_, ?_, ?_, ?_, ?_⟩ <;> (try simp (implicitDefEqProofs := false) (maxSteps := 2000000) (disch := (first | omega | (simp only [St.new_nx, St.set_nx, St.del_nx, St.bump_nx]; done) | (simp only [St.new_nx, St.set_nx, St.del_nx, St.bump_nx]; omega) | fail)))
      · simp (implicitDefEqProofs := false) (maxSteps := 2000000) (disch := (first | omega | (simp only [St.new_nx, St.set_nx, St.del_nx, St.bump_nx]; done) | (simp only [St.new_nx, St.set_nx, St.del_nx, St.bump_nx]; omega) | fail)) [a67r12]
        refine keyA _ _ (fun h => g3 h.1) ?_ ?_ ?_ ⟨?_, ?_, ?_, ?_, ?_, ?_, ?_, ?_, ?_, ?_, ?_⟩ <;> (try simp (implicitDefEqProofs := false) (maxSteps := 2000000) (disch := (first | omega | (simp only [St.new_nx, St.set_nx, St.del_nx, St.bump_nx]; done) | (simp only [St.new_nx, St.set_nx, St.del_nx, St.bump_nx]; omega) | fail)))
    · rw [if_neg (by simp [g1])] at hon
      subst hon
      refine ⟨fun g3 => ?_, fun g3 => ?_⟩
      · refine keyS _ _ g3 ?_ ?_ ?_ ⟨?_, ?_, ?_, ?_, ?_, ?_, ?_, ?_, ?_, ?_, ?_⟩ <;> (try simp (implicitDefEqProofs := false) (maxSteps := 2000000) (disch := (first | omega | (simp only [St.new_nx, St.set_nx, St.del_nx, St.bump_nx]; done) | (simp only [St.new_nx, St.set_nx, St.del_nx, St.bump_nx]; omega) | fail)))
      · simp (implicitDefEqProofs := false) (maxSteps := 2000000) (disch := (first | omega | (simp only [St.new_nx, St.set_nx, St.del_nx, St.bump_nx]; done) | (simp only [St.new_nx, St.set_nx, St.del_nx, St.bump_nx]; omega) | fail)) [a67r12]
        refine keyA _ _ (fun h => g3 h.1) ?_ ?_ ?_ ⟨?_, ?_, ?_, ?_, ?_, ?_, ?_, ?_, ?_, ?_, ?_⟩ <;> (try simp (implicitDefEqProofs := false) (maxSteps := 2000000) (disch := (first | omega | (simp only [St.new_nx, St.set_nx, St.del_nx, St.bump_nx]; done) | (simp only [St.new_nx, St.set_nx, St.del_nx, St.bump_nx]; omega) | fail)))
end Go.AL.Ty
