/- The reference: shifting. -/
import Derived.Test.YtkegioliclbbhaaE9
set_option linter.unusedVariables false
set_option linter.unusedSimpArgs false
namespace Go.AL.Ty
open Go Go.Proofs

theorem p103 (t : Ty) (i : Int) : PureC Try.prog 103 [t.av, .int .i64 i] (.int .i64 (belw t.op i)) := by
  refine PureC.intro fun s => fun_sound mixed Try.func103 Try.call103 c103 rfl (awpFun_go _ _ _ _ ?_)
  simp (implicitDefEqProofs := false) (maxSteps := 2000000) (disch := (first | omega | (simp only [St.new_nx, St.set_nx, St.del_nx, St.bump_nx]; done) | (simp only [St.new_nx, St.set_nx, St.del_nx, St.bump_nx]; omega) | fail)) [a103, a103b, a103r0, a103r1, a103r2, a103r3, belw]
  grind

mutual
def shf (by_ from_ : Int) : Ty → Int → Ty × Bool
  | mk op n s args, k => if op = 1 ∧ from_ ≤ n - k then (mk op (n + by_) s [], decide (from_ ≤ n + by_ - k)) else (mk op n s (shfs by_ from_ op args 0 k).1, (shfs by_ from_ op args 0 k).2)
def shfs (by_ from_ op : Int) : List Ty → Nat → Int → List Ty × Bool
  | [], _, _ => ([], true)
  | t :: ts, i, k => ((shf by_ from_ t (k + belw op i)).1 :: (shfs by_ from_ op ts (i + 1) k).1, (shf by_ from_ t (k + belw op i)).2 && (shfs by_ from_ op ts (i + 1) k).2)
end
theorem shf_eq (by_ from_ : Int) (t : Ty) (k : Int) : shf by_ from_ t k = if t.op = 1 ∧ from_ ≤ t.n - k then (mk t.op (t.n + by_) t.s [], decide (from_ ≤ t.n + by_ - k)) else (mk t.op t.n t.s (shfs by_ from_ t.op t.args 0 k).1, (shfs by_ from_ t.op t.args 0 k).2) := by
  cases t; rw [shf]; rfl
theorem shfs_length (by_ from_ op : Int) : ∀ (l : List Ty) (i : Nat) (k : Int), (shfs by_ from_ op l i k).1.length = l.length
  | [], _, _ => by simp [shfs]
  | t :: ts, i, k => by simp [shfs, shfs_length by_ from_ op ts (i + 1) k]
theorem shfs_get (by_ from_ op : Int) : ∀ (l : List Ty) (i j : Nat) (k : Int) (x : Ty), l[j]? = some x → (shfs by_ from_ op l i k).1[j]? = some (shf by_ from_ x (k + belw op ((i + j : Nat) : Int))).1
  | t :: ts, i, 0, k, x, h => by simp at h; subst h; simp [shfs]
  | t :: ts, i, j + 1, k, x, h => by
    simp at h
    have := shfs_get by_ from_ op ts (i + 1) j k x h
    simp only [shfs, List.getElem?_cons_succ, this]
    rw [show i + 1 + j = i + (j + 1) by omega]

def C64 (by_ from_ : Int) (t : Ty) (k : Int) : Prop := PureC Try.prog 64 [t.av, .int .i64 by_, .int .i64 from_, .int .i64 k] (.tup [(shf by_ from_ t k).1.av, .bool (shf by_ from_ t k).2])

def I64 (by_ from_ : Int) (t : Ty) (k : Int) (s : St) (oT oO oR : Nat) (res : List Ty) (rok : Bool) (n : Nat) (g : Env) (s1 : St) : Prop :=
  ∃ (i sz : Nat) (tok : Tok) (gd_ : Bool), i ≤ t.args.length ∧ n = t.args.length - i ∧ (gd_ && (shfs by_ from_ t.op (t.args.drop i) i k).2) = rok ∧
    g.get 47 = .list 4 .none (t.args.map av) ∧ g.get 48 = .int .i64 t.args.length ∧ g.get 49 = .int .i64 i ∧ g.get 11 = .bool gd_ ∧ g.get 1 = .int .i64 by_ ∧ g.get 2 = .int .i64 from_ ∧ g.get 3 = .int .i64 k ∧ g.get 4 = .ptr oT 0 ∧ g.get 10 = .ptr oO 0 ∧ g.get 8 = .ptr oR 0 ∧
    s1.m oT = some (.box [.int .i64 t.op, .int .i64 t.n, .str t.s, .list 4 .none (t.args.map av)]) ∧ s1.m oO = some (.box [.int .i64 t.op, .int .i64 t.n, .str t.s, .list sz tok ((res.take i).map av)]) ∧
    s1.m oR = some (.box [.int .i64 0, .int .i64 0, .str ⟨#[]⟩, .list 0 .full []]) ∧ Kept s s1 ∧ oO < s1.nx ∧
    ((i = 0 ∧ sz = 0 ∧ tok = .full) ∨ (sz = 4 ∧ ∃ q, tok = .own q ∧ s1.m q = some (.spare (i * 4)) ∧ oO < q ∧ q < s1.nx))

theorem loop64 (by_ from_ : Int) (t : Ty) (k : Int) (s : St) (oT oO oR : Nat) (G : Env) (S : St)
    (ih : ∀ (i : Nat) x, t.args[i]? = some x → C64 by_ from_ x (k + belw t.op i)) (hlen : t.args.length ≤ 1000000) (hb : -1000000 ≤ k) (hb2 : k ≤ 1000000)
    (h47 : G.get 47 = .list 4 .none (t.args.map av)) (h48 : G.get 48 = .int .i64 t.args.length) (h49 : G.get 49 = .int .i64 0) (h11 : G.get 11 = .bool true) (h1 : G.get 1 = .int .i64 by_) (h2 : G.get 2 = .int .i64 from_) (h3 : G.get 3 = .int .i64 k)
    (h4 : G.get 4 = .ptr oT 0) (h10 : G.get 10 = .ptr oO 0) (h8 : G.get 8 = .ptr oR 0)
    (hT : S.m oT = some (.box [.int .i64 t.op, .int .i64 t.n, .str t.s, .list 4 .none (t.args.map av)])) (hO : S.m oO = some (.box [.int .i64 t.op, .int .i64 t.n, .str t.s, .list 0 .full []]))
    (hR : S.m oR = some (.box [.int .i64 0, .int .i64 0, .str ⟨#[]⟩, .list 0 .full []])) (hk : Kept s S) (n1 : s.nx ≤ oT) (n2 : oT < oR) (n3 : oR < oO) (n4 : oO < S.nx) :
    go (awp Try.prog (.loop a64l13) (blockQ 0 (seqQ Try.prog ((ACode.reg false a64r14).seq .ret) (finQ [.cell (true, 8) 4 true, .tmp (true, 9)] fun r' s' =>
      wk r' (.tup [(mk t.op t.n t.s (shfs by_ from_ t.op t.args 0 k).1).av, .bool (shfs by_ from_ t.op t.args 0 k).2]) ∧ Kept s s'))) G S) := by
  have hml := shfs_length by_ from_ t.op t.args 0 k
  have hgt := shfs_get by_ from_ t.op t.args 0
  generalize hres : (shfs by_ from_ t.op t.args 0 k).1 = res at hml ⊢
  generalize hok : (shfs by_ from_ t.op t.args 0 k).2 = rok
  refine go_loop (I64 by_ from_ t k s oT oO oR res rok) t.args.length
    ⟨0, 0, .full, true, Nat.zero_le _, by simp, by simpa using hok, h47, h48, h49, h11, h1, h2, h3, h4, h10, h8, hT, by simpa using hO, hR, hk, n4, .inl ⟨rfl, rfl, rfl⟩⟩ ?_
  clear h47 h48 h49 h11 h1 h2 h3 h4 h10 h8 hT hO hR hk n4
  rintro n g s1 ⟨i, sz, tok, gd_, hi, rfl, hgd, h47, h48, h49, h11, h1, h2, h3, h4, h10, h8, hT, hO, hR, hk, n4, htok⟩
  by_cases hlt : i < t.args.length
  · have hx : t.args[i]? = some t.args[i] := by simp [hlt]
    have hlt' : (i : Int) < t.args.length := by omega
    have w2 : IntKind.i64.wrap ((i : Int) + 1) = ((i + 1 : Nat) : Int) := by rw [wrap64 (by omega) (by omega)]; omega
    have hbw := belw_bound t.op i
    have w1 : IntKind.i64.wrap (k + belw t.op i) = k + belw t.op i := wrap64 (by omega) (by omega)
    have hri : res[i]? = some (shf by_ from_ t.args[i] (k + belw t.op i)).1 := by
      have := hgt i k _ hx
      rw [hres] at this
      simpa using this
    have htake : (res.take (i + 1)).map av = (res.take i).map av ++ [(shf by_ from_ t.args[i] (k + belw t.op i)).1.av] := by
      rw [List.take_add_one, hri]; simp
    have hdrop : t.args.drop i = t.args[i] :: t.args.drop (i + 1) := List.drop_eq_getElem_cons hlt
    rw [hdrop, shfs] at hgd
    simp (implicitDefEqProofs := false) (maxSteps := 2000000) (disch := (first | omega | (simp only [St.new_nx, St.set_nx, St.del_nx, St.bump_nx]; done) | (simp only [St.new_nx, St.set_nx, St.del_nx, St.bump_nx]; omega) | fail)) [a64l13, a64r7, a64r8, a64r9, h47, h48, h49, h1, h2, h3, h4, hT, hlt', hlt, hx]
    refine pcV_intro (p103 t i) ?_
    simp (implicitDefEqProofs := false) (maxSteps := 2000000) (disch := (first | omega | (simp only [St.new_nx, St.set_nx, St.del_nx, St.bump_nx]; done) | (simp only [St.new_nx, St.set_nx, St.del_nx, St.bump_nx]; omega) | fail)) [w1, h1, h2, h3]
    refine pcV_intro (ih i _ hx) ?_
    simp (implicitDefEqProofs := false) (maxSteps := 2000000) (disch := (first | omega | (simp only [St.new_nx, St.set_nx, St.del_nx, St.bump_nx]; done) | (simp only [St.new_nx, St.set_nx, St.del_nx, St.bump_nx]; omega) | fail)) [a64r10, a64r11, a64r12, h11, h10, h49]
    intro m hm
    rcases htok with ⟨rfl, rfl, rfl⟩ | ⟨rfl, q, rfl, hq, q1, q2⟩ <;> cases gd_
    · simp (implicitDefEqProofs := false) (maxSteps := 2000000) (disch := (first | omega | (simp only [St.new_nx, St.set_nx, St.del_nx, St.bump_nx]; done) | (simp only [St.new_nx, St.set_nx, St.del_nx, St.bump_nx]; omega) | fail)) [hO, h10, h49, show IntKind.i64.wrap 1 = 1 from rfl]
      simp only [Nat.zero_add, List.take_zero, List.map_nil, List.nil_append] at htake
      refine go_next (t.args.length - 1) (by omega) ?_
      refine ⟨1, 4, .own m, false, by omega, rfl, by simpa using hgd, ?_, ?_, ?_, ?_, ?_, ?_, ?_, ?_, ?_, ?_, ?_, ?_, ?_, ?_, ?_, .inr ⟨rfl, _, rfl, ?_, ?_, ?_⟩⟩ <;> (try simp (implicitDefEqProofs := false) (maxSteps := 2000000) (disch := (first | omega | (simp only [St.new_nx, St.set_nx, St.del_nx, St.bump_nx]; done) | (simp only [St.new_nx, St.set_nx, St.del_nx, St.bump_nx]; omega) | fail)) [h47, h48, h49, h11, h1, h2, h3, h4, h10, h8, hT, hO, hR, hk, ← List.map_take, htake])
      all_goals omega
    · simp (implicitDefEqProofs := false) (maxSteps := 2000000) (disch := (first | omega | (simp only [St.new_nx, St.set_nx, St.del_nx, St.bump_nx]; done) | (simp only [St.new_nx, St.set_nx, St.del_nx, St.bump_nx]; omega) | fail)) [hO, h10, h49, show IntKind.i64.wrap 1 = 1 from rfl]
      simp only [Nat.zero_add, List.take_zero, List.map_nil, List.nil_append] at htake
      refine go_next (t.args.length - 1) (by omega) ?_
      refine ⟨1, 4, .own m, _, by omega, rfl, by simpa using hgd, ?_, ?_, ?_, ?_, ?_, ?_, ?_, ?_, ?_, ?_, ?_, ?_, ?_, ?_, ?_, .inr ⟨rfl, _, rfl, ?_, ?_, ?_⟩⟩ <;> (try simp (implicitDefEqProofs := false) (maxSteps := 2000000) (disch := (first | omega | (simp only [St.new_nx, St.set_nx, St.del_nx, St.bump_nx]; done) | (simp only [St.new_nx, St.set_nx, St.del_nx, St.bump_nx]; omega) | fail)) [h47, h48, h49, h11, h1, h2, h3, h4, h10, h8, hT, hO, hR, hk, ← List.map_take, htake])
      all_goals omega
    · simp (implicitDefEqProofs := false) (maxSteps := 2000000) (disch := (first | omega | (simp only [St.new_nx, St.set_nx, St.del_nx, St.bump_nx]; done) | (simp only [St.new_nx, St.set_nx, St.del_nx, St.bump_nx]; omega) | fail)) [hO, hq, h10, h49, w2]
      refine go_next (t.args.length - (i + 1)) (by omega) ?_
      refine ⟨i + 1, 4, .own m, false, by omega, rfl, by simpa using hgd, ?_, ?_, ?_, ?_, ?_, ?_, ?_, ?_, ?_, ?_, ?_, ?_, ?_, ?_, ?_, .inr ⟨rfl, _, rfl, ?_, ?_, ?_⟩⟩ <;> (try simp (implicitDefEqProofs := false) (maxSteps := 2000000) (disch := (first | omega | (simp only [St.new_nx, St.set_nx, St.del_nx, St.bump_nx]; done) | (simp only [St.new_nx, St.set_nx, St.del_nx, St.bump_nx]; omega) | fail)) [h47, h48, h49, h11, h1, h2, h3, h4, h10, h8, hT, hO, hR, hk, ← List.map_take, htake])
      all_goals omega
    · simp (implicitDefEqProofs := false) (maxSteps := 2000000) (disch := (first | omega | (simp only [St.new_nx, St.set_nx, St.del_nx, St.bump_nx]; done) | (simp only [St.new_nx, St.set_nx, St.del_nx, St.bump_nx]; omega) | fail)) [hO, hq, h10, h49, w2]
      refine go_next (t.args.length - (i + 1)) (by omega) ?_
      refine ⟨i + 1, 4, .own m, _, by omega, rfl, by simpa using hgd, ?_, ?_, ?_, ?_, ?_, ?_, ?_, ?_, ?_, ?_, ?_, ?_, ?_, ?_, ?_, .inr ⟨rfl, _, rfl, ?_, ?_, ?_⟩⟩ <;> (try simp (implicitDefEqProofs := false) (maxSteps := 2000000) (disch := (first | omega | (simp only [St.new_nx, St.set_nx, St.del_nx, St.bump_nx]; done) | (simp only [St.new_nx, St.set_nx, St.del_nx, St.bump_nx]; omega) | fail)) [h47, h48, h49, h11, h1, h2, h3, h4, h10, h8, hT, hO, hR, hk, ← List.map_take, htake])
      all_goals omega
  · have hlt' : ¬ (i : Int) < t.args.length := by omega
    have hie : i = t.args.length := by omega
    subst hie
    have htk : res.take t.args.length = res := by rw [← hml]; simp
    rw [htk] at hO
    have hgd' : gd_ = rok := by simpa [shfs] using hgd
    simp (implicitDefEqProofs := false) (maxSteps := 2000000) (disch := (first | omega | (simp only [St.new_nx, St.set_nx, St.del_nx, St.bump_nx]; done) | (simp only [St.new_nx, St.set_nx, St.del_nx, St.bump_nx]; omega) | fail)) [a64l13, a64r7, h47, h48, h49, h10, h8, h11, hlt', a64r14, hO, hR, hk, hgd']
    rw [av_mk]
    rcases htok with ⟨h0, rfl, rfl⟩ | ⟨rfl, q, rfl, _⟩
    · have : res = [] := List.length_eq_zero_iff.1 (by omega)
      simp [this]
    · simp

theorem p64 (by_ from_ : Int) (h1 : -1000000 ≤ by_) (h2 : by_ ≤ 1000000) (t : Ty) : ∀ k, Fit t k → C64 by_ from_ t k := by
  induction t using Ty.ind with
  | h t ih =>
    intro k hf
    refine PureC.intro fun s => fun_sound mixed Try.func64 Try.call64 c64 rfl (awpFun_go _ _ _ _ ?_)
    have hn := wide_n hf.1
    have hk := hf.2
    have w1 : IntKind.i64.wrap (t.n - k) = t.n - k := wrap64 (by omega) (by omega)
    have w2 : IntKind.i64.wrap (t.n + by_) = t.n + by_ := wrap64 (by omega) (by omega)
    have w3 : IntKind.i64.wrap (t.n + by_ - k) = t.n + by_ - k := wrap64 (by omega) (by omega)
    simp (implicitDefEqProofs := false) (maxSteps := 2000000) (disch := (first | omega | (simp only [St.new_nx, St.set_nx, St.del_nx, St.bump_nx]; done) | (simp only [St.new_nx, St.set_nx, St.del_nx, St.bump_nx]; omega) | fail)) [a64, a64b, a64r0, a64r1, a64r2, a64r3, a64r4, a64r5, a64r6, w1, w2, w3]
    have fin : ∀ (b : Bool) (G : Env) (S : St), ¬ (t.op = 1 ∧ from_ ≤ t.n - k) →
        (G = [(49, AV.int IntKind.i64 0), (48, AV.int IntKind.i64 ↑t.args.length), (47, AV.list 4 Tok.none (List.map av t.args)), (11, AV.bool true), (33, AV.bool b), (10, AV.ptr (s.nx + 1 + 1) 0), (9, AV.bool false), (8, AV.ptr (s.nx + 1) 0), (4, AV.ptr s.nx 0), (0, t.av), (1, AV.int IntKind.i64 by_), (2, AV.int IntKind.i64 from_), (3, AV.int IntKind.i64 k)]) →
        (S = (((s.new (AObj.box [AV.int IntKind.i64 t.op, AV.int IntKind.i64 t.n, AV.str t.s, AV.list 4 Tok.none (List.map av t.args)])).new (AObj.box [AV.int IntKind.i64 0, AV.int IntKind.i64 0, AV.str { data := #[] }, AV.list 0 Tok.full []])).new (AObj.box [AV.int IntKind.i64 0, AV.int IntKind.i64 0, AV.str { data := #[] }, AV.list 0 Tok.full []])).set (s.nx + 1 + 1) (AObj.box [AV.int IntKind.i64 t.op, AV.int IntKind.i64 t.n, AV.str t.s, AV.list 0 Tok.full []])) →
        go (awp Try.prog (.loop a64l13) (blockQ 0 (seqQ Try.prog ((ACode.reg false a64r14).seq .ret) (finQ [.cell (true, 8) 4 true, .tmp (true, 9)] fun r' s' => wk r' (.tup [(shf by_ from_ t k).1.av, .bool (shf by_ from_ t k).2]) ∧ Kept s s'))) G S) := by
      rintro b G S hne rfl rfl
      rw [shf_eq, if_neg hne]
      refine loop64 by_ from_ t k s s.nx (s.nx + 1 + 1) (s.nx + 1) _ _ (fun i x hx => ih x (List.mem_of_getElem? hx) _ (Fit.child hf i x hx)) (wide_len hf.1) (by omega) (by omega) ?_ ?_ ?_ ?_ ?_ ?_ ?_ ?_ ?_ ?_ ?_ ?_ ?_ ?_ ?_ ?_ ?_ ?_ <;> (try simp (implicitDefEqProofs := false) (maxSteps := 2000000) (disch := (first | omega | (simp only [St.new_nx, St.set_nx, St.del_nx, St.bump_nx]; done) | (simp only [St.new_nx, St.set_nx, St.del_nx, St.bump_nx]; omega) | fail)))
      all_goals omega
    refine ⟨fun ho => ⟨fun hd m hm => ?_, fun hd => ?_⟩, fun ho => ?_⟩
    · rw [shf_eq, if_pos ⟨ho, hd⟩]
      simp (implicitDefEqProofs := false) (maxSteps := 2000000) (disch := (first | omega | (simp only [St.new_nx, St.set_nx, St.del_nx, St.bump_nx]; done) | (simp only [St.new_nx, St.set_nx, St.del_nx, St.bump_nx]; omega) | fail)) [av_mk]
    · exact fin _ _ _ (by omega) rfl rfl
    · exact fin _ _ _ (by omega) rfl rfl
end Go.AL.Ty
