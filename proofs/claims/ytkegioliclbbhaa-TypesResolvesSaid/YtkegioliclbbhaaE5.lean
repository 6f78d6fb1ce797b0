/- Proper types, lists of them. -/
import Derived.Test.YtkegioliclbbhaaE2
set_option linter.unusedVariables false
set_option linter.unusedSimpArgs false
namespace Go.AL.Ty
open Go Go.Proofs

def proper (t : Ty) : Bool := (gd t 1 600).1
theorem p53 (t : Ty) : PureC Try.prog 53 [t.av] (.bool (proper t)) := by
  refine PureC.intro fun s => fun_sound mixed Try.func53 Try.call53 c53 rfl (awpFun_go _ _ _ _ ?_)
  simp (implicitDefEqProofs := false) (maxSteps := 2000000) (disch := (first | omega | (simp only [St.new_nx, St.set_nx, St.del_nx, St.bump_nx]; done) | (simp only [St.new_nx, St.set_nx, St.del_nx, St.bump_nx]; omega) | fail)) [a53, a53b, a53r0, a53r1, a53r2]
  refine go_calls (p95 t 1 600 _ _ _ (by omega) (by omega) (by omega) (by omega) ?_ ?_ fun m hm => go_of ?_)
  · simp (implicitDefEqProofs := false) (maxSteps := 2000000) (disch := (first | omega | (simp only [St.new_nx, St.set_nx, St.del_nx, St.bump_nx]; done) | (simp only [St.new_nx, St.set_nx, St.del_nx, St.bump_nx]; omega) | fail))
  · simp (implicitDefEqProofs := false) (maxSteps := 2000000) (disch := (first | omega | (simp only [St.new_nx, St.set_nx, St.del_nx, St.bump_nx]; done) | (simp only [St.new_nx, St.set_nx, St.del_nx, St.bump_nx]; omega) | fail))
  · simp (implicitDefEqProofs := false) (maxSteps := 2000000) (disch := (first | omega | (simp only [St.new_nx, St.set_nx, St.del_nx, St.bump_nx]; done) | (simp only [St.new_nx, St.set_nx, St.del_nx, St.bump_nx]; omega) | fail)) [proper]

theorem p97 (t : Ty) : PureC Try.prog 97 [t.av] (.bool (!proper t)) := by
  refine PureC.intro fun s => fun_sound mixed Try.func97 Try.call97 c97 rfl (awpFun_go _ _ _ _ ?_)
  simp (implicitDefEqProofs := false) (maxSteps := 2000000) (disch := (first | omega | (simp only [St.new_nx, St.set_nx, St.del_nx, St.bump_nx]; done) | (simp only [St.new_nx, St.set_nx, St.del_nx, St.bump_nx]; omega) | fail)) [a97, a97b, a97r0, a97r1]
  refine go_pure (p53 t) fun m hm => ?_
  simp (implicitDefEqProofs := false) (maxSteps := 2000000) (disch := (first | omega | (simp only [St.new_nx, St.set_nx, St.del_nx, St.bump_nx]; done) | (simp only [St.new_nx, St.set_nx, St.del_nx, St.bump_nx]; omega) | fail))

/-- Where the first one is, for which a function says so. -/
def firstAt {α : Type} (p : α → Bool) : List α → Nat → Int
  | [], _ => -1
  | x :: xs, i => if p x then (i : Int) else firstAt p xs (i + 1)
theorem firstAt_neg {α : Type} (p : α → Bool) : ∀ (l : List α) (i : Nat), (0 ≤ firstAt p l i) = (l.any p = true)
  | [], i => by simp [firstAt]
  | x :: xs, i => by
    simp only [firstAt]
    split
    · rename_i h; simp [h]
    · rename_i h; simp [h, firstAt_neg p xs (i + 1)]

/-- A function value that decides. -/
def Decides (f : AV) (p : Ty → Bool) : Prop := ∃ k a b, f = .fn k a b ∧ ∀ t : Ty, PureC Try.prog k (a ++ [t.av] ++ b) (.bool (p t))

theorem p126 (ts : List Ty) (f : AV) (p : Ty → Bool) (hf : Decides f p) (hlen : ts.length ≤ 1000000) : PureC Try.prog 126 [.list 4 .none (ts.map av), f] (.int .i64 (firstAt p ts 0)) := by
  obtain ⟨k, a, b, rfl, hp⟩ := hf
  refine PureC.intro fun s => fun_sound mixed Try.func126 Try.call126 c126 rfl (awpFun_go _ _ _ _ ?_)
  simp (implicitDefEqProofs := false) (maxSteps := 2000000) (disch := (first | omega | (simp only [St.new_nx, St.set_nx, St.del_nx, St.bump_nx]; done) | (simp only [St.new_nx, St.set_nx, St.del_nx, St.bump_nx]; omega) | fail)) [a126, a126b, a126r0, a126r1]
  refine go_loop (fun n g s1 => ∃ (i : Nat), i ≤ ts.length ∧ n = ts.length - i ∧ firstAt p (ts.drop i) i = firstAt p ts 0 ∧
    g.get 0 = .list 4 .none (ts.map av) ∧ g.get 7 = .int .i64 ts.length ∧ g.get 8 = .int .i64 i ∧ g.get 1 = .fn k a b ∧ Kept s s1 ∧ s.nx ≤ s1.nx) ts.length ⟨0, Nat.zero_le _, by simp, by simp, by simp, by simp, by simp, by simp, by simp, by simp⟩ ?_
  rintro n g s1 ⟨i, hi, rfl, hg, h0, h7, h8, h1, hk, hn⟩
  by_cases hlt : i < ts.length
  · have hx : ts[i]? = some ts[i] := by simp [hlt]
    have hlt' : (i : Int) < ts.length := by omega
    have w2 : IntKind.i64.wrap ((i : Int) + 1) = ((i + 1 : Nat) : Int) := by rw [wrap64 (by omega) (by omega)]; omega
    have hdrop : ts.drop i = ts[i] :: ts.drop (i + 1) := List.drop_eq_getElem_cons hlt
    simp (implicitDefEqProofs := false) (maxSteps := 2000000) (disch := (first | omega | (simp only [St.new_nx, St.set_nx, St.del_nx, St.bump_nx]; done) | (simp only [St.new_nx, St.set_nx, St.del_nx, St.bump_nx]; omega) | fail)) [a126l7, a126r2, a126r3, a126r4, h0, h7, h8, h1, hlt', hlt, hx]
    have hp' := hp ts[i]
    simp only [List.append_assoc, List.singleton_append] at hp'
    refine go_pure hp' fun m hm => ?_
    rw [hdrop, firstAt] at hg
    simp (implicitDefEqProofs := false) (maxSteps := 2000000) (disch := (first | omega | (simp only [St.new_nx, St.set_nx, St.del_nx, St.bump_nx]; done) | (simp only [St.new_nx, St.set_nx, St.del_nx, St.bump_nx]; omega) | fail)) [a126r5, a126r6]
    refine ⟨fun hb => ?_, fun hb => ?_⟩
    · rw [if_pos hb] at hg
      exact ⟨hg, hk⟩
    · rw [if_neg (by simp [hb])] at hg
      simp (implicitDefEqProofs := false) (maxSteps := 2000000) (disch := (first | omega | (simp only [St.new_nx, St.set_nx, St.del_nx, St.bump_nx]; done) | (simp only [St.new_nx, St.set_nx, St.del_nx, St.bump_nx]; omega) | fail)) [h8, w2]
      refine go_next (ts.length - (i + 1)) (by omega) ⟨i + 1, by omega, rfl, hg, ?_, ?_, ?_, ?_, ?_, ?_⟩ <;> simp (implicitDefEqProofs := false) (maxSteps := 2000000) (disch := (first | omega | (simp only [St.new_nx, St.set_nx, St.del_nx, St.bump_nx]; done) | (simp only [St.new_nx, St.set_nx, St.del_nx, St.bump_nx]; omega) | fail)) [h0, h7, h8, h1, hk]
      omega
  · have hlt' : ¬ (i : Int) < ts.length := by omega
    have hdrop : ts.drop i = [] := List.drop_eq_nil_of_le (by omega)
    rw [hdrop, firstAt] at hg
    simp (implicitDefEqProofs := false) (maxSteps := 2000000) (disch := (first | omega | (simp only [St.new_nx, St.set_nx, St.del_nx, St.bump_nx]; done) | (simp only [St.new_nx, St.set_nx, St.del_nx, St.bump_nx]; omega) | fail)) [a126l7, a126r2, h0, h7, h8, h1, hlt', a126r8, ← hg, hk]

theorem p96 (ts : List Ty) (f : AV) (p : Ty → Bool) (hf : Decides f p) (hlen : ts.length ≤ 1000000) : PureC Try.prog 96 [.list 4 .none (ts.map av), f] (.bool (ts.any p)) := by
  refine PureC.intro fun s => fun_sound mixed Try.func96 Try.call96 c96 rfl (awpFun_go _ _ _ _ ?_)
  simp (implicitDefEqProofs := false) (maxSteps := 2000000) (disch := (first | omega | (simp only [St.new_nx, St.set_nx, St.del_nx, St.bump_nx]; done) | (simp only [St.new_nx, St.set_nx, St.del_nx, St.bump_nx]; omega) | fail)) [a96, a96b, a96r0, a96r1]
  refine go_pure (p126 ts f p hf hlen) fun m hm => ?_
  simp (implicitDefEqProofs := false) (maxSteps := 2000000) (disch := (first | omega | (simp only [St.new_nx, St.set_nx, St.del_nx, St.bump_nx]; done) | (simp only [St.new_nx, St.set_nx, St.del_nx, St.bump_nx]; omega) | fail)) [firstAt_neg, -List.any_eq_true]

def propers (ts : List Ty) : Bool := decide (ts.length ≤ 600) && ts.all proper
theorem p54 (ts : List Ty) : PureC Try.prog 54 [.list 4 .none (ts.map av)] (.bool (propers ts)) := by
  refine PureC.intro fun s => fun_sound mixed Try.func54 Try.call54 c54 rfl (awpFun_go _ _ _ _ ?_)
  simp (implicitDefEqProofs := false) (maxSteps := 2000000) (disch := (first | omega | (simp only [St.new_nx, St.set_nx, St.del_nx, St.bump_nx]; done) | (simp only [St.new_nx, St.set_nx, St.del_nx, St.bump_nx]; omega) | fail)) [a54, a54b, a54r0, a54r1]
  refine ⟨fun h => ?_, fun h => ?_⟩
  · refine go_pure (p96 ts _ (fun t => !proper t) ⟨97, [], [], rfl, fun t => p97 t⟩ (by omega)) fun m hm => ?_
    have h6 : ts.length ≤ 600 := by omega
    have hall : (ts.any fun t => !proper t) = !ts.all proper := by
      rw [List.all_eq_not_any_not]; simp
    simp (implicitDefEqProofs := false) (maxSteps := 2000000) (disch := (first | omega | (simp only [St.new_nx, St.set_nx, St.del_nx, St.bump_nx]; done) | (simp only [St.new_nx, St.set_nx, St.del_nx, St.bump_nx]; omega) | fail)) [propers, -List.any_eq_true, hall, h6]
  · have h6 : ¬ ts.length ≤ 600 := by omega
    simp (implicitDefEqProofs := false) (maxSteps := 2000000) (disch := (first | omega | (simp only [St.new_nx, St.set_nx, St.del_nx, St.bump_nx]; done) | (simp only [St.new_nx, St.set_nx, St.del_nx, St.bump_nx]; omega) | fail)) [propers, h6]

theorem p55 (t : Ty) : PureC Try.prog 55 [t.av] (if proper t then .tup [t.av, .int .i64 0] else .tup [(mk 0 0 ⟨#[]⟩ []).av, .int .i64 5]) := by
  refine PureC.intro fun s => fun_sound mixed Try.func55 Try.call55 c55 rfl (awpFun_go _ _ _ _ ?_)
  simp (implicitDefEqProofs := false) (maxSteps := 2000000) (disch := (first | omega | (simp only [St.new_nx, St.set_nx, St.del_nx, St.bump_nx]; done) | (simp only [St.new_nx, St.set_nx, St.del_nx, St.bump_nx]; omega) | fail)) [a55, a55b, a55r0, a55r1]
  refine go_pure (p53 t) fun m hm => ?_
  simp (implicitDefEqProofs := false) (maxSteps := 2000000) (disch := (first | omega | (simp only [St.new_nx, St.set_nx, St.del_nx, St.bump_nx]; done) | (simp only [St.new_nx, St.set_nx, St.del_nx, St.bump_nx]; omega) | fail)) [a55r2, a55r3]
  refine ⟨fun h => ?_, fun h => ?_⟩ <;> simp (implicitDefEqProofs := false) (maxSteps := 2000000) (disch := (first | omega | (simp only [St.new_nx, St.set_nx, St.del_nx, St.bump_nx]; done) | (simp only [St.new_nx, St.set_nx, St.del_nx, St.bump_nx]; omega) | fail)) [h, av_mk]
end Go.AL.Ty
/- Types mapped. -/
set_option linter.unusedVariables false
set_option linter.unusedSimpArgs false
namespace Go.AL.Ty
open Go Go.Proofs

mutual
/-- A type with some nodes replaced. -/
def map (f : Ty → Int → Option Ty) : Ty → Int → Ty
  | mk op n s args, b => match f (mk op n s args) b with
    | some u => u
    | none => mk op n s (maps f op args 0 b)
def maps (f : Ty → Int → Option Ty) (op : Int) : List Ty → Nat → Int → List Ty
  | [], _, _ => []
  | t :: ts, i, b => map f t (b + belw op i) :: maps f op ts (i + 1) b
end
theorem map_eq (f : Ty → Int → Option Ty) (t : Ty) (b : Int) : map f t b = match f t b with | some u => u | none => mk t.op t.n t.s (maps f t.op t.args 0 b) := by cases t; rw [map]; rfl

/-- A function value that changes nodes. -/
def Changes (c : AV) (f : Ty → Int → Option Ty) (ok : Ty → Int → Prop) : Prop :=
  ∃ k a cap, c = .fn k a cap ∧ ∀ (t : Ty) (b : Int), ok t b → ∃ u, PureC Try.prog k (a ++ [t.av, .int .i64 b] ++ cap) (.tup [Ty.av u, .bool (f t b).isSome]) ∧ ∀ v, f t b = some v → u = v

/-- What Map may be called with. -/
def C98 (c : AV) (f : Ty → Int → Option Ty) (t : Ty) (b : Int) : Prop := PureC Try.prog 98 [t.av, .int .i64 b, c] (map f t b).av


theorem maps_length (f : Ty → Int → Option Ty) (op : Int) : ∀ (l : List Ty) (i : Nat) (b : Int), (maps f op l i b).length = l.length
  | [], _, _ => by simp [maps]
  | t :: ts, i, b => by simp [maps, maps_length f op ts (i + 1) b]
theorem maps_get (f : Ty → Int → Option Ty) (op : Int) : ∀ (l : List Ty) (i j : Nat) (b : Int) (x : Ty), l[j]? = some x → (maps f op l i b)[j]? = some (map f x (b + belw op ((i + j : Nat) : Int)))
  | t :: ts, i, 0, b, x, h => by simp at h; subst h; simp [maps]
  | t :: ts, i, j + 1, b, x, h => by
    simp at h
    have := maps_get f op ts (i + 1) j b x h
    simp only [maps, List.getElem?_cons_succ, this]
    rw [show i + 1 + j = i + (j + 1) by omega]

theorem loop98 (t : Ty) (b : Int) (c : AV) (f : Ty → Int → Option Ty) (s : St) (oT oO oR : Nat) (G : Env) (S : St)
    (ih : ∀ (i : Nat) x, t.args[i]? = some x → C98 c f x (b + belw t.op i)) (hlen : t.args.length ≤ 1000000) (hb : -1000000 ≤ b) (hb2 : b ≤ 1000000)
    (h29 : G.get 29 = .list 4 .none (t.args.map av)) (h30 : G.get 30 = .int .i64 t.args.length) (h31 : G.get 31 = .int .i64 0) (h1 : G.get 1 = .int .i64 b) (h2 : G.get 2 = c)
    (h3 : G.get 3 = .ptr oT 0) (h9 : G.get 9 = .ptr oO 0) (h6 : G.get 6 = .ptr oR 0)
    (hT : S.m oT = some (.box [.int .i64 t.op, .int .i64 t.n, .str t.s, .list 4 .none (t.args.map av)])) (hO : S.m oO = some (.box [.int .i64 t.op, .int .i64 t.n, .str t.s, .list 0 .full []]))
    (hR : S.m oR = some (.box [.int .i64 0, .int .i64 0, .str ⟨#[]⟩, .list 0 .full []])) (hk : Kept s S) (n1 : s.nx ≤ oT) (n2 : oT < oR) (n3 : oR < oO) (n4 : oO < S.nx) :
    go (awp Try.prog (.loop a98l10) (blockQ 0 (seqQ Try.prog ((ACode.reg false a98r11).seq .ret) (finQ [.cell (true, 6) 4 true] fun r' s' => wk r' (mk t.op t.n t.s (maps f t.op t.args 0 b)).av ∧ Kept s s'))) G S) := by
  have hml := maps_length f t.op t.args 0 b
  generalize hres : maps f t.op t.args 0 b = res at hml ⊢
  refine go_loop (fun n g s1 => ∃ (i sz : Nat) (tok : Tok), i ≤ t.args.length ∧ n = t.args.length - i ∧
    g.get 29 = .list 4 .none (t.args.map av) ∧ g.get 30 = .int .i64 t.args.length ∧ g.get 31 = .int .i64 i ∧ g.get 1 = .int .i64 b ∧ g.get 2 = c ∧ g.get 3 = .ptr oT 0 ∧ g.get 9 = .ptr oO 0 ∧ g.get 6 = .ptr oR 0 ∧
    s1.m oT = some (.box [.int .i64 t.op, .int .i64 t.n, .str t.s, .list 4 .none (t.args.map av)]) ∧ s1.m oO = some (.box [.int .i64 t.op, .int .i64 t.n, .str t.s, .list sz tok ((res.take i).map av)]) ∧
    s1.m oR = some (.box [.int .i64 0, .int .i64 0, .str ⟨#[]⟩, .list 0 .full []]) ∧ Kept s s1 ∧ oO < s1.nx ∧
    ((i = 0 ∧ sz = 0 ∧ tok = .full) ∨ (sz = 4 ∧ ∃ q, tok = .own q ∧ s1.m q = some (.spare (i * 4)) ∧ oO < q ∧ q < s1.nx))) t.args.length
    ⟨0, 0, .full, Nat.zero_le _, by simp, h29, h30, h31, h1, h2, h3, h9, h6, hT, by simpa using hO, hR, hk, n4, .inl ⟨rfl, rfl, rfl⟩⟩ ?_
  clear h29 h30 h31 h1 h2 h3 h9 h6 hT hO hR hk n4
  rintro n g s1 ⟨i, sz, tok, hi, rfl, h29, h30, h31, h1, h2, h3, h9, h6, hT, hO, hR, hk, n4, htok⟩
  by_cases hlt : i < t.args.length
  · have hx : t.args[i]? = some t.args[i] := by simp [hlt]
    have hlt' : (i : Int) < t.args.length := by omega
    have w2 : IntKind.i64.wrap ((i : Int) + 1) = ((i + 1 : Nat) : Int) := by rw [wrap64 (by omega) (by omega)]; omega
    have hbw : 0 ≤ belw t.op i ∧ belw t.op i ≤ 1 := by unfold belw; split <;> omega
    have w1 : IntKind.i64.wrap (b + belw t.op i) = b + belw t.op i := wrap64 (by omega) (by omega)
    have hri : res[i]? = some (map f t.args[i] (b + belw t.op i)) := by
      have := maps_get f t.op t.args 0 i b _ hx
      rw [hres] at this
      simpa using this
    have htake : (res.take (i + 1)).map av = (res.take i).map av ++ [(map f t.args[i] (b + belw t.op i)).av] := by
      rw [List.take_add_one, hri]; simp
    simp (implicitDefEqProofs := false) (maxSteps := 2000000) (disch := (first | omega | (simp only [St.new_nx, St.set_nx, St.del_nx, St.bump_nx]; done) | (simp only [St.new_nx, St.set_nx, St.del_nx, St.bump_nx]; omega) | fail)) [a98l10, a98r6, a98r7, a98r8, h29, h30, h31, h1, h2, h3, h9, h6, hT, hO, hlt', hlt, hx]
    refine pcV_intro (p105 t i) ?_
    simp (implicitDefEqProofs := false) (maxSteps := 2000000) (disch := (first | omega | (simp only [St.new_nx, St.set_nx, St.del_nx, St.bump_nx]; done) | (simp only [St.new_nx, St.set_nx, St.del_nx, St.bump_nx]; omega) | fail)) [w1, h1, h2]
    refine pcV_intro (ih i _ hx) ?_
    rcases htok with ⟨rfl, rfl, rfl⟩ | ⟨rfl, q, rfl, hq, q1, q2⟩
    · simp (implicitDefEqProofs := false) (maxSteps := 2000000) (disch := (first | omega | (simp only [St.new_nx, St.set_nx, St.del_nx, St.bump_nx]; done) | (simp only [St.new_nx, St.set_nx, St.del_nx, St.bump_nx]; omega) | fail)) [hO, h9, h31, show IntKind.i64.wrap 1 = 1 from rfl, a98r9]
      intro m hm
      simp only [Nat.zero_add, List.take_zero, List.map_nil, List.nil_append] at htake
      refine go_next (t.args.length - 1) (by omega) ⟨1, by omega, rfl, ?_, ?_, ?_, ?_, ?_, ?_, ?_, ?_, ?_, 4, .own (s1.nx + 1), ?_, ?_, ?_, ?_, .inr ⟨rfl, _, rfl, ?_, ?_, ?_⟩⟩ <;> (try simp (implicitDefEqProofs := false) (maxSteps := 2000000) (disch := (first | omega | (simp only [St.new_nx, St.set_nx, St.del_nx, St.bump_nx]; done) | (simp only [St.new_nx, St.set_nx, St.del_nx, St.bump_nx]; omega) | fail)) [h29, h30, h31, h1, h2, h3, h9, h6, hT, hO, hR, hk, ← List.map_take, htake])
      all_goals omega
    · simp (implicitDefEqProofs := false) (maxSteps := 2000000) (disch := (first | omega | (simp only [St.new_nx, St.set_nx, St.del_nx, St.bump_nx]; done) | (simp only [St.new_nx, St.set_nx, St.del_nx, St.bump_nx]; omega) | fail)) [hO, hq, h9, h31, w2, a98r9]
      intro m hm
      refine go_next (t.args.length - (i + 1)) (by omega) ⟨i + 1, by omega, rfl, ?_, ?_, ?_, ?_, ?_, ?_, ?_, ?_, ?_, 4, .own (s1.nx + 1), ?_, ?_, ?_, ?_, .inr ⟨rfl, _, rfl, ?_, ?_, ?_⟩⟩ <;> (try simp (implicitDefEqProofs := false) (maxSteps := 2000000) (disch := (first | omega | (simp only [St.new_nx, St.set_nx, St.del_nx, St.bump_nx]; done) | (simp only [St.new_nx, St.set_nx, St.del_nx, St.bump_nx]; omega) | fail)) [h29, h30, h31, h1, h2, h3, h9, h6, hT, hO, hR, hk, ← List.map_take, htake])
      all_goals omega
  · have hlt' : ¬ (i : Int) < t.args.length := by omega
    have hie : i = t.args.length := by omega
    subst hie
    have htk : res.take t.args.length = res := by rw [← hml]; simp
    rw [htk] at hO
    simp (implicitDefEqProofs := false) (maxSteps := 2000000) (disch := (first | omega | (simp only [St.new_nx, St.set_nx, St.del_nx, St.bump_nx]; done) | (simp only [St.new_nx, St.set_nx, St.del_nx, St.bump_nx]; omega) | fail)) [a98l10, a98r6, h29, h30, h31, h9, h6, hlt', a98r11, hO, hR, hk]
    rw [av_mk]
    rcases htok with ⟨h0, rfl, rfl⟩ | ⟨rfl, q, rfl, _⟩
    · have : res = [] := List.length_eq_zero_iff.1 (by omega)
      simp [this]
    · simp

theorem p98 (k : FuncId) (a cap : List AV) (f : Ty → Int → Option Ty) (R : Ty → Int → Prop)
    (hc : ∀ t b, R t b → ∃ u : Ty, PureC Try.prog k (a ++ [t.av, .int .i64 b] ++ cap) (.tup [u.av, .bool (f t b).isSome]) ∧ ∀ v, f t b = some v → u = v)
    (hR : ∀ t b, R t b → f t b = none → t.args.length ≤ 1000000 ∧ -1000000 ≤ b ∧ b ≤ 1000000 ∧ ∀ (i : Nat) x, t.args[i]? = some x → R x (b + belw t.op i)) (t : Ty) : ∀ b, R t b → C98 (.fn k a cap) f t b := by
  induction t using Ty.ind with
  | h t ih =>
    intro b hRb
    refine PureC.intro fun s => fun_sound mixed Try.func98 Try.call98 c98 rfl (awpFun_go _ _ _ _ ?_)
    obtain ⟨u, hu, hv⟩ := hc t b hRb
    simp only [List.append_assoc, List.cons_append, List.nil_append] at hu
    simp (implicitDefEqProofs := false) (maxSteps := 2000000) (disch := (first | omega | (simp only [St.new_nx, St.set_nx, St.del_nx, St.bump_nx]; done) | (simp only [St.new_nx, St.set_nx, St.del_nx, St.bump_nx]; omega) | fail)) [a98, a98b, a98r0, a98r1]
    refine go_pure hu fun m hm => ?_
    simp only [St.new_nx] at hm
    rw [map_eq]
    simp (implicitDefEqProofs := false) (maxSteps := 2000000) (disch := (first | omega | (simp only [St.new_nx, St.set_nx, St.del_nx, St.bump_nx]; done) | (simp only [St.new_nx, St.set_nx, St.del_nx, St.bump_nx]; omega) | fail)) [a98r2, a98r3, a98r4, a98r5]
    refine ⟨fun h => ?_, fun h => ?_⟩
    · obtain ⟨v, hfv⟩ := Option.isSome_iff_exists.1 h
      have := hv v hfv
      subst this
      rw [hfv]
      simp (implicitDefEqProofs := false) (maxSteps := 2000000) (disch := (first | omega | (simp only [St.new_nx, St.set_nx, St.del_nx, St.bump_nx]; done) | (simp only [St.new_nx, St.set_nx, St.del_nx, St.bump_nx]; omega) | fail))
    · obtain ⟨h1, h2, h3, h4⟩ := hR t b hRb h
      rw [h]
      refine loop98 t b _ f s s.nx (m + 1) (s.nx + 1) _ _ (fun i x hx => ih x (List.mem_of_getElem? hx) _ (h4 i x hx)) h1 h2 h3 ?_ ?_ ?_ ?_ ?_ ?_ ?_ ?_ ?_ ?_ ?_ ?_ ?_ ?_ ?_ ?_ <;> (try simp (implicitDefEqProofs := false) (maxSteps := 2000000) (disch := (first | omega | (simp only [St.new_nx, St.set_nx, St.del_nx, St.bump_nx]; done) | (simp only [St.new_nx, St.set_nx, St.del_nx, St.bump_nx]; omega) | fail)))
      all_goals omega
end Go.AL.Ty
/- Copies, moved types, types put for variables. -/
set_option linter.unusedVariables false
set_option linter.unusedSimpArgs false
namespace Go.AL.Ty
open Go Go.Proofs

mutual
def ht : Ty → Nat
  | mk _ _ _ args => 1 + hts args
def hts : List Ty → Nat
  | [] => 0
  | t :: ts => max (ht t) (hts ts)
end
mutual
def wide : Ty → Prop
  | mk _ n _ args => args.length ≤ 1000000 ∧ (-1000000 ≤ n ∧ n ≤ 1000000) ∧ wides args
def wides : List Ty → Prop
  | [] => True
  | t :: ts => wide t ∧ wides ts
end
theorem hts_mem : ∀ (l : List Ty) x, x ∈ l → ht x ≤ hts l
  | t :: ts, x, h => by
    simp only [List.mem_cons] at h
    simp only [hts]
    rcases h with rfl | h
    · omega
    · have := hts_mem ts x h; omega
theorem wides_mem : ∀ (l : List Ty) x, wides l → x ∈ l → wide x
  | t :: ts, x, hw, h => by
    simp only [List.mem_cons] at h
    simp only [wides] at hw
    rcases h with rfl | h
    · exact hw.1
    · exact wides_mem ts x hw.2 h
theorem ht_mem {t x : Ty} (h : x ∈ t.args) : ht x < ht t := by
  have := hts_mem _ _ h
  cases t
  simp only [ht, args_mk] at this ⊢
  omega
theorem wide_mem {t x : Ty} (hw : wide t) (h : x ∈ t.args) : wide x := by
  cases t
  simp only [wide, args_mk] at hw h
  exact wides_mem _ _ hw.2.2 h
theorem wide_len {t : Ty} (hw : wide t) : t.args.length ≤ 1000000 := by
  cases t
  simp only [wide, args_mk] at hw ⊢
  exact hw.1

theorem wide_n {t : Ty} (hw : wide t) : -1000000 ≤ t.n ∧ t.n ≤ 1000000 := by
  cases t
  simp only [wide, n_mk] at hw ⊢
  exact hw.2.1

/-- Types that may be walked below so many foralls. -/
def Fit (t : Ty) (b : Int) : Prop := wide t ∧ 0 ≤ b ∧ b + ht t ≤ 1000000
theorem belw_bound (op i : Int) : 0 ≤ belw op i ∧ belw op i ≤ 1 := by unfold belw; split <;> omega
theorem Fit.child {t : Ty} {b : Int} (h : Fit t b) (i : Nat) (x : Ty) (hx : t.args[i]? = some x) : Fit x (b + belw t.op i) := by
  obtain ⟨h1, h2, h3⟩ := h
  have hm := List.mem_of_getElem? hx
  have := ht_mem hm
  have := belw_bound t.op i
  exact ⟨wide_mem h1 hm, by omega, by omega⟩

theorem maps_none_of (op : Int) : ∀ (l : List Ty) (i : Nat) (b : Int), (∀ x ∈ l, ∀ b, map (fun _ _ => none) x b = x) → maps (fun _ _ => none) op l i b = l
  | [], _, _, _ => by simp [maps]
  | t :: ts, i, b, h => by
    simp only [maps]
    rw [h t (by simp), maps_none_of op ts (i + 1) b fun x hx => h x (by simp [hx])]
theorem map_none (t : Ty) : ∀ b, map (fun _ _ => none) t b = t := by
  induction t using Ty.ind with
  | h t ih =>
    intro b
    rw [map_eq]
    simp only
    rw [maps_none_of _ _ _ _ ih, eta]

theorem p111 (t : Ty) (b : Int) : PureC Try.prog 111 [t.av, .int .i64 b] (.tup [(mk 0 0 ⟨#[]⟩ []).av, .bool false]) := by
  refine PureC.intro fun s => fun_sound mixed Try.func111 Try.call111 c111 rfl (awpFun_go _ _ _ _ ?_)
  simp (implicitDefEqProofs := false) (maxSteps := 2000000) (disch := (first | omega | (simp only [St.new_nx, St.set_nx, St.del_nx, St.bump_nx]; done) | (simp only [St.new_nx, St.set_nx, St.del_nx, St.bump_nx]; omega) | fail)) [a111, a111b, a111r0, a111r1, av_mk]

theorem p69 (t : Ty) (ht : Fit t 0) : PureC Try.prog 69 [t.av] t.av := by
  refine PureC.intro fun s => fun_sound mixed Try.func69 Try.call69 c69 rfl (awpFun_go _ _ _ _ ?_)
  simp (implicitDefEqProofs := false) (maxSteps := 2000000) (disch := (first | omega | (simp only [St.new_nx, St.set_nx, St.del_nx, St.bump_nx]; done) | (simp only [St.new_nx, St.set_nx, St.del_nx, St.bump_nx]; omega) | fail)) [a69, a69b, a69r0, a69r1]
  have h98 := p98 111 [] [] (fun _ _ => none) Fit (fun t b _ => ⟨_, p111 t b, by simp⟩) (fun t b h _ => ⟨wide_len h.1, by have := h.2; omega, by have := h.2; omega, h.child⟩) t 0 ht
  rw [C98, map_none] at h98
  refine go_pure h98 fun m hm => ?_
  simp (implicitDefEqProofs := false) (maxSteps := 2000000) (disch := (first | omega | (simp only [St.new_nx, St.set_nx, St.del_nx, St.bump_nx]; done) | (simp only [St.new_nx, St.set_nx, St.del_nx, St.bump_nx]; omega) | fail))

/-- What Moved does at a node. -/
def mv (by_ from_ : Int) (t : Ty) (b : Int) : Option Ty :=
  if t.op ≠ 1 then none else if t.n < b + from_ then some t else some (mk 1 (t.n + by_) ⟨#[]⟩ [])
theorem p106 (t : Ty) (b by_ from_ : Int) (h1 : 0 ≤ b) (h2 : b ≤ 1000000) (h3 : -1000000 ≤ from_) (h4 : from_ ≤ 1000000) (h5 : -1000000 ≤ by_) (h6 : by_ ≤ 1000000) (h7 : t.op = 1 → -1000000 ≤ t.n ∧ t.n ≤ 1000000) :
    ∃ u : Ty, PureC Try.prog 106 [t.av, .int .i64 b, .cptr [.int .i64 from_], .cptr [.int .i64 by_]] (.tup [u.av, .bool (mv by_ from_ t b).isSome]) ∧ ∀ v, mv by_ from_ t b = some v → u = v := by
  refine ⟨if t.op = 1 ∧ ¬ t.n < b + from_ then mk 1 (t.n + by_) ⟨#[]⟩ [] else t, PureC.intro fun s => fun_sound mixed Try.func106 Try.call106 c106 rfl (awpFun_go _ _ _ _ ?_), fun v hv => ?_⟩
  · have w1 : IntKind.i64.wrap (b + from_) = b + from_ := wrap64 (by omega) (by omega)
    simp (implicitDefEqProofs := false) (maxSteps := 2000000) (disch := (first | omega | (simp only [St.new_nx, St.set_nx, St.del_nx, St.bump_nx]; done) | (simp only [St.new_nx, St.set_nx, St.del_nx, St.bump_nx]; omega) | fail)) [a106, a106b, a106r0, a106r1, a106r2, a106r3, w1]
    refine ⟨fun ho => ⟨fun hl m hm => ?_, fun hl => ?_⟩, fun ho m hm => ?_⟩
    · rw [if_neg (by omega)]; simp [mv, ho, hl]
    · have := h7 ho
      have hl' : ¬ t.n < b + from_ := by omega
      rw [if_pos ⟨ho, hl⟩, wrap64 (by omega) (by omega), av_mk]; simp [mv, ho, hl']
    · rw [if_neg (by simp [ho])]; simp [mv, ho]
  · unfold mv at hv
    split at hv
    · cases hv
    split at hv
    · cases hv
      rename_i h8 h9
      rw [if_neg (by simp [h9])]
    · cases hv
      rename_i h8 h9
      rw [if_pos ⟨by simpa using h8, h9⟩]

def moved (t : Ty) (by_ from_ : Int) : Ty := map (mv by_ from_) t 0
theorem p63 (t : Ty) (by_ from_ : Int) (h3 : -1000000 ≤ from_) (h4 : from_ ≤ 1000000) (h5 : -1000000 ≤ by_) (h6 : by_ ≤ 1000000) (ht : Fit t 0) : PureC Try.prog 63 [t.av, .int .i64 by_, .int .i64 from_] (moved t by_ from_).av := by
  refine PureC.intro fun s => fun_sound mixed Try.func63 Try.call63 c63 rfl (awpFun_go _ _ _ _ ?_)
  simp (implicitDefEqProofs := false) (maxSteps := 2000000) (disch := (first | omega | (simp only [St.new_nx, St.set_nx, St.del_nx, St.bump_nx]; done) | (simp only [St.new_nx, St.set_nx, St.del_nx, St.bump_nx]; omega) | fail)) [a63, a63b, a63r0, a63r1]
  have h98 := p98 106 [] [.cptr [.int .i64 from_], .cptr [.int .i64 by_]] (mv by_ from_) Fit
    (fun t b h => p106 t b by_ from_ h.2.1 (by have := h.2; omega) h3 h4 h5 h6 fun _ => wide_n h.1)
    (fun t b h _ => ⟨wide_len h.1, by have := h.2; omega, by have := h.2; omega, h.child⟩) t 0 ht
  refine go_pure h98 fun m hm => ?_
  simp (implicitDefEqProofs := false) (maxSteps := 2000000) (disch := (first | omega | (simp only [St.new_nx, St.set_nx, St.del_nx, St.bump_nx]; done) | (simp only [St.new_nx, St.set_nx, St.del_nx, St.bump_nx]; omega) | fail)) [moved]

/-- What Putted does at a node. -/
def pt (l : List Ty) (t : Ty) (b : Int) : Option Ty :=
  if t.op ≠ 1 then none else if t.n - b < 0 then some t
  else if t.n - b < l.length then (l[l.length - 1 - (t.n - b).toNat]?).map fun x => moved x b 0
  else some (mk 1 (t.n - l.length) ⟨#[]⟩ [])
theorem p99 (t : Ty) (b : Int) (l : List Ty) (h1 : 0 ≤ b) (h2 : b ≤ 1000000) (hl : l.length ≤ 1000000) (h7 : -1000000 ≤ t.n ∧ t.n ≤ 1000000) (hx : ∀ x ∈ l, Fit x 0) :
    ∃ u : Ty, PureC Try.prog 99 [t.av, .int .i64 b, .cptr [.int .i64 l.length], .cptr [.list 4 .none (l.map av)]] (.tup [u.av, .bool (pt l t b).isSome]) ∧ ∀ v, pt l t b = some v → u = v := by
  refine ⟨(pt l t b).getD t, PureC.intro fun s => fun_sound mixed Try.func99 Try.call99 c99 rfl (awpFun_go _ _ _ _ ?_), fun v hv => by rw [hv]; rfl⟩
  have w1 : IntKind.i64.wrap (t.n - b) = t.n - b := wrap64 (by omega) (by omega)
  have w2 : IntKind.i64.wrap (t.n - l.length) = t.n - l.length := wrap64 (by omega) (by omega)
  have w3 : IntKind.i64.wrap ((l.length : Int) - 1) = (l.length : Int) - 1 := wrap64 (by omega) (by omega)
  have w4 : IntKind.i64.wrap ((l.length : Int) - 1 - (t.n - b)) = (l.length : Int) - 1 - (t.n - b) := wrap64 (by omega) (by omega)
  simp (implicitDefEqProofs := false) (maxSteps := 2000000) (disch := (first | omega | (simp only [St.new_nx, St.set_nx, St.del_nx, St.bump_nx]; done) | (simp only [St.new_nx, St.set_nx, St.del_nx, St.bump_nx]; omega) | fail)) [a99, a99b, a99r0, a99r1, a99r2, a99r3, a99r4, a99r5, a99r6, a99r7, a99r8, w1, w2, w3, w4]
  refine ⟨fun ho => ?_, fun ho => ⟨fun hb => ?_, fun hb => ⟨fun hn => ?_, fun hn => ?_⟩⟩⟩
  · have e : pt l t b = none := by simp [pt, ho]
    rw [e]; simp
  · have e : pt l t b = some t := by simp [pt, ho, hb]
    rw [e]; simp
  · have hb' : ¬ t.n - b < 0 := by omega
    have hi : l.length - 1 - (t.n - b).toNat < l.length := by omega
    have hti : ((l.length : Int) - 1 - (t.n - b)).toNat = l.length - 1 - (t.n - b).toNat := by omega
    have hx1 : l[l.length - 1 - (t.n - b).toNat]? = some l[l.length - 1 - (t.n - b).toNat] := by simp [hi]
    have e : pt l t b = some (moved l[l.length - 1 - (t.n - b).toNat] b 0) := by
      simp only [pt, ho, hb', hn, hx1, ne_eq, not_true, if_false, if_true, Option.map_some]
    refine ok_intro (by omega) ?_
    rw [hti, hx1, e]
    simp (implicitDefEqProofs := false) (maxSteps := 2000000) (disch := (first | omega | (simp only [St.new_nx, St.set_nx, St.del_nx, St.bump_nx]; done) | (simp only [St.new_nx, St.set_nx, St.del_nx, St.bump_nx]; omega) | fail))
    refine go_pure (p63 _ b 0 (by omega) (by omega) (by omega) (by omega) (hx _ (List.getElem_mem hi))) fun m hm => ?_
    simp (implicitDefEqProofs := false) (maxSteps := 2000000) (disch := (first | omega | (simp only [St.new_nx, St.set_nx, St.del_nx, St.bump_nx]; done) | (simp only [St.new_nx, St.set_nx, St.del_nx, St.bump_nx]; omega) | fail))
  · have hb' : ¬ t.n - b < 0 := by omega
    have hn' : ¬ t.n - b < l.length := by omega
    have e : pt l t b = some (mk 1 (t.n - l.length) ⟨#[]⟩ []) := by simp [pt, ho, hb', hn']
    rw [e, Option.getD_some, av_mk]; simp

def putted (t : Ty) (l : List Ty) : Ty := map (pt l) t 0
theorem p56 (t : Ty) (l : List Ty) (hl : l.length ≤ 1000000) (hx : ∀ x ∈ l, Fit x 0) (ht : Fit t 0) : PureC Try.prog 56 [t.av, .list 4 .none (l.map av)] (putted t l).av := by
  refine PureC.intro fun s => fun_sound mixed Try.func56 Try.call56 c56 rfl (awpFun_go _ _ _ _ ?_)
  simp (implicitDefEqProofs := false) (maxSteps := 2000000) (disch := (first | omega | (simp only [St.new_nx, St.set_nx, St.del_nx, St.bump_nx]; done) | (simp only [St.new_nx, St.set_nx, St.del_nx, St.bump_nx]; omega) | fail)) [a56, a56b, a56r0, a56r1, a56r2]
  have h98 := p98 99 [] [.cptr [.int .i64 l.length], .cptr [.list 4 .none (l.map av)]] (pt l) Fit
    (fun t b h => p99 t b l h.2.1 (by have := h.2; omega) hl (wide_n h.1) hx)
    (fun t b h _ => ⟨wide_len h.1, by have := h.2; omega, by have := h.2; omega, h.child⟩) t 0 ht
  refine go_pure h98 fun m hm => ?_
  simp (implicitDefEqProofs := false) (maxSteps := 2000000) (disch := (first | omega | (simp only [St.new_nx, St.set_nx, St.del_nx, St.bump_nx]; done) | (simp only [St.new_nx, St.set_nx, St.del_nx, St.bump_nx]; omega) | fail)) [putted]

theorem gds_spec : ∀ (ts : List Ty) (d l : Int), (gds ts d l).1 = true → ∀ x ∈ ts, ∃ l', (gd x d l').1 = true
  | t :: ts, d, l, h, x, hx => by
    simp only [gds] at h
    split at h
    · rename_i hb
      simp only [List.mem_cons] at hx
      rcases hx with rfl | hx
      · exact ⟨l, hb⟩
      · exact gds_spec ts d _ h x hx
    · cases h
theorem wides_of : ∀ (l : List Ty), (∀ x ∈ l, wide x) → wides l
  | [], _ => by simp [wides]
  | t :: ts, h => by
    simp only [wides]
    exact ⟨h t (by simp), wides_of ts fun x hx => h x (by simp [hx])⟩
theorem hts_le (n : Nat) : ∀ (l : List Ty), (∀ x ∈ l, ht x ≤ n) → hts l ≤ n
  | [], _ => by simp [hts]
  | t :: ts, h => by
    simp only [hts]
    have := h t (by simp)
    have := hts_le n ts fun x hx => h x (by simp [hx])
    omega
theorem gd_fit (t : Ty) : ∀ d l, 0 ≤ d → (gd t d l).1 = true → wide t ∧ d + ht t ≤ 42 := by
  induction t using Ty.ind with
  | h t ih =>
    intro d l hd h
    rw [gd_eq] at h
    split at h
    · cases h
    split at h
    · cases h
    split at h
    · cases h
    split at h
    · cases h
    rename_i h1 h2 h3 h4
    have hk : kids t.op ≤ 2 := by unfold kids; split <;> omega
    have hs := gds_spec _ _ _ h
    have hc : ∀ x ∈ t.args, wide x ∧ d + 1 + ht x ≤ 42 := fun x hx => by
      obtain ⟨l', hl'⟩ := hs x hx
      exact ih x hx (d + 1) l' (by omega) hl'
    have hw : wides t.args := wides_of _ fun x hx => (hc x hx).1
    have hh : hts t.args ≤ (41 - d).toNat := hts_le _ _ fun x hx => by have := (hc x hx).2; omega
    cases t with
    | mk op n s args =>
      simp only [op_mk, n_mk, args_mk] at *
      simp only [wide, ht]
      exact ⟨⟨by omega, by omega, hw⟩, by omega⟩
theorem proper_fit {t : Ty} (h : proper t = true) : Fit t 0 := by
  have := gd_fit t 1 600 (by omega) h
  exact ⟨this.1, by omega, by omega⟩

def fin (t : Ty) : AV := if proper t then .tup [t.av, .int .i64 0] else .tup [(mk 0 0 ⟨#[]⟩ []).av, .int .i64 5]
def nul : Ty := mk 0 0 ⟨#[]⟩ []
theorem p12 (t : Ty) (l : List Ty) : PureC Try.prog 12 [t.av, .list 4 .none (l.map av)] (if proper t && propers l then fin (putted t l) else .tup [nul.av, .int .i64 2]) := by
  refine PureC.intro fun s => fun_sound mixed Try.func12 Try.call12 c12 rfl (awpFun_go _ _ _ _ ?_)
  simp (implicitDefEqProofs := false) (maxSteps := 2000000) (disch := (first | omega | (simp only [St.new_nx, St.set_nx, St.del_nx, St.bump_nx]; done) | (simp only [St.new_nx, St.set_nx, St.del_nx, St.bump_nx]; omega) | fail)) [a12, a12b, a12r0, a12r1]
  refine go_pure (p53 t) fun m hm => ?_
  simp only [St.new_nx, St.bump_nx, St.set_nx] at hm
  simp (implicitDefEqProofs := false) (maxSteps := 2000000) (disch := (first | omega | (simp only [St.new_nx, St.set_nx, St.del_nx, St.bump_nx]; done) | (simp only [St.new_nx, St.set_nx, St.del_nx, St.bump_nx]; omega) | fail))
  refine ⟨fun hp => ?_, fun hp => ?_⟩
  · refine go_pure (p54 l) fun m2 hm2 => ?_
    simp only [St.new_nx, St.bump_nx, St.set_nx] at hm2
    simp (implicitDefEqProofs := false) (maxSteps := 2000000) (disch := (first | omega | (simp only [St.new_nx, St.set_nx, St.del_nx, St.bump_nx]; done) | (simp only [St.new_nx, St.set_nx, St.del_nx, St.bump_nx]; omega) | fail)) [a12r2, a12r3]
    refine ⟨fun hl => ?_, fun hl => ?_⟩
    · simp (implicitDefEqProofs := false) (maxSteps := 2000000) (disch := (first | omega | (simp only [St.new_nx, St.set_nx, St.del_nx, St.bump_nx]; done) | (simp only [St.new_nx, St.set_nx, St.del_nx, St.bump_nx]; omega) | fail)) [hp, hl, nul, av_mk]
    · have hall : l.length ≤ 600 ∧ ∀ x ∈ l, proper x = true := by simpa [propers] using hl
      refine go_pure (p56 t l (by omega) (fun x hx => proper_fit (hall.2 x hx)) (proper_fit hp)) fun m3 hm3 => ?_
      simp only [St.new_nx, St.bump_nx, St.set_nx] at hm3
      simp (implicitDefEqProofs := false) (maxSteps := 2000000) (disch := (first | omega | (simp only [St.new_nx, St.set_nx, St.del_nx, St.bump_nx]; done) | (simp only [St.new_nx, St.set_nx, St.del_nx, St.bump_nx]; omega) | fail))
      refine go_pure (p55 (putted t l)) fun m4 hm4 => ?_
      simp only [St.new_nx, St.bump_nx, St.set_nx] at hm4
      by_cases hq : proper (putted t l) = true
      · simp (implicitDefEqProofs := false) (maxSteps := 2000000) (disch := (first | omega | (simp only [St.new_nx, St.set_nx, St.del_nx, St.bump_nx]; done) | (simp only [St.new_nx, St.set_nx, St.del_nx, St.bump_nx]; omega) | fail)) [hp, hl, fin, hq]
      · simp (implicitDefEqProofs := false) (maxSteps := 2000000) (disch := (first | omega | (simp only [St.new_nx, St.set_nx, St.del_nx, St.bump_nx]; done) | (simp only [St.new_nx, St.set_nx, St.del_nx, St.bump_nx]; omega) | fail)) [hp, hl, fin, hq, av_mk]
  · simp (implicitDefEqProofs := false) (maxSteps := 2000000) (disch := (first | omega | (simp only [St.new_nx, St.set_nx, St.del_nx, St.bump_nx]; done) | (simp only [St.new_nx, St.set_nx, St.del_nx, St.bump_nx]; omega) | fail)) [a12r2, hp, nul, av_mk]
end Go.AL.Ty
