/- Types mapped. -/
import Derived.Test.YtkegioliclbbhaaE3
set_option linter.unusedVariables false
set_option linter.unusedSimpArgs false
namespace Go.AL.Ty
open Go Go.Proofs

mutual
/-- A type with some nodes replaced. -/
def map (f : Ty → Int → Option Ty) : Ty → Int → Ty
  | mk op n s args, b => match f (mk op n s args) b with
    | some u => u
    | none => mk op n s (maps f op args 0 b)
def maps (f : Ty → Int → Option Ty) (op : Int) : List Ty → Nat → Int → List Ty
  | [], _, _ => []
  | t :: ts, i, b => map f t (b + belw op i) :: maps f op ts (i + 1) b
end
theorem map_eq (f : Ty → Int → Option Ty) (t : Ty) (b : Int) : map f t b = match f t b with | some u => u | none => mk t.op t.n t.s (maps f t.op t.args 0 b) := by cases t; rw [map]; rfl

/-- A function value that changes nodes. -/
def Changes (c : AV) (f : Ty → Int → Option Ty) (ok : Ty → Int → Prop) : Prop :=
  ∃ k a cap, c = .fn k a cap ∧ ∀ (t : Ty) (b : Int), ok t b → ∃ u, PureC Try.prog k (a ++ [t.av, .int .i64 b] ++ cap) (.tup [Ty.av u, .bool (f t b).isSome]) ∧ ∀ v, f t b = some v → u = v

/-- What Map may be called with. -/
def C98 (c : AV) (f : Ty → Int → Option Ty) (t : Ty) (b : Int) : Prop := PureC Try.prog 98 [t.av, .int .i64 b, c] (map f t b).av


theorem maps_length (f : Ty → Int → Option Ty) (op : Int) : ∀ (l : List Ty) (i : Nat) (b : Int), (maps f op l i b).length = l.length
  | [], _, _ => by simp [maps]
  | t :: ts, i, b => by simp [maps, maps_length f op ts (i + 1) b]
theorem maps_get (f : Ty → Int → Option Ty) (op : Int) : ∀ (l : List Ty) (i j : Nat) (b : Int) (x : Ty), l[j]? = some x → (maps f op l i b)[j]? = some (map f x (b + belw op ((i + j : Nat) : Int)))
  | t :: ts, i, 0, b, x, h => by simp at h; subst h; simp [maps]
  | t :: ts, i, j + 1, b, x, h => by
    simp at h
    have := maps_get f op ts (i + 1) j b x h
    simp only [maps, List.getElem?_cons_succ, this]
    rw [show i + 1 + j = i + (j + 1) by omega]

theorem loop98 (t : Ty) (b : Int) (c : AV) (f : Ty → Int → Option Ty) (s : St) (oT oO oR : Nat) (G : Env) (S : St)
    (ih : ∀ (i : Nat) x, t.args[i]? = some x → C98 c f x (b + belw t.op i)) (hlen : t.args.length ≤ 1000000) (hb : -1000000 ≤ b) (hb2 : b ≤ 1000000)
    (h29 : G.get 29 = .list 4 .none (t.args.map av)) (h30 : G.get 30 = .int .i64 t.args.length) (h31 : G.get 31 = .int .i64 0) (h1 : G.get 1 = .int .i64 b) (h2 : G.get 2 = c)
    (h3 : G.get 3 = .ptr oT 0) (h9 : G.get 9 = .ptr oO 0) (h6 : G.get 6 = .ptr oR 0)
    (hT : S.m oT = some (.box [.int .i64 t.op, .int .i64 t.n, .str t.s, .list 4 .none (t.args.map av)])) (hO : S.m oO = some (.box [.int .i64 t.op, .int .i64 t.n, .str t.s, .list 0 .full []]))
    (hR : S.m oR = some (.box [.int .i64 0, .int .i64 0, .str ⟨#[]⟩, .list 0 .full []])) (hk : Kept s S) (n1 : s.nx ≤ oT) (n2 : oT < oR) (n3 : oR < oO) (n4 : oO < S.nx) :
    go (awp Try.prog (.loop a98l10) (blockQ 0 (seqQ Try.prog ((ACode.reg false a98r11).seq .ret) (finQ [.cell (true, 6) 4 true] fun r' s' => wk r' (mk t.op t.n t.s (maps f t.op t.args 0 b)).av ∧ Kept s s'))) G S) := by
  have hml := maps_length f t.op t.args 0 b
  generalize hres : maps f t.op t.args 0 b = res at hml ⊢
  refine go_loop (fun n g s1 => ∃ (i sz : Nat) (tok : Tok), i ≤ t.args.length ∧ n = t.args.length - i ∧
    g.get 29 = .list 4 .none (t.args.map av) ∧ g.get 30 = .int .i64 t.args.length ∧ g.get 31 = .int .i64 i ∧ g.get 1 = .int .i64 b ∧ g.get 2 = c ∧ g.get 3 = .ptr oT 0 ∧ g.get 9 = .ptr oO 0 ∧ g.get 6 = .ptr oR 0 ∧
    s1.m oT = some (.box [.int .i64 t.op, .int .i64 t.n, .str t.s, .list 4 .none (t.args.map av)]) ∧ s1.m oO = some (.box [.int .i64 t.op, .int .i64 t.n, .str t.s, .list sz tok ((res.take i).map av)]) ∧
    s1.m oR = some (.box [.int .i64 0, .int .i64 0, .str ⟨#[]⟩, .list 0 .full []]) ∧ Kept s s1 ∧ oO < s1.nx ∧
    ((i = 0 ∧ sz = 0 ∧ tok = .full) ∨ (sz = 4 ∧ ∃ q, tok = .own q ∧ s1.m q = some (.spare (i * 4)) ∧ oO < q ∧ q < s1.nx))) t.args.length
    ⟨0, 0, .full, Nat.zero_le _, by simp, h29, h30, h31, h1, h2, h3, h9, h6, hT, by simpa using hO, hR, hk, n4, .inl ⟨rfl, rfl, rfl⟩⟩ ?_
  clear h29 h30 h31 h1 h2 h3 h9 h6 hT hO hR hk n4
  rintro n g s1 ⟨i, sz, tok, hi, rfl, h29, h30, h31, h1, h2, h3, h9, h6, hT, hO, hR, hk, n4, htok⟩
  by_cases hlt : i < t.args.length
  · have hx : t.args[i]? = some t.args[i] := by simp [hlt]
    have hlt' : (i : Int) < t.args.length := by omega
    have w2 : IntKind.i64.wrap ((i : Int) + 1) = ((i + 1 : Nat) : Int) := by rw [wrap64 (by omega) (by omega)]; omega
    have hbw : 0 ≤ belw t.op i ∧ belw t.op i ≤ 1 := by unfold belw; split <;> omega
    have w1 : IntKind.i64.wrap (b + belw t.op i) = b + belw t.op i := wrap64 (by omega) (by omega)
    have hri : res[i]? = some (map f t.args[i] (b + belw t.op i)) := by
      have := maps_get f t.op t.args 0 i b _ hx
      rw [hres] at this
      simpa using this
    have htake : (res.take (i + 1)).map av = (res.take i).map av ++ [(map f t.args[i] (b + belw t.op i)).av] := by
      rw [List.take_add_one, hri]; simp
    simp (implicitDefEqProofs := false) (maxSteps := 2000000) (disch := (first | omega | (simp only [St.new_nx, St.set_nx, St.del_nx, St.bump_nx]; done) | (simp only [St.new_nx, St.set_nx, St.del_nx, St.bump_nx]; omega) | fail)) [a98l10, a98r6, a98r7, a98r8, h29, h30, h31, h1, h2, h3, h9, h6, hT, hO, hlt', hlt, hx]
    refine pcV_intro (p105 t i) ?_
    simp (implicitDefEqProofs := false) (maxSteps := 2000000) (disch := (first | omega | (simp only [St.new_nx, St.set_nx, St.del_nx, St.bump_nx]; done) | (simp only [St.new_nx, St.set_nx, St.del_nx, St.bump_nx]; omega) | fail)) [w1, h1, h2]
    refine pcV_intro (ih i _ hx) ?_
    rcases htok with ⟨rfl, rfl, rfl⟩ | ⟨rfl, q, rfl, hq, q1, q2⟩
    · simp (implicitDefEqProofs := false) (maxSteps := 2000000) (disch := (first | omega | (simp only [St.new_nx, St.set_nx, St.del_nx, St.bump_nx]; done) | (simp only [St.new_nx, St.set_nx, St.del_nx, St.bump_nx]; omega) | fail)) [hO, h9, h31, show IntKind.i64.wrap 1 = 1 from rfl, a98r9]
      intro m hm
      simp only [Nat.zero_add, List.take_zero, List.map_nil, List.nil_append] at htake
      refine go_next (t.args.length - 1) (by omega) ⟨1, by omega, rfl, ?_, ?_, ?_, ?_, ?_, ?_, ?_, ?_, ?_, 4, .own (s1.nx + 1), ?_, ?_, ?_, ?_, .inr ⟨rfl, _, rfl, ?_, ?_, ?_⟩⟩ <;> (try simp (implicitDefEqProofs := false) (maxSteps := 2000000) (disch := (first | omega | (simp only [St.new_nx, St.set_nx, St.del_nx, St.bump_nx]; done) | (simp only [St.new_nx, St.set_nx, St.del_nx, St.bump_nx]; omega) | fail)) [h29, h30, h31, h1, h2, h3, h9, h6, hT, hO, hR, hk, ← List.map_take, htake])
      all_goals omega
    · simp (implicitDefEqProofs := false) (maxSteps := 2000000) (disch := (first | omega | (simp only [St.new_nx, St.set_nx, St.del_nx, St.bump_nx]; done) | (simp only [St.new_nx, St.set_nx, St.del_nx, St.bump_nx]; omega) | fail)) [hO, hq, h9, h31, w2, a98r9]
      intro m hm
      refine go_next (t.args.length - (i + 1)) (by omega) ⟨i + 1, by omega, rfl, ?_, ?_, ?_, ?_, ?_, ?_, ?_, ?_, ?_, 4, .own (s1.nx + 1), ?_, ?_, ?_, ?_, .inr ⟨rfl, _, rfl, ?_, ?_, ?_⟩⟩ <;> (try simp (implicitDefEqProofs := false) (maxSteps := 2000000) (disch := (first | omega | (simp only [St.new_nx, St.set_nx, St.del_nx, St.bump_nx]; done) | (simp only [St.new_nx, St.set_nx, St.del_nx, St.bump_nx]; omega) | fail)) [h29, h30, h31, h1, h2, h3, h9, h6, hT, hO, hR, hk, ← List.map_take, htake])
      all_goals omega
  · have hlt' : ¬ (i : Int) < t.args.length := by omega
    have hie : i = t.args.length := by omega
    subst hie
    have htk : res.take t.args.length = res := by rw [← hml]; simp
    rw [htk] at hO
    simp (implicitDefEqProofs := false) (maxSteps := 2000000) (disch := (first | omega | (simp only [St.new_nx, St.set_nx, St.del_nx, St.bump_nx]; done) | (simp only [St.new_nx, St.set_nx, St.del_nx, St.bump_nx]; omega) | fail)) [a98l10, a98r6, h29, h30, h31, h9, h6, hlt', a98r11, hO, hR, hk]
    rw [av_mk]
    rcases htok with ⟨h0, rfl, rfl⟩ | ⟨rfl, q, rfl, _⟩
    · have : res = [] := List.length_eq_zero_iff.1 (by omega)
      simp [this]
    · simp

theorem p98 (k : FuncId) (a cap : List AV) (f : Ty → Int → Option Ty) (R : Ty → Int → Prop)
    (hc : ∀ t b, R t b → ∃ u : Ty, PureC Try.prog k (a ++ [t.av, .int .i64 b] ++ cap) (.tup [u.av, .bool (f t b).isSome]) ∧ ∀ v, f t b = some v → u = v)
    (hR : ∀ t b, R t b → f t b = none → t.args.length ≤ 1000000 ∧ -1000000 ≤ b ∧ b ≤ 1000000 ∧ ∀ (i : Nat) x, t.args[i]? = some x → R x (b + belw t.op i)) (t : Ty) : ∀ b, R t b → C98 (.fn k a cap) f t b := by
  induction t using Ty.ind with
  | h t ih =>
    intro b hRb
    refine PureC.intro fun s => fun_sound mixed Try.func98 Try.call98 c98 rfl (awpFun_go _ _ _ _ ?_)
    obtain ⟨u, hu, hv⟩ := hc t b hRb
    simp only [List.append_assoc, List.cons_append, List.nil_append] at hu
    simp (implicitDefEqProofs := false) (maxSteps := 2000000) (disch := (first | omega | (simp only [St.new_nx, St.set_nx, St.del_nx, St.bump_nx]; done) | (simp only [St.new_nx, St.set_nx, St.del_nx, St.bump_nx]; omega) | fail)) [a98, a98b, a98r0, a98r1]
    refine go_pure hu fun m hm => ?_
    simp only [St.new_nx] at hm
    rw [map_eq]
    simp (implicitDefEqProofs := false) (maxSteps := 2000000) (disch := (first | omega | (simp only [St.new_nx, St.set_nx, St.del_nx, St.bump_nx]; done) | (simp only [St.new_nx, St.set_nx, St.del_nx, St.bump_nx]; omega) | fail)) [a98r2, a98r3, a98r4, a98r5]
    refine ⟨fun h => ?_, fun h => ?_⟩
    · obtain ⟨v, hfv⟩ := Option.isSome_iff_exists.1 h
      have := hv v hfv
      subst this
      rw [hfv]
      simp (implicitDefEqProofs := false) (maxSteps := 2000000) (disch := (first | omega | (simp only [St.new_nx, St.set_nx, St.del_nx, St.bump_nx]; done) | (simp only [St.new_nx, St.set_nx, St.del_nx, St.bump_nx]; omega) | fail))
    · obtain ⟨h1, h2, h3, h4⟩ := hR t b hRb h
      rw [h]
      refine loop98 t b _ f s s.nx (m + 1) (s.nx + 1) _ _ (fun i x hx => ih x (List.mem_of_getElem? hx) _ (h4 i x hx)) h1 h2 h3 ?_ ?_ ?_ ?_ ?_ ?_ ?_ ?_ ?_ ?_ ?_ ?_ ?_ ?_ ?_ ?_ <;> (try simp (implicitDefEqProofs := false) (maxSteps := 2000000) (disch := (first | omega | (simp only [St.new_nx, St.set_nx, St.del_nx, St.bump_nx]; done) | (simp only [St.new_nx, St.set_nx, St.del_nx, St.bump_nx]; omega) | fail)))
      all_goals omega
end Go.AL.Ty
