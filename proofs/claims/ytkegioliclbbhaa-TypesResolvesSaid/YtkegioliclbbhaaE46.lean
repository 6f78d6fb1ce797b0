import Derived.Test.YtkegioliclbbhaaD1
import Derived.Test.YtkegioliclbbhaaProg
import Derived.KernelRfl
import Derived.Test.YtkegioliclbbhaaE44
namespace Go.AL.Tz
open Go.Proofs

/- damask/types.Map -/
def a98r0 : List AOper :=
  [⟨some (true, 3), .box (.g 0), none, []⟩,
   ⟨some (true, 6), .alloc [(.int .i64 0), (.int .i64 0), (.str ⟨#[]⟩), (.list 0 .full [])], none, []⟩]
def a98r1 : List AOper :=
  [⟨some (false, 13), .mv (.g 2), none, []⟩,
   ⟨some (false, 14), .load 4 true (.g 3), none, []⟩,
   ⟨some (false, 15), .mv (.g 1), none, []⟩,
   ⟨some (false, 16), .call false (.l 13) [(.l 14), (.l 15)], none, []⟩,
   ⟨some (false, 12), .mv (.l 16), none, []⟩,
   ⟨some (false, 17), .extract (.l 12) 0, none, []⟩,
   ⟨some (false, 18), .extract (.l 12) 1, none, []⟩,
   ⟨some (true, 7), .alloc [(.int .i64 0), (.int .i64 0), (.str ⟨#[]⟩), (.list 0 .full [])], none, []⟩,
   ⟨none, .store 4 (.g 7) (.l 17), none, []⟩,
   ⟨some (true, 8), .mv (.l 18), none, []⟩]
def a98r2 : List AOper :=
  [⟨some (true, 19), .mv (.g 8), none, []⟩]
def a98r3 : List AOper :=
  [⟨some (false, 20), .load 4 true (.g 7), none, []⟩,
   ⟨none, .store 4 (.g 6) (.l 20), none, []⟩]
def a98r4 : List AOper :=
  [⟨some (false, 21), .fieldAddr 0 (.g 3), none, []⟩,
   ⟨some (false, 22), .load 1 false (.l 21), none, []⟩,
   ⟨some (false, 23), .fieldAddr 1 (.g 3), none, []⟩,
   ⟨some (false, 24), .load 1 false (.l 23), none, []⟩,
   ⟨some (false, 25), .fieldAddr 2 (.g 3), none, []⟩,
   ⟨some (false, 26), .load 1 false (.l 25), none, []⟩,
   ⟨some (false, 27), .build [(.int .i64 0), (.int .i64 0), (.str ⟨#[]⟩), (.list 0 .full [])] [(0, 1, (.l 22)), (1, 1, (.l 24)), (2, 1, (.l 26))], none, []⟩,
   ⟨some (true, 9), .alloc [(.int .i64 0), (.int .i64 0), (.str ⟨#[]⟩), (.list 0 .full [])], none, []⟩,
   ⟨none, .store 4 (.g 9) (.l 27), none, []⟩]
def a98r5 : List AOper :=
  [⟨some (false, 28), .fieldAddr 3 (.g 3), none, []⟩,
   ⟨some (true, 29), .load 1 false (.l 28), none, []⟩,
   ⟨some (true, 30), .len (.g 29), none, []⟩,
   ⟨some (true, 31), .mv (.c (.int .i64 0)), none, []⟩]
def a98r6 : List AOper :=
  [⟨some (true, 32), .bin .lss (.g 31) (.g 30), none, []⟩]
def a98r7 : List AOper :=
  [⟨some (false, 33), .mv (.g 31), none, []⟩,
   ⟨some (false, 34), .indexAddr 4 (.g 29) (.g 31), none, []⟩,
   ⟨some (false, 35), .load 4 true (.l 34), none, []⟩,
   ⟨some (true, 11), .alloc [(.int .i64 0), (.int .i64 0), (.str ⟨#[]⟩), (.list 0 .full [])], none, []⟩,
   ⟨some (true, 10), .mv (.l 33), none, []⟩,
   ⟨none, .store 4 (.g 11) (.l 35), none, []⟩]
def a98r8 : List AOper :=
  [⟨some (false, 36), .fieldAddr 3 (.g 9), none, []⟩,
   ⟨some (false, 37), .load 1 false (.l 36), none, []⟩,
   ⟨some (false, 38), .load 4 true (.g 11), none, []⟩,
   ⟨some (false, 39), .mv (.g 1), none, []⟩,
   ⟨some (false, 40), .load 4 true (.g 3), none, []⟩,
   ⟨some (false, 41), .mv (.g 10), none, []⟩,
   ⟨some (false, 42), .call true (.c (.fn 105 [] [])) [(.l 40), (.l 41)], none, []⟩,
   ⟨some (false, 43), .bin .add (.l 39) (.l 42), none, []⟩,
   ⟨some (false, 44), .mv (.g 2), none, []⟩]
def a98t8 : List AOper :=
  [⟨some (false, 46), .buildSlice 4 true [(.int .i64 0), (.int .i64 0), (.str ⟨#[]⟩), (.list 0 .full [])] 1 [(0, (.l 45))], none, []⟩]
def a98s8 : List AOper :=
  [⟨some (false, 47), .append 4 56 (.l 37) (.l 46), none, []⟩,
   ⟨some (false, 48), .fieldAddr 3 (.g 9), none, []⟩,
   ⟨none, .store 1 (.l 48) (.l 47), none, []⟩]
def a98r9 : List AOper :=
  [⟨some (false, 49), .bin .add (.g 31) (.c (.int .i64 1)), none, []⟩,
   ⟨some (true, 31), .mv (.l 49), none, []⟩]
def a98l10 : ACode :=
  (.seq (.reg false a98r6) (.seq (.cond (.g 32) .skip (.exit 0)) (.seq (.block 1 (.seq (.reg false a98r7) (.reg4 a98r8 [.fieldAddr 3 (.g 9), .load 1 false (.l 36)] ⟨some (false, 45), .call false (.c (.fn 98 [] [])) [(.l 38), (.l 43), (.l 44)], none, []⟩ a98t8 a98s8))) (.reg false a98r9))))
def a98r11 : List AOper :=
  [⟨some (false, 50), .load 4 true (.g 9), none, []⟩,
   ⟨none, .store 4 (.g 6) (.l 50), none, []⟩]
def a98b : ACode :=
  (.seq (.reg false a98r0) (.seq (.seq (.reg false a98r1) (.seq (.reg false a98r2) (.cond (.g 19) (.seq (.reg false a98r3) .ret) .skip))) (.seq (.reg false a98r4) (.seq (.seq (.reg false a98r5) (.block 0 (.loop a98l10))) (.seq (.reg false a98r11) .ret)))))
def a98 : AFun := ⟨3, 51, a98b, [.cell (true, 6) 4 true]⟩
theorem c98 : compileFun Try.prog [0, 1, 2, 3, 6, 7, 8, 9, 10, 11, 19, 29, 30, 31, 32, 9000900000009] Try.f98 = some a98 := by kernel_rfl

end Go.AL.Tz
/- Types whose metavariables are resolved: the code. -/
set_option linter.unusedVariables false
set_option linter.unusedSimpArgs false
namespace Go.AL
/-- What is below is as it was, but for some objects. -/
def KeptO (s : St) (os : List Nat) (s' : St) : Prop := ∀ q, q < s.nx → q ∉ os → s'.m q = s.m q
theorem keptO_refl (s : St) (os : List Nat) : KeptO s os s := fun _ _ _ => rfl
theorem KeptO.trans {s s1 s2 : St} {os : List Nat} (h : KeptO s os s1) (h2 : KeptO s1 os s2) (hn : s.nx ≤ s1.nx) : KeptO s os s2 := fun q hq ho => (h2 q (by omega) ho).trans (h q hq ho)
@[simp] theorem keptO_bump (s s' : St) (os : List Nat) (n : Nat) : KeptO s os (s'.bump n) = KeptO s os s' := rfl
@[simp] theorem keptO_new (s s' : St) (os : List Nat) (ob : AObj) (h : s.nx ≤ s'.nx) : KeptO s os (s'.new ob) = KeptO s os s' := by
  have : ∀ q, q < s.nx → (s'.new ob).m q = s'.m q := fun q hq => St.new_ne _ _ _ (by omega)
  simp only [KeptO]
  exact propext ⟨fun k q hq ho => by rw [← this q hq]; exact k q hq ho, fun k q hq ho => by rw [this q hq]; exact k q hq ho⟩
@[simp] theorem keptO_set (s s' : St) (os : List Nat) (p : Nat) (ob : AObj) (h : s.nx ≤ p) : KeptO s os (s'.set p ob) = KeptO s os s' := by
  have : ∀ q, q < s.nx → (s'.set p ob).m q = s'.m q := fun q hq => St.set_ne _ _ _ _ (by omega)
  simp only [KeptO]
  exact propext ⟨fun k q hq ho => by rw [← this q hq]; exact k q hq ho, fun k q hq ho => by rw [this q hq]; exact k q hq ho⟩
@[simp] theorem keptO_del (s s' : St) (os : List Nat) (p : Nat) (h : s.nx ≤ p) : KeptO s os (s'.del p) = KeptO s os s' := by
  have : ∀ q, q < s.nx → (s'.del p).m q = s'.m q := fun q hq => St.del_ne _ _ _ (by omega)
  simp only [KeptO]
  exact propext ⟨fun k q hq ho => by rw [← this q hq]; exact k q hq ho, fun k q hq ho => by rw [this q hq]; exact k q hq ho⟩
namespace Ty
open Go Go.Proofs

def encB (B : List (Nat × Int)) : List (Nat × AV × AV) := B.map fun x => (x.1, .int .i64 x.2, .bool true)
def encD (D : List (Nat × Int × Ty)) : List (Nat × AV × AV) := D.map fun x => (x.1, .int .i64 x.2.1, x.2.2.av)
/-- The state of a resolver. -/
structure RS (M : List Mt) (o oB oD : Nat) (B : List (Nat × Int)) (D : List (Nat × Int × Ty)) (e : Int) (s : St) : Prop where
  ro : s.m o = some (.box [.list 10 .none (M.map Mt.av), .map oB, .map oD, .int .i64 e])
  rb : ∃ c, s.m oB = some (.map (encB B) c)
  rd : ∃ c, s.m oD = some (.map (encD D) c)
  lo : o < s.nx
  lb : oB < s.nx
  ld : oD < s.nx
  ob : o < oB ∨ oB < o
  od : o < oD ∨ oD < o
  bd : oB < oD ∨ oD < oB
theorem RS.kept {M : List Mt} {o oB oD : Nat} {B : List (Nat × Int)} {D : List (Nat × Int × Ty)} {e : Int} {s s' : St} (h : RS M o oB oD B D e s) (h1 : s'.m o = s.m o) (h2 : s'.m oB = s.m oB) (h3 : s'.m oD = s.m oD) (hn : s.nx ≤ s'.nx) : RS M o oB oD B D e s' :=
  ⟨by rw [h1]; exact h.ro, by rw [h2]; exact h.rb, by rw [h3]; exact h.rd, by have := h.lo; omega, by have := h.lb; omega, by have := h.ld; omega, h.ob, h.od, h.bd⟩
section
variable {M : List Mt} (hw : WellFounded (dep M))
def Dok (D : List (Nat × Int × Ty)) : Prop := ∀ x ∈ D, x.2.2 = val hw x.2.1
def Busy (M : List Mt) (B : List (Nat × Int)) (t : Ty) : Prop := ∀ x ∈ B, ∀ k, occ k t → Relation.TransGen (dep M) k x.2
/-- What becomes of a state and a type. -/
def PostR (t : Ty) (e : Int) (u : Ty) (e' : Int) (D' : List (Nat × Int × Ty)) : Prop :=
  (e = 0 ∧ e' = 0 ∧ u = rv hw t ∧ Dok hw D') ∨ (e' = 5 ∧ (e = 5 ∨ proper (rv hw t) = false))
def PreR (e : Int) (D : List (Nat × Int × Ty)) : Prop := (e = 0 ∧ Dok hw D) ∨ e = 5
def C98r (o oB oD : Nat) (t : Ty) (b : Int) : Prop := ∀ (B : List (Nat × Int)) (D : List (Nat × Int × Ty)) (e : Int) (s : St) (K : AV → St → Prop), RS M o oB oD B D e s → PreR hw e D → Busy M B t →
  (∀ u e' D' s', s.nx ≤ s'.nx → RS M o oB oD B D' e' s' → KeptO s [o, oB, oD] s' → PostR hw t e u e' D' → K (Ty.av u) s') → ACalls Try.prog 98 [t.av, .int .i64 b, .fn 136 [] [.cptr [.ptr o 0]]] s K
def C123r (o oB oD : Nat) (t : Ty) : Prop := ∀ (B : List (Nat × Int)) (D : List (Nat × Int × Ty)) (e : Int) (s : St) (K : AV → St → Prop), RS M o oB oD B D e s → PreR hw e D → Busy M B t →
  (∀ u e' D' s', s.nx ≤ s'.nx → RS M o oB oD B D' e' s' → KeptO s [o, oB, oD] s' → PostR hw t e u e' D' → K (Ty.av u) s') → ACalls Try.prog 123 [.ptr o 0, t.av] s K
def C136r (o oB oD : Nat) (t : Ty) (b : Int) : Prop := ∀ (B : List (Nat × Int)) (D : List (Nat × Int × Ty)) (e : Int) (s : St) (K : AV → St → Prop), RS M o oB oD B D e s → PreR hw e D → Busy M B t →
  (∀ u ok e' D' s', s.nx ≤ s'.nx → RS M o oB oD B D' e' s' → KeptO s [o, oB, oD] s' → (ok = true ∧ PostR hw t e u e' D' ∨ ok = false ∧ t.op ≠ 6 ∧ e = 0 ∧ e' = 0 ∧ Dok hw D') → K (.tup [Ty.av u, .bool ok]) s') → ACalls Try.prog 136 [t.av, .int .i64 b, .cptr [.ptr o 0]] s K

theorem p123r {o oB oD : Nat} {t : Ty} (h : C98r hw o oB oD t 0) : C123r hw o oB oD t := by
  intro B D e s K hR hP hB hK
  refine ACalls.res (fun_sound mixed Try.func123 Try.call123 c123 rfl (awpFun_go _ _ _ _ ?_))
  have h1 := hR.lo
  have h2 := hR.lb
  have h3 := hR.ld
  simp (implicitDefEqProofs := false) (maxSteps := 2000000) (disch := (first | omega | (simp only [St.new_nx, St.set_nx, St.del_nx, St.bump_nx]; done) | (simp only [St.new_nx, St.set_nx, St.del_nx, St.bump_nx]; omega) | fail)) [a123, a123b, a123r0, a123r1]
  refine go_calls (h B D e _ _ (hR.kept ?_ ?_ ?_ ?_) hP hB fun u e' D' s' hn hR' hk hp => go_of ?_)
  iterate 3 (simp (implicitDefEqProofs := false) (maxSteps := 2000000) (disch := (first | omega | (simp only [St.new_nx, St.set_nx, St.del_nx, St.bump_nx]; done) | (simp only [St.new_nx, St.set_nx, St.del_nx, St.bump_nx]; omega) | fail)))
  · simp (implicitDefEqProofs := false) (maxSteps := 2000000) (disch := (first | omega | (simp only [St.new_nx, St.set_nx, St.del_nx, St.bump_nx]; done) | (simp only [St.new_nx, St.set_nx, St.del_nx, St.bump_nx]; omega) | fail))
    omega
  have hk4 := hk (s.nx + 1 + 1) (by simp only [St.new_nx, St.bump_nx, St.set_nx, St.del_nx]; omega) (by simp; omega)
  simp (implicitDefEqProofs := false) (maxSteps := 2000000) (disch := (first | omega | (simp only [St.new_nx, St.set_nx, St.del_nx, St.bump_nx]; done) | (simp only [St.new_nx, St.set_nx, St.del_nx, St.bump_nx]; omega) | fail)) at hk4
  simp only [St.new_nx, St.bump_nx, St.set_nx, St.del_nx] at hn
  simp (implicitDefEqProofs := false) (maxSteps := 2000000) (disch := (first | omega | (simp only [St.new_nx, St.set_nx, St.del_nx, St.bump_nx]; done) | (simp only [St.new_nx, St.set_nx, St.del_nx, St.bump_nx]; omega) | fail)) [hk4]
  refine ⟨u.av, by simp, hK u e' D' _ ?_ (hR'.kept ?_ ?_ ?_ ?_) ?_ hp⟩
  · simp (implicitDefEqProofs := false) (maxSteps := 2000000) (disch := (first | omega | (simp only [St.new_nx, St.set_nx, St.del_nx, St.bump_nx]; done) | (simp only [St.new_nx, St.set_nx, St.del_nx, St.bump_nx]; omega) | fail))
    omega
  iterate 3 (simp (implicitDefEqProofs := false) (maxSteps := 2000000) (disch := (first | omega | (simp only [St.new_nx, St.set_nx, St.del_nx, St.bump_nx]; done) | (simp only [St.new_nx, St.set_nx, St.del_nx, St.bump_nx]; omega) | fail)))
  · simp (implicitDefEqProofs := false) (maxSteps := 2000000) (disch := (first | omega | (simp only [St.new_nx, St.set_nx, St.del_nx, St.bump_nx]; done) | (simp only [St.new_nx, St.set_nx, St.del_nx, St.bump_nx]; omega) | fail))
  · intro q hq ho
    simp (implicitDefEqProofs := false) (maxSteps := 2000000) (disch := (first | omega | (simp only [St.new_nx, St.set_nx, St.del_nx, St.bump_nx]; done) | (simp only [St.new_nx, St.set_nx, St.del_nx, St.bump_nx]; omega) | fail)) [hk q (by simp only [St.new_nx, St.bump_nx, St.set_nx, St.del_nx]; omega) ho]
theorem mt_idx {M : List Mt} {n : Int} {v : Ty} (h : vl M n = some v) : ∃ i : Nat, n = i ∧ ∃ hi : i < M.length, (M[i]).solved = true ∧ (M[i]).value = v := by
  obtain ⟨m, h0, hm, hs, hv, hl, _⟩ := vl_some h
  obtain ⟨hi, he⟩ := List.getElem?_eq_some_iff.1 hm
  exact ⟨n.toNat, by omega, hi, by rw [he]; exact hs, by rw [he]; exact hv⟩
theorem mfind_encD (n : Int) : ∀ (D : List (Nat × Int × Ty)) (k : Nat), ∃ r, mfind (.int .i64 n) (encD D) k = some r ∧ ∀ i, r = some i → ∃ j x, i = k + j ∧ D[j]? = some x ∧ x.2.1 = n
  | [], k => ⟨none, rfl, fun i h => by cases h⟩
  | x :: D, k => by
    simp only [encD, List.map_cons, mfind, keq, if_true]
    by_cases h : n = x.2.1
    · rw [decide_eq_true h]
      exact ⟨some k, rfl, fun i hi => ⟨0, x, by cases hi; rfl, rfl, h.symm⟩⟩
    · rw [decide_eq_false h]
      obtain ⟨r, h1, h2⟩ := mfind_encD n D (k + 1)
      refine ⟨r, h1, fun i hi => ?_⟩
      obtain ⟨j, y, e, hj, hy⟩ := h2 i hi
      exact ⟨j + 1, y, by omega, by simpa using hj, hy⟩
theorem mfind_encB (n : Int) : ∀ (B : List (Nat × Int)) (k : Nat), (∀ x ∈ B, x.2 ≠ n) → mfind (.int .i64 n) (encB B) k = some none
  | [], k, _ => rfl
  | x :: B, k, h => by
    have hx : ¬ n = x.2 := fun e => h x (by simp) e.symm
    simp only [encB, List.map_cons, mfind, keq, if_true]
    rw [decide_eq_false hx]
    exact mfind_encB n B (k + 1) fun y hy => h y (by simp [hy])
theorem mfind_encB_last (n : Int) (c : Nat) : ∀ (B : List (Nat × Int)) (k : Nat), (∀ x ∈ B, x.2 ≠ n) → mfind (.int .i64 n) (encB (B ++ [(c, n)])) k = some (some (k + B.length))
  | [], k, _ => by simp [encB, mfind, keq]
  | x :: B, k, h => by
    have hx : ¬ n = x.2 := fun e => h x (by simp) e.symm
    simp only [List.cons_append, encB, List.map_cons, mfind, keq, if_true]
    rw [decide_eq_false hx]
    have := mfind_encB_last n c B (k + 1) fun y hy => h y (by simp [hy])
    simp only [encB] at this
    rw [this, List.length_cons, show k + 1 + B.length = k + (B.length + 1) by omega]
theorem up_done (n : Int) (u : Ty) (D : List (Nat × Int × Ty)) (c o : Nat) (s : St) (K : AV → St → Prop) (hk : ∀ D' c', (∀ x ∈ D', x ∈ D ∨ x.2 = (n, u)) → go (K (.tup []) (s.set o (.map (encD D') c')))) : go (upO o (.int .i64 n) u.av (some (.map (encD D) c)) s K) := by
  rw [go_upO_map]
  obtain ⟨r, h1, h2⟩ := mfind_encD n D 0
  rw [h1]
  cases r with
  | none =>
    rw [go_upR_none]
    have := hk (D ++ [(c, n, u)]) (c + 1) fun x hx => by
      rcases List.mem_append.1 hx with hx | hx
      · exact .inl hx
      · simp at hx; exact .inr (by rw [hx])
    simpa [encD] using this
  | some i =>
    rw [go_upR_some]
    obtain ⟨j, x, e, hj, hx⟩ := h2 i rfl
    have e' : i = j := by omega
    subst e'
    have := hk (D.modify i fun y => (y.1, n, u)) c fun y hy => by
      obtain ⟨q, hq⟩ := List.mem_iff_getElem?.1 hy
      rw [List.getElem?_modify] at hq
      by_cases e : i = q
      · subst e
        rw [hj] at hq
        simp at hq
        exact .inr (by rw [← hq])
      · simp [e] at hq
        exact .inl (List.mem_of_getElem? hq)
    have e3 : encD (D.modify i fun y => (y.1, n, u)) = (encD D).modify i fun e => (e.1, .int .i64 n, u.av) := by
      unfold encD
      apply List.ext_getElem?
      intro q
      simp only [List.getElem?_map, List.getElem?_modify]
      by_cases e : i = q <;> cases D[q]? <;> simp [e]
    rw [e3] at this
    exact this

theorem p136r {o oB oD : Nat} {t : Ty} (b : Int) (hlen : M.length ≤ 600) (hG : GK M t) (h : t.op = 6 → ∀ v, vl M t.n = some v → C123r hw o oB oD v) : C136r hw o oB oD t b := by
  intro B D e s K hR hP hB hK
  refine ACalls.res (fun_sound mixed Try.func136 Try.call136 c136 rfl (awpFun_go _ _ _ _ ?_))
  have h1 := hR.lo
  have h2 := hR.lb
  have h3 := hR.ld
  have h4 := hR.ro
  obtain ⟨cB, h5⟩ := hR.rb
  obtain ⟨cD, h6⟩ := hR.rd
  -- a way out with the type itself
  have out : ∀ (ok : Bool) (s' : St), s'.m o = s.m o → s'.m oB = s.m oB → s'.m oD = s.m oD → s.nx ≤ s'.nx → KeptO s [o, oB, oD] s' → (ok = true ∧ PostR hw t e t e D ∨ ok = false ∧ t.op ≠ 6 ∧ e = 0 ∧ e = 0 ∧ Dok hw D) → K (.tup [Ty.av t, .bool ok]) s' :=
    fun ok s' k1 k2 k3 k4 k5 k6 => hK t ok e D s' k4 (hR.kept k1 k2 k3 k4) k5 k6
  rcases hP with ⟨he, hD⟩ | he
  rotate_left
  · subst he
    simp (implicitDefEqProofs := false) (maxSteps := 2000000) (disch := (first | omega | (simp only [St.new_nx, St.set_nx, St.del_nx, St.bump_nx]; done) | (simp only [St.new_nx, St.set_nx, St.del_nx, St.bump_nx]; omega) | fail)) [a136, a136b, a136r0, a136r1, a136r2, h4]
    intro m hm m1 hm1
    refine ⟨_, wk_refl _, out true _ ?_ ?_ ?_ ?_ ?_ (.inl ⟨rfl, .inr ⟨rfl, .inl rfl⟩⟩)⟩
    iterate 3 (simp (implicitDefEqProofs := false) (maxSteps := 2000000) (disch := (first | omega | (simp only [St.new_nx, St.set_nx, St.del_nx, St.bump_nx]; done) | (simp only [St.new_nx, St.set_nx, St.del_nx, St.bump_nx]; omega) | fail)))
    · simp (implicitDefEqProofs := false) (maxSteps := 2000000) (disch := (first | omega | (simp only [St.new_nx, St.set_nx, St.del_nx, St.bump_nx]; done) | (simp only [St.new_nx, St.set_nx, St.del_nx, St.bump_nx]; omega) | fail))
      omega
    · simp (implicitDefEqProofs := false) (maxSteps := 2000000) (disch := (first | omega | (simp only [St.new_nx, St.set_nx, St.del_nx, St.bump_nx]; done) | (simp only [St.new_nx, St.set_nx, St.del_nx, St.bump_nx]; omega) | fail))
      exact keptO_refl _ _
  subst he
  by_cases hop : t.op = 6
  rotate_left
  · simp (implicitDefEqProofs := false) (maxSteps := 2000000) (disch := (first | omega | (simp only [St.new_nx, St.set_nx, St.del_nx, St.bump_nx]; done) | (simp only [St.new_nx, St.set_nx, St.del_nx, St.bump_nx]; omega) | fail)) [a136, a136b, a136r0, a136r1, a136r2, h4, hop]
    intro m hm m1 hm1
    refine ⟨_, wk_refl _, out false _ ?_ ?_ ?_ ?_ ?_ (.inr ⟨rfl, hop, rfl, rfl, hD⟩)⟩
    iterate 3 (simp (implicitDefEqProofs := false) (maxSteps := 2000000) (disch := (first | omega | (simp only [St.new_nx, St.set_nx, St.del_nx, St.bump_nx]; done) | (simp only [St.new_nx, St.set_nx, St.del_nx, St.bump_nx]; omega) | fail)))
    · simp (implicitDefEqProofs := false) (maxSteps := 2000000) (disch := (first | omega | (simp only [St.new_nx, St.set_nx, St.del_nx, St.bump_nx]; done) | (simp only [St.new_nx, St.set_nx, St.del_nx, St.bump_nx]; omega) | fail))
      omega
    · simp (implicitDefEqProofs := false) (maxSteps := 2000000) (disch := (first | omega | (simp only [St.new_nx, St.set_nx, St.del_nx, St.bump_nx]; done) | (simp only [St.new_nx, St.set_nx, St.del_nx, St.bump_nx]; omega) | fail))
      exact keptO_refl _ _
  have hocc : occ t.n t := (occ_eq _ _).2 (.inl ⟨hop, rfl⟩)
  have hn0 := (hG.1.occ_nn hocc).1
  have hnM := hG.2 _ hocc
  have hnl : ¬ (M.length : Int) ≤ t.n := by omega
  have hiM : t.n.toNat < M.length := by omega
  have hmm : M[t.n.toNat]? = some M[t.n.toNat] := by simp [hiM]
  have hvl : vl M t.n = if M[t.n.toNat].solved then some M[t.n.toNat].value else none := by
    simp [vl, hmm, hn0]
  by_cases hs : M[t.n.toNat].solved = true
  rotate_left
  · have hs' : M[t.n.toNat].solved = false := by simpa using hs
    rw [hs'] at hvl
    have hrv := rv_none hw hop hvl
    simp (implicitDefEqProofs := false) (maxSteps := 2000000) (disch := (first | omega | (simp only [St.new_nx, St.set_nx, St.del_nx, St.bump_nx]; done) | (simp only [St.new_nx, St.set_nx, St.del_nx, St.bump_nx]; omega) | fail)) [a136, a136b, a136r0, a136r1, a136r2, h4, hnl, hn0, hnM, hiM, hs']
    intro m hm m1 hm1
    refine ⟨.tup [t.av, .bool true], by rw [decide_eq_true hop]; exact wk_refl _, out true _ ?_ ?_ ?_ ?_ ?_ (.inl ⟨rfl, .inl ⟨rfl, rfl, hrv.symm, hD⟩⟩)⟩
    iterate 3 (simp (implicitDefEqProofs := false) (maxSteps := 2000000) (disch := (first | omega | (simp only [St.new_nx, St.set_nx, St.del_nx, St.bump_nx]; done) | (simp only [St.new_nx, St.set_nx, St.del_nx, St.bump_nx]; omega) | fail)))
    · simp (implicitDefEqProofs := false) (maxSteps := 2000000) (disch := (first | omega | (simp only [St.new_nx, St.set_nx, St.del_nx, St.bump_nx]; done) | (simp only [St.new_nx, St.set_nx, St.del_nx, St.bump_nx]; omega) | fail))
      omega
    · simp (implicitDefEqProofs := false) (maxSteps := 2000000) (disch := (first | omega | (simp only [St.new_nx, St.set_nx, St.del_nx, St.bump_nx]; done) | (simp only [St.new_nx, St.set_nx, St.del_nx, St.bump_nx]; omega) | fail))
      exact keptO_refl _ _
  rw [if_pos hs] at hvl
  have hrv := rv_meta hw hop hvl
  have hval := val_eq hw hvl
  obtain ⟨r, hr1, hr2⟩ := mfind_encD t.n D 0
  simp (implicitDefEqProofs := false) (maxSteps := 2000000) (disch := (first | omega | (simp only [St.new_nx, St.set_nx, St.del_nx, St.bump_nx]; done) | (simp only [St.new_nx, St.set_nx, St.del_nx, St.bump_nx]; omega) | fail)) [a136, a136b, a136r0, a136r1, h4, hnl, hn0, hnM, hiM, hs]
  refine ⟨fun _ => ?_, fun hne => absurd hop hne⟩
  intro m hm
  cases r with
  | some q =>
    obtain ⟨j, x, e, hj, hx⟩ := hr2 q rfl
    have e' : q = j := by omega
    subst e'
    have hxv : x.2.2 = rv hw t := by rw [hrv, ← hval, ← hx]; exact hD x (List.mem_of_getElem? hj)
    have hDq : (encD D)[q]? = some (x.1, .int .i64 x.2.1, x.2.2.av) := by simp [encD, hj]
    simp (implicitDefEqProofs := false) (maxSteps := 2000000) (disch := (first | omega | (simp only [St.new_nx, St.set_nx, St.del_nx, St.bump_nx]; done) | (simp only [St.new_nx, St.set_nx, St.del_nx, St.bump_nx]; omega) | fail)) [a136r3, a136r4, a136r5, h4, h6, hr1, hDq]
    intro m1 hm1
    refine ⟨_, wk_refl _, hK x.2.2 true 0 D _ ?_ (hR.kept ?_ ?_ ?_ ?_) ?_ (.inl ⟨rfl, .inl ⟨rfl, rfl, hxv, hD⟩⟩)⟩
    · simp (implicitDefEqProofs := false) (maxSteps := 2000000) (disch := (first | omega | (simp only [St.new_nx, St.set_nx, St.del_nx, St.bump_nx]; done) | (simp only [St.new_nx, St.set_nx, St.del_nx, St.bump_nx]; omega) | fail))
      omega
    iterate 3 (simp (implicitDefEqProofs := false) (maxSteps := 2000000) (disch := (first | omega | (simp only [St.new_nx, St.set_nx, St.del_nx, St.bump_nx]; done) | (simp only [St.new_nx, St.set_nx, St.del_nx, St.bump_nx]; omega) | fail)))
    · simp (implicitDefEqProofs := false) (maxSteps := 2000000) (disch := (first | omega | (simp only [St.new_nx, St.set_nx, St.del_nx, St.bump_nx]; done) | (simp only [St.new_nx, St.set_nx, St.del_nx, St.bump_nx]; omega) | fail))
      omega
    · simp (implicitDefEqProofs := false) (maxSteps := 2000000) (disch := (first | omega | (simp only [St.new_nx, St.set_nx, St.del_nx, St.bump_nx]; done) | (simp only [St.new_nx, St.set_nx, St.del_nx, St.bump_nx]; omega) | fail))
      exact keptO_refl _ _
  | none =>
    have hbn : ∀ x ∈ B, x.2 ≠ t.n := by
      intro x hx e
      have := hB x hx _ hocc
      rw [e] at this
      exact acc_irr (hw.apply t.n) this
    have hb1 := mfind_encB t.n B 0 hbn
    simp (implicitDefEqProofs := false) (maxSteps := 2000000) (disch := (first | omega | (simp only [St.new_nx, St.set_nx, St.del_nx, St.bump_nx]; done) | (simp only [St.new_nx, St.set_nx, St.del_nx, St.bump_nx]; omega) | fail)) [a136r3, a136r4, h4, h6, hr1]
    intro m1 hm1
    simp (implicitDefEqProofs := false) (maxSteps := 2000000) (disch := (first | omega | (simp only [St.new_nx, St.set_nx, St.del_nx, St.bump_nx]; done) | (simp only [St.new_nx, St.set_nx, St.del_nx, St.bump_nx]; omega) | fail)) [a136r6, a136r9, h4, h5, hb1]
    intro m2 hm2 m3 hm3
    have hob := hR.ob
    have hod := hR.od
    have hbd := hR.bd
    have hB1 : encB B ++ [(cB, AV.int .i64 t.n, AV.bool true)] = encB (B ++ [(cB, t.n)]) := by simp [encB]
    rw [hB1]
    simp (implicitDefEqProofs := false) (maxSteps := 2000000) (disch := (first | omega | (simp only [St.new_nx, St.set_nx, St.del_nx, St.bump_nx]; done) | (simp only [St.new_nx, St.set_nx, St.del_nx, St.bump_nx]; omega) | fail)) [a136r10, h4, h5, hnl, hn0, hnM, hiM, hs]
    intro m4 hm4
    have hdep : ∀ k, occ k M[t.n.toNat].value → dep M k t.n := fun k hk => ⟨_, hvl, hk⟩
    refine go_calls (h hop _ hvl (B ++ [(cB, t.n)]) D 0 _ _ ⟨?_, ⟨cB + 1, ?_⟩, ⟨cD, ?_⟩, ?_, ?_, ?_, hob, hod, hbd⟩ (.inl ⟨rfl, hD⟩) ?_ fun u e' D' s' hn hR' hk hp => go_of ?_)
    iterate 3 (simp (implicitDefEqProofs := false) (maxSteps := 2000000) (disch := (first | omega | (simp only [St.new_nx, St.set_nx, St.del_nx, St.bump_nx]; done) | (simp only [St.new_nx, St.set_nx, St.del_nx, St.bump_nx]; omega) | fail)) [h4, h6])
    iterate 3 (simp (implicitDefEqProofs := false) (maxSteps := 2000000) (disch := (first | omega | (simp only [St.new_nx, St.set_nx, St.del_nx, St.bump_nx]; done) | (simp only [St.new_nx, St.set_nx, St.del_nx, St.bump_nx]; omega) | fail)); omega)
    · intro x hx k hk
      rcases List.mem_append.1 hx with hx | hx
      · exact Relation.TransGen.trans (.single (hdep k hk)) (hB x hx _ hocc)
      · simp at hx; subst hx; exact .single (hdep k hk)
    simp only [St.new_nx, St.bump_nx, St.set_nx, St.del_nx] at hn
    have f3 := hk s.nx (by simp only [St.new_nx, St.bump_nx, St.set_nx, St.del_nx]; omega) (by simp; omega)
    have f5 := hk (s.nx + 1) (by simp only [St.new_nx, St.bump_nx, St.set_nx, St.del_nx]; omega) (by simp; omega)
    have f9 := hk m3 (by simp only [St.new_nx, St.bump_nx, St.set_nx, St.del_nx]; omega) (by simp; omega)
    simp (implicitDefEqProofs := false) (maxSteps := 2000000) (disch := (first | omega | (simp only [St.new_nx, St.set_nx, St.del_nx, St.bump_nx]; done) | (simp only [St.new_nx, St.set_nx, St.del_nx, St.bump_nx]; omega) | fail)) at f3
    simp (implicitDefEqProofs := false) (maxSteps := 2000000) (disch := (first | omega | (simp only [St.new_nx, St.set_nx, St.del_nx, St.bump_nx]; done) | (simp only [St.new_nx, St.set_nx, St.del_nx, St.bump_nx]; omega) | fail)) at f5
    simp (implicitDefEqProofs := false) (maxSteps := 2000000) (disch := (first | omega | (simp only [St.new_nx, St.set_nx, St.del_nx, St.bump_nx]; done) | (simp only [St.new_nx, St.set_nx, St.del_nx, St.bump_nx]; omega) | fail)) at f9
    have fk : KeptO s [o, oB, oD] s' := by
      intro q hq hqo
      have := hk q (by simp only [St.new_nx, St.bump_nx, St.set_nx, St.del_nx]; omega) hqo
      simp only [List.mem_cons, List.not_mem_nil, or_false, not_or] at hqo
      simp (implicitDefEqProofs := false) (maxSteps := 2000000) (disch := (first | omega | (simp only [St.new_nx, St.set_nx, St.del_nx, St.bump_nx]; done) | (simp only [St.new_nx, St.set_nx, St.del_nx, St.bump_nx]; omega) | fail)) [this]
    clear hk
    obtain ⟨cB', g5⟩ := hR'.rb
    obtain ⟨cD', g6⟩ := hR'.rd
    have g4 := hR'.ro
    have g1 := hR'.lo
    have g2 := hR'.lb
    have g3 := hR'.ld
    have hb2 := mfind_encB_last t.n cB B 0 hbn
    simp only [Nat.zero_add] at hb2
    have hB2 : (encB (B ++ [(cB, t.n)])).eraseIdx B.length = encB B := by
      have : (encB B).length = B.length := by simp [encB]
      rw [← hB1, List.eraseIdx_append_of_length_le (by omega), this]
      simp
    simp (implicitDefEqProofs := false) (maxSteps := 2000000) (disch := (first | omega | (simp only [St.new_nx, St.set_nx, St.del_nx, St.bump_nx]; done) | (simp only [St.new_nx, St.set_nx, St.del_nx, St.bump_nx]; omega) | fail)) [f9, a136s10, a136r11, f3, f5, g4, g5, hb2, hB2]
    intro m5 hm5
    rcases hp with ⟨_, he', hu, hD'⟩ | ⟨he', hbad⟩
    · subst he'
      have hut : u = rv hw t := by rw [hrv]; exact hu
      have hDok : ∀ D2 : List (Nat × Int × Ty), (∀ x ∈ D2, x ∈ D' ∨ x.2 = (t.n, u)) → Dok hw D2 := by
        intro D2 h2 x hx
        rcases h2 x hx with h | h
        · exact hD' x h
        · rw [h]; simp only; rw [hval, hu]
      simp (implicitDefEqProofs := false) (maxSteps := 2000000) (disch := (first | omega | (simp only [St.new_nx, St.set_nx, St.del_nx, St.bump_nx]; done) | (simp only [St.new_nx, St.set_nx, St.del_nx, St.bump_nx]; omega) | fail)) [a136r12, g4]
      refine go_pure (p53 u) fun mm1 hm1 => ?_
      try simp only [St.new_nx, St.bump_nx, St.set_nx, St.del_nx] at hm1
      simp (implicitDefEqProofs := false) (maxSteps := 2000000) (disch := (first | omega | (simp only [St.new_nx, St.set_nx, St.del_nx, St.bump_nx]; done) | (simp only [St.new_nx, St.set_nx, St.del_nx, St.bump_nx]; omega) | fail))
      by_cases hpu : proper u = true
      · simp (implicitDefEqProofs := false) (maxSteps := 2000000) (disch := (first | omega | (simp only [St.new_nx, St.set_nx, St.del_nx, St.bump_nx]; done) | (simp only [St.new_nx, St.set_nx, St.del_nx, St.bump_nx]; omega) | fail)) [hpu, a136r14, g4, g6, f3, f5, f9]
        refine up_done t.n u D' cD' _ _ _ fun D2 c2 hD2 => ?_
        simp (implicitDefEqProofs := false) (maxSteps := 2000000) (disch := (first | omega | (simp only [St.new_nx, St.set_nx, St.del_nx, St.bump_nx]; done) | (simp only [St.new_nx, St.set_nx, St.del_nx, St.bump_nx]; omega) | fail)) [a136r15, f5]
        intro m6 hm6
        refine ⟨_, wk_refl _, hK u true 0 D2 _ ?_ ⟨?_, ⟨cB', ?_⟩, ⟨c2, ?_⟩, ?_, ?_, ?_, hob, hod, hbd⟩ ?_ (.inl ⟨rfl, (.inl ⟨rfl, rfl, hut, hDok D2 hD2⟩)⟩)⟩
        · simp (implicitDefEqProofs := false) (maxSteps := 2000000) (disch := (first | omega | (simp only [St.new_nx, St.set_nx, St.del_nx, St.bump_nx]; done) | (simp only [St.new_nx, St.set_nx, St.del_nx, St.bump_nx]; omega) | fail))
          omega
        iterate 3 (simp (implicitDefEqProofs := false) (maxSteps := 2000000) (disch := (first | omega | (simp only [St.new_nx, St.set_nx, St.del_nx, St.bump_nx]; done) | (simp only [St.new_nx, St.set_nx, St.del_nx, St.bump_nx]; omega) | fail)) [g4])
        iterate 3 (simp (implicitDefEqProofs := false) (maxSteps := 2000000) (disch := (first | omega | (simp only [St.new_nx, St.set_nx, St.del_nx, St.bump_nx]; done) | (simp only [St.new_nx, St.set_nx, St.del_nx, St.bump_nx]; omega) | fail)); omega)
        · intro q hq hqo
          have := fk q hq hqo
          simp only [List.mem_cons, List.not_mem_nil, or_false, not_or] at hqo
          simp (implicitDefEqProofs := false) (maxSteps := 2000000) (disch := (first | omega | (simp only [St.new_nx, St.set_nx, St.del_nx, St.bump_nx]; done) | (simp only [St.new_nx, St.set_nx, St.del_nx, St.bump_nx]; omega) | fail)) [this]
      · have hpu' : proper (rv hw t) = false := by rw [← hut]; simpa using hpu
        simp (implicitDefEqProofs := false) (maxSteps := 2000000) (disch := (first | omega | (simp only [St.new_nx, St.set_nx, St.del_nx, St.bump_nx]; done) | (simp only [St.new_nx, St.set_nx, St.del_nx, St.bump_nx]; omega) | fail)) [hpu, a136r13, a136r14, g4, g6, f3, f5, f9]
        refine up_done t.n u D' cD' _ _ _ fun D2 c2 hD2 => ?_
        simp (implicitDefEqProofs := false) (maxSteps := 2000000) (disch := (first | omega | (simp only [St.new_nx, St.set_nx, St.del_nx, St.bump_nx]; done) | (simp only [St.new_nx, St.set_nx, St.del_nx, St.bump_nx]; omega) | fail)) [a136r15, f5]
        intro m6 hm6
        refine ⟨_, wk_refl _, hK u true 5 D2 _ ?_ ⟨?_, ⟨cB', ?_⟩, ⟨c2, ?_⟩, ?_, ?_, ?_, hob, hod, hbd⟩ ?_ (.inl ⟨rfl, (.inr ⟨rfl, .inr hpu'⟩)⟩)⟩
        · simp (implicitDefEqProofs := false) (maxSteps := 2000000) (disch := (first | omega | (simp only [St.new_nx, St.set_nx, St.del_nx, St.bump_nx]; done) | (simp only [St.new_nx, St.set_nx, St.del_nx, St.bump_nx]; omega) | fail))
          omega
        iterate 3 (simp (implicitDefEqProofs := false) (maxSteps := 2000000) (disch := (first | omega | (simp only [St.new_nx, St.set_nx, St.del_nx, St.bump_nx]; done) | (simp only [St.new_nx, St.set_nx, St.del_nx, St.bump_nx]; omega) | fail)) [g4])
        iterate 3 (simp (implicitDefEqProofs := false) (maxSteps := 2000000) (disch := (first | omega | (simp only [St.new_nx, St.set_nx, St.del_nx, St.bump_nx]; done) | (simp only [St.new_nx, St.set_nx, St.del_nx, St.bump_nx]; omega) | fail)); omega)
        · intro q hq hqo
          have := fk q hq hqo
          simp only [List.mem_cons, List.not_mem_nil, or_false, not_or] at hqo
          simp (implicitDefEqProofs := false) (maxSteps := 2000000) (disch := (first | omega | (simp only [St.new_nx, St.set_nx, St.del_nx, St.bump_nx]; done) | (simp only [St.new_nx, St.set_nx, St.del_nx, St.bump_nx]; omega) | fail)) [this]
    · subst he'
      have hpu' : proper (rv hw t) = false := by
        rw [hrv]
        rcases hbad with h | h
        · cases h
        · exact h
      simp (implicitDefEqProofs := false) (maxSteps := 2000000) (disch := (first | omega | (simp only [St.new_nx, St.set_nx, St.del_nx, St.bump_nx]; done) | (simp only [St.new_nx, St.set_nx, St.del_nx, St.bump_nx]; omega) | fail)) [a136r12, a136r14, g4, g6, f3, f5, f9]
      refine up_done t.n u D' cD' _ _ _ fun D2 c2 hD2 => ?_
      simp (implicitDefEqProofs := false) (maxSteps := 2000000) (disch := (first | omega | (simp only [St.new_nx, St.set_nx, St.del_nx, St.bump_nx]; done) | (simp only [St.new_nx, St.set_nx, St.del_nx, St.bump_nx]; omega) | fail)) [a136r15, f5]
      intro m6 hm6
      refine ⟨_, wk_refl _, hK u true 5 D2 _ ?_ ⟨?_, ⟨cB', ?_⟩, ⟨c2, ?_⟩, ?_, ?_, ?_, hob, hod, hbd⟩ ?_ (.inl ⟨rfl, (.inr ⟨rfl, .inr hpu'⟩)⟩)⟩
      · simp (implicitDefEqProofs := false) (maxSteps := 2000000) (disch := (first | omega | (simp only [St.new_nx, St.set_nx, St.del_nx, St.bump_nx]; done) | (simp only [St.new_nx, St.set_nx, St.del_nx, St.bump_nx]; omega) | fail))
        omega
      iterate 3 (simp (implicitDefEqProofs := false) (maxSteps := 2000000) (disch := (first | omega | (simp only [St.new_nx, St.set_nx, St.del_nx, St.bump_nx]; done) | (simp only [St.new_nx, St.set_nx, St.del_nx, St.bump_nx]; omega) | fail)) [g4])
      iterate 3 (simp (implicitDefEqProofs := false) (maxSteps := 2000000) (disch := (first | omega | (simp only [St.new_nx, St.set_nx, St.del_nx, St.bump_nx]; done) | (simp only [St.new_nx, St.set_nx, St.del_nx, St.bump_nx]; omega) | fail)); omega)
      · intro q hq hqo
        have := fk q hq hqo
        simp only [List.mem_cons, List.not_mem_nil, or_false, not_or] at hqo
        simp (implicitDefEqProofs := false) (maxSteps := 2000000) (disch := (first | omega | (simp only [St.new_nx, St.set_nx, St.del_nx, St.bump_nx]; done) | (simp only [St.new_nx, St.set_nx, St.del_nx, St.bump_nx]; omega) | fail)) [this]
end
end Ty
end Go.AL
/- Types whose metavariables are resolved: the map. -/
set_option linter.unusedVariables false
set_option linter.unusedSimpArgs false
namespace Go.AL
namespace Ty
open Go Go.Proofs
section
variable {M : List Mt} (hw : WellFounded (dep M))

theorem PostR.up {t x : Ty} {e e' : Int} (hG : LG (rv hw t)) (hx : rv hw x ∈ (rv hw t).args) (h : e' = 5 ∧ (e = 5 ∨ proper (rv hw x) = false)) : e' = 5 ∧ (e = 5 ∨ proper (rv hw t) = false) := by
  refine ⟨h.1, h.2.imp id fun h => ?_⟩
  cases hp : proper (rv hw t) with
  | false => rfl
  | true => rw [hG.up hx hp] at h; cases h

/-- In the loop of the map. -/
def I98r (o oB oD : Nat) (t : Ty) (b : Int) (B : List (Nat × Int)) (s : St) (oT oO oR : Nat) (n : Nat) (g : Env) (s1 : St) : Prop :=
  ∃ (i sz : Nat) (tok : Tok) (us : List Ty) (D' : List (Nat × Int × Ty)) (e' : Int), i ≤ t.args.length ∧ n = t.args.length - i ∧ us.length = i ∧
    g.get 29 = .list 4 .none (t.args.map av) ∧ g.get 30 = .int .i64 t.args.length ∧ g.get 31 = .int .i64 i ∧ g.get 1 = .int .i64 b ∧ g.get 2 = .fn 136 [] [.cptr [.ptr o 0]] ∧ g.get 3 = .ptr oT 0 ∧ g.get 9 = .ptr oO 0 ∧ g.get 6 = .ptr oR 0 ∧
    s1.m oT = some (.box [.int .i64 t.op, .int .i64 t.n, .str t.s, .list 4 .none (t.args.map av)]) ∧ s1.m oO = some (.box [.int .i64 t.op, .int .i64 t.n, .str t.s, .list sz tok (us.map av)]) ∧
    s1.m oR = some (.box [.int .i64 0, .int .i64 0, .str ⟨#[]⟩, .list 0 .full []]) ∧ RS M o oB oD B D' e' s1 ∧ KeptO s [o, oB, oD] s1 ∧ oO < s1.nx ∧
    ((i = 0 ∧ sz = 0 ∧ tok = .full) ∨ (sz = 4 ∧ ∃ q, tok = .own q ∧ s1.m q = some (.spare (i * 4)) ∧ oO < q ∧ q < s1.nx)) ∧
    ((e' = 0 ∧ us = (t.args.take i).map (rv hw) ∧ Dok hw D') ∨ (e' = 5 ∧ proper (rv hw t) = false))

theorem l98r (hlen : M.length ≤ 600) (hM : okM M) {o oB oD : Nat} (t : Ty) (b : Int) (hG : GK M t) (hF : Fit t b) (hop : t.op ≠ 6) (B : List (Nat × Int)) (hB : Busy M B t)
    (ih : ∀ (i : Nat) x, t.args[i]? = some x → C98r hw o oB oD x (b + belw t.op i)) (s : St) (oT oO oR : Nat) (G : Env) (S : St) (D : List (Nat × Int × Ty)) (K : AV → St → Prop)
    (h29 : G.get 29 = .list 4 .none (t.args.map av)) (h30 : G.get 30 = .int .i64 t.args.length) (h31 : G.get 31 = .int .i64 0) (h1 : G.get 1 = .int .i64 b) (h2 : G.get 2 = .fn 136 [] [.cptr [.ptr o 0]])
    (h3 : G.get 3 = .ptr oT 0) (h9 : G.get 9 = .ptr oO 0) (h6 : G.get 6 = .ptr oR 0)
    (hT : S.m oT = some (.box [.int .i64 t.op, .int .i64 t.n, .str t.s, .list 4 .none (t.args.map av)])) (hO : S.m oO = some (.box [.int .i64 t.op, .int .i64 t.n, .str t.s, .list 0 .full []]))
    (hR : S.m oR = some (.box [.int .i64 0, .int .i64 0, .str ⟨#[]⟩, .list 0 .full []])) (hS : RS M o oB oD B D 0 S) (hD : Dok hw D) (hk : KeptO s [o, oB, oD] S) (n0 : o < s.nx ∧ oB < s.nx ∧ oD < s.nx) (n1 : s.nx ≤ oT) (n2 : oT < oR) (n3 : oR < oO) (n4 : oO < S.nx)
    (hK : ∀ u e' D' s', s.nx ≤ s'.nx → RS M o oB oD B D' e' s' → KeptO s [o, oB, oD] s' → PostR hw t 0 u e' D' → K (Ty.av u) s') :
    go (awp Try.prog (.loop Tz.a98l10) (blockQ 0 (seqQ Try.prog ((ACode.reg false Tz.a98r11).seq .ret) (finQ [.cell (true, 6) 4 true] fun r s' => ∃ r', wk r r' ∧ K r' s'))) G S) := by
  have hrv := rv_node hw hop
  have hLr := rv_lg hw hM hG.1
  have hlen2 : t.args.length ≤ 1000000 := wide_len hF.1
  have hb := hF.2
  obtain ⟨no, nB, nD⟩ := n0
  refine go_loop (I98r hw o oB oD t b B s oT oO oR) t.args.length
    ⟨0, 0, .full, [], D, 0, Nat.zero_le _, by simp, rfl, h29, h30, h31, h1, h2, h3, h9, h6, hT, by simpa using hO, hR, hS, hk, n4, .inl ⟨rfl, rfl, rfl⟩, .inl ⟨rfl, by simp, hD⟩⟩ ?_
  clear h29 h30 h31 h1 h2 h3 h9 h6 hT hO hR hk n4 hS hD
  rintro n g s1 ⟨i, sz, tok, us, D1, e1, hi, rfl, hus, h29, h30, h31, h1, h2, h3, h9, h6, hT, hO, hR, hS, hk, n4, htok, hres⟩
  by_cases hlt : i < t.args.length
  · have hx : t.args[i]? = some t.args[i] := by simp [hlt]
    have hlt' : (i : Int) < t.args.length := by omega
    have w2 : IntKind.i64.wrap ((i : Int) + 1) = ((i + 1 : Nat) : Int) := by rw [wrap64 (by omega) (by omega)]; omega
    have hbw := belw_bound t.op i
    have w1 : IntKind.i64.wrap (b + belw t.op i) = b + belw t.op i := wrap64 (by omega) (by omega)
    have hPre : PreR hw e1 D1 := by
      rcases hres with ⟨h, _, h'⟩ | ⟨h, _⟩
      · exact .inl ⟨h, h'⟩
      · exact .inr h
    have hBx : Busy M B t.args[i] := fun x hx k hk => hB x hx k ((occ_eq _ _).2 (.inr ⟨_, List.getElem_mem hlt, hk⟩))
    simp (implicitDefEqProofs := false) (maxSteps := 2000000) (disch := (first | omega | (simp only [St.new_nx, St.set_nx, St.del_nx, St.bump_nx]; done) | (simp only [St.new_nx, St.set_nx, St.del_nx, St.bump_nx]; omega) | fail)) [Tz.a98l10, Tz.a98r6, Tz.a98r7, Tz.a98r8, h29, h30, h31, h1, h2, h3, h9, h6, hT, hO, hlt', hlt, hx]
    refine pcV_intro (p105 t i) ?_
    simp (implicitDefEqProofs := false) (maxSteps := 2000000) (disch := (first | omega | (simp only [St.new_nx, St.set_nx, St.del_nx, St.bump_nx]; done) | (simp only [St.new_nx, St.set_nx, St.del_nx, St.bump_nx]; omega) | fail)) [w1, h1, h2]
    intro m hm
    refine go_calls (ih i _ hx B D1 e1 _ _ (hS.kept ?_ ?_ ?_ ?_) hPre hBx fun u e' D' s' hn hR' hkk hp => go_of ?_)
    iterate 3 (simp (implicitDefEqProofs := false) (maxSteps := 2000000) (disch := (first | omega | (simp only [St.new_nx, St.set_nx, St.del_nx, St.bump_nx]; done) | (simp only [St.new_nx, St.set_nx, St.del_nx, St.bump_nx]; omega) | fail)))
    · simp (implicitDefEqProofs := false) (maxSteps := 2000000) (disch := (first | omega | (simp only [St.new_nx, St.set_nx, St.del_nx, St.bump_nx]; done) | (simp only [St.new_nx, St.set_nx, St.del_nx, St.bump_nx]; omega) | fail))
      omega
    simp only [St.new_nx, St.bump_nx, St.set_nx, St.del_nx] at hn
    have get : ∀ q, s.nx ≤ q → q < s1.nx → s'.m q = s1.m q := by
      intro q hq1 hq2
      have := hkk q (by simp only [St.new_nx, St.bump_nx, St.set_nx, St.del_nx]; omega) (by simp; omega)
      simp (implicitDefEqProofs := false) (maxSteps := 2000000) (disch := (first | omega | (simp only [St.new_nx, St.set_nx, St.del_nx, St.bump_nx]; done) | (simp only [St.new_nx, St.set_nx, St.del_nx, St.bump_nx]; omega) | fail)) at this
      exact this
    have fT := (get oT n1 (by omega)).trans hT
    have fO := (get oO (by omega) (by omega)).trans hO
    have fR := (get oR (by omega) (by omega)).trans hR
    have fk : KeptO s [o, oB, oD] s' := by
      intro q hq hqo
      have := hkk q (by simp only [St.new_nx, St.bump_nx, St.set_nx, St.del_nx]; omega) hqo
      simp (implicitDefEqProofs := false) (maxSteps := 2000000) (disch := (first | omega | (simp only [St.new_nx, St.set_nx, St.del_nx, St.bump_nx]; done) | (simp only [St.new_nx, St.set_nx, St.del_nx, St.bump_nx]; omega) | fail)) at this
      rw [this]
      exact hk q hq hqo
    have hres' : (e' = 0 ∧ us ++ [u] = (t.args.take (i + 1)).map (rv hw) ∧ Dok hw D') ∨ (e' = 5 ∧ proper (rv hw t) = false) := by
      rcases hp with ⟨he, he', hu, hD'⟩ | ⟨he', hbad⟩
      · rcases hres with ⟨_, h, _⟩ | ⟨h, _⟩
        · refine .inl ⟨he', ?_, hD'⟩
          rw [List.take_succ_eq_append_getElem hlt, h, hu, List.map_append]; rfl
        · rw [he] at h; cases h
      · refine .inr ⟨he', ?_⟩
        rcases hres with ⟨h0, _⟩ | ⟨_, h⟩
        · have hmem : rv hw t.args[i] ∈ (rv hw t).args := by rw [hrv]; exact List.mem_map_of_mem (List.getElem_mem hlt)
          rcases (PostR.up hw hLr hmem ⟨he', hbad⟩).2 with h | h
          · rw [h0] at h; cases h
          · exact h
        · exact h
    clear hkk
    rcases htok with ⟨rfl, rfl, rfl⟩ | ⟨rfl, q, rfl, hq, q1, q2⟩
    · have hus0 : us = [] := List.length_eq_zero_iff.1 hus
      subst hus0
      simp (implicitDefEqProofs := false) (maxSteps := 2000000) (disch := (first | omega | (simp only [St.new_nx, St.set_nx, St.del_nx, St.bump_nx]; done) | (simp only [St.new_nx, St.set_nx, St.del_nx, St.bump_nx]; omega) | fail)) [fO, hO, Tz.a98t8, Tz.a98s8, h9, h31, show IntKind.i64.wrap 1 = 1 from rfl, Tz.a98r9]
      intro m3 hm3
      simp (implicitDefEqProofs := false) (maxSteps := 2000000) (disch := (first | omega | (simp only [St.new_nx, St.set_nx, St.del_nx, St.bump_nx]; done) | (simp only [St.new_nx, St.set_nx, St.del_nx, St.bump_nx]; omega) | fail)) [fO, h31, show IntKind.i64.wrap 1 = 1 from rfl]
      refine go_next (t.args.length - 1) (by omega) ⟨1, 4, .own m3, [u], D', e', by omega, rfl, rfl, ?_, ?_, ?_, ?_, ?_, ?_, ?_, ?_, ?_, ?_, ?_, hR'.kept ?_ ?_ ?_ ?_, ?_, ?_, .inr ⟨rfl, _, rfl, ?_, ?_, ?_⟩, by simpa using hres'⟩
      all_goals (try simp (implicitDefEqProofs := false) (maxSteps := 2000000) (disch := (first | omega | (simp only [St.new_nx, St.set_nx, St.del_nx, St.bump_nx]; done) | (simp only [St.new_nx, St.set_nx, St.del_nx, St.bump_nx]; omega) | fail)) [h29, h30, h31, h1, h2, h3, h9, h6, fT, fO, fR, fk])
      all_goals (try omega)
    · have fq := (get q (by omega) (by omega)).trans hq
      have husl : us.length * 4 = i * 4 := by rw [hus]
      simp (implicitDefEqProofs := false) (maxSteps := 2000000) (disch := (first | omega | (simp only [St.new_nx, St.set_nx, St.del_nx, St.bump_nx]; done) | (simp only [St.new_nx, St.set_nx, St.del_nx, St.bump_nx]; omega) | fail)) [fO, hO, fq, Tz.a98t8, Tz.a98s8, h9, h31, w2, Tz.a98r9, hus]
      intro m3 hm3
      simp (implicitDefEqProofs := false) (maxSteps := 2000000) (disch := (first | omega | (simp only [St.new_nx, St.set_nx, St.del_nx, St.bump_nx]; done) | (simp only [St.new_nx, St.set_nx, St.del_nx, St.bump_nx]; omega) | fail)) [fO, h31, w2]
      refine go_next (t.args.length - (i + 1)) (by omega) ⟨i + 1, 4, .own m3, us ++ [u], D', e', by omega, rfl, by simp [hus], ?_, ?_, ?_, ?_, ?_, ?_, ?_, ?_, ?_, ?_, ?_, hR'.kept ?_ ?_ ?_ ?_, ?_, ?_, .inr ⟨rfl, _, rfl, ?_, ?_, ?_⟩, hres'⟩
      all_goals (try simp (implicitDefEqProofs := false) (maxSteps := 2000000) (disch := (first | omega | (simp only [St.new_nx, St.set_nx, St.del_nx, St.bump_nx]; done) | (simp only [St.new_nx, St.set_nx, St.del_nx, St.bump_nx]; omega) | fail)) [h29, h30, h31, h1, h2, h3, h9, h6, fT, fO, fR, fk, hus])
      all_goals (try omega)
  · have hlt' : ¬ (i : Int) < t.args.length := by omega
    have hie : i = t.args.length := by omega
    simp (implicitDefEqProofs := false) (maxSteps := 2000000) (disch := (first | omega | (simp only [St.new_nx, St.set_nx, St.del_nx, St.bump_nx]; done) | (simp only [St.new_nx, St.set_nx, St.del_nx, St.bump_nx]; omega) | fail)) [Tz.a98l10, Tz.a98r6, Tz.a98r11, h29, h30, h31, h9, h6, hlt', hO, hR]
    refine ⟨(mk t.op t.n t.s us).av, ?_, hK (mk t.op t.n t.s us) e1 D1 _ ?_ (hS.kept ?_ ?_ ?_ ?_) ?_ ?_⟩
    · rw [av_mk]
      rcases htok with ⟨h0, rfl, rfl⟩ | ⟨rfl, q, rfl, _⟩
      · have : us = [] := List.length_eq_zero_iff.1 (by omega)
        subst this
        simp
      · simp
    · simp (implicitDefEqProofs := false) (maxSteps := 2000000) (disch := (first | omega | (simp only [St.new_nx, St.set_nx, St.del_nx, St.bump_nx]; done) | (simp only [St.new_nx, St.set_nx, St.del_nx, St.bump_nx]; omega) | fail))
      omega
    iterate 3 (simp (implicitDefEqProofs := false) (maxSteps := 2000000) (disch := (first | omega | (simp only [St.new_nx, St.set_nx, St.del_nx, St.bump_nx]; done) | (simp only [St.new_nx, St.set_nx, St.del_nx, St.bump_nx]; omega) | fail)))
    · simp (implicitDefEqProofs := false) (maxSteps := 2000000) (disch := (first | omega | (simp only [St.new_nx, St.set_nx, St.del_nx, St.bump_nx]; done) | (simp only [St.new_nx, St.set_nx, St.del_nx, St.bump_nx]; omega) | fail))
    · simp (implicitDefEqProofs := false) (maxSteps := 2000000) (disch := (first | omega | (simp only [St.new_nx, St.set_nx, St.del_nx, St.bump_nx]; done) | (simp only [St.new_nx, St.set_nx, St.del_nx, St.bump_nx]; omega) | fail)) [hk]
    · rcases hres with ⟨he, h, h'⟩ | ⟨he, h⟩
      · refine .inl ⟨rfl, he, ?_, h'⟩
        rw [hie, List.take_length] at h
        rw [hrv, h]
      · exact .inr ⟨he, .inr h⟩

theorem p98r (hlen : M.length ≤ 600) (hM : okM M) {o oB oD : Nat} (t : Ty) : ∀ b, GK M t → Fit t b → (∀ k v, occ k t → vl M k = some v → C123r hw o oB oD v) → C98r hw o oB oD t b := by
  induction t using Ty.ind with
  | h t ih =>
    intro b hG hF hQ B D e s K hR hP hB hK
    refine ACalls.res (fun_sound mixed Try.func98 Try.call98 Tz.c98 rfl (awpFun_go _ _ _ _ ?_))
    have h1 := hR.lo
    have h2 := hR.lb
    have h3 := hR.ld
    simp (implicitDefEqProofs := false) (maxSteps := 2000000) (disch := (first | omega | (simp only [St.new_nx, St.set_nx, St.del_nx, St.bump_nx]; done) | (simp only [St.new_nx, St.set_nx, St.del_nx, St.bump_nx]; omega) | fail)) [Tz.a98, Tz.a98b, Tz.a98r0, Tz.a98r1]
    refine go_calls (p136r hw b hlen hG (fun ho v hv => hQ t.n v ((occ_eq _ _).2 (.inl ⟨ho, rfl⟩)) hv) B D e _ _ (hR.kept ?_ ?_ ?_ ?_) hP hB fun u ok e' D' s' hn hR' hkk hp => go_of ?_)
    iterate 3 (simp (implicitDefEqProofs := false) (maxSteps := 2000000) (disch := (first | omega | (simp only [St.new_nx, St.set_nx, St.del_nx, St.bump_nx]; done) | (simp only [St.new_nx, St.set_nx, St.del_nx, St.bump_nx]; omega) | fail)))
    · simp (implicitDefEqProofs := false) (maxSteps := 2000000) (disch := (first | omega | (simp only [St.new_nx, St.set_nx, St.del_nx, St.bump_nx]; done) | (simp only [St.new_nx, St.set_nx, St.del_nx, St.bump_nx]; omega) | fail))
      omega
    simp only [St.new_nx, St.bump_nx, St.set_nx, St.del_nx] at hn
    have f3 := hkk s.nx (by simp only [St.new_nx, St.bump_nx, St.set_nx, St.del_nx]; omega) (by simp; omega)
    have f6 := hkk (s.nx + 1) (by simp only [St.new_nx, St.bump_nx, St.set_nx, St.del_nx]; omega) (by simp; omega)
    simp (implicitDefEqProofs := false) (maxSteps := 2000000) (disch := (first | omega | (simp only [St.new_nx, St.set_nx, St.del_nx, St.bump_nx]; done) | (simp only [St.new_nx, St.set_nx, St.del_nx, St.bump_nx]; omega) | fail)) at f3
    simp (implicitDefEqProofs := false) (maxSteps := 2000000) (disch := (first | omega | (simp only [St.new_nx, St.set_nx, St.del_nx, St.bump_nx]; done) | (simp only [St.new_nx, St.set_nx, St.del_nx, St.bump_nx]; omega) | fail)) at f6
    have fk : KeptO s [o, oB, oD] s' := by
      intro q hq hqo
      have := hkk q (by simp only [St.new_nx, St.bump_nx, St.set_nx, St.del_nx]; omega) hqo
      simp (implicitDefEqProofs := false) (maxSteps := 2000000) (disch := (first | omega | (simp only [St.new_nx, St.set_nx, St.del_nx, St.bump_nx]; done) | (simp only [St.new_nx, St.set_nx, St.del_nx, St.bump_nx]; omega) | fail)) at this
      exact this
    clear hkk
    rcases hp with ⟨rfl, hp⟩ | ⟨rfl, hop, rfl, rfl, hD'⟩
    · simp (implicitDefEqProofs := false) (maxSteps := 2000000) (disch := (first | omega | (simp only [St.new_nx, St.set_nx, St.del_nx, St.bump_nx]; done) | (simp only [St.new_nx, St.set_nx, St.del_nx, St.bump_nx]; omega) | fail)) [Tz.a98r2, Tz.a98r3, f3, f6]
      refine ⟨_, wk_refl _, hK u e' D' _ ?_ (hR'.kept ?_ ?_ ?_ ?_) ?_ hp⟩
      · simp (implicitDefEqProofs := false) (maxSteps := 2000000) (disch := (first | omega | (simp only [St.new_nx, St.set_nx, St.del_nx, St.bump_nx]; done) | (simp only [St.new_nx, St.set_nx, St.del_nx, St.bump_nx]; omega) | fail))
        omega
      iterate 3 (simp (implicitDefEqProofs := false) (maxSteps := 2000000) (disch := (first | omega | (simp only [St.new_nx, St.set_nx, St.del_nx, St.bump_nx]; done) | (simp only [St.new_nx, St.set_nx, St.del_nx, St.bump_nx]; omega) | fail)))
      · simp (implicitDefEqProofs := false) (maxSteps := 2000000) (disch := (first | omega | (simp only [St.new_nx, St.set_nx, St.del_nx, St.bump_nx]; done) | (simp only [St.new_nx, St.set_nx, St.del_nx, St.bump_nx]; omega) | fail))
      · simp (implicitDefEqProofs := false) (maxSteps := 2000000) (disch := (first | omega | (simp only [St.new_nx, St.set_nx, St.del_nx, St.bump_nx]; done) | (simp only [St.new_nx, St.set_nx, St.del_nx, St.bump_nx]; omega) | fail)) [fk]
    · simp (implicitDefEqProofs := false) (maxSteps := 2000000) (disch := (first | omega | (simp only [St.new_nx, St.set_nx, St.del_nx, St.bump_nx]; done) | (simp only [St.new_nx, St.set_nx, St.del_nx, St.bump_nx]; omega) | fail)) [Tz.a98r2, Tz.a98r4, Tz.a98r5, f3, f6]
      refine l98r hw hlen hM t b hG hF hop B hB (fun i x hx => ih x (List.mem_of_getElem? hx) _ ⟨hG.1.args x (List.mem_of_getElem? hx), fun k hk => hG.2 k ((occ_eq _ _).2 (.inr ⟨x, List.mem_of_getElem? hx, hk⟩))⟩ (hF.child i x hx) (fun k v hk hv => hQ k v ((occ_eq _ _).2 (.inr ⟨x, List.mem_of_getElem? hx, hk⟩)) hv))
        s s.nx (s'.nx + 1) (s.nx + 1) _ _ D' K ?_ ?_ ?_ ?_ ?_ ?_ ?_ ?_ ?_ ?_ ?_ (hR'.kept ?_ ?_ ?_ ?_) hD' ?_ ⟨h1, h2, h3⟩ ?_ ?_ ?_ ?_ hK
      all_goals (try simp (implicitDefEqProofs := false) (maxSteps := 2000000) (disch := (first | omega | (simp only [St.new_nx, St.set_nx, St.del_nx, St.bump_nx]; done) | (simp only [St.new_nx, St.set_nx, St.del_nx, St.bump_nx]; omega) | fail)) [f3, f6, fk])
      all_goals omega
/-- All values, from below. -/
theorem c123_all (hlen : M.length ≤ 600) (hM : okM M) (o oB oD : Nat) (n : Int) : ∀ v, vl M n = some v → C123r hw o oB oD v := by
  induction n using hw.induction with
  | _ n ih =>
    intro v hv
    obtain ⟨hg, hgd⟩ := hM.gk hv
    exact p123r hw (p98r hw hlen hM v 0 hg hgd.fit fun k v' hk hv' => ih k ⟨v, hv, hk⟩ v' hv')
theorem q123 (hlen : M.length ≤ 600) (hM : okM M) (o oB oD : Nat) (t : Ty) (hG : GK M t) (hF : Fit t 0) : C123r hw o oB oD t :=
  p123r hw (p98r hw hlen hM t 0 hG hF fun k v hk hv => c123_all hw hlen hM o oB oD k v hv)

theorem p93 (hlen : M.length ≤ 600) (hM : okM M) (t : Ty) (hG : GK M t) (hF : Fit t 0) : PureC Try.prog 93 [.list 10 .none (M.map Mt.av), t.av] (if proper (rv hw t) then .tup [(rv hw t).av, .int .i64 0] else .tup [nul.av, .int .i64 5]) := by
  refine PureC.intro fun s => fun_sound mixed Try.func93 Try.call93 c93 rfl (awpFun_go _ _ _ _ ?_)
  simp (implicitDefEqProofs := false) (maxSteps := 2000000) (disch := (first | omega | (simp only [St.new_nx, St.set_nx, St.del_nx, St.bump_nx]; done) | (simp only [St.new_nx, St.set_nx, St.del_nx, St.bump_nx]; omega) | fail)) [a93, a93b, a93r0, a93r1, a93r2]
  refine go_calls (q123 hw hlen hM (s.nx + 1 + 1 + 1 + 1) (s.nx + 1 + 1) (s.nx + 1 + 1 + 1) t hG hF [] [] 0 _ _ ⟨?_, ⟨0, ?_⟩, ⟨0, ?_⟩, ?_, ?_, ?_, ?_, ?_, ?_⟩ (.inl ⟨rfl, fun x hx => by cases hx⟩) (fun x hx => by cases hx) fun u e' D' s' hn hR' hkk hp => go_of ?_)
  · simp (implicitDefEqProofs := false) (maxSteps := 2000000) (disch := (first | omega | (simp only [St.new_nx, St.set_nx, St.del_nx, St.bump_nx]; done) | (simp only [St.new_nx, St.set_nx, St.del_nx, St.bump_nx]; omega) | fail))
  · simp (implicitDefEqProofs := false) (maxSteps := 2000000) (disch := (first | omega | (simp only [St.new_nx, St.set_nx, St.del_nx, St.bump_nx]; done) | (simp only [St.new_nx, St.set_nx, St.del_nx, St.bump_nx]; omega) | fail)) [encB]
  · simp (implicitDefEqProofs := false) (maxSteps := 2000000) (disch := (first | omega | (simp only [St.new_nx, St.set_nx, St.del_nx, St.bump_nx]; done) | (simp only [St.new_nx, St.set_nx, St.del_nx, St.bump_nx]; omega) | fail)) [encD]
  iterate 3 (simp only [St.new_nx, St.bump_nx, St.set_nx, St.del_nx]; omega)
  iterate 3 (omega)
  simp only [St.new_nx, St.bump_nx, St.set_nx, St.del_nx] at hn
  have f4 := hkk (s.nx + 1) (by simp only [St.new_nx, St.bump_nx, St.set_nx, St.del_nx]; omega) (by simp)
  simp (implicitDefEqProofs := false) (maxSteps := 2000000) (disch := (first | omega | (simp only [St.new_nx, St.set_nx, St.del_nx, St.bump_nx]; done) | (simp only [St.new_nx, St.set_nx, St.del_nx, St.bump_nx]; omega) | fail)) at f4
  have fk : Kept s s' := by
    intro q hq
    have := hkk q (by simp only [St.new_nx, St.bump_nx, St.set_nx, St.del_nx]; omega) (by simp; omega)
    simp (implicitDefEqProofs := false) (maxSteps := 2000000) (disch := (first | omega | (simp only [St.new_nx, St.set_nx, St.del_nx, St.bump_nx]; done) | (simp only [St.new_nx, St.set_nx, St.del_nx, St.bump_nx]; omega) | fail)) at this
    exact this
  clear hkk
  have g4 := hR'.ro
  have g1 := hR'.lo
  rcases hp with ⟨_, rfl, hu, _⟩ | ⟨rfl, hbad⟩
  · subst hu
    simp (implicitDefEqProofs := false) (maxSteps := 2000000) (disch := (first | omega | (simp only [St.new_nx, St.set_nx, St.del_nx, St.bump_nx]; done) | (simp only [St.new_nx, St.set_nx, St.del_nx, St.bump_nx]; omega) | fail)) [a93r3, a93r5, g4, f4]
    have h55 := p55 (rv hw t)
    by_cases hp : proper (rv hw t) = true
    · rw [if_pos hp] at h55
      refine go_pure h55 fun mm1 hm1 => ?_
      try simp only [St.new_nx, St.bump_nx, St.set_nx, St.del_nx] at hm1
      simp (implicitDefEqProofs := false) (maxSteps := 2000000) (disch := (first | omega | (simp only [St.new_nx, St.set_nx, St.del_nx, St.bump_nx]; done) | (simp only [St.new_nx, St.set_nx, St.del_nx, St.bump_nx]; omega) | fail)) [f4, hp, fk]
    · rw [if_neg hp] at h55
      refine go_pure h55 fun mm2 hm2 => ?_
      try simp only [St.new_nx, St.bump_nx, St.set_nx, St.del_nx] at hm2
      simp (implicitDefEqProofs := false) (maxSteps := 2000000) (disch := (first | omega | (simp only [St.new_nx, St.set_nx, St.del_nx, St.bump_nx]; done) | (simp only [St.new_nx, St.set_nx, St.del_nx, St.bump_nx]; omega) | fail)) [f4, hp, fk, nul, av_mk]
  · have hp : proper (rv hw t) = false := by
      rcases hbad with h | h
      · cases h
      · exact h
    simp (implicitDefEqProofs := false) (maxSteps := 2000000) (disch := (first | omega | (simp only [St.new_nx, St.set_nx, St.del_nx, St.bump_nx]; done) | (simp only [St.new_nx, St.set_nx, St.del_nx, St.bump_nx]; omega) | fail)) [a93r3, a93r4, g4, f4, hp, nul, av_mk]
    intro m hm
    exact fk
end
end Ty
end Go.AL
