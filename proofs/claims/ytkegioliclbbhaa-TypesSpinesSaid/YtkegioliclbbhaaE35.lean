import Derived.Test.YtkegioliclbbhaaA17
import Derived.RangeFuncBox
import Derived.RangeFuncLeaves
import Derived.Shelf.Abstract
import Derived.WalkKit
import Derived.OwnWalkIn
import Derived.TacticsInMore
import Derived.LoopNIn
import Derived.LoopIn
import Derived.Test.YtkegioliclbbhaaProg
import Derived.KernelRfl
import Derived.Test.YtkegioliclbbhaaD1
namespace Go.AL.Ty
open Go Go.Proofs Go.RowKit Go.Shelf
attribute [local go_sem] Oper.semAt_some
set_option maxRecDepth 100000 in
set_option maxHeartbeats 2000000 in
theorem back_in (F : Fence) (n : Nat) (h7 : F.fn 127) (hro : F.round = none) (hn : 1 ≤ n) (l b off len cap Bb Bo : Nat) (cs : Nat → Value) (hlen : len ≤ 9223372036854775807) (Kp : World → World → Prop) (hKt : ∀ {A B C : World}, Kp A B → Kp B C → Kp A C) (hKr : ∀ A, Kp A A)
    (J Jx : List {k : Nat // k < len} → World → Prop)
    (hY : ∀ pre (x : {k : Nat // k < len}) W, J pre W → pre.length < len → YieldAt F (n - 1) Try.prog l #[.int .i64 ((len - 1 - x.1 : Nat) : Int), .agg #[cs ((len - 1 - x.1) * 4), cs ((len - 1 - x.1) * 4 + 1), cs ((len - 1 - x.1) * 4 + 2), cs ((len - 1 - x.1) * 4 + 3)]] W fun e W' =>
      (e = .returned (.bool true) ∧ J (pre ++ [x]) W' ∧ Kp W W') ∨ (e = .returned (.bool false) ∧ Jx (pre ++ [x]) W'))
    (W : World) (hBs : ∀ W', Kp W W' → W'.cell? ⟨Bb, Bo, none⟩ = some (.slice (some ⟨b, off, none⟩) len cap)) (hc : ∀ W' j, Kp W W' → j < len * 4 → W'.cell? ⟨b, off + j, none⟩ = some (cs j)) (h0 : J [] W) :
    CallsIn F n Try.prog 127 #[.func (.yield l) #[] #[], .pointer (some ⟨Bb, Bo, none⟩)] W fun e W' => (∃ v, e = .returned v) ∧
      ((∃ ys : List {k : Nat // k < len}, ys.map (·.1) = List.range len ∧ J ys W') ∨ (∃ pre, True ∧ Jx pre W')) := by
  refine callsIn_of_wp Try.func127 rfl h7 ?_ hro
  have hB0 := hBs W (hKr W)
  simp only [show Try.f127.ntmps = 19 from rfl, List.size_toArray, List.length_cons, List.length_nil, Nat.reduceAdd, Nat.reduceSub, Array.replicate_succ, Array.replicate_zero, List.push_toArray, List.append_toArray, List.nil_append, List.cons_append]
  gi_wp2
  gi_loopw [3] (fun i wr => ∃ (k : Nat) (pre : List {k : Nat // k < len}), k ≤ len ∧ i = .int .i64 ((len : Int) - 1 - k) ∧ pre.map (·.1) = List.range k ∧ J pre wr ∧ Kp W wr)
    (fun i _ => (intOf i + 1).toNat)
  case atStart => exact ⟨0, [], Nat.zero_le _, by simp, rfl, h0, hKr W⟩
  case round =>
    obtain ⟨k, pre, hk, rfl, hp, hJs, hnx⟩ := hrel
    have hB1 := hBs wr hnx
    by_cases hlt : k < len
    · obtain ⟨fn, tmps, assign, body, hy, hR⟩ := hY pre ⟨k, hlt⟩ wr hJs (by rw [← List.length_map (·.1), hp]; simpa using hlt)
      dsimp only at hy
      have hl0 := hc wr ((len - 1 - k) * 4) hnx (by omega)
      have hl1 := hc wr ((len - 1 - k) * 4 + 1) hnx (by omega)
      have hl2 := hc wr ((len - 1 - k) * 4 + 2) hnx (by omega)
      have hl3 := hc wr ((len - 1 - k) * 4 + 3) hnx (by omega)
      simp only [← Nat.add_assoc] at hl1 hl2 hl3
      have e1 : ((len - 1 - k : Nat) : Int) = (len : Int) - 1 - k := by omega
      rw [e1] at hy
      have e2 : (0 : Int) ≤ (len : Int) - 1 - k := by omega
      have e3 : ((len : Int) - 1 - k).toNat = len - 1 - k := by omega
      gi_wp2
      refine hR.mono ?_
      rintro e W3 (⟨rfl, hJ3, hk3⟩ | ⟨rfl, hJx3⟩)
      · gi_wp2
        go_roundw
        case rel => exact ⟨k + 1, pre ++ [⟨k, hlt⟩], by omega, by simp; omega, by simp [hp, List.range_succ], hJ3, hKt hnx hk3⟩
        case measure => simp [intOf]; omega
      · gi_wp2
        refine bodyPost_ret (results_none rfl _ _ _) rfl ?_
        exact ⟨⟨_, rfl⟩, .inr ⟨_, trivial, hJx3⟩⟩
    · obtain rfl : k = len := by omega
      have e2 : ¬ ((0 : Int) ≤ (k : Int) - 1 - k) := by omega
      gi_wp2
      go_end0
      exact ⟨⟨_, rfl⟩, .inl ⟨_, hp, hJs⟩⟩

set_option maxRecDepth 100000 in
set_option maxHeartbeats 2000000 in
theorem back_nil (F : Fence) (n : Nat) (h7 : F.fn 127) (hro : F.round = none) (l Bb Bo cap : Nat) (ao : Option Addr) {β : Type} (J : List β → World → Prop) (W : World) (hBs : W.cell? ⟨Bb, Bo, none⟩ = some (.slice ao 0 cap)) (h0 : J [] W) :
    CallsIn F n Try.prog 127 #[.func (.yield l) #[] #[], .pointer (some ⟨Bb, Bo, none⟩)] W fun e W' => (∃ v, e = .returned v) ∧ J [] W' := by
  refine callsIn_of_wp Try.func127 rfl h7 ?_ hro
  simp only [show Try.f127.ntmps = 19 from rfl, List.size_toArray, List.length_cons, List.length_nil, Nat.reduceAdd, Nat.reduceSub, Array.replicate_succ, Array.replicate_zero, List.push_toArray, List.append_toArray, List.nil_append, List.cons_append]
  gi_wp2
  gi_loopw [3] (fun i wr => i = .int .i64 (-1) ∧ J [] wr) (fun _ _ => 0)
  case atStart => exact ⟨rfl, h0⟩
  case round =>
    obtain ⟨rfl, hJs⟩ := hrel
    gi_wp2
    go_end0
    exact ⟨⟨_, rfl⟩, hJs⟩
end Go.AL.Ty
namespace Go.AL.Ty
open Go.Proofs

/- slices.Backward[[]damask/api.Type,damask/api.Type] -/
def a113r0 : List AOper :=
  [⟨some (true, 1), .box (.g 0), none, []⟩,
   ⟨some (true, 2), .mv (.c .nilfn), none, []⟩]
def a113r1 : List AOper :=
  [⟨some (false, 3), .mkfn 127 [] [(.g 1)], none, []⟩,
   ⟨some (true, 2), .mv (.l 3), none, []⟩]
def a113b : ACode :=
  (.seq (.seq (.reg false a113r0) (.frz 1)) (.seq (.reg false a113r1) .ret))
def a113 : AFun := ⟨1, 4, a113b, [.tmp (true, 2)]⟩
theorem c113 : compileFun Try.prog [0, 1, 2, 1000000000001] Try.f113 = some a113 := by kernel_rfl

end Go.AL.Ty
/- types.Funs: a range over slices.Backward. -/
set_option linter.unusedVariables false
set_option linter.unusedSimpArgs false
namespace Go.AL.Ty
open Go Go.Proofs Go.RowKit Go.Shelf

theorem p113 (xs : List AV) : PureC Try.prog 113 [.list 4 .none xs] (.fn 127 [] [.cptr [.list 4 .none xs]]) := by
  refine PureC.intro fun s => fun_sound mixed Try.func113 Try.call113 c113 rfl (awpFun_go _ _ _ _ ?_)
  simp (implicitDefEqProofs := false) (maxSteps := 2000000) (disch := (first | omega | (simp only [St.new_nx, St.set_nx, St.del_nx, St.bump_nx]; done) | (simp only [St.new_nx, St.set_nx, St.del_nx, St.bump_nx]; omega) | fail)) [a113, a113b, a113r0, a113r1]

def a72r0 : List AOper :=
  [⟨some (true, 3), .box (.g 1), none, []⟩,
   ⟨some (true, 4), .alloc [(.int .i64 0), (.int .i64 0), (.str ⟨#[]⟩), (.list 0 .full [])], none, []⟩]
def a72r1 : List AOper :=
  [⟨some (true, 7), .mv (.g 0), none, []⟩,
   ⟨some (true, 8), .call false (.c (.fn 113 [] [])) [(.g 7)], none, []⟩]
def a72r3 : List AOper :=
  [⟨some (true, 11), .load 4 true (.g 6), none, []⟩,
   ⟨some (true, 12), .load 4 true (.g 3), none, []⟩,
   ⟨some (true, 13), .call false (.c (.fn 114 [] [])) [(.g 11), (.g 12)], none, []⟩,
   ⟨none, .store 4 (.g 3) (.g 13), none, []⟩]
def a72r4 : List AOper :=
  [⟨some (true, 14), .load 4 true (.g 3), none, []⟩,
   ⟨none, .store 4 (.g 4) (.g 14), none, []⟩]

def boxT (t : Ty) : AObj := .box [.int .i64 t.op, .int .i64 t.n, .str t.s, .list 4 .none (t.args.map av)]
def R0 (l : List Ty) (t : Ty) (s : St) (g : Env) (s1 : St) : Prop :=
  g.get 3 = .ptr s.nx 0 ∧ g.get 4 = .ptr (s.nx + 1) 0 ∧ g.get 8 = .fn 127 [] [.cptr [.list 4 .none (l.map av)]] ∧ s1.m s.nx = some (boxT t) ∧
    s1.m (s.nx + 1) = some (.box [.int .i64 0, .int .i64 0, .str ⟨#[]⟩, .list 0 .full []]) ∧ s.nx + 1 < s1.nx ∧ Kept s s1
def onN (R : Env → St → Prop) : AExit → Env → St → Prop
  | .normal, g, s => R g s
  | _, _, _ => False
@[simp] theorem onN_normal (R : Env → St → Prop) (g : Env) (s : St) : onN R .normal g s = R g s := rfl

theorem w01 (l : List Ty) (t : Ty) (s : St) : awp Try.prog (.seq (.reg false a72r0) (.reg false a72r1)) (onN (R0 l t s)) (argEnv 0 [.list 4 .none (l.map av), t.av]) s := by
  show go _
  simp (implicitDefEqProofs := false) (maxSteps := 2000000) (disch := (first | omega | (simp only [St.new_nx, St.set_nx, St.del_nx, St.bump_nx]; done) | (simp only [St.new_nx, St.set_nx, St.del_nx, St.bump_nx]; omega) | fail)) [a72r0, a72r1]
  refine go_pure (p113 (l.map av)) fun mm1 hm1 => ?_
  try simp only [St.new_nx, St.bump_nx, St.set_nx, St.del_nx] at hm1
  simp (implicitDefEqProofs := false) (maxSteps := 2000000) (disch := (first | omega | (simp only [St.new_nx, St.set_nx, St.del_nx, St.bump_nx]; done) | (simp only [St.new_nx, St.set_nx, St.del_nx, St.bump_nx]; omega) | fail)) [R0, boxT]
  show _ < _
  omega
theorem w3 (x r : Ty) (g : Env) (s : St) (o : Nat) (h6 : g.get 6 = .cptr [.int .i64 x.op, .int .i64 x.n, .str x.s, .list 4 .none (x.args.map av)]) (h3 : g.get 3 = .ptr o 0) (ho : s.m o = some (boxT r)) :
    awp Try.prog (.reg false a72r3) (onN fun _ s1 => s.nx ≤ s1.nx ∧ s1.m o = some (boxT (arrow x r)) ∧ ∀ q, q ≠ o → s1.m q = s.m q) g s := by
  show go _
  rw [boxT] at ho
  simp (implicitDefEqProofs := false) (maxSteps := 2000000) (disch := (first | omega | (simp only [St.new_nx, St.set_nx, St.del_nx, St.bump_nx]; done) | (simp only [St.new_nx, St.set_nx, St.del_nx, St.bump_nx]; omega) | fail)) [a72r3, h6, h3, ho]
  generalize hz : arrow x r = z
  have hc := p114 x r
  rw [hz] at hc
  refine go_pure hc fun mm2 hm2 => ?_
  try simp only [St.new_nx, St.bump_nx, St.set_nx, St.del_nx] at hm2
  simp (implicitDefEqProofs := false) (maxSteps := 2000000) (disch := (first | omega | (simp only [St.new_nx, St.set_nx, St.del_nx, St.bump_nx]; done) | (simp only [St.new_nx, St.set_nx, St.del_nx, St.bump_nx]; omega) | fail)) [h3, ho, av_mk, boxT]
  refine ⟨by omega, fun q hq => ?_⟩
  simp [St.set, hq]

theorem w4 (r : Ty) (g : Env) (s : St) (o o' : Nat) (hne : o ≠ o') (h3 : g.get 3 = .ptr o 0) (h4 : g.get 4 = .ptr o' 0) (ho : s.m o = some (boxT r)) (ho' : s.m o' = some (.box [.int .i64 0, .int .i64 0, .str ⟨#[]⟩, .list 0 .full []])) :
    awp Try.prog (.reg false a72r4) (onN fun g s1 => g.get 4 = .ptr o' 0 ∧ s.nx ≤ s1.nx ∧ s1.m o' = some (boxT r) ∧ ∀ q, q ≠ o' → s1.m q = s.m q) g s := by
  show go _
  rw [boxT] at ho
  simp (implicitDefEqProofs := false) (maxSteps := 2000000) (disch := (first | omega | (simp only [St.new_nx, St.set_nx, St.del_nx, St.bump_nx]; done) | (simp only [St.new_nx, St.set_nx, St.del_nx, St.bump_nx]; omega) | fail)) [a72r4, h4, h3, ho, ho', av_mk, boxT]
  intro q hq
  simp [St.set, hq]

theorem arr15 {α : Type} (a : Array α) (h : a.size = 15) : ∃ v0 v1 v2 v3 v4 v5 v6 v7 v8 v9 v10 v11 v12 v13 v14, a = #[v0, v1, v2, v3, v4, v5, v6, v7, v8, v9, v10, v11, v12, v13, v14] := by
  obtain ⟨l⟩ := a
  simp only [List.size_toArray] at h
  iterate 15 (rcases l with _ | ⟨_, l⟩; · simp at h)
  rcases l with _ | ⟨_, l⟩
  · exact ⟨_, _, _, _, _, _, _, _, _, _, _, _, _, _, _, rfl⟩
  · simp at h

def acc (l : List Ty) (t : Ty) (ks : List Nat) : Ty := ks.foldl (fun r k => arrow (l.getD (l.length - 1 - k) t) r) t
theorem acc_all (l : List Ty) (t : Ty) : acc l t (List.range l.length) = funs l t := by
  have h : (List.range l.length).map (fun k => l.getD (l.length - 1 - k) t) = l.reverse := by
    apply List.ext_getElem
    · simp
    · intro i h1 h2
      simp at h1
      simp [List.getElem_reverse]
      rw [List.getElem?_eq_getElem (by omega)]
      rfl
  rw [acc, funs, ← List.foldl_reverse, ← h, List.foldl_map]
end Go.AL.Ty
/- types.Funs, its contract. -/
set_option linter.unusedVariables false
set_option linter.unusedSimpArgs false
namespace Go.AL.Ty
open Go Go.Proofs Go.RowKit Go.Shelf
attribute [local go_sem] Oper.semAt_some

section
variable (l : List Ty) (t : Ty) (s0 : St) (ι₁ : Nat → Option Nat) (s₁ : St) (w₁ : World) (cs : Nat → Value) (tm : Array Value)

/-- Between two rounds. -/
def IF (pre : List {k : Nat // k < l.length}) (W : World) : Prop :=
  ∃ (ι : Nat → Option Nat) (s : St), Step ι₁ s₁.m w₁ ι s.m W ∧ WF ι s.m W ∧ Bnd ι s.m s.nx ∧ Inc ι₁ ι s₁.nx s.nx ∧ (∀ q ob, s.m q = some ob → q < s₁.nx) ∧
    s.m s0.nx = some (boxT (acc l t (pre.map (·.1)))) ∧ ∀ q, q < s₁.nx → q ≠ s0.nx → s.m q = s₁.m q

def elV (j : Nat) : Value := .agg #[cs (j * 4), cs (j * 4 + 1), cs (j * 4 + 2), cs (j * 4 + 3)]
/-- Behind the assignment of the loop variable. -/
def AF (k : {k : Nat // k < l.length}) (a' : Act) (W : World) : Prop :=
  ∃ Bx, w₁.heap.size ≤ Bx ∧ Bx < W.heap.size ∧ (∀ j, j < 4 → W.cell? ⟨Bx, j, none⟩ = some (cs ((l.length - 1 - k.1) * 4 + j))) ∧
    a' = { tmps := ((tm.setIfInBounds 9 (.int .i64 ((l.length - 1 - k.1 : Nat) : Int))).setIfInBounds 10 (elV cs (l.length - 1 - k.1))).setIfInBounds 6 (.pointer (some ⟨Bx, 0, none⟩)), defers := [] }

variable {l t s0 ι₁ s₁ w₁ cs tm}
theorem IF.blt (hwf : WF ι₁ s₁.m w₁) {ι : Nat → Option Nat} {s : St} (hinc : Inc ι₁ ι s₁.nx s.nx) (hd : ∀ q ob, s.m q = some ob → q < s₁.nx) {b : Nat} (h : Blk ι s.m b) : b < w₁.heap.size := by
  obtain ⟨q, ob, h1, h2⟩ := h
  exact hwf.blt q b (hinc.2 q b h2 (hd q ob h1))
theorem IF.own (hwf : WF ι₁ s₁.m w₁) : OwnFrom w₁.heap.size (IF l t s0 ι₁ s₁ w₁) := by
  rintro pre W W' row ⟨ι, s, h1, h2, h3, h4, h5, h6, h7⟩ hg hr
  have hgr : Grown s.m ι W W' row := ⟨hg, fun r e => ⟨(hr r e).2, fun hb => by have := IF.blt hwf h4 h5 hb; have := (hr r e).1; omega⟩⟩
  exact ⟨ι, s, hgr.step h1 fun r e => (hr r e).1, hgr.wf h2, h3, h4, h5, h6, h7⟩
theorem AF.own (k : {k : Nat // k < l.length}) (a' : Act) : OwnFrom w₁.heap.size (fun (_ : Unit) W => AF l w₁ cs tm k a' W) := by
  rintro _ W W' row ⟨Bx, h1, h2, h3, h4⟩ hg hr
  refine ⟨Bx, h1, Nat.lt_of_lt_of_le h2 hg.size, fun j hj => ?_, h4⟩
  refine (World.cell?_of_block (hg.block Bx h2 fun e => ?_)).trans (h3 j hj)
  obtain ⟨_, o, ho, hn⟩ := hr Bx e.symm
  have := h3 j hj
  cases o <;> simp [World.cell?, ho, Obj.isCells] at this hn
end

/-- What a round keeps: cells that may not be written. -/
def KpF (F : Nat → Nat → Prop) (n₀ : Nat) (A B : World) : Prop := ∀ b off, b < n₀ → ¬ F b off → B.cell? ⟨b, off, none⟩ = A.cell? ⟨b, off, none⟩
theorem KpF.trans {F : Nat → Nat → Prop} {n₀ : Nat} {A B C : World} (h : KpF F n₀ A B) (k : KpF F n₀ B C) : KpF F n₀ A C := fun b off hb hf => (k b off hb hf).trans (h b off hb hf)
theorem KpF.put {F : Nat → Nat → Prop} {w : World} (W : World) (l : Nat) (o o' : Obj) (hl : w.heap.size ≤ l) (h : W.heap[l]? = some o) : KpF F w.heap.size W (W.putObj l o') := fun b off hb hf =>
  World.cell?_of_block ((grownBy_putObj' W l o').block b (by have := (Array.getElem?_eq_some_iff.1 h).1; omega) (fun e => by cases e; omega))
end Go.AL.Ty
/- types.Funs, its contract: the loop. -/
set_option linter.unusedVariables false
set_option linter.unusedSimpArgs false
namespace Go.AL.Ty
open Go Go.Proofs Go.RowKit Go.Shelf
attribute [local go_sem] Oper.semAt_some


theorem back_stops {n len Bb Bo : Nat} {w₁ : World} {F : Nat → Nat → Prop} {cs : Nat → Value} {ao : Option Addr} {cap : Nat} (hn : 1 ≤ n) (hlen : len ≤ 9223372036854775807) (hb : Bb < w₁.heap.size) (hF : ¬ F Bb Bo)
    (hB : w₁.cell? ⟨Bb, Bo, none⟩ = some (.slice ao len cap))
    (hc : ∀ j, j < len * 4 → ∃ ad : Addr, ao = some ad ∧ ad.spot = none ∧ w₁.cell? ⟨ad.block, ad.off + j, none⟩ = some (cs j) ∧ ¬ F ad.block (ad.off + j)) :
    SeqStopsK Fence.wide n Try.prog 127 #[.pointer (some ⟨Bb, Bo, none⟩)] (fun x : {k : Nat // k < len} => #[.int .i64 ((len - 1 - x.1 : Nat) : Int), elV cs (len - 1 - x.1)]) (KpF F w₁.heap.size)
      (fun ys => ys.map (·.1) = List.range len) (fun _ => True) len w₁ := fun lo J Jx W hW _ _ hY h0 => by
  have hcell : ∀ b off v, w₁.cell? ⟨b, off, none⟩ = some v → W.cell? ⟨b, off, none⟩ = some v := fun b off v h => (hW.cell (p := ⟨b, off, none⟩) (lt_of_cell h)).trans h
  by_cases h0' : len = 0
  · subst h0'
    exact (back_nil Fence.wide n trivial rfl lo Bb Bo cap ao J W (hcell _ _ _ hB) h0).mono fun e W' ⟨he, hj⟩ => ⟨he, .inl ⟨[], rfl, hj⟩⟩
  · obtain ⟨ad, rfl, hs, _⟩ := hc 0 (by omega)
    obtain ⟨b, off, sp⟩ := ad
    simp only at hs
    subst hs
    refine (back_in Fence.wide n trivial rfl hn lo b off len cap Bb Bo cs hlen (KpF F w₁.heap.size) KpF.trans (fun _ _ _ _ _ => rfl) J Jx hY W (fun W' hk => ?_) (fun W' j hk hj => ?_) h0).mono fun e W' h => h
    · exact (hk Bb Bo hb hF).trans (hcell _ _ _ hB)
    · obtain ⟨ad', h1, h2, h3, h4⟩ := hc j hj
      cases h1
      exact (hk b (off + j) (lt_of_cell h3) h4).trans (hcell _ _ _ h3)
end Go.AL.Ty
/- types.Funs, its contract: the walk. -/
set_option linter.unusedVariables false
set_option linter.unusedSimpArgs false
namespace Go.AL.Ty
open Go Go.Proofs Go.RowKit Go.Shelf
attribute [local go_sem] Oper.semAt_some

theorem rep_slice {ι : Nat → Option Nat} {F : Nat → Nat → Prop} {w : World} {v : Value} {l : List AV} {tok : Tok} (h : Rep ι F w v (.list 4 tok l)) : ∃ (ao : Option Addr) (len cap : Nat) (cs : Nat → Value), v = .slice ao len cap ∧ len = l.length ∧
    (∀ j, j < len * 4 → ∃ ad : Addr, ao = some ad ∧ ad.spot = none ∧ w.cell? ⟨ad.block, ad.off + j, none⟩ = some (cs j) ∧ ¬ F ad.block (ad.off + j) ∧ (cs j).oneCell' = true) ∧ ∀ j x, (flat l)[j]? = some x → Rep ι F w (cs j) x := by
  cases h with
  | @list a len cap sz t xs cs hlen hcap hsz ht hnone hc hr =>
    exact ⟨_, _, _, cs, rfl, hlen, hc, hr⟩

theorem rep_clo {ι : Nat → Option Nat} {F : Nat → Nat → Prop} {w : World} {v : Value} {x : AV} (h : Rep ι F w v (.fn 127 [] [.cptr [x]])) : ∃ b o u, v = .func (.func 127) #[] #[.pointer (some ⟨b, o, none⟩)] ∧ w.cell? ⟨b, o, none⟩ = some u ∧ ¬ F b o ∧ Rep ι F w u x := by
  cases h with
  | @fn f fs cs lf lc hl hl' hf hr =>
    obtain rfl : fs = #[] := Array.eq_empty_of_size_eq_zero (by simpa using hl)
    obtain ⟨u, rfl⟩ : ∃ u, cs = #[u] := by
      obtain ⟨l⟩ := cs
      match l, hl' with
      | [u], _ => exact ⟨u, rfl⟩
    have := hr 0 u _ rfl rfl
    cases this with
    | @cptr a l cs' ha hc hr' =>
      obtain ⟨h1, h2, h3⟩ := hc 0 (by simp)
      obtain ⟨b, o, sp⟩ := a
      simp only at ha
      subst ha
      exact ⟨b, o, _, rfl, h1, h2, hr' 0 _ rfl⟩

def cellsT (t : Ty) : List AV := [.int .i64 t.op, .int .i64 t.n, .str t.s, .list 4 .none (t.args.map av)]
theorem cell_new (W : World) (vs : Array Value) (e : TypeId) (j : Nat) : (W.alloc (.cells vs e)).cell? ⟨W.heap.size, j, none⟩ = vs[j]? := by
  simp only [World.cell?, World.alloc_heap_new]
  rfl
theorem elem_cells {l : List Ty} {ι : Nat → Option Nat} {F : Nat → Nat → Prop} {w : World} {cs : Nat → Value} (h : ∀ j x, (flat (l.map av))[j]? = some x → Rep ι F w (cs j) x) (i : Nat) (hi : i < l.length) (j : Nat) (x : AV) (hx : (cellsT l[i])[j]? = some x) : Rep ι F w (cs (i * 4 + j)) x := by
  have hj : j < 4 := by have := (List.getElem?_eq_some_iff.1 hx).1; simpa [cellsT] using this
  refine h _ _ ?_
  rw [flat_get (sz := 4) (fun y hy => by obtain ⟨u, _, rfl⟩ := List.mem_map.1 hy; rw [av_cells]; rfl) i j hj]
  simp only [List.getElem?_map, List.getElem?_eq_getElem hi, Option.map_some, Option.bind_some, av_cells]
  exact hx
theorem cells_form {l : List Ty} {ι : Nat → Option Nat} {F : Nat → Nat → Prop} {w : World} {cs : Nat → Value} (h : ∀ j x, (flat (l.map av))[j]? = some x → Rep ι F w (cs j) x) (i : Nat) (hi : i < l.length) :
    ∃ a n s p len cap, cs (i * 4) = .int .i64 a ∧ cs (i * 4 + 1) = .int .i64 n ∧ cs (i * 4 + 2) = .string s ∧ cs (i * 4 + 3) = .slice p len cap := by
  have h0 := elem_cells h i hi 0 _ rfl
  have h1 := elem_cells h i hi 1 _ rfl
  have h2 := elem_cells h i hi 2 _ rfl
  have h3 := elem_cells h i hi 3 _ rfl
  simp only [Nat.add_zero] at h0
  cases hv0 : cs (i * 4) <;> rw [hv0] at h0 <;> try (cases h0; done)
  cases hv1 : cs (i * 4 + 1) <;> rw [hv1] at h1 <;> try (cases h1; done)
  cases hv2 : cs (i * 4 + 2) <;> rw [hv2] at h2 <;> try (cases h2; done)
  cases hv3 : cs (i * 4 + 3) <;> rw [hv3] at h3 <;> try (cases h3; done)
  cases h0; cases h1; cases h2; cases h3
  exact ⟨_, _, _, _, _, _, rfl, rfl, rfl, rfl⟩

set_option maxRecDepth 100000 in
set_option maxHeartbeats 4000000 in
theorem p72 (l : List Ty) (t : Ty) (hlen : l.length ≤ 600) : PureC Try.prog 72 [.list 4 .none (l.map av), t.av] (funs l t).av := by
  refine PureC.intro fun s => ⟨Try.call72, fun ι w vs hwf hbnd hvs => (callsIn_wide (n := 9)).1 (callsIn_of_wp_marks Try.func72 rfl trivial ?_)⟩
  have hrel0 := rel_enter (gs := List.range 15) (N := 15) hwf hbnd hvs (by simp)
  show Code.wpIn (inR none) 9 Try.prog _ _ (withD [] { tmps := vs ++ Array.replicate (15 - vs.size) undef, defers := [] }) w
  have h01 := w01 l t s
  refine wpIn_seq ?_
  refine region_inR (K := fun g _ s' => awp Try.prog (.reg false a72r1) (onN (R0 l t s)) g s') (os := a72r0) rfl (by kernel_rfl) h01 hrel0 (Step.refl _ _ _) (Inc.refl _ _) ?_
  intro ι' g' l' s' a' w' r1 st1 in1 h1 _
  clear hrel0 h01
  refine wpIn_seq (wpIn_seq ?_)
  refine region_inR (K := fun g _ s' => R0 l t s g s') (os := a72r1) rfl (by kernel_rfl) h1 r1.clear st1 in1 ?_
  clear r1 st1 in1 h1
  intro ι₁ g₁ l₁ s₁ a₁ w₁ r1 st1 in1 ⟨g3, g4, g8, b3, b4, hnx, hkept⟩ _
  obtain ⟨tm, df⟩ := a₁
  obtain rfl : df = [] := r1.defers
  obtain ⟨v0, v1, v2, v3, v4, v5, v6, v7, v8, v9, v10, v11, v12, v13, v14, rfl⟩ := arr15 tm r1.size
  have t3 := r1.glob 3 (by decide)
  have t4 := r1.glob 4 (by decide)
  have t8 := r1.glob 8 (by decide)
  rw [g3] at t3
  rw [g4] at t4
  rw [g8] at t8
  obtain ⟨B3, hb3, e3⟩ := rep_ptr t3
  obtain ⟨B4, hb4, e4⟩ := rep_ptr t4
  simp at e3 e4
  subst e3 e4
  obtain ⟨Bb, Bo, u, e8, hu, hFu, ru⟩ := rep_clo t8
  simp at e8
  subst e8
  obtain ⟨ao, len, cap, cs, rfl, hll, hcs, rcs⟩ := rep_slice ru
  rw [List.length_map] at hll
  subst hll
  have hw1 := r1.wf
  have hlim : ∀ q ob, s₁.m q = some ob → q < s₁.nx := r1.bnd.lt
  show Code.wpIn _ 9 Try.prog _ _ _ w₁
  refine wpIn_block ?_
  refine wpIn_rangeFunc_ownH (F := Fence.wide) (n := 9) rfl (by omega) (gf := 127) (lb := #[.pointer (some ⟨Bb, Bo, none⟩)]) rfl trivial (enters_of Try.func127 (by kernel_rfl) rfl)
    (back_stops (F := Foot ι₁ s₁.m) (cs := cs) (by omega) (by omega) (lt_of_cell hu) hFu hu (fun j hj => by obtain ⟨ad, k1, k2, k3, k4, _⟩ := hcs j hj; exact ⟨ad, k1, k2, k3, k4⟩))
    KpF.trans (fun W l o o' hl h _ _ => KpF.put W l o o' hl h) (Below.refl _ _) (fun _ => rfl)
    (IF l t s ι₁ s₁ w₁) (fun _ _ _ => False) (IF.own hw1) (fun _ _ _ _ _ hs _ _ => hs) ?start
    (AF l w₁ cs #[v0, v1, v2, .pointer (some ⟨B3, 0, none⟩), .pointer (some ⟨B4, 0, none⟩), v5, v6, v7, .func (.func 127) #[] #[.pointer (some ⟨Bb, Bo, none⟩)], v9, v10, v11, v12, v13, v14]) AF.own ?assign ?body ?done ?stop
  case start => exact ⟨ι₁, s₁, Step.refl _ _ _, hw1, r1.bnd, Inc.refl _ _, hlim, b3, fun _ _ _ => rfl⟩
  case stop =>
    rintro D c pre W _ _ h _
    exact h.elim
  case assign =>
    rintro lo pre x W K hi hK
    clear t3 t4 t8
    have ez : (#[9, 10].zip #[Value.int .i64 ((l.length - 1 - x.1 : Nat) : Int), elV cs (l.length - 1 - x.1)]).foldl (fun t (p : Nat × Value) => t.setIfInBounds p.1 p.2) #[v0, v1, v2, .pointer (some ⟨B3, 0, none⟩), .pointer (some ⟨B4, 0, none⟩), v5, v6, v7, .func (.func 127) #[] #[.pointer (some ⟨Bb, Bo, none⟩)], v9, v10, v11, v12, v13, v14] =
      #[v0, v1, v2, .pointer (some ⟨B3, 0, none⟩), .pointer (some ⟨B4, 0, none⟩), v5, v6, v7, .func (.func 127) #[] #[.pointer (some ⟨Bb, Bo, none⟩)], .int .i64 ((l.length - 1 - x.1 : Nat) : Int), .agg #[cs ((l.length - 1 - x.1) * 4), cs ((l.length - 1 - x.1) * 4 + 1), cs ((l.length - 1 - x.1) * 4 + 2), cs ((l.length - 1 - x.1) * 4 + 3)], v11, v12, v13, v14] := by simp [elV]
    show Code.wpIn _ _ _ _ _ { tmps := (#[9, 10].zip #[Value.int .i64 ((l.length - 1 - x.1 : Nat) : Int), elV cs (l.length - 1 - x.1)]).foldl (fun t (p : Nat × Value) => t.setIfInBounds p.1 p.2) #[v0, v1, v2, .pointer (some ⟨B3, 0, none⟩), .pointer (some ⟨B4, 0, none⟩), v5, v6, v7, .func (.func 127) #[] #[.pointer (some ⟨Bb, Bo, none⟩)], v9, v10, v11, v12, v13, v14], defers := [] } W
    rw [ez]
    obtain ⟨c0, c1, c2, c3, c4, c5, f0, f1, f2, f3⟩ := cells_form rcs (l.length - 1 - x.1) (by have := x.2; omega)
    rw [f0, f1, f2, f3]
    gi_wp2
    have hsz : w₁.heap.size ≤ W.heap.size := by obtain ⟨_, _, k, _⟩ := hi; exact k.size
    refine hK _ _ ((KeepsOthers.alloc _ _).from _) (fun b off hb hf => World.cell?_of_block (Below.heap_alloc _ _ _ (by simp only; omega))) ((IF.own hw1).alloc _ hi) ⟨W.heap.size, hsz, by simp, fun j hj => ?_, by simp [elV, f0, f1, f2, f3]⟩
    rw [cell_new]
    rcases (show j = 0 ∨ j = 1 ∨ j = 2 ∨ j = 3 by omega) with rfl | rfl | rfl | rfl
    · exact congrArg some f0.symm
    · exact congrArg some f1.symm
    · exact congrArg some f2.symm
    · exact congrArg some f3.symm
  case body =>
    clear t3 t4 t8
    rintro lo pre x a' W hlo hrec ⟨ι, s2, h1, h2, h3, h4, h5, h6, h7⟩ ⟨Bx, k1, k2, k3, rfl⟩ hpl
    refine wpIn_block ?_
    show Code.wpIn (inR (some lo)) _ _ _ _ (withD [] { tmps := ((#[v0, v1, v2, .pointer (some ⟨B3, 0, none⟩), .pointer (some ⟨B4, 0, none⟩), v5, v6, v7, .func (.func 127) #[] #[.pointer (some ⟨Bb, Bo, none⟩)], v9, v10, v11, v12, v13, v14].setIfInBounds 9 (.int .i64 ((l.length - 1 - x.1 : Nat) : Int))).setIfInBounds 10 (elV cs (l.length - 1 - x.1))).setIfInBounds 6 (.pointer (some ⟨Bx, 0, none⟩)), defers := [] }) W
    have hxi : l.length - 1 - x.1 < l.length := by have := x.2; omega
    have hnf : ∀ j, ¬ Foot ι s2.m Bx j := fun j ⟨q, ob, m1, m2, _⟩ => by have := IF.blt hw1 h4 h5 ⟨q, ob, m1, m2⟩; omega
    have hb3' : ι s.nx = some B3 := h1.ext _ _ hb3
    have hrel : Rel (List.range 15) 15 ι [(3, .ptr s.nx 0), (6, .cptr (cellsT l[l.length - 1 - x.1]))] [] s2 { tmps := ((#[v0, v1, v2, .pointer (some ⟨B3, 0, none⟩), .pointer (some ⟨B4, 0, none⟩), v5, v6, v7, .func (.func 127) #[] #[.pointer (some ⟨Bb, Bo, none⟩)], v9, v10, v11, v12, v13, v14].setIfInBounds 9 (.int .i64 ((l.length - 1 - x.1 : Nat) : Int))).setIfInBounds 10 (elV cs (l.length - 1 - x.1))).setIfInBounds 6 (.pointer (some ⟨Bx, 0, none⟩)), defers := [] } W := by
      refine ⟨h2, h3, by simp, rfl, fun u hu => ?_, fun u hu => .any _⟩
      by_cases u3 : u = 3
      · subst u3; simpa [Env.get] using Rep.ptr 0 hb3'
      · by_cases u6 : u = 6
        · subst u6
          simp [Env.get]
          refine .cptr (fun j => cs ((l.length - 1 - x.1) * 4 + j)) rfl (fun j hj => ⟨?_, by simpa using hnf _, ?_⟩) fun j y hy => (elem_cells rcs _ hxi j y hy).step h1
          · have := k3 j (by simpa [cellsT] using hj)
            simpa using this
          · obtain ⟨_, _, _, _, hone⟩ := hcs ((l.length - 1 - x.1) * 4 + j) (by simp [cellsT] at hj; omega)
            exact hone.2
        · simp [Env.get, Ne.symm u3, Ne.symm u6]; exact .any _
    have hw := w3 l[l.length - 1 - x.1] (acc l t (pre.map (·.1))) [(3, .ptr s.nx 0), (6, .cptr (cellsT l[l.length - 1 - x.1]))] s2 s.nx rfl rfl h6
    refine region_inR (os := a72r3) (K := fun g _ s' => s2.nx ≤ s'.nx ∧ s'.m s.nx = some (boxT (arrow l[l.length - 1 - x.1] (acc l t (pre.map (·.1))))) ∧ ∀ q, q ≠ s.nx → s'.m q = s2.m q) rfl (by kernel_rfl) hw hrel (Step.refl _ _ _) (Inc.refl _ _) ?_
    intro ι' g' l' s' a' W' q1 q2 q3 ⟨q4, q5, q6⟩ _
    show ownPostG w₁.heap.size (KpF (Foot ι₁ s₁.m) w₁.heap.size) (IF l t s ι₁ s₁ w₁) (fun _ _ _ => False) (pre ++ [x]) W .normal (withD [] a') W'
    have hblk : ∀ k, w₁.heap.size ≤ k → ¬ Blk ι s2.m k := fun k hk hb => by have := IF.blt hw1 h4 h5 hb; omega
    refine ⟨⟨q2.size, fun k o hk ho hno => (q2.blk k (Array.getElem?_eq_some_iff.1 ho).1 (hblk k hk)).trans ho⟩, fun b off hb hf => q2.cell b off (Nat.lt_of_lt_of_le hb h1.size) (fun h => hf (h1.foot b off hb h)), ?_⟩
    have hsub : ∀ q ob, (fun q => if q < s₁.nx then s'.m q else none) q = some ob → s'.m q = some ob := by
      intro q ob h
      by_cases hq : q < s₁.nx
      · simpa [hq] using h
      · simp [hq] at h
    refine ⟨ι', ⟨fun q => if q < s₁.nx then s'.m q else none, s'.nx⟩, (h1.trans q2).trans (drop_step s'.m _ hsub ι' W'), q1.wf.drop hsub, ⟨fun q ob h => q1.bnd.lt q ob (hsub q ob h), q1.bnd.ilt⟩, h4.trans q3, ?_, ?_, ?_⟩
    · intro q ob h
      by_cases hq : q < s₁.nx
      · exact hq
      · simp [hq] at h
    · have : s.nx < s₁.nx := by omega
      simp only [this, if_true]
      rw [q5]
      simp [acc, hxi]
    · intro q hq hne
      simp only [hq, if_true]
      rw [q6 q hne, h7 q hq hne]
  case done =>
    clear t3 t4 t8
    rintro D ys W hD hys ⟨ι, s2, h1, h2, h3, h4, h5, h6, h7⟩ hK
    have hacc : acc l t (ys.map (·.1)) = funs l t := by rw [hys]; exact acc_all l t
    rw [hacc] at h6
    have hrel : Rel (List.range 15) 15 ι g₁ l₁ s2 { tmps := #[v0, v1, v2, .pointer (some ⟨B3, 0, none⟩), .pointer (some ⟨B4, 0, none⟩), v5, v6, v7, .func (.func 127) #[] #[.pointer (some ⟨Bb, Bo, none⟩)], v9, v10, v11, v12, v13, v14], defers := [] } W :=
      ⟨h2, h3, r1.size, rfl, fun u hu => (r1.glob u hu).step h1, fun u hu => (r1.loc u hu).step h1⟩
    have h7' := h7 (s.nx + 1) (by omega) (by omega)
    rw [b4] at h7'
    have hw := w4 (funs l t) g₁ s2 s.nx (s.nx + 1) (by omega) g3 g4 h6 h7'
    have hblk : ¬ Blk ι s2.m D := fun hb => by have := IF.blt hw1 h4 h5 hb; omega
    show Code.wpIn (inR none) 9 Try.prog _ _ (withD [{ target := .collected D, args := #[] }] { tmps := #[v0, v1, v2, .pointer (some ⟨B3, 0, none⟩), .pointer (some ⟨B4, 0, none⟩), v5, v6, v7, .func (.func 127) #[] #[.pointer (some ⟨Bb, Bo, none⟩)], v9, v10, v11, v12, v13, v14], defers := [] }) W
    refine wpIn_seq ?_
    refine region_inR (os := a72r4) (K := fun g s'_l s' => g.get 4 = .ptr (s.nx + 1) 0 ∧ s2.nx ≤ s'.nx ∧ s'.m (s.nx + 1) = some (boxT (funs l t)) ∧ ∀ q, q ≠ s.nx + 1 → s'.m q = s2.m q) rfl (by kernel_rfl) hw hrel.clear (Step.refl _ _ _) (Inc.refl _ _) ?_
    intro ι' g' l' s' a' W' q1 q2 q3 ⟨q4, q5, q6, q7⟩ _
    show Code.wpIn _ _ _ _ _ _ _
    refine wpIn_ret ?_
    have hK' : W'.heap[D]? = some (.deferred (some [])) := (q2.blk D (Array.getElem?_eq_some_iff.1 hK).1 hblk).trans hK
    have hblk' : ¬ Blk ι' s'.m D := fun hb => hblk (q2.nblk D (Array.getElem?_eq_some_iff.1 hK).1 hb)
    have hgr : Grown s'.m ι' W' (W'.putObj D (.deferred none)) (some D) := ⟨grownBy_putObj' _ _ _, fun r e => by cases e; exact ⟨⟨_, hK', rfl⟩, hblk'⟩⟩
    have hrel' : Rel (List.range 15) 15 ι' g' l' s' a' (W'.putObj D (.deferred none)) :=
      ⟨hgr.wf q1.wf, q1.bnd, q1.size, q1.defers, fun u hu => hgr.rep (q1.glob u hu), fun u hu => hgr.rep (q1.loc u hu)⟩
    obtain ⟨cv, e1, e2⟩ := results_sound (P := Try.prog) (fn := Try.f72) (rs := [.cell (true, 4) 4 true]) (vs := [(funs l t).av]) (by kernel_rfl) hrel' (by
      rw [boxT] at q6
      simp [resVals, q4, q6, loadAV])
    refine ⟨by simp, .inl ⟨_, _, rfl, run_takeDeferred hK', ?_⟩⟩
    refine ⟨cv, e1, cv, _, s', ι', rfl, hgr.step (st1.trans (h1.trans q2)) fun r e => ?_, hrel'.wf, q1.bnd, in1.trans (h4.trans q3), e2, wk_refl _, fun q hq => ?_⟩
    · cases e
      have := st1.size
      omega
    · rw [q7 q (by omega), h7 q (by omega) (by omega), hkept q hq]
end Go.AL.Ty
/- TypesSpines returns true. -/
namespace Go.AL.Ty
open Go Go.Proofs
theorem p6' (t : Ty) (l : List Ty) (hlen : l.length * 56 ≤ 140737488355328) : PureC Try.prog 6 [t.av, .list 4 .none (l.map av)] (.bool true) := p6 (fun l t h => p72 l t h) t l hlen
end Go.AL.Ty
