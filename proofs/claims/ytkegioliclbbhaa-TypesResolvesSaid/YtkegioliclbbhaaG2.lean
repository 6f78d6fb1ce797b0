/- Heads and spines of types. -/
import Derived.Test.YtkegioliclbbhaaE11
import Derived.Carry
import Derived.SizedLaws
import Derived.ProofKit
import Derived.ChangeArms
import Derived.Test.YtkegioliclbbhaaRows
set_option linter.unusedVariables false
set_option linter.unusedSimpArgs false
namespace Go.AL.Ty
open Go Go.Proofs

theorem flat_avs_length (l : List Ty) : (flat (l.map av)).length = l.length * 4 := by
  rw [flat_length (sz := 4) (by simp)]; simp
theorem flat_avs_take {l : List Ty} {i : Nat} {x : Ty} (h : l[i]? = some x) : AV.agg (((flat (l.map av)).drop (i * 4)).take 4) = x.av := by
  have h4 : ∀ y ∈ l.map av, y.cells.length = 4 := by simp
  have hi : i < l.length := (List.getElem?_eq_some_iff.1 h).1
  have hx : l[i] = x := (List.getElem?_eq_some_iff.1 h).2
  have e1 : flat (l.map av) = flat ((l.take i).map av) ++ (x.av.cells ++ flat ((l.drop (i + 1)).map av)) := by
    conv => lhs; rw [← List.take_append_drop i l, List.drop_eq_getElem_cons hi]
    rw [List.map_append, List.map_cons, flat_append, flat_cons, hx]
  have hl : (flat ((l.take i).map av)).length = i * 4 := by rw [flat_avs_length, List.length_take]; omega
  rw [e1, ← hl, List.drop_left']
  · rw [List.take_append_of_le_length (by simp)]
    rw [av_cells]
    simp
  · rfl
theorem flat_avs_set {l : List Ty} {i : Nat} (x : Ty) (hi : i < l.length) : (flat (l.map av)).take (i * 4) ++ x.av.cells ++ (flat (l.map av)).drop (i * 4 + x.av.cells.length) = flat ((l.set i x).map av) := by
  have e1 : flat (l.map av) = flat ((l.take i).map av) ++ (l[i].av.cells ++ flat ((l.drop (i + 1)).map av)) := by
    conv => lhs; rw [← List.take_append_drop i l, List.drop_eq_getElem_cons hi]
    rw [List.map_append, List.map_cons, flat_append, flat_cons]
  have hl : (flat ((l.take i).map av)).length = i * 4 := by rw [flat_avs_length, List.length_take]; omega
  have t1 : (flat (l.map av)).take (i * 4) = flat ((l.take i).map av) := by rw [e1, ← hl, List.take_left']; rfl
  have t2 : (flat (l.map av)).drop (i * 4 + x.av.cells.length) = flat ((l.drop (i + 1)).map av) := by
    rw [e1, ← List.append_assoc, List.drop_left']
    rw [List.length_append, hl, av_cells, av_cells]; simp
  rw [t1, t2, List.set_eq_take_append_cons_drop, if_pos hi, List.map_append, List.map_cons, flat_append, flat_cons, List.append_assoc]

theorem flat_avs_cells {l : List Ty} {i : Nat} {x : Ty} (h : l[i]? = some x) : (((flat (l.map av)).drop (i * 4)).take 4) = x.av.cells := congrArg AV.cells (flat_avs_take h)
theorem flat_avs_set' {l : List Ty} {i : Nat} (x : Ty) (hi : i < l.length) : (flat (l.map av)).take (i * 4) ++ (x.av.cells ++ (flat (l.map av)).drop (i * 4 + 4)) = flat ((l.set i x).map av) := by
  rw [← flat_avs_set x hi, List.append_assoc, show x.av.cells.length = 4 by simp]
def I110 (l : List Ty) (o : Nat) (s : St) (n : Nat) (g : Env) (s1 : St) : Prop :=
  ∃ (i : Nat) (l' : List Ty), i ≤ l.length ∧ n = l.length - i ∧ l'.length = l.length ∧ (∀ k, k < l.length → l'[k]? = if k < i ∨ l.length - 1 - i < k then l[l.length - 1 - k]? else l[k]?) ∧
      g.get 0 = .mref 4 o 0 l.length ∧ g.get 2 = .int .i64 i ∧ g.get 3 = .int .i64 ((l.length : Int) - 1 - i) ∧ s1.m o = some (.box (flat (l'.map av))) ∧ KeptX s o s1 ∧ s.nx ≤ s1.nx
theorem p110 (l : List Ty) (o : Nat) (s : St) (K : AV → St → Prop) (hl : l.length ≤ 1000000) (ho : s.m o = some (.box (flat (l.map av)))) (hon : o < s.nx) (hK : ∀ m, s.nx ≤ m → K (.tup []) ((s.set o (.box (flat (l.reverse.map av)))).bump m)) :
    ACalls Try.prog 110 [.mref 4 o 0 l.length] s K := by
  generalize hrv : flat (l.reverse.map av) = rv at hK
  refine ACalls.upd (r := .tup []) (ob := .box rv) hon (fun_sound mixed Try.func110 Try.call110 c110 rfl (awpFun_go _ _ _ _ ?_)) fun m hm => hK m hm
  simp (implicitDefEqProofs := false) (maxSteps := 2000000) (disch := (first | omega | (simp only [St.new_nx, St.set_nx, St.del_nx, St.bump_nx]; done) | (simp only [St.new_nx, St.set_nx, St.del_nx, St.bump_nx]; omega) | fail)) [a110, a110b, a110r0]
  refine go_loop (I110 l o s) l.length ⟨0, l, by omega, by omega, rfl, fun k hk => by rw [if_neg (by omega)], ?_, ?_, ?_, ?_, ?_, ?_⟩ ?_
  · simp (implicitDefEqProofs := false) (maxSteps := 2000000) (disch := (first | omega | (simp only [St.new_nx, St.set_nx, St.del_nx, St.bump_nx]; done) | (simp only [St.new_nx, St.set_nx, St.del_nx, St.bump_nx]; omega) | fail))
  · simp (implicitDefEqProofs := false) (maxSteps := 2000000) (disch := (first | omega | (simp only [St.new_nx, St.set_nx, St.del_nx, St.bump_nx]; done) | (simp only [St.new_nx, St.set_nx, St.del_nx, St.bump_nx]; omega) | fail))
  · simp (implicitDefEqProofs := false) (maxSteps := 2000000) (disch := (first | omega | (simp only [St.new_nx, St.set_nx, St.del_nx, St.bump_nx]; done) | (simp only [St.new_nx, St.set_nx, St.del_nx, St.bump_nx]; omega) | fail))
    rw [wrap64 (by omega) (by omega)]
  · simp (implicitDefEqProofs := false) (maxSteps := 2000000) (disch := (first | omega | (simp only [St.new_nx, St.set_nx, St.del_nx, St.bump_nx]; done) | (simp only [St.new_nx, St.set_nx, St.del_nx, St.bump_nx]; omega) | fail)) [ho]
  · simp (implicitDefEqProofs := false) (maxSteps := 2000000) (disch := (first | omega | (simp only [St.new_nx, St.set_nx, St.del_nx, St.bump_nx]; done) | (simp only [St.new_nx, St.set_nx, St.del_nx, St.bump_nx]; omega) | fail))
  · simp (implicitDefEqProofs := false) (maxSteps := 2000000) (disch := (first | omega | (simp only [St.new_nx, St.set_nx, St.del_nx, St.bump_nx]; done) | (simp only [St.new_nx, St.set_nx, St.del_nx, St.bump_nx]; omega) | fail))
  rintro n g s1 ⟨i, l', hi, rfl, hll, hget, h0, h2, h3, ho1, hk, hn⟩
  by_cases hlt : (i : Int) < (l.length : Int) - 1 - i
  · have w1 : IntKind.i64.wrap ((i : Int) + 1) = ((i + 1 : Nat) : Int) := by rw [wrap64 (by omega) (by omega)]; omega
    have w2 : IntKind.i64.wrap ((l.length : Int) - 1 - i - 1) = (l.length : Int) - 1 - ((i + 1 : Nat) : Int) := by rw [wrap64 (by omega) (by omega)]; omega
    have hj : ((l.length : Int) - 1 - i).toNat = l.length - 1 - i := by omega
    have hil : i < l'.length := by omega
    have hjl : l.length - 1 - i < l'.length := by omega
    have hxi : l'[i]? = some l'[i] := by simp [hil]
    have hxj : l'[l.length - 1 - i]? = some l'[l.length - 1 - i] := by simp [hjl]
    have hfl : (flat (l'.map av)).length = l'.length * 4 := flat_avs_length l'
    simp (implicitDefEqProofs := false) (maxSteps := 2000000) (disch := (first | omega | (simp only [St.new_nx, St.set_nx, St.del_nx, St.bump_nx]; done) | (simp only [St.new_nx, St.set_nx, St.del_nx, St.bump_nx]; omega) | fail)) [a110l4, a110r1, a110r2, a110r3, h0, h2, h3, hlt, ho1, hj]
    intro m hm
    rw [flat_avs_cells hxi, flat_avs_cells hxj, flat_avs_set' _ hil, flat_avs_set' _ (by rw [List.length_set]; exact hjl)]
    refine go_next (l.length - (i + 1)) (by omega) ⟨i + 1, (l'.set i l'[l.length - 1 - i]).set (l.length - 1 - i) l'[i], by omega, rfl, by simp [hll], fun k hk => ?_, ?_, ?_, ?_, ?_, ?_, ?_⟩
    · rw [List.getElem?_set, List.getElem?_set, List.length_set]
      have h1 := hget i (by omega)
      have h2 := hget (l.length - 1 - i) (by omega)
      have h3 := hget k hk
      rw [if_neg (by omega)] at h1 h2
      rw [hxi] at h1
      rw [hxj] at h2
      by_cases e1 : l.length - 1 - i = k
      · rw [if_pos e1, if_pos (by omega), h1, if_pos (by omega)]
        congr 1; omega
      · rw [if_neg e1]
        by_cases e2 : i = k
        · rw [if_pos e2, if_pos (by omega), h2, if_pos (by omega)]
          congr 1; omega
        · rw [if_neg e2, h3]
          by_cases e3 : k < i ∨ l.length - 1 - i < k
          · rw [if_pos e3, if_pos (by omega)]
          · rw [if_neg e3, if_neg (by omega)]
    · simp (implicitDefEqProofs := false) (maxSteps := 2000000) (disch := (first | omega | (simp only [St.new_nx, St.set_nx, St.del_nx, St.bump_nx]; done) | (simp only [St.new_nx, St.set_nx, St.del_nx, St.bump_nx]; omega) | fail)) [h0]
    · simp (implicitDefEqProofs := false) (maxSteps := 2000000) (disch := (first | omega | (simp only [St.new_nx, St.set_nx, St.del_nx, St.bump_nx]; done) | (simp only [St.new_nx, St.set_nx, St.del_nx, St.bump_nx]; omega) | fail)) [w1]
    · simp (implicitDefEqProofs := false) (maxSteps := 2000000) (disch := (first | omega | (simp only [St.new_nx, St.set_nx, St.del_nx, St.bump_nx]; done) | (simp only [St.new_nx, St.set_nx, St.del_nx, St.bump_nx]; omega) | fail)) [w2]
    · simp (implicitDefEqProofs := false) (maxSteps := 2000000) (disch := (first | omega | (simp only [St.new_nx, St.set_nx, St.del_nx, St.bump_nx]; done) | (simp only [St.new_nx, St.set_nx, St.del_nx, St.bump_nx]; omega) | fail))
    · simp (implicitDefEqProofs := false) (maxSteps := 2000000) (disch := (first | omega | (simp only [St.new_nx, St.set_nx, St.del_nx, St.bump_nx]; done) | (simp only [St.new_nx, St.set_nx, St.del_nx, St.bump_nx]; omega) | fail)) [hk]
    · simp (implicitDefEqProofs := false) (maxSteps := 2000000) (disch := (first | omega | (simp only [St.new_nx, St.set_nx, St.del_nx, St.bump_nx]; done) | (simp only [St.new_nx, St.set_nx, St.del_nx, St.bump_nx]; omega) | fail)) [hn]
      omega
  · simp (implicitDefEqProofs := false) (maxSteps := 2000000) (disch := (first | omega | (simp only [St.new_nx, St.set_nx, St.del_nx, St.bump_nx]; done) | (simp only [St.new_nx, St.set_nx, St.del_nx, St.bump_nx]; omega) | fail)) [a110l4, a110r1, h0, h2, h3, hlt, ho1, hk, oneOf]
    rw [← hrv]
    congr 2
    refine List.ext_getElem? fun k => ?_
    by_cases hkl : k < l.length
    · rw [hget k hkl, List.getElem?_reverse hkl]
      split
      · rfl
      · congr 1; omega
    · rw [List.getElem?_eq_none (by omega), List.getElem?_eq_none (by simp; omega)]

/-- Parts of proper types. -/
def Gd (t : Ty) : Prop := ∃ d l, 0 ≤ d ∧ (gd t d l).1 = true
theorem Gd.of {t : Ty} (h : proper t = true) : Gd t := ⟨1, 600, by omega, h⟩
theorem Gd.spec {t : Ty} (h : Gd t) : ((t.args.length : Int) = kids t.op ∧ 0 ≤ t.n ∧ t.n ≤ 9999 ∧ 1 ≤ t.op ∧ t.op ≤ 7 ∧ (t.n ≠ 0 → isNum t.op = true) ∧ (t.op = 2 ↔ t.s ≠ ⟨#[]⟩)) ∧ ∀ x ∈ t.args, Gd x := by
  obtain ⟨d, l, hd, h⟩ := h
  rw [gd_eq] at h
  split at h
  · cases h
  split at h
  · cases h
  split at h
  · cases h
  split at h
  · cases h
  rename_i h1 h2 h3 h4
  refine ⟨⟨by omega, by omega, by omega, by omega, by omega, fun hn => ?_, ?_⟩, fun x hx => ?_⟩
  · cases hb : isNum t.op
    · exact absurd (.inr (.inr ⟨hn, hb⟩)) h3
    · rfl
  · exact Decidable.byContradiction fun hb => h4 (.inl hb)
  · obtain ⟨l', hl'⟩ := gds_spec _ _ _ h x hx
    exact ⟨d + 1, l', by omega, hl'⟩
theorem Gd.app {t : Ty} (h : Gd t) (ho : t.op = 3) : ∃ f a, t = app f a ∧ Gd f ∧ Gd a := by
  obtain ⟨⟨h1, h2, h3, h4, h5, h6, h7⟩, h8⟩ := h.spec
  cases t with
  | mk op n s args =>
    simp only [op_mk, n_mk, s_mk, args_mk] at *
    subst ho
    match args, h1 with
    | [f, a], _ =>
      refine ⟨f, a, ?_, h8 f (by simp), h8 a (by simp)⟩
      have e1 : n = 0 := Decidable.byContradiction fun hn => by simpa [isNum] using h6 hn
      have e2 : s = ⟨#[]⟩ := Decidable.byContradiction fun hn => by simpa using h7.2 hn
      rw [e1, e2]; rfl
    | [], h => simp [kids] at h
    | [_], h => simp [kids] at h
    | _ :: _ :: _ :: _, h => simp [kids] at h; omega

/-- The head and the arguments. -/
def hdl : Nat → Ty → List Ty → Ty × List Ty
  | 0, t, acc => (t, acc)
  | n + 1, t, acc => if t.op = 3 then (match t.args with | f :: a :: _ => hdl n f (a :: acc) | _ => (t, acc)) else (t, acc)
theorem ht_app (f a : Ty) : ht f < ht (app f a) ∧ ht a < ht (app f a) := ⟨ht_mem (by simp [app]), ht_mem (by simp [app])⟩

def I68 (R : Ty × List Ty) (s : St) (n : Nat) (g : Env) (s1 : St) : Prop :=
  ∃ (c : Ty) (acc : List Ty) (o : Nat), Gd c ∧ ht c ≤ n ∧ acc.length + n ≤ 1000000 ∧ hdl n c acc = R ∧ g.get 4 = .mref 4 o 0 acc.length ∧ g.get 1 = .ptr s.nx 0 ∧ g.get 2 = .ptr (s.nx + 1) 0 ∧
    s1.m s.nx = some (.box [.int .i64 c.op, .int .i64 c.n, .str c.s, .list 4 .none (c.args.map av)]) ∧ s1.m (s.nx + 1) = some (.box [.int .i64 0, .int .i64 0, .str ⟨#[]⟩, .list 0 .full []]) ∧
    s1.m o = some (.box (flat (acc.reverse.map av))) ∧ s.nx + 1 < o ∧ o < s1.nx ∧ Kept s s1

theorem p68 (t : Ty) (ht : proper t = true) (s : St) (K : AV → St → Prop) (hK : ∀ o s', s.nx ≤ o → o < s'.nx → s'.m o = some (.box (flat ((hdl t.ht t []).2.map av))) → Kept s s' → K (.tup [(hdl t.ht t []).1.av, .mref 4 o 0 (hdl t.ht t []).2.length]) s') :
    ACalls Try.prog 68 [t.av] s K := by
  refine fun_sound mixed Try.func68 Try.call68 c68 rfl (awpFun_go _ _ _ _ ?_)
  have hf := (proper_fit ht).2
  generalize hR : hdl t.ht t [] = R at hK
  simp (implicitDefEqProofs := false) (maxSteps := 2000000) (disch := (first | omega | (simp only [St.new_nx, St.set_nx, St.del_nx, St.bump_nx]; done) | (simp only [St.new_nx, St.set_nx, St.del_nx, St.bump_nx]; omega) | fail)) [a68, a68b, a68r0, a68r1]
  refine go_loop (I68 R s) t.ht ⟨t, [], s.nx + 1 + 1, .of ht, by omega, by simp; omega, hR, ?_, ?_, ?_, ?_, ?_, ?_, ?_, ?_, ?_⟩ ?_
  iterate 9 (simp (implicitDefEqProofs := false) (maxSteps := 2000000) (disch := (first | omega | (simp only [St.new_nx, St.set_nx, St.del_nx, St.bump_nx]; done) | (simp only [St.new_nx, St.set_nx, St.del_nx, St.bump_nx]; omega) | fail)))
  rintro n g s1 ⟨c, acc, o, hc, hn, hac, hh, h4, h1, h2, hC, hZ, hO, n1, n2, hk⟩
  have hfl : (flat (acc.reverse.map av)).length = acc.length * 4 := by rw [flat_avs_length, List.length_reverse]
  by_cases ho : c.op = 3
  · obtain ⟨f, a, rfl, hf, ha⟩ := hc.app ho
    have := ht_app f a
    obtain ⟨k, rfl⟩ : ∃ k, n = k + 1 := ⟨n - 1, by omega⟩
    have hh' : hdl k f (a :: acc) = R := by rw [← hh]; simp [hdl, app]
    generalize hL : flat (acc.reverse.map av) = L at hO hfl
    simp (implicitDefEqProofs := false) (maxSteps := 2000000) (disch := (first | omega | (simp only [St.new_nx, St.set_nx, St.del_nx, St.bump_nx]; done) | (simp only [St.new_nx, St.set_nx, St.del_nx, St.bump_nx]; omega) | fail)) [a68l5, a68r2, a68r3, a68r4, h4, h1, h2, hC, hZ, hO, app]
    refine ok_intro (by simp) ?_
    have e1 : AV.agg (List.take 4 ([a.av][0]?.getD AV.any).cells) = a.av := by simp
    rw [e1]
    simp (implicitDefEqProofs := false) (maxSteps := 2000000) (disch := (first | omega | (simp only [St.new_nx, St.set_nx, St.del_nx, St.bump_nx]; done) | (simp only [St.new_nx, St.set_nx, St.del_nx, St.bump_nx]; omega) | fail)) [h1, hC, hO, app]
    refine ok_intro (by simp) ?_
    have e2 : AV.agg (List.take 4 ([f.av, a.av][0]?.getD AV.any).cells) = f.av := by simp
    rw [e2]
    simp (implicitDefEqProofs := false) (maxSteps := 2000000) (disch := (first | omega | (simp only [St.new_nx, St.set_nx, St.del_nx, St.bump_nx]; done) | (simp only [St.new_nx, St.set_nx, St.del_nx, St.bump_nx]; omega) | fail)) [h1, hC]
    have hL' : L ++ [AV.int IntKind.i64 a.op, AV.int IntKind.i64 a.n, AV.str a.s, AV.list 4 Tok.none (List.map av a.args)] = flat ((a :: acc).reverse.map av) := by
      rw [← hL, List.reverse_cons, List.map_append, flat_append]; simp
    rw [hL']
    refine go_next k (by omega) ⟨f, a :: acc, s1.nx, hf, by omega, by simp; omega, hh', ?_, ?_, ?_, ?_, ?_, ?_, ?_, ?_, ?_⟩ <;> (try simp (implicitDefEqProofs := false) (maxSteps := 2000000) (disch := (first | omega | (simp only [St.new_nx, St.set_nx, St.del_nx, St.bump_nx]; done) | (simp only [St.new_nx, St.set_nx, St.del_nx, St.bump_nx]; omega) | fail)) [h4, h1, h2, hC, hZ, hk])
    omega
  · simp (implicitDefEqProofs := false) (maxSteps := 2000000) (disch := (first | omega | (simp only [St.new_nx, St.set_nx, St.del_nx, St.bump_nx]; done) | (simp only [St.new_nx, St.set_nx, St.del_nx, St.bump_nx]; omega) | fail)) [a68l5, a68r2, a68r6, a68r7, h4, h1, h2, hC, hZ, hO, ho]
    have hR' : (c, acc) = R := by rw [← hh]; cases n <;> simp [hdl, ho]
    have h110 := fun K' => p110 acc.reverse o s1 K' (by rw [List.length_reverse]; omega) hO n2
    rw [List.length_reverse, List.reverse_reverse] at h110
    refine go_calls (h110 _ fun m hm => go_of ?_)
    simp (implicitDefEqProofs := false) (maxSteps := 2000000) (disch := (first | omega | (simp only [St.new_nx, St.set_nx, St.del_nx, St.bump_nx]; done) | (simp only [St.new_nx, St.set_nx, St.del_nx, St.bump_nx]; omega) | fail)) [h4, h1, h2, hC, hZ]
    subst hR'
    refine hK o _ (by omega) ?_ ?_ ?_ <;> simp (implicitDefEqProofs := false) (maxSteps := 2000000) (disch := (first | omega | (simp only [St.new_nx, St.set_nx, St.del_nx, St.bump_nx]; done) | (simp only [St.new_nx, St.set_nx, St.del_nx, St.bump_nx]; omega) | fail)) [hk]
    omega

/-- What Spine answers. -/
def spine (t : Ty) : Ty × List Ty := hdl t.ht t []
theorem hdl_gd : ∀ (n : Nat) (t : Ty) (acc : List Ty), Gd t → (∀ x ∈ acc, Gd x) → Gd (hdl n t acc).1 ∧ ∀ x ∈ (hdl n t acc).2, Gd x
  | 0, t, acc, h, ha => ⟨h, ha⟩
  | n + 1, t, acc, h, hacc => by
    by_cases ho : t.op = 3
    · obtain ⟨f, a, rfl, hf, ha⟩ := h.app ho
      simp only [hdl, app, op_mk, args_mk, if_true]
      exact hdl_gd n f (a :: acc) hf (by simpa using ⟨ha, hacc⟩)
    · simp only [hdl, ho, if_false]
      exact ⟨h, hacc⟩
theorem Gd.fit {t : Ty} (h : Gd t) : Fit t 0 := by
  obtain ⟨d, l, hd, h⟩ := h
  have := gd_fit t d l hd h
  exact ⟨this.1, by omega, by omega⟩
theorem hdl_len : ∀ (n : Nat) (t : Ty) (acc : List Ty), (hdl n t acc).2.length ≤ acc.length + n
  | 0, t, acc => by simp [hdl]
  | n + 1, t, acc => by
    simp only [hdl]
    split
    · split
      · rename_i f a _ _
        have := hdl_len n f (a :: acc)
        simp at this; omega
      · simp
    · simp

def I25 (h : Ty) (l : List Ty) (s : St) (oh o : Nat) (n : Nat) (g : Env) (s1 : St) : Prop :=
  ∃ (i : Nat), i ≤ l.length ∧ n = l.length - i ∧ g.get 20 = .mref 4 o 0 l.length ∧ g.get 21 = .int .i64 l.length ∧ g.get 22 = .int .i64 i ∧ g.get 6 = .mref 4 o 0 l.length ∧ g.get 5 = .ptr oh 0 ∧ g.get 2 = .ptr (s.nx + 1) 0 ∧
    s1.m oh = some (.box [.int .i64 h.op, .int .i64 h.n, .str h.s, .list 4 .none (h.args.map av)]) ∧ s1.m (s.nx + 1) = some (.box [.int .i64 0, .int .i64 0, .str ⟨#[]⟩, .list 0 .full []]) ∧
    s1.m o = some (.box (flat (l.map av))) ∧ oh < s1.nx ∧ Kept s s1

theorem p25k (t : Ty) (hp : proper t = true) (s : St) (Q : AV → St → Prop) (hQ : ∀ o s', s'.m o = some (.box (flat ((spine t).2.map av))) → Kept s s' → s.nx ≤ o → Q (.tup [(spine t).1.av, .mref 4 o 0 (spine t).2.length, .int .i64 0]) s') :
    ACalls Try.prog 25 [t.av] s Q := by
  refine fun_sound mixed Try.func25 Try.call25 c25 rfl (awpFun_go _ _ _ _ ?_)
  have hgd := hdl_gd t.ht t [] (.of hp) (by simp)
  have hln := hdl_len t.ht t []
  have hft := (proper_fit hp).2
  simp (implicitDefEqProofs := false) (maxSteps := 2000000) (disch := (first | omega | (simp only [St.new_nx, St.set_nx, St.del_nx, St.bump_nx]; done) | (simp only [St.new_nx, St.set_nx, St.del_nx, St.bump_nx]; omega) | fail)) [a25, a25b, a25r0, a25r1]
  refine go_pure (p53 t) fun m hm => ?_
  simp only [St.new_nx, St.bump_nx, St.set_nx] at hm
  simp (implicitDefEqProofs := false) (maxSteps := 2000000) (disch := (first | omega | (simp only [St.new_nx, St.set_nx, St.del_nx, St.bump_nx]; done) | (simp only [St.new_nx, St.set_nx, St.del_nx, St.bump_nx]; omega) | fail)) [hp, a25r2, a25r3]
  refine go_calls (p68 t hp _ _ fun o s' ho1 ho2 ho hk => go_of ?_)
  have hz : s'.m (s.nx + 1) = some (.box [.int .i64 0, .int .i64 0, .str ⟨#[]⟩, .list 0 .full []]) := by
    rw [hk _ (by simp only [St.new_nx, St.bump_nx, St.set_nx]; omega)]
    simp (implicitDefEqProofs := false) (maxSteps := 2000000) (disch := (first | omega | (simp only [St.new_nx, St.set_nx, St.del_nx, St.bump_nx]; done) | (simp only [St.new_nx, St.set_nx, St.del_nx, St.bump_nx]; omega) | fail))
  have hks : Kept s s' := fun q hq => by
    rw [hk _ (by simp only [St.new_nx, St.bump_nx, St.set_nx]; omega)]
    simp (implicitDefEqProofs := false) (maxSteps := 2000000) (disch := (first | omega | (simp only [St.new_nx, St.set_nx, St.del_nx, St.bump_nx]; done) | (simp only [St.new_nx, St.set_nx, St.del_nx, St.bump_nx]; omega) | fail))
  simp only [St.new_nx, St.bump_nx, St.set_nx] at ho1
  rw [← spine] at ho hgd hln ⊢
  clear hk
  generalize spine t = R at *
  obtain ⟨h, l⟩ := R
  simp only at *
  simp (implicitDefEqProofs := false) (maxSteps := 2000000) (disch := (first | omega | (simp only [St.new_nx, St.set_nx, St.del_nx, St.bump_nx]; done) | (simp only [St.new_nx, St.set_nx, St.del_nx, St.bump_nx]; omega) | fail)) [a25r4]
  refine go_pure (p69 h hgd.1.fit) fun m2 hm2 => ?_
  simp only [St.new_nx, St.bump_nx, St.set_nx] at hm2
  simp (implicitDefEqProofs := false) (maxSteps := 2000000) (disch := (first | omega | (simp only [St.new_nx, St.set_nx, St.del_nx, St.bump_nx]; done) | (simp only [St.new_nx, St.set_nx, St.del_nx, St.bump_nx]; omega) | fail)) [a25r5]
  refine go_loop (I25 h l s s'.nx o) l.length ⟨0, by omega, by omega, ?_, ?_, ?_, ?_, ?_, ?_, ?_, ?_, ?_, ?_, ?_⟩ ?_
  iterate 12 (first | omega | simp (implicitDefEqProofs := false) (maxSteps := 2000000) (disch := (first | omega | (simp only [St.new_nx, St.set_nx, St.del_nx, St.bump_nx]; done) | (simp only [St.new_nx, St.set_nx, St.del_nx, St.bump_nx]; omega) | fail)) [ho, hz, hks])
  rintro n g s1 ⟨i, hi, rfl, h20, h21, h22, h6, h5, h2, hH, hZ, hO, hoh, hk⟩
  by_cases hlt : i < l.length
  · have hx : l[i]? = some l[i] := by simp [hlt]
    have hlt' : (i : Int) < l.length := by omega
    have w2 : IntKind.i64.wrap ((i : Int) + 1) = ((i + 1 : Nat) : Int) := by simp at hln; rw [wrap64 (by omega) (by omega)]; omega
    have hfl : (flat (l.map av)).length = l.length * 4 := flat_avs_length l
    simp (implicitDefEqProofs := false) (maxSteps := 2000000) (disch := (first | omega | (simp only [St.new_nx, St.set_nx, St.del_nx, St.bump_nx]; done) | (simp only [St.new_nx, St.set_nx, St.del_nx, St.bump_nx]; omega) | fail)) [a25l10, a25r6, a25r7, h20, h21, h22, h6, h5, h2, hlt', hO]
    rw [flat_avs_cells hx, av_cells]
    simp (implicitDefEqProofs := false) (maxSteps := 2000000) (disch := (first | omega | (simp only [St.new_nx, St.set_nx, St.del_nx, St.bump_nx]; done) | (simp only [St.new_nx, St.set_nx, St.del_nx, St.bump_nx]; omega) | fail)) [a25r8, h6]
    refine go_pure (p69 l[i] (hgd.2 _ (List.getElem_mem hlt)).fit) fun m3 hm3 => ?_
    simp only [St.new_nx, St.bump_nx, St.set_nx] at hm3
    have hset := flat_avs_set' l[i] hlt
    rw [List.set_getElem_self, av_cells] at hset
    simp (implicitDefEqProofs := false) (maxSteps := 2000000) (disch := (first | omega | (simp only [St.new_nx, St.set_nx, St.del_nx, St.bump_nx]; done) | (simp only [St.new_nx, St.set_nx, St.del_nx, St.bump_nx]; omega) | fail)) [h6, h22, hlt', hO, a25r9, w2]
    simp only [List.cons_append, List.nil_append] at hset
    rw [hset]
    refine go_next (l.length - (i + 1)) (by omega) ⟨i + 1, by omega, rfl, ?_, ?_, ?_, ?_, ?_, ?_, ?_, ?_, ?_, ?_, ?_⟩
    all_goals (first | omega | simp (implicitDefEqProofs := false) (maxSteps := 2000000) (disch := (first | omega | (simp only [St.new_nx, St.set_nx, St.del_nx, St.bump_nx]; done) | (simp only [St.new_nx, St.set_nx, St.del_nx, St.bump_nx]; omega) | fail)) [h20, h21, h22, h6, h5, h2, hH, hZ, hk])
    omega
  · have hlt' : ¬ (i : Int) < l.length := by omega
    simp (implicitDefEqProofs := false) (maxSteps := 2000000) (disch := (first | omega | (simp only [St.new_nx, St.set_nx, St.del_nx, St.bump_nx]; done) | (simp only [St.new_nx, St.set_nx, St.del_nx, St.bump_nx]; omega) | fail)) [a25l10, a25r6, h20, h21, h22, h6, h5, h2, hlt', hO, a25r11, hH, hZ]
    refine hQ o _ ?_ ?_ (by omega) <;> simp (implicitDefEqProofs := false) (maxSteps := 2000000) (disch := (first | omega | (simp only [St.new_nx, St.set_nx, St.del_nx, St.bump_nx]; done) | (simp only [St.new_nx, St.set_nx, St.del_nx, St.bump_nx]; omega) | fail)) [hO, hk]
theorem p25 (t : Ty) : PureC Try.prog 25 [t.av] (if proper t then .tup [(spine t).1.av, .list 4 .none ((spine t).2.map av), .int .i64 0] else .tup [nul.av, .list 4 .none [], .int .i64 2]) := by
  refine PureC.intro fun s => ?_
  by_cases hp : proper t = true
  · rw [if_pos hp]
    refine ACalls.freeze (i := 1) (p25k t hp s _ fun o s' ho hk hn => ⟨_, 4, o, _, (spine t).2.map av, rfl, rfl, ho, by simp, by simp, ?_⟩)
    simp (implicitDefEqProofs := false) (maxSteps := 2000000) (disch := (first | omega | (simp only [St.new_nx, St.set_nx, St.del_nx, St.bump_nx]; done) | (simp only [St.new_nx, St.set_nx, St.del_nx, St.bump_nx]; omega) | fail)) [hk]
  · rw [if_neg hp]
    refine fun_sound mixed Try.func25 Try.call25 c25 rfl (awpFun_go _ _ _ _ ?_)
    simp (implicitDefEqProofs := false) (maxSteps := 2000000) (disch := (first | omega | (simp only [St.new_nx, St.set_nx, St.del_nx, St.bump_nx]; done) | (simp only [St.new_nx, St.set_nx, St.del_nx, St.bump_nx]; omega) | fail)) [a25, a25b, a25r0, a25r1]
    refine go_pure (p53 t) fun m hm => ?_
    simp only [St.new_nx, St.bump_nx, St.set_nx] at hm
    simp (implicitDefEqProofs := false) (maxSteps := 2000000) (disch := (first | omega | (simp only [St.new_nx, St.set_nx, St.del_nx, St.bump_nx]; done) | (simp only [St.new_nx, St.set_nx, St.del_nx, St.bump_nx]; omega) | fail)) [hp, a25r2, nul, av_mk]
end Go.AL.Ty
/- The examples of the law. -/
set_option linter.unusedVariables false
set_option linter.unusedSimpArgs false
namespace Go.AL.Ty
open Go Go.Proofs

def tInt : Ty := con ⟨#[73, 110, 116]⟩
def tVec : Ty := con ⟨#[86, 101, 99]⟩
def tZ : Ty := con ⟨#[39, 90]⟩
def aw1 : Ty := arrow (var 1) (var 0)
def aw2 : Ty := arrow (var 0) tInt
def aw3 : Ty := app (app tVec (var 0)) tZ
theorem aw_proper : proper aw1 = true := by kernel_rfl
theorem aw_propers : propers [tInt] = true := by kernel_rfl
theorem aw_put : putted aw1 [tInt] = aw2 := by kernel_rfl
theorem aw_proper2 : proper aw2 = true := by kernel_rfl
theorem aw_proper3 : proper aw3 = true := by kernel_rfl
theorem aw_spine : spine aw3 = (tVec, [var 0, tZ]) := by kernel_rfl
theorem aw_same1 : same aw2 aw2 = true := by kernel_rfl
theorem aw_same2 : same tVec tVec = true := by kernel_rfl
theorem aw_same3 : same tZ tZ = true := by kernel_rfl
theorem aw_apply : apply tVec [var 0, tZ] = aw3 := rfl
theorem aw_12 : PureC Try.prog 12 [aw1.av, .list 4 .none [tInt.av]] (.tup [aw2.av, .int .i64 0]) := by
  have h := p12 aw1 [tInt]
  rw [aw_proper, aw_propers, aw_put, fin, aw_proper2] at h
  exact h
theorem aw_25 : PureC Try.prog 25 [aw3.av] (.tup [tVec.av, .list 4 .none [(var 0).av, tZ.av], .int .i64 0]) := by
  have h := p25 aw3
  rw [aw_proper3, aw_spine] at h
  exact h
theorem aw_31a : PureC Try.prog 31 [aw2.av, aw2.av] (.bool true) := by
  have h := p31 aw2 (by simp [lim, lims, aw2, arrow, app, con, var, tInt]) aw2
  rw [aw_same1] at h
  exact h
theorem aw_31b : PureC Try.prog 31 [tVec.av, tVec.av] (.bool true) := by
  have h := p31 tVec (by simp [lim, lims, con, tVec]) tVec
  rw [aw_same2] at h
  exact h
theorem aw_31c : PureC Try.prog 31 [tZ.av, tZ.av] (.bool true) := by
  have h := p31 tZ (by simp [lim, lims, con, tZ]) tZ
  rw [aw_same3] at h
  exact h
theorem p16 : PureC Try.prog 16 [] (.bool true) := by
  refine PureC.intro fun s => fun_sound mixed Try.func16 Try.call16 c16 rfl (awpFun_go _ _ _ _ ?_)
  simp (implicitDefEqProofs := false) (maxSteps := 2000000) (disch := (first | omega | (simp only [St.new_nx, St.set_nx, St.del_nx, St.bump_nx]; done) | (simp only [St.new_nx, St.set_nx, St.del_nx, St.bump_nx]; omega) | fail)) [a16, a16b, a16r0, a16r1]
  refine go_pure (p59 1) fun m1 h1 => ?_
  simp (implicitDefEqProofs := false) (maxSteps := 2000000) (disch := (first | omega | (simp only [St.new_nx, St.set_nx, St.del_nx, St.bump_nx]; done) | (simp only [St.new_nx, St.set_nx, St.del_nx, St.bump_nx]; omega) | fail))
  refine go_pure (p59 0) fun m2 h2 => ?_
  simp (implicitDefEqProofs := false) (maxSteps := 2000000) (disch := (first | omega | (simp only [St.new_nx, St.set_nx, St.del_nx, St.bump_nx]; done) | (simp only [St.new_nx, St.set_nx, St.del_nx, St.bump_nx]; omega) | fail))
  refine go_pure (p58 (mk 1 1 ⟨#[]⟩ []) (mk 1 0 ⟨#[]⟩ [])) fun m3 h3 => ?_
  simp (implicitDefEqProofs := false) (maxSteps := 2000000) (disch := (first | omega | (simp only [St.new_nx, St.set_nx, St.del_nx, St.bump_nx]; done) | (simp only [St.new_nx, St.set_nx, St.del_nx, St.bump_nx]; omega) | fail))
  refine go_pure (p35 _) fun m4 h4 => ?_
  simp only [St.new_nx, St.bump_nx, St.set_nx] at h1 h2 h3 h4
  simp (implicitDefEqProofs := false) (maxSteps := 2000000) (disch := (first | omega | (simp only [St.new_nx, St.set_nx, St.del_nx, St.bump_nx]; done) | (simp only [St.new_nx, St.set_nx, St.del_nx, St.bump_nx]; omega) | fail))
  refine go_pure (PureC.argw aw_12 (by simp [aw1, arrow, var, tInt, con])) fun m5 h5 => ?_
  simp only [St.new_nx, St.bump_nx, St.set_nx] at h5
  simp (implicitDefEqProofs := false) (maxSteps := 2000000) (disch := (first | omega | (simp only [St.new_nx, St.set_nx, St.del_nx, St.bump_nx]; done) | (simp only [St.new_nx, St.set_nx, St.del_nx, St.bump_nx]; omega) | fail)) [a16r2]
  refine go_pure (p35 _) fun m6 h6 => ?_
  simp only [St.new_nx, St.bump_nx, St.set_nx] at h6
  simp (implicitDefEqProofs := false) (maxSteps := 2000000) (disch := (first | omega | (simp only [St.new_nx, St.set_nx, St.del_nx, St.bump_nx]; done) | (simp only [St.new_nx, St.set_nx, St.del_nx, St.bump_nx]; omega) | fail))
  refine go_pure (p59 _) fun m7 h7 => ?_
  simp only [St.new_nx, St.bump_nx, St.set_nx] at h7
  simp (implicitDefEqProofs := false) (maxSteps := 2000000) (disch := (first | omega | (simp only [St.new_nx, St.set_nx, St.del_nx, St.bump_nx]; done) | (simp only [St.new_nx, St.set_nx, St.del_nx, St.bump_nx]; omega) | fail))
  refine go_pure (p35 _) fun m8 h8 => ?_
  simp only [St.new_nx, St.bump_nx, St.set_nx] at h8
  simp (implicitDefEqProofs := false) (maxSteps := 2000000) (disch := (first | omega | (simp only [St.new_nx, St.set_nx, St.del_nx, St.bump_nx]; done) | (simp only [St.new_nx, St.set_nx, St.del_nx, St.bump_nx]; omega) | fail))
  refine go_pure (PureC.argw (p33 tVec [var 0, tZ] (by simp)) (by simp [tVec, tZ, var, con])) fun m9 h9 => ?_
  rw [aw_apply]
  simp only [St.new_nx, St.bump_nx, St.set_nx] at h9
  simp (implicitDefEqProofs := false) (maxSteps := 2000000) (disch := (first | omega | (simp only [St.new_nx, St.set_nx, St.del_nx, St.bump_nx]; done) | (simp only [St.new_nx, St.set_nx, St.del_nx, St.bump_nx]; omega) | fail)) [a16r3]
  refine go_pure aw_25 fun m10 h10 => ?_
  simp only [St.new_nx, St.bump_nx, St.set_nx] at h10
  simp (implicitDefEqProofs := false) (maxSteps := 2000000) (disch := (first | omega | (simp only [St.new_nx, St.set_nx, St.del_nx, St.bump_nx]; done) | (simp only [St.new_nx, St.set_nx, St.del_nx, St.bump_nx]; omega) | fail)) [a16r4]
  refine pcV_intro (p59 0) ?_
  simp (implicitDefEqProofs := false) (maxSteps := 2000000) (disch := (first | omega | (simp only [St.new_nx, St.set_nx, St.del_nx, St.bump_nx]; done) | (simp only [St.new_nx, St.set_nx, St.del_nx, St.bump_nx]; omega) | fail))
  refine pcV_intro (p35 _) ?_
  simp (implicitDefEqProofs := false) (maxSteps := 2000000) (disch := (first | omega | (simp only [St.new_nx, St.set_nx, St.del_nx, St.bump_nx]; done) | (simp only [St.new_nx, St.set_nx, St.del_nx, St.bump_nx]; omega) | fail))
  refine pcV_intro (p58 (mk 1 0 ⟨#[]⟩ []) (mk 2 0 ⟨#[73, 110, 116]⟩ [])) ?_
  simp (implicitDefEqProofs := false) (maxSteps := 2000000) (disch := (first | omega | (simp only [St.new_nx, St.set_nx, St.del_nx, St.bump_nx]; done) | (simp only [St.new_nx, St.set_nx, St.del_nx, St.bump_nx]; omega) | fail))
  refine pcV_intro aw_31a ?_
  simp (implicitDefEqProofs := false) (maxSteps := 2000000) (disch := (first | omega | (simp only [St.new_nx, St.set_nx, St.del_nx, St.bump_nx]; done) | (simp only [St.new_nx, St.set_nx, St.del_nx, St.bump_nx]; omega) | fail))
  refine pcV_intro (p35 _) ?_
  simp (implicitDefEqProofs := false) (maxSteps := 2000000) (disch := (first | omega | (simp only [St.new_nx, St.set_nx, St.del_nx, St.bump_nx]; done) | (simp only [St.new_nx, St.set_nx, St.del_nx, St.bump_nx]; omega) | fail))
  refine pcV_intro aw_31b ?_
  simp (implicitDefEqProofs := false) (maxSteps := 2000000) (disch := (first | omega | (simp only [St.new_nx, St.set_nx, St.del_nx, St.bump_nx]; done) | (simp only [St.new_nx, St.set_nx, St.del_nx, St.bump_nx]; omega) | fail))
  refine ok_intro (by simp) ?_
  have e1 : AV.agg (List.take 4 ([tZ.av][0]?.getD AV.any).cells) = tZ.av := by simp
  rw [e1]
  simp (implicitDefEqProofs := false) (maxSteps := 2000000) (disch := (first | omega | (simp only [St.new_nx, St.set_nx, St.del_nx, St.bump_nx]; done) | (simp only [St.new_nx, St.set_nx, St.del_nx, St.bump_nx]; omega) | fail))
  refine pcV_intro (p35 _) ?_
  simp (implicitDefEqProofs := false) (maxSteps := 2000000) (disch := (first | omega | (simp only [St.new_nx, St.set_nx, St.del_nx, St.bump_nx]; done) | (simp only [St.new_nx, St.set_nx, St.del_nx, St.bump_nx]; omega) | fail))
  refine pcV_intro aw_31c ?_
  simp (implicitDefEqProofs := false) (maxSteps := 2000000) (disch := (first | omega | (simp only [St.new_nx, St.set_nx, St.del_nx, St.bump_nx]; done) | (simp only [St.new_nx, St.set_nx, St.del_nx, St.bump_nx]; omega) | fail))
end Go.AL.Ty
/- TypesPuts: the plain law, the walk. -/
set_option linter.unusedVariables false
set_option linter.unusedSimpArgs false
namespace Go.AL.Ty
open Go Go.Proofs

theorem sames_refl : ∀ (l : List Ty), (∀ x ∈ l, same x x = true) → sames l l = true
  | [], _ => by simp [sames]
  | t :: ts, h => by simp [sames, h t (by simp), sames_refl ts fun x hx => h x (by simp [hx])]
theorem same_refl (t : Ty) : same t t = true := by
  induction t using Ty.ind with
  | h t ih =>
    cases t
    rw [args_mk] at ih
    simp [same, sames_refl _ ih]
theorem lims_of : ∀ (l : List Ty), (∀ x ∈ l, lim x) → lims l
  | [], _ => by simp [lims]
  | t :: ts, h => by
    simp only [lims]
    exact ⟨h t (by simp), lims_of ts fun x hx => h x (by simp [hx])⟩
theorem wide_lim (t : Ty) : wide t → lim t := by
  induction t using Ty.ind with
  | h t ih =>
    intro h
    have h1 := wide_len h
    have h2 : ∀ x ∈ t.args, lim x := fun x hx => ih x hx (wide_mem h hx)
    cases t
    simp only [lim, args_mk] at *
    exact ⟨by omega, lims_of _ h2⟩
theorem proper_lim {t : Ty} (h : proper t = true) : lim t := wide_lim t (proper_fit h).1
theorem nul_lim : lim nul := by simp [lim, lims, nul]

theorem maps_congr (f g : Ty → Int → Option Ty) (op : Int) : ∀ (l : List Ty) (i : Nat) (b : Int), 0 ≤ b → (∀ x ∈ l, ∀ b, 0 ≤ b → map f x b = map g x b) → maps f op l i b = maps g op l i b
  | [], _, _, _, _ => by simp [maps]
  | t :: ts, i, b, hb, h => by
    have := belw_bound op i
    simp only [maps]
    rw [h t (by simp) _ (by omega), maps_congr f g op ts (i + 1) b hb fun x hx => h x (by simp [hx])]
theorem maps_shfs (f : Ty → Int → Option Ty) (by_ from_ op : Int) : ∀ (l : List Ty) (i : Nat) (b : Int), (∀ x ∈ l, ∀ b, map f x b = (shf by_ from_ x b).1) → maps f op l i b = (shfs by_ from_ op l i b).1
  | [], _, _, _ => by simp [maps, shfs]
  | t :: ts, i, b, h => by
    simp only [maps, shfs]
    rw [h t (by simp), maps_shfs f by_ from_ op ts (i + 1) b fun x hx => h x (by simp [hx])]
theorem Gd.var {t : Ty} (h : Gd t) (ho : t.op = 1) : t = Ty.var t.n := by
  obtain ⟨⟨h1, h2, h3, h4, h5, h6, h7⟩, h8⟩ := h.spec
  cases t with
  | mk op n s args =>
    simp only [op_mk, n_mk, s_mk, args_mk] at *
    subst ho
    have e1 : args = [] := List.length_eq_zero_iff.1 (by simpa [kids] using h1)
    have e2 : s = ⟨#[]⟩ := Decidable.byContradiction fun hn => by simpa using h7.2 hn
    rw [e1, e2]; rfl
theorem map_mv (by_ from_ : Int) (t : Ty) : Gd t → ∀ b, map (mv by_ from_) t b = (shf by_ from_ t b).1 := by
  induction t using Ty.ind with
  | h t ih =>
    intro hg b
    rw [map_eq, shf_eq]
    by_cases ho : t.op = 1
    · by_cases hn : t.n < b + from_
      · have e : mv by_ from_ t b = some t := by simp [mv, ho, hn]
        rw [e, if_neg (by omega)]
        have := hg.var ho
        generalize t.n = k at *
        subst this
        simp [Ty.var, shfs]
      · have e : mv by_ from_ t b = some (mk 1 (t.n + by_) ⟨#[]⟩ []) := by simp [mv, ho, hn]
        rw [e, if_pos ⟨ho, by omega⟩]
        have := hg.var ho
        generalize t.n = k at *
        subst this
        simp [Ty.var]
    · have e : mv by_ from_ t b = none := by simp [mv, ho]
      rw [e, if_neg (by simp [ho])]
      simp only
      rw [maps_shfs _ by_ from_ t.op t.args 0 b fun x hx b => ih x hx (hg.spec.2 x hx) b]
theorem map_put (l : List Ty) (hl : ∀ x ∈ l, Gd x) (t : Ty) : Gd t → ∀ b, 0 ≤ b → map (pt l) t b = map (pr l) t b := by
  induction t using Ty.ind with
  | h t ih =>
    intro hg b hb
    have e : pt l t b = pr l t b := by
      unfold pt pr
      by_cases ho : t.op = 1
      · simp only [ho, ne_eq, not_true, if_false]
        by_cases h1 : t.n < b
        · rw [if_pos (by omega), if_pos h1]
        · rw [if_neg (by omega), if_neg h1]
          by_cases h2 : t.n - b < l.length
          · rw [if_pos h2, if_pos h2]
            cases hx : l[l.length - 1 - (t.n - b).toNat]? with
            | none => rfl
            | some x => simp only [Option.map_some, moved, map_mv b 0 x (hl x (List.mem_of_getElem? hx)) 0]
          · rw [if_neg h2, if_neg h2]; rfl
      · simp [ho]
    rw [map_eq, map_eq, e]
    rw [maps_congr (pt l) (pr l) t.op t.args 0 b hb fun x hx b hb => ih x hx (hg.spec.2 x hx) b hb]
theorem putted_put {t : Ty} {l : List Ty} (ht : proper t = true) (hl : ∀ x ∈ l, proper x = true) : putted t l = put t l := map_put l (fun x hx => .of (hl x hx)) t (.of ht) 0 (by omega)

theorem p3 (t : Ty) (l : List Ty) (hlen : l.length * 56 ≤ 140737488355328) : PureC Try.prog 3 [t.av, .list 4 .none (l.map av)] (.bool true) := by
  refine PureC.intro fun s => fun_sound mixed Try.func3 Try.call3 c3 rfl (awpFun_go _ _ _ _ ?_)
  simp (implicitDefEqProofs := false) (maxSteps := 2000000) (disch := (first | omega | (simp only [St.new_nx, St.set_nx, St.del_nx, St.bump_nx]; done) | (simp only [St.new_nx, St.set_nx, St.del_nx, St.bump_nx]; omega) | fail)) [a3, a3b, a3r0, a3r1]
  by_cases hp : (proper t && propers l) = true
  · have h12 := p12 t l
    rw [if_pos hp] at h12
    simp only [Bool.and_eq_true] at hp
    obtain ⟨hp1, hp2⟩ := hp
    have hall : l.length ≤ 600 ∧ ∀ x ∈ l, proper x = true := by simpa [propers] using hp2
    obtain ⟨u, e, hu, hfin, hw⟩ : ∃ u e, lim u ∧ fin (putted t l) = .tup [u.av, .int .i64 e] ∧ whol u e (put t l) = true := by
      rw [putted_put hp1 hall.2, fin]
      by_cases hq : proper (put t l) = true
      · exact ⟨put t l, 0, proper_lim hq, by rw [if_pos hq], by rw [whol, if_pos hq]; simp [same_refl]⟩
      · exact ⟨nul, 5, nul_lim, by rw [if_neg hq]; rfl, by rw [whol, if_neg hq]; simp [same_refl]⟩
    rw [hfin] at h12
    refine pcV_intro (PureC.argw h12 (by simp)) ?_
    simp (implicitDefEqProofs := false) (maxSteps := 2000000) (disch := (first | omega | (simp only [St.new_nx, St.set_nx, St.del_nx, St.bump_nx]; done) | (simp only [St.new_nx, St.set_nx, St.del_nx, St.bump_nx]; omega) | fail)) [a3r2]
    intro m0 hm0
    refine go_pure (p13 t) fun m hm => ?_
    simp only [St.new_nx, St.bump_nx, St.set_nx] at hm
    simp (implicitDefEqProofs := false) (maxSteps := 2000000) (disch := (first | omega | (simp only [St.new_nx, St.set_nx, St.del_nx, St.bump_nx]; done) | (simp only [St.new_nx, St.set_nx, St.del_nx, St.bump_nx]; omega) | fail)) [hp1]
    refine go_pure (p14 l) fun m2 hm2 => ?_
    simp only [St.new_nx, St.bump_nx, St.set_nx] at hm2
    simp (implicitDefEqProofs := false) (maxSteps := 2000000) (disch := (first | omega | (simp only [St.new_nx, St.set_nx, St.del_nx, St.bump_nx]; done) | (simp only [St.new_nx, St.set_nx, St.del_nx, St.bump_nx]; omega) | fail)) [hp2, a3r4]
    refine pcV_intro (p18 t l (by omega) (fun x hx => proper_fit (hall.2 x hx)) (proper_fit hp1)) ?_
    simp (implicitDefEqProofs := false) (maxSteps := 2000000) (disch := (first | omega | (simp only [St.new_nx, St.set_nx, St.del_nx, St.bump_nx]; done) | (simp only [St.new_nx, St.set_nx, St.del_nx, St.bump_nx]; omega) | fail))
    refine pcV_intro (p17 u e _ hu) ?_
    rw [hw]
    simp (implicitDefEqProofs := false) (maxSteps := 2000000) (disch := (first | omega | (simp only [St.new_nx, St.set_nx, St.del_nx, St.bump_nx]; done) | (simp only [St.new_nx, St.set_nx, St.del_nx, St.bump_nx]; omega) | fail))
    refine pcV_intro p16 ?_
    simp (implicitDefEqProofs := false) (maxSteps := 2000000) (disch := (first | omega | (simp only [St.new_nx, St.set_nx, St.del_nx, St.bump_nx]; done) | (simp only [St.new_nx, St.set_nx, St.del_nx, St.bump_nx]; omega) | fail))
  · have h12 := p12 t l
    rw [if_neg hp] at h12
    have h15 := p15 nul nul_lim
    rw [same_refl] at h15
    refine pcV_intro (PureC.argw h12 (by simp)) ?_
    simp (implicitDefEqProofs := false) (maxSteps := 2000000) (disch := (first | omega | (simp only [St.new_nx, St.set_nx, St.del_nx, St.bump_nx]; done) | (simp only [St.new_nx, St.set_nx, St.del_nx, St.bump_nx]; omega) | fail)) [a3r2]
    intro m0 hm0
    refine go_pure (p13 t) fun m hm => ?_
    simp only [St.new_nx, St.bump_nx, St.set_nx] at hm
    simp (implicitDefEqProofs := false) (maxSteps := 2000000) (disch := (first | omega | (simp only [St.new_nx, St.set_nx, St.del_nx, St.bump_nx]; done) | (simp only [St.new_nx, St.set_nx, St.del_nx, St.bump_nx]; omega) | fail))
    refine ⟨fun h1 => ?_, fun h1 => ?_⟩
    rotate_left
    · try rw [h1]
      simp (implicitDefEqProofs := false) (maxSteps := 2000000) (disch := (first | omega | (simp only [St.new_nx, St.set_nx, St.del_nx, St.bump_nx]; done) | (simp only [St.new_nx, St.set_nx, St.del_nx, St.bump_nx]; omega) | fail)) [a3r3]
      refine go_pure h15 fun m3 hm3 => ?_
      simp only [St.new_nx, St.bump_nx, St.set_nx] at hm3
      simp (implicitDefEqProofs := false) (maxSteps := 2000000) (disch := (first | omega | (simp only [St.new_nx, St.set_nx, St.del_nx, St.bump_nx]; done) | (simp only [St.new_nx, St.set_nx, St.del_nx, St.bump_nx]; omega) | fail))
      refine go_pure p16 fun m4 hm4 => ?_
      simp only [St.new_nx, St.bump_nx, St.set_nx] at hm4
      simp (implicitDefEqProofs := false) (maxSteps := 2000000) (disch := (first | omega | (simp only [St.new_nx, St.set_nx, St.del_nx, St.bump_nx]; done) | (simp only [St.new_nx, St.set_nx, St.del_nx, St.bump_nx]; omega) | fail))
    · try rw [h1]
      refine go_pure (p14 l) fun m2 hm2 => ?_
      simp only [St.new_nx, St.bump_nx, St.set_nx] at hm2
      have h2 : propers l = false := by simpa [h1] using hp
      rw [h2]
      simp (implicitDefEqProofs := false) (maxSteps := 2000000) (disch := (first | omega | (simp only [St.new_nx, St.set_nx, St.del_nx, St.bump_nx]; done) | (simp only [St.new_nx, St.set_nx, St.del_nx, St.bump_nx]; omega) | fail)) [a3r3]
      refine go_pure h15 fun m3 hm3 => ?_
      simp only [St.new_nx, St.bump_nx, St.set_nx] at hm3
      simp (implicitDefEqProofs := false) (maxSteps := 2000000) (disch := (first | omega | (simp only [St.new_nx, St.set_nx, St.del_nx, St.bump_nx]; done) | (simp only [St.new_nx, St.set_nx, St.del_nx, St.bump_nx]; omega) | fail))
      refine go_pure p16 fun m4 hm4 => ?_
      simp only [St.new_nx, St.bump_nx, St.set_nx] at hm4
      simp (implicitDefEqProofs := false) (maxSteps := 2000000) (disch := (first | omega | (simp only [St.new_nx, St.set_nx, St.del_nx, St.bump_nx]; done) | (simp only [St.new_nx, St.set_nx, St.del_nx, St.bump_nx]; omega) | fail))
end Go.AL.Ty
/- From what is read of the arguments to abstract values, and back: the frame of a row. -/
set_option linter.unusedVariables false
set_option linter.unusedSimpArgs false
namespace Go.AL
open Go Go.Proofs

/-- Nothing is an object. -/
abbrev ι0 : Nat → Option Nat := fun _ => none
abbrev F0 : Nat → Nat → Prop := Foot ι0 (fun _ => none)
theorem F0_no (b off : Nat) : ¬ F0 b off := fun ⟨_, _, h, _⟩ => by cases h

/-- Cells that stand for abstract ones. -/
def Cells (w : World) (cs : List Value) (xs : List AV) : Prop :=
  cs.length = xs.length ∧ (∀ v ∈ cs, v.oneCell' = true) ∧ ∀ (j : Nat) v y, cs[j]? = some v → xs[j]? = some y → Rep ι0 F0 w v y

theorem Cells.nil (w : World) : Cells w [] [] := ⟨rfl, by simp, by simp⟩
theorem Cells.cons {w : World} {v : Value} {x : AV} {cs : List Value} {xs : List AV} (h1 : v.oneCell' = true) (h2 : Rep ι0 F0 w v x) (h : Cells w cs xs) : Cells w (v :: cs) (x :: xs) := by
  refine ⟨by simp [h.1], by simpa using ⟨h1, h.2.1⟩, fun j v' y hv hy => ?_⟩
  cases j with
  | zero => simp at hv hy; subst hv; subst hy; exact h2
  | succ j => exact h.2.2 j v' y (by simpa using hv) (by simpa using hy)
theorem Cells.agg {w : World} {cs : Array Value} {xs : List AV} (h : Cells w cs.toList xs) : Rep ι0 F0 w (.agg cs) (.agg xs) := by
  refine .agg (by simpa using h.1) (fun j v hv => h.2.1 v ?_) (fun j v x hv hx => h.2.2 j v x (by simpa using hv) hx)
  have : cs.toList[j]? = some v := by simpa using hv
  exact List.mem_of_getElem? this

theorem reads_list {α : Type} {n : Nat} {Q : Nat → α → Prop} (h : ∀ i, i < n → ∃ a, Q i a) : ∃ l : List α, l.length = n ∧ ∀ i a, l[i]? = some a → Q i a := by
  induction n with
  | zero => exact ⟨[], rfl, by simp⟩
  | succ n ih =>
    obtain ⟨l, hl, hq⟩ := ih fun i hi => h i (by omega)
    obtain ⟨a, ha⟩ := h n (by omega)
    refine ⟨l ++ [a], by simp [hl], fun i b hb => ?_⟩
    by_cases hi : i < n
    · rw [List.getElem?_append_left (by omega)] at hb
      exact hq i b hb
    · have : i = n := by
        have := (List.getElem?_eq_some_iff.1 hb).1
        simp at this; omega
      subst this
      rw [List.getElem?_append_right (by omega)] at hb
      simp [hl] at hb
      subst hb
      exact ha

/-- A slice that is read: its elements, one by one. -/
theorem slice_reads {H : Type} {enc : TypeId × Value → H} {P : Program} {w : World} {n : Nat} {t e : TypeId} {cs : List Value} {x : DataW H × List MemPlace} {α : Type} {f : α → List AV} {sz : Nat}
    (ht : P.underlying t = some (.slice e)) (hs : P.cellsOf e = sz) (hpos : 0 < sz)
    (hel : ∀ m, m < n → ∀ cs y, DataW.trod enc P w 0 (fun _ => true) true m e cs = some y → ∃ a, Cells w cs (f a))
    (h : DataW.trod enc P w 0 (fun _ => true) true n t cs = some x) :
    ∃ (v : Value) (l : List α), cs = [v] ∧ v.oneCell' = true ∧ (∀ (g : α → AV), (∀ a, (g a).cells = f a) → Rep ι0 F0 w v (.list sz .none (l.map g))) ∧ (∀ a b, x.1 = .slice a b → l.length = a.length) ∧ (x.1 = .nil → l = []) ∧ l.length ≤ 9223372036854775807 := by
  rcases DataW.trod_slice ht h with ⟨rfl, rfl⟩ | ⟨a, len, cap, elems, rest, m, rfl, rfl, rfl, _, hlc, hcm, hlen, hget, _, _⟩
  · exact ⟨_, [], rfl, rfl, fun g hg => .list (fun _ => default) rfl (Nat.le_refl _) (by simp) trivial (by simp) (by simp) (by simp), fun a b h => by simp at h, fun _ => rfl, by simp⟩
  · have key : ∀ i, i < len → ∃ a0 : α, ∃ cs' : List Value, w.cells? 0 (a.add (i * sz)) sz = some cs' ∧ Cells w cs' (f a0) := by
      intro i hi
      have h1 := hget i hi
      obtain ⟨y, hy⟩ : ∃ y, elems[i]? = some y := ⟨elems[i]'(by omega), by simp [hlen, hi]⟩
      rw [hy, hs, Option.bind_eq_some_iff] at h1
      obtain ⟨cs', hc', hd⟩ := h1
      obtain ⟨a0, ha0⟩ := hel m (by omega) cs' y hd
      exact ⟨a0, cs', hc', ha0⟩
    obtain ⟨l, hl, hq⟩ := reads_list key
    refine ⟨_, l, rfl, rfl, fun g hg => ?_, fun a b h => by simp at h; rw [← h.1]; simp [hl, hlen], fun h => by simp at h, by rw [hl]; exact Nat.le_trans hlc hcm⟩
    have hall : ∀ i, i < len → ∃ a0 cs', l[i]? = some a0 ∧ w.cells? 0 (a.add (i * sz)) sz = some cs' ∧ Cells w cs' (f a0) := fun i hi => by
      have h1 : l[i]? = some (l[i]'(by omega)) := by simp [hl, hi]
      obtain ⟨cs', h2, h3⟩ := hq i _ h1
      exact ⟨_, cs', h1, h2, h3⟩
    have hfl : ∀ a0 ∈ l, (f a0).length = sz := fun a0 h0 => by
      obtain ⟨i, hi⟩ := List.getElem?_of_mem h0
      obtain ⟨cs', h2, h3⟩ := hq i a0 hi
      rw [← h3.1]
      exact (World.cells?_some h2).2.1
    have hsz : ∀ x ∈ l.map g, x.cells.length = sz := by
      intro x hx
      obtain ⟨a0, h0, rfl⟩ := List.mem_map.1 hx
      rw [hg]; exact hfl a0 h0
    have hcell : ∀ j, j < len * sz → ∃ a0 cs' v, a.spot = none ∧ l[j / sz]? = some a0 ∧ Cells w cs' (f a0) ∧ cs'[j % sz]? = some v ∧ w.cell? ⟨a.block, a.off + j, none⟩ = some v := by
      intro j hj
      have hi : j / sz < len := Nat.div_lt_of_lt_mul (by rw [Nat.mul_comm]; exact hj)
      have hm : j % sz < sz := Nat.mod_lt _ hpos
      obtain ⟨a0, cs', h1, h2, h3⟩ := hall _ hi
      obtain ⟨_, e1, e2⟩ := World.cells?_some h2
      obtain ⟨v, hv⟩ : ∃ v, cs'[j % sz]? = some v := ⟨cs'[j % sz]'(by omega), by simp [e1, hm]⟩
      have e3 := e2 (j % sz) hm
      rw [hv] at e3
      obtain ⟨b, off, spot⟩ := a
      have hsp : spot = none := by
        obtain ⟨a1, cs1, g1, g2, g3⟩ := hall 0 (Nat.lt_of_le_of_lt (Nat.zero_le _) hi)
        obtain ⟨_, k1, k2⟩ := World.cells?_some g2
        obtain ⟨v1, hv1⟩ : ∃ v, cs1[0]? = some v := ⟨cs1[0]'(by omega), by simp [k1, hpos]⟩
        have k3 := k2 0 hpos
        rw [hv1] at k3
        simpa [Addr.add] using World.cell?_spot k3
      subst hsp
      rw [WideShapes.add_plain, WideShapes.add_plain] at e3
      refine ⟨a0, cs', v, rfl, h1, h3, hv, ?_⟩
      rw [← e3, Nat.add_assoc, Nat.div_add_mod']
    refine .list (fun j => (w.cell? ⟨a.block, a.off + j, none⟩).getD default) (by simp [hl]) hlc hsz trivial (by simp) (fun j hj => ?_) (fun j x hx => ?_)
    · obtain ⟨a0, cs', v, h1, h2, h3, h4, h5⟩ := hcell j hj
      exact ⟨a, rfl, h1, by rw [h5]; rfl, F0_no _ _, by rw [h5]; exact h3.2.1 v (List.mem_of_getElem? h4)⟩
    · have hj : j < len * sz := by
        have := (List.getElem?_eq_some_iff.1 hx).1
        rw [flat_length hsz] at this
        simpa [hl] using this
      obtain ⟨a0, cs', v, h1, h2, h3, h4, h5⟩ := hcell j hj
      rw [h5]
      have hm : j % sz < sz := Nat.mod_lt _ hpos
      have hx' := flat_get hsz (j / sz) (j % sz) hm
      rw [Nat.div_add_mod'] at hx'
      rw [hx', List.getElem?_map, h2] at hx
      simp only [Option.map_some, Option.bind_some, hg] at hx
      exact h3.2.2 _ v x h4 hx

/-- A step from nothing leaves all that was there. -/
theorem Step.below {w w' : World} {ι' : Nat → Option Nat} {S' : Store} (h : Step ι0 (fun _ => none) w ι' S' w') : RowKit.Below w.heap.size w w' :=
  ⟨h.os, h.tape, h.output, h.size, fun k hk => h.blk k hk fun ⟨_, _, e, _⟩ => by cases e⟩

theorem WF0 (w : World) : WF ι0 (fun _ => none) w := ⟨by simp, by simp, by simp⟩

/-- A law that is proved as a contract, from nothing. -/
theorem law_calls {P : Program} {f : FuncId} {args : List AV} {b : Bool} (h : PureC P f args (.bool b)) {w : World} {vs : Array Value} (hr : RepL ι0 F0 w vs args) :
    Calls P f vs w fun e w' => e = .returned (.bool b) ∧ RowKit.Below w.heap.size w w' := by
  refine Calls.mono ((h ⟨fun _ => none, 0⟩).2 ι0 w vs (WF0 w) ⟨by simp, by simp⟩ hr) ?_
  rintro e w' ⟨v, r, s', ι', rfl, h1, h2, h3, h4, h5, rfl, h6⟩
  cases h5
  exact ⟨rfl, h1.below⟩
end Go.AL
/- Types, read. -/
set_option linter.unusedVariables false
set_option linter.unusedSimpArgs false
set_option maxRecDepth 100000
namespace Go.AL.Ty
open Go Go.Proofs Go.ChangeShapes Go.WideShapes Go.ChangeAt Go.RowKit

theorem own : ownKnob Try.prog.godebug = none := by kernel_rfl
theorem laidOut : laidOutB Try.prog = true := by kernel_rfl
theorem cells24 : Try.prog.cellsOf 24 = 4 := by kernel_rfl
theorem cells3 : Try.prog.cellsOf 3 = 1 := by kernel_rfl
theorem cells9 : Try.prog.cellsOf 9 = 1 := by kernel_rfl
theorem cells22 : Try.prog.cellsOf 22 = 1 := by kernel_rfl
theorem bytes24 : Try.prog.bytesOf 24 = 56 := by kernel_rfl

section
variable {H : Type} {enc : TypeId × Value → H} {w : World}

theorem trod_ty (n : Nat) : ∀ cs x, DataW.trod enc Try.prog w 0 (fun _ => true) true n 24 cs = some x → ∃ t : Ty, Cells w cs t.av.cells ∧ lim t := by
  induction n using Nat.strongRecOn with
  | _ n ih =>
    intro cs x h
    obtain ⟨xs, m, rfl, rfl, hl, hxl, hf⟩ := DataW.trod_struct Try.underlying24 h
    rw [cells24] at hl
    match cs, hl with
    | [c0, c1, c2, c3], _ =>
      have h0 : DataW.trod enc Try.prog w 0 (fun _ => true) true m 3 (([c0, c1, c2, c3].drop 0).take (Try.prog.cellsOf 3)) = xs[0]? := hf 0 _ rfl
      rw [cells3] at h0
      have h1 : DataW.trod enc Try.prog w 0 (fun _ => true) true m 3 (([c0, c1, c2, c3].drop 1).take (Try.prog.cellsOf 3)) = xs[1]? := hf 1 _ rfl
      rw [cells3] at h1
      have h2 : DataW.trod enc Try.prog w 0 (fun _ => true) true m 9 (([c0, c1, c2, c3].drop 2).take (Try.prog.cellsOf 9)) = xs[2]? := hf 2 _ rfl
      rw [cells9] at h2
      have h3 : DataW.trod enc Try.prog w 0 (fun _ => true) true m 22 (([c0, c1, c2, c3].drop 3).take (Try.prog.cellsOf 22)) = xs[3]? := hf 3 _ rfl
      rw [cells22] at h3
      simp only [List.drop_zero, List.drop_succ_cons, List.take_succ_cons, List.take_zero] at h0 h1 h2 h3
      have hs : ∀ i, i < 4 → ∃ y, xs[i]? = some y := fun i hi => List.getElem?_eq_some_iff.2 ⟨by rw [hxl]; exact hi, rfl⟩ |> fun h => ⟨_, h⟩
      obtain ⟨y0, hy0⟩ := hs 0 (by omega)
      obtain ⟨y1, hy1⟩ := hs 1 (by omega)
      obtain ⟨y2, hy2⟩ := hs 2 (by omega)
      obtain ⟨y3, hy3⟩ := hs 3 (by omega)
      rw [hy0] at h0
      rw [hy1] at h1
      rw [hy2] at h2
      rw [hy3] at h3
      obtain ⟨op, e0, _, _⟩ := DataW.trod_int Try.underlying3 h0
      obtain ⟨nn, e1, _, _⟩ := DataW.trod_int Try.underlying3 h1
      obtain ⟨s, e2, _, _⟩ := DataW.trod_string Try.underlying9 h2
      obtain ⟨v, l, e3, k1, k2, _, _, k5⟩ := slice_reads (α := { t : Ty // lim t }) (f := fun t => t.1.av.cells) Try.underlying22 cells24 (by omega) (fun k hk cs y hy => by
        obtain ⟨t, h1, h2⟩ := ih k (by omega) cs y hy
        exact ⟨⟨t, h2⟩, h1⟩) h3
      simp only [List.cons.injEq, and_true] at e0 e1 e2 e3
      subst e0 e1 e2 e3
      refine ⟨mk op nn s (l.map (·.1)), ?_, ?_⟩
      · rw [av_cells]
        have k6 := k2 (fun t => t.1.av) fun _ => rfl
        have k7 : l.map (fun t => t.1.av) = (l.map (·.1)).map av := by rw [List.map_map]; rfl
        rw [k7] at k6
        exact .cons rfl (.int _ _) (.cons rfl (.int _ _) (.cons rfl (.str _) (.cons k1 k6 (.nil w))))
      · simp only [lim, List.length_map]
        exact ⟨k5, lims_of _ fun x hx => by obtain ⟨y, _, rfl⟩ := List.mem_map.1 hx; exact y.2⟩

theorem open_ty {v : Value} {d : DataW H} {ps : List MemPlace} {base : Nat} (hval : Value.okWide Try.prog w .any base 24 v) (h : DataW.Trod enc Try.prog w 0 (fun _ => true) true 24 v d ps) : ∃ t : Ty, Rep ι0 F0 w v t.av ∧ lim t := by
  obtain ⟨cs, rfl, _⟩ := okWide_struct Try.underlying24 hval
  obtain ⟨n, hn⟩ := h
  obtain ⟨t, ht, hlim⟩ := trod_ty n _ _ hn
  refine ⟨t, ?_, hlim⟩
  have := Cells.agg (cs := cs) (xs := t.av.cells) (by simpa [Value.cells] using ht)
  rw [av_cells, av_fold] at this
  exact this
theorem open_tys {v : Value} {d : DataW H} {ps : List MemPlace} (h : DataW.Trod enc Try.prog w 0 (fun _ => true) true 22 v d ps) {base : Nat} (hval : Value.okWide Try.prog w .any base 22 v) :
    ∃ l : List Ty, Rep ι0 F0 w v (.list 4 .none (l.map av)) ∧ (∀ a b, d = .slice a b → l.length = a.length) ∧ (d = .nil → l = []) ∧ (d = .nil ∨ ∃ a b, d = .slice a b) := by
  obtain ⟨a, len, cap, rfl⟩ := okWide_slice Try.underlying22 hval
  obtain ⟨n, hn⟩ := h
  obtain ⟨v, l, e, k1, k2, k3, k4, _⟩ := slice_reads (f := fun t : Ty => t.av.cells) Try.underlying22 cells24 (by omega) (fun k hk cs y hy => by
    obtain ⟨t, h1, _⟩ := trod_ty k cs y hy
    exact ⟨t, h1⟩) hn
  simp [Value.cells] at e
  subst e
  refine ⟨l, k2 av fun _ => rfl, k3, k4, ?_⟩
  rcases DataW.trod_slice Try.underlying22 hn with ⟨_, h⟩ | ⟨_, _, _, _, _, _, _, _, h, _⟩
  · simp at h; exact .inl h.1
  · simp at h; exact .inr ⟨_, _, h.1⟩

theorem open_tys_sized {v : Value} {d : DataW H} {ps : List MemPlace} (h : DataW.Trod enc Try.prog w 0 (fun _ => true) true 22 v d ps) {base : Nat} (hval : Value.okWide Try.prog w .any base 22 v)
    {ts : List TypeId} {ds : List (DataW H)} (hsz : (DataW.weightsEach Try.prog ts ds).all (· ≤ reachBytes) = true) {j : Nat} (ht : ts[j]? = some 22) (hd : ds[j]? = some d) :
    ∃ l : List Ty, Rep ι0 F0 w v (.list 4 .none (l.map av)) ∧ l.length * 56 ≤ 140737488355328 := by
  obtain ⟨l, h1, h2, h3, h4⟩ := open_tys h hval
  refine ⟨l, h1, ?_⟩
  rcases h4 with rfl | ⟨a, b, rfl⟩
  · simp [h3 rfl]
  · have := sized_slice hsz ht hd Try.underlying22
    rw [bytes24] at this
    rw [h2 a b rfl]
    simp only [reachBytes] at this
    omega

theorem bytes3 : Try.prog.bytesOf 3 = 8 := by kernel_rfl
theorem open_int64 {v : Value} {d : DataW H} {ps : List MemPlace} {base : Nat} (hval : Value.okWide Try.prog w .any base 3 v) (h : DataW.Trod enc Try.prog w 0 (fun _ => true) true 3 v d ps) :
    ∃ n : Int, Rep ι0 F0 w v (.int .i64 n) ∧ -9223372036854775808 ≤ n ∧ n ≤ 9223372036854775807 := by
  obtain ⟨n, rfl, _, _, hw⟩ := open_int Try.underlying3 hval h
  exact ⟨n, .int _ _, by simpa [Lit.wf, IntKind.min, IntKind.max, IntKind.signed, IntKind.bits] using hw⟩
theorem open_ints_sized {v : Value} {d : DataW H} {ps : List MemPlace} (h : DataW.Trod enc Try.prog w 0 (fun _ => true) true 39 v d ps) {base : Nat} (hval : Value.okWide Try.prog w .any base 39 v)
    {ts : List TypeId} {ds : List (DataW H)} (hsz : (DataW.weightsEach Try.prog ts ds).all (· ≤ reachBytes) = true) {j : Nat} (ht : ts[j]? = some 39) (hd : ds[j]? = some d) :
    ∃ l : List Int, Rep ι0 F0 w v (.list 1 .none (l.map (.int .i64))) ∧ l.length * 8 ≤ 140737488355328 ∧ ∀ n ∈ l, -9223372036854775808 ≤ n ∧ n ≤ 9223372036854775807 := by
  obtain ⟨a, len, cap, rfl⟩ := okWide_slice Try.underlying39 hval
  obtain ⟨n, hn⟩ := h
  obtain ⟨v, l, e, k1, k2, k3, k4, _⟩ := slice_reads (α := { n : Int // -9223372036854775808 ≤ n ∧ n ≤ 9223372036854775807 }) (f := fun n => [.int .i64 n.1]) Try.underlying39 cells3 (by omega) (fun k hk cs y hy => by
    obtain ⟨n, rfl, _, hw⟩ := DataW.trod_int Try.underlying3 hy
    exact ⟨⟨n, by simpa [Lit.wf, IntKind.min, IntKind.max, IntKind.signed, IntKind.bits] using hw⟩, .cons rfl (.int _ _) (.nil w)⟩) hn
  simp [Value.cells] at e
  subst e
  refine ⟨l.map (·.1), ?_, ?_, ?_⟩
  · rw [List.map_map]
    exact k2 _ fun _ => rfl
  · rcases DataW.trod_slice Try.underlying39 hn with ⟨_, h⟩ | ⟨_, _, _, _, _, _, _, _, h, _⟩
    · simp at h
      have := k4 h.1
      simp [this]
    · simp at h
      have := sized_slice hsz ht (hd.trans (congrArg some h.1)) Try.underlying39
      rw [bytes3] at this
      rw [List.length_map, k3 _ _ h.1]
      simp only [reachBytes] at this
      omega
  · intro n hn
    obtain ⟨x, _, rfl⟩ := List.mem_map.1 hn
    exact x.2

end
end Go.AL.Ty
