/- Heads and spines of types. -/
import Derived.Test.YtkegioliclbbhaaE11
set_option linter.unusedVariables false
set_option linter.unusedSimpArgs false
namespace Go.AL.Ty
open Go Go.Proofs

theorem flat_avs_length (l : List Ty) : (flat (l.map av)).length = l.length * 4 := by
  rw [flat_length (sz := 4) (by simp)]; simp
theorem flat_avs_take {l : List Ty} {i : Nat} {x : Ty} (h : l[i]? = some x) : AV.agg (((flat (l.map av)).drop (i * 4)).take 4) = x.av := by
  have h4 : ∀ y ∈ l.map av, y.cells.length = 4 := by simp
  have hi : i < l.length := (List.getElem?_eq_some_iff.1 h).1
  have hx : l[i] = x := (List.getElem?_eq_some_iff.1 h).2
  have e1 : flat (l.map av) = flat ((l.take i).map av) ++ (x.av.cells ++ flat ((l.drop (i + 1)).map av)) := by
    conv => lhs; rw [← List.take_append_drop i l, List.drop_eq_getElem_cons hi]
    rw [List.map_append, List.map_cons, flat_append, flat_cons, hx]
  have hl : (flat ((l.take i).map av)).length = i * 4 := by rw [flat_avs_length, List.length_take]; omega
  rw [e1, ← hl, List.drop_left']
  · rw [List.take_append_of_le_length (by simp)]
    rw [av_cells]
    simp
  · rfl
theorem flat_avs_set {l : List Ty} {i : Nat} (x : Ty) (hi : i < l.length) : (flat (l.map av)).take (i * 4) ++ x.av.cells ++ (flat (l.map av)).drop (i * 4 + x.av.cells.length) = flat ((l.set i x).map av) := by
  have e1 : flat (l.map av) = flat ((l.take i).map av) ++ (l[i].av.cells ++ flat ((l.drop (i + 1)).map av)) := by
    conv => lhs; rw [← List.take_append_drop i l, List.drop_eq_getElem_cons hi]
    rw [List.map_append, List.map_cons, flat_append, flat_cons]
  have hl : (flat ((l.take i).map av)).length = i * 4 := by rw [flat_avs_length, List.length_take]; omega
  have t1 : (flat (l.map av)).take (i * 4) = flat ((l.take i).map av) := by rw [e1, ← hl, List.take_left']; rfl
  have t2 : (flat (l.map av)).drop (i * 4 + x.av.cells.length) = flat ((l.drop (i + 1)).map av) := by
    rw [e1, ← List.append_assoc, List.drop_left']
    rw [List.length_append, hl, av_cells, av_cells]; simp
  rw [t1, t2, List.set_eq_take_append_cons_drop, if_pos hi, List.map_append, List.map_cons, flat_append, flat_cons, List.append_assoc]

theorem flat_avs_cells {l : List Ty} {i : Nat} {x : Ty} (h : l[i]? = some x) : (((flat (l.map av)).drop (i * 4)).take 4) = x.av.cells := congrArg AV.cells (flat_avs_take h)
theorem flat_avs_set' {l : List Ty} {i : Nat} (x : Ty) (hi : i < l.length) : (flat (l.map av)).take (i * 4) ++ (x.av.cells ++ (flat (l.map av)).drop (i * 4 + 4)) = flat ((l.set i x).map av) := by
  rw [← flat_avs_set x hi, List.append_assoc, show x.av.cells.length = 4 by simp]
def I110 (l : List Ty) (o : Nat) (s : St) (n : Nat) (g : Env) (s1 : St) : Prop :=
  ∃ (i : Nat) (l' : List Ty), i ≤ l.length ∧ n = l.length - i ∧ l'.length = l.length ∧ (∀ k, k < l.length → l'[k]? = if k < i ∨ l.length - 1 - i < k then l[l.length - 1 - k]? else l[k]?) ∧
      g.get 0 = .mref 4 o 0 l.length ∧ g.get 2 = .int .i64 i ∧ g.get 3 = .int .i64 ((l.length : Int) - 1 - i) ∧ s1.m o = some (.box (flat (l'.map av))) ∧ KeptX s o s1 ∧ s.nx ≤ s1.nx
theorem p110 (l : List Ty) (o : Nat) (s : St) (K : AV → St → Prop) (hl : l.length ≤ 1000000) (ho : s.m o = some (.box (flat (l.map av)))) (hon : o < s.nx) (hK : ∀ m, s.nx ≤ m → K (.tup []) ((s.set o (.box (flat (l.reverse.map av)))).bump m)) :
    ACalls Try.prog 110 [.mref 4 o 0 l.length] s K := by
  generalize hrv : flat (l.reverse.map av) = rv at hK
  refine ACalls.upd (r := .tup []) (ob := .box rv) hon (fun_sound mixed Try.func110 Try.call110 c110 rfl (awpFun_go _ _ _ _ ?_)) fun m hm => hK m hm
  simp (implicitDefEqProofs := false) (maxSteps := 2000000) (disch := (first | omega | (simp only [St.new_nx, St.set_nx, St.del_nx, St.bump_nx]; done) | (simp only [St.new_nx, St.set_nx, St.del_nx, St.bump_nx]; omega) | fail)) [a110, a110b, a110r0]
  refine go_loop (I110 l o s) l.length ⟨0, l, by omega, by omega, rfl, fun k hk => by rw [if_neg (by omega)], ?_, ?_, ?_, ?_, ?_, ?_⟩ ?_
  · simp (implicitDefEqProofs := false) (maxSteps := 2000000) (disch := (first | omega | (simp only [St.new_nx, St.set_nx, St.del_nx, St.bump_nx]; done) | (simp only [St.new_nx, St.set_nx, St.del_nx, St.bump_nx]; omega) | fail))
  · simp (implicitDefEqProofs := false) (maxSteps := 2000000) (disch := (first | omega | (simp only [St.new_nx, St.set_nx, St.del_nx, St.bump_nx]; done) | (simp only [St.new_nx, St.set_nx, St.del_nx, St.bump_nx]; omega) | fail))
  · simp (implicitDefEqProofs := false) (maxSteps := 2000000) (disch := (first | omega | (simp only [St.new_nx, St.set_nx, St.del_nx, St.bump_nx]; done) | (simp only [St.new_nx, St.set_nx, St.del_nx, St.bump_nx]; omega) | fail))
    rw [wrap64 (by omega) (by omega)]
  · simp (implicitDefEqProofs := false) (maxSteps := 2000000) (disch := (first | omega | (simp only [St.new_nx, St.set_nx, St.del_nx, St.bump_nx]; done) | (simp only [St.new_nx, St.set_nx, St.del_nx, St.bump_nx]; omega) | fail)) [ho]
  · simp (implicitDefEqProofs := false) (maxSteps := 2000000) (disch := (first | omega | (simp only [St.new_nx, St.set_nx, St.del_nx, St.bump_nx]; done) | (simp only [St.new_nx, St.set_nx, St.del_nx, St.bump_nx]; omega) | fail))
  · simp (implicitDefEqProofs := false) (maxSteps := 2000000) (disch := (first | omega | (simp only [St.new_nx, St.set_nx, St.del_nx, St.bump_nx]; done) | (simp only [St.new_nx, St.set_nx, St.del_nx, St.bump_nx]; omega) | fail))
  rintro n g s1 ⟨i, l', hi, rfl, hll, hget, h0, h2, h3, ho1, hk, hn⟩
  by_cases hlt : (i : Int) < (l.length : Int) - 1 - i
  · have w1 : IntKind.i64.wrap ((i : Int) + 1) = ((i + 1 : Nat) : Int) := by rw [wrap64 (by omega) (by omega)]; omega
    have w2 : IntKind.i64.wrap ((l.length : Int) - 1 - i - 1) = (l.length : Int) - 1 - ((i + 1 : Nat) : Int) := by rw [wrap64 (by omega) (by omega)]; omega
    have hj : ((l.length : Int) - 1 - i).toNat = l.length - 1 - i := by omega
    have hil : i < l'.length := by omega
    have hjl : l.length - 1 - i < l'.length := by omega
    have hxi : l'[i]? = some l'[i] := by simp [hil]
    have hxj : l'[l.length - 1 - i]? = some l'[l.length - 1 - i] := by simp [hjl]
    have hfl : (flat (l'.map av)).length = l'.length * 4 := flat_avs_length l'
    simp (implicitDefEqProofs := false) (maxSteps := 2000000) (disch := (first | omega | (simp only [St.new_nx, St.set_nx, St.del_nx, St.bump_nx]; done) | (simp only [St.new_nx, St.set_nx, St.del_nx, St.bump_nx]; omega) | fail)) [a110l4, a110r1, a110r2, a110r3, h0, h2, h3, hlt, ho1, hj]
    intro m hm
    rw [flat_avs_cells hxi, flat_avs_cells hxj, flat_avs_set' _ hil, flat_avs_set' _ (by rw [List.length_set]; exact hjl)]
    refine go_next (l.length - (i + 1)) (by omega) ⟨i + 1, (l'.set i l'[l.length - 1 - i]).set (l.length - 1 - i) l'[i], by omega, rfl, by simp [hll], fun k hk => ?_, ?_, ?_, ?_, ?_, ?_, ?_⟩
    · rw [List.getElem?_set, List.getElem?_set, List.length_set]
      have h1 := hget i (by omega)
      have h2 := hget (l.length - 1 - i) (by omega)
      have h3 := hget k hk
      rw [if_neg (by omega)] at h1 h2
      rw [hxi] at h1
      rw [hxj] at h2
      by_cases e1 : l.length - 1 - i = k
      · rw [if_pos e1, if_pos (by omega), h1, if_pos (by omega)]
        congr 1; omega
      · rw [if_neg e1]
        by_cases e2 : i = k
        · rw [if_pos e2, if_pos (by omega), h2, if_pos (by omega)]
          congr 1; omega
        · rw [if_neg e2, h3]
          by_cases e3 : k < i ∨ l.length - 1 - i < k
          · rw [if_pos e3, if_pos (by omega)]
          · rw [if_neg e3, if_neg (by omega)]
    · simp (implicitDefEqProofs := false) (maxSteps := 2000000) (disch := (first | omega | (simp only [St.new_nx, St.set_nx, St.del_nx, St.bump_nx]; done) | (simp only [St.new_nx, St.set_nx, St.del_nx, St.bump_nx]; omega) | fail)) [h0]
    · simp (implicitDefEqProofs := false) (maxSteps := 2000000) (disch := (first | omega | (simp only [St.new_nx, St.set_nx, St.del_nx, St.bump_nx]; done) | (simp only [St.new_nx, St.set_nx, St.del_nx, St.bump_nx]; omega) | fail)) [w1]
    · simp (implicitDefEqProofs := false) (maxSteps := 2000000) (disch := (first | omega | (simp only [St.new_nx, St.set_nx, St.del_nx, St.bump_nx]; done) | (simp only [St.new_nx, St.set_nx, St.del_nx, St.bump_nx]; omega) | fail)) [w2]
    · simp (implicitDefEqProofs := false) (maxSteps := 2000000) (disch := (first | omega | (simp only [St.new_nx, St.set_nx, St.del_nx, St.bump_nx]; done) | (simp only [St.new_nx, St.set_nx, St.del_nx, St.bump_nx]; omega) | fail))
    · simp (implicitDefEqProofs := false) (maxSteps := 2000000) (disch := (first | omega | (simp only [St.new_nx, St.set_nx, St.del_nx, St.bump_nx]; done) | (simp only [St.new_nx, St.set_nx, St.del_nx, St.bump_nx]; omega) | fail)) [hk]
    · simp (implicitDefEqProofs := false) (maxSteps := 2000000) (disch := (first | omega | (simp only [St.new_nx, St.set_nx, St.del_nx, St.bump_nx]; done) | (simp only [St.new_nx, St.set_nx, St.del_nx, St.bump_nx]; omega) | fail)) [hn]
      omega
  · simp (implicitDefEqProofs := false) (maxSteps := 2000000) (disch := (first | omega | (simp only [St.new_nx, St.set_nx, St.del_nx, St.bump_nx]; done) | (simp only [St.new_nx, St.set_nx, St.del_nx, St.bump_nx]; omega) | fail)) [a110l4, a110r1, h0, h2, h3, hlt, ho1, hk, oneOf]
    rw [← hrv]
    congr 2
    refine List.ext_getElem? fun k => ?_
    by_cases hkl : k < l.length
    · rw [hget k hkl, List.getElem?_reverse hkl]
      split
      · rfl
      · congr 1; omega
    · rw [List.getElem?_eq_none (by omega), List.getElem?_eq_none (by simp; omega)]

/-- Parts of proper types. -/
def Gd (t : Ty) : Prop := ∃ d l, 0 ≤ d ∧ (gd t d l).1 = true
theorem Gd.of {t : Ty} (h : proper t = true) : Gd t := ⟨1, 600, by omega, h⟩
theorem Gd.spec {t : Ty} (h : Gd t) : ((t.args.length : Int) = kids t.op ∧ 0 ≤ t.n ∧ t.n ≤ 9999 ∧ 1 ≤ t.op ∧ t.op ≤ 7 ∧ (t.n ≠ 0 → isNum t.op = true) ∧ (t.op = 2 ↔ t.s ≠ ⟨#[]⟩)) ∧ ∀ x ∈ t.args, Gd x := by
  obtain ⟨d, l, hd, h⟩ := h
  rw [gd_eq] at h
  split at h
  · cases h
  split at h
  · cases h
  split at h
  · cases h
  split at h
  · cases h
  rename_i h1 h2 h3 h4
  refine ⟨⟨by omega, by omega, by omega, by omega, by omega, fun hn => ?_, ?_⟩, fun x hx => ?_⟩
  · cases hb : isNum t.op
    · exact absurd (.inr (.inr ⟨hn, hb⟩)) h3
    · rfl
  · exact Decidable.byContradiction fun hb => h4 (.inl hb)
  · obtain ⟨l', hl'⟩ := gds_spec _ _ _ h x hx
    exact ⟨d + 1, l', by omega, hl'⟩
theorem Gd.app {t : Ty} (h : Gd t) (ho : t.op = 3) : ∃ f a, t = app f a ∧ Gd f ∧ Gd a := by
  obtain ⟨⟨h1, h2, h3, h4, h5, h6, h7⟩, h8⟩ := h.spec
  cases t with
  | mk op n s args =>
    simp only [op_mk, n_mk, s_mk, args_mk] at *
    subst ho
    match args, h1 with
    | [f, a], _ =>
      refine ⟨f, a, ?_, h8 f (by simp), h8 a (by simp)⟩
      have e1 : n = 0 := Decidable.byContradiction fun hn => by simpa [isNum] using h6 hn
      have e2 : s = ⟨#[]⟩ := Decidable.byContradiction fun hn => by simpa using h7.2 hn
      rw [e1, e2]; rfl
    | [], h => simp [kids] at h
    | [_], h => simp [kids] at h
    | _ :: _ :: _ :: _, h => simp [kids] at h; omega

/-- The head and the arguments. -/
def hdl : Nat → Ty → List Ty → Ty × List Ty
  | 0, t, acc => (t, acc)
  | n + 1, t, acc => if t.op = 3 then (match t.args with | f :: a :: _ => hdl n f (a :: acc) | _ => (t, acc)) else (t, acc)
theorem ht_app (f a : Ty) : ht f < ht (app f a) ∧ ht a < ht (app f a) := ⟨ht_mem (by simp [app]), ht_mem (by simp [app])⟩

def I68 (R : Ty × List Ty) (s : St) (n : Nat) (g : Env) (s1 : St) : Prop :=
  ∃ (c : Ty) (acc : List Ty) (o : Nat), Gd c ∧ ht c ≤ n ∧ acc.length + n ≤ 1000000 ∧ hdl n c acc = R ∧ g.get 4 = .mref 4 o 0 acc.length ∧ g.get 1 = .ptr s.nx 0 ∧ g.get 2 = .ptr (s.nx + 1) 0 ∧
    s1.m s.nx = some (.box [.int .i64 c.op, .int .i64 c.n, .str c.s, .list 4 .none (c.args.map av)]) ∧ s1.m (s.nx + 1) = some (.box [.int .i64 0, .int .i64 0, .str ⟨#[]⟩, .list 0 .full []]) ∧
    s1.m o = some (.box (flat (acc.reverse.map av))) ∧ s.nx + 1 < o ∧ o < s1.nx ∧ Kept s s1

theorem p68 (t : Ty) (ht : proper t = true) (s : St) (K : AV → St → Prop) (hK : ∀ o s', s.nx ≤ o → o < s'.nx → s'.m o = some (.box (flat ((hdl t.ht t []).2.map av))) → Kept s s' → K (.tup [(hdl t.ht t []).1.av, .mref 4 o 0 (hdl t.ht t []).2.length]) s') :
    ACalls Try.prog 68 [t.av] s K := by
  refine fun_sound mixed Try.func68 Try.call68 c68 rfl (awpFun_go _ _ _ _ ?_)
  have hf := (proper_fit ht).2
  generalize hR : hdl t.ht t [] = R at hK
  simp (implicitDefEqProofs := false) (maxSteps := 2000000) (disch := (first | omega | (simp only [St.new_nx, St.set_nx, St.del_nx, St.bump_nx]; done) | (simp only [St.new_nx, St.set_nx, St.del_nx, St.bump_nx]; omega) | fail)) [a68, a68b, a68r0, a68r1]
  refine go_loop (I68 R s) t.ht ⟨t, [], s.nx + 1 + 1, .of ht, by omega, by simp; omega, hR, ?_, ?_, ?_, ?_, ?_, ?_, ?_, ?_, ?_⟩ ?_
  iterate 9 (simp (implicitDefEqProofs := false) (maxSteps := 2000000) (disch := (first | omega | (simp only [St.new_nx, St.set_nx, St.del_nx, St.bump_nx]; done) | (simp only [St.new_nx, St.set_nx, St.del_nx, St.bump_nx]; omega) | fail)))
  rintro n g s1 ⟨c, acc, o, hc, hn, hac, hh, h4, h1, h2, hC, hZ, hO, n1, n2, hk⟩
  have hfl : (flat (acc.reverse.map av)).length = acc.length * 4 := by rw [flat_avs_length, List.length_reverse]
  by_cases ho : c.op = 3
  · obtain ⟨f, a, rfl, hf, ha⟩ := hc.app ho
    have := ht_app f a
    obtain ⟨k, rfl⟩ : ∃ k, n = k + 1 := ⟨n - 1, by omega⟩
    have hh' : hdl k f (a :: acc) = R := by rw [← hh]; simp [hdl, app]
    generalize hL : flat (acc.reverse.map av) = L at hO hfl
    simp (implicitDefEqProofs := false) (maxSteps := 2000000) (disch := (first | omega | (simp only [St.new_nx, St.set_nx, St.del_nx, St.bump_nx]; done) | (simp only [St.new_nx, St.set_nx, St.del_nx, St.bump_nx]; omega) | fail)) [a68l5, a68r2, a68r3, a68r4, h4, h1, h2, hC, hZ, hO, app]
    refine ok_intro (by simp) ?_
    have e1 : AV.agg (List.take 4 ([a.av][0]?.getD AV.any).cells) = a.av := by simp
    rw [e1]
    simp (implicitDefEqProofs := false) (maxSteps := 2000000) (disch := (first | omega | (simp only [St.new_nx, St.set_nx, St.del_nx, St.bump_nx]; done) | (simp only [St.new_nx, St.set_nx, St.del_nx, St.bump_nx]; omega) | fail)) [h1, hC, hO, app]
    refine ok_intro (by simp) ?_
    have e2 : AV.agg (List.take 4 ([f.av, a.av][0]?.getD AV.any).cells) = f.av := by simp
    rw [e2]
    simp (implicitDefEqProofs := false) (maxSteps := 2000000) (disch := (first | omega | (simp only [St.new_nx, St.set_nx, St.del_nx, St.bump_nx]; done) | (simp only [St.new_nx, St.set_nx, St.del_nx, St.bump_nx]; omega) | fail)) [h1, hC]
    have hL' : L ++ [AV.int IntKind.i64 a.op, AV.int IntKind.i64 a.n, AV.str a.s, AV.list 4 Tok.none (List.map av a.args)] = flat ((a :: acc).reverse.map av) := by
      rw [← hL, List.reverse_cons, List.map_append, flat_append]; simp
    rw [hL']
    refine go_next k (by omega) ⟨f, a :: acc, s1.nx, hf, by omega, by simp; omega, hh', ?_, ?_, ?_, ?_, ?_, ?_, ?_, ?_, ?_⟩ <;> (try simp (implicitDefEqProofs := false) (maxSteps := 2000000) (disch := (first | omega | (simp only [St.new_nx, St.set_nx, St.del_nx, St.bump_nx]; done) | (simp only [St.new_nx, St.set_nx, St.del_nx, St.bump_nx]; omega) | fail)) [h4, h1, h2, hC, hZ, hk])
    omega
  · simp (implicitDefEqProofs := false) (maxSteps := 2000000) (disch := (first | omega | (simp only [St.new_nx, St.set_nx, St.del_nx, St.bump_nx]; done) | (simp only [St.new_nx, St.set_nx, St.del_nx, St.bump_nx]; omega) | fail)) [a68l5, a68r2, a68r6, a68r7, h4, h1, h2, hC, hZ, hO, ho]
    have hR' : (c, acc) = R := by rw [← hh]; cases n <;> simp [hdl, ho]
    have h110 := fun K' => p110 acc.reverse o s1 K' (by rw [List.length_reverse]; omega) hO n2
    rw [List.length_reverse, List.reverse_reverse] at h110
    refine go_calls (h110 _ fun m hm => go_of ?_)
    simp (implicitDefEqProofs := false) (maxSteps := 2000000) (disch := (first | omega | (simp only [St.new_nx, St.set_nx, St.del_nx, St.bump_nx]; done) | (simp only [St.new_nx, St.set_nx, St.del_nx, St.bump_nx]; omega) | fail)) [h4, h1, h2, hC, hZ]
    subst hR'
    refine hK o _ (by omega) ?_ ?_ ?_ <;> simp (implicitDefEqProofs := false) (maxSteps := 2000000) (disch := (first | omega | (simp only [St.new_nx, St.set_nx, St.del_nx, St.bump_nx]; done) | (simp only [St.new_nx, St.set_nx, St.del_nx, St.bump_nx]; omega) | fail)) [hk]
    omega

/-- What Spine answers. -/
def spine (t : Ty) : Ty × List Ty := hdl t.ht t []
theorem hdl_gd : ∀ (n : Nat) (t : Ty) (acc : List Ty), Gd t → (∀ x ∈ acc, Gd x) → Gd (hdl n t acc).1 ∧ ∀ x ∈ (hdl n t acc).2, Gd x
  | 0, t, acc, h, ha => ⟨h, ha⟩
  | n + 1, t, acc, h, hacc => by
    by_cases ho : t.op = 3
    · obtain ⟨f, a, rfl, hf, ha⟩ := h.app ho
      simp only [hdl, app, op_mk, args_mk, if_true]
      exact hdl_gd n f (a :: acc) hf (by simpa using ⟨ha, hacc⟩)
    · simp only [hdl, ho, if_false]
      exact ⟨h, hacc⟩
theorem Gd.fit {t : Ty} (h : Gd t) : Fit t 0 := by
  obtain ⟨d, l, hd, h⟩ := h
  have := gd_fit t d l hd h
  exact ⟨this.1, by omega, by omega⟩
theorem hdl_len : ∀ (n : Nat) (t : Ty) (acc : List Ty), (hdl n t acc).2.length ≤ acc.length + n
  | 0, t, acc => by simp [hdl]
  | n + 1, t, acc => by
    simp only [hdl]
    split
    · split
      · rename_i f a _ _
        have := hdl_len n f (a :: acc)
        simp at this; omega
      · simp
    · simp

def I25 (h : Ty) (l : List Ty) (s : St) (oh o : Nat) (n : Nat) (g : Env) (s1 : St) : Prop :=
  ∃ (i : Nat), i ≤ l.length ∧ n = l.length - i ∧ g.get 20 = .mref 4 o 0 l.length ∧ g.get 21 = .int .i64 l.length ∧ g.get 22 = .int .i64 i ∧ g.get 6 = .mref 4 o 0 l.length ∧ g.get 5 = .ptr oh 0 ∧ g.get 2 = .ptr (s.nx + 1) 0 ∧
    s1.m oh = some (.box [.int .i64 h.op, .int .i64 h.n, .str h.s, .list 4 .none (h.args.map av)]) ∧ s1.m (s.nx + 1) = some (.box [.int .i64 0, .int .i64 0, .str ⟨#[]⟩, .list 0 .full []]) ∧
    s1.m o = some (.box (flat (l.map av))) ∧ oh < s1.nx ∧ Kept s s1

theorem p25k (t : Ty) (hp : proper t = true) (s : St) (Q : AV → St → Prop) (hQ : ∀ o s', s'.m o = some (.box (flat ((spine t).2.map av))) → Kept s s' → s.nx ≤ o → Q (.tup [(spine t).1.av, .mref 4 o 0 (spine t).2.length, .int .i64 0]) s') :
    ACalls Try.prog 25 [t.av] s Q := by
  refine fun_sound mixed Try.func25 Try.call25 c25 rfl (awpFun_go _ _ _ _ ?_)
  have hgd := hdl_gd t.ht t [] (.of hp) (by simp)
  have hln := hdl_len t.ht t []
  have hft := (proper_fit hp).2
  simp (implicitDefEqProofs := false) (maxSteps := 2000000) (disch := (first | omega | (simp only [St.new_nx, St.set_nx, St.del_nx, St.bump_nx]; done) | (simp only [St.new_nx, St.set_nx, St.del_nx, St.bump_nx]; omega) | fail)) [a25, a25b, a25r0, a25r1]
  refine go_pure (p53 t) fun m hm => ?_
  simp only [St.new_nx, St.bump_nx, St.set_nx] at hm
  simp (implicitDefEqProofs := false) (maxSteps := 2000000) (disch := (first | omega | (simp only [St.new_nx, St.set_nx, St.del_nx, St.bump_nx]; done) | (simp only [St.new_nx, St.set_nx, St.del_nx, St.bump_nx]; omega) | fail)) [hp, a25r2, a25r3]
  refine go_calls (p68 t hp _ _ fun o s' ho1 ho2 ho hk => go_of ?_)
  have hz : s'.m (s.nx + 1) = some (.box [.int .i64 0, .int .i64 0, .str ⟨#[]⟩, .list 0 .full []]) := by
    rw [hk _ (by simp only [St.new_nx, St.bump_nx, St.set_nx]; omega)]
    simp (implicitDefEqProofs := false) (maxSteps := 2000000) (disch := (first | omega | (simp only [St.new_nx, St.set_nx, St.del_nx, St.bump_nx]; done) | (simp only [St.new_nx, St.set_nx, St.del_nx, St.bump_nx]; omega) | fail))
  have hks : Kept s s' := fun q hq => by
    rw [hk _ (by simp only [St.new_nx, St.bump_nx, St.set_nx]; omega)]
    simp (implicitDefEqProofs := false) (maxSteps := 2000000) (disch := (first | omega | (simp only [St.new_nx, St.set_nx, St.del_nx, St.bump_nx]; done) | (simp only [St.new_nx, St.set_nx, St.del_nx, St.bump_nx]; omega) | fail))
  simp only [St.new_nx, St.bump_nx, St.set_nx] at ho1
  rw [← spine] at ho hgd hln ⊢
  clear hk
  generalize spine t = R at *
  obtain ⟨h, l⟩ := R
  simp only at *
  simp (implicitDefEqProofs := false) (maxSteps := 2000000) (disch := (first | omega | (simp only [St.new_nx, St.set_nx, St.del_nx, St.bump_nx]; done) | (simp only [St.new_nx, St.set_nx, St.del_nx, St.bump_nx]; omega) | fail)) [a25r4]
  refine go_pure (p69 h hgd.1.fit) fun m2 hm2 => ?_
  simp only [St.new_nx, St.bump_nx, St.set_nx] at hm2
  simp (implicitDefEqProofs := false) (maxSteps := 2000000) (disch := (first | omega | (simp only [St.new_nx, St.set_nx, St.del_nx, St.bump_nx]; done) | (simp only [St.new_nx, St.set_nx, St.del_nx, St.bump_nx]; omega) | fail)) [a25r5]
  refine go_loop (I25 h l s s'.nx o) l.length ⟨0, by omega, by omega, ?_, ?_, ?_, ?_, ?_, ?_, ?_, ?_, ?_, ?_, ?_⟩ ?_
  iterate 12 (first | omega | simp (implicitDefEqProofs := false) (maxSteps := 2000000) (disch := (first | omega | (simp only [St.new_nx, St.set_nx, St.del_nx, St.bump_nx]; done) | (simp only [St.new_nx, St.set_nx, St.del_nx, St.bump_nx]; omega) | fail)) [ho, hz, hks])
  rintro n g s1 ⟨i, hi, rfl, h20, h21, h22, h6, h5, h2, hH, hZ, hO, hoh, hk⟩
  by_cases hlt : i < l.length
  · have hx : l[i]? = some l[i] := by simp [hlt]
    have hlt' : (i : Int) < l.length := by omega
    have w2 : IntKind.i64.wrap ((i : Int) + 1) = ((i + 1 : Nat) : Int) := by simp at hln; rw [wrap64 (by omega) (by omega)]; omega
    have hfl : (flat (l.map av)).length = l.length * 4 := flat_avs_length l
    simp (implicitDefEqProofs := false) (maxSteps := 2000000) (disch := (first | omega | (simp only [St.new_nx, St.set_nx, St.del_nx, St.bump_nx]; done) | (simp only [St.new_nx, St.set_nx, St.del_nx, St.bump_nx]; omega) | fail)) [a25l10, a25r6, a25r7, h20, h21, h22, h6, h5, h2, hlt', hO]
    rw [flat_avs_cells hx, av_cells]
    simp (implicitDefEqProofs := false) (maxSteps := 2000000) (disch := (first | omega | (simp only [St.new_nx, St.set_nx, St.del_nx, St.bump_nx]; done) | (simp only [St.new_nx, St.set_nx, St.del_nx, St.bump_nx]; omega) | fail)) [a25r8, h6]
    refine go_pure (p69 l[i] (hgd.2 _ (List.getElem_mem hlt)).fit) fun m3 hm3 => ?_
    simp only [St.new_nx, St.bump_nx, St.set_nx] at hm3
    have hset := flat_avs_set' l[i] hlt
    rw [List.set_getElem_self, av_cells] at hset
    simp (implicitDefEqProofs := false) (maxSteps := 2000000) (disch := (first | omega | (simp only [St.new_nx, St.set_nx, St.del_nx, St.bump_nx]; done) | (simp only [St.new_nx, St.set_nx, St.del_nx, St.bump_nx]; omega) | fail)) [h6, h22, hlt', hO, a25r9, w2]
    simp only [List.cons_append, List.nil_append] at hset
    rw [hset]
    refine go_next (l.length - (i + 1)) (by omega) ⟨i + 1, by omega, rfl, ?_, ?_, ?_, ?_, ?_, ?_, ?_, ?_, ?_, ?_, ?_⟩
    all_goals (first | omega | simp (implicitDefEqProofs := false) (maxSteps := 2000000) (disch := (first | omega | (simp only [St.new_nx, St.set_nx, St.del_nx, St.bump_nx]; done) | (simp only [St.new_nx, St.set_nx, St.del_nx, St.bump_nx]; omega) | fail)) [h20, h21, h22, h6, h5, h2, hH, hZ, hk])
    omega
  · have hlt' : ¬ (i : Int) < l.length := by omega
    simp (implicitDefEqProofs := false) (maxSteps := 2000000) (disch := (first | omega | (simp only [St.new_nx, St.set_nx, St.del_nx, St.bump_nx]; done) | (simp only [St.new_nx, St.set_nx, St.del_nx, St.bump_nx]; omega) | fail)) [a25l10, a25r6, h20, h21, h22, h6, h5, h2, hlt', hO, a25r11, hH, hZ]
    refine hQ o _ ?_ ?_ (by omega) <;> simp (implicitDefEqProofs := false) (maxSteps := 2000000) (disch := (first | omega | (simp only [St.new_nx, St.set_nx, St.del_nx, St.bump_nx]; done) | (simp only [St.new_nx, St.set_nx, St.del_nx, St.bump_nx]; omega) | fail)) [hO, hk]
theorem p25 (t : Ty) : PureC Try.prog 25 [t.av] (if proper t then .tup [(spine t).1.av, .list 4 .none ((spine t).2.map av), .int .i64 0] else .tup [nul.av, .list 4 .none [], .int .i64 2]) := by
  refine PureC.intro fun s => ?_
  by_cases hp : proper t = true
  · rw [if_pos hp]
    refine ACalls.freeze (i := 1) (p25k t hp s _ fun o s' ho hk hn => ⟨_, 4, o, _, (spine t).2.map av, rfl, rfl, ho, by simp, by simp, ?_⟩)
    simp (implicitDefEqProofs := false) (maxSteps := 2000000) (disch := (first | omega | (simp only [St.new_nx, St.set_nx, St.del_nx, St.bump_nx]; done) | (simp only [St.new_nx, St.set_nx, St.del_nx, St.bump_nx]; omega) | fail)) [hk]
  · rw [if_neg hp]
    refine fun_sound mixed Try.func25 Try.call25 c25 rfl (awpFun_go _ _ _ _ ?_)
    simp (implicitDefEqProofs := false) (maxSteps := 2000000) (disch := (first | omega | (simp only [St.new_nx, St.set_nx, St.del_nx, St.bump_nx]; done) | (simp only [St.new_nx, St.set_nx, St.del_nx, St.bump_nx]; omega) | fail)) [a25, a25b, a25r0, a25r1]
    refine go_pure (p53 t) fun m hm => ?_
    simp only [St.new_nx, St.bump_nx, St.set_nx] at hm
    simp (implicitDefEqProofs := false) (maxSteps := 2000000) (disch := (first | omega | (simp only [St.new_nx, St.set_nx, St.del_nx, St.bump_nx]; done) | (simp only [St.new_nx, St.set_nx, St.del_nx, St.bump_nx]; omega) | fail)) [hp, a25r2, nul, av_mk]
end Go.AL.Ty
