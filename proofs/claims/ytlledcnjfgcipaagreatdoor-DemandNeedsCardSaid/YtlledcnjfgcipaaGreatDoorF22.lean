/- What is well formed is small in its parts; free variables: the program's set. -/
import Derived.Test.YtlledcnjfgcipaaGreatDoorS1
import Derived.Test.YtlledcnjfgcipaaGreatDoorD2
import Derived.ChangeMaps5
import Derived.Test.YtlledcnjfgcipaaGreatDoorRows
import Derived.WideKeyElems2
import Derived.OpenShut
import Derived.FnData
import Derived.MakeChecks
import Derived.Shelf.Sort.Plain
import Derived.Shelf.Slices.In.SortNone
import Derived.Test.YtlledcnjfgcipaaGreatDoorProg
import Derived.KernelRfl
import Derived.Shelf.Slices.CompactS
set_option linter.unusedVariables false
set_option linter.unusedSimpArgs false
namespace Go.AL.Dm
open Go Go.Proofs
theorem altsOK_head : ∀ (l : List (Hd × Pl)) (pre : List Hd), altsOK pre l = true → ∀ a ∈ l, a.1.op = 2 → 0 ≤ a.1.n ∧ a.1.n ≤ 12
 | [], _, _, a, ha, _ => by simp at ha
 | b :: r, pre, h, a, ha, h2 => by
  rw [altsOK, Bool.and_eq_true] at h
  obtain ⟨h1, h3⟩ := h
  rcases List.mem_cons.1 ha with rfl | ha
  ·rw [headOK, if_neg (by omega), if_pos h2] at h1
   simp at h1
   exact h1.2
  ·split at h3
   ·exact altsOK_head r pre h3 a ha h2
   ·rw [Bool.and_eq_true] at h3
    exact altsOK_head r _ h3.2 a ha h2
structure Nd (t : Pl) : Prop where
 var : t.op = 1 → 0 ≤ t.n ∧ t.args = [] ∧ t.alts = []
 lam : t.op = 5 → 1 ≤ t.n ∧ t.n ≤ 8 ∧ t.args.length = 1
 app : t.op = 6 → 2 ≤ t.args.length ∧ t.args.length ≤ 9
 lt : t.op = 7 → 2 ≤ t.args.length ∧ t.args.length ≤ 13
 cas : t.op = 8 → t.args.length = 1 ∧ 1 ≤ t.alts.length ∧ t.alts.length ≤ 40
 len : t.args.length ≤ 13
 noalts : t.op ≠ 8 → t.alts = []
 hd : ∀ a ∈ t.alts, a.1.op = 2 → 0 ≤ a.1.n ∧ a.1.n ≤ 12
 prm : t.op = 9 → ∃ k, arI t.s = some k ∧ (t.args.length : Int) = k
 op : 1 ≤ t.op ∧ t.op ≤ 9
theorem arI_le2 {s : ByteArray} {k : Int} (h : arI s = some k) : 0 ≤ k ∧ k ≤ 2 := by
 unfold arI at h
 split at h
 ·cases h
 ·have hm : k ∈ ars := List.mem_of_getElem? h
  simp [ars] at hm
  omega
theorem nd_of {t : Pl} (h : nodeOK t = true) : Nd t := by
 simp only [nodeOK, Bool.and_eq_true, Bool.not_eq_true', Bool.and_eq_false_iff, decide_eq_false_iff_not, decide_eq_true_eq] at h
 obtain ⟨⟨⟨h1, h2⟩, h3⟩, h4⟩ := h
 have hna : t.op ≠ 8 → t.alts = [] := fun h8 => by
  rcases h1 with h1 | h1
  ·exact absurd h8 h1
  ·exact List.eq_nil_of_length_eq_zero (by omega)
 unfold formOK at h4
 refine ⟨fun e => ?_, fun e => ?_, fun e => ?_, fun e => ?_, fun e => ?_, ?_, hna, ?_, fun e => ?_, ?_⟩
 ·rw [if_pos e] at h4
  simp at h4
  exact ⟨h4.1, h4.2, hna (by omega)⟩
 ·simp [e] at h4
  omega
 ·simp [e] at h4
  omega
 ·simp [e] at h4
  omega
 ·simp [e] at h4
  omega
 ·by_cases e9 : t.op = 9
  ·simp [e9] at h4
   cases ha : arI t.s with
   | none => simp [ha] at h4
   | some k => simp [ha] at h4; have := arI_le2 ha; omega
  repeat' split at h4
  all_goals (try (simp at h4; omega))
  all_goals simp at h4
  all_goals (try simp [h4])
 ·intro a ha
  by_cases e : t.op = 8
  ·simp [e] at h4
   exact altsOK_head _ _ h4.2.2 a ha
  ·rw [hna e] at ha; simp at ha
 ·simp [e] at h4
  cases ha : arI t.s with
  | none => simp [ha] at h4
  | some k => simp [ha] at h4; exact ⟨k, rfl, h4⟩
 ·repeat' split at h4
  all_goals (first | omega | (simp at h4))
theorem wfs_mem : ∀ {l : List Pl}, wfs l = true → ∀ x ∈ l, wf x = true
 | [], _, x, hx => by simp at hx
 | y :: l, h, x, hx => by
  rw [wfs, Bool.and_eq_true] at h
  rcases List.mem_cons.1 hx with rfl | hx
  ·exact h.1
  ·exact wfs_mem h.2 x hx
theorem wfa_mem : ∀ {l : List (Hd × Pl)}, wfa l = true → ∀ x ∈ l, wf x.2 = true
 | [], _, x, hx => by simp at hx
 | (hh, y) :: l, h, x, hx => by
  rw [wfa, Bool.and_eq_true] at h
  rcases List.mem_cons.1 hx with rfl | hx
  ·exact h.1
  ·exact wfa_mem h.2 x hx
theorem wf_nd {t : Pl} (h : wf t = true) : Nd t ∧ (∀ x ∈ t.args, wf x = true) ∧ (∀ a ∈ t.alts, wf a.2 = true) := by
 rw [wf_eq, Bool.and_eq_true, Bool.and_eq_true] at h
 exact ⟨nd_of h.1.1, wfs_mem h.1.2, wfa_mem h.2⟩
theorem szs_mem : ∀ {l : List Pl} {x : Pl}, x ∈ l → sz x ≤ szs l
 | y :: l, x, hx => by
  have h2 := szs_pos l fun x _ => sz_pos x
  have h3 := sz_pos y
  rcases List.mem_cons.1 hx with rfl | hx
  ·simp only [szs]; omega
  ·have := szs_mem hx; simp only [szs]; omega
theorem sza_mem : ∀ {l : List (Hd × Pl)} {x : Hd × Pl}, x ∈ l → 1 + sz x.2 ≤ sza l
 | (hh, y) :: l, x, hx => by
  have h2 := sza_pos l fun x _ => sz_pos x.2
  have h3 := sz_pos y
  rcases List.mem_cons.1 hx with rfl | hx
  ·simp only [sza]; omega
  ·have := sza_mem hx; simp only [sza]; omega
theorem dws_mem : ∀ {l : List Pl} {x : Pl}, x ∈ l → dw x ≤ dws l
 | y :: l, x, hx => by
  rcases List.mem_cons.1 hx with rfl | hx
  ·simp only [dws]; omega
  ·have := dws_mem hx; simp only [dws]; omega
theorem dwa_mem : ∀ {l : List (Hd × Pl)} {x : Hd × Pl}, x ∈ l → 1 + dw x.2 ≤ dwa l
 | (hh, y) :: l, x, hx => by
  rcases List.mem_cons.1 hx with rfl | hx
  ·simp only [dwa]; omega
  ·have := dwa_mem hx; simp only [dwa]; omega
theorem arg_lt {t x : Pl} (h : x ∈ t.args) : sz x < sz t ∧ dw x < dw t := by
 have h1 := szs_mem h
 have h2 := dws_mem h
 have h3 := sza_pos t.alts fun x _ => sz_pos x.2
 rw [sz_eq t, dw_eq t]; omega
theorem alt_lt {t : Pl} {x : Hd × Pl} (h : x ∈ t.alts) : sz x.2 + 1 < sz t ∧ dw x.2 + 1 < dw t := by
 have h1 := sza_mem h
 have h2 := dwa_mem h
 have h3 := szs_pos t.args fun x _ => sz_pos x
 rw [sz_eq t, dw_eq t]; omega
theorem small_arg {t x : Pl} (h : small t) (hx : x ∈ t.args) : small x := by have := arg_lt hx; have := h.1; have := h.2; exact ⟨by omega, by omega⟩
theorem small_alt {t : Pl} {a : Hd × Pl} (h : small t) (hx : a ∈ t.alts) : small a.2 := by have := alt_lt hx; have := h.1; have := h.2; exact ⟨by omega, by omega⟩
theorem Nd.inn {t : Pl} (h : Nd t) : 0 ≤ inn t ∧ inn t ≤ 12 := by
 unfold Dm.inn
 split
 ·rename_i e; have := h.lam e; omega
 ·split
  ·rename_i e; have := h.lt e; omega
  ·omega
theorem Nd.bnd {t : Pl} (h : Nd t) {a : Hd × Pl} (ha : a ∈ t.alts) : 1 ≤ bnd a.1 ∧ bnd a.1 ≤ 13 := by
 unfold Dm.bnd
 split
 ·rename_i e; have := h.hd a ha e; omega
 ·omega
theorem parts_mem {t : Pl} {p : Int × Pl} (h : p ∈ parts t) : (p.1 = inn t ∧ p.2 ∈ t.args) ∨ ∃ a ∈ t.alts, p = (bnd a.1, a.2) := by
 simp only [parts, List.mem_append, List.mem_map] at h
 rcases h with ⟨x, hx, rfl⟩ | ⟨a, ha, rfl⟩
 ·exact .inl ⟨rfl, hx⟩
 ·exact .inr ⟨a, ha, rfl⟩
theorem parts_wf {t : Pl} (h : wf t = true) (hs : small t) {p : Int × Pl} (hp : p ∈ parts t) : wf p.2 = true ∧ small p.2 ∧ 0 ≤ p.1 ∧ p.1 ≤ 13 ∧ sz p.2 < sz t ∧ dw p.2 < dw t := by
 obtain ⟨h1, h2, h3⟩ := wf_nd h
 rcases parts_mem hp with ⟨e, hx⟩ | ⟨a, ha, rfl⟩
 ·have := arg_lt hx
  have := h1.inn
  exact ⟨h2 _ hx, small_arg hs hx, by omega, by omega, by omega, by omega⟩
 ·have := alt_lt ha
  have := h1.bnd ha
  exact ⟨h3 _ ha, small_alt hs ha, by simp only; omega, by simp only; omega, by simp only; omega, by simp only; omega⟩
theorem parts_ind {C : Pl → Prop} (h : ∀ t, (∀ p ∈ parts t, C p.2) → C t) (t : Pl) : C t := by
 induction t using Pl.ind with
 | h t ih1 ih2 =>
  refine h t fun p hp => ?_
  rcases parts_mem hp with ⟨e, hx⟩ | ⟨a, ha, rfl⟩
  ·exact ih1 _ hx
  ·exact ih2 a ha
theorem fvp_take {l : List (Int × Pl)} {i : Nat} (h : i < l.length) (u : Int) : fvp (l.take (i + 1)) u = fvp (l.take i) u ++ fv l[i].2 (u + l[i].1) := by
 rw [List.take_succ_eq_append_getElem h, fvp_append]
 simp [fvp]
def i64 (n : Int) : Prop := -9223372036854775808 ≤ n ∧ n ≤ 9223372036854775807
mutual
def rng : Pl → Prop
 | .mk op n s args alts => i64 op ∧ i64 n ∧ rngs args ∧ rnga alts
def rngs : List Pl → Prop
 | [] => True
 | t :: ts => rng t ∧ rngs ts
def rnga : List (Hd × Pl) → Prop
 | [] => True
 | (h, b) :: ts => (i64 h.op ∧ i64 h.n ∧ rng b) ∧ rnga ts
end
theorem rngs_iff : ∀ (l : List Pl), rngs l ↔ ∀ x ∈ l, rng x
 | [] => by simp [rngs]
 | y :: l => by simp [rngs, rngs_iff l]
theorem rnga_iff : ∀ (l : List (Hd × Pl)), rnga l ↔ ∀ x ∈ l, i64 x.1.op ∧ i64 x.1.n ∧ rng x.2
 | [] => by simp [rnga]
 | (hh, y) :: l => by simp [rnga, rnga_iff l]
theorem rng_eq (t : Pl) : rng t ↔ i64 t.op ∧ i64 t.n ∧ (∀ x ∈ t.args, rng x) ∧ ∀ a ∈ t.alts, i64 a.1.op ∧ i64 a.1.n ∧ rng a.2 := by
 cases t; rw [rng, rngs_iff, rnga_iff]; rfl
theorem rng_part {t : Pl} (h : rng t) {p : Int × Pl} (hp : p ∈ parts t) : rng p.2 := by
 rw [rng_eq] at h
 rcases parts_mem hp with ⟨e, hx⟩ | ⟨a, ha, rfl⟩
 ·exact h.2.2.1 _ hx
 ·exact (h.2.2.2 a ha).2.2
def C144 (t : Pl) : Prop := ∀ (u : Int) (l : List Int) (o : Nat) (s : St) (K : AV → St → Prop), wf t = true → small t → rng t → 0 ≤ u → u + 13 * dw t ≤ 100000 → s.m o = some (obS l) → o < s.nx →
 (∀ m, s.nx ≤ m → K (.tup []) ((s.set o (obS (adds l (fv t u)))).bump m)) → ACalls Tryz.prog 144 [.map o, t.av, .int .i64 u] s K
def J144 (t : Pl) (o : Nat) (u : Int) (l : List Int) (lo : Nat) (E : Env) (ca cb : Code) (s : St) (i : Nat) (s' : St) : Prop :=
 s'.m lo = some (.loop 0 none E [22, 23] 30 ca cb) ∧ s'.m o = some (obS (adds l (fvp ((parts t).take i) u))) ∧ s'.m s.nx = some (.box [.map o]) ∧ s'.m (s.nx + 1 + 1) = some (.box [.int .i64 u]) ∧ KeptX s o s' ∧ lo < s'.nx
theorem p144 (t : Pl) : C144 t := by
 induction t using parts_ind with
 | h t ih =>
 intro u l o s K hw hsm hr hu hu2 ho hon hK
 refine ACalls.upd (r := .tup []) (ob := obS (adds l (fv t u))) hon (fun_sound mixed Tryz.func144 Tryz.call144 c144 rfl (awpFun_go _ _ _ _ ?_)) hK
 obtain ⟨hnd, hwa, hwb⟩ := wf_nd hw
 have hr' := (rng_eq t).1 hr
 by_cases o1 : t.op = 1
 ·have hn := (hnd.var o1).1
  have h64 := hr'.2.1
  unfold i64 at h64
  have hdw := dw_pos t
  have w1 : IntKind.i64.wrap (t.n - u) = t.n - u := wrap64 (by omega) (by omega)
  rw [fv_eq, if_pos o1]
  simp -implicitDefEqProofs (disch:=first|omega|simp only[nx4]<;>omega|fail) [a144, a144b, a144r0, a144r1, a144r2, a144r3, o1, w1]
  refine ⟨fun h => ?_, fun h => ?_⟩
  ·rw [if_pos h]
   rw [ho]
   refine up_set _ _ _ _ _ ?_
   simp -implicitDefEqProofs (disch:=first|omega|simp only[nx4]<;>omega|fail) [adds_one]
   exact wk_refl _
  ·rw [if_neg (by omega)]
   simp -implicitDefEqProofs (disch:=first|omega|simp only[nx4]<;>omega|fail) [ho]
   exact wk_refl _
 ·simp -implicitDefEqProofs (disch:=first|omega|simp only[nx4]<;>omega|fail) [a144, a144b, a144r0, a144r1, a144r4, o1]
  refine go_pure (p103 t) fun mm1 hm1 => ?_
  try simp only [nx4] at hm1
  simp -implicitDefEqProofs (disch:=first|omega|simp only[nx4]<;>omega|fail) []
  refine go_range rfl fun ca cb hY => ?_
  simp -implicitDefEqProofs (disch:=first|omega|simp only[nx4]<;>omega|fail) at hY ⊢
  have hpl : (parts t).length ≤ 100 := by
   rw [parts_len]
   have := hnd.len
   by_cases o8 : t.op = 8
   ·have := hnd.cas o8; omega
   ·rw [hnd.noalts o8]; simp; omega
  generalize hE : [(3, AV.ptr s.nx 0), (5, AV.ptr (s.nx + 1 + 1) 0), (6, AV.any), (7, AV.any), (22, AV.any), (23, AV.any)] = E at hY ⊢
  have hpl2 := hpl
  rw [parts_len] at hpl2
  rw [← Pl.av_cells t]
  refine ACalls.mono (p143 t (by omega) (by omega) (fun a ha h2 => by have := hnd.hd a ha h2; omega) mm1 (J144 t o u l mm1 E ca cb s) (fun _ => False) ?_ ?_ _ ?_) fun _ s' hn' hJ => ?_
  ·rintro i s1 s2 ⟨j1, j2, j3, j4, j5, j6⟩ h1 h2
   exact ⟨(h1 _ j6).trans j1, (h1 _ (by omega)).trans j2, (h1 _ (by omega)).trans j3, (h1 _ (by omega)).trans j4, fun q hq hq2 => (h1 q (by omega)).trans (j5 q hq hq2), by omega⟩
  ·rintro i hi s1 ⟨j1, j2, j3, j4, j5, j6⟩
   have hp := parts_wf hw hsm (List.getElem_mem hi)
   have hrp := rng_part hr (List.getElem_mem hi)
   have ihp := ih _ (List.getElem_mem hi)
   generalize hx : (parts t)[i] = p at hp hrp ihp ⊢
   obtain ⟨q1, q2, q3, q4, q5, q6⟩ := hp
   have w2 : IntKind.i64.wrap (u + p.1) = u + p.1 := wrap64 (by have := dw_pos t; omega) (by have := dw_pos t; omega)
   refine rnd_go hY j1 rfl ?_
   subst hE
   simp -implicitDefEqProofs (disch:=first|omega|simp only[nx4]<;>omega|fail) [a144x8, a144r5, a144r6, a144y8, a144r7, j1, j2, j3, j4, w2]
   refine go_calls (ihp (u + p.1) (adds l (fvp ((parts t).take i) u)) o _ _ q1 q2 hrp (by omega) (by omega) (by simp -implicitDefEqProofs (disch:=first|omega|simp only[nx4]<;>omega|fail) [j2]) (by simp -implicitDefEqProofs (disch:=first|omega|simp only[nx4]<;>omega|fail); omega) fun m hm => go_of ?_)
   simp only [nx4] at hm
   simp -implicitDefEqProofs (disch:=first|omega|simp only[nx4]<;>omega|fail) [j1]
   refine ⟨?_, ?_, ?_, ?_, ?_, ?_⟩
   ·simp -implicitDefEqProofs (disch:=first|omega|simp only[nx4]<;>omega|fail)
   ·simp -implicitDefEqProofs (disch:=first|omega|simp only[nx4]<;>omega|fail) [fvp_take hi, hx, adds_append]
   ·simp -implicitDefEqProofs (disch:=first|omega|simp only[nx4]<;>omega|fail) [j3]
   ·simp -implicitDefEqProofs (disch:=first|omega|simp only[nx4]<;>omega|fail) [j4]
   ·simp -implicitDefEqProofs (disch:=first|omega|simp only[nx4]<;>omega|fail) [j5]
   ·simp -implicitDefEqProofs (disch:=first|omega|simp only[nx4]<;>omega|fail)
    omega
  ·refine ⟨?_, ?_, ?_, ?_, ?_, ?_⟩
   ·simp -implicitDefEqProofs (disch:=first|omega|simp only[nx4]<;>omega|fail)
   ·simp -implicitDefEqProofs (disch:=first|omega|simp only[nx4]<;>omega|fail) [fvp, ho]
   ·simp -implicitDefEqProofs (disch:=first|omega|simp only[nx4]<;>omega|fail)
   ·simp -implicitDefEqProofs (disch:=first|omega|simp only[nx4]<;>omega|fail)
   ·simp -implicitDefEqProofs (disch:=first|omega|simp only[nx4]<;>omega|fail)
   ·simp -implicitDefEqProofs (disch:=first|omega|simp only[nx4]<;>omega|fail)
  ·rcases hJ with ⟨j1, j2, j3, j4, j5, j6⟩ | h
   ·refine rangeR_end j1 (by omega) ?_
    simp -implicitDefEqProofs (disch:=first|omega|simp only[nx4]<;>omega|fail)
    refine ⟨wk_refl _, ?_, ?_⟩
    ·rw [j2, List.take_length, fv_parts t u o1]
    ·simp -implicitDefEqProofs (disch:=first|omega|simp only[nx4]<;>omega|fail) [j5]
   ·exact h.elim
end Go.AL.Dm
set_option maxRecDepth 100000
namespace Go.AL.Dm
open Go Go.Proofs Go.ChangeShapes Go.WideShapes Go.ChangeAt Go.RowKit
theorem own : ownKnob Tryz.prog.godebug = none := by kernel_rfl
theorem laidOut : laidOutB Tryz.prog = true := by kernel_rfl
theorem cells27 : Tryz.prog.cellsOf 27 = 5 := by kernel_rfl
theorem cells114 : Tryz.prog.cellsOf 114 = 8 := by kernel_rfl
theorem cells40 : Tryz.prog.cellsOf 40 = 6 := by kernel_rfl
theorem cells3 : Tryz.prog.cellsOf 3 = 1 := by kernel_rfl
theorem cells9 : Tryz.prog.cellsOf 9 = 1 := by kernel_rfl
theorem cells23 : Tryz.prog.cellsOf 23 = 1 := by kernel_rfl
theorem cells25 : Tryz.prog.cellsOf 25 = 1 := by kernel_rfl
theorem rngs_of {l : List Pl} (h : ∀ x ∈ l, rng x) : rngs l := (rngs_iff l).2 h
theorem rnga_of : ∀ {l : List (Hd × Pl)}, (∀ x ∈ l, i64 x.1.op ∧ i64 x.1.n ∧ rng x.2) → rnga l
 | [], _ => trivial
 | (h0, b) :: l, h => ⟨h (h0, b) (by simp), rnga_of fun x hx => h x (by simp [hx])⟩
section
variable {H : Type} {enc : TypeId × Value → H} {w : World}
theorem i64_of {n : Int} (hw : Lit.wf (.int .i64 n) = true) : i64 n := by simpa [i64, Lit.wf, IntKind.min, IntKind.max, IntKind.signed, IntKind.bits] using hw
theorem trod_pl (n : Nat) : (∀ cs x, DataW.trod enc Tryz.prog w 0 (fun _ => true) true n 27 cs = some x → ∃ t : Pl, Cells w cs t.av.cells ∧ rng t) ∧
  (∀ cs x, DataW.trod enc Tryz.prog w 0 (fun _ => true) true n 114 cs = some x → ∃ a : Hd × Pl, Cells w cs (Pl.altv a).cells ∧ i64 a.1.op ∧ i64 a.1.n ∧ rng a.2) := by
 induction n using Nat.strongRecOn with
 | _ n ih =>
  refine ⟨fun cs x h => ?_, fun cs x h => ?_⟩
  ·obtain ⟨xs, m, rfl, rfl, hl, hxl, hf⟩ := DataW.trod_struct Tryz.underlying27 h
   rw [cells27] at hl
   match cs, hl with
   | [c0, c1, c2, c3, c4], _ =>
    have h0 : DataW.trod enc Tryz.prog w 0 (fun _ => true) true m 3 (([c0, c1, c2, c3, c4].drop 0).take (Tryz.prog.cellsOf 3)) = xs[0]? := hf 0 _ rfl
    rw [cells3] at h0
    have h1 : DataW.trod enc Tryz.prog w 0 (fun _ => true) true m 3 (([c0, c1, c2, c3, c4].drop 1).take (Tryz.prog.cellsOf 3)) = xs[1]? := hf 1 _ rfl
    rw [cells3] at h1
    have h2 : DataW.trod enc Tryz.prog w 0 (fun _ => true) true m 9 (([c0, c1, c2, c3, c4].drop 2).take (Tryz.prog.cellsOf 9)) = xs[2]? := hf 2 _ rfl
    rw [cells9] at h2
    have h3 : DataW.trod enc Tryz.prog w 0 (fun _ => true) true m 23 (([c0, c1, c2, c3, c4].drop 3).take (Tryz.prog.cellsOf 23)) = xs[3]? := hf 3 _ rfl
    rw [cells23] at h3
    have h4 : DataW.trod enc Tryz.prog w 0 (fun _ => true) true m 25 (([c0, c1, c2, c3, c4].drop 4).take (Tryz.prog.cellsOf 25)) = xs[4]? := hf 4 _ rfl
    rw [cells25] at h4
    simp only [List.drop_zero, List.drop_succ_cons, List.take_succ_cons, List.take_zero] at h0 h1 h2 h3 h4
    have hs : ∀ i, i < 5 → ∃ y, xs[i]? = some y := fun i hi => ⟨_, List.getElem?_eq_getElem (by rw [hxl]; exact hi)⟩
    obtain ⟨y0, hy0⟩ := hs 0 (by omega)
    obtain ⟨y1, hy1⟩ := hs 1 (by omega)
    obtain ⟨y2, hy2⟩ := hs 2 (by omega)
    obtain ⟨y3, hy3⟩ := hs 3 (by omega)
    obtain ⟨y4, hy4⟩ := hs 4 (by omega)
    rw [hy0] at h0
    rw [hy1] at h1
    rw [hy2] at h2
    rw [hy3] at h3
    rw [hy4] at h4
    obtain ⟨op, e0, _, w0⟩ := DataW.trod_int Tryz.underlying3 h0
    obtain ⟨nn, e1, _, w1⟩ := DataW.trod_int Tryz.underlying3 h1
    obtain ⟨s, e2, _, _⟩ := DataW.trod_string Tryz.underlying9 h2
    obtain ⟨v, l, e3, k1, k2, _, _, _⟩ := slice_reads (α := { t : Pl // rng t }) (f := fun t => t.1.av.cells) Tryz.underlying23 cells27 (by omega) (fun k hk cs y hy => by
     obtain ⟨t, h1, h2⟩ := (ih k (by omega)).1 cs y hy
     exact ⟨⟨t, h2⟩, h1⟩) h3
    obtain ⟨v', l', e4, k1', k2', _, _, _⟩ := slice_reads (α := { a : Hd × Pl // i64 a.1.op ∧ i64 a.1.n ∧ rng a.2 }) (f := fun t => (Pl.altv t.1).cells) Tryz.underlying25 cells114 (by omega) (fun k hk cs y hy => by
     obtain ⟨t, h1, h2⟩ := (ih k (by omega)).2 cs y hy
     exact ⟨⟨t, h2⟩, h1⟩) h4
    simp only [List.cons.injEq, and_true] at e0 e1 e2 e3 e4
    subst e0 e1 e2 e3 e4
    refine ⟨.mk op nn s (l.map (·.1)) (l'.map (·.1)), ?_, ?_⟩
    ·rw [Pl.av_cells]
     have k6 := k2 (fun t => t.1.av) fun _ => rfl
     have k6' := k2' (fun t => Pl.altv t.1) fun _ => rfl
     have k7 : l.map (fun t => t.1.av) = (l.map (·.1)).map Pl.av := by rw [List.map_map]; rfl
     have k7' : l'.map (fun t => Pl.altv t.1) = (l'.map (·.1)).map Pl.altv := by rw [List.map_map]; rfl
     rw [k7] at k6
     rw [k7'] at k6'
     exact .cons rfl (.int _ _) (.cons rfl (.int _ _) (.cons rfl (.str _) (.cons k1 k6 (.cons k1' k6' (.nil w)))))
    ·rw [rng]
     exact ⟨i64_of w0, i64_of w1, rngs_of fun x hx => by obtain ⟨y, _, rfl⟩ := List.mem_map.1 hx; exact y.2, rnga_of fun x hx => by obtain ⟨y, _, rfl⟩ := List.mem_map.1 hx; exact y.2⟩
  ·obtain ⟨xs, m, rfl, rfl, hl, hxl, hf⟩ := DataW.trod_struct Tryz.underlying114 h
   rw [cells114] at hl
   match cs, hl with
   | [c0, c1, c2, c3, c4, c5, c6, c7], _ =>
    have h0 : DataW.trod enc Tryz.prog w 0 (fun _ => true) true m 3 (([c0, c1, c2, c3, c4, c5, c6, c7].drop 0).take (Tryz.prog.cellsOf 3)) = xs[0]? := hf 0 _ rfl
    rw [cells3] at h0
    have h1 : DataW.trod enc Tryz.prog w 0 (fun _ => true) true m 9 (([c0, c1, c2, c3, c4, c5, c6, c7].drop 1).take (Tryz.prog.cellsOf 9)) = xs[1]? := hf 1 _ rfl
    rw [cells9] at h1
    have h2 : DataW.trod enc Tryz.prog w 0 (fun _ => true) true m 3 (([c0, c1, c2, c3, c4, c5, c6, c7].drop 2).take (Tryz.prog.cellsOf 3)) = xs[2]? := hf 2 _ rfl
    rw [cells3] at h2
    have h3 : DataW.trod enc Tryz.prog w 0 (fun _ => true) true m 27 (([c0, c1, c2, c3, c4, c5, c6, c7].drop 3).take (Tryz.prog.cellsOf 27)) = xs[3]? := hf 3 _ rfl
    rw [cells27] at h3
    simp only [List.drop_zero, List.drop_succ_cons, List.take_succ_cons, List.take_zero] at h0 h1 h2 h3
    have hs : ∀ i, i < 4 → ∃ y, xs[i]? = some y := fun i hi => ⟨_, List.getElem?_eq_getElem (by rw [hxl]; exact hi)⟩
    obtain ⟨y0, hy0⟩ := hs 0 (by omega)
    obtain ⟨y1, hy1⟩ := hs 1 (by omega)
    obtain ⟨y2, hy2⟩ := hs 2 (by omega)
    obtain ⟨y3, hy3⟩ := hs 3 (by omega)
    rw [hy0] at h0
    rw [hy1] at h1
    rw [hy2] at h2
    rw [hy3] at h3
    obtain ⟨op, e0, _, w0⟩ := DataW.trod_int Tryz.underlying3 h0
    obtain ⟨s, e1, _, _⟩ := DataW.trod_string Tryz.underlying9 h1
    obtain ⟨nn, e2, _, w2⟩ := DataW.trod_int Tryz.underlying3 h2
    obtain ⟨t, ht, hrt⟩ := (ih m (by omega)).1 _ _ h3
    simp only [List.cons.injEq, and_true] at e0 e1 e2
    subst e0 e1 e2
    refine ⟨(⟨op, s, nn⟩, t), ?_, i64_of w0, i64_of w2, hrt⟩
    rw [Pl.av_cells] at ht
    rw [Pl.altv_cells]
    exact .cons rfl (.int _ _) (.cons rfl (.str _) (.cons rfl (.int _ _) ht))
theorem trod_gl (n : Nat) : ∀ cs x, DataW.trod enc Tryz.prog w 0 (fun _ => true) true n 40 cs = some x → ∃ g : Gl, Cells w cs g.av.cells ∧ rng g.body := by
 intro cs x h
 obtain ⟨xs, m, rfl, rfl, hl, hxl, hf⟩ := DataW.trod_struct Tryz.underlying40 h
 rw [cells40] at hl
 match cs, hl with
 | [c0, c1, c2, c3, c4, c5], _ =>
  have h0 : DataW.trod enc Tryz.prog w 0 (fun _ => true) true m 9 (([c0, c1, c2, c3, c4, c5].drop 0).take (Tryz.prog.cellsOf 9)) = xs[0]? := hf 0 _ rfl
  rw [cells9] at h0
  have h1 : DataW.trod enc Tryz.prog w 0 (fun _ => true) true m 27 (([c0, c1, c2, c3, c4, c5].drop 1).take (Tryz.prog.cellsOf 27)) = xs[1]? := hf 1 _ rfl
  rw [cells27] at h1
  simp only [List.drop_zero, List.drop_succ_cons, List.take_succ_cons, List.take_zero] at h0 h1
  have hs : ∀ i, i < 2 → ∃ y, xs[i]? = some y := fun i hi => ⟨_, List.getElem?_eq_getElem (by rw [hxl]; exact hi)⟩
  obtain ⟨y0, hy0⟩ := hs 0 (by omega)
  obtain ⟨y1, hy1⟩ := hs 1 (by omega)
  rw [hy0] at h0
  rw [hy1] at h1
  obtain ⟨s, e0, _, _⟩ := DataW.trod_string Tryz.underlying9 h0
  obtain ⟨t, ht, hrt⟩ := (trod_pl m).1 _ _ h1
  simp only [List.cons.injEq, and_true] at e0
  subst e0
  refine ⟨⟨s, t⟩, ?_, hrt⟩
  rw [Pl.av_cells] at ht
  rw [Gl.av_cells]
  exact .cons rfl (.str _) ht
theorem open_prog {v : Value} {d : DataW H} {ps : List MemPlace} (h : DataW.Trod enc Tryz.prog w 0 (fun _ => true) true 22 v d ps) {base : Nat} (hval : Value.okWide Tryz.prog w .any base 22 v) :
  ∃ l : List Gl, Rep ι0 F0 w v (.list 6 .none (l.map Gl.av)) ∧ ∀ g ∈ l, rng g.body := by
 obtain ⟨a, len, cap, rfl⟩ := okWide_slice Tryz.underlying22 hval
 obtain ⟨n, hn⟩ := h
 obtain ⟨v, l, e, k1, k2, _, _, _⟩ := slice_reads (α := { g : Gl // rng g.body }) (f := fun g => g.1.av.cells) Tryz.underlying22 cells40 (by omega) (fun k hk cs y hy => by
  obtain ⟨t, h1, h2⟩ := trod_gl k cs y hy
  exact ⟨⟨t, h2⟩, h1⟩) hn
 simp [Value.cells] at e
 subst e
 refine ⟨l.map (·.1), ?_, fun g hg => by obtain ⟨y, _, rfl⟩ := List.mem_map.1 hg; exact y.2⟩
 have := k2 (fun g => g.1.av) fun _ => rfl
 rw [List.map_map]
 exact this
end
end Go.AL.Dm
set_option maxRecDepth 100000
namespace Go.AL.Dm
open Go Go.Proofs Go.ChangeShapes Go.WideShapes Go.ChangeAt Go.ChangeMaps Go.WideElems Go.RowKit
section
variable {H : Type} {enc : TypeId × Value → H} {P : Program} {w : World} {sp : Nat → Bool} {held : Bool}
theorem mem_foldIns {y : Lit × DataW H} : ∀ l : List (Lit × DataW H), y ∈ l.foldr DataW.insert [] ↔ y ∈ l
 | [] => by simp
 | a :: l => by rw [List.foldr_cons, mem_insert_iff, mem_foldIns l]; simp
theorem cmap_of {k e t : TypeId} (ht : P.underlying t = some (.map k e)) {fuel : Nat} {cs : List Value} {x : DataW H × List MemPlace} (h : DataW.trod enc P w 0 sp held fuel t cs = some x) {D : List (Lit × DataW H)} (hx : x.1 = .map D)
  (conv : Lit × DataW H → Value × Value) (hconv : ∀ n (en : MapEntry) y, rd P k (elemAt enc P w 0 sp held n e) en = some y → (en.key, en.val) = conv y) : ∃ bm, cs = [.map (some bm)] ∧ Rep ι0 F0 w (.map (some bm)) (.cmap (D.map conv)) := by
 rcases open_map ht h with ⟨_, rfl⟩ | ⟨b, es, clock, n, rfl, rfl, hb, _, F, rfl⟩
 ·simp at hx
 ·simp only [DataW.map.injEq] at hx
  subst hx
  have hread : ∀ en ∈ es.toList, (en.key, en.val) = conv (rg P k (elemAt enc P w 0 sp held n e) en) := fun en he => by
   obtain ⟨y, hy⟩ := F.reads en he
   rw [rg_of hy]
   exact hconv n en y hy
  have hout : ∀ p ∈ ((es.toList.map (rg P k (elemAt enc P w 0 sp held n e))).foldr DataW.insert []).map conv, ∃ (j : Nat) (en : MapEntry), es[j]? = some en ∧ en.key = p.1 ∧ en.val = p.2 := by
   intro p hp
   obtain ⟨y, hy, rfl⟩ := List.mem_map.1 hp
   obtain ⟨en, he, rfl⟩ := List.mem_map.1 ((mem_foldIns _).1 hy)
   obtain ⟨j, hj⟩ := List.getElem?_of_mem he
   have := hread en he
   exact ⟨j, en, by simpa using hj, by rw [← this], by rw [← this]⟩
  obtain ⟨_, _, hkeys⟩ := (MapKept.stamped_iff es clock).1 F.stamped
  refine ⟨b, rfl, .cmap hb (fun _ => F0_no _ _) (fun j en hj => ?_) hout (fun p hp q hq hpq => ?_)⟩
  ·have he : en ∈ es.toList := List.mem_of_getElem? (by simpa using hj : es.toList[j]? = some en)
   rw [hread en he]
   exact List.mem_map_of_mem ((mem_foldIns _).2 (List.mem_map_of_mem he))
  ·obtain ⟨j, en, hj, h1, h2⟩ := hout p hp
   obtain ⟨j', en', hj', h1', h2'⟩ := hout q hq
   have hjl : es.toList[j]? = some en := by simpa using hj
   have hjl' : es.toList[j']? = some en' := by simpa using hj'
   have hke : en.key = en'.key := by rw [h1, h1', hpq]
   have : j = j' := by
    obtain ⟨l1, e1⟩ := List.getElem?_eq_some_iff.1 hjl
    obtain ⟨l2, e2⟩ := List.getElem?_eq_some_iff.1 hjl'
    rcases Nat.lt_trichotomy j j' with hlt | he | hgt
    ·exact absurd (by rw [e1, e2]; exact hke) (List.pairwise_iff_getElem.1 hkeys j j' l1 l2 hlt)
    ·exact he
    ·exact absurd (by rw [e1, e2]; exact hke.symm) (List.pairwise_iff_getElem.1 hkeys j' j l2 l1 hgt)
   subst this
   rw [hj] at hj'
   cases hj'
   rw [← h2, ← h2']
def vOf : DataW H → Value
 | .lit (.int k n) => .int k n
 | .lit (.bool b) => .bool b
 | _ => .nilFunc
def vOf2 : DataW H → Value
 | .agg ds => .agg (ds.map vOf).toArray
 | d => vOf d
def kOf : Lit → Value
 | .int k n => .int k n
 | .string s => .string ⟨s.toArray⟩
 | _ => .nilFunc
def cv (y : Lit × DataW H) : Value × Value := (kOf y.1, vOf2 y.2)
theorem key_str {k : TypeId} (hk : P.underlying k = some .string) {v : Value} {l : Lit} (h : keyOf P k v = some l) : v = kOf l := by
 rw [keyOf_string hk] at h
 unfold mapKey at h
 rw [hk] at h
 cases v <;> simp at h
 obtain ⟨_, rfl⟩ := h
 rfl
theorem key_int {k : TypeId} {q : IntKind} (hk : P.underlying k = some (.int q)) {v : Value} {l : Lit} (h : keyOf P k v = some l) : v = kOf l := by
 rw [keyOf_int hk] at h
 unfold mapKey at h
 rw [hk] at h
 cases v <;> simp at h
 obtain ⟨⟨rfl, _⟩, rfl⟩ := h
 rfl
theorem val_int {e : TypeId} {q : IntKind} (he : P.underlying e = some (.int q)) {n : Nat} {v : Value} {z : DataW H × List MemPlace} (h : elemAt enc P w 0 sp held n e v = some z) : v = vOf2 z.1 := by
 unfold elemAt at h
 split at h
 ·rename_i hf
  obtain ⟨m, hc, rfl, _⟩ := DataW.trod_int he h
  cases v <;> simp [Value.cells] at hc
  ·obtain ⟨rfl, rfl⟩ := hc; rfl
  ·simp [Value.formed, he] at hf
 ·cases h
theorem val_bool {e : TypeId} (he : P.underlying e = some .bool) {n : Nat} {v : Value} {z : DataW H × List MemPlace} (h : elemAt enc P w 0 sp held n e v = some z) : v = vOf2 z.1 := by
 unfold elemAt at h
 split at h
 ·rename_i hf
  obtain ⟨m, hc, rfl⟩ := DataW.trod_bool he h
  cases v <;> simp [Value.cells] at hc
  ·subst hc; rfl
  ·simp [Value.formed, he] at hf
 ·cases h
theorem rd_of {k e : TypeId} {n : Nat} (hk : ∀ v l, keyOf P k v = some l → v = kOf l) (hv : ∀ v (z : DataW H × List MemPlace), elemAt enc P w 0 sp held n e v = some z → v = vOf2 z.1) (en : MapEntry) (y : Lit × DataW H) (h : rd P k (elemAt enc P w 0 sp held n e) en = some y) : (en.key, en.val) = cv y := by
 have h1 := rd_key h
 obtain ⟨z, h2, h3⟩ := rd_val h
 rw [hk _ _ h1, hv _ _ h2, cv, h3]
end
theorem cells4 : Tryz.prog.cellsOf 4 = 1 := by kernel_rfl
theorem cells167 : Tryz.prog.cellsOf 167 = 5 := by kernel_rfl
section
variable {H : Type} {enc : TypeId × Value → H} {w : World} {sp : Nat → Bool} {held : Bool}
theorem val_shape {n : Nat} {v : Value} {z : DataW H × List MemPlace} (h : elemAt enc Tryz.prog w 0 sp held n 167 v = some z) : v = vOf2 z.1 := by
 unfold elemAt at h
 split at h
 ·rename_i hf
  cases v <;> simp [Value.formed, Tryz.underlying167] at hf
  rename_i vs
  obtain ⟨xs, m, rfl, rfl, hl, hxl, hfl⟩ := DataW.trod_struct Tryz.underlying167 h
  obtain ⟨cs⟩ := vs
  simp only [Value.cells] at hl hfl
  rw [cells167] at hl
  match cs, hl with
  | [c0, c1, c2, c3, c4], _ =>
   have h0 : DataW.trod enc Tryz.prog w 0 sp held m 3 (([c0, c1, c2, c3, c4].drop 0).take (Tryz.prog.cellsOf 3)) = xs[0]? := hfl 0 _ rfl
   rw [cells3] at h0
   have h1 : DataW.trod enc Tryz.prog w 0 sp held m 3 (([c0, c1, c2, c3, c4].drop 1).take (Tryz.prog.cellsOf 3)) = xs[1]? := hfl 1 _ rfl
   rw [cells3] at h1
   have h2 : DataW.trod enc Tryz.prog w 0 sp held m 4 (([c0, c1, c2, c3, c4].drop 2).take (Tryz.prog.cellsOf 4)) = xs[2]? := hfl 2 _ rfl
   rw [cells4] at h2
   have h3 : DataW.trod enc Tryz.prog w 0 sp held m 4 (([c0, c1, c2, c3, c4].drop 3).take (Tryz.prog.cellsOf 4)) = xs[3]? := hfl 3 _ rfl
   rw [cells4] at h3
   have h4 : DataW.trod enc Tryz.prog w 0 sp held m 4 (([c0, c1, c2, c3, c4].drop 4).take (Tryz.prog.cellsOf 4)) = xs[4]? := hfl 4 _ rfl
   rw [cells4] at h4
   simp only [List.drop_zero, List.drop_succ_cons, List.take_succ_cons, List.take_zero] at h0 h1 h2 h3 h4
   have hn : xs.length = 5 := hxl
   match xs, hn with
   | [x0, x1, x2, x3, x4], _ =>
    obtain ⟨a, e0, f0, _⟩ := DataW.trod_int Tryz.underlying3 (show _ = some x0 from h0)
    obtain ⟨b, e1, f1, _⟩ := DataW.trod_int Tryz.underlying3 (show _ = some x1 from h1)
    obtain ⟨c, e2, f2⟩ := DataW.trod_bool Tryz.underlying4 (show _ = some x2 from h2)
    obtain ⟨d, e3, f3⟩ := DataW.trod_bool Tryz.underlying4 (show _ = some x3 from h3)
    obtain ⟨e, e4, f4⟩ := DataW.trod_bool Tryz.underlying4 (show _ = some x4 from h4)
    simp only [List.cons.injEq, and_true] at e0 e1 e2 e3 e4
    subst e0 e1 e2 e3 e4 f0 f1 f2 f3 f4
    rfl
 ·cases h
end
open Go.Proofs.YtlledcnjfgcipaaGreatDoor
def lv : List (String × DataW Unit) := [("damask/damaskref15.arities", Rows.laid_damask_damaskref15_arities), ("damask/term.arities", Rows.laid_damask_term_arities), ("damask/term.pure", Rows.laid_damask_term_pure), ("damask/term.shapes", Rows.laid_damask_term_shapes)]
theorem g3 : Tryz.prog.globalNamed "damask/damaskref15.arities" = some 3 := by kernel_rfl
theorem g1 : Tryz.prog.globalNamed "damask/term.arities" = some 1 := by kernel_rfl
theorem g2 : Tryz.prog.globalNamed "damask/term.pure" = some 2 := by kernel_rfl
theorem g0 : Tryz.prog.globalNamed "damask/term.shapes" = some 0 := by kernel_rfl
theorem ty1 : (Tryz.prog.globals[1]?).map (·.type) = some 172 := by kernel_rfl
theorem ty2 : (Tryz.prog.globals[2]?).map (·.type) = some 88 := by kernel_rfl
theorem ty0 : (Tryz.prog.globals[0]?).map (·.type) = some 169 := by kernel_rfl
theorem ty3 : (Tryz.prog.globals[3]?).map (·.type) = some 223 := by kernel_rfl
def nums : List Int := [2, 2, 2, 2, 2, 2, 2, 2, 2, 1, 1, 2, 1, 0, 2, 1, 2, 1, 0, 1, 1, 2, 1, 1, 2, 0, 2]
theorem one_map {W : World} {g t k e : Nat} {n : String} {cs : Array Value} {fuel : Nat} {p : List MemPlace} {D : List (Lit × DataW Unit)} (hg : Tryz.prog.globalNamed n = some g) (hv : W.var? Tryz.prog n = some cs) (ht : Tryz.prog.underlying t = some (.map k e))
  (hd : DataW.trod (fun _ => ()) Tryz.prog W 0 (fun _ => true) false fuel t cs.toList = some (.map D, p)) (hk : ∀ v l, keyOf Tryz.prog k v = some l → v = kOf l) (hvv : ∀ n v (z : DataW Unit × List MemPlace), elemAt (fun _ => ()) Tryz.prog W 0 (fun _ => true) false n e v = some z → v = vOf2 z.1)
  {es : List (Value × Value)} (hes : es = D.map cv) : Rep ι0 F0 W (.pointer (some ⟨g, 0, none⟩)) (.cptr [.cmap es]) := by
 obtain ⟨bm, hcs, hr⟩ := cmap_of ht hd rfl cv fun n en y h => rd_of hk (hvv n) en y h
 rw [← hes] at hr
 have hc : W.cell? ⟨g, 0, none⟩ = some (.map (some bm)) := by
  rw [World.var?_cell hg hv 0, ← Array.getElem?_toList, hcs]; rfl
 refine .cptr (fun _ => .map (some bm)) rfl (fun j hj => ?_) (fun j x hx => ?_)
 ·have : j = 0 := by simpa using hj
  subst this
  exact ⟨by simpa using hc, F0_no _ _, rfl⟩
 ·cases j with
  | zero => simp at hx; subst hx; exact hr
  | succ j => simp at hx
set_option maxHeartbeats 1000000 in
theorem of_laid {W : World} (h : laidMetH Tryz.prog lv W) : LaidAt W := by
 rw [MakeChecks.laidMetH_plain _ _ _ (by kernel_rfl)] at h
 obtain ⟨ps, ⟨a3, t3, cs3, f3, p3, q3, hg3, ht3, hv3, hd3, ⟨a1, t1, cs1, f1, p1, q1, hg1, ht1, hv1, hd1, ⟨a2, t2, cs2, f2, p2, q2, hg2, ht2, hv2, hd2, ⟨a0, t0, cs0, f0, p0, q0, hg0, ht0, hv0, hd0, _, _⟩, _⟩, _⟩, _⟩, _, _⟩ := h
 obtain rfl := Option.some.inj (g3.symm.trans hg3)
 obtain rfl := Option.some.inj (g1.symm.trans hg1)
 obtain rfl := Option.some.inj (g2.symm.trans hg2)
 obtain rfl := Option.some.inj (g0.symm.trans hg0)
 obtain rfl := Option.some.inj (ty3.symm.trans ht3)
 obtain rfl := Option.some.inj (ty1.symm.trans ht1)
 obtain rfl := Option.some.inj (ty2.symm.trans ht2)
 obtain rfl := Option.some.inj (ty0.symm.trans ht0)
 intro g x hgx
 have hgx' : gtab g = some x := hgx
 match g with
 | 0 =>
  obtain rfl : gv_shp = x := Option.some.inj hgx'
  exact one_map hg0 hv0 Tryz.underlying169 hd0 (fun v l h => key_int Tryz.underlying3 h) (fun n v z h => val_shape h) (by rfl)
 | 1 =>
  obtain rfl : gv_ari = x := Option.some.inj hgx'
  exact one_map hg1 hv1 Tryz.underlying172 hd1 (fun v l h => key_str Tryz.underlying9 h) (fun n v z h => val_int Tryz.underlying3 h) (by rfl)
 | 2 =>
  obtain rfl : gv_pur = x := Option.some.inj hgx'
  exact one_map hg2 hv2 Tryz.underlying88 hd2 (fun v l h => key_str Tryz.underlying9 h) (fun n v z h => val_bool Tryz.underlying4 h) (by rfl)
 | 3 =>
  obtain rfl : gv_rar = x := Option.some.inj hgx'
  obtain ⟨xs, m1, rfl, hx1, hlen, hn3, hel⟩ := DataW.trod_array Tryz.underlying223 hd3
  have hd : (Rows.laid_damask_damaskref15_arities : DataW Unit) = .agg (nums.map fun n => .lit (.int .i64 n)) := rfl
  have hxs : nums.map (fun n => (DataW.lit (.int .i64 n) : DataW Unit)) = xs.map (·.1) := by
   have := (Prod.mk.inj hx1).1
   rw [hd] at this
   exact DataW.agg.inj this
  have hnl : nums.length = 27 := rfl
  have hcell : ∀ j, j < 27 → W.cell? ⟨3, j, none⟩ = some (.int .i64 (nums.getD j 0)) := by
   intro j hj
   have h1 := hel j hj
   rw [cells3, Nat.mul_one] at h1
   obtain ⟨y, hy⟩ : ∃ y, xs[j]? = some y := ⟨_, List.getElem?_eq_getElem (by omega)⟩
   rw [hy] at h1
   obtain ⟨m, e1, e2, _⟩ := DataW.trod_int Tryz.underlying3 h1
   have h2 : (xs.map (·.1))[j]? = some y.1 := by rw [List.getElem?_map, hy]; rfl
   rw [← hxs, List.getElem?_map, List.getElem?_eq_getElem (by omega), e2] at h2
   have hm : nums[j]'(by omega) = m := by simpa using h2
   have h3 : cs3.toList[j]? = some (.int .i64 m) := by
    have : ((cs3.toList.drop j).take 1)[0]? = some (.int .i64 m) := by rw [e1]; rfl
    simpa using this
   rw [World.var?_cell hg3 hv3 j, ← Array.getElem?_toList, h3]
   simp [hnl, hj, hm]
  have hgv : gv_rar = .cptr (nums.map (AV.int .i64)) := rfl
  rw [hgv]
  refine .cptr (fun j => .int .i64 (nums.getD j 0)) rfl (fun j hj => ?_) (fun j x hx => ?_)
  ·have hj' : j < 27 := by simpa [hnl] using hj
   exact ⟨by simpa using hcell j hj', F0_no _ _, rfl⟩
  ·rw [List.getElem?_map] at hx
   obtain ⟨m, hm, rfl⟩ := Option.map_eq_some_iff.1 hx
   have : nums.getD j 0 = m := by simp [hm]
   rw [this]
   exact .int _ _
 | n + 4 => cases hgx'
end Go.AL.Dm
set_option maxRecDepth 100000
namespace Go.AL.Dm
open Go Go.Proofs Go.ChangeShapes Go.WideShapes Go.ChangeAt
section
variable {H : Type} {enc : TypeId × Value → H} {w : World}
theorem open_code {v : Value} {d : DataW H} {ps : List MemPlace} (h : DataW.Trod enc Tryz.prog w 0 (fun _ => true) true 27 v d ps) {base : Nat} (hval : Value.okWide Tryz.prog w .any base 27 v) : ∃ t : Pl, Rep ι0 F0 w v t.av ∧ rng t := by
 obtain ⟨cs, rfl, _⟩ := okWide_struct Tryz.underlying27 hval
 obtain ⟨n, hn⟩ := h
 obtain ⟨t, ht, hr⟩ := (trod_pl n).1 _ _ hn
 refine ⟨t, ?_, hr⟩
 have := Cells.agg (cs := cs) (xs := t.av.cells) (by simpa [Value.cells] using ht)
 rw [Pl.av_cells, Pl.av_fold] at this
 exact this
end
end Go.AL.Dm
namespace Go.Proofs
open Go.Shelf
def Tryz.l189_ren : Go.Shelf.Ren := ⟨fun | 189 => 50 | 125 => 90 | 257 => 89 | 128 => 138 | 129 => 139 | 294 => 129 | 295 => 130 | 296 => 131 | 297 => 132 | 298 => 133 | 299 => 134 | 216 => 135 | 300 => 136 | 301 => 137 | 328 => 169 | 329 => 170 | 330 => 171 | 331 => 172 | 332 => 173 | 215 => 174 | 343 => 185 | n => n, fun | 28 => 55 | 3 => 3 | 46 => 75 | 0 => 0 | 51 => 186 | 53 => 188 | 4 => 4 | 183 => 179 | 182 => 178 | 131 => 171 | 5 => 5 | 9 => 9 | 218 => 208 | 222 => 212 | 228 => 220 | 229 => 221 | n => n, fun  | n => n⟩
theorem Tryz.l189 : Lays.n189 Tryz.prog Tryz.l189_ren := {
 mixed := by kernel_rfl,
 f125 := Tryz.func90.trans (congrArg some (by kernel_rfl)),
 f128 := Tryz.func138.trans (congrArg some (by kernel_rfl)),
 f129 := Tryz.func139.trans (congrArg some (by kernel_rfl)),
 f189 := Tryz.func50.trans (congrArg some (by kernel_rfl)),
 f215 := Tryz.func174.trans (congrArg some (by kernel_rfl)),
 f216 := Tryz.func135.trans (congrArg some (by kernel_rfl)),
 f257 := Tryz.func89.trans (congrArg some (by kernel_rfl)),
 f294 := Tryz.func129.trans (congrArg some (by kernel_rfl)),
 f295 := Tryz.func130.trans (congrArg some (by kernel_rfl)),
 f296 := Tryz.func131.trans (congrArg some (by kernel_rfl)),
 f297 := Tryz.func132.trans (congrArg some (by kernel_rfl)),
 f298 := Tryz.func133.trans (congrArg some (by kernel_rfl)),
 f299 := Tryz.func134.trans (congrArg some (by kernel_rfl)),
 f300 := Tryz.func136.trans (congrArg some (by kernel_rfl)),
 f301 := Tryz.func137.trans (congrArg some (by kernel_rfl)),
 f328 := Tryz.func169.trans (congrArg some (by kernel_rfl)),
 f329 := Tryz.func170.trans (congrArg some (by kernel_rfl)),
 f330 := Tryz.func171.trans (congrArg some (by kernel_rfl)),
 f331 := Tryz.func172.trans (congrArg some (by kernel_rfl)),
 f332 := Tryz.func173.trans (congrArg some (by kernel_rfl)),
 f343 := Tryz.func185.trans (congrArg some (by kernel_rfl)),
 t0 := Tryz.underlying0,
 a0 := Tryz.isAgg0,
 z0 := Tryz.sizeOf0,
 v0 := Tryz.zeroValue0,
 t3 := Tryz.underlying3,
 a3 := Tryz.isAgg3,
 z3 := Tryz.sizeOf3,
 v3 := Tryz.zeroValue3,
 t4 := Tryz.underlying4,
 a4 := Tryz.isAgg4,
 z4 := Tryz.sizeOf4,
 v4 := Tryz.zeroValue4,
 t5 := Tryz.underlying5,
 a5 := Tryz.isAgg5,
 z5 := Tryz.sizeOf5,
 v5 := Tryz.zeroValue5,
 t9 := Tryz.underlying9,
 a9 := Tryz.isAgg9,
 z9 := Tryz.sizeOf9,
 v9 := Tryz.zeroValue9,
 t28 := Tryz.underlying55,
 a28 := Tryz.isAgg55,
 z28 := Tryz.sizeOf55,
 v28 := Tryz.zeroValue55,
 t46 := Tryz.underlying75,
 a46 := Tryz.isAgg75,
 z46 := Tryz.sizeOf75,
 v46 := Tryz.zeroValue75,
 t51 := Tryz.underlying186,
 a51 := Tryz.isAgg186,
 z51 := Tryz.sizeOf186,
 v51 := Tryz.zeroValue186,
 t53 := Tryz.underlying188,
 a53 := Tryz.isAgg188,
 z53 := Tryz.sizeOf188,
 v53 := Tryz.zeroValue188,
 t131 := Tryz.underlying171,
 a131 := Tryz.isAgg171,
 z131 := Tryz.sizeOf171,
 v131 := Tryz.zeroValue171,
 t182 := Tryz.underlying178,
 a182 := Tryz.isAgg178,
 z182 := Tryz.sizeOf178,
 v182 := Tryz.zeroValue178,
 t183 := Tryz.underlying179,
 a183 := Tryz.isAgg179,
 z183 := Tryz.sizeOf179,
 v183 := Tryz.zeroValue179,
 t218 := Tryz.underlying208,
 a218 := Tryz.isAgg208,
 z218 := Tryz.sizeOf208,
 v218 := Tryz.zeroValue208,
 t222 := Tryz.underlying212,
 a222 := Tryz.isAgg212,
 z222 := Tryz.sizeOf212,
 v222 := Tryz.zeroValue212,
 t228 := Tryz.underlying220,
 a228 := Tryz.isAgg220,
 z228 := Tryz.sizeOf220,
 v228 := Tryz.zeroValue220,
 t229 := Tryz.underlying221,
 a229 := Tryz.isAgg221,
 z229 := Tryz.sizeOf221,
 v229 := Tryz.zeroValue221 }
end Go.Proofs
namespace Go.AL.Dm
open Go Go.Proofs
theorem p50 (zs : List Int) (o : Nat) (s : St) (K : AV → St → Prop) (hlen : zs.length ≤ 1000000) (ho : s.m o = some (.box (ilist zs))) (hK : K (.tup []) (s.set o (.box (ilist (isort zs))))) : ACalls Tryz.prog 50 [.mref 1 o 0 zs.length] s K :=
 sort_sound Tryz.call50 (fun p cap w => Any.slices_Sort_int_none Tryz.l189 p cap w) (fun blk off cap zs w h1 h2 h3 => Any.slices_Sort_int Tryz.l189 blk off cap zs w h1 h2 h3) zs o (by omega) ho hK
def fvl (t : Pl) : List Int := isort (adds [] (fv t 0))
theorem mem_fvl {t : Pl} {k : Int} : k ∈ fvl t ↔ k ∈ fv t 0 := by
 rw [fvl, isort, List.mem_mergeSort, mem_adds]; simp
theorem fv_len (t : Pl) : ∀ u, ((fv t u).length : Int) ≤ sz t := by
 induction t using Pl.ind with
 | h t ih1 ih2 =>
  intro u
  have h0 := sz_pos t
  have hs := sz_eq t
  rw [fv_eq]
  split
  ·split
   ·simp; omega
   ·simp; omega
  ·have k1 : ∀ (l : List Pl) (u : Int), (∀ x ∈ l, ∀ u, ((fv x u).length : Int) ≤ sz x) → ((fvs l u).length : Int) ≤ szs l := by
    intro l u h
    induction l with
    | nil => simp [fvs, szs]
    | cons x l ih =>
     have := h x (by simp) u
     have := ih fun y hy => h y (by simp [hy])
     simp only [fvs, szs, List.length_append]; omega
   have k2 : ∀ (l : List (Hd × Pl)) (u : Int), (∀ x ∈ l, ∀ u, ((fv x.2 u).length : Int) ≤ sz x.2) → ((fva l u).length : Int) ≤ sza l := by
    intro l u h
    induction l with
    | nil => simp [fva, sza]
    | cons x l ih =>
     have h1 := h x (by simp) (u + bnd x.1)
     have := ih fun y hy => h y (by simp [hy])
     obtain ⟨a, b⟩ := x
     simp only [fva, sza, List.length_append] at *; omega
   have := k1 t.args (u + inn t) ih1
   have := k2 t.alts u ih2
   simp only [List.length_append]; omega
def I104 (s : St) (l : List Int) (o k : Nat) (it : Nat) (g : Env) (s1 : St) : Prop :=
 ∃ (seen : List Nat) (acc : List Int) (oa : Nat), k = l.length - seen.length ∧ seen.length = acc.length ∧ seen.Nodup ∧ (∀ j ∈ seen, j < l.length) ∧ acc = seen.map (fun j => l.getD j 0) ∧
  g.get 11 = .ptr it 0 ∧ g.get 4 = .mref 1 oa 0 acc.length ∧ s1.m oa = some (.box (ilist acc)) ∧ s.nx ≤ oa ∧ oa < s1.nx ∧ oa ≠ it ∧ oa ≠ o ∧
  s1.m it = some (.iter (some o) l.length seen l.length) ∧ s1.m o = some (obS l) ∧ Kept s s1 ∧ it < s1.nx ∧ o < s1.nx
theorem p104 (t : Pl) (hw : wf t = true) (hs : small t) (hr : rng t) : PureC Tryz.prog 104 [t.av] (.list 1 .none (ilist (fvl t))) := by
 refine PureC.intro fun s => freeze1 (fun_sound mixed Tryz.func104 Tryz.call104 c104 rfl (awpFun_go _ _ _ _ ?_))
 have hlen : (adds [] (fv t 0)).length ≤ 3000 := by
  have h1 := adds_len (fv t 0) []
  have h2 := fv_len t 0
  have h3 := hs.1
  simp only [List.length_nil] at h1
  omega
 have hnd : (adds [] (fv t 0)).Nodup := adds_nodup _ (by simp)
 have hfv : fvl t = isort (adds [] (fv t 0)) := rfl
 simp -implicitDefEqProofs (disch:=first|omega|simp only[nx4]<;>omega|fail) [a104, a104b, a104r0, a104r1, a104r2]
 refine go_calls (p144 t 0 [] (s.nx + 1) _ _ hw hs hr (by omega) (by have := hs.2; omega) (by simp -implicitDefEqProofs (disch:=first|omega|simp only[nx4]<;>omega|fail) [obS, imapF]) (by simp -implicitDefEqProofs (disch:=first|omega|simp only[nx4]<;>omega|fail)) fun m hm => go_of ?_)
 generalize adds [] (fv t 0) = l at hlen hnd hfv ⊢
 simp only [nx4] at hm
 simp -implicitDefEqProofs (disch:=first|omega|simp only[nx4]<;>omega|fail) [a104r3, a104r4, obS]
 refine go_loop (fun k g s1 => I104 s l (s.nx + 1) k (m + 1) g s1) l.length ⟨[], [], m, by simp, rfl, by simp, by simp, rfl, ?_, ?_, ?_, by omega, ?_, by omega, by omega, ?_, ?_, ?_, ?_, ?_⟩ ?_
 iterate 9 (simp -implicitDefEqProofs (disch:=first|omega|simp only[nx4]<;>omega|fail) [ilist, obS] <;> omega)
 rintro n g s1 ⟨seen, acc, oa, hn, hsl, hsn, hlt, hacc, h6, h3, hOA, hoa1, hoa2, hoa3, hoa4, hIT, hO, hk, hnx, hnx2⟩
 have hsle : seen.length ≤ l.length := nodup_le hsn hlt
 simp -implicitDefEqProofs (disch:=first|omega|simp only[nx4]<;>omega|fail) [a104l8, a104r5, h6, hIT, hO]
 rw [obS]
 refine nx_intro ?_ (fun hall => ?_) (fun e he hes => ?_)
 ·cases l with
  | nil => exact .inr (.inl rfl)
  | cons a r => exact .inr (.inr ⟨_, by rw [imapF]; exact List.mem_cons_self .., by simp⟩)
 ·have hp : acc.Perm l := by
   rw [hacc]
   refine perm_seen l seen hsn hlt fun j hj => ?_
   have := hall _ (in_imapF l 0 j hj) (by simpa using hj)
   simpa using this
  have hal : acc.length = l.length := hp.length_eq
  simp -implicitDefEqProofs (disch:=first|omega|simp only[nx4]<;>omega|fail) [a104r9, h3]
  refine go_calls (p50 acc oa _ _ (by omega) hOA (go_of ?_))
  simp -implicitDefEqProofs (disch:=first|omega|simp only[nx4]<;>omega|fail) [a104r10, h3]
  refine ⟨1, oa, acc.length, ⟨rfl, rfl, rfl⟩, ilist (isort acc), by rw [flat_il]; simp, ?_, ?_, ?_, ?_⟩
  ·intro x hx
   simp only [ilist, List.mem_map] at hx
   obtain ⟨y, _, rfl⟩ := hx
   rfl
  ·simp [isort_length]
  ·rw [hfv, isort_perm hp]
   simp
  ·simp -implicitDefEqProofs (disch:=first|omega|simp only[nx4]<;>omega|fail) [hk]
 ·obtain ⟨j, hj, rfl⟩ := mem_imapF l 0 e he
  have hj' : j ∉ seen := by simpa using hes
  have hf := find_imapF l 0 j hj
  simp only [Nat.zero_add] at hf ⊢
  simp -implicitDefEqProofs (disch:=first|omega|simp only[nx4]<;>omega|fail) [a104r6, h6, hO]
  rw [obS]
  refine en_intro (st := j) (by simp) rfl hf ?_
  simp -implicitDefEqProofs (disch:=first|omega|simp only[nx4]<;>omega|fail) [a104r7, h3, hOA]
  have hsn' : (seen ++ [j]).Nodup := by
   rw [List.nodup_append]
   refine ⟨hsn, by simp, fun a ha b hb => ?_⟩
   simp at hb; subst hb
   exact fun e => hj' (e ▸ ha)
  have hlt' : ∀ k ∈ seen ++ [j], k < l.length := by
   intro k hk
   rcases List.mem_append.1 hk with h | h
   ·exact hlt k h
   ·simp at h; subst h; exact hj
  have hle' := nodup_le hsn' hlt'
  simp only [List.length_append, List.length_singleton] at hle'
  have hgd : l[j] = l.getD j 0 := by simp [hj]
  refine go_next (l.length - (seen.length + 1)) (by omega) ⟨seen ++ [j], acc ++ [l[j]], s1.nx, by simp, by simp [hsl], hsn', hlt', by rw [List.map_append, ← hacc, hgd]; rfl, ?_, ?_, ?_, ?_, ?_, ?_, ?_, ?_, ?_, ?_, ?_, ?_⟩
  all_goals (try simp -implicitDefEqProofs (disch:=first|omega|simp only[nx4]<;>omega|fail) [h6, ilist, hO, hk])
  all_goals omega
end Go.AL.Dm
namespace Go.AL.Dm
open Go Go.Proofs
mutual
def pre : Pl → List Pl
 | .mk op n s args alts => .mk op n s args alts :: (pres args ++ prea alts)
def pres : List Pl → List Pl
 | [] => []
 | t :: ts => pre t ++ pres ts
def prea : List (Hd × Pl) → List Pl
 | [] => []
 | (_, t) :: ts => pre t ++ prea ts
end
def prep : List (Int × Pl) → List Pl
 | [] => []
 | (_, x) :: r => pre x ++ prep r
theorem prep_append : ∀ (l r : List (Int × Pl)), prep (l ++ r) = prep l ++ prep r
 | [], r => rfl
 | (n, x) :: l, r => by simp [prep, prep_append l r]
theorem pre_parts (t : Pl) : pre t = t :: prep (parts t) := by
 have h1 : ∀ (l : List Pl) (n : Int), pres l = prep (l.map fun x => (n, x)) := by
  intro l n
  induction l with
  | nil => rfl
  | cons x l ih => simp [pres, prep, ih]
 have h2 : ∀ l : List (Hd × Pl), prea l = prep (l.map fun a => (bnd a.1, a.2)) := by
  intro l
  induction l with
  | nil => rfl
  | cons x l ih => obtain ⟨a, b⟩ := x; simp [prea, prep, ih]
 rw [parts, prep_append, ← h1, ← h2]
 cases t; rw [pre]; rfl
theorem prep_take {l : List (Int × Pl)} {i : Nat} (h : i < l.length) : prep (l.take (i + 1)) = prep (l.take i) ++ pre l[i].2 := by
 rw [List.take_succ_eq_append_getElem h, prep_append]
 simp [prep]
def Ext (F F' : Nat → Prop) (s s' : St) : Prop := (∀ q, F' q → F q ∨ s.nx ≤ q) ∧ ∀ q, q < s.nx → ¬ F q → s'.m q = s.m q
def OkL {σ : Type} (f : σ → Pl → σ) (ok : σ → Pl → Prop) : σ → List Pl → Prop
 | _, [] => True
 | x, e :: l => ok x e ∧ OkL f ok (f x e) l
theorem okL_append {σ : Type} {f : σ → Pl → σ} {ok : σ → Pl → Prop} : ∀ {a b : List Pl} {x : σ}, OkL f ok x (a ++ b) ↔ OkL f ok x a ∧ OkL f ok (a.foldl f x) b
 | [], b, x => by simp [OkL]
 | e :: a, b, x => by simp [OkL, okL_append (a := a), and_assoc]
theorem okL_part {σ : Type} {f : σ → Pl → σ} {ok : σ → Pl → Prop} {x : σ} {l : List (Int × Pl)} (h : OkL f ok x (prep l)) {i : Nat} (hi : i < l.length) : OkL f ok ((prep (l.take i)).foldl f x) (pre l[i].2) := by
 rw [← List.take_append_drop (i + 1) l, prep_append, prep_take hi, okL_append, okL_append] at h
 exact h.1.2
structure Vis {σ : Type} (f : σ → Pl → σ) (ok : σ → Pl → Prop) (J : σ → (Nat → Prop) → St → Prop) (o : Nat) : Prop where
 st : ∀ x F s s', J x F s → (∀ q, F q → s'.m q = s.m q) → s.nx ≤ s'.nx → J x F s'
 bd : ∀ x F s, J x F s → ∀ q, F q → q < s.nx
 Y : ∀ x F e s1, ok x e → J x F s1 → AYields Tryz.prog o [e.av] s1 fun r s' => r = .bool true ∧ ∃ F', J (f x e) F' s' ∧ Ext F F' s1 s'
def J119 {σ : Type} (f : σ → Pl → σ) (J : σ → (Nat → Prop) → St → Prop) (x : σ) (t : Pl) (F1 : Nat → Prop) (lo : Nat) (E : Env) (ca cb : Code) (s2 : St) (i : Nat) (s' : St) : Prop :=
 s'.m lo = some (.loop 0 none E [13, 14] 19 ca cb) ∧ lo < s'.nx ∧ ∃ F', J ((prep ((parts t).take i)).foldl f (f x t)) F' s' ∧ (∀ q, F' q → F1 q ∨ lo < q) ∧ ∀ q, q < lo → ¬ F1 q → s'.m q = s2.m q
def C119 (t : Pl) : Prop := ∀ (σ : Type) (f : σ → Pl → σ) (ok : σ → Pl → Prop) (J : σ → (Nat → Prop) → St → Prop) (o : Nat) (_ : Vis f ok J o) (x : σ) (F : Nat → Prop) (s : St), wf t = true → small t → OkL f ok x (pre t) → J x F s →
 ACalls Tryz.prog 119 [t.av, .yld o] s fun r s' => r = .bool true ∧ ∃ F', J ((pre t).foldl f x) F' s' ∧ Ext F F' s s'
theorem p119 (t : Pl) : C119 t := by
 induction t using parts_ind with
 | h t ih =>
 intro σ f ok J o V x F s hw hsm hok hJ
 refine fun_sound mixed Tryz.func119 Tryz.call119 c119 rfl (awpFun_go _ _ _ _ ?_)
 obtain ⟨hnd, hwa, hwb⟩ := wf_nd hw
 have hFb := V.bd _ _ _ hJ
 rw [pre_parts] at hok
 obtain ⟨hokt, hok⟩ := hok
 simp -implicitDefEqProofs (disch:=first|omega|simp only[nx4]<;>omega|fail) [a119, a119b, a119r0, a119r1]
 refine go_yields (AYields.mono (V.Y x F t _ hokt (V.st _ _ s _ hJ (fun q hq => by have := hFb q hq; simp -implicitDefEqProofs (disch:=first|omega|simp only[nx4]<;>omega|fail)) (by simp -implicitDefEqProofs (disch:=first|omega|simp only[nx4]<;>omega|fail); omega))) fun r s1 hn1 h => go_of ?_)
 obtain ⟨rfl, F1, hJ1, hE1, hE2⟩ := h
 have hF1 := V.bd _ _ _ hJ1
 have b0 := hE2 s.nx (by simp only [St.new_nx]; omega) (fun h => by have := hFb _ h; omega)
 have b1 := hE2 (s.nx + 1) (by simp only [St.new_nx]; omega) (fun h => by have := hFb _ h; omega)
 have b2 := hE2 (s.nx + 1 + 1) (by simp only [St.new_nx]; omega) (fun h => by have := hFb _ h; omega)
 simp -implicitDefEqProofs (disch:=first|omega|simp only[nx4]<;>omega|fail) at b0 b1 b2 hn1
 have hE1' : ∀ q, F1 q → F q ∨ s.nx + 1 + 1 + 1 ≤ q := fun q hq => by have := hE1 q hq; simp -implicitDefEqProofs (disch:=first|omega|simp only[nx4]<;>omega|fail) at this; exact this
 simp -implicitDefEqProofs (disch:=first|omega|simp only[nx4]<;>omega|fail) [a119r3, b0, b1, b2]
 refine go_pure (p103 t) fun mm1 hm1 => ?_
 try simp only [nx4] at hm1
 simp -implicitDefEqProofs (disch:=first|omega|simp only[nx4]<;>omega|fail)
 refine go_range rfl fun ca cb hY => ?_
 simp -implicitDefEqProofs (disch:=first|omega|simp only[nx4]<;>omega|fail) at hY ⊢
 have hpl : (parts t).length ≤ 100 := by
  rw [parts_len]
  have := hnd.len
  by_cases o8 : t.op = 8
  ·have := hnd.cas o8; omega
  ·rw [hnd.noalts o8]; simp; omega
 have hpl2 := hpl
 rw [parts_len] at hpl2
 rw [← Pl.av_cells t]
 generalize hE : [(3, AV.ptr (s.nx + 1) 0), (4, AV.ptr (s.nx + 1 + 1) 0), (6, AV.any), (14, AV.any), (18, AV.any)] = E at hY ⊢
 have hm : ∀ (k : Nat), k < 3 → s.nx + k < mm1 ∧ ¬ F1 (s.nx + k) := fun k hk => ⟨by omega, fun h => (hE1' _ h).elim (fun h => by have := hFb _ h; omega) (fun h => by omega)⟩
 have m1 := hm 1 (by omega)
 have m2 := hm 2 (by omega)
 have hmL : ¬ F1 mm1 := fun h => by have := hF1 _ h; omega
 refine ACalls.mono (p143 t (by omega) (by omega) (fun a ha h2 => by have := hnd.hd a ha h2; omega) mm1 (J119 f J x t F1 mm1 E ca cb s1) (fun _ => False) ?_ ?_ _ ?_) fun _ s' hn' hJ => ?_
 ·rintro i s1 s2 ⟨j1, j2, F', j3, j4, j5⟩ h1 h2
  have hb := V.bd _ _ _ j3
  exact ⟨(h1 _ j2).trans j1, by omega, F', V.st _ _ _ _ j3 (fun q hq => h1 q (hb q hq)) h2, j4, fun q hq hq2 => (h1 q (by omega)).trans (j5 q hq hq2)⟩
 ·rintro i hi s3 ⟨j1, j2, F', j3, j4, j5⟩
  have hp := parts_wf hw hsm (List.getElem_mem hi)
  have ihp := ih _ (List.getElem_mem hi)
  have hokp := okL_part hok hi
  have htk := prep_take hi
  generalize hx : (parts t)[i] = p at hp ihp hokp htk ⊢
  obtain ⟨q1, q2, q3, q4, q5, q6⟩ := hp
  have hb := V.bd _ _ _ j3
  have c1 := (j5 _ m1.1 m1.2).trans b1
  have c2 := (j5 _ m2.1 m2.2).trans b2
  have hLF : ¬ F' mm1 := fun h => (j4 _ h).elim hmL (fun h => by omega)
  refine rnd_go hY j1 rfl ?_
  subst hE
  simp -implicitDefEqProofs (disch:=first|omega|simp only[nx4]<;>omega|fail) [a119x7, a119r4, a119y7, a119r5, j1, c1, c2]
  have hJ' := V.st _ F' s3 ((s3.new (AObj.box [AV.int IntKind.i64 0, AV.int IntKind.i64 0, AV.str { data := #[] }, AV.list 0 Tok.full [], AV.list 0 Tok.full []])).set s3.nx (.box p.2.av.cells) |>.set mm1 (AObj.loop 1 none [(3, AV.ptr (s.nx + 1) 0), (4, AV.ptr (s.nx + 1 + 1) 0), (6, AV.any), (14, AV.any), (18, AV.any)] [13, 14] 19 ca cb)) j3 (fun q hq => by
   have h1 := hb q hq
   have h2 : q ≠ mm1 := fun e => hLF (e ▸ hq)
   simp -implicitDefEqProofs (disch:=first|omega|simp only[nx4]<;>omega|fail) [h2]) (by simp -implicitDefEqProofs (disch:=first|omega|simp only[nx4]<;>omega|fail))
  simp only [Pl.av_cells] at hJ'
  refine go_calls (ACalls.mono (ihp σ f ok J o V _ F' _ q1 q2 hokp hJ') fun r s4 hn4 h => go_of ?_)
  obtain ⟨rfl, F2, k1, k2, k3⟩ := h
  have hL := k3 mm1 (by simp -implicitDefEqProofs (disch:=first|omega|simp only[nx4]<;>omega|fail); omega) hLF
  simp -implicitDefEqProofs (disch:=first|omega|simp only[nx4]<;>omega|fail) at hL hn4 k2
  simp -implicitDefEqProofs (disch:=first|omega|simp only[nx4]<;>omega|fail) [hL]
  have hF2 : ∀ q, F2 q → F' q ∨ mm1 < q := fun q hq => (k2 q hq).imp id (fun h => by omega)
  have hF2L : ¬ F2 mm1 := fun h => (hF2 _ h).elim hLF (fun h => by omega)
  refine ⟨by simp -implicitDefEqProofs (disch:=first|omega|simp only[nx4]<;>omega|fail), by simp -implicitDefEqProofs (disch:=first|omega|simp only[nx4]<;>omega|fail); omega, F2, ?_, ?_, ?_⟩
  ·rw [htk, List.foldl_append]
   exact V.st _ _ s4 _ k1 (fun q hq => by have h2 : q ≠ mm1 := fun e => hF2L (e ▸ hq); simp -implicitDefEqProofs (disch:=first|omega|simp only[nx4]<;>omega|fail) [h2]) (by simp -implicitDefEqProofs (disch:=first|omega|simp only[nx4]<;>omega|fail))
  ·exact fun q hq => (hF2 q hq).elim (j4 q) .inr
  ·intro q hq hq2
   have hnF : ¬ F' q := fun h => (j4 _ h).elim hq2 (fun h => by omega)
   have h3 := k3 q (by simp -implicitDefEqProofs (disch:=first|omega|simp only[nx4]<;>omega|fail); omega) hnF
   simp -implicitDefEqProofs (disch:=first|omega|simp only[nx4]<;>omega|fail) at h3
   simp -implicitDefEqProofs (disch:=first|omega|simp only[nx4]<;>omega|fail) [h3, j5 q hq hq2]
 ·refine ⟨?_, ?_, F1, ?_, fun q hq => .inl hq, ?_⟩
  ·simp -implicitDefEqProofs (disch:=first|omega|simp only[nx4]<;>omega|fail)
  ·simp -implicitDefEqProofs (disch:=first|omega|simp only[nx4]<;>omega|fail)
  ·simp only [List.take_zero, prep, List.foldl_nil]
   exact V.st _ _ s1 _ hJ1 (fun q hq => by have := hF1 q hq; simp -implicitDefEqProofs (disch:=first|omega|simp only[nx4]<;>omega|fail)) (by simp -implicitDefEqProofs (disch:=first|omega|simp only[nx4]<;>omega|fail); omega)
  ·intro q hq _
   simp -implicitDefEqProofs (disch:=first|omega|simp only[nx4]<;>omega|fail)
 ·rcases hJ with ⟨j1, j2, F', j3, j4, j5⟩ | h
  ·refine rangeR_end j1 (by omega) ?_
   have c2 := (j5 _ m2.1 m2.2).trans b2
   have hLF : ¬ F' mm1 := fun h => (j4 _ h).elim hmL (fun h => by omega)
   have h2F : ¬ F' (s.nx + 1 + 1) := fun h => (j4 _ h).elim m2.2 (fun h => by omega)
   simp -implicitDefEqProofs (disch:=first|omega|simp only[nx4]<;>omega|fail) [a119r8, c2]
   refine ⟨F', ?_, fun q hq => ?_, fun q hq hq2 => ?_⟩
   ·rw [pre_parts, List.foldl_cons]
    rw [List.take_length] at j3
    exact V.st _ _ s' _ j3 (fun q hq => by
     have h1 : q ≠ mm1 := fun e => hLF (e ▸ hq)
     have h2 : q ≠ s.nx + 1 + 1 := fun e => h2F (e ▸ hq)
     simp -implicitDefEqProofs (disch:=first|omega|simp only[nx4]<;>omega|fail) [h1, h2]) (by simp -implicitDefEqProofs (disch:=first|omega|simp only[nx4]<;>omega|fail))
   ·rcases j4 q hq with h | h
    ·exact (hE1' q h).imp id (fun h => by omega)
    ·exact .inr (by omega)
   ·have h1 : ¬ F1 q := fun h => (hE1' q h).elim hq2 (fun h => by omega)
    have h3 := hE2 q (by simp only [St.new_nx]; omega) hq2
    simp -implicitDefEqProofs (disch:=first|omega|simp only[nx4]<;>omega|fail) at h3
    simp -implicitDefEqProofs (disch:=first|omega|simp only[nx4]<;>omega|fail) [j5 q (by omega) h1, h3]
  ·exact h.elim
end Go.AL.Dm
namespace Go.Proofs
open Go.Shelf
def Tryz.l190_ren : Go.Shelf.Ren := ⟨fun | 190 => 85 | 125 => 90 | 258 => 120 | 128 => 138 | 129 => 139 | 302 => 155 | 303 => 156 | 304 => 157 | 305 => 158 | 306 => 159 | 307 => 160 | 308 => 161 | 309 => 162 | 310 => 163 | 333 => 181 | 329 => 170 | 330 => 171 | 334 => 182 | 335 => 183 | 336 => 184 | 344 => 187 | n => n, fun | 31 => 65 | 9 => 9 | 3 => 3 | 46 => 75 | 0 => 0 | 51 => 186 | 53 => 188 | 4 => 4 | 183 => 179 | 182 => 178 | 131 => 171 | 5 => 5 | 218 => 208 | 222 => 212 | 228 => 220 | 229 => 221 | n => n, fun  | n => n⟩
theorem Tryz.l190 : Lays.n190 Tryz.prog Tryz.l190_ren := {
 mixed := by kernel_rfl,
 f125 := Tryz.func90.trans (congrArg some (by kernel_rfl)),
 f128 := Tryz.func138.trans (congrArg some (by kernel_rfl)),
 f129 := Tryz.func139.trans (congrArg some (by kernel_rfl)),
 f190 := Tryz.func85.trans (congrArg some (by kernel_rfl)),
 f258 := Tryz.func120.trans (congrArg some (by kernel_rfl)),
 f302 := Tryz.func155.trans (congrArg some (by kernel_rfl)),
 f303 := Tryz.func156.trans (congrArg some (by kernel_rfl)),
 f304 := Tryz.func157.trans (congrArg some (by kernel_rfl)),
 f305 := Tryz.func158.trans (congrArg some (by kernel_rfl)),
 f306 := Tryz.func159.trans (congrArg some (by kernel_rfl)),
 f307 := Tryz.func160.trans (congrArg some (by kernel_rfl)),
 f308 := Tryz.func161.trans (congrArg some (by kernel_rfl)),
 f309 := Tryz.func162.trans (congrArg some (by kernel_rfl)),
 f310 := Tryz.func163.trans (congrArg some (by kernel_rfl)),
 f329 := Tryz.func170.trans (congrArg some (by kernel_rfl)),
 f330 := Tryz.func171.trans (congrArg some (by kernel_rfl)),
 f333 := Tryz.func181.trans (congrArg some (by kernel_rfl)),
 f334 := Tryz.func182.trans (congrArg some (by kernel_rfl)),
 f335 := Tryz.func183.trans (congrArg some (by kernel_rfl)),
 f336 := Tryz.func184.trans (congrArg some (by kernel_rfl)),
 f344 := Tryz.func187.trans (congrArg some (by kernel_rfl)),
 t0 := Tryz.underlying0,
 a0 := Tryz.isAgg0,
 z0 := Tryz.sizeOf0,
 v0 := Tryz.zeroValue0,
 t3 := Tryz.underlying3,
 a3 := Tryz.isAgg3,
 z3 := Tryz.sizeOf3,
 v3 := Tryz.zeroValue3,
 t4 := Tryz.underlying4,
 a4 := Tryz.isAgg4,
 z4 := Tryz.sizeOf4,
 v4 := Tryz.zeroValue4,
 t5 := Tryz.underlying5,
 a5 := Tryz.isAgg5,
 z5 := Tryz.sizeOf5,
 v5 := Tryz.zeroValue5,
 t9 := Tryz.underlying9,
 a9 := Tryz.isAgg9,
 z9 := Tryz.sizeOf9,
 v9 := Tryz.zeroValue9,
 t31 := Tryz.underlying65,
 a31 := Tryz.isAgg65,
 z31 := Tryz.sizeOf65,
 v31 := Tryz.zeroValue65,
 t46 := Tryz.underlying75,
 a46 := Tryz.isAgg75,
 z46 := Tryz.sizeOf75,
 v46 := Tryz.zeroValue75,
 t51 := Tryz.underlying186,
 a51 := Tryz.isAgg186,
 z51 := Tryz.sizeOf186,
 v51 := Tryz.zeroValue186,
 t53 := Tryz.underlying188,
 a53 := Tryz.isAgg188,
 z53 := Tryz.sizeOf188,
 v53 := Tryz.zeroValue188,
 t131 := Tryz.underlying171,
 a131 := Tryz.isAgg171,
 z131 := Tryz.sizeOf171,
 v131 := Tryz.zeroValue171,
 t182 := Tryz.underlying178,
 a182 := Tryz.isAgg178,
 z182 := Tryz.sizeOf178,
 v182 := Tryz.zeroValue178,
 t183 := Tryz.underlying179,
 a183 := Tryz.isAgg179,
 z183 := Tryz.sizeOf179,
 v183 := Tryz.zeroValue179,
 t218 := Tryz.underlying208,
 a218 := Tryz.isAgg208,
 z218 := Tryz.sizeOf208,
 v218 := Tryz.zeroValue208,
 t222 := Tryz.underlying212,
 a222 := Tryz.isAgg212,
 z222 := Tryz.sizeOf212,
 v222 := Tryz.zeroValue212,
 t228 := Tryz.underlying220,
 a228 := Tryz.isAgg220,
 z228 := Tryz.sizeOf220,
 v228 := Tryz.zeroValue220,
 t229 := Tryz.underlying221,
 a229 := Tryz.isAgg221,
 z229 := Tryz.sizeOf221,
 v229 := Tryz.zeroValue221 }
end Go.Proofs
namespace Go.Proofs
open Go.Shelf
def Tryz.l194_ren : Go.Shelf.Ren := ⟨fun | 194 => 86 | n => n, fun | 31 => 65 | 9 => 9 | 3 => 3 | 4 => 4 | 0 => 0 | n => n, fun  | n => n⟩
theorem Tryz.l194 : Lays.n194 Tryz.prog Tryz.l194_ren := {
 mixed := by kernel_rfl,
 f194 := Tryz.func86.trans (congrArg some (by kernel_rfl)),
 t0 := Tryz.underlying0,
 a0 := Tryz.isAgg0,
 z0 := Tryz.sizeOf0,
 v0 := Tryz.zeroValue0,
 t3 := Tryz.underlying3,
 a3 := Tryz.isAgg3,
 z3 := Tryz.sizeOf3,
 v3 := Tryz.zeroValue3,
 t4 := Tryz.underlying4,
 a4 := Tryz.isAgg4,
 z4 := Tryz.sizeOf4,
 v4 := Tryz.zeroValue4,
 t9 := Tryz.underlying9,
 a9 := Tryz.isAgg9,
 z9 := Tryz.sizeOf9,
 v9 := Tryz.zeroValue9,
 t31 := Tryz.underlying65,
 a31 := Tryz.isAgg65,
 z31 := Tryz.sizeOf65,
 v31 := Tryz.zeroValue65 }
end Go.Proofs
namespace Go.AL.Dm
open Go Go.Proofs
theorem p118 (t : Pl) {σ : Type} (f : σ → Pl → σ) (ok : σ → Pl → Prop) (J : σ → (Nat → Prop) → St → Prop) (o : Nat) (V : Vis f ok J o) (x : σ) (F : Nat → Prop) (s : St) (hw : wf t = true) (hs : small t) (hok : OkL f ok x (pre t)) (hJ : J x F s) :
  ACalls Tryz.prog 118 [.yld o, .cptr t.av.cells] s fun r s' => ∃ F', J ((pre t).foldl f x) F' s' ∧ Ext F F' s s' := by
 refine fun_sound mixed Tryz.func118 Tryz.call118 c118 rfl (awpFun_go _ _ _ _ ?_)
 simp -implicitDefEqProofs (disch:=first|omega|simp only[nx4]<;>omega|fail) [a118, a118b, a118r0]
 refine go_calls (ACalls.mono (p119 t σ f ok J o V x F _ hw hs hok hJ) fun r s' hn h => go_of ?_)
 simp -implicitDefEqProofs (disch:=first|omega|simp only[nx4]<;>omega|fail)
 exact h.2
theorem p84 (t : Pl) : PureC Tryz.prog 84 [t.av] (.fn 118 [] [.cptr t.av.cells]) := by
 refine PureC.intro fun s => fun_sound mixed Tryz.func84 Tryz.call84 c84 rfl (awpFun_go _ _ _ _ ?_)
 simp -implicitDefEqProofs (disch:=first|omega|simp only[nx4]<;>omega|fail) [a84, a84b, a84r0, a84r1]
theorem p85 (zs : List (List UInt8)) (o : Nat) (s : St) (K : AV → St → Prop) (hlen : zs.length ≤ 1000000) (ho : s.m o = some (.box (slist zs))) (hK : K (.tup []) (s.set o (.box (slist (bsort zs))))) : ACalls Tryz.prog 85 [.mref 1 o 0 zs.length] s K :=
 ssort_sound Tryz.call85 (fun p cap w => Any.slices_Sort_string_none Tryz.l190 p cap w) (fun blk off cap zs w h1 h2 h3 => Any.slices_Sort_string Tryz.l190 blk off cap zs w h1 h2 h3) zs o (by omega) ho hK
theorem p86 (zs : List (List UInt8)) (o : Nat) (s : St) (K : AV → St → Prop) (hlen : zs.length ≤ 1000000) (ho : s.m o = some (.box (slist zs))) (hK : K (.mref 1 o 0 (Lib.compact zs).length) (s.set o (.box (slist (Lib.compact zs))))) : ACalls Tryz.prog 86 [.mref 1 o 0 zs.length] s K :=
 scompact_sound Tryz.call86 (fun p cap w => Any.slices_Compact_string_empty Tryz.l194 p cap w) (fun blk off cap zs w h1 h2 h3 => Any.slices_Compact_string Tryz.l194 blk off cap zs w h1 h2 h3) zs o (by omega) ho hK
@[simp] theorem cells_mref (a b c d : Nat) : (AV.mref a b c d).cells = [.mref a b c d] := rfl
@[simp] theorem isVal_mref (a b c d : Nat) : (AV.mref a b c d).isVal = true := rfl
@[simp] theorem slist_length (l : List (List UInt8)) : (slist l).length = l.length := by simp [slist]
theorem flat_sl (l : List (List UInt8)) : flat (slist l) = slist l := by
 induction l with
 | nil => rfl
 | cons a r ih => simp [slist] at ih ⊢; exact ih
theorem slist_snoc (l : List (List UInt8)) (s : ByteArray) : slist l ++ [AV.str s] = slist (l ++ [s.data.toList]) := by
 obtain ⟨d⟩ := s
 simp [slist]
def gadd (l : List (List UInt8)) (e : Pl) : List (List UInt8) := if e.op = 2 then l ++ [e.s.data.toList] else l
def gnm (t : Pl) : List (List UInt8) := (pre t).foldl gadd []
def gls (t : Pl) : List (List UInt8) := Lib.compact (bsort (gnm t))
theorem gadd_mem : ∀ (l : List Pl) (a : List (List UInt8)) (x : List UInt8), x ∈ l.foldl gadd a ↔ x ∈ a ∨ ∃ e ∈ l, e.op = 2 ∧ e.s.data.toList = x
 | [], a, x => by simp
 | e :: l, a, x => by
  rw [List.foldl_cons, gadd_mem l]
  unfold gadd
  by_cases h : e.op = 2
  ·rw [if_pos h]
   simp only [List.mem_append, List.mem_cons, List.not_mem_nil, or_false, or_assoc]
   constructor
   ·rintro (h1 | h1 | ⟨y, h1, h2⟩)
    ·exact .inl h1
    ·exact .inr ⟨e, .inl rfl, h, h1.symm⟩
    ·exact .inr ⟨y, .inr h1, h2⟩
   ·rintro (h1 | ⟨y, rfl | h1, h2⟩)
    ·exact .inl h1
    ·exact .inr (.inl h2.2.symm)
    ·exact .inr (.inr ⟨y, h1, h2⟩)
  ·rw [if_neg h]
   constructor
   ·rintro (h1 | ⟨y, h1, h2⟩)
    ·exact .inl h1
    ·exact .inr ⟨y, List.mem_cons_of_mem _ h1, h2⟩
   ·rintro (h1 | ⟨y, h1, h2⟩)
    ·exact .inl h1
    ·rcases List.mem_cons.1 h1 with rfl | h1
     ·exact absurd h2.1 h
     ·exact .inr ⟨y, h1, h2⟩
theorem gadd_len : ∀ (l : List Pl) (a : List (List UInt8)), (l.foldl gadd a).length ≤ a.length + l.length
 | [], a => by simp
 | e :: l, a => by
  have := gadd_len l (gadd a e)
  have h2 : (gadd a e).length ≤ a.length + 1 := by unfold gadd; split <;> simp
  simp only [List.foldl_cons, List.length_cons]; omega
theorem mem_gls {t : Pl} {x : List UInt8} : x ∈ gls t ↔ ∃ e ∈ pre t, e.op = 2 ∧ e.s.data.toList = x := by
 rw [gls, mem_compact, bsort, List.mem_mergeSort, gnm, gadd_mem]
 simp
theorem pre_len (t : Pl) : ((pre t).length : Int) ≤ sz t := by
 induction t using Pl.ind with
 | h t ih1 ih2 =>
  have hs := sz_eq t
  have k1 : ∀ (l : List Pl), (∀ x ∈ l, ((pre x).length : Int) ≤ sz x) → ((pres l).length : Int) ≤ szs l := by
   intro l h
   induction l with
   | nil => simp [pres, szs]
   | cons x l ih =>
    have := h x (by simp)
    have := ih fun y hy => h y (by simp [hy])
    simp only [pres, szs, List.length_append]; omega
  have k2 : ∀ (l : List (Hd × Pl)), (∀ x ∈ l, ((pre x.2).length : Int) ≤ sz x.2) → ((prea l).length : Int) ≤ sza l := by
   intro l h
   induction l with
   | nil => simp [prea, sza]
   | cons x l ih =>
    have h1 := h x (by simp)
    have := ih fun y hy => h y (by simp [hy])
    obtain ⟨a, b⟩ := x
    simp only [prea, sza, List.length_append] at *; omega
  have := k1 _ ih1
  have := k2 _ ih2
  have e : pre t = t :: (pres t.args ++ prea t.alts) := by cases t; rw [pre]; rfl
  rw [e]
  simp only [List.length_cons, List.length_append]; omega
theorem okL_len : ∀ (l : List Pl) (a : List (List UInt8)) (n : Nat), a.length + l.length ≤ n → OkL gadd (fun a _ => a.length < n) a l
 | [], a, n, h => trivial
 | e :: l, a, n, h => by
  have h2 : (gadd a e).length ≤ a.length + 1 := by unfold gadd; split <;> simp
  simp only [List.length_cons] at h
  exact ⟨by omega, okL_len l _ n (by omega)⟩
def J47 (lo bx : Nat) (L : AObj) (l : List (List UInt8)) (F : Nat → Prop) (s : St) : Prop :=
 ∃ oa, (∀ q, F q ↔ q = lo ∨ q = bx ∨ q = oa) ∧ s.m lo = some L ∧ s.m bx = some (.box [.mref 1 oa 0 l.length]) ∧ s.m oa = some (.box (slist l)) ∧ lo ≠ bx ∧ lo ≠ oa ∧ bx ≠ oa ∧ lo < s.nx ∧ bx < s.nx ∧ oa < s.nx
theorem p47 (t : Pl) (hw : wf t = true) (hs : small t) : PureC Tryz.prog 47 [t.av] (.list 1 .none (slist (gls t))) := by
 refine PureC.intro fun s => freeze1 (fun_sound mixed Tryz.func47 Tryz.call47 c47 rfl (awpFun_go _ _ _ _ ?_))
 have hpl : (pre t).length ≤ 3000 := by have := pre_len t; have := hs.1; omega
 simp -implicitDefEqProofs (disch:=first|omega|simp only[nx4]<;>omega|fail) [a47, a47b, a47r0, a47r1, a47r2]
 refine go_pure (p84 t) fun mm1 hm1 => ?_
 try simp only [nx4] at hm1
 simp -implicitDefEqProofs (disch:=first|omega|simp only[nx4]<;>omega|fail)
 refine go_range rfl fun ca cb hY => ?_
 simp -implicitDefEqProofs (disch:=first|omega|simp only[nx4]<;>omega|fail) at hY ⊢
 generalize hE : [(3, AV.ptr (s.nx + 1) 0), (4, AV.any), (7, AV.any), (10, AV.any)] = E at hY ⊢
 refine ACalls.nilbox (o := s.nx + 1) 1 (by simp -implicitDefEqProofs (disch:=first|omega|simp only[nx4]<;>omega|fail)) ?_
 rw [← Pl.av_cells t]
 have V : Vis gadd (fun a _ => a.length < 3000) (J47 mm1 (s.nx + 1) (.loop 0 none E [7] 20 ca cb)) mm1 := by
  refine ⟨?_, ?_, ?_⟩
  ·rintro l F s1 s2 ⟨oa, hF, j1, j2, j3, d1, d2, d3, n1, n2, n3⟩ h hn
   exact ⟨oa, hF, (h _ ((hF _).2 (.inl rfl))).trans j1, (h _ ((hF _).2 (.inr (.inl rfl)))).trans j2, (h _ ((hF _).2 (.inr (.inr rfl)))).trans j3, d1, d2, d3, by omega, by omega, by omega⟩
  ·rintro l F s1 ⟨oa, hF, j1, j2, j3, d1, d2, d3, n1, n2, n3⟩ q hq
   rcases (hF q).1 hq with rfl | rfl | rfl <;> omega
  ·rintro l F e s1 hok ⟨oa, hF, j1, j2, j3, d1, d2, d3, n1, n2, n3⟩
   refine rnd_go hY j1 rfl ?_
   subst hE
   by_cases o2 : e.op = 2
   ·simp -implicitDefEqProofs (disch:=first|omega|simp only[nx4]<;>omega|fail) [a47x6, a47r3, a47y6, a47r4, a47r5, o2, j1, j2, j3]
    refine ⟨fun q => q = mm1 ∨ q = s.nx + 1 ∨ q = s1.nx + 1, ⟨s1.nx + 1, fun q => Iff.rfl, ?_, ?_, ?_, d1, by omega, by omega, ?_, ?_, ?_⟩, ?_, ?_⟩
    ·simp -implicitDefEqProofs (disch:=first|omega|simp only[nx4]<;>omega|fail)
    ·simp -implicitDefEqProofs (disch:=first|omega|simp only[nx4]<;>omega|fail) [gadd, o2]
    ·simp -implicitDefEqProofs (disch:=first|omega|simp only[nx4]<;>omega|fail) [gadd, o2, slist_snoc]
    ·simp -implicitDefEqProofs (disch:=first|omega|simp only[nx4]<;>omega|fail)
     omega
    ·simp -implicitDefEqProofs (disch:=first|omega|simp only[nx4]<;>omega|fail)
     omega
    ·simp -implicitDefEqProofs (disch:=first|omega|simp only[nx4]<;>omega|fail)
    ·intro q hq
     rcases hq with h | h | h
     ·exact .inl ((hF q).2 (.inl h))
     ·exact .inl ((hF q).2 (.inr (.inl h)))
     ·exact .inr (by omega)
    ·intro q hq hn
     have h1 : q ≠ mm1 := fun h => hn ((hF q).2 (.inl h))
     have h2 : q ≠ s.nx + 1 := fun h => hn ((hF q).2 (.inr (.inl h)))
     have h3 : q ≠ oa := fun h => hn ((hF q).2 (.inr (.inr h)))
     simp -implicitDefEqProofs (disch:=first|omega|simp only[nx4]<;>omega|fail) [h1, h2, h3]
   ·simp -implicitDefEqProofs (disch:=first|omega|simp only[nx4]<;>omega|fail) [a47x6, a47r3, a47y6, a47r4, o2, j1, j2, j3]
    refine ⟨F, ⟨oa, hF, ?_, ?_, ?_, d1, d2, d3, ?_, ?_, ?_⟩, fun q hq => .inl hq, ?_⟩
    ·simp -implicitDefEqProofs (disch:=first|omega|simp only[nx4]<;>omega|fail)
    ·simp -implicitDefEqProofs (disch:=first|omega|simp only[nx4]<;>omega|fail) [gadd, o2, j2]
    ·simp -implicitDefEqProofs (disch:=first|omega|simp only[nx4]<;>omega|fail) [gadd, o2, j3]
    ·simp -implicitDefEqProofs (disch:=first|omega|simp only[nx4]<;>omega|fail)
     omega
    ·simp -implicitDefEqProofs (disch:=first|omega|simp only[nx4]<;>omega|fail)
     omega
    ·simp -implicitDefEqProofs (disch:=first|omega|simp only[nx4]<;>omega|fail)
     omega
    ·intro q hq hn
     have h1 : q ≠ mm1 := fun h => hn ((hF q).2 (.inl h))
     simp -implicitDefEqProofs (disch:=first|omega|simp only[nx4]<;>omega|fail) [h1]
 refine ACalls.mono (p118 t gadd _ _ mm1 V [] (fun q => q = mm1 ∨ q = s.nx + 1 ∨ q = mm1 + 1) _ hw hs (okL_len _ _ _ (by simpa using hpl)) ?_) fun _ s' hn' h => ?_
 ·refine ⟨mm1 + 1, fun q => Iff.rfl, ?_, ?_, ?_, by omega, by omega, by omega, ?_, ?_, ?_⟩
  all_goals (try simp -implicitDefEqProofs (disch:=first|omega|simp only[nx4]<;>omega|fail) [slist])
  all_goals (try omega)
 ·obtain ⟨F', ⟨oa, hF, j1, j2, j3, d1, d2, d3, n1, n2, n3⟩, hE1, hE2⟩ := h
  refine rangeR_end j1 (by omega) ?_
  simp -implicitDefEqProofs (disch:=first|omega|simp only[nx4]<;>omega|fail) [a47r7, j2, j3]
  have hl : ((pre t).foldl gadd []).length ≤ 3000 := by have := gadd_len (pre t) []; simp only [List.length_nil] at this; omega
  have hg : (pre t).foldl gadd [] = gnm t := rfl
  rw [hg] at hl j2 j3 ⊢
  refine go_calls (p85 _ oa _ _ (by omega) (by simp -implicitDefEqProofs (disch:=first|omega|simp only[nx4]<;>omega|fail) [j3]) (go_of ?_))
  simp -implicitDefEqProofs (disch:=first|omega|simp only[nx4]<;>omega|fail) [a47r8, j2]
  rw [← bsort_length]
  refine go_calls (p86 _ oa _ _ (by rw [bsort_length]; omega) (by simp -implicitDefEqProofs (disch:=first|omega|simp only[nx4]<;>omega|fail)) (go_of ?_))
  simp -implicitDefEqProofs (disch:=first|omega|simp only[nx4]<;>omega|fail)
  refine ⟨1, oa, _, ⟨rfl, rfl, rfl⟩, slist (gls t), by rw [flat_sl]; simp -implicitDefEqProofs (disch:=first|omega|simp only[nx4]<;>omega|fail); rfl, ?_, ?_, ?_, ?_⟩
  ·intro x hx
   simp only [slist, List.mem_map] at hx
   obtain ⟨y, _, rfl⟩ := hx
   rfl
  ·rw [slist_length]; rfl
  ·simp
  ·intro q hq
   have hnF : ¬ (q = mm1 ∨ q = s.nx + 1 ∨ q = mm1 + 1) := by omega
   have h3 := hE2 q (by simp -implicitDefEqProofs (disch:=first|omega|simp only[nx4]<;>omega|fail); omega) hnF
   simp -implicitDefEqProofs (disch:=first|omega|simp only[nx4]<;>omega|fail) at h3
   have hne : q ≠ oa := fun e => by
    rcases hE1 oa ((hF oa).2 (.inr (.inr rfl))) with h | h
    ·omega
    ·simp -implicitDefEqProofs (disch:=first|omega|simp only[nx4]<;>omega|fail) at h; omega
   simp -implicitDefEqProofs (disch:=first|omega|simp only[nx4]<;>omega|fail) [h3, hne]
end Go.AL.Dm
namespace Go.AL.Dm
open Go Go.Proofs
def ba (x : List UInt8) : ByteArray := ⟨x.toArray⟩
theorem slist_get {zs : List (List UInt8)} {i : Nat} (h : i < zs.length) : (slist zs)[i]'(by simpa using h) = .str (ba zs[i]) := by simp [slist, ba]
theorem slist_get? {zs : List (List UInt8)} {i : Nat} (h : i < zs.length) : (slist zs)[i]? = some (.str (ba zs[i])) := by simp [slist, ba, h]
def idxQ {α : Type} (q : α → Bool) : List α → Int → Int
 | [], _ => -1
 | x :: r, i => if q x then i else idxQ q r (i + 1)
theorem idxQ_neg {α : Type} (q : α → Bool) : ∀ (l : List α) (i : Int), 0 ≤ i → (0 ≤ idxQ q l i ↔ ∃ x ∈ l, q x = true)
 | [], i, _ => by simp [idxQ]
 | x :: r, i, h => by
  have := idxQ_neg q r (i + 1) (by omega)
  rw [idxQ]
  split
  ·rename_i hq; exact ⟨fun _ => ⟨x, by simp, hq⟩, fun _ => h⟩
  ·rename_i hq
   rw [this]
   simp [hq]
def I83 (zs : List (List UInt8)) (q : List UInt8 → Bool) (f c : AV) (s : St) (m : Nat) (g : Env) (s1 : St) : Prop :=
 ∃ i : Nat, i ≤ zs.length ∧ m = zs.length - i ∧ idxQ q (zs.drop i) i = idxQ q zs 0 ∧ g.get 0 = .list 1 .none (slist zs) ∧ g.get 1 = f ∧ g.get 7 = .int .i64 zs.length ∧ g.get 8 = .int .i64 i ∧ Kept s s1 ∧ s.nx ≤ s1.nx
theorem kept_trans {s s1 s2 : St} (h1 : Kept s s1) (h2 : Kept s1 s2) (hn : s.nx ≤ s1.nx) : Kept s s2 := fun q hq => (h2 q (by omega)).trans (h1 q hq)
theorem p83 (zs : List (List UInt8)) (q : List UInt8 → Bool) (fid : FuncId) (c : AV) (s : St) (hlen : zs.length ≤ 1000000) (h : ∀ x ∈ zs, ∀ s1, Kept s s1 → s.nx ≤ s1.nx → ACalls Tryz.prog fid [.str (ba x), c] s1 fun r s' => r = .bool (q x) ∧ Kept s1 s') :
  ACalls Tryz.prog 83 [.list 1 .none (slist zs), .fn fid [] [c]] s fun r s' => r = .int .i64 (idxQ q zs 0) ∧ Kept s s' := by
 refine fun_sound mixed Tryz.func83 Tryz.call83 c83 rfl (awpFun_go _ _ _ _ ?_)
 simp -implicitDefEqProofs (disch:=first|omega|simp only[nx4]<;>omega|fail) [a83, a83b, a83r0, a83r1]
 refine go_loop (I83 zs q (.fn fid [] [c]) c s) zs.length ⟨0, by omega, by omega, rfl, ?_, ?_, ?_, ?_, ?_, ?_⟩ ?_
 iterate 6 (simp -implicitDefEqProofs (disch:=first|omega|simp only[nx4]<;>omega|fail))
 rintro m g s1 ⟨i, hi, rfl, hw, e0, e1, e7, e8, hk, hn⟩
 by_cases hlt : i < zs.length
 ·have hlt' : (i : Int) < zs.length := by omega
  have w3 := wrapS (i := i) (by omega)
  rw [List.drop_eq_getElem_cons hlt, idxQ] at hw
  have hgt := slist_get hlt
  have hgt? := slist_get? hlt
  have hc := h _ (List.getElem_mem hlt)
  generalize zs[i] = x at hw hgt hgt? hc
  simp -implicitDefEqProofs (disch:=first|omega|simp only[nx4]<;>omega|fail) [a83l7, a83r2, a83r3, a83r4, e0, e1, e7, e8, hlt', hlt, hgt, hgt?]
  refine go_calls (ACalls.mono (hc _ hk hn) fun r s' hn' h => go_of ?_)
  obtain ⟨rfl, hk'⟩ := h
  have hk2 := kept_trans hk hk' hn
  cases hq : q x with
  | true =>
   rw [if_pos hq] at hw
   simp -implicitDefEqProofs (disch:=first|omega|simp only[nx4]<;>omega|fail) [a83r5, hw, hk2]
  | false =>
   rw [if_neg (by rw [hq]; simp)] at hw
   simp -implicitDefEqProofs (disch:=first|omega|simp only[nx4]<;>omega|fail) [a83r6, e8, w3]
   refine go_next (zs.length - (i + 1)) (by omega) ⟨i + 1, by omega, rfl, hw, ?_, ?_, ?_, rfl, hk2, by omega⟩
   ·simp -implicitDefEqProofs (disch:=first|omega|simp only[nx4]<;>omega|fail) [e0]
   ·simp -implicitDefEqProofs (disch:=first|omega|simp only[nx4]<;>omega|fail) [e1]
   ·simp -implicitDefEqProofs (disch:=first|omega|simp only[nx4]<;>omega|fail) [e7]
 ·have hlt' : ¬ (i : Int) < zs.length := by omega
  obtain rfl : i = zs.length := by omega
  rw [List.drop_length, idxQ] at hw
  simp -implicitDefEqProofs (disch:=first|omega|simp only[nx4]<;>omega|fail) [a83l7, a83r2, a83r8, e0, e1, e7, e8, hlt', ← hw, hk]
theorem p46 (zs : List (List UInt8)) (q : List UInt8 → Bool) (fid : FuncId) (c : AV) (s : St) (hlen : zs.length ≤ 1000000) (h : ∀ x ∈ zs, ∀ s1, Kept s s1 → s.nx ≤ s1.nx → ACalls Tryz.prog fid [.str (ba x), c] s1 fun r s' => r = .bool (q x) ∧ Kept s1 s') :
  ACalls Tryz.prog 46 [.list 1 .none (slist zs), .fn fid [] [c]] s fun r s' => r = .bool (zs.any q) ∧ Kept s s' := by
 refine fun_sound mixed Tryz.func46 Tryz.call46 c46 rfl (awpFun_go _ _ _ _ ?_)
 simp -implicitDefEqProofs (disch:=first|omega|simp only[nx4]<;>omega|fail) [a46, a46b, a46r0, a46r1]
 refine go_calls (ACalls.mono (p83 zs q fid c s hlen h) fun r s' hn' h => go_of ?_)
 obtain ⟨rfl, hk⟩ := h
 have h1 := idxQ_neg q zs 0 (by omega)
 have h2 : decide (0 ≤ idxQ q zs 0) = zs.any q := by
  rw [Bool.eq_iff_iff]
  simpa using h1
 simp -implicitDefEqProofs (disch:=first|omega|simp only[nx4]<;>omega|fail) [hk, h2]
theorem p109 (x : List UInt8) (b o : Nat) (es : List (Nat × AV × AV)) (clock : Nat) (l : List ByteArray) (hk : kset .str es l) (s : St) (hb : s.m b = some (.box [.map o])) (ho : s.m o = some (.map es clock)) :
  ACalls Tryz.prog 109 [.str (ba x), .ptr b 0] s fun r s' => r = .bool (!decide (ba x ∈ l)) ∧ Kept s s' := by
 refine fun_sound mixed Tryz.func109 Tryz.call109 c109 rfl (awpFun_go _ _ _ _ ?_)
 have hl := kset_lk keq_str (ba x) hk
 simp -implicitDefEqProofs (disch:=first|omega|simp only[nx4]<;>omega|fail) [a109, a109b, a109r0, a109r1, hb, ho, hl]
def clo (l : List ByteArray) (t : Pl) : Bool := decide (fv t 0 = []) && (gls t).all fun x => decide (ba x ∈ l)
theorem gls_len (t : Pl) : (gls t).length ≤ (pre t).length := by
 have h1 := compact_length (bsort (gnm t))
 have h2 := gadd_len (pre t) []
 rw [bsort_length] at h1
 simp only [List.length_nil] at h2
 unfold gls gnm at *
 omega
theorem fvl_nil (t : Pl) : fvl t = [] ↔ fv t 0 = [] := by
 constructor
 ·intro h
  cases hf : fv t 0 with
  | nil => rfl
  | cons a r =>
   have : a ∈ fvl t := mem_fvl.2 (by rw [hf]; simp)
   rw [h] at this; simp at this
 ·intro h
  rw [fvl, h]; simp [isort]
theorem p75 (t : Pl) (hw : wf t = true) (hs : small t) (hr : rng t) (o : Nat) (es : List (Nat × AV × AV)) (clock : Nat) (l : List ByteArray) (hk : kset .str es l) (s : St) (ho : s.m o = some (.map es clock)) (hon : o < s.nx) :
  ACalls Tryz.prog 75 [t.av, .map o] s fun r s' => r = .bool (clo l t) ∧ Kept s s' := by
 refine fun_sound mixed Tryz.func75 Tryz.call75 c75 rfl (awpFun_go _ _ _ _ ?_)
 have hgl : (gls t).length ≤ 3000 := by have := pre_len t; have := gls_len t; have := hs.1; omega
 simp -implicitDefEqProofs (disch:=first|omega|simp only[nx4]<;>omega|fail) [a75, a75b, a75r0, a75r1]
 refine go_pure (p104 t hw hs hr) fun mm1 hm1 => ?_
 try simp only [nx4] at hm1
 have hf := fvl_nil t
 by_cases h0 : fv t 0 = []
 ·have h1 := hf.2 h0
  simp -implicitDefEqProofs (disch:=first|omega|simp only[nx4]<;>omega|fail) [h1]
  refine go_pure (p47 t hw hs) fun mm2 hm2 => ?_
  try simp only [nx4] at hm2
  simp -implicitDefEqProofs (disch:=first|omega|simp only[nx4]<;>omega|fail) []
  refine go_calls (ACalls.mono (p46 (gls t) (fun x => !decide (ba x ∈ l)) 109 _ _ (by omega) fun x _ s1 k1 k2 => p109 x (s.nx + 1) o es clock l hk s1 ?_ ?_) fun r s' hn' h => go_of ?_)
  ·rw [k1 _ (by simp -implicitDefEqProofs (disch:=first|omega|simp only[nx4]<;>omega|fail); omega)]
   simp -implicitDefEqProofs (disch:=first|omega|simp only[nx4]<;>omega|fail)
  ·rw [k1 _ (by simp -implicitDefEqProofs (disch:=first|omega|simp only[nx4]<;>omega|fail); omega)]
   simp -implicitDefEqProofs (disch:=first|omega|simp only[nx4]<;>omega|fail) [ho]
  ·obtain ⟨rfl, hk'⟩ := h
   have hk2 : Kept s s' := fun q hq => (hk' q (by simp -implicitDefEqProofs (disch:=first|omega|simp only[nx4]<;>omega|fail); omega)).trans (by simp -implicitDefEqProofs (disch:=first|omega|simp only[nx4]<;>omega|fail))
   have e1 : (!(gls t).any fun x => !decide (ba x ∈ l)) = clo l t := by
    rw [clo, List.not_any_eq_all_not]
    simp [h0]
   simp -implicitDefEqProofs (disch:=first|omega|simp only[nx4]<;>omega|fail) [hk2, e1]
 ·have h1 : ¬ fvl t = [] := fun h => h0 (hf.1 h)
  have e1 : clo l t = false := by rw [clo]; simp [h0]
  simp -implicitDefEqProofs (disch:=first|omega|simp only[nx4]<;>omega|fail) [h1, e1]
end Go.AL.Dm
