/- Primitives. -/
import Derived.Test.YtlledcnjfgcipaaGreatDoorC2
set_option linter.unusedVariables false
set_option linter.unusedSimpArgs false
namespace Go.AL.Dm
open Go Go.Proofs
def prims : List ByteArray := [⟨#[97, 100, 100]⟩, ⟨#[115, 117, 98]⟩, ⟨#[109, 117, 108]⟩, ⟨#[100, 105, 118]⟩, ⟨#[109, 111, 100]⟩, ⟨#[101, 113]⟩, ⟨#[108, 116]⟩, ⟨#[108, 101]⟩, ⟨#[115, 101, 113]⟩, ⟨#[116, 104, 114, 111, 119]⟩, ⟨#[114, 101, 116, 117, 114, 110, 73, 79]⟩, ⟨#[98, 105, 110, 100, 73, 79]⟩, ⟨#[112, 117, 116]⟩, ⟨#[103, 101, 116]⟩, ⟨#[99, 97, 116, 99, 104]⟩, ⟨#[102, 111, 114, 107]⟩, ⟨#[107, 105, 108, 108]⟩, ⟨#[109, 97, 115, 107]⟩, ⟨#[121, 105, 101, 108, 100]⟩, ⟨#[97, 116, 111, 109, 105, 99, 97, 108, 108, 121]⟩, ⟨#[114, 101, 116, 117, 114, 110, 83, 84, 77]⟩, ⟨#[98, 105, 110, 100, 83, 84, 77]⟩, ⟨#[110, 101, 119, 84, 86, 97, 114]⟩, ⟨#[114, 101, 97, 100, 84, 86, 97, 114]⟩, ⟨#[119, 114, 105, 116, 101, 84, 86, 97, 114]⟩, ⟨#[114, 101, 116, 114, 121]⟩, ⟨#[111, 114, 69, 108, 115, 101]⟩]
def ars : List Int := [2, 2, 2, 2, 2, 2, 2, 2, 2, 1, 1, 2, 1, 0, 2, 1, 2, 1, 0, 1, 1, 2, 1, 1, 2, 0, 2]
theorem p97 : PureC Tryz.prog 97 [] (.list 1 .none (prims.map .str)) := by
 refine PureC.intro fun s => fun_sound mixed Tryz.func97 Tryz.call97 c97 rfl (awpFun_go _ _ _ _ ?_)
 simp -implicitDefEqProofs (disch:=first|omega|simp only[nx4]<;>omega|fail) [a97, a97b, a97r0, a97r1, prims]
def idxB : List ByteArray → ByteArray → Int → Int
 | [], _, _ => -1
 | x :: r, t, i => if x = t then i else idxB r t (i + 1)
def primI (t : ByteArray) : Int := idxB prims t 0
def I56 (t : ByteArray) (s : St) (m : Nat) (g : Env) (s1 : St) : Prop :=
 ∃ i : Nat, i ≤ 27 ∧ m = 27 - i ∧ idxB (prims.drop i) t i = primI t ∧ g.get 0 = .str t ∧ g.get 3 = .list 1 .none (prims.map .str) ∧ g.get 4 = .int .i64 i ∧ Kept s s1
theorem prims_len : prims.length = 27 := rfl
theorem p56 (t : ByteArray) : PureC Tryz.prog 56 [.str t] (.int .i64 (primI t)) := by
 refine PureC.intro fun s => fun_sound mixed Tryz.func56 Tryz.call56 c56 rfl (awpFun_go _ _ _ _ ?_)
 simp -implicitDefEqProofs (disch:=first|omega|simp only[nx4]<;>omega|fail) [a56, a56b, a56r0, a56r1]
 refine go_pure p97 fun mm1 hm1 => ?_
 try simp only [nx4] at hm1
 simp -implicitDefEqProofs (disch:=first|omega|simp only[nx4]<;>omega|fail) [a56r2]
 refine go_loop (I56 t s) 27 ⟨0, by omega, by omega, rfl, ?_, ?_, ?_, ?_⟩ ?_
 iterate 4 (simp -implicitDefEqProofs (disch:=first|omega|simp only[nx4]<;>omega|fail))
 rintro m g s1 ⟨i, hi, rfl, hw, e0, e3, e4, hk⟩
 by_cases hlt : i < prims.length
 ·have hlt' : (i : Int) < 27 := by rw [prims_len] at hlt; omega
  have w3 := wrapS (i := i) (by omega)
  rw [List.drop_eq_getElem_cons hlt, idxB] at hw
  simp -implicitDefEqProofs (disch:=first|omega|simp only[nx4]<;>omega|fail) [a56l7, a56r3, a56r4, a56r5, e0, e3, e4, hlt', prims_len, getD_map _ _ _ hlt]
  refine ⟨fun h => ?_, fun h => ?_⟩
  ·rw [if_pos h] at hw
   exact ⟨hw, hk⟩
  ·rw [if_neg h] at hw
   simp -implicitDefEqProofs (disch:=first|omega|simp only[nx4]<;>omega|fail) [a56r6, e4, w3]
   refine go_next (27 - (i + 1)) (by omega) ⟨i + 1, by omega, rfl, hw, ?_, ?_, rfl, ?_⟩
   ·simp -implicitDefEqProofs (disch:=first|omega|simp only[nx4]<;>omega|fail) [e0]
   ·simp -implicitDefEqProofs (disch:=first|omega|simp only[nx4]<;>omega|fail) [e3]
   ·simp -implicitDefEqProofs (disch:=first|omega|simp only[nx4]<;>omega|fail) [hk]
 ·have hlt' : ¬ (i : Int) < 27 := by rw [prims_len] at hlt; omega
  rw [List.drop_eq_nil_of_le (by rw [prims_len] at hlt ⊢; omega), idxB] at hw
  simp -implicitDefEqProofs (disch:=first|omega|simp only[nx4]<;>omega|fail) [a56l7, a56r3, a56r8, e0, e3, e4, hlt', prims_len, ← hw, hk]
def arI (t : ByteArray) : Option Int := if primI t < 0 then none else ars[(primI t).toNat]?
theorem idxB_le : ∀ (l : List ByteArray) (t : ByteArray) (i : Int), 0 ≤ i → -1 ≤ idxB l t i ∧ idxB l t i < i + l.length
 | [], t, i, h => by simp [idxB]; omega
 | x :: r, t, i, h => by
  simp only [idxB]
  split
  ·simp; omega
  ·have := idxB_le r t (i + 1) (by omega)
   simp only [List.length_cons]; omega
theorem primI_le (t : ByteArray) : -1 ≤ primI t ∧ primI t < 27 := idxB_le prims t 0 (by omega)
def arR (t : ByteArray) : AV := match arI t with | some n => .tup [.int .i64 n, .bool true] | none => .tup [.int .i64 0, .bool false]
theorem gv_rar_get (k : Nat) (h : k < 27) : ∃ n, ars[k]? = some n ∧ gv_rar = .cptr (ars.map (.int .i64)) := by
 have : k < ars.length := h
 exact ⟨ars[k], by simp [this], rfl⟩
theorem p176 (t : ByteArray) : PureC Tryz.prog 176 [.str t] (arR t) := by
 refine PureC.intro fun s => fun_sound mixed Tryz.func176 Tryz.call176 c176 rfl (awpFun_go _ _ _ _ ?_)
 simp -implicitDefEqProofs (disch:=first|omega|simp only[nx4]<;>omega|fail) [a176, a176b, a176r0, a176r1]
 refine go_pure (p56 t) fun mm2 hm2 => ?_
 try simp only [nx4] at hm2
 simp -implicitDefEqProofs (disch:=first|omega|simp only[nx4]<;>omega|fail) [a176r2]
 obtain ⟨h1, h2⟩ := primI_le t
 refine ⟨fun h => ?_, fun h => ?_⟩
 ·have : arI t = none := by rw [arI, if_pos h]
  simp -implicitDefEqProofs (disch:=first|omega|simp only[nx4]<;>omega|fail) [a176r3, arR, this]
 ·obtain ⟨n, hn, hg⟩ := gv_rar_get (primI t).toNat (by omega)
  have : arI t = some n := by rw [arI, if_neg (by omega)]; exact hn
  have hd : (ars.map (AV.int .i64)).drop (primI t).toNat = .int .i64 n :: (ars.map (AV.int .i64)).drop ((primI t).toNat + 1) := by
   have hl : (primI t).toNat < (ars.map (AV.int .i64)).length := by
    have := (List.getElem?_eq_some_iff.1 hn).1
    simpa using this
   rw [List.drop_eq_getElem_cons hl]
   congr 1
   obtain ⟨q1, q2⟩ := List.getElem?_eq_some_iff.1 hn
   simp [q2]
  simp -implicitDefEqProofs (disch:=first|omega|simp only[nx4]<;>omega|fail) [a176r4, hg, h, h2, hd, arR, this]
theorem cfind_none (t : ByteArray) : ∀ (es : List (Value × Value)), (∀ p ∈ es, ∃ k, p.1 = .string k ∧ k ≠ t) → cfind (.str t) es = some none
 | [], _ => rfl
 | p :: r, h => by
  obtain ⟨k, hk, hne⟩ := h p (by simp)
  have ih := cfind_none t r fun q hq => h q (by simp [hq])
  have hne' : ¬ t = k := fun e => hne e.symm
  rw [cfind, ih, hk]
  simp [constAV, keq, hne']
def keysIn (es : List (Value × Value)) (l : List ByteArray) : Bool := es.all fun p => match p.1 with | .string k => l.any fun x => decide (x = k) | _ => false
theorem keysIn_spec {es : List (Value × Value)} {l : List ByteArray} (h : keysIn es l = true) (t : ByteArray) (ht : ¬ t ∈ l) : cfind (.str t) es = some none := by
 refine cfind_none t es fun p hp => ?_
 have := List.all_eq_true.1 h p hp
 split at this
 ·rename_i k hk
  obtain ⟨x, hx, he⟩ := List.any_eq_true.1 this
  have he := of_decide_eq_true he
  exact ⟨k, hk, fun e => ht (by rw [← e, ← he]; exact hx)⟩
 ·cases this
theorem idxB_none : ∀ (l : List ByteArray) (t : ByteArray) (i : Int), ¬ t ∈ l → idxB l t i = -1
 | [], _, _, _ => rfl
 | x :: r, t, i, h => by
  simp only [List.mem_cons, not_or] at h
  rw [idxB, if_neg (fun e => h.1 e.symm), idxB_none r t _ h.2]
theorem ari_all : ∀ t ∈ prims, cfind (.str t) es_ari = some ((arI t).map (.int .i64)) := by
 intro t ht
 simp only [prims, List.mem_cons, List.not_mem_nil, or_false] at ht
 rcases ht with rfl | rfl | rfl | rfl | rfl | rfl | rfl | rfl | rfl | rfl | rfl | rfl | rfl | rfl | rfl | rfl | rfl | rfl | rfl | rfl | rfl | rfl | rfl | rfl | rfl | rfl | rfl <;> kernel_rfl
theorem ari_find (t : ByteArray) : cfind (.str t) es_ari = some ((arI t).map (.int .i64)) := by
 by_cases h : t ∈ prims
 ·exact ari_all t h
 ·rw [keysIn_spec (l := prims) (by kernel_rfl) t h, arI, primI, idxB_none _ _ _ h]
  rfl
def purI (t : ByteArray) : Bool := decide (0 ≤ primI t ∧ primI t < 10)
theorem pur_all : ∀ t ∈ prims, cfind (.str t) es_pur = some (if purI t then some (.bool true) else none) := by
 intro t ht
 simp only [prims, List.mem_cons, List.not_mem_nil, or_false] at ht
 rcases ht with rfl | rfl | rfl | rfl | rfl | rfl | rfl | rfl | rfl | rfl | rfl | rfl | rfl | rfl | rfl | rfl | rfl | rfl | rfl | rfl | rfl | rfl | rfl | rfl | rfl | rfl | rfl <;> kernel_rfl
theorem pur_find (t : ByteArray) : cfind (.str t) es_pur = some (if purI t then some (.bool true) else none) := by
 by_cases h : t ∈ prims
 ·exact pur_all t h
 ·rw [keysIn_spec (l := prims) (by kernel_rfl) t h, purI, primI, idxB_none _ _ _ h]
  rfl
def shp : Int → Option (Int × Int × Bool × Bool × Bool)
 | 1 => some (0, 0, true, false, false)
 | 2 => some (0, 0, false, true, false)
 | 3 => some (0, 0, true, false, false)
 | 4 => some (0, 12, false, true, false)
 | 5 => some (1, 1, true, false, false)
 | 6 => some (2, 9, false, false, false)
 | 7 => some (2, 13, false, false, false)
 | 8 => some (1, 1, false, false, true)
 | 9 => some (0, 2, false, true, false)
 | _ => none
def shpV (x : Int × Int × Bool × Bool × Bool) : AV := .agg [.int .i64 x.1, .int .i64 x.2.1, .bool x.2.2.1, .bool x.2.2.2.1, .bool x.2.2.2.2]
theorem cfindI_none (n : Int) : ∀ (es : List (Value × Value)), (∀ p ∈ es, ∃ k, p.1 = .int .i64 k ∧ k ≠ n) → cfind (.int .i64 n) es = some none
 | [], _ => rfl
 | p :: r, h => by
  obtain ⟨k, hk, hne⟩ := h p (by simp)
  have ih := cfindI_none n r fun q hq => h q (by simp [hq])
  have hne' : ¬ n = k := fun e => hne e.symm
  rw [cfind, ih, hk]
  simp [constAV, keq, hne']
theorem shp_find (op : Int) : cfind (.int .i64 op) es_shp = some ((shp op).map shpV) := by
 by_cases h : op = 1 ∨ op = 2 ∨ op = 3 ∨ op = 4 ∨ op = 5 ∨ op = 6 ∨ op = 7 ∨ op = 8 ∨ op = 9
 ·rcases h with rfl | rfl | rfl | rfl | rfl | rfl | rfl | rfl | rfl <;> kernel_rfl
 ·have h1 : shp op = none := by
   unfold shp
   split <;> first | rfl | (exfalso; omega)
  rw [h1]
  refine cfindI_none op _ fun p hp => ?_
  simp only [es_shp, List.mem_cons, List.not_mem_nil, or_false] at hp
  rcases hp with rfl | rfl | rfl | rfl | rfl | rfl | rfl | rfl | rfl <;> exact ⟨_, rfl, by omega⟩
end Go.AL.Dm
namespace Go.AL.Dm
open Go Go.Proofs
section
variable {α : Type} [DecidableEq α]
def kset (f : α → AV) (es : List (Nat × AV × AV)) (l : List α) : Prop := es.map (·.2) = l.map fun k => (f k, AV.bool true)
theorem kset_find {f : α → AV} (hf : ∀ a b, keq (f a) (f b) = some (decide (a = b))) (k : α) : ∀ {es : List (Nat × AV × AV)} {l : List α} (_ : kset f es l) (i : Nat),
  ∃ r, mfind (f k) es i = some r ∧ (k ∉ l → r = none) ∧ (k ∈ l → ∃ j, r = some (i + j) ∧ ∃ e, es[j]? = some e ∧ e.2 = (f k, .bool true))
 | [], l, h, i => by
  have : l = [] := by simpa [kset] using h.symm
  subst this
  exact ⟨none, rfl, fun _ => rfl, by simp⟩
 | e :: es, l, h, i => by
  cases l with
  | nil => simp [kset] at h
  | cons x l =>
   simp only [kset, List.map_cons, List.cons.injEq] at h
   obtain ⟨h1, h2⟩ := h
   by_cases hx : k = x
   ·subst hx
    refine ⟨some i, ?_, by simp, fun _ => ⟨0, by simp, e, rfl, h1⟩⟩
    rw [mfind, h1]
    simp [hf]
   ·obtain ⟨r, k1, k2, k3⟩ := kset_find hf k h2 (i + 1)
    refine ⟨r, ?_, fun hn => k2 fun hm => hn (by simp [hm]), fun hm => ?_⟩
    ·rw [mfind, h1]
     simp [hf, hx, k1]
    ·have hm' : k ∈ l := by simpa [hx] using hm
     obtain ⟨j, q1, q2⟩ := k3 hm'
     exact ⟨j + 1, by rw [q1]; congr 1; omega, by simpa using q2⟩
theorem kset_look {f : α → AV} (hf : ∀ a b, keq (f a) (f b) = some (decide (a = b))) (k : α) {es : List (Nat × AV × AV)} {l : List α} (h : kset f es l) (clock : Nat) :
  ∃ r, mfind (f k) es 0 = some r ∧ lookAV false [.bool false] false (r.bind fun i => (es[i]?).map (·.2.2)) = .bool (decide (k ∈ l)) ∧ (r.bind fun i => (es[i]?).map (·.2.2)).isSome = decide (k ∈ l) ∧
   ∃ es' clock', mapSet es clock (f k) (.bool true) r = .map es' clock' ∧ kset f es' (if k ∈ l then l else l ++ [k]) := by
 obtain ⟨r, h1, h2, h3⟩ := kset_find hf k h 0
 refine ⟨r, h1, ?_⟩
 by_cases hm : k ∈ l
 ·obtain ⟨j, hj, e, q1, q2⟩ := h3 hm
  simp only [Nat.zero_add] at hj
  subst hj
  refine ⟨by simp [lookAV, q1, q2, hm], by simp [q1, hm], _, _, rfl, ?_⟩
  rw [if_pos hm]
  unfold kset at h ⊢
  rw [← h]
  apply List.ext_getElem?
  intro n
  simp only [List.getElem?_map, List.getElem?_modify]
  by_cases hn : j = n
  ·subst hn
   simp [q1, q2]
  ·simp [hn]
 ·have hr := h2 hm
  subst hr
  refine ⟨by simp [lookAV, hm], by simp [hm], _, _, rfl, ?_⟩
  rw [if_neg hm]
  unfold kset at h ⊢
  simp [h]
theorem kset_lk {f : α → AV} (hf : ∀ a b, keq (f a) (f b) = some (decide (a = b))) (k : α) {es : List (Nat × AV × AV)} {l : List α} (h : kset f es l) (s : St) (K : KS) :
  lkR false [.bool false] false es (mfind (f k) es 0) s K = K (.bool (decide (k ∈ l))) s := by
 obtain ⟨r, h1, h2, _⟩ := kset_look hf k h 0
 rw [h1]
 show K _ s = _
 rw [h2]
theorem kset_up {f : α → AV} (hf : ∀ a b, keq (f a) (f b) = some (decide (a = b))) (k : α) {es : List (Nat × AV × AV)} {l : List α} (h : kset f es l) (clock : Nat) :
  ∃ es' clock', kset f es' (if k ∈ l then l else l ++ [k]) ∧ ∀ (o : Nat) (s : St) (K : KS), upR o es clock (f k) (.bool true) (mfind (f k) es 0) s K = K (.tup []) (s.set o (.map es' clock')) := by
 obtain ⟨r, h1, _, _, es', clock', h4, h5⟩ := kset_look hf k h clock
 refine ⟨es', clock', h5, fun o s K => ?_⟩
 rw [h1]
 show K _ (s.set o _) = _
 rw [h4]
end
theorem kset_nil {α : Type} (f : α → AV) : kset f [] [] := rfl
theorem keq_str (a b : ByteArray) : keq (.str a) (.str b) = some (decide (a = b)) := rfl
theorem keq_int (a b : Int) : keq (.int .i64 a) (.int .i64 b) = some (decide (a = b)) := by simp [keq]
theorem p116 (a b c : Int) : PureC Tryz.prog 116 [.int .i64 a, .int .i64 b, .int .i64 c] (.bool (decide (b ≤ a) && decide (a ≤ c))) := by
 refine PureC.intro fun s => fun_sound mixed Tryz.func116 Tryz.call116 c116 rfl (awpFun_go _ _ _ _ ?_)
 by_cases h1 : b ≤ a <;> by_cases h2 : a ≤ c <;> simp -implicitDefEqProofs (disch:=first|omega|simp only[nx4]<;>omega|fail) [a116, a116b, a116r0, a116r1, h1, h2]
def emp : ByteArray := ⟨#[]⟩
def headOK (a : Hd) (last : Bool) : Bool :=
 if a.op = 1 then last && decide (a.s = emp) && decide (a.n = 0) else if a.op = 2 then nm a.s && (decide (0 ≤ a.n) && decide (a.n ≤ 12)) else if a.op = 3 then decide (a.s = emp) else false
def pairOK (h a : Hd) : Bool := decide (h.op = a.op) && !(decide (a.op = 2) && decide (h.s = a.s)) && !(decide (a.op = 3) && decide (h.n = a.n))
def altsOK : List Hd → List (Hd × Pl) → Bool
 | _, [] => true
 | pre, a :: r => headOK a.1 r.isEmpty && (if a.1.op = 1 then altsOK pre r else (pre.all fun h => pairOK h a.1) && altsOK (pre ++ [a.1]) r)
end Go.AL.Dm
namespace Go.AL.Dm
open Go Go.Proofs
def I175 (l : List (Hd × Pl)) (s : St) (m : Nat) (g : Env) (s1 : St) : Prop :=
 ∃ i : Nat, i ≤ l.length ∧ m = l.length - i ∧ altsOK ((l.take i).map (·.1)) (l.drop i) = altsOK [] l ∧ g.get 0 = .list 8 .none (l.map Pl.altv) ∧ g.get 3 = .int .i64 i ∧ Kept s s1 ∧ s.nx ≤ s1.nx
def J175 (l : List (Hd × Pl)) (i o : Nat) (a : Hd × Pl) (s : St) (m : Nat) (g : Env) (s1 : St) : Prop :=
 ∃ k : Nat, k ≤ i ∧ m = i - k ∧ (((l.take i).map (·.1)).drop k |>.all fun h => pairOK h a.1) = (((l.take i).map (·.1)).all fun h => pairOK h a.1) ∧
  g.get 0 = .list 8 .none (l.map Pl.altv) ∧ g.get 3 = .int .i64 i ∧ g.get 4 = .ptr o 0 ∧ g.get 5 = .int .i64 k ∧ s1.m o = some (.box (Pl.altv a).cells) ∧ Kept s s1 ∧ o < s1.nx
theorem emp_def : (⟨#[]⟩ : ByteArray) = emp := rfl
theorem p175 (l : List (Hd × Pl)) : PureC Tryz.prog 175 [.list 8 .none (l.map Pl.altv)] (.bool (decide (1 ≤ l.length) && decide (l.length ≤ 40) && altsOK [] l)) := by
 refine PureC.intro fun s => fun_sound mixed Tryz.func175 Tryz.call175 c175 rfl (awpFun_go _ _ _ _ ?_)
 by_cases h1 : (l.length : Int) < 1
 ·have : ¬ 1 ≤ l.length := by omega
  simp -implicitDefEqProofs (disch:=first|omega|simp only[nx4]<;>omega|fail) [a175, a175b, a175r0, a175r1, a175r2, h1, this]
 by_cases h2 : (40 : Int) < l.length
 ·have : ¬ l.length ≤ 40 := by omega
  simp -implicitDefEqProofs (disch:=first|omega|simp only[nx4]<;>omega|fail) [a175, a175b, a175r0, a175r1, a175r2, h1, h2, this]
 have k1 : 1 ≤ l.length := by omega
 have k2 : l.length ≤ 40 := by omega
 simp -implicitDefEqProofs (disch:=first|omega|simp only[nx4]<;>omega|fail) [a175, a175b, a175r0, a175r1, a175r3, h1, h2, k1, k2]
 refine go_loop (I175 l s) l.length ⟨0, by omega, by omega, by simp, ?_, ?_, ?_, ?_⟩ ?_
 iterate 4 (try simp -implicitDefEqProofs (disch:=first|omega|simp only[nx4]<;>omega|fail))
 rintro m g s1 ⟨i, hi, rfl, hw, e0, e3, hk, hn⟩
 by_cases hlt : i < l.length
 ·have hlt' : (i : Int) < l.length := by omega
  have w3 := wrapS (i := i) (by omega)
  have w4 : IntKind.i64.wrap ((l.length : Int) - 1) = (l.length : Int) - 1 := wrap64 (by omega) (by omega)
  rw [List.drop_eq_getElem_cons hlt, altsOK] at hw
  generalize hx : l[i] = x at hw
  have hget : (l.map Pl.altv).getD i .any = Pl.altv x := by rw [getD_map _ _ _ hlt, hx]
  have hemp : (l.drop (i + 1)).isEmpty = decide ((i : Int) = l.length - 1) := by
   by_cases e : i + 1 = l.length
   ·have : (i : Int) = l.length - 1 := by omega
    simp [this, List.drop_eq_nil_of_le (show l.length ≤ i + 1 by omega)]
   ·have : ¬ (i : Int) = l.length - 1 := by omega
    simp [this]; omega
  have e4 : emp = ⟨#[]⟩ := rfl
  have hin : x.1.op ≠ 1 → ((((l.take i).map (·.1)).all fun h => pairOK h x.1) && altsOK ((l.take i).map (·.1) ++ [x.1]) (l.drop (i + 1))) = altsOK [] l →
    ∀ (G : Env) (S : St), G.get 0 = .list 8 .none (l.map Pl.altv) → G.get 3 = .int .i64 i → G.get 4 = .ptr s1.nx 0 → S.m s1.nx = some (.box (Pl.altv x).cells) → Kept s S → s1.nx < S.nx →
    go (awp Tryz.prog (.seq (.reg false a175r17) (.block 3 (.loop a175l22))) (blockQ 1 (seqQ Tryz.prog (.reg false a175r23) (loopQ (l.length - i) (I175 l s) (blockQ 0 (seqQ Tryz.prog (.seq (.reg false a175r25) .ret) (finQ [.tmp (true, 2)] fun r' s' => wk r' (.bool (altsOK [] l)) ∧ Kept s s')))))) G S) := by
   intro hne hall G S g0 g3 g4 hb hk hn1
   simp -implicitDefEqProofs (disch:=first|omega|simp only[nx4]<;>omega|fail) [a175r17]
   refine go_loop (J175 l i s1.nx x s) i ⟨0, by omega, by omega, by simp, ?_, ?_, ?_, ?_, ?_, ?_, ?_⟩ ?_
   iterate 7 (try simp -implicitDefEqProofs (disch:=first|omega|simp only[nx4]<;>omega|fail) [g0, g3, g4, hb, hk])
   ·exact hn1
   rintro m g s2 ⟨k, hki, rfl, hp, e0, e3, e4, e5, hb, hk, hn2⟩
   by_cases hklt : k < i
   ·have hklt' : (k : Int) < i := by omega
    have hkl : k < l.length := by omega
    have hkl' : (k : Int) < l.length := by omega
    have w5 := wrapS (i := k) (by omega)
    have hlen : k < ((l.take i).map (·.1)).length := by simp; omega
    rw [List.drop_eq_getElem_cons hlen, List.all_cons] at hp
    have hy : ((l.take i).map (·.1))[k] = l[k].1 := by simp
    rw [hy] at hp
    generalize hyy : l[k] = y at hp
    have hnext : pairOK y.1 x.1 = true → ∀ mm, s2.nx ≤ mm → go (loopQ (i - k) (J175 l i s1.nx x s) (blockQ 3 (blockQ 1 (seqQ Tryz.prog (.reg false a175r23) (loopQ (l.length - i) (I175 l s) (blockQ 0 (seqQ Tryz.prog (.seq (.reg false a175r25) .ret) (finQ [.tmp (true, 2)] fun r' s' => wk r' (.bool (altsOK [] l)) ∧ Kept s s'))))))) .normal ((5, .int .i64 ((k : Int) + 1)) :: (106, .bool false) :: (66, .bool true) :: g) (s2.bump mm)) := by
     intro hpk mm hmm
     rw [hpk, Bool.true_and] at hp
     refine go_next (i - (k + 1)) (by omega) ⟨k + 1, by omega, rfl, hp, ?_, ?_, ?_, rfl, ?_, ?_, ?_⟩
     all_goals (try simp -implicitDefEqProofs (disch:=first|omega|simp only[nx4]<;>omega|fail) [e0, e3, e4, hb, hk])
     all_goals omega
    by_cases c1 : y.1.op = x.1.op
    ·by_cases q2 : x.1.op = 2
     ·by_cases d : y.1.s = x.1.s
      ·have : pairOK y.1 x.1 = false := by simp [pairOK, c1, q2, d]
       rw [this, Bool.false_and] at hp
       rw [← hp, Bool.false_and] at hall
       simp -implicitDefEqProofs (disch:=first|omega|simp only[nx4]<;>omega|fail) [a175l22, a175r18, a175r19, a175r20, e0, e3, e4, e5, hb, hklt', hkl', hkl, hyy, c1, q2, d, ← hall, hk]
      ·have : pairOK y.1 x.1 = true := by simp [pairOK, c1, q2, d]
       simp -implicitDefEqProofs (disch:=first|omega|simp only[nx4]<;>omega|fail) [a175l22, a175r18, a175r19, a175r20, a175r21, e0, e3, e4, e5, hb, hklt', hkl', hkl, hyy, c1, q2, d, w5]
       exact hnext this
     ·by_cases q3 : x.1.op = 3
      ·by_cases d : y.1.n = x.1.n
       ·have : pairOK y.1 x.1 = false := by simp [pairOK, c1, q3, d]
        rw [this, Bool.false_and] at hp
        rw [← hp, Bool.false_and] at hall
        simp -implicitDefEqProofs (disch:=first|omega|simp only[nx4]<;>omega|fail) [a175l22, a175r18, a175r19, a175r20, e0, e3, e4, e5, hb, hklt', hkl', hkl, hyy, c1, q3, d, ← hall, hk]
       ·have : pairOK y.1 x.1 = true := by simp [pairOK, c1, q3, d]
        simp -implicitDefEqProofs (disch:=first|omega|simp only[nx4]<;>omega|fail) [a175l22, a175r18, a175r19, a175r20, a175r21, e0, e3, e4, e5, hb, hklt', hkl', hkl, hyy, c1, q3, d, w5]
        exact hnext this
      ·have : pairOK y.1 x.1 = true := by simp [pairOK, c1, q2, q3]
       simp -implicitDefEqProofs (disch:=first|omega|simp only[nx4]<;>omega|fail) [a175l22, a175r18, a175r19, a175r20, a175r21, e0, e3, e4, e5, hb, hklt', hkl', hkl, hyy, c1, q2, q3, w5]
       exact hnext this
    ·have : pairOK y.1 x.1 = false := by simp [pairOK, c1]
     rw [this, Bool.false_and] at hp
     rw [← hp, Bool.false_and] at hall
     simp -implicitDefEqProofs (disch:=first|omega|simp only[nx4]<;>omega|fail) [a175l22, a175r18, a175r19, a175r20, e0, e3, e4, e5, hb, hklt', hkl', hkl, hyy, c1, ← hall, hk]
   ·have hklt' : ¬ (k : Int) < i := by omega
    have hlen : ((l.take i).map (·.1)).length ≤ k := by simp; omega
    rw [List.drop_eq_nil_of_le hlen, List.all_nil] at hp
    rw [← hp, Bool.true_and] at hall
    simp -implicitDefEqProofs (disch:=first|omega|simp only[nx4]<;>omega|fail) [a175l22, a175r18, a175r23, e0, e3, e4, e5, hklt', w3]
    refine go_next (l.length - (i + 1)) (by omega) ⟨i + 1, by omega, rfl, ?_, ?_, rfl, ?_, ?_⟩
    ·rw [List.take_add_one, List.getElem?_eq_getElem hlt, hx]
     simpa using hall
    ·simp -implicitDefEqProofs (disch:=first|omega|simp only[nx4]<;>omega|fail) [e0]
    ·simp -implicitDefEqProofs (disch:=first|omega|simp only[nx4]<;>omega|fail) [hk]
    ·omega
  by_cases o1 : x.1.op = 1
  ·by_cases d1 : (i : Int) = l.length - 1
   ·have d1' : ¬ (i : Int) < l.length - 1 := by omega
    by_cases d2 : x.1.s = emp
    ·by_cases d3 : x.1.n = 0
     ·have hh : headOK x.1 (l.drop (i + 1)).isEmpty = true := by simp [headOK, o1, hemp, d1, d2, d3]
      rw [hh, Bool.true_and, if_pos o1, List.drop_eq_nil_of_le (by omega), altsOK] at hw
      simp -implicitDefEqProofs (disch:=first|omega|simp only[nx4]<;>omega|fail) [a175l24, a175r4, a175r5, a175r6, a175r7, a175r8, a175r23, e0, e3, hlt', hx, o1, w4, d1', emp_def, d2, d3, w3]
      refine go_next (l.length - (i + 1)) (by omega) ⟨i + 1, by omega, rfl, ?_, ?_, rfl, ?_, ?_⟩
      ·rw [List.drop_eq_nil_of_le (by omega), altsOK]; exact hw
      ·simp -implicitDefEqProofs (disch:=first|omega|simp only[nx4]<;>omega|fail) [e0]
      ·simp -implicitDefEqProofs (disch:=first|omega|simp only[nx4]<;>omega|fail) [hk]
      ·simp -implicitDefEqProofs (disch:=first|omega|simp only[nx4]<;>omega|fail)
       omega
     ·have hh : headOK x.1 (l.drop (i + 1)).isEmpty = false := by simp [headOK, o1, d3]
      rw [hh, Bool.false_and] at hw
      simp -implicitDefEqProofs (disch:=first|omega|simp only[nx4]<;>omega|fail) [a175l24, a175r4, a175r5, a175r6, a175r7, a175r8, a175r9, e0, e3, hlt', hx, o1, w4, d1', emp_def, d2, d3, ← hw, hk]
    ·have hh : headOK x.1 (l.drop (i + 1)).isEmpty = false := by simp [headOK, o1, d2]
     rw [hh, Bool.false_and] at hw
     simp -implicitDefEqProofs (disch:=first|omega|simp only[nx4]<;>omega|fail) [a175l24, a175r4, a175r5, a175r6, a175r7, a175r8, a175r9, e0, e3, hlt', hx, o1, w4, d1', emp_def, d2, ← hw, hk]
   ·have d1' : (i : Int) < l.length - 1 := by omega
    have hh : headOK x.1 (l.drop (i + 1)).isEmpty = false := by simp [headOK, o1, hemp, d1]
    rw [hh, Bool.false_and] at hw
    simp -implicitDefEqProofs (disch:=first|omega|simp only[nx4]<;>omega|fail) [a175l24, a175r4, a175r5, a175r6, a175r7, a175r8, a175r9, e0, e3, hlt', hx, o1, w4, d1', ← hw, hk]
  rw [if_neg o1] at hw
  by_cases o2 : x.1.op = 2
  ·have h34 := p34 x.1.s
   cases hnm : nm x.1.s with
   | false =>
    rw [hnm] at h34
    have hh : headOK x.1 (l.drop (i + 1)).isEmpty = false := by simp [headOK, o2, hnm]
    rw [hh, Bool.false_and] at hw
    simp -implicitDefEqProofs (disch:=first|omega|simp only[nx4]<;>omega|fail) [a175l24, a175r4, a175r5, a175r6, a175r7, a175r10, a175r11, e0, e3, hlt', hx, o2]
    refine go_pure h34 fun mm1 hm1 => ?_
    try simp only [nx4] at hm1
    simp -implicitDefEqProofs (disch:=first|omega|simp only[nx4]<;>omega|fail) [a175r12, ← hw, hk]
   | true =>
    rw [hnm] at h34
    by_cases d1 : x.1.n < 0
    ·have hh : headOK x.1 (l.drop (i + 1)).isEmpty = false := by simp [headOK, o2]; omega
     rw [hh, Bool.false_and] at hw
     simp -implicitDefEqProofs (disch:=first|omega|simp only[nx4]<;>omega|fail) [a175l24, a175r4, a175r5, a175r6, a175r7, a175r10, a175r11, e0, e3, hlt', hx, o2]
     refine go_pure h34 fun mm2 hm2 => ?_
     try simp only [nx4] at hm2
     simp -implicitDefEqProofs (disch:=first|omega|simp only[nx4]<;>omega|fail) [a175r12, d1, ← hw, hk]
    ·by_cases d2 : 12 < x.1.n
     ·have hh : headOK x.1 (l.drop (i + 1)).isEmpty = false := by simp [headOK, o2]; omega
      rw [hh, Bool.false_and] at hw
      simp -implicitDefEqProofs (disch:=first|omega|simp only[nx4]<;>omega|fail) [a175l24, a175r4, a175r5, a175r6, a175r7, a175r10, a175r11, e0, e3, hlt', hx, o2]
      refine go_pure h34 fun mm3 hm3 => ?_
      try simp only [nx4] at hm3
      simp -implicitDefEqProofs (disch:=first|omega|simp only[nx4]<;>omega|fail) [a175r12, d1, d2, ← hw, hk]
     ·have q1 : 0 ≤ x.1.n := by omega
      have q2 : x.1.n ≤ 12 := by omega
      have hh : headOK x.1 (l.drop (i + 1)).isEmpty = true := by simp [headOK, o2, hnm, q1, q2]
      rw [hh, Bool.true_and] at hw
      simp -implicitDefEqProofs (disch:=first|omega|simp only[nx4]<;>omega|fail) [a175l24, a175r4, a175r5, a175r6, a175r7, a175r10, a175r11, e0, e3, hlt', hx, o2]
      refine go_pure h34 fun mm4 hm4 => ?_
      try simp only [nx4] at hm4
      simp -implicitDefEqProofs (disch:=first|omega|simp only[nx4]<;>omega|fail) [d1, d2]
      refine hin (by omega) hw _ _ ?_ ?_ ?_ ?_ ?_ ?_
      all_goals (try simp -implicitDefEqProofs (disch:=first|omega|simp only[nx4]<;>omega|fail) [e0, e3, hk, o2])
      all_goals omega
  ·by_cases o3 : x.1.op = 3
   ·by_cases d1 : x.1.s = emp
    ·have hh : headOK x.1 (l.drop (i + 1)).isEmpty = true := by simp [headOK, o3, d1]
     rw [hh, Bool.true_and] at hw
     simp -implicitDefEqProofs (disch:=first|omega|simp only[nx4]<;>omega|fail) [a175l24, a175r4, a175r5, a175r6, a175r7, a175r10, a175r13, a175r14, e0, e3, hlt', hx, o3, emp_def, d1]
     refine hin (by omega) hw _ _ ?_ ?_ ?_ ?_ ?_ ?_
     all_goals (try simp -implicitDefEqProofs (disch:=first|omega|simp only[nx4]<;>omega|fail) [e0, e3, hk, o3, d1])
     all_goals omega
    ·have hh : headOK x.1 (l.drop (i + 1)).isEmpty = false := by simp [headOK, o3, d1]
     rw [hh, Bool.false_and] at hw
     simp -implicitDefEqProofs (disch:=first|omega|simp only[nx4]<;>omega|fail) [a175l24, a175r4, a175r5, a175r6, a175r7, a175r10, a175r13, a175r14, a175r15, e0, e3, hlt', hx, o3, emp_def, d1, ← hw, hk]
   ·have hh : headOK x.1 (l.drop (i + 1)).isEmpty = false := by simp [headOK, o1, o2, o3]
    rw [hh, Bool.false_and] at hw
    simp -implicitDefEqProofs (disch:=first|omega|simp only[nx4]<;>omega|fail) [a175l24, a175r4, a175r5, a175r6, a175r7, a175r10, a175r13, a175r16, e0, e3, hlt', hx, o1, o2, o3, ← hw, hk]
 ·have hlt' : ¬ (i : Int) < l.length := by omega
  rw [List.drop_eq_nil_of_le (by omega), altsOK] at hw
  simp -implicitDefEqProofs (disch:=first|omega|simp only[nx4]<;>omega|fail) [a175l24, a175r4, a175r25, e0, e3, hlt', ← hw, hk]
end Go.AL.Dm
namespace Go.AL.Dm
open Go Go.Proofs
instance decMemBA (a : ByteArray) (l : List ByteArray) : Decidable (a ∈ l) := @List.instDecidableMemOfLawfulBEq ByteArray instBEqOfDecidableEq inferInstance a l
structure A117 (pre : List Hd) (kd : Int) (ls : List ByteArray) (ln : List Int) : Prop where
 two : ∀ a : Hd, a.op = 2 → (pre.all fun h => pairOK h a) = ((decide (kd = 0) || decide (kd = 2)) && !decide (a.s ∈ ls))
 three : ∀ a : Hd, a.op = 3 → (pre.all fun h => pairOK h a) = ((decide (kd = 0) || decide (kd = 3)) && !decide (a.n ∈ ln))
theorem A117.nil : A117 [] 0 [] [] := ⟨fun _ _ => rfl, fun _ _ => rfl⟩
theorem A117.add2 {pre : List Hd} {kd : Int} {ls : List ByteArray} {ln : List Int} (h : A117 pre kd ls ln) (a : Hd) (ha : a.op = 2) (hk : kd = 0 ∨ kd = 2) (hs : a.s ∉ ls) : A117 (pre ++ [a]) 2 (ls ++ [a.s]) ln := by
 constructor
 ·intro b hb
  rw [List.all_append, h.two b hb]
  have : (decide (kd = 0) || decide (kd = 2)) = true := by rcases hk with h | h <;> simp [h]
  by_cases e : a.s = b.s
  ·simp [pairOK, ha, hb, e]
  ·have e' : ¬ b.s = a.s := fun h => e h.symm
   simp [this, pairOK, ha, hb, e, e']
 ·intro b hb
  rw [List.all_append, h.three b hb]
  simp [pairOK, ha, hb]
theorem A117.add3 {pre : List Hd} {kd : Int} {ls : List ByteArray} {ln : List Int} (h : A117 pre kd ls ln) (a : Hd) (ha : a.op = 3) (hk : kd = 0 ∨ kd = 3) (hs : a.n ∉ ln) : A117 (pre ++ [a]) 3 ls (ln ++ [a.n]) := by
 constructor
 ·intro b hb
  rw [List.all_append, h.two b hb]
  simp [pairOK, ha, hb]
 ·intro b hb
  rw [List.all_append, h.three b hb]
  have : (decide (kd = 0) || decide (kd = 3)) = true := by rcases hk with h | h <;> simp [h]
  by_cases e : a.n = b.n
  ·simp [pairOK, ha, hb, e]
  ·have e' : ¬ b.n = a.n := fun h => e h.symm
   simp [this, pairOK, ha, hb, e, e']
def I117 (l : List (Hd × Pl)) (s : St) (m : Nat) (g : Env) (s1 : St) : Prop :=
 ∃ (i : Nat) (kd : Int) (ls : List ByteArray) (ln : List Int) (es1 es2 : List (Nat × AV × AV)) (c1 c2 : Nat), i ≤ l.length ∧ m = l.length - i ∧ altsOK ((l.take i).map (·.1)) (l.drop i) = altsOK [] l ∧ (i < l.length → A117 ((l.take i).map (·.1)) kd ls ln) ∧
  kset AV.str es1 ls ∧ kset (AV.int .i64) es2 ln ∧ s1.m s.nx = some (.map es1 c1) ∧ s1.m (s.nx + 1) = some (.map es2 c2) ∧
  g.get 0 = .list 8 .none (l.map Pl.altv) ∧ g.get 3 = .int .i64 kd ∧ g.get 4 = .map s.nx ∧ g.get 5 = .map (s.nx + 1) ∧ g.get 10 = .list 8 .none (l.map Pl.altv) ∧ g.get 11 = .int .i64 l.length ∧ g.get 12 = .int .i64 i ∧ Kept s s1 ∧ s.nx + 1 < s1.nx
theorem p117 (l : List (Hd × Pl)) (hl : l.length ≤ 1000000) : PureC Tryz.prog 117 [.list 8 .none (l.map Pl.altv)] (.bool (altsOK [] l)) := by
 refine PureC.intro fun s => fun_sound mixed Tryz.func117 Tryz.call117 c117 rfl (awpFun_go _ _ _ _ ?_)
 simp -implicitDefEqProofs (disch:=first|omega|simp only[nx4]<;>omega|fail) [a117, a117b, a117r0, a117r1, a117r2, a117r3, a117r4]
 refine go_loop (I117 l s) l.length ⟨0, 0, [], [], [], [], 0, 0, by omega, by omega, by simp, fun _ => A117.nil, rfl, rfl, ?_, ?_, ?_, ?_, ?_, ?_, ?_, ?_, ?_, ?_, ?_⟩ ?_
 iterate 11 (try simp -implicitDefEqProofs (disch:=first|omega|simp only[nx4]<;>omega|fail))
 rintro m g s1 ⟨i, kd, ls, ln, es1, es2, c1, c2, hi, rfl, hw, hA, ks1, ks2, hm1, hm2, e0, e3, e4, e5, e10, e11, e12, hk, hn⟩
 by_cases hlt : i < l.length
 ·have hA := hA hlt
  have hlt' : (i : Int) < l.length := by omega
  have w3 := wrapS (i := i) (by omega)
  have w4 : IntKind.i64.wrap ((l.length : Int) - 1) = (l.length : Int) - 1 := wrap64 (by omega) (by omega)
  rw [List.drop_eq_getElem_cons hlt, altsOK] at hw
  generalize hx : l[i] = x at hw
  have hemp : (l.drop (i + 1)).isEmpty = decide ((i : Int) = l.length - 1) := by
   by_cases e : i + 1 = l.length
   ·have : (i : Int) = l.length - 1 := by omega
    simp [this, List.drop_eq_nil_of_le (show l.length ≤ i + 1 by omega)]
   ·have : ¬ (i : Int) = l.length - 1 := by omega
    simp [this]; omega
  have htk : (l.take (i + 1)).map (·.1) = (l.take i).map (·.1) ++ [x.1] := by
   rw [List.take_add_one, List.getElem?_eq_getElem hlt, hx]
   simp
  have v1 := fun s K => kset_lk keq_str x.1.s ks1 s K
  have v2 := fun s K => kset_lk keq_int x.1.n ks2 s K
  obtain ⟨es1', c1', k1, u1⟩ := kset_up keq_str x.1.s ks1 c1
  obtain ⟨es2', c2', k2, u2⟩ := kset_up keq_int x.1.n ks2 c2
  by_cases o1 : x.1.op = 1
  ·by_cases d1 : (i : Int) = l.length - 1
   ·have hT : ((i : Int) = (l.length : Int) - 1) = True := eq_true d1
    by_cases d2 : x.1.s = emp
    ·by_cases d3 : x.1.n = 0
     ·have hh : headOK x.1 (l.drop (i + 1)).isEmpty = true := by simp [headOK, o1, hemp, d1, d2, d3]
      rw [hh, Bool.true_and, if_pos o1, List.drop_eq_nil_of_le (by omega), altsOK] at hw
      simp -implicitDefEqProofs (disch:=first|omega|simp only[nx4]<;>omega|fail) [a117l24, a117r5, a117r6, a117r7, a117r8, a117r9, a117r23, e0, e3, e10, e11, e12, hlt', hx, o1, w4, hT, emp_def, d2, d3, w3]
      refine go_next (l.length - (i + 1)) (by omega) ⟨i + 1, kd, ls, ln, es1, es2, c1, c2, by omega, rfl, ?_, fun h => ?_, ks1, ks2, ?_, ?_, ?_, ?_, ?_, ?_, ?_, ?_, rfl, ?_, ?_⟩
      ·rw [List.drop_eq_nil_of_le (by omega), altsOK]; exact hw
      ·omega
      all_goals (try simp -implicitDefEqProofs (disch:=first|omega|simp only[nx4]<;>omega|fail) [e0, e3, e4, e5, e10, e11, hk, hm1, hm2])
      all_goals omega
     ·have hh : headOK x.1 (l.drop (i + 1)).isEmpty = false := by simp [headOK, o1, d3]
      rw [hh, Bool.false_and] at hw
      simp -implicitDefEqProofs (disch:=first|omega|simp only[nx4]<;>omega|fail) [a117l24, a117r5, a117r6, a117r7, a117r8, a117r9, a117r10, e0, e3, e10, e11, e12, hlt', hx, o1, w4, hT, emp_def, d2, d3, ← hw, hk]
    ·have hh : headOK x.1 (l.drop (i + 1)).isEmpty = false := by simp [headOK, o1, d2]
     rw [hh, Bool.false_and] at hw
     simp -implicitDefEqProofs (disch:=first|omega|simp only[nx4]<;>omega|fail) [a117l24, a117r5, a117r6, a117r7, a117r8, a117r9, a117r10, e0, e3, e10, e11, e12, hlt', hx, o1, w4, hT, emp_def, d2, ← hw, hk]
   ·have hh : headOK x.1 (l.drop (i + 1)).isEmpty = false := by simp [headOK, o1, hemp, d1]
    rw [hh, Bool.false_and] at hw
    simp -implicitDefEqProofs (disch:=first|omega|simp only[nx4]<;>omega|fail) [a117l24, a117r5, a117r6, a117r7, a117r8, a117r9, a117r10, e0, e3, e10, e11, e12, hlt', hx, o1, w4, d1, ← hw, hk]
  rw [if_neg o1] at hw
  by_cases o2 : x.1.op = 2
  ·have h34 := p74 x.1.s
   cases hnm : nm x.1.s with
   | false =>
    rw [hnm] at h34
    have hh : headOK x.1 (l.drop (i + 1)).isEmpty = false := by simp [headOK, o2, hnm]
    rw [hh, Bool.false_and] at hw
    simp -implicitDefEqProofs (disch:=first|omega|simp only[nx4]<;>omega|fail) [a117l24, a117r5, a117r6, a117r7, a117r8, a117r11, a117r12, e0, e3, e10, e11, e12, hlt', hx, o2]
    refine go_pure h34 fun mm1 hm1 => ?_
    try simp only [nx4] at hm1
    simp -implicitDefEqProofs (disch:=first|omega|simp only[nx4]<;>omega|fail) [a117r13, ← hw, hk]
   | true =>
    rw [hnm] at h34
    rw [hA.two x.1 o2] at hw
    by_cases d0 : x.1.s ∈ ls
    ·have d0' : decide (x.1.s ∈ ls) = true := decide_eq_true d0
     rw [d0', Bool.not_true, Bool.and_false, Bool.false_and, Bool.and_false] at hw
     simp -implicitDefEqProofs (disch:=first|omega|simp only[nx4]<;>omega|fail) [a117l24, a117r5, a117r6, a117r7, a117r8, a117r11, a117r12, e0, e3, e4, e5, e10, e11, e12, hlt', hx, o2]
     refine go_pure h34 fun mm2 hm2 => ?_
     try simp only [nx4] at hm2
     simp -implicitDefEqProofs (disch:=first|omega|simp only[nx4]<;>omega|fail) [e4, e5, hm1, v1, d0, a117r13, hk, ← hw]
    ·have d0' : decide (x.1.s ∈ ls) = false := decide_eq_false d0
     rw [if_neg d0] at k1
     have h116 := p116 x.1.n 0 12
     rw [d0', Bool.not_false, Bool.and_true] at hw
     by_cases d1 : 0 ≤ x.1.n ∧ x.1.n ≤ 12
     ·have hh : headOK x.1 (l.drop (i + 1)).isEmpty = true := by simp [headOK, o2, hnm, d1]
      rw [hh, Bool.true_and] at hw
      have d1' : (decide (0 ≤ x.1.n) && decide (x.1.n ≤ 12)) = true := by simp [d1]
      rw [d1'] at h116
      simp -implicitDefEqProofs (disch:=first|omega|simp only[nx4]<;>omega|fail) [a117l24, a117r5, a117r6, a117r7, a117r8, a117r11, a117r12, e0, e3, e4, e5, e10, e11, e12, hlt', hx, o2]
      refine go_pure h34 fun mm3 hm3 => ?_
      try simp only [nx4] at hm3
      simp -implicitDefEqProofs (disch:=first|omega|simp only[nx4]<;>omega|fail) [e4, e5, hm1, v1, d0]
      refine go_pure h116 fun mm4 hm4 => ?_
      try simp only [nx4] at hm4
      simp -implicitDefEqProofs (disch:=first|omega|simp only[nx4]<;>omega|fail) [a117r14, e4, hm1, u1]
      by_cases q : kd = 0 ∨ kd = 2
      ·have hq : (decide (kd = 0) || decide (kd = 2)) = true := by rcases q with h | h <;> simp [h]
       rw [hq, Bool.true_and] at hw
       have hA' := hA.add2 x.1 o2 q d0
       rcases q with q0 | q0
       all_goals
        simp -implicitDefEqProofs (disch:=first|omega|simp only[nx4]<;>omega|fail) [a117r20, a117r22, a117r23, e3, q0, e12, w3]
        refine go_next (l.length - (i + 1)) (by omega) ⟨i + 1, 2, ls ++ [x.1.s], ln, es1', es2, c1', c2, by omega, rfl, ?_, fun _ => ?_, k1, ks2, ?_, ?_, ?_, ?_, ?_, ?_, ?_, ?_, rfl, ?_, ?_⟩
        ·rw [htk]; exact hw
        ·rw [htk]; exact hA'
        all_goals (try simp -implicitDefEqProofs (disch:=first|omega|simp only[nx4]<;>omega|fail) [e0, e3, e4, e5, e10, e11, hk, hm1, hm2, o2])
        all_goals omega
      ·have hq : (decide (kd = 0) || decide (kd = 2)) = false := by simpa [not_or] using q
       rw [hq, Bool.false_and] at hw
       have q1 : ¬ kd = 0 := fun h => q (.inl h)
       have q2 : ¬ kd = 2 := fun h => q (.inr h)
       simp -implicitDefEqProofs (disch:=first|omega|simp only[nx4]<;>omega|fail) [a117r20, a117r21, e3, q1, q2, ← hw, hk]
     ·have hh : headOK x.1 (l.drop (i + 1)).isEmpty = false := by simp [headOK, o2, hnm]; omega
      rw [hh, Bool.false_and] at hw
      have d1' : (decide (0 ≤ x.1.n) && decide (x.1.n ≤ 12)) = false := by
       by_cases q : 0 ≤ x.1.n
       ·have : ¬ x.1.n ≤ 12 := fun h => d1 ⟨q, h⟩
        simp [this]
       ·simp [q]
      rw [d1'] at h116
      simp -implicitDefEqProofs (disch:=first|omega|simp only[nx4]<;>omega|fail) [a117l24, a117r5, a117r6, a117r7, a117r8, a117r11, a117r12, e0, e3, e4, e5, e10, e11, e12, hlt', hx, o2]
      refine go_pure h34 fun mm5 hm5 => ?_
      try simp only [nx4] at hm5
      simp -implicitDefEqProofs (disch:=first|omega|simp only[nx4]<;>omega|fail) [e4, e5, hm1, v1, d0]
      refine go_pure h116 fun mm6 hm6 => ?_
      try simp only [nx4] at hm6
      simp -implicitDefEqProofs (disch:=first|omega|simp only[nx4]<;>omega|fail) [a117r13, hk, ← hw]
  ·by_cases o3 : x.1.op = 3
   ·rw [hA.three x.1 o3] at hw
    by_cases d1 : x.1.s = emp
    ·have hh : headOK x.1 (l.drop (i + 1)).isEmpty = true := by simp [headOK, o3, d1]
     rw [hh, Bool.true_and] at hw
     by_cases d0 : x.1.n ∈ ln
     ·have d0' : decide (x.1.n ∈ ln) = true := decide_eq_true d0
      rw [d0', Bool.not_true, Bool.and_false, Bool.false_and] at hw
      simp -implicitDefEqProofs (disch:=first|omega|simp only[nx4]<;>omega|fail) [a117l24, a117r5, a117r6, a117r7, a117r8, a117r11, a117r15, a117r16, a117r17, e0, e3, e4, e5, e10, e11, e12, hlt', hx, o3, emp_def, d1, hm2, v2, d0, hk, ← hw]
     ·have d0' : decide (x.1.n ∈ ln) = false := decide_eq_false d0
      rw [if_neg d0] at k2
      rw [d0', Bool.not_false, Bool.and_true] at hw
      simp -implicitDefEqProofs (disch:=first|omega|simp only[nx4]<;>omega|fail) [a117l24, a117r5, a117r6, a117r7, a117r8, a117r11, a117r15, a117r16, a117r18, e0, e3, e4, e5, e10, e11, e12, hlt', hx, o3, emp_def, d1, hm2, v2, d0, u2]
      by_cases q : kd = 0 ∨ kd = 3
      ·have hq : (decide (kd = 0) || decide (kd = 3)) = true := by rcases q with h | h <;> simp [h]
       rw [hq, Bool.true_and] at hw
       have hA' := hA.add3 x.1 o3 q d0
       rcases q with q0 | q0
       all_goals
        simp -implicitDefEqProofs (disch:=first|omega|simp only[nx4]<;>omega|fail) [a117r20, a117r22, a117r23, e3, q0, e12, w3]
        refine go_next (l.length - (i + 1)) (by omega) ⟨i + 1, 3, ls, ln ++ [x.1.n], es1, es2', c1, c2', by omega, rfl, ?_, fun _ => ?_, ks1, k2, ?_, ?_, ?_, ?_, ?_, ?_, ?_, ?_, rfl, ?_, ?_⟩
        ·rw [htk]; exact hw
        ·rw [htk]; exact hA'
        all_goals (try simp -implicitDefEqProofs (disch:=first|omega|simp only[nx4]<;>omega|fail) [e0, e3, e4, e5, e10, e11, hk, hm1, hm2, o3])
        all_goals omega
      ·have hq : (decide (kd = 0) || decide (kd = 3)) = false := by simpa [not_or] using q
       rw [hq, Bool.false_and] at hw
       have q1 : ¬ kd = 0 := fun h => q (.inl h)
       have q2 : ¬ kd = 3 := fun h => q (.inr h)
       simp -implicitDefEqProofs (disch:=first|omega|simp only[nx4]<;>omega|fail) [a117r20, a117r21, e3, q1, q2, ← hw, hk]
    ·have hh : headOK x.1 (l.drop (i + 1)).isEmpty = false := by simp [headOK, o3, d1]
     rw [hh, Bool.false_and] at hw
     simp -implicitDefEqProofs (disch:=first|omega|simp only[nx4]<;>omega|fail) [a117l24, a117r5, a117r6, a117r7, a117r8, a117r11, a117r15, a117r16, a117r17, e0, e3, e4, e5, e10, e11, e12, hlt', hx, o3, emp_def, d1, hk, ← hw]
   ·have hh : headOK x.1 (l.drop (i + 1)).isEmpty = false := by simp [headOK, o1, o2, o3]
    rw [hh, Bool.false_and] at hw
    simp -implicitDefEqProofs (disch:=first|omega|simp only[nx4]<;>omega|fail) [a117l24, a117r5, a117r6, a117r7, a117r8, a117r11, a117r15, a117r19, e0, e3, e4, e5, e10, e11, e12, hlt', hx, o1, o2, o3, hk, ← hw]
 ·have hlt' : ¬ (i : Int) < l.length := by omega
  rw [List.drop_eq_nil_of_le (by omega), altsOK] at hw
  simp -implicitDefEqProofs (disch:=first|omega|simp only[nx4]<;>omega|fail) [a117l24, a117r5, a117r25, e10, e11, e12, hlt', ← hw, hk]
end Go.AL.Dm
namespace Go.AL.Dm
open Go Go.Proofs
def formOK (t : Pl) : Bool :=
 if t.op = 1 then decide (0 ≤ t.n) && decide (t.args.length = 0)
 else if t.op = 2 then nm t.s && decide (t.args.length = 0)
 else if t.op = 3 then decide (t.args.length = 0)
 else if t.op = 4 then nm t.s && decide (t.args.length ≤ 12)
 else if t.op = 5 then (decide (1 ≤ t.n) && decide (t.n ≤ 8)) && decide (t.args.length = 1)
 else if t.op = 6 then decide (2 ≤ t.args.length) && decide (t.args.length ≤ 9)
 else if t.op = 7 then decide (2 ≤ t.args.length) && decide (t.args.length ≤ 13)
 else if t.op = 8 then decide (t.args.length = 1) && (decide (1 ≤ t.alts.length) && decide (t.alts.length ≤ 40) && altsOK [] t.alts)
 else if t.op = 9 then (match arI t.s with | some k => decide ((t.args.length : Int) = k) | none => false)
 else false
def nodeOK (t : Pl) : Bool :=
 !(decide (t.op ≠ 8) && decide (0 < t.alts.length)) && !(decide (t.n ≠ 0) && decide (t.op ≠ 1) && decide (t.op ≠ 3) && decide (t.op ≠ 5)) && !(decide (t.s ≠ emp) && decide (t.op ≠ 2) && decide (t.op ≠ 4) && decide (t.op ≠ 9)) && formOK t
theorem len0 {α : Type} (l : List α) : ((l.length : Int) = 0) = (l.length = 0) := by simp
theorem len1 {α : Type} (l : List α) : ((l.length : Int) = 1) = (l.length = 1) := by apply propext; omega
set_option maxHeartbeats 4000000 in
theorem p140 (t : Pl) : PureC Tryz.prog 140 [t.av] (.bool (nodeOK t)) := by
 refine PureC.intro fun s => fun_sound mixed Tryz.func140 Tryz.call140 c140 rfl (awpFun_go _ _ _ _ ?_)
 by_cases a : t.op ≠ 8 ∧ 0 < t.alts.length
 ·obtain ⟨a1, a2⟩ := a
  simp -implicitDefEqProofs (disch:=first|omega|simp only[nx4]<;>omega|fail) [a140, a140b, a140r0, a140r1, a140r2, a140r3, nodeOK, a1, a2]
 by_cases b : t.n ≠ 0 ∧ t.op ≠ 1 ∧ t.op ≠ 3 ∧ t.op ≠ 5
 ·obtain ⟨b1, b2, b3, b4⟩ := b
  by_cases a1 : t.op = 8
  ·simp -implicitDefEqProofs (disch:=first|omega|simp only[nx4]<;>omega|fail) [a140, a140b, a140r0, a140r1, a140r2, a140r3, nodeOK, a1, b1]
  ·have a2 : ¬ 0 < t.alts.length := fun h => a ⟨a1, h⟩
   simp -implicitDefEqProofs (disch:=first|omega|simp only[nx4]<;>omega|fail) [a140, a140b, a140r0, a140r1, a140r2, a140r3, nodeOK, a1, a2, b1, b2, b3, b4]
 by_cases c : t.s ≠ emp ∧ t.op ≠ 2 ∧ t.op ≠ 4 ∧ t.op ≠ 9
 ·obtain ⟨c1, c2, c3, c4⟩ := c
  by_cases a1 : t.op = 8
  ·have b1 : t.n = 0 := by
    by_cases q : t.n = 0
    ·exact q
    ·exact absurd ⟨q, by omega, by omega, by omega⟩ b
   simp -implicitDefEqProofs (disch:=first|omega|simp only[nx4]<;>omega|fail) [a140, a140b, a140r0, a140r1, a140r2, a140r4, a140r5, nodeOK, a1, b1, emp_def, c1]
  ·have a2 : ¬ 0 < t.alts.length := fun h => a ⟨a1, h⟩
   by_cases b1 : t.n = 0
   ·simp -implicitDefEqProofs (disch:=first|omega|simp only[nx4]<;>omega|fail) [a140, a140b, a140r0, a140r1, a140r2, a140r4, a140r5, nodeOK, a1, a2, b1, emp_def, c1, c2, c3, c4]
   ·by_cases b2 : t.op = 1
    ·simp -implicitDefEqProofs (disch:=first|omega|simp only[nx4]<;>omega|fail) [a140, a140b, a140r0, a140r1, a140r2, a140r4, a140r5, nodeOK, a2, b1, b2, emp_def, c1]
    ·by_cases b3 : t.op = 3
     ·simp -implicitDefEqProofs (disch:=first|omega|simp only[nx4]<;>omega|fail) [a140, a140b, a140r0, a140r1, a140r2, a140r4, a140r5, nodeOK, a2, b1, b3, emp_def, c1]
     ·by_cases b4 : t.op = 5
      ·simp -implicitDefEqProofs (disch:=first|omega|simp only[nx4]<;>omega|fail) [a140, a140b, a140r0, a140r1, a140r2, a140r4, a140r5, nodeOK, a2, b1, b4, emp_def, c1]
      ·exact absurd ⟨b1, b2, b3, b4⟩ b
 have a0 : t.op ≠ 8 → ¬ 0 < t.alts.length := fun h1 h2 => a ⟨h1, h2⟩
 have n0 : t.op ≠ 1 → t.op ≠ 3 → t.op ≠ 5 → t.n = 0 := fun h1 h2 h3 => by
  by_cases q : t.n = 0
  ·exact q
  ·exact absurd ⟨q, h1, h2, h3⟩ b
 have s0 : t.op ≠ 2 → t.op ≠ 4 → t.op ≠ 9 → t.s = emp := fun h1 h2 h3 => by
  by_cases q : t.s = emp
  ·exact q
  ·exact absurd ⟨q, h1, h2, h3⟩ c
 have hk : nodeOK t = formOK t := by
  have e1 : (decide (t.op ≠ 8) && decide (0 < t.alts.length)) = false := by
   by_cases q : t.op = 8
   ·simp [q]
   ·have := a0 q
    simp [this]
  have e2 : (decide (t.n ≠ 0) && decide (t.op ≠ 1) && decide (t.op ≠ 3) && decide (t.op ≠ 5)) = false := by
   by_cases q1 : t.op = 1
   ·simp [q1]
   by_cases q2 : t.op = 3
   ·simp [q2]
   by_cases q3 : t.op = 5
   ·simp [q3]
   simp [n0 q1 q2 q3]
  have e3 : (decide (t.s ≠ emp) && decide (t.op ≠ 2) && decide (t.op ≠ 4) && decide (t.op ≠ 9)) = false := by
   by_cases q1 : t.op = 2
   ·simp [q1]
   by_cases q2 : t.op = 4
   ·simp [q2]
   by_cases q3 : t.op = 9
   ·simp [q3]
   simp [s0 q1 q2 q3]
  rw [nodeOK, e1, e2, e3]
  rfl
 rw [hk]
 by_cases o1 : t.op = 1
 ·have q1 := a0 (by omega)
  have q3 := s0 (by omega) (by omega) (by omega)
  by_cases p1 : 0 ≤ t.n <;> by_cases p2 : t.args.length = 0 <;> by_cases p3 : t.n = 0 <;> first | omega | simp -implicitDefEqProofs (disch:=first|omega|simp only[nx4]<;>omega|fail) [a140, a140b, a140r0, a140r1, a140r2, a140r4, a140r6, a140r7, a140r8, emp_def, o1, q1, q3, formOK, len0, p1, p2, p3]
 by_cases o2 : t.op = 2
 ·have q1 := a0 (by omega)
  have q2 := n0 (by omega) (by omega) (by omega)
  have h34 := p34 t.s
  cases hnm : nm t.s <;> rw [hnm] at h34 <;> by_cases p2 : t.args = [] <;> by_cases p3 : t.s = emp
  all_goals
   simp -implicitDefEqProofs (disch:=first|omega|simp only[nx4]<;>omega|fail) [a140, a140b, a140r0, a140r1, a140r2, a140r4, a140r6, a140r7, a140r9, a140r10, emp_def, o2, q1, q2, formOK, p3, hnm]
   try rw [p3] at h34
   refine go_pure h34 fun m1 hm1 => ?_
   simp -implicitDefEqProofs (disch:=first|omega|simp only[nx4]<;>omega|fail) [len0, p2, hnm]
   try (rw [p3] at hnm; simp [hnm])
 by_cases o3 : t.op = 3
 ·have q1 := a0 (by omega)
  have q3 := s0 (by omega) (by omega) (by omega)
  by_cases p3 : t.n = 0 <;> by_cases p2 : t.args.length = 0 <;> first | omega | simp -implicitDefEqProofs (disch:=first|omega|simp only[nx4]<;>omega|fail) [a140, a140b, a140r0, a140r1, a140r2, a140r4, a140r6, a140r7, a140r9, a140r11, a140r12, emp_def, o3, q1, q3, formOK, len0, p3, p2]
 by_cases o4 : t.op = 4
 ·have q1 := a0 (by omega)
  have q2 := n0 (by omega) (by omega) (by omega)
  have r2 : ((t.args.length : Int) ≤ 12) = (t.args.length ≤ 12) := by apply propext; omega
  have h34 := p34 t.s
  cases hnm : nm t.s <;> rw [hnm] at h34 <;> by_cases p2 : t.args.length ≤ 12 <;> by_cases p3 : t.s = emp
  all_goals
   simp -implicitDefEqProofs (disch:=first|omega|simp only[nx4]<;>omega|fail) [a140, a140b, a140r0, a140r1, a140r2, a140r4, a140r6, a140r7, a140r9, a140r11, a140r13, a140r14, emp_def, o4, q1, q2, formOK, p3, hnm]
   try rw [p3] at h34
   refine go_pure h34 fun m1 hm1 => ?_
   simp -implicitDefEqProofs (disch:=first|omega|simp only[nx4]<;>omega|fail) [r2, p2, hnm]
   try (rw [p3] at hnm; simp [hnm])
 by_cases o5 : t.op = 5
 ·have q1 := a0 (by omega)
  have q3 := s0 (by omega) (by omega) (by omega)
  by_cases p1 : 1 ≤ t.n <;> by_cases p4 : t.n ≤ 8 <;> by_cases p3 : t.n = 0 <;> by_cases p2 : t.args.length = 1 <;> first | omega | simp -implicitDefEqProofs (disch:=first|omega|simp only[nx4]<;>omega|fail) [a140, a140b, a140r0, a140r1, a140r2, a140r4, a140r6, a140r7, a140r9, a140r11, a140r13, a140r15, a140r16, emp_def, o5, q1, q3, formOK, len1, p1, p4, p3, p2]
 by_cases o6 : t.op = 6
 ·have q1 := a0 (by omega)
  have q2 := n0 (by omega) (by omega) (by omega)
  have q3 := s0 (by omega) (by omega) (by omega)
  have r1 : ((2 : Int) ≤ (t.args.length : Int)) = (2 ≤ t.args.length) := by apply propext; omega
  have r2 : ((t.args.length : Int) ≤ 9) = (t.args.length ≤ 9) := by apply propext; omega
  by_cases p1 : 2 ≤ t.args.length <;> by_cases p2 : t.args.length ≤ 9 <;> first | omega | simp -implicitDefEqProofs (disch:=first|omega|simp only[nx4]<;>omega|fail) [a140, a140b, a140r0, a140r1, a140r2, a140r4, a140r6, a140r7, a140r9, a140r11, a140r13, a140r15, a140r17, a140r18, emp_def, o6, q1, q2, q3, formOK, r1, r2, p1, p2]
 by_cases o7 : t.op = 7
 ·have q1 := a0 (by omega)
  have q2 := n0 (by omega) (by omega) (by omega)
  have q3 := s0 (by omega) (by omega) (by omega)
  have r1 : ((2 : Int) ≤ (t.args.length : Int)) = (2 ≤ t.args.length) := by apply propext; omega
  have r2 : ((t.args.length : Int) ≤ 13) = (t.args.length ≤ 13) := by apply propext; omega
  by_cases p1 : 2 ≤ t.args.length <;> by_cases p2 : t.args.length ≤ 13 <;> first | omega | simp -implicitDefEqProofs (disch:=first|omega|simp only[nx4]<;>omega|fail) [a140, a140b, a140r0, a140r1, a140r2, a140r4, a140r6, a140r7, a140r9, a140r11, a140r13, a140r15, a140r17, a140r19, a140r20, emp_def, o7, q1, q2, q3, formOK, r1, r2, p1, p2]
 by_cases o8 : t.op = 8
 ·have q2 := n0 (by omega) (by omega) (by omega)
  have q3 := s0 (by omega) (by omega) (by omega)
  by_cases p2 : t.args.length = 1
  ·simp -implicitDefEqProofs (disch:=first|omega|simp only[nx4]<;>omega|fail) [a140, a140b, a140r0, a140r1, a140r2, a140r4, a140r6, a140r7, a140r9, a140r11, a140r13, a140r15, a140r17, a140r19, a140r21, a140r22, emp_def, o8, q2, q3, formOK, len1, p2]
   refine go_pure (p175 t.alts) fun mm1 hm1 => ?_
   try simp only [nx4] at hm1
   simp -implicitDefEqProofs (disch:=first|omega|simp only[nx4]<;>omega|fail)
  ·simp -implicitDefEqProofs (disch:=first|omega|simp only[nx4]<;>omega|fail) [a140, a140b, a140r0, a140r1, a140r2, a140r4, a140r6, a140r7, a140r9, a140r11, a140r13, a140r15, a140r17, a140r19, a140r21, a140r22, emp_def, o8, q2, q3, formOK, len1, p2]
 by_cases o9 : t.op = 9
 ·have q1 := a0 (by omega)
  have q2 := n0 (by omega) (by omega) (by omega)
  have h176 := p176 t.s
  unfold arR at h176
  by_cases p3 : t.s = emp
  ·simp -implicitDefEqProofs (disch:=first|omega|simp only[nx4]<;>omega|fail) [a140, a140b, a140r0, a140r1, a140r2, a140r4, a140r6, a140r7, a140r9, a140r11, a140r13, a140r15, a140r17, a140r19, a140r21, a140r23, a140r24, a140r25, emp_def, o9, q1, q2, formOK, p3]
   rw [p3] at h176
   have he : arI emp = none := by kernel_rfl
   rw [he] at h176
   refine go_pure h176 fun mm2 hm2 => ?_
   try simp only [nx4] at hm2
   simp -implicitDefEqProofs (disch:=first|omega|simp only[nx4]<;>omega|fail) [he]
  ·cases har : arI t.s with
   | none =>
    rw [har] at h176
    simp -implicitDefEqProofs (disch:=first|omega|simp only[nx4]<;>omega|fail) [a140, a140b, a140r0, a140r1, a140r2, a140r4, a140r6, a140r7, a140r9, a140r11, a140r13, a140r15, a140r17, a140r19, a140r21, a140r23, a140r24, a140r25, emp_def, o9, q1, q2, formOK, p3]
    refine go_pure h176 fun mm3 hm3 => ?_
    try simp only [nx4] at hm3
    simp -implicitDefEqProofs (disch:=first|omega|simp only[nx4]<;>omega|fail) [har]
   | some k =>
    rw [har] at h176
    simp -implicitDefEqProofs (disch:=first|omega|simp only[nx4]<;>omega|fail) [a140, a140b, a140r0, a140r1, a140r2, a140r4, a140r6, a140r7, a140r9, a140r11, a140r13, a140r15, a140r17, a140r19, a140r21, a140r23, a140r24, a140r25, emp_def, o9, q1, q2, formOK, p3]
    refine go_pure h176 fun mm4 hm4 => ?_
    try simp only [nx4] at hm4
    simp -implicitDefEqProofs (disch:=first|omega|simp only[nx4]<;>omega|fail) [har]
 have q1 := a0 o8
 have q2 := n0 o1 o3 o5
 have q3 := s0 o2 o4 o9
 simp -implicitDefEqProofs (disch:=first|omega|simp only[nx4]<;>omega|fail) [a140, a140b, a140r0, a140r1, a140r2, a140r4, a140r6, a140r7, a140r9, a140r11, a140r13, a140r15, a140r17, a140r19, a140r21, a140r23, a140r26, emp_def, o1, o2, o3, o4, o5, o6, o7, o8, o9, q1, q2, q3, formOK]
end Go.AL.Dm
namespace Go.AL.Dm
open Go Go.Proofs
mutual
def wf : Pl → Bool
 | .mk op n s args alts => nodeOK (.mk op n s args alts) && wfs args && wfa alts
def wfs : List Pl → Bool
 | [] => true
 | t :: ts => wf t && wfs ts
def wfa : List (Hd × Pl) → Bool
 | [] => true
 | (_, b) :: ts => wf b && wfa ts
end
theorem wf_eq (t : Pl) : wf t = (nodeOK t && wfs t.args && wfa t.alts) := by cases t; rw [wf]; rfl
mutual
def sz : Pl → Int
 | .mk _ _ _ args alts => 1 + szs args + sza alts
def szs : List Pl → Int
 | [] => 0
 | t :: ts => sz t + szs ts
def sza : List (Hd × Pl) → Int
 | [] => 0
 | (_, b) :: ts => 1 + sz b + sza ts
end
theorem sz_eq (t : Pl) : sz t = 1 + szs t.args + sza t.alts := by cases t; rw [sz]; rfl
mutual
def dw : Pl → Int
 | .mk _ _ _ args alts => 1 + max (dws args) (dwa alts)
def dws : List Pl → Int
 | [] => 0
 | t :: ts => max (dw t) (dws ts)
def dwa : List (Hd × Pl) → Int
 | [] => 0
 | (_, b) :: ts => max (1 + dw b) (dwa ts)
end
theorem dw_eq (t : Pl) : dw t = 1 + max (dws t.args) (dwa t.alts) := by cases t; rw [dw]; rfl
theorem szs_pos : ∀ (ts : List Pl), (∀ x ∈ ts, 1 ≤ sz x) → 0 ≤ szs ts
 | [], _ => by simp [szs]
 | t :: ts, h => by
  have := h t (by simp)
  have := szs_pos ts fun x hx => h x (by simp [hx])
  simp only [szs]; omega
theorem sza_pos : ∀ (ts : List (Hd × Pl)), (∀ x ∈ ts, 1 ≤ sz x.2) → 0 ≤ sza ts
 | [], _ => by simp [sza]
 | (hh, t) :: ts, h => by
  have : 1 ≤ sz t := h (hh, t) (by simp)
  have := sza_pos ts fun x hx => h x (by simp [hx])
  simp only [sza]; omega
theorem sz_pos (t : Pl) : 1 ≤ sz t := by
 induction t using Pl.ind with
 | h t ih1 ih2 =>
  have := szs_pos _ ih1
  have := sza_pos _ ih2
  rw [sz_eq]; omega
theorem dws_pos : ∀ (ts : List Pl), 0 ≤ dws ts
 | [] => by simp [dws]
 | t :: ts => by have := dws_pos ts; simp only [dws]; omega
theorem dwa_pos : ∀ (ts : List (Hd × Pl)), 0 ≤ dwa ts
 | [] => by simp [dwa]
 | (_, t) :: ts => by have := dwa_pos ts; simp only [dwa]; omega
theorem dw_pos (t : Pl) : 1 ≤ dw t := by have := dws_pos t.args; rw [dw_eq]; omega
theorem wts_spec : ∀ (ts : List Pl) (most deep n : Int), (∀ x ∈ ts, ∀ most deep, 0 ≤ most → 0 ≤ deep → wt x most deep ≤ most → wt x most deep = sz x ∧ dw x ≤ 2 * deep - 1) → 0 ≤ most → 1 ≤ deep → wts ts most deep n ≤ most →
  wts ts most deep n = n + szs ts ∧ dws ts ≤ max 0 (2 * (deep - 1) - 1)
 | [], most, deep, n, _, _, _, h1 => by simp [wts, szs, dws]; omega
 | t :: ts, most, deep, n, h, hm, hd, h1 => by
  simp only [wts] at h1 ⊢
  split at h1
  ·rename_i hn
   rw [if_pos hn]
   obtain ⟨k1, k2⟩ := wts_spec ts most deep (n + wt t (most - n) (deep - 1)) (fun x hx => h x (by simp [hx])) hm hd h1
   have hpos := szs_pos ts fun x _ => sz_pos x
   obtain ⟨q1, q2⟩ := h t (by simp) (most - n) (deep - 1) (by omega) (by omega) (by omega)
   simp only [szs, dws]
   omega
  ·omega
theorem wta_spec : ∀ (ts : List (Hd × Pl)) (most deep n : Int), (∀ x ∈ ts, ∀ most deep, 0 ≤ most → 0 ≤ deep → wt x.2 most deep ≤ most → wt x.2 most deep = sz x.2 ∧ dw x.2 ≤ 2 * deep - 1) → 0 ≤ most → 1 ≤ deep → wta ts most deep n ≤ most →
  wta ts most deep n = n + sza ts ∧ dwa ts ≤ max 0 (2 * (deep - 1))
 | [], most, deep, n, _, _, _, h1 => by simp [wta, sza, dwa]; omega
 | (hh, t) :: ts, most, deep, n, h, hm, hd, h1 => by
  simp only [wta] at h1 ⊢
  split at h1
  ·rename_i hn
   rw [if_pos hn]
   obtain ⟨k1, k2⟩ := wta_spec ts most deep (n + 1 + wt t (most - n) (deep - 1)) (fun x hx => h x (by simp [hx])) hm hd h1
   have hpos := sza_pos ts fun x _ => sz_pos x.2
   obtain ⟨q1, q2⟩ := h (hh, t) (by simp) (most - n) (deep - 1) (by omega) (by omega) (by simp only; omega)
   simp only at q1 q2
   simp only [sza, dwa]
   omega
  ·omega
theorem wt_spec (t : Pl) : ∀ most deep, 0 ≤ most → 0 ≤ deep → wt t most deep ≤ most → wt t most deep = sz t ∧ dw t ≤ 2 * deep - 1 := by
 induction t using Pl.ind with
 | h t ih1 ih2 =>
  intro most deep hm hd h
  rw [wt_eq] at h ⊢
  split at h
  ·omega
  ·rename_i h0
   rw [if_neg h0]
   obtain ⟨k1, k2⟩ := wta_spec t.alts most deep _ ih2 hm (by omega) h
   have hpos := sza_pos t.alts fun x _ => sz_pos x.2
   obtain ⟨k3, k4⟩ := wts_spec t.args most deep 1 ih1 hm (by omega) (by omega)
   rw [sz_eq, dw_eq]
   omega
def cnt (n d : Int) : AObj := .box [.int .i64 n, .int .i64 d]
theorem p115 (d nn dd : Int) (o : Nat) (s : St) (K : AV → St → Prop) (hd0 : 0 ≤ d) (hd : d ≤ 1000) (h0 : 0 ≤ nn) (h1 : nn ≤ 100000) (hm : s.m o = some (cnt nn dd)) (ho : o < s.nx)
  (hK : ∀ m, s.nx ≤ m → K (.bool (decide (nn + 1 ≤ 4000) && decide (d ≤ 200))) ((s.set o (cnt (nn + 1) (max dd d))).bump m)) : ACalls Tryz.prog 115 [.ptr o 0, .int .i64 d] s K := by
 refine ACalls.upd ho (fun_sound mixed Tryz.func115 Tryz.call115 c115 rfl (awpFun_go _ _ _ _ ?_)) hK
 have w1 : IntKind.i64.wrap (nn + 1) = nn + 1 := wrap64 (by omega) (by omega)
 have e1 : (if dd < d then d else dd) = max dd d := by omega
 rw [cnt] at hm
 by_cases a1 : nn + 1 ≤ 4000 <;> by_cases a2 : d ≤ 200 <;> simp -implicitDefEqProofs (disch:=first|omega|simp only[nx4]<;>omega|fail) [a115, a115b, a115r0, a115r1, a115r2, a115r3, hm, w1, a1, a2, e1, cnt]
end Go.AL.Dm
namespace Go.AL.Dm
open Go Go.Proofs
def nameOK (t : Pl) (s : Bool) : Bool := if t.op = 9 then decide (arI t.s = some (t.args.length : Int)) else if s then nm t.s else decide (t.s = emp)
def progOK (t : Pl) : Bool :=
 match shp t.op with
 | none => false
 | some (lo, hi, n, s, al) => (decide (lo ≤ t.args.length) && decide ((t.args.length : Int) ≤ hi)) && !(!n && decide (t.n ≠ 0)) && (al == decide (0 < t.alts.length)) && !decide (40 < t.alts.length) &&
   nameOK t s && !(decide (t.op = 1) && decide (t.n < 0)) && !(decide (t.op = 5) && !(decide (1 ≤ t.n) && decide (t.n ≤ 8))) && altsOK [] t.alts
theorem arI_le (t : ByteArray) (k : Int) (h : arI t = some k) : 0 ≤ k ∧ k ≤ 2 := by
 unfold arI at h
 split at h
 ·cases h
 ·have hm := List.mem_of_getElem? h
  simp only [ars, List.mem_cons, List.not_mem_nil, or_false] at hm
  omega
set_option maxHeartbeats 2000000 in
theorem progOK_eq (t : Pl) : progOK t = nodeOK t := by
 have hz : t.alts.length = 0 → altsOK [] t.alts = true := fun h => by rw [List.length_eq_zero_iff.1 h, altsOK]
 rw [Bool.eq_iff_iff]
 by_cases o : t.op = 1 ∨ t.op = 2 ∨ t.op = 3 ∨ t.op = 4 ∨ t.op = 5 ∨ t.op = 6 ∨ t.op = 7 ∨ t.op = 8 ∨ t.op = 9
 ·rcases o with o | o | o | o | o | o | o | o | o
  case inr.inr.inr.inr.inr.inr.inr.inr =>
   cases ha : t.alts with
   | nil =>
    cases har : arI t.s with
    | none => simp [progOK, nodeOK, formOK, nameOK, o, shp, ha, altsOK, har]
    | some k =>
     have := arI_le _ _ har
     simp [progOK, nodeOK, formOK, nameOK, o, shp, ha, altsOK, har]
     omega
   | cons x r => simp [progOK, nodeOK, formOK, nameOK, o, shp, ha]
  case inr.inr.inr.inr.inr.inr.inr.inl =>
   cases ha : t.alts with
   | nil => simp [progOK, nodeOK, formOK, nameOK, o, shp, ha, altsOK]
   | cons x r =>
    simp [progOK, nodeOK, formOK, nameOK, o, shp, ha]
    grind
  all_goals
   cases ha : t.alts with
   | nil =>
    simp [progOK, nodeOK, formOK, nameOK, o, shp, ha, altsOK]
    try grind
   | cons x r => simp [progOK, nodeOK, formOK, nameOK, o, shp, ha]
 ·have : shp t.op = none := by
   unfold shp
   split <;> first | rfl | (exfalso; omega)
  have h1 : formOK t = false := by
   unfold formOK
   repeat rw [if_neg (by omega)]
  simp [progOK, this, nodeOK, h1]
end Go.AL.Dm
namespace Go.AL.Dm
open Go Go.Proofs
def R82 (t : Pl) (nn : Int) (o : Nat) (s : St) (r : AV) (s' : St) : Prop := r = .bool (wf t) ∧ ∃ nn' dd', nn ≤ nn' ∧ nn' ≤ nn + sz t ∧ s'.m o = some (cnt nn' dd') ∧ KeptX s o s'
def C82 (t : Pl) : Prop := ∀ (d nn dd : Int) (o : Nat) (s : St), 1 ≤ d → d + dw t ≤ 201 → 0 ≤ nn → nn + sz t ≤ 4000 → s.m o = some (cnt nn dd) → o < s.nx →
 ACalls Tryz.prog 82 [.ptr o 0, t.av, .int .i64 d] s (R82 t nn o s)
theorem keptX_trans {s s1 s2 : St} {o : Nat} (h : KeptX s o s1) (h2 : KeptX s1 o s2) (hn : s.nx ≤ s1.nx) : KeptX s o s2 := fun q hq hne => (h2 q (by omega) hne).trans (h q hq hne)
def IB82 (t : Pl) (d nn : Int) (o : Nat) (s : St) (m : Nat) (g : Env) (s1 : St) : Prop :=
 ∃ (i : Nat) (nb db : Int), i ≤ t.alts.length ∧ m = t.alts.length - i ∧ wfa (t.alts.drop i) = wf t ∧ nn ≤ nb ∧ nb + sza (t.alts.drop i) ≤ nn + sz t ∧ d + 1 + dwa (t.alts.drop i) ≤ 201 ∧
  g.get 0 = .ptr o 0 ∧ g.get 2 = .int .i64 d ∧ g.get 138 = .list 8 .none (t.alts.map Pl.altv) ∧ g.get 139 = .int .i64 t.alts.length ∧ g.get 140 = .int .i64 i ∧ s1.m o = some (cnt nb db) ∧ KeptX s o s1 ∧ s.nx ≤ s1.nx
theorem loopB82 (t : Pl) (ih2 : ∀ a ∈ t.alts, C82 a.2) (d nn : Int) (o : Nat) (s : St) (hd : 1 ≤ d) (hd2 : d + 1 + dwa t.alts ≤ 201) (hw : wfa t.alts = wf t) (hn : 0 ≤ nn) (hn2 : nn + sz t ≤ 4000) (nb db : Int) (hb1 : nn ≤ nb) (hb2 : nb + sza t.alts ≤ nn + sz t)
  (G : Env) (S : St) (g0 : G.get 0 = .ptr o 0) (g2 : G.get 2 = .int .i64 d) (g4 : G.get 4 = .ptr s.nx 0) (hbx : S.m s.nx = some (.box t.av.cells)) (hm : S.m o = some (cnt nb db)) (hk : KeptX s o S) (hnx : s.nx < S.nx) (ho : o < s.nx) (hlen : t.alts.length ≤ 4000) :
  go (awp Tryz.prog (.seq (.seq (.reg false a82r19) (.block 3 (.loop a82l25))) (.seq (.reg false a82r26) .ret)) (finQ [.tmp (true, 6)] (R82 t nn o s)) G S) := by
 simp -implicitDefEqProofs (disch:=first|omega|simp only[nx4]<;>omega|fail) [a82r19, g4, hbx]
 refine go_loop (IB82 t d nn o s) t.alts.length ⟨0, nb, db, by omega, by omega, by simpa using hw, hb1, by simpa using hb2, by simpa using hd2, ?_, ?_, ?_, ?_, ?_, hm, hk, by omega⟩ ?_
 iterate 5 (simp -implicitDefEqProofs (disch:=first|omega|simp only[nx4]<;>omega|fail) [g0, g2])
 rintro m g s1 ⟨i, nb, db, hi, rfl, hw, hb1, hb2, hd2, e0, e2, e138, e139, e140, hm, hk, hnx⟩
 by_cases hlt : i < t.alts.length
 ·have hlt' : (i : Int) < t.alts.length := by omega
  have w3 := wrapS (i := i) (by omega)
  have w1 : IntKind.i64.wrap (d + 1) = d + 1 := wrap64 (by omega) (by have := dwa_pos (t.alts.drop i); omega)
  have w2 : IntKind.i64.wrap (d + 2) = d + 2 := wrap64 (by omega) (by have := dwa_pos (t.alts.drop i); omega)
  rw [List.drop_eq_getElem_cons hlt] at hw hb2 hd2
  have ihx := ih2 _ (List.getElem_mem hlt)
  generalize hx : t.alts[i] = x at hw hb2 hd2 ihx
  obtain ⟨xh, xb⟩ := x
  simp only [wfa] at hw
  simp only [sza] at hb2
  simp only [dwa] at hd2
  simp only at ihx
  have z1 := sz_pos xb
  have z2 := sza_pos (t.alts.drop (i + 1)) fun x _ => sz_pos x.2
  have z3 := dw_pos xb
  simp -implicitDefEqProofs (disch:=first|omega|simp only[nx4]<;>omega|fail) [a82l25, a82r20, a82r21, a82r22, e0, e2, e138, e139, e140, hlt', hx, w1, w2]
  refine go_calls (p115 (d + 1) nb db o _ _ (by omega) (by omega) (by omega) (by omega) (by simp -implicitDefEqProofs (disch:=first|omega|simp only[nx4]<;>omega|fail) [hm]) (by simp -implicitDefEqProofs (disch:=first|omega|simp only[nx4]<;>omega|fail); omega) fun m1 hm1 => go_of ?_)
  try simp only [St.new_nx, St.bump_nx, St.set_nx, St.del_nx] at hm1
  have t1 : nb + 1 ≤ 4000 := by omega
  have t2 : d + 1 ≤ 200 := by omega
  simp -implicitDefEqProofs (disch:=first|omega|simp only[nx4]<;>omega|fail) [t1, t2, e0, e2, w2]
  refine go_calls (ACalls.mono (ihx (d + 2) (nb + 1) (max db (d + 1)) o _ (by omega) (by omega) (by omega) (by omega) (by simp -implicitDefEqProofs (disch:=first|omega|simp only[nx4]<;>omega|fail)) (by simp -implicitDefEqProofs (disch:=first|omega|simp only[nx4]<;>omega|fail); omega)) fun r s' hn' h => go_of ?_)
  try simp only [St.new_nx, St.bump_nx, St.set_nx, St.del_nx] at hn'
  obtain ⟨rfl, nn', dd', q1, q2, q3, q4⟩ := h
  have hk' : KeptX s o s' := keptX_trans (by simp -implicitDefEqProofs (disch:=first|omega|simp only[nx4]<;>omega|fail) [hk]) q4 (by simp -implicitDefEqProofs (disch:=first|omega|simp only[nx4]<;>omega|fail); omega)
  cases hb : wf xb with
  | false =>
   simp -implicitDefEqProofs (disch:=first|omega|simp only[nx4]<;>omega|fail) [a82r23]
   exact ⟨by rw [← hw, hb, Bool.false_and], nn', dd', by omega, by omega, q3, hk'⟩
  | true =>
   rw [hb, Bool.true_and] at hw
   simp -implicitDefEqProofs (disch:=first|omega|simp only[nx4]<;>omega|fail) [a82r24, e140, w3]
   refine go_next (t.alts.length - (i + 1)) (by omega) ⟨i + 1, nn', dd', by omega, rfl, hw, by omega, by omega, by omega, ?_, ?_, ?_, ?_, rfl, q3, hk', by omega⟩
   all_goals simp -implicitDefEqProofs (disch:=first|omega|simp only[nx4]<;>omega|fail) [e0, e2, e138, e139]
 ·have hlt' : ¬ (i : Int) < t.alts.length := by omega
  rw [List.drop_eq_nil_of_le (by omega)] at hw hb2
  simp only [wfa] at hw
  simp only [sza] at hb2
  simp -implicitDefEqProofs (disch:=first|omega|simp only[nx4]<;>omega|fail) [a82l25, a82r20, a82r26, e0, e2, e138, e139, e140, hlt']
  exact ⟨by rw [← hw], nb, db, hb1, by omega, hm, hk⟩
def IA82 (t : Pl) (d nn : Int) (o : Nat) (s : St) (m : Nat) (g : Env) (s1 : St) : Prop :=
 ∃ (i : Nat) (nb db : Int), i ≤ t.args.length ∧ m = t.args.length - i ∧ (wfs (t.args.drop i) && wfa t.alts) = wf t ∧ nn ≤ nb ∧ nb + szs (t.args.drop i) + sza t.alts ≤ nn + sz t ∧ d + dws (t.args.drop i) ≤ 200 ∧
  g.get 0 = .ptr o 0 ∧ g.get 2 = .int .i64 d ∧ g.get 4 = .ptr s.nx 0 ∧ g.get 124 = .list 5 .none (t.args.map Pl.av) ∧ g.get 125 = .int .i64 t.args.length ∧ g.get 126 = .int .i64 i ∧ s1.m s.nx = some (.box t.av.cells) ∧ s1.m o = some (cnt nb db) ∧ KeptX s o s1 ∧ s.nx < s1.nx
theorem loopA82 (t : Pl) (ih1 : ∀ x ∈ t.args, C82 x) (ih2 : ∀ a ∈ t.alts, C82 a.2) (d nn : Int) (o : Nat) (s : St) (hd : 1 ≤ d) (hd2 : d + dw t ≤ 201) (hw : (wfs t.args && wfa t.alts) = wf t) (hn : 0 ≤ nn) (hn2 : nn + sz t ≤ 4000) (nb db : Int) (hb1 : nn ≤ nb) (hb2 : nb + szs t.args + sza t.alts ≤ nn + sz t)
  (G : Env) (S : St) (g0 : G.get 0 = .ptr o 0) (g2 : G.get 2 = .int .i64 d) (g4 : G.get 4 = .ptr s.nx 0) (hbx : S.m s.nx = some (.box t.av.cells)) (hm : S.m o = some (cnt nb db)) (hk : KeptX s o S) (hnx : s.nx < S.nx) (ho : o < s.nx) (hla : t.args.length ≤ 4000) (hlen : t.alts.length ≤ 4000) :
  go (awp Tryz.prog (.seq (.seq (.reg false a82r12) (.block 1 (.loop a82l18))) (.seq (.seq (.reg false a82r19) (.block 3 (.loop a82l25))) (.seq (.reg false a82r26) .ret))) (finQ [.tmp (true, 6)] (R82 t nn o s)) G S) := by
 have hde := dw_eq t
 have hda := dwa_pos t.alts
 have hza := sza_pos t.alts fun x _ => sz_pos x.2
 simp -implicitDefEqProofs (disch:=first|omega|simp only[nx4]<;>omega|fail) [a82r12, g4, hbx]
 refine go_loop (IA82 t d nn o s) t.args.length ⟨0, nb, db, by omega, by omega, by simpa using hw, hb1, by simpa using hb2, by simp only [List.drop_zero]; omega, ?_, ?_, ?_, ?_, ?_, ?_, hbx, hm, hk, hnx⟩ ?_
 iterate 6 (simp -implicitDefEqProofs (disch:=first|omega|simp only[nx4]<;>omega|fail) [g0, g2, g4])
 rintro m g s1 ⟨i, nb, db, hi, rfl, hw, hb1, hb2, hd3, e0, e2, e4, e124, e125, e126, hbx, hm, hk, hnx⟩
 by_cases hlt : i < t.args.length
 ·have hlt' : (i : Int) < t.args.length := by omega
  have w3 := wrapS (i := i) (by omega)
  have w1 : IntKind.i64.wrap (d + 1) = d + 1 := wrap64 (by omega) (by have := dws_pos (t.args.drop i); omega)
  rw [List.drop_eq_getElem_cons hlt] at hw hb2 hd3
  have ihx := ih1 _ (List.getElem_mem hlt)
  generalize hx : t.args[i] = x at hw hb2 hd3 ihx
  simp only [wfs] at hw
  simp only [szs] at hb2
  simp only [dws] at hd3
  have z1 := sz_pos x
  have z2 := szs_pos (t.args.drop (i + 1)) fun x _ => sz_pos x
  have z3 := dw_pos x
  simp -implicitDefEqProofs (disch:=first|omega|simp only[nx4]<;>omega|fail) [a82l18, a82r13, a82r14, a82r15, e0, e2, e124, e125, e126, hlt', hx, w1]
  refine go_calls (ACalls.mono (ihx (d + 1) nb db o _ (by omega) (by omega) (by omega) (by omega) (by simp -implicitDefEqProofs (disch:=first|omega|simp only[nx4]<;>omega|fail) [hm]) (by simp -implicitDefEqProofs (disch:=first|omega|simp only[nx4]<;>omega|fail); omega)) fun r s' hn' h => go_of ?_)
  try simp only [St.new_nx, St.bump_nx, St.set_nx, St.del_nx] at hn'
  obtain ⟨rfl, nn', dd', q1, q2, q3, q4⟩ := h
  have hk' : KeptX s o s' := keptX_trans (by simp -implicitDefEqProofs (disch:=first|omega|simp only[nx4]<;>omega|fail) [hk]) q4 (by simp -implicitDefEqProofs (disch:=first|omega|simp only[nx4]<;>omega|fail); omega)
  cases hb : wf x with
  | false =>
   simp -implicitDefEqProofs (disch:=first|omega|simp only[nx4]<;>omega|fail) [a82r16]
   exact ⟨by rw [← hw, hb, Bool.false_and, Bool.false_and], nn', dd', by omega, by omega, q3, hk'⟩
  | true =>
   rw [hb, Bool.true_and] at hw
   simp -implicitDefEqProofs (disch:=first|omega|simp only[nx4]<;>omega|fail) [a82r17, e126, w3]
   refine go_next (t.args.length - (i + 1)) (by omega) ⟨i + 1, nn', dd', by omega, rfl, hw, by omega, by omega, by omega, ?_, ?_, ?_, ?_, ?_, rfl, ?_, q3, hk', by omega⟩
   iterate 5 (simp -implicitDefEqProofs (disch:=first|omega|simp only[nx4]<;>omega|fail) [e0, e2, e4, e124, e125])
   rw [q4 s.nx (by simp -implicitDefEqProofs (disch:=first|omega|simp only[nx4]<;>omega|fail); omega) (by omega)]
   simp -implicitDefEqProofs (disch:=first|omega|simp only[nx4]<;>omega|fail) [hbx]
 ·have hlt' : ¬ (i : Int) < t.args.length := by omega
  rw [List.drop_eq_nil_of_le (by omega)] at hw hb2
  simp only [wfs, Bool.true_and] at hw
  simp only [szs] at hb2
  simp -implicitDefEqProofs (disch:=first|omega|simp only[nx4]<;>omega|fail) [a82l18, a82r13, e0, e2, e4, e124, e125, e126, hlt']
  refine loopB82 t ih2 d nn o s hd (by omega) hw hn hn2 nb db hb1 (by omega) _ _ ?_ ?_ ?_ hbx hm hk hnx ho hlen
  all_goals simp -implicitDefEqProofs (disch:=first|omega|simp only[nx4]<;>omega|fail) [e0, e2, e4]
end Go.AL.Dm
namespace Go.AL.Dm
open Go Go.Proofs
theorem szs_len : ∀ (ts : List Pl), (ts.length : Int) ≤ szs ts
 | [] => by simp [szs]
 | t :: ts => by have := sz_pos t; have := szs_len ts; simp only [szs, List.length_cons]; omega
theorem sza_len : ∀ (ts : List (Hd × Pl)), (ts.length : Int) ≤ sza ts
 | [] => by simp [sza]
 | (_, t) :: ts => by have := sz_pos t; have := sza_len ts; simp only [sza, List.length_cons]; omega
def rest82 : ACode := .seq (.reg false a82r4) (.seq (.block 0 (.seq (.reg false a82r5) (.cond (.g 76) (.reg false a82r6) (.seq (.reg false a82r7) (.cond (.g 88) (.reg false a82r8) (.reg false a82r9)))))) (.seq (.seq (.reg false a82r10) (.cond (.g 122) (.seq (.reg false a82r11) .ret) .skip))
 (.seq (.seq (.reg false a82r12) (.block 1 (.loop a82l18))) (.seq (.seq (.reg false a82r19) (.block 3 (.loop a82l25))) (.seq (.reg false a82r26) .ret)))))
theorem tail82 (t : Pl) (ih1 : ∀ x ∈ t.args, C82 x) (ih2 : ∀ a ∈ t.alts, C82 a.2) (d nn dd : Int) (o : Nat) (s : St) (hd : 1 ≤ d) (hd2 : d + dw t ≤ 201) (hn : 0 ≤ nn) (hn2 : nn + sz t ≤ 4000) (lo hi : Int) (bn bs al : Bool)
  (hwf : wf t = (nameOK t bs && !(decide (t.op = 1) && decide (t.n < 0)) && !(decide (t.op = 5) && !(decide (1 ≤ t.n) && decide (t.n ≤ 8))) && altsOK [] t.alts && wfs t.args && wfa t.alts))
  (G : Env) (S : St) (g0 : G.get 0 = .ptr o 0) (g2 : G.get 2 = .int .i64 d) (g4 : G.get 4 = .ptr s.nx 0) (g7 : G.get 7 = .ptr (s.nx + 1) 0) (g8 : G.get 8 = .bool true) (hbx : S.m s.nx = some (.box t.av.cells)) (hb7 : S.m (s.nx + 1) = some (.box [.int .i64 lo, .int .i64 hi, .bool bn, .bool bs, .bool al]))
  (hm : S.m o = some (cnt (nn + 1) dd)) (hk : KeptX s o S) (hnx : s.nx + 1 < S.nx) (ho : o < s.nx) :
  go (awp Tryz.prog rest82 (finQ [.tmp (true, 6)] (R82 t nn o s)) G S) := by
 have hps := szs_len t.args
 have hpa := sza_len t.alts
 have hse := sz_eq t
 have hz1 := sz_pos t
 have hari := ari_find t.s
 have hfail : ∀ (s' : St), wf t = false → s'.m o = some (cnt (nn + 1) dd) → KeptX s o s' → R82 t nn o s (.bool false) s' := fun s' h2 h5 h6 => ⟨by rw [h2], nn + 1, dd, by omega, by omega, h5, h6⟩
 -- behind the switch
 have hafter : ∀ (v : Bool), v = nameOK t bs → ∀ (G : Env) (S : St), G.get 0 = .ptr o 0 → G.get 2 = .int .i64 d → G.get 4 = .ptr s.nx 0 → G.get 8 = .bool v → S.m s.nx = some (.box t.av.cells) → S.m o = some (cnt (nn + 1) dd) → KeptX s o S → s.nx + 1 < S.nx →
   go (awp Tryz.prog (.seq (.seq (.reg false a82r10) (.cond (.g 122) (.seq (.reg false a82r11) .ret) .skip)) (.seq (.seq (.reg false a82r12) (.block 1 (.loop a82l18))) (.seq (.seq (.reg false a82r19) (.block 3 (.loop a82l25))) (.seq (.reg false a82r26) .ret)))) (finQ [.tmp (true, 6)] (R82 t nn o s)) G S) := by
  intro v hv G S g0 g2 g4 g8 hbx hm hk hnx
  rw [← hv] at hwf
  cases v with
  | false =>
   simp -implicitDefEqProofs (disch:=first|omega|simp only[nx4]<;>omega|fail) [a82r10, a82r11, g0, g2, g4, g8, hbx]
   exact hfail _ (by rw [hwf]; rfl) hm hk
  | true =>
   rw [Bool.true_and] at hwf
   by_cases o1 : t.op = 1 ∧ t.n < 0
   ·obtain ⟨o1, o2⟩ := o1
    simp -implicitDefEqProofs (disch:=first|omega|simp only[nx4]<;>omega|fail) [a82r10, a82r11, g0, g2, g4, g8, hbx, o1, o2]
    exact hfail _ (by rw [hwf]; simp [o1, o2]) hm hk
   have e1 : (decide (t.op = 1) && decide (t.n < 0)) = false := by
    by_cases q : t.op = 1
    ·have : ¬ t.n < 0 := fun h => o1 ⟨q, h⟩
     simp [this]
    ·simp [q]
   rw [e1, Bool.not_false, Bool.true_and] at hwf
   have h116 := p116 t.n 1 8
   generalize hq : (decide (1 ≤ t.n) && decide (t.n ≤ 8)) = q at hwf h116
   have h117 := p117 t.alts (by omega)
   have hfin : ∀ (G : Env) (S : St), G.get 0 = .ptr o 0 → G.get 2 = .int .i64 d → G.get 4 = .ptr s.nx 0 → S.m s.nx = some (.box t.av.cells) → S.m o = some (cnt (nn + 1) dd) → KeptX s o S → s.nx + 1 < S.nx → (wfs t.args && wfa t.alts) = wf t →
     go (awp Tryz.prog (.seq (.seq (.reg false a82r12) (.block 1 (.loop a82l18))) (.seq (.seq (.reg false a82r19) (.block 3 (.loop a82l25))) (.seq (.reg false a82r26) .ret))) (finQ [.tmp (true, 6)] (R82 t nn o s)) G S) :=
    fun G S a0 a2 a4 a5 a6 a7 a8 a9 => loopA82 t ih1 ih2 d nn o s hd hd2 a9 hn hn2 (nn + 1) dd (by omega) (by omega) G S a0 a2 a4 a5 a6 a7 (by omega) ho (by omega) (by omega)
   by_cases o5 : t.op = 5
   ·cases q with
    | false =>
     simp -implicitDefEqProofs (disch:=first|omega|simp only[nx4]<;>omega|fail) [a82r10, g0, g2, g4, g8, hbx, o5]
     refine go_pure h116 fun mm1 hm1 => ?_
     try simp only [nx4] at hm1
     simp -implicitDefEqProofs (disch:=first|omega|simp only[nx4]<;>omega|fail) [a82r11]
     exact hfail _ (by rw [hwf]; simp [o5]) hm hk
    | true =>
     simp -implicitDefEqProofs (disch:=first|omega|simp only[nx4]<;>omega|fail) [a82r10, g0, g2, g4, g8, hbx, o5]
     refine go_pure h116 fun mm2 hm2 => ?_
     try simp only [nx4] at hm2
     simp -implicitDefEqProofs (disch:=first|omega|simp only[nx4]<;>omega|fail) [g4, hbx]
     cases hal : altsOK [] t.alts <;> rw [hal] at h117 hwf
     ·refine go_pure h117 fun mm3 hm3 => ?_
      try simp only [nx4] at hm3
      simp -implicitDefEqProofs (disch:=first|omega|simp only[nx4]<;>omega|fail) [a82r11]
      exact hfail _ (by rw [hwf]; simp) hm hk
     ·refine go_pure h117 fun mm4 hm4 => ?_
      try simp only [nx4] at hm4
      simp -implicitDefEqProofs (disch:=first|omega|simp only[nx4]<;>omega|fail)
      refine hfin _ _ ?_ ?_ ?_ hbx hm hk ?_ (by rw [hwf]; simp [o5])
      all_goals (try simp -implicitDefEqProofs (disch:=first|omega|simp only[nx4]<;>omega|fail) [g0, g2, g4])
      all_goals omega
   ·have e5 : (decide (t.op = 5) && !q) = false := by simp [o5]
    rw [e5, Bool.not_false, Bool.true_and] at hwf
    by_cases q1 : t.op = 1
    ·have q2 : ¬ t.n < 0 := fun h => o1 ⟨q1, h⟩
     simp -implicitDefEqProofs (disch:=first|omega|simp only[nx4]<;>omega|fail) [a82r10, g0, g2, g4, g8, hbx, q1, q2]
     cases hal : altsOK [] t.alts <;> rw [hal] at h117 hwf
     ·refine go_pure h117 fun mm5 hm5 => ?_
      try simp only [nx4] at hm5
      simp -implicitDefEqProofs (disch:=first|omega|simp only[nx4]<;>omega|fail) [a82r11]
      exact hfail _ (by rw [hwf]; simp) hm hk
     ·refine go_pure h117 fun mm6 hm6 => ?_
      try simp only [nx4] at hm6
      simp -implicitDefEqProofs (disch:=first|omega|simp only[nx4]<;>omega|fail)
      refine hfin _ _ ?_ ?_ ?_ hbx hm hk ?_ (by rw [hwf]; simp)
      all_goals (try simp -implicitDefEqProofs (disch:=first|omega|simp only[nx4]<;>omega|fail) [g0, g2, g4])
      all_goals omega
    ·simp -implicitDefEqProofs (disch:=first|omega|simp only[nx4]<;>omega|fail) [a82r10, g0, g2, g4, g8, hbx, q1, o5]
     cases hal : altsOK [] t.alts <;> rw [hal] at h117 hwf
     ·refine go_pure h117 fun mm7 hm7 => ?_
      try simp only [nx4] at hm7
      simp -implicitDefEqProofs (disch:=first|omega|simp only[nx4]<;>omega|fail) [a82r11]
      exact hfail _ (by rw [hwf]; simp) hm hk
     ·refine go_pure h117 fun mm8 hm8 => ?_
      try simp only [nx4] at hm8
      simp -implicitDefEqProofs (disch:=first|omega|simp only[nx4]<;>omega|fail)
      refine hfin _ _ ?_ ?_ ?_ hbx hm hk ?_ (by rw [hwf]; simp)
      all_goals (try simp -implicitDefEqProofs (disch:=first|omega|simp only[nx4]<;>omega|fail) [g0, g2, g4])
      all_goals omega
 by_cases o9 : t.op = 9
 ·cases har : arI t.s with
  | none =>
   rw [har] at hari
   simp only [Option.map_none] at hari
   simp -implicitDefEqProofs (disch:=first|omega|simp only[nx4]<;>omega|fail) [rest82, a82r4, a82r5, a82r6, gv_ari, g0, g2, g4, g7, g8, hbx, hb7, hari, lookAV, o9]
   refine hafter false (by simp [nameOK, o9, har]) _ _ ?_ ?_ ?_ ?_ hbx hm hk hnx
   all_goals simp -implicitDefEqProofs (disch:=first|omega|simp only[nx4]<;>omega|fail) [g0, g2, g4]
  | some k =>
   rw [har] at hari
   simp only [Option.map_some] at hari
   simp -implicitDefEqProofs (disch:=first|omega|simp only[nx4]<;>omega|fail) [rest82, a82r4, a82r5, a82r6, gv_ari, g0, g2, g4, g7, g8, hbx, hb7, hari, lookAV, o9]
   refine hafter (decide (k = (t.args.length : Int))) (by simp [nameOK, o9, har]) _ _ ?_ ?_ ?_ ?_ hbx hm hk hnx
   all_goals simp -implicitDefEqProofs (disch:=first|omega|simp only[nx4]<;>omega|fail) [g0, g2, g4]
 ·have hlk : ∃ a b, lookAV true [.int .i64 0] false ((arI t.s).map (AV.int .i64)) = .tup [a, .bool b] := by
   cases arI t.s with
   | none => exact ⟨_, _, rfl⟩
   | some k => exact ⟨_, _, rfl⟩
  obtain ⟨ra, rb, hlk⟩ := hlk
  cases bs with
  | true =>
   have h74 := p74 t.s
   simp -implicitDefEqProofs (disch:=first|omega|simp only[nx4]<;>omega|fail) [rest82, a82r4, a82r5, a82r7, a82r8, gv_ari, g0, g2, g4, g7, g8, hbx, hb7, hari, hlk, o9]
   refine go_pure h74 fun mm9 hm9 => ?_
   try simp only [nx4] at hm9
   simp -implicitDefEqProofs (disch:=first|omega|simp only[nx4]<;>omega|fail)
   refine hafter (nm t.s) (by simp [nameOK, o9]) _ _ ?_ ?_ ?_ ?_ hbx hm hk ?_
   all_goals (try simp -implicitDefEqProofs (disch:=first|omega|simp only[nx4]<;>omega|fail) [g0, g2, g4])
   all_goals omega
  | false =>
   simp -implicitDefEqProofs (disch:=first|omega|simp only[nx4]<;>omega|fail) [rest82, a82r4, a82r5, a82r7, a82r9, gv_ari, g0, g2, g4, g7, g8, hbx, hb7, hari, hlk, o9, emp_def]
   refine hafter (decide (t.s = emp)) (by simp [nameOK, o9]) _ _ ?_ ?_ ?_ ?_ hbx hm hk hnx
   all_goals simp -implicitDefEqProofs (disch:=first|omega|simp only[nx4]<;>omega|fail) [g0, g2, g4]
set_option maxHeartbeats 4000000 in
theorem p82 (t : Pl) : C82 t := by
 induction t using Pl.ind with
 | h t ih1 ih2 =>
  intro d nn dd o s hd hd2 hn hn2 hm ho
  have hps := szs_pos t.args fun x _ => sz_pos x
  have hpa := sza_pos t.alts fun x _ => sz_pos x.2
  have hse := sz_eq t
  have hde := dw_eq t
  have hdp := dw_pos t
  have hfail : ∀ (b : Bool) (s' : St) (nn' dd' : Int), b = false → wf t = b → nn ≤ nn' → nn' ≤ nn + sz t → s'.m o = some (cnt nn' dd') → KeptX s o s' → R82 t nn o s (.bool false) s' := fun b s' nn' dd' h1 h2 h3 h4 h5 h6 => ⟨by rw [h2, h1], nn', dd', h3, h4, h5, h6⟩
  refine fun_sound mixed Tryz.func82 Tryz.call82 c82 rfl (awpFun_go _ _ _ _ ?_)
  have hwf : wf t = (progOK t && wfs t.args && wfa t.alts) := by rw [wf_eq, progOK_eq]
  have hsf := shp_find t.op
  unfold progOK at hwf
  cases hsh : shp t.op with
  | none =>
   rw [hsh] at hwf hsf
   simp -implicitDefEqProofs (disch:=first|omega|simp only[nx4]<;>omega|fail) [a82, a82b, a82r0, a82r1, a82r2, a82r3, gv_shp, hsf, lookAV]
   exact ⟨by rw [hwf]; rfl, nn, dd, by omega, by omega, by simp -implicitDefEqProofs (disch:=first|omega|simp only[nx4]<;>omega|fail) [hm], by simp -implicitDefEqProofs (disch:=first|omega|simp only[nx4]<;>omega|fail)⟩
  | some x =>
   obtain ⟨lo, hi, bn, bs, al⟩ := x
   rw [hsh] at hwf hsf
   simp only at hwf
   simp only [Option.map_some, shpV] at hsf
   simp -implicitDefEqProofs (disch:=first|omega|simp only[nx4]<;>omega|fail) [a82, a82b, a82r0, a82r1, a82r2, gv_shp, hsf, lookAV]
   refine go_calls (p115 d nn dd o _ _ (by omega) (by omega) hn (by omega) (by simp -implicitDefEqProofs (disch:=first|omega|simp only[nx4]<;>omega|fail) [hm]) (by simp -implicitDefEqProofs (disch:=first|omega|simp only[nx4]<;>omega|fail); omega) fun m1 hm1 => go_of ?_)
   try simp only [St.new_nx, St.bump_nx, St.set_nx, St.del_nx] at hm1
   have t1 : nn + 1 ≤ 4000 := by omega
   have t2 : d ≤ 200 := by omega
   have h116 := p116 t.args.length lo hi
   generalize hc1 : (decide (lo ≤ (t.args.length : Int)) && decide ((t.args.length : Int) ≤ hi)) = q1 at hwf h116
   cases q1
   ·simp -implicitDefEqProofs (disch:=first|omega|simp only[nx4]<;>omega|fail) [t1, t2]
    refine go_pure h116 fun mm10 hm10 => ?_
    try simp only [nx4] at hm10
    simp -implicitDefEqProofs (disch:=first|omega|simp only[nx4]<;>omega|fail) [a82r3]
    refine hfail _ _ (nn + 1) (max dd d) rfl (by rw [hwf]; rfl) (by omega) (by omega) ?_ ?_
    ·simp -implicitDefEqProofs (disch:=first|omega|simp only[nx4]<;>omega|fail)
    ·simp -implicitDefEqProofs (disch:=first|omega|simp only[nx4]<;>omega|fail)
   generalize hc2 : (!bn && decide (t.n ≠ 0)) = q2 at hwf
   cases q2
   case true =>
    simp only [Bool.and_eq_true, Bool.not_eq_true', decide_eq_true_eq] at hc2
    obtain ⟨g1, g2⟩ := hc2
    subst g1
    simp -implicitDefEqProofs (disch:=first|omega|simp only[nx4]<;>omega|fail) [t1, t2]
    refine go_pure h116 fun mm11 hm11 => ?_
    try simp only [nx4] at hm11
    simp -implicitDefEqProofs (disch:=first|omega|simp only[nx4]<;>omega|fail) [a82r3, g2]
    refine hfail _ _ (nn + 1) (max dd d) rfl (by rw [hwf]; rfl) (by omega) (by omega) ?_ ?_
    ·simp -implicitDefEqProofs (disch:=first|omega|simp only[nx4]<;>omega|fail)
    ·simp -implicitDefEqProofs (disch:=first|omega|simp only[nx4]<;>omega|fail)
   case false =>
   have hN : bn = true ∨ (bn = false ∧ t.n = 0) := by
    cases bn with
    | true => exact .inl rfl
    | false => exact .inr ⟨rfl, by simpa using hc2⟩
   have hne : 0 < (t.alts.length : Int) ↔ 0 < t.alts.length := by omega
   have h40 : 40 < (t.alts.length : Int) ↔ 40 < t.alts.length := by omega
   have hsub : ∀ q : Bool, q = true → (true && q) = true := fun q h => by simp [h]
   by_cases c3 : al = decide (0 < t.alts.length)
   ·have e3 : (al == decide (0 < t.alts.length)) = true := by rw [c3]; exact beq_self_eq_true _
    rw [e3] at hwf
    by_cases c4 : 40 < t.alts.length
    ·have c4' : (40 : Int) < t.alts.length := by omega
     have hf : wf t = false := by rw [hwf]; simp [c4]
     rcases hN with hbn | ⟨hbn, hn0⟩
     ·subst hbn
      simp -implicitDefEqProofs (disch:=first|omega|simp only[nx4]<;>omega|fail) [t1, t2]
      refine go_pure h116 fun mm12 hm12 => ?_
      try simp only [nx4] at hm12
      simp -implicitDefEqProofs (disch:=first|omega|simp only[nx4]<;>omega|fail) [a82r3, ← c3, c4']
      exact hfail _ _ (nn + 1) (max dd d) rfl hf (by omega) (by omega) (by simp -implicitDefEqProofs (disch:=first|omega|simp only[nx4]<;>omega|fail)) (by simp -implicitDefEqProofs (disch:=first|omega|simp only[nx4]<;>omega|fail))
     ·subst hbn
      simp -implicitDefEqProofs (disch:=first|omega|simp only[nx4]<;>omega|fail) [t1, t2]
      refine go_pure h116 fun mm13 hm13 => ?_
      try simp only [nx4] at hm13
      simp -implicitDefEqProofs (disch:=first|omega|simp only[nx4]<;>omega|fail) [a82r3, ← c3, c4', hn0]
      exact hfail _ _ (nn + 1) (max dd d) rfl hf (by omega) (by omega) (by simp -implicitDefEqProofs (disch:=first|omega|simp only[nx4]<;>omega|fail)) (by simp -implicitDefEqProofs (disch:=first|omega|simp only[nx4]<;>omega|fail))
    ·have c4' : ¬ (40 : Int) < t.alts.length := by omega
     have hw2 : wf t = (nameOK t bs && !(decide (t.op = 1) && decide (t.n < 0)) && !(decide (t.op = 5) && !(decide (1 ≤ t.n) && decide (t.n ≤ 8))) && altsOK [] t.alts && wfs t.args && wfa t.alts) := by
      rw [hwf]; simp [c4]
     rcases hN with hbn | ⟨hbn, hn0⟩
     ·subst hbn
      simp -implicitDefEqProofs (disch:=first|omega|simp only[nx4]<;>omega|fail) [t1, t2]
      refine go_pure h116 fun mm14 hm14 => ?_
      try simp only [nx4] at hm14
      simp -implicitDefEqProofs (disch:=first|omega|simp only[nx4]<;>omega|fail) [← c3, c4']
      refine tail82 t ih1 ih2 d nn (max dd d) o s hd hd2 hn hn2 lo hi true bs al hw2 _ _ ?_ ?_ ?_ ?_ ?_ ?_ ?_ ?_ ?_ ?_ ho
      all_goals (try simp -implicitDefEqProofs (disch:=first|omega|simp only[nx4]<;>omega|fail))
      all_goals omega
     ·subst hbn
      simp -implicitDefEqProofs (disch:=first|omega|simp only[nx4]<;>omega|fail) [t1, t2]
      refine go_pure h116 fun mm15 hm15 => ?_
      try simp only [nx4] at hm15
      simp -implicitDefEqProofs (disch:=first|omega|simp only[nx4]<;>omega|fail) [← c3, c4', hn0]
      refine tail82 t ih1 ih2 d nn (max dd d) o s hd hd2 hn hn2 lo hi false bs al hw2 _ _ ?_ ?_ ?_ ?_ ?_ ?_ ?_ ?_ ?_ ?_ ho
      all_goals (try simp -implicitDefEqProofs (disch:=first|omega|simp only[nx4]<;>omega|fail) [hn0])
      all_goals omega
   ·have e3 : (al == decide (0 < t.alts.length)) = false := by simpa using c3
    have hf : wf t = false := by rw [hwf, e3]; simp
    rcases hN with hbn | ⟨hbn, hn0⟩
    ·subst hbn
     simp -implicitDefEqProofs (disch:=first|omega|simp only[nx4]<;>omega|fail) [t1, t2]
     refine go_pure h116 fun mm16 hm16 => ?_
     try simp only [nx4] at hm16
     simp -implicitDefEqProofs (disch:=first|omega|simp only[nx4]<;>omega|fail) [a82r3, c3]
     exact hfail _ _ (nn + 1) (max dd d) rfl hf (by omega) (by omega) (by simp -implicitDefEqProofs (disch:=first|omega|simp only[nx4]<;>omega|fail)) (by simp -implicitDefEqProofs (disch:=first|omega|simp only[nx4]<;>omega|fail))
    ·subst hbn
     simp -implicitDefEqProofs (disch:=first|omega|simp only[nx4]<;>omega|fail) [t1, t2]
     refine go_pure h116 fun mm17 hm17 => ?_
     try simp only [nx4] at hm17
     simp -implicitDefEqProofs (disch:=first|omega|simp only[nx4]<;>omega|fail) [a82r3, c3, hn0]
     exact hfail _ _ (nn + 1) (max dd d) rfl hf (by omega) (by omega) (by simp -implicitDefEqProofs (disch:=first|omega|simp only[nx4]<;>omega|fail)) (by simp -implicitDefEqProofs (disch:=first|omega|simp only[nx4]<;>omega|fail))
end Go.AL.Dm
