/- Types, read. -/
import Derived.Test.YtkegioliclbbhaaG1
import Derived.Test.YtkegioliclbbhaaRows
set_option linter.unusedVariables false
set_option linter.unusedSimpArgs false
set_option maxRecDepth 100000
namespace Go.AL.Ty
open Go Go.Proofs Go.ChangeShapes Go.WideShapes Go.ChangeAt Go.RowKit

theorem own : ownKnob Try.prog.godebug = none := by kernel_rfl
theorem laidOut : laidOutB Try.prog = true := by kernel_rfl
theorem cells24 : Try.prog.cellsOf 24 = 4 := by kernel_rfl
theorem cells3 : Try.prog.cellsOf 3 = 1 := by kernel_rfl
theorem cells9 : Try.prog.cellsOf 9 = 1 := by kernel_rfl
theorem cells22 : Try.prog.cellsOf 22 = 1 := by kernel_rfl
theorem bytes24 : Try.prog.bytesOf 24 = 56 := by kernel_rfl

section
variable {H : Type} {enc : TypeId × Value → H} {w : World}

theorem trod_ty (n : Nat) : ∀ cs x, DataW.trod enc Try.prog w 0 (fun _ => true) true n 24 cs = some x → ∃ t : Ty, Cells w cs t.av.cells ∧ lim t := by
  induction n using Nat.strongRecOn with
  | _ n ih =>
    intro cs x h
    obtain ⟨xs, m, rfl, rfl, hl, hxl, hf⟩ := DataW.trod_struct Try.underlying24 h
    rw [cells24] at hl
    match cs, hl with
    | [c0, c1, c2, c3], _ =>
      have h0 : DataW.trod enc Try.prog w 0 (fun _ => true) true m 3 (([c0, c1, c2, c3].drop 0).take (Try.prog.cellsOf 3)) = xs[0]? := hf 0 _ rfl
      rw [cells3] at h0
      have h1 : DataW.trod enc Try.prog w 0 (fun _ => true) true m 3 (([c0, c1, c2, c3].drop 1).take (Try.prog.cellsOf 3)) = xs[1]? := hf 1 _ rfl
      rw [cells3] at h1
      have h2 : DataW.trod enc Try.prog w 0 (fun _ => true) true m 9 (([c0, c1, c2, c3].drop 2).take (Try.prog.cellsOf 9)) = xs[2]? := hf 2 _ rfl
      rw [cells9] at h2
      have h3 : DataW.trod enc Try.prog w 0 (fun _ => true) true m 22 (([c0, c1, c2, c3].drop 3).take (Try.prog.cellsOf 22)) = xs[3]? := hf 3 _ rfl
      rw [cells22] at h3
      simp only [List.drop_zero, List.drop_succ_cons, List.take_succ_cons, List.take_zero] at h0 h1 h2 h3
      have hs : ∀ i, i < 4 → ∃ y, xs[i]? = some y := fun i hi => List.getElem?_eq_some_iff.2 ⟨by rw [hxl]; exact hi, rfl⟩ |> fun h => ⟨_, h⟩
      obtain ⟨y0, hy0⟩ := hs 0 (by omega)
      obtain ⟨y1, hy1⟩ := hs 1 (by omega)
      obtain ⟨y2, hy2⟩ := hs 2 (by omega)
      obtain ⟨y3, hy3⟩ := hs 3 (by omega)
      rw [hy0] at h0
      rw [hy1] at h1
      rw [hy2] at h2
      rw [hy3] at h3
      obtain ⟨op, e0, _, _⟩ := DataW.trod_int Try.underlying3 h0
      obtain ⟨nn, e1, _, _⟩ := DataW.trod_int Try.underlying3 h1
      obtain ⟨s, e2, _, _⟩ := DataW.trod_string Try.underlying9 h2
      obtain ⟨v, l, e3, k1, k2, _, _, k5⟩ := slice_reads (α := { t : Ty // lim t }) (f := fun t => t.1.av.cells) Try.underlying22 cells24 (by omega) (fun k hk cs y hy => by
        obtain ⟨t, h1, h2⟩ := ih k (by omega) cs y hy
        exact ⟨⟨t, h2⟩, h1⟩) h3
      simp only [List.cons.injEq, and_true] at e0 e1 e2 e3
      subst e0 e1 e2 e3
      refine ⟨mk op nn s (l.map (·.1)), ?_, ?_⟩
      · rw [av_cells]
        have k6 := k2 (fun t => t.1.av) fun _ => rfl
        have k7 : l.map (fun t => t.1.av) = (l.map (·.1)).map av := by rw [List.map_map]; rfl
        rw [k7] at k6
        exact .cons rfl (.int _ _) (.cons rfl (.int _ _) (.cons rfl (.str _) (.cons k1 k6 (.nil w))))
      · simp only [lim, List.length_map]
        exact ⟨k5, lims_of _ fun x hx => by obtain ⟨y, _, rfl⟩ := List.mem_map.1 hx; exact y.2⟩

theorem open_ty {v : Value} {d : DataW H} {ps : List MemPlace} {base : Nat} (hval : Value.okWide Try.prog w .any base 24 v) (h : DataW.Trod enc Try.prog w 0 (fun _ => true) true 24 v d ps) : ∃ t : Ty, Rep ι0 F0 w v t.av ∧ lim t := by
  obtain ⟨cs, rfl, _⟩ := okWide_struct Try.underlying24 hval
  obtain ⟨n, hn⟩ := h
  obtain ⟨t, ht, hlim⟩ := trod_ty n _ _ hn
  refine ⟨t, ?_, hlim⟩
  have := Cells.agg (cs := cs) (xs := t.av.cells) (by simpa [Value.cells] using ht)
  rw [av_cells, av_fold] at this
  exact this
theorem open_tys {v : Value} {d : DataW H} {ps : List MemPlace} (h : DataW.Trod enc Try.prog w 0 (fun _ => true) true 22 v d ps) {base : Nat} (hval : Value.okWide Try.prog w .any base 22 v) :
    ∃ l : List Ty, Rep ι0 F0 w v (.list 4 .none (l.map av)) ∧ (∀ a b, d = .slice a b → l.length = a.length) ∧ (d = .nil → l = []) ∧ (d = .nil ∨ ∃ a b, d = .slice a b) := by
  obtain ⟨a, len, cap, rfl⟩ := okWide_slice Try.underlying22 hval
  obtain ⟨n, hn⟩ := h
  obtain ⟨v, l, e, k1, k2, k3, k4, _⟩ := slice_reads (f := fun t : Ty => t.av.cells) Try.underlying22 cells24 (by omega) (fun k hk cs y hy => by
    obtain ⟨t, h1, _⟩ := trod_ty k cs y hy
    exact ⟨t, h1⟩) hn
  simp [Value.cells] at e
  subst e
  refine ⟨l, k2 av fun _ => rfl, k3, k4, ?_⟩
  rcases DataW.trod_slice Try.underlying22 hn with ⟨_, h⟩ | ⟨_, _, _, _, _, _, _, _, h, _⟩
  · simp at h; exact .inl h.1
  · simp at h; exact .inr ⟨_, _, h.1⟩

theorem open_tys_sized {v : Value} {d : DataW H} {ps : List MemPlace} (h : DataW.Trod enc Try.prog w 0 (fun _ => true) true 22 v d ps) {base : Nat} (hval : Value.okWide Try.prog w .any base 22 v)
    {ts : List TypeId} {ds : List (DataW H)} (hsz : (DataW.weightsEach Try.prog ts ds).all (· ≤ reachBytes) = true) {j : Nat} (ht : ts[j]? = some 22) (hd : ds[j]? = some d) :
    ∃ l : List Ty, Rep ι0 F0 w v (.list 4 .none (l.map av)) ∧ l.length * 56 ≤ 140737488355328 := by
  obtain ⟨l, h1, h2, h3, h4⟩ := open_tys h hval
  refine ⟨l, h1, ?_⟩
  rcases h4 with rfl | ⟨a, b, rfl⟩
  · simp [h3 rfl]
  · have := sized_slice hsz ht hd Try.underlying22
    rw [bytes24] at this
    rw [h2 a b rfl]
    simp only [reachBytes] at this
    omega

theorem bytes3 : Try.prog.bytesOf 3 = 8 := by kernel_rfl
theorem open_int64 {v : Value} {d : DataW H} {ps : List MemPlace} {base : Nat} (hval : Value.okWide Try.prog w .any base 3 v) (h : DataW.Trod enc Try.prog w 0 (fun _ => true) true 3 v d ps) :
    ∃ n : Int, Rep ι0 F0 w v (.int .i64 n) ∧ -9223372036854775808 ≤ n ∧ n ≤ 9223372036854775807 := by
  obtain ⟨n, rfl, _, _, hw⟩ := open_int Try.underlying3 hval h
  exact ⟨n, .int _ _, by simpa [Lit.wf, IntKind.min, IntKind.max, IntKind.signed, IntKind.bits] using hw⟩
theorem open_ints_sized {v : Value} {d : DataW H} {ps : List MemPlace} (h : DataW.Trod enc Try.prog w 0 (fun _ => true) true 39 v d ps) {base : Nat} (hval : Value.okWide Try.prog w .any base 39 v)
    {ts : List TypeId} {ds : List (DataW H)} (hsz : (DataW.weightsEach Try.prog ts ds).all (· ≤ reachBytes) = true) {j : Nat} (ht : ts[j]? = some 39) (hd : ds[j]? = some d) :
    ∃ l : List Int, Rep ι0 F0 w v (.list 1 .none (l.map (.int .i64))) ∧ l.length * 8 ≤ 140737488355328 ∧ ∀ n ∈ l, -9223372036854775808 ≤ n ∧ n ≤ 9223372036854775807 := by
  obtain ⟨a, len, cap, rfl⟩ := okWide_slice Try.underlying39 hval
  obtain ⟨n, hn⟩ := h
  obtain ⟨v, l, e, k1, k2, k3, k4, _⟩ := slice_reads (α := { n : Int // -9223372036854775808 ≤ n ∧ n ≤ 9223372036854775807 }) (f := fun n => [.int .i64 n.1]) Try.underlying39 cells3 (by omega) (fun k hk cs y hy => by
    obtain ⟨n, rfl, _, hw⟩ := DataW.trod_int Try.underlying3 hy
    exact ⟨⟨n, by simpa [Lit.wf, IntKind.min, IntKind.max, IntKind.signed, IntKind.bits] using hw⟩, .cons rfl (.int _ _) (.nil w)⟩) hn
  simp [Value.cells] at e
  subst e
  refine ⟨l.map (·.1), ?_, ?_, ?_⟩
  · rw [List.map_map]
    exact k2 _ fun _ => rfl
  · rcases DataW.trod_slice Try.underlying39 hn with ⟨_, h⟩ | ⟨_, _, _, _, _, _, _, _, h, _⟩
    · simp at h
      have := k4 h.1
      simp [this]
    · simp at h
      have := sized_slice hsz ht (hd.trans (congrArg some h.1)) Try.underlying39
      rw [bytes3] at this
      rw [List.length_map, k3 _ _ h.1]
      simp only [reachBytes] at this
      omega
  · intro n hn
    obtain ⟨x, _, rfl⟩ := List.mem_map.1 hn
    exact x.2

end
end Go.AL.Ty
