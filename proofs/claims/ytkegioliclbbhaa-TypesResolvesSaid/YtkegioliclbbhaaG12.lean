/- TypesResolves: for every input the law returns true, and each argument reads as before. No condition. -/
import Derived.Test.YtkegioliclbbhaaG11
set_option linter.unusedVariables false
set_option linter.unusedSimpArgs false
set_option maxRecDepth 100000
namespace Go.Proofs.Ytkegioliclbbhaa
open Go Go.Proofs Go.AL Go.ChangeShapes Go.WideShapes Go.ChangeAt Go.RowKit

theorem typesResolves_lifted (os : Os) (started : os.Started) (H : Type) (enc : TypeId × Value → H) :
    ReturnsInHanded {} Try.checked os 11 .any (Rows.typesResolvesSpec.pre6 enc Try.prog Try.f11 Rows.typesResolvesRow.domain false) (Rows.typesResolvesSpec.post enc Try.prog Try.f11 false true false false) := by
  refine returnsInHanded_of_change_sized (C := Try.checked) Go.AL.Ty.own started (by kernel_rfl) Try.func11
    (ChangeSpec.witness6 (enc := enc) (C := Try.checked) false ⟨#[], #[.slice none 0 0, .agg #[.int .i64 0, .int .i64 0, .string ⟨#[]⟩, .slice none 0 0]], []⟩ 8 (by kernel_rfl) (by kernel_rfl) (by kernel_rfl) (by kernel_rfl)) ?_
  intro W base args ds gs before hval0 hW _ hsz0 _
  have hsz : (DataW.weightsEach Try.prog (Try.f11.params.toList ++ Rows.typesResolvesSpec.plain.varTypes Try.prog) (ds ++ gs)).all (· ≤ reachBytes) = true := hsz0
  clear hsz0
  have hval : ∀ (j : Nat) t v, Try.f11.params[j]? = some t → args[j]? = some v → Value.okWide Try.prog W .any base t v := hval0
  have hW' := hW
  obtain ⟨p, q, hA0, hV, rfl, _, _⟩ := hW
  have hA : DataW.TrodAll enc Try.prog W 0 (fun _ => true) true Try.f11.params.toList args.toList ds p := hA0
  rw [Try.params11] at hA hval hsz
  obtain ⟨v0, v1, d0, d1, p0, p1, rfl, rfl, rfl, h0, h1⟩ := trodAll_two hA
  obtain ⟨rfl, rfl⟩ := trodVars_none hV
  clear hA0 hval0
  simp only [List.append_nil] at hW'
  have hlt : ∀ x ∈ p0 ++ p1, x.block < W.heap.size := fun x hx => by simpa using hW'.lt x hx
  obtain ⟨l0, r0, n0⟩ := Ty.open_metas_sized h0 (hval 0 69 v0 rfl rfl) hsz (j := 0) rfl rfl
  obtain ⟨t1, r1, m1⟩ := Ty.open_ty (hval 1 24 v1 rfl rfl) h1
  have hr : RepL ι0 F0 W #[v0, v1] [.list 10 .none (l0.map Ty.Mt.av), t1.av] := by
    refine ⟨rfl, fun j v x hv hx => ?_⟩
    match j with
    | 0 => simp at hv hx; subst hv; subst hx; exact r0
    | 1 => simp at hv hx; subst hv; subst hx; exact r1
    | _ + 2 => simp at hv
  refine (law_calls (Ty.p11 l0 n0 t1) hr).mono fun e W' ⟨he, hn⟩ => ?_
  subst he
  have a0 := Below.trod Ty.laidOut (by kernel_rfl) (of_decide_eq_true (by kernel_rfl)) h0 hn fun x hx => hlt x (by simp [hx])
  have a1 := Below.trod Ty.laidOut (by kernel_rfl) (of_decide_eq_true (by kernel_rfl)) h1 hn fun x hx => hlt x (by simp [hx])
  exact ⟨_, rfl, _, _, _, [], (p0 ++ p1), [], hW', trodAll_mk1 (shut_bool Try.underlying4 _), trodAll_mk2 a0 a1, rfl, hn.frame _, fun h => by cases h⟩

theorem typesResolves_holds : Rows.TypesResolvesSaid :=
  OpenClaim.holds_of_wide 11 Try.f11 rfl rfl rfl rfl rfl rfl rfl ⟨rfl, rfl, rfl, rfl, rfl⟩ rfl rfl rfl rfl rfl (by kernel_rfl) Try.func11 (by kernel_rfl)
    (of_decide_eq_true (by kernel_rfl)) (by unfold Func.isWrapper; first | (rw [if_pos (by decide +kernel)]; kernel_rfl) | (rw [if_neg (by decide +kernel)]; exact ⟨rfl, rfl⟩))
    (fun os started H enc _ => typesResolves_lifted os started H enc)
end Go.Proofs.Ytkegioliclbbhaa
