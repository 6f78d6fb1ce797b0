/-
  DERIVED. GIVEN WITH THE SEED: THE PROGRAM's TIES (one call each: nine closed facts by the kernel) AND EACH ROW's TIE, after the 31st guide's Derived/Test/Toyas{Tie, Card}.lean. No idea stands in it: it is a product of the set-up. Laid BY PROGRAM, IN A SANDBOX (cutbox-door.mjs). By AI agents, Wed Nov 11 2026. No macro, syntax, notation, axiom, sorry.
-/
import Derived.Test.YtlledcnjfgcipaaGreatDoorRows
import Derived.LaidByTextLater
import Derived.SevenTiedAt
import Derived.LaidSub
import Derived.LaidOnce
namespace Go.Proofs.YtlledcnjfgcipaaGreatDoor
open Go
set_option maxRecDepth 100000
theorem seatTie1 : Tryz.prog.laidByTextLater [("damask/damaskref15.arities", Rows.laid_damask_damaskref15_arities), ("damask/term.arities", Rows.laid_damask_term_arities), ("damask/term.pure", Rows.laid_damask_term_pure), ("damask/term.shapes", Rows.laid_damask_term_shapes)] [.data, .mapped, .mapped, .mapped] true :=
  Program.laidByTextLater_by_one 268 8 28 (by kernel_rfl) (by kernel_rfl) (by kernel_rfl) (by kernel_rfl) (by kernel_rfl) (by kernel_rfl) (fun _ _ => by kernel_rfl)
theorem noOwnUnsafe : Tryz.pinned.checked.prog.headLifts.contains "ownunsafe" = false := by kernel_rfl
theorem tie : Tryz.prog.laidByTextLater [("damask/damaskref15.arities", Rows.laid_damask_damaskref15_arities), ("damask/term.arities", Rows.laid_damask_term_arities), ("damask/term.pure", Rows.laid_damask_term_pure), ("damask/term.shapes", Rows.laid_damask_term_shapes)] [.data, .mapped, .mapped, .mapped] true :=
  Program.laidByTextLater.sub seatTie1 ["damask/damaskref15.arities", "damask/term.arities", "damask/term.pure", "damask/term.shapes"] (by kernel_rfl) (by kernel_rfl)
theorem demandSound_row_tie : Rows.demandSoundRow.laidByTextAt .later Tryz.pinned [.data, .mapped, .mapped, .mapped] true :=
  OpenClaim.laidByTextAt_later rfl rfl tie noOwnUnsafe
theorem demandPrograms_row_tie : Rows.demandProgramsRow.laidByTextAt .later Tryz.pinned [.data, .mapped, .mapped, .mapped] true :=
  OpenClaim.laidByTextAt_later rfl rfl tie noOwnUnsafe
theorem demandNeeds_row_tie : Rows.demandNeedsRow.laidByTextAt .later Tryz.pinned [.data, .mapped, .mapped, .mapped] true :=
  OpenClaim.laidByTextAt_later rfl rfl tie noOwnUnsafe
theorem demandOther_row_tie : Rows.demandOtherRow.laidByTextAt .later Tryz.pinned [.data, .mapped, .mapped, .mapped] true :=
  OpenClaim.laidByTextAt_later rfl rfl tie noOwnUnsafe
theorem demandFree_row_tie : Rows.demandFreeRow.laidByTextAt .later Tryz.pinned [.data, .mapped, .mapped, .mapped] true :=
  OpenClaim.laidByTextAt_later rfl rfl tie noOwnUnsafe
theorem demandSoundUpto_row_tie : Rows.demandSoundUptoRow.laidByTextAt .later Tryz.pinned [.data, .mapped, .mapped, .mapped] true :=
  OpenClaim.laidByTextAt_later rfl rfl tie noOwnUnsafe
theorem demandProgramsUpto_row_tie : Rows.demandProgramsUptoRow.laidByTextAt .later Tryz.pinned [.data, .mapped, .mapped, .mapped] true :=
  OpenClaim.laidByTextAt_later rfl rfl tie noOwnUnsafe
theorem demandNeedsUpto_row_tie : Rows.demandNeedsUptoRow.laidByTextAt .later Tryz.pinned [.data, .mapped, .mapped, .mapped] true :=
  OpenClaim.laidByTextAt_later rfl rfl tie noOwnUnsafe
theorem demandOtherUpto_row_tie : Rows.demandOtherUptoRow.laidByTextAt .later Tryz.pinned [.data, .mapped, .mapped, .mapped] true :=
  OpenClaim.laidByTextAt_later rfl rfl tie noOwnUnsafe
theorem demandFreeUpto_row_tie : Rows.demandFreeUptoRow.laidByTextAt .later Tryz.pinned [.data, .mapped, .mapped, .mapped] true :=
  OpenClaim.laidByTextAt_later rfl rfl tie noOwnUnsafe
end Go.Proofs.YtlledcnjfgcipaaGreatDoor
