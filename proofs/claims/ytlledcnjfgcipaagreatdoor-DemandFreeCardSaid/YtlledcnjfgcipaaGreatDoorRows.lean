/-
  NARROWER THAN 'FOR EVERY INPUT', by the rows' own cells (each row's printed sentence says how): DemandSound: loops, laid · DemandPrograms: loops, laid · DemandNeeds: loops, laid · DemandOther: loops, laid · DemandFree: loops, laid.
  DERIVED. THE GIVEN ROWS OF THIS SEAT. 5 by the template 'for every input the law returns true; each argument reads behind the call as it read before'; 0 by the template 'total and deterministic' (their statements: YtlledcnjfgcipaaGreatDoorTotals.lean).
  GIVEN WITH THE SEED: the statements are not yours to turn. If you find one false, say at which input.
  Laid BY PROGRAM, IN A SANDBOX (cutbox-rows.mjs): the forced cells as the released guide's own fill.sh prints them over the translation e129384006e39f2a… (all of the seat's roots in one cut). By AI agents, Wed Nov 11 2026. No macro, syntax, notation, axiom, sorry.
-/
import Derived.Test.YtlledcnjfgcipaaGreatDoorChecked
import GoSem.Claim
import GoSem.ClaimJoined
import GoSem.ClaimMapViews
import Derived.JoinedTies
import Derived.KernelRfl
namespace Go.Proofs.YtlledcnjfgcipaaGreatDoor
/- THE CELL 'sum', in the pinned program and in every row, IS THE sha256 OF THE DUMP (.gsa) THAT YtlledcnjfgcipaaGreatDoorProg.lean LOADS. Nothing in Lean hashes anything: it is a label: what it is worth is what the hold of that sum in a sandbox is worth. -/
noncomputable def Tryz.pinned : Pinned := { name := "ytlledcnjfgcipaagreatdoor", sum := "e129384006e39f2a8441e807104fe7867785af95c906cde5f6b399e34606b8d1", checked := Tryz.checked }
namespace Rows
def none {H : Type} : Left H := { results := [], args := [] }

/- WHAT THE LISTED PACKAGE-LEVEL VARIABLES READ AS WHEN THE CALL BEGINS. Each datum BY PROGRAM (the guide's laid-datum.mjs) off the statement by which the dump's own 'gosem.cut.vars' lays the variable. In a bare row this is a premise. The card (YtlledcnjfgcipaaGreatDoorCards.lean) ties it to the program's text. -/
def laid_damask_damaskref15_arities {H : Type} : DataW H := .agg [.lit (.int .i64 2), .lit (.int .i64 2), .lit (.int .i64 2), .lit (.int .i64 2), .lit (.int .i64 2), .lit (.int .i64 2), .lit (.int .i64 2), .lit (.int .i64 2), .lit (.int .i64 2), .lit (.int .i64 1), .lit (.int .i64 1), .lit (.int .i64 2), .lit (.int .i64 1), .lit (.int .i64 0), .lit (.int .i64 2), .lit (.int .i64 1), .lit (.int .i64 2), .lit (.int .i64 1), .lit (.int .i64 0), .lit (.int .i64 1), .lit (.int .i64 1), .lit (.int .i64 2), .lit (.int .i64 1), .lit (.int .i64 1), .lit (.int .i64 2), .lit (.int .i64 0), .lit (.int .i64 2)]
def laid_damask_term_arities {H : Type} : DataW H := .map [(.string [97, 100, 100], .lit (.int .i64 2)), (.string [97, 116, 111, 109, 105, 99, 97, 108, 108, 121], .lit (.int .i64 1)), (.string [98, 105, 110, 100, 73, 79], .lit (.int .i64 2)), (.string [98, 105, 110, 100, 83, 84, 77], .lit (.int .i64 2)), (.string [99, 97, 116, 99, 104], .lit (.int .i64 2)), (.string [100, 105, 118], .lit (.int .i64 2)), (.string [101, 113], .lit (.int .i64 2)), (.string [102, 111, 114, 107], .lit (.int .i64 1)), (.string [103, 101, 116], .lit (.int .i64 0)), (.string [107, 105, 108, 108], .lit (.int .i64 2)), (.string [108, 101], .lit (.int .i64 2)), (.string [108, 116], .lit (.int .i64 2)), (.string [109, 97, 115, 107], .lit (.int .i64 1)), (.string [109, 111, 100], .lit (.int .i64 2)), (.string [109, 117, 108], .lit (.int .i64 2)), (.string [110, 101, 119, 84, 86, 97, 114], .lit (.int .i64 1)), (.string [111, 114, 69, 108, 115, 101], .lit (.int .i64 2)), (.string [112, 117, 116], .lit (.int .i64 1)), (.string [114, 101, 97, 100, 84, 86, 97, 114], .lit (.int .i64 1)), (.string [114, 101, 116, 114, 121], .lit (.int .i64 0)), (.string [114, 101, 116, 117, 114, 110, 73, 79], .lit (.int .i64 1)), (.string [114, 101, 116, 117, 114, 110, 83, 84, 77], .lit (.int .i64 1)), (.string [115, 101, 113], .lit (.int .i64 2)), (.string [115, 117, 98], .lit (.int .i64 2)), (.string [116, 104, 114, 111, 119], .lit (.int .i64 1)), (.string [119, 114, 105, 116, 101, 84, 86, 97, 114], .lit (.int .i64 2)), (.string [121, 105, 101, 108, 100], .lit (.int .i64 0))]
def laid_damask_term_pure {H : Type} : DataW H := .map [(.string [97, 100, 100], .lit (.bool true)), (.string [100, 105, 118], .lit (.bool true)), (.string [101, 113], .lit (.bool true)), (.string [108, 101], .lit (.bool true)), (.string [108, 116], .lit (.bool true)), (.string [109, 111, 100], .lit (.bool true)), (.string [109, 117, 108], .lit (.bool true)), (.string [115, 101, 113], .lit (.bool true)), (.string [115, 117, 98], .lit (.bool true)), (.string [116, 104, 114, 111, 119], .lit (.bool true))]
def laid_damask_term_shapes {H : Type} : DataW H := .map [(.int .i64 1, .agg [.lit (.int .i64 0), .lit (.int .i64 0), .lit (.bool true), .lit (.bool false), .lit (.bool false)]), (.int .i64 2, .agg [.lit (.int .i64 0), .lit (.int .i64 0), .lit (.bool false), .lit (.bool true), .lit (.bool false)]), (.int .i64 3, .agg [.lit (.int .i64 0), .lit (.int .i64 0), .lit (.bool true), .lit (.bool false), .lit (.bool false)]), (.int .i64 4, .agg [.lit (.int .i64 0), .lit (.int .i64 12), .lit (.bool false), .lit (.bool true), .lit (.bool false)]), (.int .i64 5, .agg [.lit (.int .i64 1), .lit (.int .i64 1), .lit (.bool true), .lit (.bool false), .lit (.bool false)]), (.int .i64 6, .agg [.lit (.int .i64 2), .lit (.int .i64 9), .lit (.bool false), .lit (.bool false), .lit (.bool false)]), (.int .i64 7, .agg [.lit (.int .i64 2), .lit (.int .i64 13), .lit (.bool false), .lit (.bool false), .lit (.bool false)]), (.int .i64 8, .agg [.lit (.int .i64 1), .lit (.int .i64 1), .lit (.bool false), .lit (.bool false), .lit (.bool true)]), (.int .i64 9, .agg [.lit (.int .i64 0), .lit (.int .i64 2), .lit (.bool false), .lit (.bool true), .lit (.bool false)])]

/-- 'damasklaw18.DemandSound': WHATEVER THE INPUT: true; the input reads as it did. -/
def demandSoundSpec : ChangeSpec := { name := "demandSound", fn := fun _ => fun
  | [d1, d2, d3, d4] => { results := [.lit (.bool true)], args := [d1, d2, d3, d4] }
  | _ => none }
def demandSoundRow : OpenClaim := { program := "ytlledcnjfgcipaagreatdoor", sum := "e129384006e39f2a8441e807104fe7867785af95c906cde5f6b399e34606b8d1", func := "damask/damasklaw18.DemandSound", spec := "demandSound", unfollowed := true, recurses := true, named := ["damask/damaskref15.arities", "damask/term.shapes", "damask/term.arities", "damask/term.pure"], loops := true, apart := false, laid := [("damask/damaskref15.arities", laid_damask_damaskref15_arities), ("damask/term.arities", laid_damask_term_arities), ("damask/term.pure", laid_damask_term_pure), ("damask/term.shapes", laid_damask_term_shapes)] }
def DemandSoundSaid : Prop := demandSoundRow.holds Tryz.pinned (OpenSpec.ofChange demandSoundSpec)

/-- ITS FALSE NEIGHBOUR: 'it returns false'. Refute it at one input. -/
def demandSoundWrong : ChangeSpec := { name := "demandSound", fn := fun _ => fun
  | [d1, d2, d3, d4] => { results := [.lit (.bool false)], args := [d1, d2, d3, d4] }
  | _ => none }
def DemandSoundWrongFalsely : Prop := demandSoundRow.holds Tryz.pinned (OpenSpec.ofChange demandSoundWrong)

/-- 'damasklaw18.DemandPrograms': WHATEVER THE INPUT: true; the input reads as it did. -/
def demandProgramsSpec : ChangeSpec := { name := "demandPrograms", fn := fun _ => fun
  | [d1, d2, d3] => { results := [.lit (.bool true)], args := [d1, d2, d3] }
  | _ => none }
def demandProgramsRow : OpenClaim := { program := "ytlledcnjfgcipaagreatdoor", sum := "e129384006e39f2a8441e807104fe7867785af95c906cde5f6b399e34606b8d1", func := "damask/damasklaw18.DemandPrograms", spec := "demandPrograms", unfollowed := true, recurses := true, named := ["damask/term.shapes", "damask/term.arities", "damask/term.pure", "damask/damaskref15.arities"], loops := true, apart := false, laid := [("damask/damaskref15.arities", laid_damask_damaskref15_arities), ("damask/term.arities", laid_damask_term_arities), ("damask/term.pure", laid_damask_term_pure), ("damask/term.shapes", laid_damask_term_shapes)] }
def DemandProgramsSaid : Prop := demandProgramsRow.holds Tryz.pinned (OpenSpec.ofChange demandProgramsSpec)

/-- ITS FALSE NEIGHBOUR: 'it returns false'. Refute it at one input. -/
def demandProgramsWrong : ChangeSpec := { name := "demandPrograms", fn := fun _ => fun
  | [d1, d2, d3] => { results := [.lit (.bool false)], args := [d1, d2, d3] }
  | _ => none }
def DemandProgramsWrongFalsely : Prop := demandProgramsRow.holds Tryz.pinned (OpenSpec.ofChange demandProgramsWrong)

/-- 'damasklaw18.DemandNeeds': WHATEVER THE INPUT: true; the input reads as it did. -/
def demandNeedsSpec : ChangeSpec := { name := "demandNeeds", fn := fun _ => fun
  | [d1, d2] => { results := [.lit (.bool true)], args := [d1, d2] }
  | _ => none }
def demandNeedsRow : OpenClaim := { program := "ytlledcnjfgcipaagreatdoor", sum := "e129384006e39f2a8441e807104fe7867785af95c906cde5f6b399e34606b8d1", func := "damask/damasklaw18.DemandNeeds", spec := "demandNeeds", unfollowed := true, recurses := true, named := ["damask/term.shapes", "damask/term.arities", "damask/term.pure", "damask/damaskref15.arities"], loops := true, apart := false, laid := [("damask/damaskref15.arities", laid_damask_damaskref15_arities), ("damask/term.arities", laid_damask_term_arities), ("damask/term.pure", laid_damask_term_pure), ("damask/term.shapes", laid_damask_term_shapes)] }
def DemandNeedsSaid : Prop := demandNeedsRow.holds Tryz.pinned (OpenSpec.ofChange demandNeedsSpec)

/-- ITS FALSE NEIGHBOUR: 'it returns false'. Refute it at one input. -/
def demandNeedsWrong : ChangeSpec := { name := "demandNeeds", fn := fun _ => fun
  | [d1, d2] => { results := [.lit (.bool false)], args := [d1, d2] }
  | _ => none }
def DemandNeedsWrongFalsely : Prop := demandNeedsRow.holds Tryz.pinned (OpenSpec.ofChange demandNeedsWrong)

/-- 'damasklaw18.DemandOther': WHATEVER THE INPUT: true; the input reads as it did. -/
def demandOtherSpec : ChangeSpec := { name := "demandOther", fn := fun _ => fun
  | [d1, d2] => { results := [.lit (.bool true)], args := [d1, d2] }
  | _ => none }
def demandOtherRow : OpenClaim := { program := "ytlledcnjfgcipaagreatdoor", sum := "e129384006e39f2a8441e807104fe7867785af95c906cde5f6b399e34606b8d1", func := "damask/damasklaw18.DemandOther", spec := "demandOther", unfollowed := true, recurses := true, named := ["damask/damaskref15.arities", "damask/term.shapes", "damask/term.arities", "damask/term.pure"], loops := true, apart := false, laid := [("damask/damaskref15.arities", laid_damask_damaskref15_arities), ("damask/term.arities", laid_damask_term_arities), ("damask/term.pure", laid_damask_term_pure), ("damask/term.shapes", laid_damask_term_shapes)] }
def DemandOtherSaid : Prop := demandOtherRow.holds Tryz.pinned (OpenSpec.ofChange demandOtherSpec)

/-- ITS FALSE NEIGHBOUR: 'it returns false'. Refute it at one input. -/
def demandOtherWrong : ChangeSpec := { name := "demandOther", fn := fun _ => fun
  | [d1, d2] => { results := [.lit (.bool false)], args := [d1, d2] }
  | _ => none }
def DemandOtherWrongFalsely : Prop := demandOtherRow.holds Tryz.pinned (OpenSpec.ofChange demandOtherWrong)

/-- 'damasklaw18.DemandFree': WHATEVER THE INPUT: true; the input reads as it did. -/
def demandFreeSpec : ChangeSpec := { name := "demandFree", fn := fun _ => fun
  | [d1, d2, d3, d4] => { results := [.lit (.bool true)], args := [d1, d2, d3, d4] }
  | _ => none }
def demandFreeRow : OpenClaim := { program := "ytlledcnjfgcipaagreatdoor", sum := "e129384006e39f2a8441e807104fe7867785af95c906cde5f6b399e34606b8d1", func := "damask/damasklaw18.DemandFree", spec := "demandFree", unfollowed := true, recurses := true, named := ["damask/damaskref15.arities", "damask/term.shapes", "damask/term.arities", "damask/term.pure"], loops := true, apart := false, laid := [("damask/damaskref15.arities", laid_damask_damaskref15_arities), ("damask/term.arities", laid_damask_term_arities), ("damask/term.pure", laid_damask_term_pure), ("damask/term.shapes", laid_damask_term_shapes)] }
def DemandFreeSaid : Prop := demandFreeRow.holds Tryz.pinned (OpenSpec.ofChange demandFreeSpec)

/-- ITS FALSE NEIGHBOUR: 'it returns false'. Refute it at one input. -/
def demandFreeWrong : ChangeSpec := { name := "demandFree", fn := fun _ => fun
  | [d1, d2, d3, d4] => { results := [.lit (.bool false)], args := [d1, d2, d3, d4] }
  | _ => none }
def DemandFreeWrongFalsely : Prop := demandFreeRow.holds Tryz.pinned (OpenSpec.ofChange demandFreeWrong)

/- THE SECOND FORM. 'bulk': how many values and letters a reading holds, each counted each time it is reached (what is shared counts as often as it is met; a slice's spare places count too). A statement '..UptoSaid' is the law's where the arguments, and the package variables that the reading takes, are together of bulk at most 1048576: NARROWER than '..Said'. Prove '..Said' where nothing that the law and all that it calls make is longer than what came in: it says more and counts as full. Else prove '..UptoSaid'. A law counts once. -/
mutual
def uptoBulk {H : Type} : DataW H → Nat
  | .lit (.string bytes) => bytes.length + 1
  | .lit _ => 1
  | .nil => 1
  | .ptr d => uptoBulk d + 1
  | .slice elems spare => uptoBulkAll elems + uptoBulkAll spare + 1
  | .agg parts => uptoBulkAll parts + 1
  | .iface _ d => uptoBulk d + 1
  | .map entries => uptoBulkEntries entries + 1
  | .held _ => 1
def uptoBulkAll {H : Type} : List (DataW H) → Nat
  | [] => 0
  | d :: r => uptoBulk d + uptoBulkAll r
def uptoBulkEntries {H : Type} : List (Lit × DataW H) → Nat
  | [] => 0
  | x :: r => uptoBulkEntry x + uptoBulkEntries r
def uptoBulkEntry {H : Type} : Lit × DataW H → Nat
  | (.string bytes, d) => bytes.length + uptoBulk d + 1
  | (_, d) => uptoBulk d + 1
 end
def uptoSmall : (H : Type) → List (DataW H) → Bool := fun _ ds => decide (uptoBulkAll ds ≤ 1048576)
def OpenSpec.upto (s : _root_.Go.ChangeSpec) : _root_.Go.OpenSpec := { _root_.Go.OpenSpec.ofChange s with cond := some uptoSmall }

/-- 'damasklaw18.DemandSound', WHERE WHAT IT READS IS OF BULK AT MOST 1048576: true; the input reads as it did. -/
def demandSoundUptoRow : OpenClaim := { program := "ytlledcnjfgcipaagreatdoor", sum := "e129384006e39f2a8441e807104fe7867785af95c906cde5f6b399e34606b8d1", func := "damask/damasklaw18.DemandSound", spec := "demandSound", unfollowed := true, recurses := true, named := ["damask/damaskref15.arities", "damask/term.shapes", "damask/term.arities", "damask/term.pure"], loops := true, apart := false, laid := [("damask/damaskref15.arities", laid_damask_damaskref15_arities), ("damask/term.arities", laid_damask_term_arities), ("damask/term.pure", laid_damask_term_pure), ("damask/term.shapes", laid_damask_term_shapes)], narrowed := true }
def DemandSoundUptoSaid : Prop := demandSoundUptoRow.holds Tryz.pinned (OpenSpec.upto demandSoundSpec)

/-- 'damasklaw18.DemandPrograms', WHERE WHAT IT READS IS OF BULK AT MOST 1048576: true; the input reads as it did. -/
def demandProgramsUptoRow : OpenClaim := { program := "ytlledcnjfgcipaagreatdoor", sum := "e129384006e39f2a8441e807104fe7867785af95c906cde5f6b399e34606b8d1", func := "damask/damasklaw18.DemandPrograms", spec := "demandPrograms", unfollowed := true, recurses := true, named := ["damask/term.shapes", "damask/term.arities", "damask/term.pure", "damask/damaskref15.arities"], loops := true, apart := false, laid := [("damask/damaskref15.arities", laid_damask_damaskref15_arities), ("damask/term.arities", laid_damask_term_arities), ("damask/term.pure", laid_damask_term_pure), ("damask/term.shapes", laid_damask_term_shapes)], narrowed := true }
def DemandProgramsUptoSaid : Prop := demandProgramsUptoRow.holds Tryz.pinned (OpenSpec.upto demandProgramsSpec)

/-- 'damasklaw18.DemandNeeds', WHERE WHAT IT READS IS OF BULK AT MOST 1048576: true; the input reads as it did. -/
def demandNeedsUptoRow : OpenClaim := { program := "ytlledcnjfgcipaagreatdoor", sum := "e129384006e39f2a8441e807104fe7867785af95c906cde5f6b399e34606b8d1", func := "damask/damasklaw18.DemandNeeds", spec := "demandNeeds", unfollowed := true, recurses := true, named := ["damask/term.shapes", "damask/term.arities", "damask/term.pure", "damask/damaskref15.arities"], loops := true, apart := false, laid := [("damask/damaskref15.arities", laid_damask_damaskref15_arities), ("damask/term.arities", laid_damask_term_arities), ("damask/term.pure", laid_damask_term_pure), ("damask/term.shapes", laid_damask_term_shapes)], narrowed := true }
def DemandNeedsUptoSaid : Prop := demandNeedsUptoRow.holds Tryz.pinned (OpenSpec.upto demandNeedsSpec)

/-- 'damasklaw18.DemandOther', WHERE WHAT IT READS IS OF BULK AT MOST 1048576: true; the input reads as it did. -/
def demandOtherUptoRow : OpenClaim := { program := "ytlledcnjfgcipaagreatdoor", sum := "e129384006e39f2a8441e807104fe7867785af95c906cde5f6b399e34606b8d1", func := "damask/damasklaw18.DemandOther", spec := "demandOther", unfollowed := true, recurses := true, named := ["damask/damaskref15.arities", "damask/term.shapes", "damask/term.arities", "damask/term.pure"], loops := true, apart := false, laid := [("damask/damaskref15.arities", laid_damask_damaskref15_arities), ("damask/term.arities", laid_damask_term_arities), ("damask/term.pure", laid_damask_term_pure), ("damask/term.shapes", laid_damask_term_shapes)], narrowed := true }
def DemandOtherUptoSaid : Prop := demandOtherUptoRow.holds Tryz.pinned (OpenSpec.upto demandOtherSpec)

/-- 'damasklaw18.DemandFree', WHERE WHAT IT READS IS OF BULK AT MOST 1048576: true; the input reads as it did. -/
def demandFreeUptoRow : OpenClaim := { program := "ytlledcnjfgcipaagreatdoor", sum := "e129384006e39f2a8441e807104fe7867785af95c906cde5f6b399e34606b8d1", func := "damask/damasklaw18.DemandFree", spec := "demandFree", unfollowed := true, recurses := true, named := ["damask/damaskref15.arities", "damask/term.shapes", "damask/term.arities", "damask/term.pure"], loops := true, apart := false, laid := [("damask/damaskref15.arities", laid_damask_damaskref15_arities), ("damask/term.arities", laid_damask_term_arities), ("damask/term.pure", laid_damask_term_pure), ("damask/term.shapes", laid_damask_term_shapes)], narrowed := true }
def DemandFreeUptoSaid : Prop := demandFreeUptoRow.holds Tryz.pinned (OpenSpec.upto demandFreeSpec)

end Rows
end Go.Proofs.YtlledcnjfgcipaaGreatDoor
