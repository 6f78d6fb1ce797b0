/- How many nodes code has. -/
import Derived.Test.YtlledcnjfgcipaaGreatDoorD2
import Derived.Test.YtlledcnjfgcipaaGreatDoorProg
import Derived.KernelRfl
set_option linter.unusedVariables false
set_option linter.unusedSimpArgs false
namespace Go.AL.Dm
open Go
def gv_rar : AV := .cptr [(.int .i64 2), (.int .i64 2), (.int .i64 2), (.int .i64 2), (.int .i64 2), (.int .i64 2), (.int .i64 2), (.int .i64 2), (.int .i64 2), (.int .i64 1), (.int .i64 1), (.int .i64 2), (.int .i64 1), (.int .i64 0), (.int .i64 2), (.int .i64 1), (.int .i64 2), (.int .i64 1), (.int .i64 0), (.int .i64 1), (.int .i64 1), (.int .i64 2), (.int .i64 1), (.int .i64 1), (.int .i64 2), (.int .i64 0), (.int .i64 2)]
def es_ari : List (Value × Value) := [(.string ⟨#[97, 100, 100]⟩, .int .i64 2), (.string ⟨#[97, 116, 111, 109, 105, 99, 97, 108, 108, 121]⟩, .int .i64 1), (.string ⟨#[98, 105, 110, 100, 73, 79]⟩, .int .i64 2), (.string ⟨#[98, 105, 110, 100, 83, 84, 77]⟩, .int .i64 2), (.string ⟨#[99, 97, 116, 99, 104]⟩, .int .i64 2), (.string ⟨#[100, 105, 118]⟩, .int .i64 2), (.string ⟨#[101, 113]⟩, .int .i64 2), (.string ⟨#[102, 111, 114, 107]⟩, .int .i64 1), (.string ⟨#[103, 101, 116]⟩, .int .i64 0), (.string ⟨#[107, 105, 108, 108]⟩, .int .i64 2), (.string ⟨#[108, 101]⟩, .int .i64 2), (.string ⟨#[108, 116]⟩, .int .i64 2), (.string ⟨#[109, 97, 115, 107]⟩, .int .i64 1), (.string ⟨#[109, 111, 100]⟩, .int .i64 2), (.string ⟨#[109, 117, 108]⟩, .int .i64 2), (.string ⟨#[110, 101, 119, 84, 86, 97, 114]⟩, .int .i64 1), (.string ⟨#[111, 114, 69, 108, 115, 101]⟩, .int .i64 2), (.string ⟨#[112, 117, 116]⟩, .int .i64 1), (.string ⟨#[114, 101, 97, 100, 84, 86, 97, 114]⟩, .int .i64 1), (.string ⟨#[114, 101, 116, 114, 121]⟩, .int .i64 0), (.string ⟨#[114, 101, 116, 117, 114, 110, 73, 79]⟩, .int .i64 1), (.string ⟨#[114, 101, 116, 117, 114, 110, 83, 84, 77]⟩, .int .i64 1), (.string ⟨#[115, 101, 113]⟩, .int .i64 2), (.string ⟨#[115, 117, 98]⟩, .int .i64 2), (.string ⟨#[116, 104, 114, 111, 119]⟩, .int .i64 1), (.string ⟨#[119, 114, 105, 116, 101, 84, 86, 97, 114]⟩, .int .i64 2), (.string ⟨#[121, 105, 101, 108, 100]⟩, .int .i64 0)]
def gv_ari : AV := .cptr [.cmap es_ari]
def es_pur : List (Value × Value) := [(.string ⟨#[97, 100, 100]⟩, .bool true), (.string ⟨#[100, 105, 118]⟩, .bool true), (.string ⟨#[101, 113]⟩, .bool true), (.string ⟨#[108, 101]⟩, .bool true), (.string ⟨#[108, 116]⟩, .bool true), (.string ⟨#[109, 111, 100]⟩, .bool true), (.string ⟨#[109, 117, 108]⟩, .bool true), (.string ⟨#[115, 101, 113]⟩, .bool true), (.string ⟨#[115, 117, 98]⟩, .bool true), (.string ⟨#[116, 104, 114, 111, 119]⟩, .bool true)]
def gv_pur : AV := .cptr [.cmap es_pur]
def es_shp : List (Value × Value) := [(.int .i64 1, .agg #[.int .i64 0, .int .i64 0, .bool true, .bool false, .bool false]), (.int .i64 2, .agg #[.int .i64 0, .int .i64 0, .bool false, .bool true, .bool false]), (.int .i64 3, .agg #[.int .i64 0, .int .i64 0, .bool true, .bool false, .bool false]), (.int .i64 4, .agg #[.int .i64 0, .int .i64 12, .bool false, .bool true, .bool false]), (.int .i64 5, .agg #[.int .i64 1, .int .i64 1, .bool true, .bool false, .bool false]), (.int .i64 6, .agg #[.int .i64 2, .int .i64 9, .bool false, .bool false, .bool false]), (.int .i64 7, .agg #[.int .i64 2, .int .i64 13, .bool false, .bool false, .bool false]), (.int .i64 8, .agg #[.int .i64 1, .int .i64 1, .bool false, .bool false, .bool true]), (.int .i64 9, .agg #[.int .i64 0, .int .i64 2, .bool false, .bool true, .bool false])]
def gv_shp : AV := .cptr [.cmap es_shp]
def gtab : Nat → Option AV
 | 0 => some gv_shp
 | 1 => some gv_ari
 | 2 => some gv_pur
 | 3 => some gv_rar
 | _ => none
instance : Glob := ⟨gtab⟩
abbrev oL (t : Nat) (op : AOp) : AOper := ⟨some (false, t), op, none, []⟩
abbrev oT (t : Nat) (op : AOp) : AOper := ⟨some (true, t), op, none, []⟩
abbrev oN (op : AOp) : AOper := ⟨none, op, none, []⟩
abbrev oLf (t : Nat) (op : AOp) (c : Nat) : AOper := ⟨some (false, t), op, some (false, c, false), []⟩
abbrev oLt (t : Nat) (op : AOp) (c : Nat) : AOper := ⟨some (false, t), op, some (false, c, true), []⟩
abbrev oTf (t : Nat) (op : AOp) (c : Nat) : AOper := ⟨some (true, t), op, some (false, c, false), []⟩
abbrev oTt (t : Nat) (op : AOp) (c : Nat) : AOper := ⟨some (true, t), op, some (false, c, true), []⟩
abbrev ci (n : Int) : AOpd := .c (.int .i64 n)
abbrev Rg := List AOper
abbrev rq (l : List AOper) : ACode := .reg false l
abbrev cT : AOpd := .c (.bool true)
abbrev cF : AOpd := .c (.bool false)
abbrev nl : AV := .list 0 .full []
abbrev i0 : AV := .int .i64 0
abbrev s0 : AV := .str ⟨#[]⟩
abbrev bF : AV := .bool false
abbrev _root_.Go.AL.AOp.fa (n : Nat) (x : AOpd) : AOp := .fieldAddr n x
abbrev _root_.Go.AL.AOp.ia (n : Nat) (x i : AOpd) : AOp := .indexAddr n x i
abbrev _root_.Go.AL.AOp.ld (x : AOpd) : AOp := .load 1 false x
abbrev _root_.Go.AL.AOp.cf (f : Nat) (l : List AOpd) : AOp := .call false (.c (.fn f [] [])) l
abbrev _root_.Go.AL.AOp.ct (f : Nat) (l : List AOpd) : AOp := .call true (.c (.fn f [] [])) l
end Go.AL.Dm
namespace Go.AL.Dm
open Go.Proofs
/- damask/damaskref15.weight -/
def a38r0 : Rg := [oT 3 (.box (.g 0)), oT 6 (.mv (ci 0))]
def a38r1 : Rg := [oT 7 (.mv (ci 1))]
def a38r2 : Rg := [oL 10 (.mv (.g 2)), oT 11 (.bin .eql (.l 10) (ci 0))]
def a38r3 : Rg := [oL 12 (.mv (.g 1)), oL 13 (.bin .add (.l 12) (ci 1)), oT 6 (.mv (.l 13))]
def a38r4 : Rg := [oT 8 (.mv (ci 0))]
def a38r5 : Rg := [oL 14 (.mv (.g 8)), oL 15 (.fa 3 (.g 3)), oL 16 (.ld (.l 15)), oL 17 (.len (.l 16)), oL 18 (.bin .lss (.l 14) (.l 17)), oL 19 (.mv (.l 18)), oLt 20 (.mv (.g 7)) 19, oLt 21 (.mv (.g 1)) 19, oLt 22 (.bin .leq (.l 20) (.l 21)) 19, oT 23 (.pick (.l 19) (.l 22) cF)]
def a38r6 : Rg := [oL 26 (.mv (.g 7)), oL 27 (.fa 3 (.g 3)), oL 28 (.ld (.l 27)), oL 29 (.mv (.g 8)), oL 30 (.ia 5 (.l 28) (.l 29)), oL 31 (.load 5 true (.l 30)), oL 32 (.mv (.g 1)), oL 33 (.mv (.g 7)), oL 34 (.bin .sub (.l 32) (.l 33)), oL 35 (.mv (.g 2)), oL 36 (.bin .sub (.l 35) (ci 1)), oL 37 (.cf 38 [(.l 31), (.l 34), (.l 36)]), oL 38 (.bin .add (.l 26) (.l 37)), oT 7 (.mv (.l 38))]
def a38r7 : Rg := [oL 24 (.mv (.g 8)), oL 25 (.bin .add (.l 24) (ci 1)), oT 8 (.mv (.l 25))]
def a38l8 : ACode := (.seq (.seq (rq a38r5) (.cond (.g 23) .skip (.exit 0))) (.seq (.block 1 (rq a38r6)) (rq a38r7)))
def a38r9 : Rg := [oT 9 (.mv (ci 0))]
def a38r10 : Rg := [oL 39 (.mv (.g 9)), oL 40 (.fa 4 (.g 3)), oL 41 (.ld (.l 40)), oL 42 (.len (.l 41)), oL 43 (.bin .lss (.l 39) (.l 42)), oL 44 (.mv (.l 43)), oLt 45 (.mv (.g 7)) 44, oLt 46 (.mv (.g 1)) 44, oLt 47 (.bin .leq (.l 45) (.l 46)) 44, oT 48 (.pick (.l 44) (.l 47) cF)]
def a38r11 : Rg := [oL 51 (.mv (.g 7)), oL 52 (.bin .add (.l 51) (ci 1)), oL 53 (.fa 4 (.g 3)), oL 54 (.ld (.l 53)), oL 55 (.mv (.g 9)), oL 56 (.ia 8 (.l 54) (.l 55)), oL 57 (.fa 3 (.l 56)), oL 58 (.load 5 true (.l 57)), oL 59 (.mv (.g 1)), oL 60 (.mv (.g 7)), oL 61 (.bin .sub (.l 59) (.l 60)), oL 62 (.mv (.g 2)), oL 63 (.bin .sub (.l 62) (ci 1)), oL 64 (.cf 38 [(.l 58), (.l 61), (.l 63)]), oL 65 (.bin .add (.l 52) (.l 64)), oT 7 (.mv (.l 65))]
def a38r12 : Rg := [oL 49 (.mv (.g 9)), oL 50 (.bin .add (.l 49) (ci 1)), oT 9 (.mv (.l 50))]
def a38l13 : ACode := (.seq (.seq (rq a38r10) (.cond (.g 48) .skip (.exit 2))) (.seq (.block 3 (rq a38r11)) (rq a38r12)))
def a38r14 : Rg := [oL 66 (.mv (.g 7)), oT 6 (.mv (.l 66))]
def a38b : ACode := (.seq (rq a38r0) (.seq (rq a38r1) (.seq (.seq (rq a38r2) (.cond (.g 11) (.seq (rq a38r3) .ret) .skip)) (.seq (.seq (rq a38r4) (.block 0 (.loop a38l8))) (.seq (.seq (rq a38r9) (.block 2 (.loop a38l13))) (.seq (rq a38r14) .ret))))))
def a38 : AFun := ⟨3, 67, a38b, [.tmp (true, 6)]⟩
theorem c38 : compileFun Tryz.prog [0, 1, 2, 3, 6, 7, 8, 9, 11, 23, 48] Tryz.f38 = some a38 := by kernel_rfl
/- damask/damaskref15.Weight -/
def a14r0 : Rg := [oT 2 (.box (.g 0)), oT 4 (.mv (ci 0))]
def a14r1 : Rg := [oL 5 (.load 5 true (.g 2)), oL 6 (.mv (.g 1)), oL 7 (.cf 38 [(.l 5), (.l 6), (ci 100)]), oT 4 (.mv (.l 7))]
def a14b : ACode := (.seq (rq a14r0) (.seq (rq a14r1) .ret))
def a14 : AFun := ⟨2, 8, a14b, [.tmp (true, 4)]⟩
theorem c14 : compileFun Tryz.prog [0, 1, 2, 4] Tryz.f14 = some a14 := by kernel_rfl
/- damask/damaskref15.Weights -/
def a33r0 : Rg := [oT 4 (.mv (ci 0))]
def a33r1 : Rg := [oL 7 (.mv (.g 0)), oL 8 (.len (.l 7)), oT 5 (.mv (.l 8))]
def a33r2 : Rg := [oT 6 (.mv (ci 0))]
def a33r3 : Rg := [oL 9 (.mv (.g 6)), oL 10 (.mv (.g 0)), oL 11 (.len (.l 10)), oL 12 (.bin .lss (.l 9) (.l 11)), oL 13 (.mv (.l 12)), oLt 14 (.mv (.g 5)) 13, oLt 15 (.mv (.g 1)) 13, oLt 16 (.bin .leq (.l 14) (.l 15)) 13, oT 17 (.pick (.l 13) (.l 16) cF)]
def a33r4 : Rg := [oL 20 (.mv (.g 5)), oL 21 (.mv (.g 0)), oL 22 (.mv (.g 6)), oL 23 (.ia 6 (.l 21) (.l 22)), oL 24 (.fa 1 (.l 23)), oL 25 (.load 5 true (.l 24)), oL 26 (.mv (.g 1)), oL 27 (.cf 14 [(.l 25), (.l 26)]), oL 28 (.bin .add (.l 20) (.l 27)), oT 5 (.mv (.l 28))]
def a33r5 : Rg := [oL 18 (.mv (.g 6)), oL 19 (.bin .add (.l 18) (ci 1)), oT 6 (.mv (.l 19))]
def a33l6 : ACode := (.seq (.seq (rq a33r3) (.cond (.g 17) .skip (.exit 0))) (.seq (.block 1 (rq a33r4)) (rq a33r5)))
def a33r7 : Rg := [oL 29 (.mv (.g 5)), oT 4 (.mv (.l 29))]
def a33b : ACode := (.seq (rq a33r0) (.seq (rq a33r1) (.seq (.seq (rq a33r2) (.block 0 (.loop a33l6))) (.seq (rq a33r7) .ret))))
def a33 : AFun := ⟨2, 30, a33b, [.tmp (true, 4)]⟩
theorem c33 : compileFun Tryz.prog [0, 1, 4, 5, 6, 17] Tryz.f33 = some a33 := by kernel_rfl
/- damask/damasklaw18.few -/
def a8r0 : Rg := [oT 3 (.box (.g 1)), oT 4 (.mv cF)]
def a8r1 : Rg := [oL 5 (.mv (.g 0)), oL 6 (.cf 33 [(.l 5), (ci 3000)]), oL 7 (.bin .leq (.l 6) (ci 3000)), oL 8 (.mv (.l 7)), oLt 9 (.load 5 true (.g 3)) 8, oLt 10 (.cf 14 [(.l 9), (ci 3000)]) 8, oLt 11 (.bin .leq (.l 10) (ci 3000)) 8, oL 12 (.pick (.l 8) (.l 11) cF), oT 4 (.mv (.l 12))]
def a8b : ACode := (.seq (rq a8r0) (.seq (rq a8r1) .ret))
def a8 : AFun := ⟨2, 13, a8b, [.tmp (true, 4)]⟩
theorem c8 : compileFun Tryz.prog [0, 1, 3, 4] Tryz.f8 = some a8 := by kernel_rfl
/- damask/damaskref15.Bracket -/
def a106r0 : Rg := [oT 2 (.mv cF)]
def a106r1 : Rg := [oL 3 (.mv (.g 0)), oL 4 (.cf 147 [(.c (.str ⟨#[40, 41, 91, 93, 123, 125]⟩)), (.l 3)]), oT 2 (.mv (.l 4))]
def a106b : ACode := (.seq (rq a106r0) (.seq (rq a106r1) .ret))
def a106 : AFun := ⟨1, 5, a106b, [.tmp (true, 2)]⟩
theorem c106 : compileFun Tryz.prog [0, 2] Tryz.f106 = some a106 := by kernel_rfl
/- damask/damaskref15.IsName -/
def a34r0 : Rg := [oT 2 (.mv cF)]
def a34r1 : Rg := [oL 4 (.mv (.g 0)), oL 5 (.lenStr (.l 4)), oL 6 (.bin .lss (.l 5) (ci 1)), oL 7 (.mv (.l 6)), oLf 8 (.mv (.g 0)) 7, oLf 9 (.lenStr (.l 8)) 7, oLf 10 (.bin .gtr (.l 9) (ci 60)) 7, oL 11 (.pick (.l 7) cT (.l 10)), oL 12 (.mv (.l 11)), oLf 13 (.mv (.g 0)) 12, oLf 14 (.cf 71 [(.l 13)]) 12, oL 15 (.pick (.l 12) cT (.l 14)), oL 16 (.mv (.l 15)), oLf 17 (.mv (.g 0)) 16, oLf 18 (.indexStr (.l 17) (ci 0)) 16, oLf 19 (.cf 72 [(.l 18)]) 16, oLf 20 (.un .not (.l 19)) 16, oT 21 (.pick (.l 16) cT (.l 20))]
def a34r2 : Rg := [oT 2 (.mv cF)]
def a34r3 : Rg := [oT 3 (.mv (ci 0))]
def a34r4 : Rg := [oL 22 (.mv (.g 3)), oL 23 (.mv (.g 0)), oL 24 (.lenStr (.l 23)), oT 25 (.bin .lss (.l 22) (.l 24))]
def a34r5 : Rg := [oL 28 (.mv (.g 0)), oL 29 (.mv (.g 3)), oL 30 (.indexStr (.l 28) (.l 29)), oL 31 (.cf 73 [(.l 30)]), oT 32 (.un .not (.l 31))]
def a34r6 : Rg := [oT 2 (.mv cF)]
def a34r7 : Rg := [oL 26 (.mv (.g 3)), oL 27 (.bin .add (.l 26) (ci 1)), oT 3 (.mv (.l 27))]
def a34l8 : ACode := (.seq (.seq (rq a34r4) (.cond (.g 25) .skip (.exit 0))) (.seq (.block 1 (.seq (rq a34r5) (.cond (.g 32) (.seq (rq a34r6) .ret) .skip))) (rq a34r7)))
def a34r9 : Rg := [oT 2 (.mv cT)]
def a34b : ACode := (.seq (rq a34r0) (.seq (.seq (rq a34r1) (.cond (.g 21) (.seq (rq a34r2) .ret) .skip)) (.seq (.seq (rq a34r3) (.block 0 (.loop a34l8))) (.seq (rq a34r9) .ret))))
def a34 : AFun := ⟨1, 33, a34b, [.tmp (true, 2)]⟩
theorem c34 : compileFun Tryz.prog [0, 2, 3, 21, 25, 32] Tryz.f34 = some a34 := by kernel_rfl
/- damask/damaskref15.Word -/
def a71r0 : Rg := [oT 2 (.mv cF)]
def a71r1 : Rg := [oL 3 (.mv (.g 0)), oL 4 (.bin .eql (.l 3) (.c (.str ⟨#[108, 101, 116]⟩))), oL 5 (.mv (.l 4)), oLf 6 (.mv (.g 0)) 5, oLf 7 (.bin .eql (.l 6) (.c (.str ⟨#[105, 110]⟩))) 5, oL 8 (.pick (.l 5) cT (.l 7)), oL 9 (.mv (.l 8)), oLf 10 (.mv (.g 0)) 9, oLf 11 (.bin .eql (.l 10) (.c (.str ⟨#[99, 97, 115, 101]⟩))) 9, oL 12 (.pick (.l 9) cT (.l 11)), oL 13 (.mv (.l 12)), oLf 14 (.mv (.g 0)) 13, oLf 15 (.bin .eql (.l 14) (.c (.str ⟨#[112, 114, 105, 109]⟩))) 13, oL 16 (.pick (.l 13) cT (.l 15)), oT 2 (.mv (.l 16))]
def a71b : ACode := (.seq (rq a71r0) (.seq (rq a71r1) .ret))
def a71 : AFun := ⟨1, 17, a71b, [.tmp (true, 2)]⟩
theorem c71 : compileFun Tryz.prog [0, 2] Tryz.f71 = some a71 := by kernel_rfl
/- damask/damaskref15.letter -/
def a72r0 : Rg := [oT 2 (.mv cF)]
def a72r1 : Rg := [oL 3 (.mv (.g 0)), oL 4 (.bin .geq (.l 3) (.c (.int .u8 97))), oL 5 (.mv (.l 4)), oLt 6 (.mv (.g 0)) 5, oLt 7 (.bin .leq (.l 6) (.c (.int .u8 122))) 5, oL 8 (.pick (.l 5) (.l 7) cF), oL 9 (.mv (.l 8)), oLf 10 (.mv (.g 0)) 9, oLf 11 (.bin .geq (.l 10) (.c (.int .u8 65))) 9, oLf 12 (.mv (.l 11)) 9, oLt 13 (.mv (.g 0)) 12, oLt 14 (.bin .leq (.l 13) (.c (.int .u8 90))) 12, oLf 15 (.pick (.l 12) (.l 14) cF) 9, oL 16 (.pick (.l 9) cT (.l 15)), oT 2 (.mv (.l 16))]
def a72b : ACode := (.seq (rq a72r0) (.seq (rq a72r1) .ret))
def a72 : AFun := ⟨1, 17, a72b, [.tmp (true, 2)]⟩
theorem c72 : compileFun Tryz.prog [0, 2] Tryz.f72 = some a72 := by kernel_rfl
/- damask/damaskref15.part -/
def a73r0 : Rg := [oT 2 (.mv cF)]
def a73r1 : Rg := [oL 3 (.mv (.g 0)), oL 4 (.bin .geq (.l 3) (.c (.int .u8 33))), oL 5 (.mv (.l 4)), oLt 6 (.mv (.g 0)) 5, oLt 7 (.bin .leq (.l 6) (.c (.int .u8 126))) 5, oL 8 (.pick (.l 5) (.l 7) cF), oL 9 (.mv (.l 8)), oLt 10 (.mv (.g 0)) 9, oLt 11 (.cf 106 [(.l 10)]) 9, oLt 12 (.un .not (.l 11)) 9, oL 13 (.pick (.l 9) (.l 12) cF), oT 2 (.mv (.l 13))]
def a73b : ACode := (.seq (rq a73r0) (.seq (rq a73r1) .ret))
def a73 : AFun := ⟨1, 14, a73b, [.tmp (true, 2)]⟩
theorem c73 : compileFun Tryz.prog [0, 2] Tryz.f73 = some a73 := by kernel_rfl
/- damask/damaskref15.has -/
def a147r0 : Rg := [oT 4 (.mv cF)]
def a147r1 : Rg := [oT 5 (.mv (ci 0))]
def a147r2 : Rg := [oL 6 (.mv (.g 5)), oL 7 (.mv (.g 0)), oL 8 (.lenStr (.l 7)), oT 9 (.bin .lss (.l 6) (.l 8))]
def a147r3 : Rg := [oL 12 (.mv (.g 0)), oL 13 (.mv (.g 5)), oL 14 (.indexStr (.l 12) (.l 13)), oL 15 (.mv (.g 1)), oT 16 (.bin .eql (.l 14) (.l 15))]
def a147r4 : Rg := [oT 4 (.mv cT)]
def a147r5 : Rg := [oL 10 (.mv (.g 5)), oL 11 (.bin .add (.l 10) (ci 1)), oT 5 (.mv (.l 11))]
def a147l6 : ACode := (.seq (.seq (rq a147r2) (.cond (.g 9) .skip (.exit 0))) (.seq (.block 1 (.seq (rq a147r3) (.cond (.g 16) (.seq (rq a147r4) .ret) .skip))) (rq a147r5)))
def a147r7 : Rg := [oT 4 (.mv cF)]
def a147b : ACode := (.seq (rq a147r0) (.seq (.seq (rq a147r1) (.block 0 (.loop a147l6))) (.seq (rq a147r7) .ret)))
def a147 : AFun := ⟨2, 17, a147b, [.tmp (true, 4)]⟩
theorem c147 : compileFun Tryz.prog [0, 1, 4, 5, 9, 16] Tryz.f147 = some a147 := by kernel_rfl
/- damask/term.IsName -/
def a74r0 : Rg := [oT 2 (.mv cF)]
def a74r1 : Rg := [oL 4 (.mv (.g 0)), oL 5 (.lenStr (.l 4)), oL 6 (.bin .lss (.l 5) (ci 1)), oL 7 (.mv (.l 6)), oLf 8 (.mv (.g 0)) 7, oLf 9 (.lenStr (.l 8)) 7, oLf 10 (.bin .gtr (.l 9) (ci 60)) 7, oL 11 (.pick (.l 7) cT (.l 10)), oL 12 (.mv (.l 11)), oLf 13 (.mv (.g 0)) 12, oLf 14 (.cf 107 [(.l 13)]) 12, oT 15 (.pick (.l 12) cT (.l 14))]
def a74r2 : Rg := [oT 2 (.mv cF)]
def a74r3 : Rg := [oL 16 (.mv (.g 0)), oT 17 (.lenStr (.l 16)), oT 18 (.mv (ci 0))]
def a74r4 : Rg := [oT 19 (.bin .lss (.g 18) (.g 17))]
def a74r5 : Rg := [oL 20 (.mv (.g 18)), oT 3 (.mv (.l 20))]
def a74r6 : Rg := [oL 21 (.mv (.g 0)), oL 22 (.mv (.g 3)), oL 23 (.indexStr (.l 21) (.l 22)), oL 24 (.cf 108 [(.l 23)]), oT 25 (.un .not (.l 24))]
def a74r7 : Rg := [oT 2 (.mv cF)]
def a74r8 : Rg := [oL 26 (.bin .add (.g 18) (ci 1)), oT 18 (.mv (.l 26))]
def a74l9 : ACode := (.seq (rq a74r4) (.seq (.cond (.g 19) .skip (.exit 0)) (.seq (.block 1 (.seq (rq a74r5) (.seq (rq a74r6) (.cond (.g 25) (.seq (rq a74r7) .ret) .skip)))) (rq a74r8))))
def a74r10 : Rg := [oL 27 (.mv (.g 0)), oL 28 (.indexStr (.l 27) (ci 0)), oL 29 (.bin .geq (.l 28) (.c (.int .u8 97))), oL 30 (.mv (.l 29)), oLt 31 (.mv (.g 0)) 30, oLt 32 (.indexStr (.l 31) (ci 0)) 30, oLt 33 (.bin .leq (.l 32) (.c (.int .u8 122))) 30, oL 34 (.pick (.l 30) (.l 33) cF), oL 35 (.mv (.l 34)), oLf 36 (.mv (.g 0)) 35, oLf 37 (.indexStr (.l 36) (ci 0)) 35, oLf 38 (.bin .geq (.l 37) (.c (.int .u8 65))) 35, oLf 39 (.mv (.l 38)) 35, oLt 40 (.mv (.g 0)) 39, oLt 41 (.indexStr (.l 40) (ci 0)) 39, oLt 42 (.bin .leq (.l 41) (.c (.int .u8 90))) 39, oLf 43 (.pick (.l 39) (.l 42) cF) 35, oL 44 (.pick (.l 35) cT (.l 43)), oT 2 (.mv (.l 44))]
def a74b : ACode := (.seq (rq a74r0) (.seq (.seq (rq a74r1) (.cond (.g 15) (.seq (rq a74r2) .ret) .skip)) (.seq (.seq (rq a74r3) (.block 0 (.loop a74l9))) (.seq (rq a74r10) .ret))))
def a74 : AFun := ⟨1, 45, a74b, [.tmp (true, 2)]⟩
theorem c74 : compileFun Tryz.prog [0, 2, 3, 15, 17, 18, 19, 25] Tryz.f74 = some a74 := by kernel_rfl
/- damask/term.IsWord -/
def a107r0 : Rg := [oT 2 (.mv cF)]
def a107r1 : Rg := [oL 3 (.mv (.g 0)), oL 4 (.bin .eql (.l 3) (.c (.str ⟨#[108, 101, 116]⟩))), oL 5 (.mv (.l 4)), oLf 6 (.mv (.g 0)) 5, oLf 7 (.bin .eql (.l 6) (.c (.str ⟨#[105, 110]⟩))) 5, oL 8 (.pick (.l 5) cT (.l 7)), oL 9 (.mv (.l 8)), oLf 10 (.mv (.g 0)) 9, oLf 11 (.bin .eql (.l 10) (.c (.str ⟨#[99, 97, 115, 101]⟩))) 9, oL 12 (.pick (.l 9) cT (.l 11)), oL 13 (.mv (.l 12)), oLf 14 (.mv (.g 0)) 13, oLf 15 (.bin .eql (.l 14) (.c (.str ⟨#[112, 114, 105, 109]⟩))) 13, oL 16 (.pick (.l 13) cT (.l 15)), oT 2 (.mv (.l 16))]
def a107b : ACode := (.seq (rq a107r0) (.seq (rq a107r1) .ret))
def a107 : AFun := ⟨1, 17, a107b, [.tmp (true, 2)]⟩
theorem c107 : compileFun Tryz.prog [0, 2] Tryz.f107 = some a107 := by kernel_rfl
/- damask/term.IsByte -/
def a108r0 : Rg := [oT 2 (.mv cF)]
def a108r1 : Rg := [oT 3 (.mv (.g 0))]
def a108r2 : Rg := [oL 5 (.bin .eql (.g 3) (.c (.int .u8 40))), oT 4 (.mv (.l 5))]
def a108r3 : Rg := [oL 6 (.bin .eql (.g 3) (.c (.int .u8 41))), oT 4 (.mv (.l 6))]
def a108r4 : Rg := [oL 7 (.bin .eql (.g 3) (.c (.int .u8 91))), oT 4 (.mv (.l 7))]
def a108r5 : Rg := [oL 8 (.bin .eql (.g 3) (.c (.int .u8 93))), oT 4 (.mv (.l 8))]
def a108r6 : Rg := [oL 9 (.bin .eql (.g 3) (.c (.int .u8 123))), oT 4 (.mv (.l 9))]
def a108r7 : Rg := [oL 10 (.bin .eql (.g 3) (.c (.int .u8 125))), oT 4 (.mv (.l 10))]
def a108r8 : Rg := [oT 2 (.mv cF)]
def a108r9 : Rg := [oL 11 (.mv (.g 0)), oL 12 (.bin .geq (.l 11) (.c (.int .u8 33))), oL 13 (.mv (.l 12)), oLt 14 (.mv (.g 0)) 13, oLt 15 (.bin .leq (.l 14) (.c (.int .u8 126))) 13, oL 16 (.pick (.l 13) (.l 15) cF), oT 2 (.mv (.l 16))]
def a108b : ACode := (.seq (rq a108r0) (.seq (.seq (rq a108r1) (.block 0 (.seq (.seq (rq a108r2) (.cond (.g 4) .skip (.seq (rq a108r3) (.cond (.g 4) .skip (.seq (rq a108r4) (.cond (.g 4) .skip (.seq (rq a108r5) (.cond (.g 4) .skip (.seq (rq a108r6) (.cond (.g 4) .skip (rq a108r7))))))))))) (.cond (.g 4) (.seq (rq a108r8) .ret) .skip)))) (.seq (rq a108r9) .ret)))
def a108 : AFun := ⟨1, 17, a108b, [.tmp (true, 2)]⟩
theorem c108 : compileFun Tryz.prog [0, 2, 3, 4] Tryz.f108 = some a108 := by kernel_rfl
end Go.AL.Dm
namespace Go.AL.Dm
open Go Go.Proofs
theorem mixed : Tryz.prog.follows .mixedOrders = true := by kernel_rfl
mutual
def wt : Pl → Int → Int → Int
 | .mk _ _ _ args alts, most, deep => if deep = 0 then most + 1 else wta alts most deep (wts args most deep 1)
def wts : List Pl → Int → Int → Int → Int
 | [], _, _, n => n
 | t :: ts, most, deep, n => if n ≤ most then wts ts most deep (n + wt t (most - n) (deep - 1)) else n
def wta : List (Hd × Pl) → Int → Int → Int → Int
 | [], _, _, n => n
 | (_, b) :: ts, most, deep, n => if n ≤ most then wta ts most deep (n + 1 + wt b (most - n) (deep - 1)) else n
end
theorem wt_eq (t : Pl) (most deep : Int) : wt t most deep = if deep = 0 then most + 1 else wta t.alts most deep (wts t.args most deep 1) := by cases t; rw [wt]; rfl
theorem wts_bound : ∀ (ts : List Pl) (most deep n : Int), (∀ x ∈ ts, ∀ most deep, 0 ≤ most → 0 ≤ deep → 1 ≤ wt x most deep ∧ wt x most deep ≤ most + 1 + deep) → 0 ≤ most → 1 ≤ deep → 1 ≤ n → n ≤ most + 1 + deep →
  1 ≤ wts ts most deep n ∧ wts ts most deep n ≤ most + 1 + deep
 | [], most, deep, n, _, _, _, h1, h2 => ⟨h1, h2⟩
 | t :: ts, most, deep, n, h, hm, hd, h1, h2 => by
  simp only [wts]
  split
  ·obtain ⟨k1, k2⟩ := h t (by simp) (most - n) (deep - 1) (by omega) (by omega)
   exact wts_bound ts most deep _ (fun x hx => h x (by simp [hx])) hm hd (by omega) (by omega)
  ·exact ⟨h1, h2⟩
theorem wta_bound : ∀ (ts : List (Hd × Pl)) (most deep n : Int), (∀ x ∈ ts, ∀ most deep, 0 ≤ most → 0 ≤ deep → 1 ≤ wt x.2 most deep ∧ wt x.2 most deep ≤ most + 1 + deep) → 0 ≤ most → 1 ≤ deep → 1 ≤ n → n ≤ most + 1 + deep →
  1 ≤ wta ts most deep n ∧ wta ts most deep n ≤ most + 1 + deep
 | [], most, deep, n, _, _, _, h1, h2 => ⟨h1, h2⟩
 | (hh, b) :: ts, most, deep, n, h, hm, hd, h1, h2 => by
  simp only [wta]
  split
  ·obtain ⟨k1, k2⟩ := h (hh, b) (by simp) (most - n) (deep - 1) (by omega) (by omega)
   simp only at k1 k2
   exact wta_bound ts most deep _ (fun x hx => h x (by simp [hx])) hm hd (by omega) (by omega)
  ·exact ⟨h1, h2⟩
theorem wt_bound (t : Pl) : ∀ most deep, 0 ≤ most → 0 ≤ deep → 1 ≤ wt t most deep ∧ wt t most deep ≤ most + 1 + deep := by
 induction t using Pl.ind with
 | h t ih1 ih2 =>
  intro most deep hm hd
  rw [wt_eq]
  split
  ·omega
  ·obtain ⟨k1, k2⟩ := wts_bound t.args most deep 1 ih1 hm (by omega) (by omega) (by omega)
   exact wta_bound t.alts most deep _ ih2 hm (by omega) k1 k2
def C38 (t : Pl) : Prop := ∀ most deep : Int, 0 ≤ most → most ≤ 10000 → 0 ≤ deep → deep ≤ 1000 → PureC Tryz.prog 38 [t.av, .int .i64 most, .int .i64 deep] (.int .i64 (wt t most deep))
def I38 (t : Pl) (most deep : Int) (s : St) (m : Nat) (g : Env) (s1 : St) : Prop :=
 ∃ (i : Nat) (acc : Int), i ≤ t.args.length ∧ m = t.args.length - i ∧ (i : Int) + 1 ≤ acc ∧ acc ≤ most + 1 + deep ∧ wts (t.args.drop i) most deep acc = wts t.args most deep 1 ∧
  g.get 1 = .int .i64 most ∧ g.get 2 = .int .i64 deep ∧ g.get 3 = .ptr s.nx 0 ∧ g.get 7 = .int .i64 acc ∧ g.get 8 = .int .i64 i ∧ s1.m s.nx = some (.box t.av.cells) ∧ Kept s s1 ∧ s.nx < s1.nx
def J38 (t : Pl) (most deep : Int) (s : St) (m : Nat) (g : Env) (s1 : St) : Prop :=
 ∃ (i : Nat) (acc : Int), i ≤ t.alts.length ∧ m = t.alts.length - i ∧ (i : Int) + 1 ≤ acc ∧ acc ≤ most + 1 + deep ∧ wta (t.alts.drop i) most deep acc = wta t.alts most deep (wts t.args most deep 1) ∧
  g.get 1 = .int .i64 most ∧ g.get 2 = .int .i64 deep ∧ g.get 3 = .ptr s.nx 0 ∧ g.get 7 = .int .i64 acc ∧ g.get 9 = .int .i64 i ∧ s1.m s.nx = some (.box t.av.cells) ∧ Kept s s1 ∧ s.nx < s1.nx
theorem getD_map {α : Type} (f : α → AV) (l : List α) (i : Nat) (h : i < l.length) : (l.map f).getD i .any = f l[i] := by simp [h]
theorem p38 (t : Pl) : C38 t := by
 induction t using Pl.ind with
 | h t ih1 ih2 =>
  intro most deep hm hm2 hd hd2
  refine PureC.intro fun s => fun_sound mixed Tryz.func38 Tryz.call38 c38 rfl (awpFun_go _ _ _ _ ?_)
  simp -implicitDefEqProofs (disch:=first|omega|simp only[nx4]<;>omega|fail) [a38, a38b, a38r0, a38r1, a38r2]
  refine ⟨fun h0 => ?_, fun h0 => ?_⟩
  ·have w1 : IntKind.i64.wrap (most + 1) = most + 1 := wrap64 (by omega) (by omega)
   simp -implicitDefEqProofs (disch:=first|omega|simp only[nx4]<;>omega|fail) [a38r3, w1, wt_eq, h0]
  simp -implicitDefEqProofs (disch:=first|omega|simp only[nx4]<;>omega|fail) [a38r4]
  refine go_loop (I38 t most deep s) t.args.length ⟨0, 1, by omega, by omega, by omega, by omega, by simp, ?_, ?_, ?_, ?_, ?_, ?_, ?_, ?_⟩ ?_
  iterate 8 (simp -implicitDefEqProofs (disch:=first|omega|simp only[nx4]<;>omega|fail))
  ·rintro m g s1 ⟨i, acc, hi, rfl, h1, h2, hw, e1, e2, e3, e7, e8, hb, hk, hn⟩
   by_cases hgo : i < t.args.length ∧ acc ≤ most
   ·obtain ⟨hlt, hac⟩ := hgo
    have hlt' : (i : Int) < t.args.length := by omega
    have w1 : IntKind.i64.wrap (most - acc) = most - acc := wrap64 (by omega) (by omega)
    have w2 : IntKind.i64.wrap (deep - 1) = deep - 1 := wrap64 (by omega) (by omega)
    have w3 := wrapS (i := i) (by omega)
    obtain ⟨b1, b2⟩ := wt_bound t.args[i] (most - acc) (deep - 1) (by omega) (by omega)
    have w4 : IntKind.i64.wrap (acc + wt t.args[i] (most - acc) (deep - 1)) = acc + wt t.args[i] (most - acc) (deep - 1) := wrap64 (by omega) (by omega)
    simp -implicitDefEqProofs (disch:=first|omega|simp only[nx4]<;>omega|fail) [a38l8, a38r5, a38r6, a38r7, e1, e2, e3, e7, e8, hb, hlt', hac, getD_map _ _ _ hlt, w1, w2]
    refine go_pure (ih1 _ (List.getElem_mem hlt) _ _ (by omega) (by omega) (by omega) (by omega)) fun mm1 hm1 => ?_
    try simp only [nx4] at hm1
    simp -implicitDefEqProofs (disch:=first|omega|simp only[nx4]<;>omega|fail) [e8, w3, w4]
    refine go_next (t.args.length - (i + 1)) (by omega) ⟨i + 1, _, by omega, rfl, ?_, ?_, ?_, ?_, ?_, ?_, rfl, rfl, ?_, ?_, ?_⟩
    iterate 2 (omega)
    ·rw [List.drop_eq_getElem_cons hlt, wts, if_pos hac] at hw
     exact hw
    all_goals (try simp -implicitDefEqProofs (disch:=first|omega|simp only[nx4]<;>omega|fail) [e1, e2, e3, hb, hk])
    all_goals omega
   ·have hfin : wts t.args most deep 1 = acc := by
     rw [← hw]
     by_cases hlt : i < t.args.length
     ·have : ¬ acc ≤ most := fun h => hgo ⟨hlt, h⟩
      rw [List.drop_eq_getElem_cons hlt, wts, if_neg this]
     ·rw [List.drop_eq_nil_of_le (by omega), wts]
    have hex : go (awp Tryz.prog (.seq (.seq (.reg false a38r9) (.block 2 (.loop a38l13))) (.seq (.reg false a38r14) .ret)) (finQ [.tmp (true, 6)] fun r' s' => wk r' (.int .i64 (wt t most deep)) ∧ Kept s s') ((23, .bool false) :: g) s1) := by
     simp -implicitDefEqProofs (disch:=first|omega|simp only[nx4]<;>omega|fail) [a38r9]
     refine go_loop (J38 t most deep s) t.alts.length ⟨0, acc, by omega, by omega, by omega, by omega, by simp [hfin], ?_, ?_, ?_, ?_, ?_, ?_, ?_, ?_⟩ ?_
     all_goals (try simp -implicitDefEqProofs (disch:=first|omega|simp only[nx4]<;>omega|fail) [e1, e2, e3, e7, hb, hk])
     ·exact hn
     rintro m g s1 ⟨i, acc, hi, rfl, h1, h2, hw, e1, e2, e3, e7, e8, hb, hk, hn⟩
     by_cases hgo : i < t.alts.length ∧ acc ≤ most
     ·obtain ⟨hlt, hac⟩ := hgo
      have hlt' : (i : Int) < t.alts.length := by omega
      have w1 : IntKind.i64.wrap (most - acc) = most - acc := wrap64 (by omega) (by omega)
      have w2 : IntKind.i64.wrap (deep - 1) = deep - 1 := wrap64 (by omega) (by omega)
      have w3 := wrapS (i := i) (by omega)
      have w5 : IntKind.i64.wrap (acc + 1) = acc + 1 := wrap64 (by omega) (by omega)
      obtain ⟨b1, b2⟩ := wt_bound t.alts[i].2 (most - acc) (deep - 1) (by omega) (by omega)
      have w4 : IntKind.i64.wrap (acc + 1 + wt t.alts[i].2 (most - acc) (deep - 1)) = acc + 1 + wt t.alts[i].2 (most - acc) (deep - 1) := wrap64 (by omega) (by omega)
      simp -implicitDefEqProofs (disch:=first|omega|simp only[nx4]<;>omega|fail) [a38l13, a38r10, a38r11, a38r12, e1, e2, e3, e7, e8, hb, hlt', hac, getD_map _ _ _ hlt, w1, w2, w5]
      refine go_pure (ih2 _ (List.getElem_mem hlt) _ _ (by omega) (by omega) (by omega) (by omega)) fun mm2 hm2 => ?_
      try simp only [nx4] at hm2
      simp -implicitDefEqProofs (disch:=first|omega|simp only[nx4]<;>omega|fail) [e8, w3, w4]
      refine go_next (t.alts.length - (i + 1)) (by omega) ⟨i + 1, _, by omega, rfl, ?_, ?_, ?_, ?_, ?_, ?_, rfl, rfl, ?_, ?_, ?_⟩
      iterate 2 (omega)
      ·rw [List.drop_eq_getElem_cons hlt, wta, if_pos hac] at hw
       exact hw
      all_goals (try simp -implicitDefEqProofs (disch:=first|omega|simp only[nx4]<;>omega|fail) [e1, e2, e3, hb, hk])
      all_goals omega
     ·have hfin : wt t most deep = acc := by
       rw [wt_eq, if_neg h0, ← hw]
       by_cases hlt : i < t.alts.length
       ·have : ¬ acc ≤ most := fun h => hgo ⟨hlt, h⟩
        rw [List.drop_eq_getElem_cons hlt, wta, if_neg this]
       ·rw [List.drop_eq_nil_of_le (by omega), wta]
      by_cases hlt : (i : Int) < t.alts.length
      ·have hac : ¬ acc ≤ most := fun h => hgo ⟨by omega, h⟩
       simp -implicitDefEqProofs (disch:=first|omega|simp only[nx4]<;>omega|fail) [a38l13, a38r10, a38r14, e1, e2, e3, e7, e8, hb, hlt, hac, hfin, hk]
      ·simp -implicitDefEqProofs (disch:=first|omega|simp only[nx4]<;>omega|fail) [a38l13, a38r10, a38r14, e1, e2, e3, e7, e8, hb, hlt, hfin, hk]
    by_cases hlt : (i : Int) < t.args.length
    ·have hac : ¬ acc ≤ most := fun h => hgo ⟨by omega, h⟩
     simp -implicitDefEqProofs (disch:=first|omega|simp only[nx4]<;>omega|fail) [a38l8, a38r5, e1, e2, e3, e7, e8, hb, hlt, hac]
     exact hex
    ·simp -implicitDefEqProofs (disch:=first|omega|simp only[nx4]<;>omega|fail) [a38l8, a38r5, e1, e2, e3, e7, e8, hb, hlt]
     exact hex
theorem p14 (t : Pl) (most : Int) (hm : 0 ≤ most) (hm2 : most ≤ 10000) : PureC Tryz.prog 14 [t.av, .int .i64 most] (.int .i64 (wt t most 100)) := by
 refine PureC.intro fun s => fun_sound mixed Tryz.func14 Tryz.call14 c14 rfl (awpFun_go _ _ _ _ ?_)
 simp -implicitDefEqProofs (disch:=first|omega|simp only[nx4]<;>omega|fail) [a14, a14b, a14r0, a14r1]
 refine go_pure (p38 t most 100 hm hm2 (by omega) (by omega)) fun mm3 hm3 => ?_
 try simp only [nx4] at hm3
 simp -implicitDefEqProofs (disch:=first|omega|simp only[nx4]<;>omega|fail)
def wgs : List Gl → Int → Int → Int
 | [], _, n => n
 | t :: ts, most, n => if n ≤ most then wgs ts most (n + wt t.body most 100) else n
def I33 (p : List Gl) (most : Int) (s : St) (m : Nat) (g : Env) (s1 : St) : Prop :=
 ∃ (i : Nat) (acc : Int), i ≤ p.length ∧ m = p.length - i ∧ (p.length : Int) + i ≤ acc ∧ (acc ≤ most + (most + 101) ∨ acc = p.length) ∧ wgs (p.drop i) most acc = wgs p most p.length ∧
  g.get 0 = .list 6 .none (p.map Gl.av) ∧ g.get 1 = .int .i64 most ∧ g.get 5 = .int .i64 acc ∧ g.get 6 = .int .i64 i ∧ Kept s s1
theorem p33 (p : List Gl) (most : Int) (hm : 0 ≤ most) (hm2 : most ≤ 10000) : PureC Tryz.prog 33 [.list 6 .none (p.map Gl.av), .int .i64 most] (.int .i64 (wgs p most p.length)) := by
 refine PureC.intro fun s => fun_sound mixed Tryz.func33 Tryz.call33 c33 rfl (awpFun_go _ _ _ _ ?_)
 simp -implicitDefEqProofs (disch:=first|omega|simp only[nx4]<;>omega|fail) [a33, a33b, a33r0, a33r1, a33r2]
 refine go_loop (I33 p most s) p.length ⟨0, p.length, by omega, by omega, by omega, .inr rfl, by simp, ?_, ?_, ?_, ?_, ?_⟩ ?_
 iterate 5 (simp -implicitDefEqProofs (disch:=first|omega|simp only[nx4]<;>omega|fail))
 rintro m g s1 ⟨i, acc, hi, rfl, h1, h2, hw, e0, e1, e5, e6, hk⟩
 by_cases hlt : i < p.length
 ·have hlt' : (i : Int) < p.length := by omega
  by_cases hac : acc ≤ most
  ·have w3 := wrapS (i := i) (by omega)
   obtain ⟨b1, b2⟩ := wt_bound p[i].body most 100 (by omega) (by omega)
   have w4 : IntKind.i64.wrap (acc + wt p[i].body most 100) = acc + wt p[i].body most 100 := wrap64 (by omega) (by omega)
   simp -implicitDefEqProofs (disch:=first|omega|simp only[nx4]<;>omega|fail) [a33l6, a33r3, a33r4, a33r5, e0, e1, e5, e6, hlt', hac, getD_map _ _ _ hlt]
   refine go_pure (p14 p[i].body most hm hm2) fun mm4 hm4 => ?_
   try simp only [nx4] at hm4
   simp -implicitDefEqProofs (disch:=first|omega|simp only[nx4]<;>omega|fail) [e6, w3, w4]
   refine go_next (p.length - (i + 1)) (by omega) ⟨i + 1, _, by omega, rfl, ?_, ?_, ?_, ?_, ?_, rfl, rfl, ?_⟩
   ·omega
   ·omega
   ·rw [List.drop_eq_getElem_cons hlt, wgs, if_pos hac] at hw
    exact hw
   all_goals (try simp -implicitDefEqProofs (disch:=first|omega|simp only[nx4]<;>omega|fail) [e0, e1, hk])
  ·have hfin : wgs p most p.length = acc := by rw [← hw, List.drop_eq_getElem_cons hlt, wgs, if_neg hac]
   simp -implicitDefEqProofs (disch:=first|omega|simp only[nx4]<;>omega|fail) [a33l6, a33r3, a33r7, e0, e1, e5, e6, hlt', hac, hfin, hk]
 ·have hlt' : ¬ (i : Int) < p.length := by omega
  have hfin : wgs p most p.length = acc := by rw [← hw, List.drop_eq_nil_of_le (by omega), wgs]
  simp -implicitDefEqProofs (disch:=first|omega|simp only[nx4]<;>omega|fail) [a33l6, a33r3, a33r7, e0, e1, e5, e6, hlt', hfin, hk]
def fewD (p : List Gl) (t : Pl) : Bool := decide (wgs p 3000 p.length ≤ 3000) && decide (wt t 3000 100 ≤ 3000)
theorem p8 (p : List Gl) (t : Pl) : PureC Tryz.prog 8 [.list 6 .none (p.map Gl.av), t.av] (.bool (fewD p t)) := by
 refine PureC.intro fun s => fun_sound mixed Tryz.func8 Tryz.call8 c8 rfl (awpFun_go _ _ _ _ ?_)
 simp -implicitDefEqProofs (disch:=first|omega|simp only[nx4]<;>omega|fail) [a8, a8b, a8r0, a8r1]
 refine go_pure (p33 p 3000 (by omega) (by omega)) fun m1 hm1 => ?_
 by_cases h1 : wgs p 3000 p.length ≤ 3000
 ·simp -implicitDefEqProofs (disch:=first|omega|simp only[nx4]<;>omega|fail) [h1]
  refine go_pure (p14 t 3000 (by omega) (by omega)) fun m2 hm2 => ?_
  simp -implicitDefEqProofs (disch:=first|omega|simp only[nx4]<;>omega|fail) [fewD, h1]
 ·simp -implicitDefEqProofs (disch:=first|omega|simp only[nx4]<;>omega|fail) [h1, fewD]
def byteN (s : ByteArray) (i : Nat) : Int := ((s.data[i]?.getD 0).toNat : Int)
theorem byteN_def (s : ByteArray) (i : Nat) : ((s.data[i]?.getD 0).toNat : Int) = byteN s i := rfl
def hasB : List UInt8 → Int → Bool
 | [], _ => false
 | b :: r, c => decide ((b.toNat : Int) = c) || hasB r c
def I147 (t : ByteArray) (c : Int) (s : St) (m : Nat) (g : Env) (s1 : St) : Prop :=
 ∃ i : Nat, i ≤ t.size ∧ m = t.size - i ∧ hasB (t.data.toList.drop i) c = hasB t.data.toList c ∧ g.get 0 = .str t ∧ g.get 1 = .int .u8 c ∧ g.get 5 = .int .i64 i ∧ Kept s s1
theorem size_list (t : ByteArray) : t.data.toList.length = t.size := rfl
theorem p147 (t : ByteArray) (c : Int) (ht : t.size ≤ 1000000) : PureC Tryz.prog 147 [.str t, .int .u8 c] (.bool (hasB t.data.toList c)) := by
 refine PureC.intro fun s => fun_sound mixed Tryz.func147 Tryz.call147 c147 rfl (awpFun_go _ _ _ _ ?_)
 simp -implicitDefEqProofs (disch:=first|omega|simp only[nx4]<;>omega|fail) [a147, a147b, a147r0, a147r1]
 refine go_loop (I147 t c s) t.size ⟨0, by omega, by omega, by simp, ?_, ?_, ?_, ?_⟩ ?_
 iterate 4 (simp -implicitDefEqProofs (disch:=first|omega|simp only[nx4]<;>omega|fail))
 rintro m g s1 ⟨i, hi, rfl, hw, e0, e1, e5, hk⟩
 by_cases hlt : i < t.size
 ·have hlt' : (i : Int) < t.size := by omega
  have hl2 : i < t.data.toList.length := hlt
  have w3 := wrapS (i := i) (by omega)
  rw [List.drop_eq_getElem_cons hl2, hasB] at hw
  simp only [Array.getElem_toList] at hw
  simp -implicitDefEqProofs (disch:=first|omega|simp only[nx4]<;>omega|fail) [a147l6, a147r2, a147r3, a147r4, a147r5, e0, e1, e5, hlt', w3]
  refine ⟨fun h => ?_, fun h => ?_⟩
  ·refine ⟨?_, hk⟩
   rw [← hw]; simp [h]
  ·refine go_next (t.size - (i + 1)) (by omega) ⟨i + 1, by omega, rfl, ?_, ?_, ?_, rfl, hk⟩
   ·rw [← hw]; simp [h]
   ·simp -implicitDefEqProofs (disch:=first|omega|simp only[nx4]<;>omega|fail) [e0]
   ·simp -implicitDefEqProofs (disch:=first|omega|simp only[nx4]<;>omega|fail) [e1]
 ·have hlt' : ¬ (i : Int) < t.size := by omega
  have hl2 : t.data.toList.length ≤ i := by rw [size_list]; omega
  rw [List.drop_eq_nil_of_le hl2, hasB] at hw
  simp -implicitDefEqProofs (disch:=first|omega|simp only[nx4]<;>omega|fail) [a147l6, a147r2, a147r7, e0, e1, e5, hlt', hk, ← hw]
def brk (c : Int) : Bool := decide (c = 40) || decide (c = 41) || decide (c = 91) || decide (c = 93) || decide (c = 123) || decide (c = 125)
theorem brk_eq (c : Int) : hasB [40, 41, 91, 93, 123, 125] c = brk c := by
 simp only [hasB, brk, Bool.or_false]
 simp [eq_comm, Bool.or_assoc]
theorem p106 (c : Int) : PureC Tryz.prog 106 [.int .u8 c] (.bool (brk c)) := by
 refine PureC.intro fun s => fun_sound mixed Tryz.func106 Tryz.call106 c106 rfl (awpFun_go _ _ _ _ ?_)
 simp -implicitDefEqProofs (disch:=first|omega|simp only[nx4]<;>omega|fail) [a106, a106b, a106r0, a106r1]
 refine go_pure (p147 ⟨#[40, 41, 91, 93, 123, 125]⟩ c (by decide)) fun mm1 hm1 => ?_
 try simp only [nx4] at hm1
 simp -implicitDefEqProofs (disch:=first|omega|simp only[nx4]<;>omega|fail) [brk_eq]
def isB (c : Int) : Bool := decide (33 ≤ c) && decide (c ≤ 126) && !brk c
theorem p73 (c : Int) : PureC Tryz.prog 73 [.int .u8 c] (.bool (isB c)) := by
 refine PureC.intro fun s => fun_sound mixed Tryz.func73 Tryz.call73 c73 rfl (awpFun_go _ _ _ _ ?_)
 by_cases h1 : 33 ≤ c
 ·by_cases h2 : c ≤ 126
  ·simp -implicitDefEqProofs (disch:=first|omega|simp only[nx4]<;>omega|fail) [a73, a73b, a73r0, a73r1, h1, h2, isB]
   refine go_pure (p106 c) fun mm2 hm2 => ?_
   try simp only [nx4] at hm2
   simp -implicitDefEqProofs (disch:=first|omega|simp only[nx4]<;>omega|fail)
  ·simp -implicitDefEqProofs (disch:=first|omega|simp only[nx4]<;>omega|fail) [a73, a73b, a73r0, a73r1, h1, h2, isB]
 ·simp -implicitDefEqProofs (disch:=first|omega|simp only[nx4]<;>omega|fail) [a73, a73b, a73r0, a73r1, h1, isB]
def ltr (c : Int) : Bool := decide (97 ≤ c ∧ c ≤ 122) || decide (65 ≤ c ∧ c ≤ 90)
theorem p72 (c : Int) : PureC Tryz.prog 72 [.int .u8 c] (.bool (ltr c)) := by
 refine PureC.intro fun s => fun_sound mixed Tryz.func72 Tryz.call72 c72 rfl (awpFun_go _ _ _ _ ?_)
 by_cases h1 : 97 ≤ c <;> by_cases h2 : c ≤ 122 <;> by_cases h3 : 65 ≤ c <;> by_cases h4 : c ≤ 90 <;> first | omega | simp -implicitDefEqProofs (disch:=first|omega|simp only[nx4]<;>omega|fail) [a72, a72b, a72r0, a72r1, h1, h2, h3, h4, ltr]
def wLet : ByteArray := ⟨#[108, 101, 116]⟩
def wIn : ByteArray := ⟨#[105, 110]⟩
def wCase : ByteArray := ⟨#[99, 97, 115, 101]⟩
def wPrim : ByteArray := ⟨#[112, 114, 105, 109]⟩
def wrd (t : ByteArray) : Bool := decide (t = wLet) || decide (t = wIn) || decide (t = wCase) || decide (t = wPrim)
theorem p71 (t : ByteArray) : PureC Tryz.prog 71 [.str t] (.bool (wrd t)) := by
 refine PureC.intro fun s => fun_sound mixed Tryz.func71 Tryz.call71 c71 rfl (awpFun_go _ _ _ _ ?_)
 simp -implicitDefEqProofs (disch:=first|omega|simp only[nx4]<;>omega|fail) [a71, a71b, a71r0, a71r1]
 rw [← wLet, ← wIn, ← wCase, ← wPrim]
 by_cases h1 : t = wLet
 ·simp -implicitDefEqProofs (disch:=first|omega|simp only[nx4]<;>omega|fail) [h1, wrd]
 by_cases h2 : t = wIn
 ·simp -implicitDefEqProofs (disch:=first|omega|simp only[nx4]<;>omega|fail) [h1, h2, wrd]
 by_cases h3 : t = wCase
 ·simp -implicitDefEqProofs (disch:=first|omega|simp only[nx4]<;>omega|fail) [h1, h2, h3, wrd]
 simp -implicitDefEqProofs (disch:=first|omega|simp only[nx4]<;>omega|fail) [h1, h2, h3, wrd]
theorem p107 (t : ByteArray) : PureC Tryz.prog 107 [.str t] (.bool (wrd t)) := by
 refine PureC.intro fun s => fun_sound mixed Tryz.func107 Tryz.call107 c107 rfl (awpFun_go _ _ _ _ ?_)
 simp -implicitDefEqProofs (disch:=first|omega|simp only[nx4]<;>omega|fail) [a107, a107b, a107r0, a107r1]
 rw [← wLet, ← wIn, ← wCase, ← wPrim]
 by_cases h1 : t = wLet
 ·simp -implicitDefEqProofs (disch:=first|omega|simp only[nx4]<;>omega|fail) [h1, wrd]
 by_cases h2 : t = wIn
 ·simp -implicitDefEqProofs (disch:=first|omega|simp only[nx4]<;>omega|fail) [h1, h2, wrd]
 by_cases h3 : t = wCase
 ·simp -implicitDefEqProofs (disch:=first|omega|simp only[nx4]<;>omega|fail) [h1, h2, h3, wrd]
 simp -implicitDefEqProofs (disch:=first|omega|simp only[nx4]<;>omega|fail) [h1, h2, h3, wrd]
theorem p108 (c : Int) : PureC Tryz.prog 108 [.int .u8 c] (.bool (isB c)) := by
 refine PureC.intro fun s => fun_sound mixed Tryz.func108 Tryz.call108 c108 rfl (awpFun_go _ _ _ _ ?_)
 by_cases h : brk c = true
 ·simp only [brk, Bool.or_eq_true, decide_eq_true_eq] at h
  rcases h with ((((h | h) | h) | h) | h) | h <;> subst h <;> simp -implicitDefEqProofs (disch:=first|omega|simp only[nx4]<;>omega|fail) [a108, a108b, a108r0, a108r1, a108r2, a108r3, a108r4, a108r5, a108r6, a108r7, a108r8, a108r9, isB, brk]
 ·have h' := h
  simp only [brk, Bool.or_eq_true, decide_eq_true_eq, not_or] at h'
  obtain ⟨⟨⟨⟨⟨k1, k2⟩, k3⟩, k4⟩, k5⟩, k6⟩ := h'
  have hb : brk c = false := by simpa using h
  by_cases h1 : 33 ≤ c <;> by_cases h2 : c ≤ 126 <;> simp -implicitDefEqProofs (disch:=first|omega|simp only[nx4]<;>omega|fail) [a108, a108b, a108r0, a108r1, a108r2, a108r3, a108r4, a108r5, a108r6, a108r7, a108r8, a108r9, k1, k2, k3, k4, k5, k6, h1, h2, isB, hb]
def nm (t : ByteArray) : Bool := decide (1 ≤ t.size) && decide (t.size ≤ 60) && !wrd t && ltr (byteN t 0) && t.data.toList.all fun b => isB (b.toNat : Int)
theorem byte0 (t : ByteArray) (i : Nat) (h : i < t.size) : byteN t i = (t.data[i].toNat : Int) := by
 have : i < t.data.size := h
 unfold byteN
 rw [Array.getElem?_eq_getElem this]
 rfl
def I34 (t : ByteArray) (s : St) (m : Nat) (g : Env) (s1 : St) : Prop :=
 ∃ i : Nat, i ≤ t.size ∧ m = t.size - i ∧ ((t.data.toList.drop i).all fun b => isB (b.toNat : Int)) = (t.data.toList.all fun b => isB (b.toNat : Int)) ∧ g.get 0 = .str t ∧ g.get 3 = .int .i64 i ∧ Kept s s1
theorem p34 (t : ByteArray) : PureC Tryz.prog 34 [.str t] (.bool (nm t)) := by
 refine PureC.intro fun s => fun_sound mixed Tryz.func34 Tryz.call34 c34 rfl (awpFun_go _ _ _ _ ?_)
 by_cases h1 : (t.size : Int) < 1
 ·have : ¬ 1 ≤ t.size := by omega
  simp -implicitDefEqProofs (disch:=first|omega|simp only[nx4]<;>omega|fail) [a34, a34b, a34r0, a34r1, a34r2, h1, nm, this]
 by_cases h2 : (60 : Int) < t.size
 ·have : ¬ t.size ≤ 60 := by omega
  simp -implicitDefEqProofs (disch:=first|omega|simp only[nx4]<;>omega|fail) [a34, a34b, a34r0, a34r1, a34r2, h1, h2, nm, this]
 simp -implicitDefEqProofs (disch:=first|omega|simp only[nx4]<;>omega|fail) [a34, a34b, a34r0, a34r1, h1, h2]
 refine go_pure (p71 t) fun mm3 hm3 => ?_
 try simp only [nx4] at hm3
 simp -implicitDefEqProofs (disch:=first|omega|simp only[nx4]<;>omega|fail)
 cases hw : wrd t with
 | true => simp -implicitDefEqProofs (disch:=first|omega|simp only[nx4]<;>omega|fail) [a34r2, nm, hw]
 | false =>
  have h0 : 0 < t.size := by omega
  have k1 : 1 ≤ t.size := by omega
  have k2 : t.size ≤ 60 := by omega
  simp -implicitDefEqProofs (disch:=first|omega|simp only[nx4]<;>omega|fail) [h0]
  rw [byteN_def]
  refine go_pure (p72 (byteN t 0)) fun mm4 hm4 => ?_
  try simp only [nx4] at hm4
  simp -implicitDefEqProofs (disch:=first|omega|simp only[nx4]<;>omega|fail)
  cases hl : ltr (byteN t 0) with
  | false => simp -implicitDefEqProofs (disch:=first|omega|simp only[nx4]<;>omega|fail) [a34r2, nm, hw, hl]
  | true =>
   simp -implicitDefEqProofs (disch:=first|omega|simp only[nx4]<;>omega|fail) [a34r3]
   refine go_loop (I34 t s) t.size ⟨0, by omega, by omega, by simp, ?_, ?_, ?_⟩ ?_
   iterate 3 (simp -implicitDefEqProofs (disch:=first|omega|simp only[nx4]<;>omega|fail))
   rintro m g s1 ⟨i, hi, rfl, ha, e0, e3, hk⟩
   by_cases hlt : i < t.size
   ·have hlt' : (i : Int) < t.size := by omega
    have hl2 : i < t.data.toList.length := hlt
    have w3 := wrapS (i := i) (by omega)
    rw [List.drop_eq_getElem_cons hl2, List.all_cons] at ha
    simp only [Array.getElem_toList] at ha
    rw [← byte0 t i hlt] at ha
    simp -implicitDefEqProofs (disch:=first|omega|simp only[nx4]<;>omega|fail) [a34l8, a34r4, a34r5, e0, e3, hlt']
    rw [← byte0 t i hlt]
    refine go_pure (p73 (byteN t i)) fun mm5 hm5 => ?_
    try simp only [nx4] at hm5
    simp -implicitDefEqProofs (disch:=first|omega|simp only[nx4]<;>omega|fail)
    cases hb : isB (byteN t i) with
    | false =>
     rw [hb, Bool.false_and] at ha
     simp -implicitDefEqProofs (disch:=first|omega|simp only[nx4]<;>omega|fail) [a34r6, nm, ← ha, hk]
    | true =>
     rw [hb, Bool.true_and] at ha
     simp -implicitDefEqProofs (disch:=first|omega|simp only[nx4]<;>omega|fail) [a34r7, e3, w3]
     refine go_next (t.size - (i + 1)) (by omega) ⟨i + 1, by omega, rfl, ha, ?_, rfl, ?_⟩
     ·simp -implicitDefEqProofs (disch:=first|omega|simp only[nx4]<;>omega|fail) [e0]
     ·simp -implicitDefEqProofs (disch:=first|omega|simp only[nx4]<;>omega|fail) [hk]
   ·have hlt' : ¬ (i : Int) < t.size := by omega
    have hl2 : t.data.toList.length ≤ i := by rw [size_list]; omega
    rw [List.drop_eq_nil_of_le hl2, List.all_nil] at ha
    simp -implicitDefEqProofs (disch:=first|omega|simp only[nx4]<;>omega|fail) [a34l8, a34r4, a34r9, e0, e3, hlt', nm, hw, hl, k1, k2, hk, ← ha]
def I74 (t : ByteArray) (s : St) (m : Nat) (g : Env) (s1 : St) : Prop :=
 ∃ i : Nat, i ≤ t.size ∧ m = t.size - i ∧ ((t.data.toList.drop i).all fun b => isB (b.toNat : Int)) = (t.data.toList.all fun b => isB (b.toNat : Int)) ∧ g.get 0 = .str t ∧ g.get 17 = .int .i64 t.size ∧ g.get 18 = .int .i64 i ∧ Kept s s1
theorem p74 (t : ByteArray) : PureC Tryz.prog 74 [.str t] (.bool (nm t)) := by
 refine PureC.intro fun s => fun_sound mixed Tryz.func74 Tryz.call74 c74 rfl (awpFun_go _ _ _ _ ?_)
 by_cases h1 : (t.size : Int) < 1
 ·have : ¬ 1 ≤ t.size := by omega
  simp -implicitDefEqProofs (disch:=first|omega|simp only[nx4]<;>omega|fail) [a74, a74b, a74r0, a74r1, a74r2, h1, nm, this]
 by_cases h2 : (60 : Int) < t.size
 ·have : ¬ t.size ≤ 60 := by omega
  simp -implicitDefEqProofs (disch:=first|omega|simp only[nx4]<;>omega|fail) [a74, a74b, a74r0, a74r1, a74r2, h1, h2, nm, this]
 simp -implicitDefEqProofs (disch:=first|omega|simp only[nx4]<;>omega|fail) [a74, a74b, a74r0, a74r1, h1, h2]
 refine go_pure (p107 t) fun mm6 hm6 => ?_
 try simp only [nx4] at hm6
 simp -implicitDefEqProofs (disch:=first|omega|simp only[nx4]<;>omega|fail)
 cases hw : wrd t with
 | true => simp -implicitDefEqProofs (disch:=first|omega|simp only[nx4]<;>omega|fail) [a74r2, nm, hw]
 | false =>
  have h0 : 0 < t.size := by omega
  have k1 : 1 ≤ t.size := by omega
  have k2 : t.size ≤ 60 := by omega
  simp -implicitDefEqProofs (disch:=first|omega|simp only[nx4]<;>omega|fail) [a74r3]
  refine go_loop (I74 t s) t.size ⟨0, by omega, by omega, by simp, ?_, ?_, ?_, ?_⟩ ?_
  iterate 4 (simp -implicitDefEqProofs (disch:=first|omega|simp only[nx4]<;>omega|fail))
  rintro m g s1 ⟨i, hi, rfl, ha, e0, e17, e18, hk⟩
  by_cases hlt : i < t.size
  ·have hlt' : (i : Int) < t.size := by omega
   have hl2 : i < t.data.toList.length := hlt
   have w3 := wrapS (i := i) (by omega)
   rw [List.drop_eq_getElem_cons hl2, List.all_cons] at ha
   simp only [Array.getElem_toList] at ha
   rw [← byte0 t i hlt] at ha
   simp -implicitDefEqProofs (disch:=first|omega|simp only[nx4]<;>omega|fail) [a74l9, a74r4, a74r5, a74r6, e0, e17, e18, hlt']
   rw [← byte0 t i hlt]
   refine go_pure (p108 (byteN t i)) fun mm7 hm7 => ?_
   try simp only [nx4] at hm7
   simp -implicitDefEqProofs (disch:=first|omega|simp only[nx4]<;>omega|fail)
   cases hb : isB (byteN t i) with
   | false =>
    rw [hb, Bool.false_and] at ha
    simp -implicitDefEqProofs (disch:=first|omega|simp only[nx4]<;>omega|fail) [a74r7, nm, ← ha, hk]
   | true =>
    rw [hb, Bool.true_and] at ha
    simp -implicitDefEqProofs (disch:=first|omega|simp only[nx4]<;>omega|fail) [a74r8, e18, w3]
    refine go_next (t.size - (i + 1)) (by omega) ⟨i + 1, by omega, rfl, ha, ?_, ?_, rfl, ?_⟩
    ·simp -implicitDefEqProofs (disch:=first|omega|simp only[nx4]<;>omega|fail) [e0]
    ·simp -implicitDefEqProofs (disch:=first|omega|simp only[nx4]<;>omega|fail) [e17]
    ·simp -implicitDefEqProofs (disch:=first|omega|simp only[nx4]<;>omega|fail) [hk]
  ·have hlt' : ¬ (i : Int) < t.size := by omega
   have hl2 : t.data.toList.length ≤ i := by rw [size_list]; omega
   rw [List.drop_eq_nil_of_le hl2, List.all_nil] at ha
   have hd : ∀ x : Int, ltr x = (decide (97 ≤ x ∧ x ≤ 122) || decide (65 ≤ x ∧ x ≤ 90)) := fun _ => rfl
   simp -implicitDefEqProofs (disch:=first|omega|simp only[nx4]<;>omega|fail) [a74l9, a74r4, e0, e17, e18, hlt']
   have hbn : ((t.data[0]?.getD 0).toNat : Int) = byteN t 0 := rfl
   by_cases q1 : 97 ≤ byteN t 0 <;> by_cases q2 : byteN t 0 ≤ 122 <;> by_cases q3 : 65 ≤ byteN t 0 <;> by_cases q4 : byteN t 0 ≤ 90 <;>
    first
     | omega
     | simp -implicitDefEqProofs (disch:=first|omega|simp only[nx4]<;>omega|fail) [a74r10, e0, h0, byteN_def, q1, q2, q3, q4, nm, hw, hd, k1, k2, hk, ← ha]
end Go.AL.Dm
namespace Go.AL.Dm
open Go.Proofs
/- (*damask/term.Counter).well -/
def a82r0 : Rg := [oT 4 (.box (.g 1)), oT 6 (.mv cF)]
def a82r1 : Rg := [oL 16 (.ld (.c gv_shp)), oL 17 (.fa 0 (.g 4)), oL 18 (.ld (.l 17)), oL 19 (.lookup false true [i0, i0, bF, bF, bF] true (.l 16) (.l 18)), oL 15 (.mv (.l 19)), oL 20 (.extract (.l 15) 0), oL 21 (.extract (.l 15) 1), oT 7 (.alloc [i0, i0, bF, bF, bF]), oN (.store 5 (.g 7) (.l 20)), oT 8 (.mv (.l 21))]
def a82r2 : Rg := [oL 22 (.mv (.g 8)), oL 23 (.un .not (.l 22)), oL 24 (.mv (.l 23)), oLf 25 (.mv (.g 0)) 24, oLf 26 (.mv (.g 2)) 24, oLf 27 (.cf 115 [(.l 25), (.l 26)]) 24, oLf 28 (.un .not (.l 27)) 24, oL 29 (.pick (.l 24) cT (.l 28)), oL 30 (.mv (.l 29)), oLf 31 (.fa 3 (.g 4)) 30, oLf 32 (.ld (.l 31)) 30, oLf 33 (.len (.l 32)) 30, oLf 34 (.fa 0 (.g 7)) 30, oLf 35 (.ld (.l 34)) 30, oLf 36 (.fa 1 (.g 7)) 30, oLf 37 (.ld (.l 36)) 30, oLf 38 (.cf 116 [(.l 33), (.l 35), (.l 37)]) 30, oLf 39 (.un .not (.l 38)) 30, oL 40 (.pick (.l 30) cT (.l 39)), oL 41 (.mv (.l 40)), oLf 42 (.fa 2 (.g 7)) 41, oLf 43 (.ld (.l 42)) 41, oLf 44 (.un .not (.l 43)) 41, oLf 45 (.mv (.l 44)) 41, oLt 46 (.fa 1 (.g 4)) 45, oLt 47 (.ld (.l 46)) 45, oLt 48 (.bin .neq (.l 47) (ci 0)) 45, oLf 49 (.pick (.l 45) (.l 48) cF) 41, oL 50 (.pick (.l 41) cT (.l 49)), oL 51 (.mv (.l 50)), oLf 52 (.fa 4 (.g 7)) 51, oLf 53 (.ld (.l 52)) 51, oLf 54 (.fa 4 (.g 4)) 51, oLf 55 (.ld (.l 54)) 51, oLf 56 (.len (.l 55)) 51, oLf 57 (.bin .gtr (.l 56) (ci 0)) 51, oLf 58 (.eqb true (.l 53) (.l 57)) 51, oL 59 (.pick (.l 51) cT (.l 58)), oL 60 (.mv (.l 59)), oLf 61 (.fa 4 (.g 4)) 60, oLf 62 (.ld (.l 61)) 60, oLf 63 (.len (.l 62)) 60, oLf 64 (.bin .gtr (.l 63) (ci 40)) 60, oT 65 (.pick (.l 60) cT (.l 64))]
def a82r3 : Rg := [oT 6 (.mv cF)]
def a82r4 : Rg := [oL 67 (.ld (.c gv_ari)), oL 68 (.fa 2 (.g 4)), oL 69 (.ld (.l 68)), oL 70 (.lookup true true [i0] false (.l 67) (.l 69)), oL 66 (.mv (.l 70)), oL 71 (.extract (.l 66) 0), oL 72 (.extract (.l 66) 1), oT 9 (.mv (.l 71)), oT 10 (.mv (.l 72))]
def a82r5 : Rg := [oL 77 (.fa 0 (.g 4)), oL 78 (.ld (.l 77)), oL 79 (.bin .eql (.l 78) (ci 9)), oT 76 (.mv (.l 79))]
def a82r6 : Rg := [oL 80 (.mv (.g 10)), oL 81 (.mv (.l 80)), oLt 82 (.mv (.g 9)) 81, oLt 83 (.fa 3 (.g 4)) 81, oLt 84 (.ld (.l 83)) 81, oLt 85 (.len (.l 84)) 81, oLt 86 (.bin .eql (.l 82) (.l 85)) 81, oL 87 (.pick (.l 81) (.l 86) cF), oT 8 (.mv (.l 87))]
def a82r7 : Rg := [oL 89 (.fa 3 (.g 7)), oL 90 (.ld (.l 89)), oT 88 (.mv (.l 90))]
def a82r8 : Rg := [oL 91 (.fa 2 (.g 4)), oL 92 (.ld (.l 91)), oL 93 (.cf 74 [(.l 92)]), oT 8 (.mv (.l 93))]
def a82r9 : Rg := [oL 73 (.fa 2 (.g 4)), oL 74 (.ld (.l 73)), oL 75 (.bin .eql (.l 74) (.c s0)), oT 8 (.mv (.l 75))]
def a82r10 : Rg := [oL 94 (.mv (.g 8)), oL 95 (.un .not (.l 94)), oL 96 (.mv (.l 95)), oLf 97 (.fa 0 (.g 4)) 96, oLf 98 (.ld (.l 97)) 96, oLf 99 (.bin .eql (.l 98) (ci 1)) 96, oLf 100 (.mv (.l 99)) 96, oLt 101 (.fa 1 (.g 4)) 100, oLt 102 (.ld (.l 101)) 100, oLt 103 (.bin .lss (.l 102) (ci 0)) 100, oLf 104 (.pick (.l 100) (.l 103) cF) 96, oL 105 (.pick (.l 96) cT (.l 104)), oL 106 (.mv (.l 105)), oLf 107 (.fa 0 (.g 4)) 106, oLf 108 (.ld (.l 107)) 106, oLf 109 (.bin .eql (.l 108) (ci 5)) 106, oLf 110 (.mv (.l 109)) 106, oLt 111 (.fa 1 (.g 4)) 110, oLt 112 (.ld (.l 111)) 110, oLt 113 (.cf 116 [(.l 112), (ci 1), (ci 8)]) 110, oLt 114 (.un .not (.l 113)) 110, oLf 115 (.pick (.l 110) (.l 114) cF) 106, oL 116 (.pick (.l 106) cT (.l 115)), oL 117 (.mv (.l 116)), oLf 118 (.fa 4 (.g 4)) 117, oLf 119 (.ld (.l 118)) 117, oLf 120 (.cf 117 [(.l 119)]) 117, oLf 121 (.un .not (.l 120)) 117, oT 122 (.pick (.l 117) cT (.l 121))]
def a82r11 : Rg := [oT 6 (.mv cF)]
def a82r12 : Rg := [oL 123 (.fa 3 (.g 4)), oT 124 (.ld (.l 123)), oT 125 (.len (.g 124)), oT 126 (.mv (ci 0))]
def a82r13 : Rg := [oT 127 (.bin .lss (.g 126) (.g 125))]
def a82r14 : Rg := [oL 128 (.ia 5 (.g 124) (.g 126)), oL 129 (.load 5 true (.l 128)), oT 12 (.alloc [i0, i0, s0, nl, nl]), oN (.store 5 (.g 12) (.l 129))]
def a82r15 : Rg := [oL 130 (.mv (.g 0)), oL 131 (.load 5 true (.g 12)), oL 132 (.mv (.g 2)), oL 133 (.bin .add (.l 132) (ci 1)), oL 134 (.cf 82 [(.l 130), (.l 131), (.l 133)]), oT 135 (.un .not (.l 134))]
def a82r16 : Rg := [oT 6 (.mv cF)]
def a82r17 : Rg := [oL 136 (.bin .add (.g 126) (ci 1)), oT 126 (.mv (.l 136))]
def a82l18 : ACode := (.seq (rq a82r13) (.seq (.cond (.g 127) .skip (.exit 1)) (.seq (.block 2 (.seq (rq a82r14) (.seq (rq a82r15) (.cond (.g 135) (.seq (rq a82r16) .ret) .skip)))) (rq a82r17))))
def a82r19 : Rg := [oL 137 (.fa 4 (.g 4)), oT 138 (.ld (.l 137)), oT 139 (.len (.g 138)), oT 140 (.mv (ci 0))]
def a82r20 : Rg := [oT 141 (.bin .lss (.g 140) (.g 139))]
def a82r21 : Rg := [oL 142 (.ia 8 (.g 138) (.g 140)), oL 143 (.load 8 true (.l 142)), oT 14 (.alloc [i0, s0, i0, i0, i0, s0, nl, nl]), oN (.store 8 (.g 14) (.l 143))]
def a82r22 : Rg := [oL 144 (.mv (.g 0)), oL 145 (.mv (.g 2)), oL 146 (.bin .add (.l 145) (ci 1)), oL 147 (.cf 115 [(.l 144), (.l 146)]), oL 148 (.un .not (.l 147)), oL 149 (.mv (.l 148)), oLf 150 (.mv (.g 0)) 149, oLf 151 (.fa 3 (.g 14)) 149, oLf 152 (.load 5 true (.l 151)) 149, oLf 153 (.mv (.g 2)) 149, oLf 154 (.bin .add (.l 153) (ci 2)) 149, oLf 155 (.cf 82 [(.l 150), (.l 152), (.l 154)]) 149, oLf 156 (.un .not (.l 155)) 149, oT 157 (.pick (.l 149) cT (.l 156))]
def a82r23 : Rg := [oT 6 (.mv cF)]
def a82r24 : Rg := [oL 158 (.bin .add (.g 140) (ci 1)), oT 140 (.mv (.l 158))]
def a82l25 : ACode := (.seq (rq a82r20) (.seq (.cond (.g 141) .skip (.exit 3)) (.seq (.block 4 (.seq (rq a82r21) (.seq (rq a82r22) (.cond (.g 157) (.seq (rq a82r23) .ret) .skip)))) (rq a82r24))))
def a82r26 : Rg := [oT 6 (.mv cT)]
def a82b : ACode := (.seq (rq a82r0) (.seq (rq a82r1) (.seq (.seq (rq a82r2) (.cond (.g 65) (.seq (rq a82r3) .ret) .skip)) (.seq (rq a82r4) (.seq (.block 0 (.seq (rq a82r5) (.cond (.g 76) (rq a82r6) (.seq (rq a82r7) (.cond (.g 88) (rq a82r8) (rq a82r9)))))) (.seq (.seq (rq a82r10) (.cond (.g 122) (.seq (rq a82r11) .ret) .skip)) (.seq (.seq (rq a82r12) (.block 1 (.loop a82l18))) (.seq (.seq (rq a82r19) (.block 3 (.loop a82l25))) (.seq (rq a82r26) .ret)))))))))
def a82 : AFun := ⟨3, 159, a82b, [.tmp (true, 6)]⟩
theorem c82 : compileFun Tryz.prog [0, 1, 2, 4, 6, 7, 8, 9, 10, 12, 14, 65, 76, 88, 122, 124, 125, 126, 127, 135, 138, 139, 140, 141, 157] Tryz.f82 = some a82 := by kernel_rfl
/- (*damask/term.Counter).add -/
def a115r0 : Rg := [oT 4 (.mv cF)]
def a115r1 : Rg := [oL 5 (.mv (.g 0)), oL 6 (.nilCheck (.l 5)), oL 7 (.fa 0 (.l 6)), oL 8 (.ld (.l 7)), oL 9 (.bin .add (.l 8) (ci 1)), oL 10 (.nilCheck (.l 5)), oL 11 (.fa 0 (.l 10)), oN (.store 1 (.l 11) (.l 9))]
def a115r2 : Rg := [oL 12 (.mv (.g 0)), oL 13 (.mv (.g 0)), oL 14 (.nilCheck (.l 13)), oL 15 (.fa 1 (.l 14)), oL 16 (.ld (.l 15)), oL 17 (.mv (.g 1)), oL 18 (.max (.l 16) (.l 17)), oL 19 (.nilCheck (.l 12)), oL 20 (.fa 1 (.l 19)), oN (.store 1 (.l 20) (.l 18))]
def a115r3 : Rg := [oL 21 (.mv (.g 0)), oL 22 (.nilCheck (.l 21)), oL 23 (.fa 0 (.l 22)), oL 24 (.ld (.l 23)), oL 25 (.bin .leq (.l 24) (ci 4000)), oL 26 (.mv (.l 25)), oLt 27 (.mv (.g 1)) 26, oLt 28 (.bin .leq (.l 27) (ci 200)) 26, oL 29 (.pick (.l 26) (.l 28) cF), oT 4 (.mv (.l 29))]
def a115b : ACode := (.seq (rq a115r0) (.seq (rq a115r1) (.seq (rq a115r2) (.seq (rq a115r3) .ret))))
def a115 : AFun := ⟨2, 30, a115b, [.tmp (true, 4)]⟩
theorem c115 : compileFun Tryz.prog [0, 1, 4] Tryz.f115 = some a115 := by kernel_rfl
/- damask/term.within -/
def a116r0 : Rg := [oT 6 (.mv cF)]
def a116r1 : Rg := [oL 7 (.mv (.g 0)), oL 8 (.mv (.g 1)), oL 9 (.bin .geq (.l 7) (.l 8)), oL 10 (.mv (.l 9)), oLt 11 (.mv (.g 0)) 10, oLt 12 (.mv (.g 2)) 10, oLt 13 (.bin .leq (.l 11) (.l 12)) 10, oL 14 (.pick (.l 10) (.l 13) cF), oT 6 (.mv (.l 14))]
def a116b : ACode := (.seq (rq a116r0) (.seq (rq a116r1) .ret))
def a116 : AFun := ⟨3, 15, a116b, [.tmp (true, 6)]⟩
theorem c116 : compileFun Tryz.prog [0, 1, 2, 6] Tryz.f116 = some a116 := by kernel_rfl
/- damask/term.areAlts -/
def a117r0 : Rg := [oT 2 (.mv cF)]
def a117r1 : Rg := [oT 3 (.mv (ci 0))]
def a117r2 : Rg := [oL 8 (.mkmap), oT 4 (.mv (.l 8))]
def a117r3 : Rg := [oL 9 (.mkmap), oT 5 (.mv (.l 9))]
def a117r4 : Rg := [oT 10 (.mv (.g 0)), oT 11 (.len (.g 10)), oT 12 (.mv (ci 0))]
def a117r5 : Rg := [oT 13 (.bin .lss (.g 12) (.g 11))]
def a117r6 : Rg := [oL 14 (.mv (.g 12)), oL 15 (.ia 8 (.g 10) (.g 12)), oL 16 (.load 8 true (.l 15)), oT 7 (.alloc [i0, s0, i0, i0, i0, s0, nl, nl]), oT 6 (.mv (.l 14)), oN (.store 8 (.g 7) (.l 16))]
def a117r7 : Rg := [oL 17 (.fa 0 (.g 7)), oT 18 (.ld (.l 17))]
def a117r8 : Rg := [oL 20 (.bin .eql (.g 18) (ci 1)), oT 19 (.mv (.l 20))]
def a117r9 : Rg := [oL 21 (.mv (.g 6)), oL 22 (.mv (.g 0)), oL 23 (.len (.l 22)), oL 24 (.bin .sub (.l 23) (ci 1)), oL 25 (.bin .neq (.l 21) (.l 24)), oL 26 (.mv (.l 25)), oLf 27 (.fa 1 (.g 7)) 26, oLf 28 (.ld (.l 27)) 26, oLf 29 (.bin .neq (.l 28) (.c s0)) 26, oL 30 (.pick (.l 26) cT (.l 29)), oL 31 (.mv (.l 30)), oLf 32 (.fa 2 (.g 7)) 31, oLf 33 (.ld (.l 32)) 31, oLf 34 (.bin .neq (.l 33) (ci 0)) 31, oT 35 (.pick (.l 31) cT (.l 34))]
def a117r10 : Rg := [oT 2 (.mv cF)]
def a117r11 : Rg := [oL 37 (.bin .eql (.g 18) (ci 2)), oT 36 (.mv (.l 37))]
def a117r12 : Rg := [oL 38 (.fa 1 (.g 7)), oL 39 (.ld (.l 38)), oL 40 (.cf 74 [(.l 39)]), oL 41 (.un .not (.l 40)), oL 42 (.mv (.l 41)), oLf 43 (.mv (.g 4)) 42, oLf 44 (.fa 1 (.g 7)) 42, oLf 45 (.ld (.l 44)) 42, oLf 46 (.lookup true false [bF] false (.l 43) (.l 45)) 42, oL 47 (.pick (.l 42) cT (.l 46)), oL 48 (.mv (.l 47)), oLf 49 (.fa 2 (.g 7)) 48, oLf 50 (.ld (.l 49)) 48, oLf 51 (.cf 116 [(.l 50), (ci 0), (ci 12)]) 48, oLf 52 (.un .not (.l 51)) 48, oT 53 (.pick (.l 48) cT (.l 52))]
def a117r13 : Rg := [oT 2 (.mv cF)]
def a117r14 : Rg := [oL 54 (.mv (.g 4)), oL 55 (.fa 1 (.g 7)), oL 56 (.ld (.l 55)), oN (.mapUpdate true (.l 54) (.l 56) cT)]
def a117r15 : Rg := [oL 58 (.bin .eql (.g 18) (ci 3)), oT 57 (.mv (.l 58))]
def a117r16 : Rg := [oL 59 (.fa 1 (.g 7)), oL 60 (.ld (.l 59)), oL 61 (.bin .neq (.l 60) (.c s0)), oL 62 (.mv (.l 61)), oLf 63 (.mv (.g 5)) 62, oLf 64 (.fa 2 (.g 7)) 62, oLf 65 (.ld (.l 64)) 62, oLf 66 (.lookup false false [bF] false (.l 63) (.l 65)) 62, oT 67 (.pick (.l 62) cT (.l 66))]
def a117r17 : Rg := [oT 2 (.mv cF)]
def a117r18 : Rg := [oL 68 (.mv (.g 5)), oL 69 (.fa 2 (.g 7)), oL 70 (.ld (.l 69)), oN (.mapUpdate false (.l 68) (.l 70) cT)]
def a117r19 : Rg := [oT 2 (.mv cF)]
def a117r20 : Rg := [oL 71 (.mv (.g 3)), oL 72 (.bin .neq (.l 71) (ci 0)), oL 73 (.mv (.l 72)), oLt 74 (.mv (.g 3)) 73, oLt 75 (.fa 0 (.g 7)) 73, oLt 76 (.ld (.l 75)) 73, oLt 77 (.bin .neq (.l 74) (.l 76)) 73, oT 78 (.pick (.l 73) (.l 77) cF)]
def a117r21 : Rg := [oT 2 (.mv cF)]
def a117r22 : Rg := [oL 79 (.fa 0 (.g 7)), oL 80 (.ld (.l 79)), oT 3 (.mv (.l 80))]
def a117r23 : Rg := [oL 81 (.bin .add (.g 12) (ci 1)), oT 12 (.mv (.l 81))]
def a117l24 : ACode := (.seq (rq a117r5) (.seq (.cond (.g 13) .skip (.exit 0)) (.seq (.block 1 (.seq (rq a117r6) (.seq (.seq (rq a117r7) (.block 2 (.seq (rq a117r8) (.cond (.g 19) (.seq (.seq (rq a117r9) (.cond (.g 35) (.seq (rq a117r10) .ret) .skip)) (.exit 1)) (.seq (rq a117r11) (.cond (.g 36) (.seq (.seq (rq a117r12) (.cond (.g 53) (.seq (rq a117r13) .ret) .skip)) (rq a117r14)) (.seq (rq a117r15) (.cond (.g 57) (.seq (.seq (rq a117r16) (.cond (.g 67) (.seq (rq a117r17) .ret) .skip)) (rq a117r18)) (.seq (rq a117r19) .ret))))))))) (.seq (.seq (rq a117r20) (.cond (.g 78) (.seq (rq a117r21) .ret) .skip)) (rq a117r22))))) (rq a117r23))))
def a117r25 : Rg := [oT 2 (.mv cT)]
def a117b : ACode := (.seq (rq a117r0) (.seq (rq a117r1) (.seq (rq a117r2) (.seq (rq a117r3) (.seq (.seq (rq a117r4) (.block 0 (.loop a117l24))) (.seq (rq a117r25) .ret))))))
def a117 : AFun := ⟨1, 82, a117b, [.tmp (true, 2)]⟩
theorem c117 : compileFun Tryz.prog [0, 2, 3, 4, 5, 6, 7, 10, 11, 12, 13, 18, 19, 35, 36, 53, 57, 67, 78] Tryz.f117 = some a117 := by kernel_rfl
/- damask/term.IsWell -/
def a45r0 : Rg := [oT 1 (.box (.g 0)), oT 2 (.mv cF)]
def a45r1 : Rg := [oT 3 (.alloc [i0, i0])]
def a45r2 : Rg := [oL 4 (.load 5 true (.g 1)), oL 5 (.cf 82 [(.g 3), (.l 4), (ci 1)]), oT 2 (.mv (.l 5))]
def a45b : ACode := (.seq (rq a45r0) (.seq (rq a45r1) (.seq (rq a45r2) .ret)))
def a45 : AFun := ⟨1, 6, a45b, [.tmp (true, 2)]⟩
theorem c45 : compileFun Tryz.prog [0, 1, 2, 3] Tryz.f45 = some a45 := by kernel_rfl
/- (*damask/damaskref15.counter).code -/
def a91r0 : Rg := [oT 4 (.box (.g 1))]
def a91r1 : Rg := [oL 8 (.mv (.g 0)), oL 9 (.nilCheck (.l 8)), oL 10 (.fa 0 (.l 9)), oL 11 (.ld (.l 10)), oL 12 (.bin .add (.l 11) (ci 1)), oL 13 (.nilCheck (.l 8)), oL 14 (.fa 0 (.l 13)), oN (.store 1 (.l 14) (.l 12))]
def a91r2 : Rg := [oL 15 (.mv (.g 0)), oL 16 (.mv (.g 0)), oL 17 (.nilCheck (.l 16)), oL 18 (.fa 1 (.l 17)), oL 19 (.ld (.l 18)), oL 20 (.mv (.g 2)), oL 21 (.max (.l 19) (.l 20)), oL 22 (.nilCheck (.l 15)), oL 23 (.fa 1 (.l 22)), oN (.store 1 (.l 23) (.l 21))]
def a91r3 : Rg := [oL 24 (.mv (.g 0)), oL 25 (.nilCheck (.l 24)), oL 26 (.fa 0 (.l 25)), oL 27 (.ld (.l 26)), oL 28 (.bin .gtr (.l 27) (ci 4000)), oL 29 (.mv (.l 28)), oLf 30 (.mv (.g 2)) 29, oLf 31 (.bin .gtr (.l 30) (ci 200)) 29, oL 32 (.pick (.l 29) cT (.l 31)), oL 33 (.mv (.l 32)), oLf 34 (.load 5 true (.g 4)) 33, oLf 35 (.cf 140 [(.l 34)]) 33, oLf 36 (.un .not (.l 35)) 33, oT 37 (.pick (.l 33) cT (.l 36))]
def a91r4 : Rg := [oL 38 (.mv (.g 0)), oL 39 (.nilCheck (.l 38)), oL 40 (.fa 2 (.l 39)), oN (.store 1 (.l 40) cT)]
def a91r5 : Rg := [oT 6 (.mv (ci 0))]
def a91r6 : Rg := [oL 41 (.mv (.g 6)), oL 42 (.fa 3 (.g 4)), oL 43 (.ld (.l 42)), oL 44 (.len (.l 43)), oL 45 (.bin .lss (.l 41) (.l 44)), oL 46 (.mv (.l 45)), oLt 47 (.mv (.g 0)) 46, oLt 48 (.nilCheck (.l 47)) 46, oLt 49 (.fa 2 (.l 48)) 46, oLt 50 (.ld (.l 49)) 46, oLt 51 (.un .not (.l 50)) 46, oT 52 (.pick (.l 46) (.l 51) cF)]
def a91r7 : Rg := [oL 55 (.mv (.g 0)), oL 56 (.fa 3 (.g 4)), oL 57 (.ld (.l 56)), oL 58 (.mv (.g 6)), oL 59 (.ia 5 (.l 57) (.l 58)), oL 60 (.load 5 true (.l 59)), oL 61 (.mv (.g 2)), oL 62 (.bin .add (.l 61) (ci 1)), oL 63 (.cf 91 [(.l 55), (.l 60), (.l 62)])]
def a91r8 : Rg := [oL 53 (.mv (.g 6)), oL 54 (.bin .add (.l 53) (ci 1)), oT 6 (.mv (.l 54))]
def a91l9 : ACode := (.seq (.seq (rq a91r6) (.cond (.g 52) .skip (.exit 0))) (.seq (.block 1 (rq a91r7)) (rq a91r8)))
def a91r10 : Rg := [oT 7 (.mv (ci 0))]
def a91r11 : Rg := [oL 64 (.mv (.g 7)), oL 65 (.fa 4 (.g 4)), oL 66 (.ld (.l 65)), oL 67 (.len (.l 66)), oL 68 (.bin .lss (.l 64) (.l 67)), oL 69 (.mv (.l 68)), oLt 70 (.mv (.g 0)) 69, oLt 71 (.nilCheck (.l 70)) 69, oLt 72 (.fa 2 (.l 71)) 69, oLt 73 (.ld (.l 72)) 69, oLt 74 (.un .not (.l 73)) 69, oT 75 (.pick (.l 69) (.l 74) cF)]
def a91r12 : Rg := [oL 78 (.mv (.g 0)), oL 79 (.nilCheck (.l 78)), oL 80 (.fa 0 (.l 79)), oL 81 (.ld (.l 80)), oL 82 (.bin .add (.l 81) (ci 1)), oL 83 (.nilCheck (.l 78)), oL 84 (.fa 0 (.l 83)), oN (.store 1 (.l 84) (.l 82))]
def a91r13 : Rg := [oL 85 (.mv (.g 0)), oL 86 (.fa 4 (.g 4)), oL 87 (.ld (.l 86)), oL 88 (.mv (.g 7)), oL 89 (.ia 8 (.l 87) (.l 88)), oL 90 (.fa 3 (.l 89)), oL 91 (.load 5 true (.l 90)), oL 92 (.mv (.g 2)), oL 93 (.bin .add (.l 92) (ci 2)), oL 94 (.cf 91 [(.l 85), (.l 91), (.l 93)])]
def a91r14 : Rg := [oL 76 (.mv (.g 7)), oL 77 (.bin .add (.l 76) (ci 1)), oT 7 (.mv (.l 77))]
def a91l15 : ACode := (.seq (.seq (rq a91r11) (.cond (.g 75) .skip (.exit 2))) (.seq (.block 3 (.seq (rq a91r12) (rq a91r13))) (rq a91r14)))
def a91b : ACode := (.seq (rq a91r0) (.seq (rq a91r1) (.seq (rq a91r2) (.seq (.seq (rq a91r3) (.cond (.g 37) (rq a91r4) .skip)) (.seq (.seq (rq a91r5) (.block 0 (.loop a91l9))) (.seq (rq a91r10) (.block 2 (.loop a91l15))))))))
def a91 : AFun := ⟨3, 95, a91b, []⟩
theorem c91 : compileFun Tryz.prog [0, 1, 2, 4, 6, 7, 37, 52, 75] Tryz.f91 = some a91 := by kernel_rfl
/- damask/damaskref15.built -/
def a140r0 : Rg := [oT 1 (.box (.g 0)), oT 2 (.mv cF)]
def a140r1 : Rg := [oL 6 (.fa 3 (.g 1)), oL 7 (.ld (.l 6)), oL 8 (.len (.l 7)), oT 3 (.mv (.l 8))]
def a140r2 : Rg := [oL 9 (.fa 0 (.g 1)), oL 10 (.ld (.l 9)), oL 11 (.bin .neq (.l 10) (ci 8)), oL 12 (.mv (.l 11)), oLt 13 (.fa 4 (.g 1)) 12, oLt 14 (.ld (.l 13)) 12, oLt 15 (.len (.l 14)) 12, oLt 16 (.bin .gtr (.l 15) (ci 0)) 12, oL 17 (.pick (.l 12) (.l 16) cF), oL 18 (.mv (.l 17)), oLf 19 (.fa 1 (.g 1)) 18, oLf 20 (.ld (.l 19)) 18, oLf 21 (.bin .neq (.l 20) (ci 0)) 18, oLf 22 (.mv (.l 21)) 18, oLt 23 (.fa 0 (.g 1)) 22, oLt 24 (.ld (.l 23)) 22, oLt 25 (.bin .neq (.l 24) (ci 1)) 22, oLf 26 (.pick (.l 22) (.l 25) cF) 18, oLf 27 (.mv (.l 26)) 18, oLt 28 (.fa 0 (.g 1)) 27, oLt 29 (.ld (.l 28)) 27, oLt 30 (.bin .neq (.l 29) (ci 3)) 27, oLf 31 (.pick (.l 27) (.l 30) cF) 18, oLf 32 (.mv (.l 31)) 18, oLt 33 (.fa 0 (.g 1)) 32, oLt 34 (.ld (.l 33)) 32, oLt 35 (.bin .neq (.l 34) (ci 5)) 32, oLf 36 (.pick (.l 32) (.l 35) cF) 18, oT 37 (.pick (.l 18) cT (.l 36))]
def a140r3 : Rg := [oT 2 (.mv cF)]
def a140r4 : Rg := [oL 38 (.fa 2 (.g 1)), oL 39 (.ld (.l 38)), oL 40 (.bin .neq (.l 39) (.c s0)), oL 41 (.mv (.l 40)), oLt 42 (.fa 0 (.g 1)) 41, oLt 43 (.ld (.l 42)) 41, oLt 44 (.bin .neq (.l 43) (ci 2)) 41, oL 45 (.pick (.l 41) (.l 44) cF), oL 46 (.mv (.l 45)), oLt 47 (.fa 0 (.g 1)) 46, oLt 48 (.ld (.l 47)) 46, oLt 49 (.bin .neq (.l 48) (ci 4)) 46, oL 50 (.pick (.l 46) (.l 49) cF), oL 51 (.mv (.l 50)), oLt 52 (.fa 0 (.g 1)) 51, oLt 53 (.ld (.l 52)) 51, oLt 54 (.bin .neq (.l 53) (ci 9)) 51, oT 55 (.pick (.l 51) (.l 54) cF)]
def a140r5 : Rg := [oT 2 (.mv cF)]
def a140r6 : Rg := [oL 56 (.fa 0 (.g 1)), oT 57 (.ld (.l 56))]
def a140r7 : Rg := [oL 59 (.bin .eql (.g 57) (ci 1)), oT 58 (.mv (.l 59))]
def a140r8 : Rg := [oL 60 (.fa 1 (.g 1)), oL 61 (.ld (.l 60)), oL 62 (.bin .geq (.l 61) (ci 0)), oL 63 (.mv (.l 62)), oLt 64 (.mv (.g 3)) 63, oLt 65 (.bin .eql (.l 64) (ci 0)) 63, oL 66 (.pick (.l 63) (.l 65) cF), oT 2 (.mv (.l 66))]
def a140r9 : Rg := [oL 68 (.bin .eql (.g 57) (ci 2)), oT 67 (.mv (.l 68))]
def a140r10 : Rg := [oL 69 (.fa 2 (.g 1)), oL 70 (.ld (.l 69)), oL 71 (.cf 34 [(.l 70)]), oL 72 (.mv (.l 71)), oLt 73 (.mv (.g 3)) 72, oLt 74 (.bin .eql (.l 73) (ci 0)) 72, oL 75 (.pick (.l 72) (.l 74) cF), oT 2 (.mv (.l 75))]
def a140r11 : Rg := [oL 77 (.bin .eql (.g 57) (ci 3)), oT 76 (.mv (.l 77))]
def a140r12 : Rg := [oL 78 (.mv (.g 3)), oL 79 (.bin .eql (.l 78) (ci 0)), oT 2 (.mv (.l 79))]
def a140r13 : Rg := [oL 81 (.bin .eql (.g 57) (ci 4)), oT 80 (.mv (.l 81))]
def a140r14 : Rg := [oL 82 (.fa 2 (.g 1)), oL 83 (.ld (.l 82)), oL 84 (.cf 34 [(.l 83)]), oL 85 (.mv (.l 84)), oLt 86 (.mv (.g 3)) 85, oLt 87 (.bin .leq (.l 86) (ci 12)) 85, oL 88 (.pick (.l 85) (.l 87) cF), oT 2 (.mv (.l 88))]
def a140r15 : Rg := [oL 90 (.bin .eql (.g 57) (ci 5)), oT 89 (.mv (.l 90))]
def a140r16 : Rg := [oL 91 (.fa 1 (.g 1)), oL 92 (.ld (.l 91)), oL 93 (.bin .geq (.l 92) (ci 1)), oL 94 (.mv (.l 93)), oLt 95 (.fa 1 (.g 1)) 94, oLt 96 (.ld (.l 95)) 94, oLt 97 (.bin .leq (.l 96) (ci 8)) 94, oL 98 (.pick (.l 94) (.l 97) cF), oL 99 (.mv (.l 98)), oLt 100 (.mv (.g 3)) 99, oLt 101 (.bin .eql (.l 100) (ci 1)) 99, oL 102 (.pick (.l 99) (.l 101) cF), oT 2 (.mv (.l 102))]
def a140r17 : Rg := [oL 104 (.bin .eql (.g 57) (ci 6)), oT 103 (.mv (.l 104))]
def a140r18 : Rg := [oL 105 (.mv (.g 3)), oL 106 (.bin .geq (.l 105) (ci 2)), oL 107 (.mv (.l 106)), oLt 108 (.mv (.g 3)) 107, oLt 109 (.bin .leq (.l 108) (ci 9)) 107, oL 110 (.pick (.l 107) (.l 109) cF), oT 2 (.mv (.l 110))]
def a140r19 : Rg := [oL 112 (.bin .eql (.g 57) (ci 7)), oT 111 (.mv (.l 112))]
def a140r20 : Rg := [oL 113 (.mv (.g 3)), oL 114 (.bin .geq (.l 113) (ci 2)), oL 115 (.mv (.l 114)), oLt 116 (.mv (.g 3)) 115, oLt 117 (.bin .leq (.l 116) (ci 13)) 115, oL 118 (.pick (.l 115) (.l 117) cF), oT 2 (.mv (.l 118))]
def a140r21 : Rg := [oL 120 (.bin .eql (.g 57) (ci 8)), oT 119 (.mv (.l 120))]
def a140r22 : Rg := [oL 121 (.mv (.g 3)), oL 122 (.bin .eql (.l 121) (ci 1)), oL 123 (.mv (.l 122)), oLt 124 (.fa 4 (.g 1)) 123, oLt 125 (.ld (.l 124)) 123, oLt 126 (.cf 175 [(.l 125)]) 123, oL 127 (.pick (.l 123) (.l 126) cF), oT 2 (.mv (.l 127))]
def a140r23 : Rg := [oL 129 (.bin .eql (.g 57) (ci 9)), oT 128 (.mv (.l 129))]
def a140r24 : Rg := [oL 131 (.fa 2 (.g 1)), oL 132 (.ld (.l 131)), oL 133 (.cf 176 [(.l 132)]), oL 130 (.mv (.l 133)), oL 134 (.extract (.l 130) 0), oL 135 (.extract (.l 130) 1), oT 4 (.mv (.l 134)), oT 5 (.mv (.l 135))]
def a140r25 : Rg := [oL 136 (.mv (.g 5)), oL 137 (.mv (.l 136)), oLt 138 (.mv (.g 3)) 137, oLt 139 (.mv (.g 4)) 137, oLt 140 (.bin .eql (.l 138) (.l 139)) 137, oL 141 (.pick (.l 137) (.l 140) cF), oT 2 (.mv (.l 141))]
def a140r26 : Rg := [oT 2 (.mv cF)]
def a140b : ACode := (.seq (rq a140r0) (.seq (rq a140r1) (.seq (.seq (rq a140r2) (.cond (.g 37) (.seq (rq a140r3) .ret) .skip)) (.seq (.seq (rq a140r4) (.cond (.g 55) (.seq (rq a140r5) .ret) .skip)) (.seq (.seq (rq a140r6) (.block 0 (.seq (rq a140r7) (.cond (.g 58) (.seq (rq a140r8) .ret) (.seq (rq a140r9) (.cond (.g 67) (.seq (rq a140r10) .ret) (.seq (rq a140r11) (.cond (.g 76) (.seq (rq a140r12) .ret) (.seq (rq a140r13) (.cond (.g 80) (.seq (rq a140r14) .ret) (.seq (rq a140r15) (.cond (.g 89) (.seq (rq a140r16) .ret) (.seq (rq a140r17) (.cond (.g 103) (.seq (rq a140r18) .ret) (.seq (rq a140r19) (.cond (.g 111) (.seq (rq a140r20) .ret) (.seq (rq a140r21) (.cond (.g 119) (.seq (rq a140r22) .ret) (.seq (rq a140r23) (.cond (.g 128) (.seq (rq a140r24) (.seq (rq a140r25) .ret)) .skip)))))))))))))))))))) (.seq (rq a140r26) .ret))))))
def a140 : AFun := ⟨1, 142, a140b, [.tmp (true, 2)]⟩
theorem c140 : compileFun Tryz.prog [0, 1, 2, 3, 4, 5, 37, 55, 57, 58, 67, 76, 80, 89, 103, 111, 119, 128] Tryz.f140 = some a140 := by kernel_rfl
/- damask/damaskref15.cases -/
def a175r0 : Rg := [oT 2 (.mv cF)]
def a175r1 : Rg := [oL 6 (.mv (.g 0)), oL 7 (.len (.l 6)), oL 8 (.bin .lss (.l 7) (ci 1)), oL 9 (.mv (.l 8)), oLf 10 (.mv (.g 0)) 9, oLf 11 (.len (.l 10)) 9, oLf 12 (.bin .gtr (.l 11) (ci 40)) 9, oT 13 (.pick (.l 9) cT (.l 12))]
def a175r2 : Rg := [oT 2 (.mv cF)]
def a175r3 : Rg := [oT 3 (.mv (ci 0))]
def a175r4 : Rg := [oL 14 (.mv (.g 3)), oL 15 (.mv (.g 0)), oL 16 (.len (.l 15)), oT 17 (.bin .lss (.l 14) (.l 16))]
def a175r5 : Rg := [oL 20 (.mv (.g 0)), oL 21 (.mv (.g 3)), oL 22 (.ia 8 (.l 20) (.l 21)), oL 23 (.load 8 true (.l 22)), oT 4 (.alloc [i0, s0, i0, i0, i0, s0, nl, nl]), oN (.store 8 (.g 4) (.l 23))]
def a175r6 : Rg := [oL 24 (.fa 0 (.g 4)), oT 25 (.ld (.l 24))]
def a175r7 : Rg := [oL 27 (.bin .eql (.g 25) (ci 1)), oT 26 (.mv (.l 27))]
def a175r8 : Rg := [oL 28 (.mv (.g 3)), oL 29 (.mv (.g 0)), oL 30 (.len (.l 29)), oL 31 (.bin .sub (.l 30) (ci 1)), oL 32 (.bin .lss (.l 28) (.l 31)), oL 33 (.mv (.l 32)), oLf 34 (.fa 1 (.g 4)) 33, oLf 35 (.ld (.l 34)) 33, oLf 36 (.bin .neq (.l 35) (.c s0)) 33, oL 37 (.pick (.l 33) cT (.l 36)), oL 38 (.mv (.l 37)), oLf 39 (.fa 2 (.g 4)) 38, oLf 40 (.ld (.l 39)) 38, oLf 41 (.bin .neq (.l 40) (ci 0)) 38, oT 42 (.pick (.l 38) cT (.l 41))]
def a175r9 : Rg := [oT 2 (.mv cF)]
def a175r10 : Rg := [oL 44 (.bin .eql (.g 25) (ci 2)), oT 43 (.mv (.l 44))]
def a175r11 : Rg := [oL 45 (.fa 1 (.g 4)), oL 46 (.ld (.l 45)), oL 47 (.cf 34 [(.l 46)]), oL 48 (.un .not (.l 47)), oL 49 (.mv (.l 48)), oLf 50 (.fa 2 (.g 4)) 49, oLf 51 (.ld (.l 50)) 49, oLf 52 (.bin .lss (.l 51) (ci 0)) 49, oL 53 (.pick (.l 49) cT (.l 52)), oL 54 (.mv (.l 53)), oLf 55 (.fa 2 (.g 4)) 54, oLf 56 (.ld (.l 55)) 54, oLf 57 (.bin .gtr (.l 56) (ci 12)) 54, oT 58 (.pick (.l 54) cT (.l 57))]
def a175r12 : Rg := [oT 2 (.mv cF)]
def a175r13 : Rg := [oL 60 (.bin .eql (.g 25) (ci 3)), oT 59 (.mv (.l 60))]
def a175r14 : Rg := [oL 61 (.fa 1 (.g 4)), oL 62 (.ld (.l 61)), oT 63 (.bin .neq (.l 62) (.c s0))]
def a175r15 : Rg := [oT 2 (.mv cF)]
def a175r16 : Rg := [oT 2 (.mv cF)]
def a175r17 : Rg := [oT 5 (.mv (ci 0))]
def a175r18 : Rg := [oL 64 (.mv (.g 5)), oL 65 (.mv (.g 3)), oT 66 (.bin .lss (.l 64) (.l 65))]
def a175r19 : Rg := [oL 69 (.mv (.g 0)), oL 70 (.mv (.g 5)), oL 71 (.ia 8 (.l 69) (.l 70)), oL 72 (.fa 0 (.l 71)), oL 73 (.ld (.l 72)), oL 74 (.fa 0 (.g 4)), oL 75 (.ld (.l 74)), oL 76 (.bin .neq (.l 73) (.l 75)), oL 77 (.mv (.l 76)), oLf 78 (.fa 0 (.g 4)) 77, oLf 79 (.ld (.l 78)) 77, oLf 80 (.bin .eql (.l 79) (ci 2)) 77, oLf 81 (.mv (.l 80)) 77, oLt 82 (.mv (.g 0)) 81, oLt 83 (.mv (.g 5)) 81, oLt 84 (.ia 8 (.l 82) (.l 83)) 81, oLt 85 (.fa 1 (.l 84)) 81, oLt 86 (.ld (.l 85)) 81, oLt 87 (.fa 1 (.g 4)) 81, oLt 88 (.ld (.l 87)) 81, oLt 89 (.bin .eql (.l 86) (.l 88)) 81, oLf 90 (.pick (.l 81) (.l 89) cF) 77, oL 91 (.pick (.l 77) cT (.l 90)), oL 92 (.mv (.l 91)), oLf 93 (.fa 0 (.g 4)) 92, oLf 94 (.ld (.l 93)) 92, oLf 95 (.bin .eql (.l 94) (ci 3)) 92, oLf 96 (.mv (.l 95)) 92, oLt 97 (.mv (.g 0)) 96, oLt 98 (.mv (.g 5)) 96, oLt 99 (.ia 8 (.l 97) (.l 98)) 96, oLt 100 (.fa 2 (.l 99)) 96, oLt 101 (.ld (.l 100)) 96, oLt 102 (.fa 2 (.g 4)) 96, oLt 103 (.ld (.l 102)) 96, oLt 104 (.bin .eql (.l 101) (.l 103)) 96, oLf 105 (.pick (.l 96) (.l 104) cF) 92, oT 106 (.pick (.l 92) cT (.l 105))]
def a175r20 : Rg := [oT 2 (.mv cF)]
def a175r21 : Rg := [oL 67 (.mv (.g 5)), oL 68 (.bin .add (.l 67) (ci 1)), oT 5 (.mv (.l 68))]
def a175l22 : ACode := (.seq (.seq (rq a175r18) (.cond (.g 66) .skip (.exit 3))) (.seq (.block 4 (.seq (.reg true a175r19) (.cond (.g 106) (.seq (rq a175r20) .ret) .skip))) (rq a175r21)))
def a175r23 : Rg := [oL 18 (.mv (.g 3)), oL 19 (.bin .add (.l 18) (ci 1)), oT 3 (.mv (.l 19))]
def a175l24 : ACode := (.seq (.seq (rq a175r4) (.cond (.g 17) .skip (.exit 0))) (.seq (.block 1 (.seq (rq a175r5) (.seq (.seq (rq a175r6) (.block 2 (.seq (rq a175r7) (.cond (.g 26) (.seq (.seq (rq a175r8) (.cond (.g 42) (.seq (rq a175r9) .ret) .skip)) (.exit 1)) (.seq (rq a175r10) (.cond (.g 43) (.seq (rq a175r11) (.cond (.g 58) (.seq (rq a175r12) .ret) .skip)) (.seq (rq a175r13) (.cond (.g 59) (.seq (rq a175r14) (.cond (.g 63) (.seq (rq a175r15) .ret) .skip)) (.seq (rq a175r16) .ret))))))))) (.seq (rq a175r17) (.block 3 (.loop a175l22)))))) (rq a175r23)))
def a175r25 : Rg := [oT 2 (.mv cT)]
def a175b : ACode := (.seq (rq a175r0) (.seq (.seq (rq a175r1) (.cond (.g 13) (.seq (rq a175r2) .ret) .skip)) (.seq (.seq (rq a175r3) (.block 0 (.loop a175l24))) (.seq (rq a175r25) .ret))))
def a175 : AFun := ⟨1, 107, a175b, [.tmp (true, 2)]⟩
theorem c175 : compileFun Tryz.prog [0, 2, 3, 4, 5, 13, 17, 25, 26, 42, 43, 58, 59, 63, 66, 106] Tryz.f175 = some a175 := by kernel_rfl
/- damask/damaskref15.Arity -/
def a176r0 : Rg := [oT 2 (.mv (ci 0)), oT 3 (.mv cF)]
def a176r1 : Rg := [oL 5 (.mv (.g 0)), oL 6 (.cf 56 [(.l 5)]), oT 4 (.mv (.l 6))]
def a176r2 : Rg := [oL 7 (.mv (.g 4)), oT 8 (.bin .lss (.l 7) (ci 0))]
def a176r3 : Rg := [oT 2 (.mv (ci 0)), oT 3 (.mv cF)]
def a176r4 : Rg := [oL 9 (.mv (.g 4)), oL 10 (.arrAddr 1 27 (.c gv_rar) (.l 9)), oL 11 (.ld (.l 10)), oT 2 (.mv (.l 11)), oT 3 (.mv cT)]
def a176b : ACode := (.seq (rq a176r0) (.seq (rq a176r1) (.seq (.seq (rq a176r2) (.cond (.g 8) (.seq (rq a176r3) .ret) .skip)) (.seq (rq a176r4) .ret))))
def a176 : AFun := ⟨1, 12, a176b, [.tmp (true, 2), .tmp (true, 3)]⟩
theorem c176 : compileFun Tryz.prog [0, 2, 3, 4, 8] Tryz.f176 = some a176 := by kernel_rfl
/- damask/damaskref15.Prim -/
def a56r0 : Rg := [oT 2 (.mv (ci 0))]
def a56r1 : Rg := [oL 5 (.cf 97 []), oT 3 (.mv (.l 5))]
def a56r2 : Rg := [oT 4 (.mv (ci 0))]
def a56r3 : Rg := [oL 6 (.mv (.g 4)), oL 7 (.mv (.g 3)), oL 8 (.len (.l 7)), oT 9 (.bin .lss (.l 6) (.l 8))]
def a56r4 : Rg := [oL 12 (.mv (.g 3)), oL 13 (.mv (.g 4)), oL 14 (.ia 1 (.l 12) (.l 13)), oL 15 (.ld (.l 14)), oL 16 (.mv (.g 0)), oT 17 (.bin .eql (.l 15) (.l 16))]
def a56r5 : Rg := [oL 18 (.mv (.g 4)), oT 2 (.mv (.l 18))]
def a56r6 : Rg := [oL 10 (.mv (.g 4)), oL 11 (.bin .add (.l 10) (ci 1)), oT 4 (.mv (.l 11))]
def a56l7 : ACode := (.seq (.seq (rq a56r3) (.cond (.g 9) .skip (.exit 0))) (.seq (.block 1 (.seq (rq a56r4) (.cond (.g 17) (.seq (rq a56r5) .ret) .skip))) (rq a56r6)))
def a56r8 : Rg := [oT 2 (.mv (ci (-1)))]
def a56b : ACode := (.seq (rq a56r0) (.seq (rq a56r1) (.seq (.seq (rq a56r2) (.block 0 (.loop a56l7))) (.seq (rq a56r8) .ret))))
def a56 : AFun := ⟨1, 19, a56b, [.tmp (true, 2)]⟩
theorem c56 : compileFun Tryz.prog [0, 2, 3, 4, 9, 17] Tryz.f56 = some a56 := by kernel_rfl
/- damask/damaskref15.Prims -/
def a97r0 : Rg := [oT 0 (.mv (.c nl))]
def a97r1 : Rg := [oL 1 (.buildSlice 1 false [s0] 27 [(0, (.c (.str ⟨#[97, 100, 100]⟩))), (1, (.c (.str ⟨#[115, 117, 98]⟩))), (2, (.c (.str ⟨#[109, 117, 108]⟩))), (3, (.c (.str ⟨#[100, 105, 118]⟩))), (4, (.c (.str ⟨#[109, 111, 100]⟩))), (5, (.c (.str ⟨#[101, 113]⟩))), (6, (.c (.str ⟨#[108, 116]⟩))), (7, (.c (.str ⟨#[108, 101]⟩))), (8, (.c (.str ⟨#[115, 101, 113]⟩))), (9, (.c (.str ⟨#[116, 104, 114, 111, 119]⟩))), (10, (.c (.str ⟨#[114, 101, 116, 117, 114, 110, 73, 79]⟩))), (11, (.c (.str ⟨#[98, 105, 110, 100, 73, 79]⟩))), (12, (.c (.str ⟨#[112, 117, 116]⟩))), (13, (.c (.str ⟨#[103, 101, 116]⟩))), (14, (.c (.str ⟨#[99, 97, 116, 99, 104]⟩))), (15, (.c (.str ⟨#[102, 111, 114, 107]⟩))), (16, (.c (.str ⟨#[107, 105, 108, 108]⟩))), (17, (.c (.str ⟨#[109, 97, 115, 107]⟩))), (18, (.c (.str ⟨#[121, 105, 101, 108, 100]⟩))), (19, (.c (.str ⟨#[97, 116, 111, 109, 105, 99, 97, 108, 108, 121]⟩))), (20, (.c (.str ⟨#[114, 101, 116, 117, 114, 110, 83, 84, 77]⟩))), (21, (.c (.str ⟨#[98, 105, 110, 100, 83, 84, 77]⟩))), (22, (.c (.str ⟨#[110, 101, 119, 84, 86, 97, 114]⟩))), (23, (.c (.str ⟨#[114, 101, 97, 100, 84, 86, 97, 114]⟩))), (24, (.c (.str ⟨#[119, 114, 105, 116, 101, 84, 86, 97, 114]⟩))), (25, (.c (.str ⟨#[114, 101, 116, 114, 121]⟩))), (26, (.c (.str ⟨#[111, 114, 69, 108, 115, 101]⟩)))]), oT 0 (.mv (.l 1))]
def a97b : ACode := (.seq (rq a97r0) (.seq (rq a97r1) .ret))
def a97 : AFun := ⟨0, 2, a97b, [.tmp (true, 0)]⟩
theorem c97 : compileFun Tryz.prog [0] Tryz.f97 = some a97 := by kernel_rfl
/- damask/damaskref15.Size -/
def a51r0 : Rg := [oT 1 (.box (.g 0)), oT 2 (.mv (ci 0)), oT 3 (.mv (ci 0)), oT 4 (.mv cF)]
def a51r1 : Rg := [oL 6 (.build [i0, i0, bF] []), oL 7 (.box (.l 6)), oT 5 (.mv (.l 7))]
def a51r2 : Rg := [oL 8 (.mv (.g 5)), oL 9 (.load 5 true (.g 1)), oL 10 (.cf 91 [(.l 8), (.l 9), (ci 1)])]
def a51r3 : Rg := [oL 11 (.mv (.g 5)), oL 12 (.nilCheck (.l 11)), oL 13 (.fa 2 (.l 12)), oT 14 (.ld (.l 13))]
def a51r4 : Rg := [oT 2 (.mv (ci 0)), oT 3 (.mv (ci 0)), oT 4 (.mv cF)]
def a51r5 : Rg := [oL 15 (.mv (.g 5)), oL 16 (.nilCheck (.l 15)), oL 17 (.fa 0 (.l 16)), oL 18 (.ld (.l 17)), oL 19 (.mv (.g 5)), oL 20 (.nilCheck (.l 19)), oL 21 (.fa 1 (.l 20)), oL 22 (.ld (.l 21)), oT 2 (.mv (.l 18)), oT 3 (.mv (.l 22)), oT 4 (.mv cT)]
def a51b : ACode := (.seq (rq a51r0) (.seq (rq a51r1) (.seq (rq a51r2) (.seq (.seq (rq a51r3) (.cond (.g 14) (.seq (rq a51r4) .ret) .skip)) (.seq (.reg true a51r5) .ret)))))
def a51 : AFun := ⟨1, 23, a51b, [.tmp (true, 2), .tmp (true, 3), .tmp (true, 4)]⟩
theorem c51 : compileFun Tryz.prog [0, 1, 2, 3, 4, 5, 14] Tryz.f51 = some a51 := by kernel_rfl
/- damask/damaskref15.Well -/
def a27r0 : Rg := [oT 1 (.box (.g 0)), oT 2 (.mv cF)]
def a27r1 : Rg := [oL 7 (.load 5 true (.g 1)), oL 8 (.cf 51 [(.l 7)]), oL 6 (.mv (.l 8)), oL 9 (.extract (.l 6) 0), oL 10 (.extract (.l 6) 1), oL 11 (.extract (.l 6) 2), oL 3 (.mv (.l 9)), oL 4 (.mv (.l 10)), oT 5 (.mv (.l 11))]
def a27r2 : Rg := [oL 12 (.mv (.g 5)), oT 2 (.mv (.l 12))]
def a27b : ACode := (.seq (rq a27r0) (.seq (rq a27r1) (.seq (rq a27r2) .ret)))
def a27 : AFun := ⟨1, 13, a27b, [.tmp (true, 2)]⟩
theorem c27 : compileFun Tryz.prog [0, 1, 2, 5] Tryz.f27 = some a27 := by kernel_rfl
end Go.AL.Dm
