/- Primitives. -/
import Derived.Test.YtlledcnjfgcipaaGreatDoorF2
import Derived.Test.YtlledcnjfgcipaaGreatDoorProg
import Derived.KernelRfl
set_option linter.unusedVariables false
set_option linter.unusedSimpArgs false
namespace Go.AL.Dm
open Go.Proofs
/- (*damask/term.Counter).well -/
def a82r0 : Rg := [oT 4 (.box (.g 1)), oT 6 (.mv cF)]
def a82r1 : Rg := [oL 16 (.ld (.c gv_shp)), oL 17 (.fa 0 (.g 4)), oL 18 (.ld (.l 17)), oL 19 (.lookup false true [i0, i0, bF, bF, bF] true (.l 16) (.l 18)), oL 15 (.mv (.l 19)), oL 20 (.extract (.l 15) 0), oL 21 (.extract (.l 15) 1), oT 7 (.alloc [i0, i0, bF, bF, bF]), oN (.store 5 (.g 7) (.l 20)), oT 8 (.mv (.l 21))]
def a82r2 : Rg := [oL 22 (.mv (.g 8)), oL 23 (.un .not (.l 22)), oL 24 (.mv (.l 23)), oLf 25 (.mv (.g 0)) 24, oLf 26 (.mv (.g 2)) 24, oLf 27 (.cf 115 [(.l 25), (.l 26)]) 24, oLf 28 (.un .not (.l 27)) 24, oL 29 (.pick (.l 24) cT (.l 28)), oL 30 (.mv (.l 29)), oLf 31 (.fa 3 (.g 4)) 30, oLf 32 (.ld (.l 31)) 30, oLf 33 (.len (.l 32)) 30, oLf 34 (.fa 0 (.g 7)) 30, oLf 35 (.ld (.l 34)) 30, oLf 36 (.fa 1 (.g 7)) 30, oLf 37 (.ld (.l 36)) 30, oLf 38 (.cf 116 [(.l 33), (.l 35), (.l 37)]) 30, oLf 39 (.un .not (.l 38)) 30, oL 40 (.pick (.l 30) cT (.l 39)), oL 41 (.mv (.l 40)), oLf 42 (.fa 2 (.g 7)) 41, oLf 43 (.ld (.l 42)) 41, oLf 44 (.un .not (.l 43)) 41, oLf 45 (.mv (.l 44)) 41, oLt 46 (.fa 1 (.g 4)) 45, oLt 47 (.ld (.l 46)) 45, oLt 48 (.bin .neq (.l 47) (ci 0)) 45, oLf 49 (.pick (.l 45) (.l 48) cF) 41, oL 50 (.pick (.l 41) cT (.l 49)), oL 51 (.mv (.l 50)), oLf 52 (.fa 4 (.g 7)) 51, oLf 53 (.ld (.l 52)) 51, oLf 54 (.fa 4 (.g 4)) 51, oLf 55 (.ld (.l 54)) 51, oLf 56 (.len (.l 55)) 51, oLf 57 (.bin .gtr (.l 56) (ci 0)) 51, oLf 58 (.eqb true (.l 53) (.l 57)) 51, oL 59 (.pick (.l 51) cT (.l 58)), oL 60 (.mv (.l 59)), oLf 61 (.fa 4 (.g 4)) 60, oLf 62 (.ld (.l 61)) 60, oLf 63 (.len (.l 62)) 60, oLf 64 (.bin .gtr (.l 63) (ci 40)) 60, oT 65 (.pick (.l 60) cT (.l 64))]
def a82r3 : Rg := [oT 6 (.mv cF)]
def a82r4 : Rg := [oL 67 (.ld (.c gv_ari)), oL 68 (.fa 2 (.g 4)), oL 69 (.ld (.l 68)), oL 70 (.lookup true true [i0] false (.l 67) (.l 69)), oL 66 (.mv (.l 70)), oL 71 (.extract (.l 66) 0), oL 72 (.extract (.l 66) 1), oT 9 (.mv (.l 71)), oT 10 (.mv (.l 72))]
def a82r5 : Rg := [oL 77 (.fa 0 (.g 4)), oL 78 (.ld (.l 77)), oL 79 (.bin .eql (.l 78) (ci 9)), oT 76 (.mv (.l 79))]
def a82r6 : Rg := [oL 80 (.mv (.g 10)), oL 81 (.mv (.l 80)), oLt 82 (.mv (.g 9)) 81, oLt 83 (.fa 3 (.g 4)) 81, oLt 84 (.ld (.l 83)) 81, oLt 85 (.len (.l 84)) 81, oLt 86 (.bin .eql (.l 82) (.l 85)) 81, oL 87 (.pick (.l 81) (.l 86) cF), oT 8 (.mv (.l 87))]
def a82r7 : Rg := [oL 89 (.fa 3 (.g 7)), oL 90 (.ld (.l 89)), oT 88 (.mv (.l 90))]
def a82r8 : Rg := [oL 91 (.fa 2 (.g 4)), oL 92 (.ld (.l 91)), oL 93 (.cf 74 [(.l 92)]), oT 8 (.mv (.l 93))]
def a82r9 : Rg := [oL 73 (.fa 2 (.g 4)), oL 74 (.ld (.l 73)), oL 75 (.bin .eql (.l 74) (.c s0)), oT 8 (.mv (.l 75))]
def a82r10 : Rg := [oL 94 (.mv (.g 8)), oL 95 (.un .not (.l 94)), oL 96 (.mv (.l 95)), oLf 97 (.fa 0 (.g 4)) 96, oLf 98 (.ld (.l 97)) 96, oLf 99 (.bin .eql (.l 98) (ci 1)) 96, oLf 100 (.mv (.l 99)) 96, oLt 101 (.fa 1 (.g 4)) 100, oLt 102 (.ld (.l 101)) 100, oLt 103 (.bin .lss (.l 102) (ci 0)) 100, oLf 104 (.pick (.l 100) (.l 103) cF) 96, oL 105 (.pick (.l 96) cT (.l 104)), oL 106 (.mv (.l 105)), oLf 107 (.fa 0 (.g 4)) 106, oLf 108 (.ld (.l 107)) 106, oLf 109 (.bin .eql (.l 108) (ci 5)) 106, oLf 110 (.mv (.l 109)) 106, oLt 111 (.fa 1 (.g 4)) 110, oLt 112 (.ld (.l 111)) 110, oLt 113 (.cf 116 [(.l 112), (ci 1), (ci 8)]) 110, oLt 114 (.un .not (.l 113)) 110, oLf 115 (.pick (.l 110) (.l 114) cF) 106, oL 116 (.pick (.l 106) cT (.l 115)), oL 117 (.mv (.l 116)), oLf 118 (.fa 4 (.g 4)) 117, oLf 119 (.ld (.l 118)) 117, oLf 120 (.cf 117 [(.l 119)]) 117, oLf 121 (.un .not (.l 120)) 117, oT 122 (.pick (.l 117) cT (.l 121))]
def a82r11 : Rg := [oT 6 (.mv cF)]
def a82r12 : Rg := [oL 123 (.fa 3 (.g 4)), oT 124 (.ld (.l 123)), oT 125 (.len (.g 124)), oT 126 (.mv (ci 0))]
def a82r13 : Rg := [oT 127 (.bin .lss (.g 126) (.g 125))]
def a82r14 : Rg := [oL 128 (.ia 5 (.g 124) (.g 126)), oL 129 (.load 5 true (.l 128)), oT 12 (.alloc [i0, i0, s0, nl, nl]), oN (.store 5 (.g 12) (.l 129))]
def a82r15 : Rg := [oL 130 (.mv (.g 0)), oL 131 (.load 5 true (.g 12)), oL 132 (.mv (.g 2)), oL 133 (.bin .add (.l 132) (ci 1)), oL 134 (.cf 82 [(.l 130), (.l 131), (.l 133)]), oT 135 (.un .not (.l 134))]
def a82r16 : Rg := [oT 6 (.mv cF)]
def a82r17 : Rg := [oL 136 (.bin .add (.g 126) (ci 1)), oT 126 (.mv (.l 136))]
def a82l18 : ACode := (.seq (rq a82r13) (.seq (.cond (.g 127) .skip (.exit 1)) (.seq (.block 2 (.seq (rq a82r14) (.seq (rq a82r15) (.cond (.g 135) (.seq (rq a82r16) .ret) .skip)))) (rq a82r17))))
def a82r19 : Rg := [oL 137 (.fa 4 (.g 4)), oT 138 (.ld (.l 137)), oT 139 (.len (.g 138)), oT 140 (.mv (ci 0))]
def a82r20 : Rg := [oT 141 (.bin .lss (.g 140) (.g 139))]
def a82r21 : Rg := [oL 142 (.ia 8 (.g 138) (.g 140)), oL 143 (.load 8 true (.l 142)), oT 14 (.alloc [i0, s0, i0, i0, i0, s0, nl, nl]), oN (.store 8 (.g 14) (.l 143))]
def a82r22 : Rg := [oL 144 (.mv (.g 0)), oL 145 (.mv (.g 2)), oL 146 (.bin .add (.l 145) (ci 1)), oL 147 (.cf 115 [(.l 144), (.l 146)]), oL 148 (.un .not (.l 147)), oL 149 (.mv (.l 148)), oLf 150 (.mv (.g 0)) 149, oLf 151 (.fa 3 (.g 14)) 149, oLf 152 (.load 5 true (.l 151)) 149, oLf 153 (.mv (.g 2)) 149, oLf 154 (.bin .add (.l 153) (ci 2)) 149, oLf 155 (.cf 82 [(.l 150), (.l 152), (.l 154)]) 149, oLf 156 (.un .not (.l 155)) 149, oT 157 (.pick (.l 149) cT (.l 156))]
def a82r23 : Rg := [oT 6 (.mv cF)]
def a82r24 : Rg := [oL 158 (.bin .add (.g 140) (ci 1)), oT 140 (.mv (.l 158))]
def a82l25 : ACode := (.seq (rq a82r20) (.seq (.cond (.g 141) .skip (.exit 3)) (.seq (.block 4 (.seq (rq a82r21) (.seq (rq a82r22) (.cond (.g 157) (.seq (rq a82r23) .ret) .skip)))) (rq a82r24))))
def a82r26 : Rg := [oT 6 (.mv cT)]
def a82b : ACode := (.seq (rq a82r0) (.seq (rq a82r1) (.seq (.seq (rq a82r2) (.cond (.g 65) (.seq (rq a82r3) .ret) .skip)) (.seq (rq a82r4) (.seq (.block 0 (.seq (rq a82r5) (.cond (.g 76) (rq a82r6) (.seq (rq a82r7) (.cond (.g 88) (rq a82r8) (rq a82r9)))))) (.seq (.seq (rq a82r10) (.cond (.g 122) (.seq (rq a82r11) .ret) .skip)) (.seq (.seq (rq a82r12) (.block 1 (.loop a82l18))) (.seq (.seq (rq a82r19) (.block 3 (.loop a82l25))) (.seq (rq a82r26) .ret)))))))))
def a82 : AFun := ⟨3, 159, a82b, [.tmp (true, 6)]⟩
theorem c82 : compileFun Tryz.prog [0, 1, 2, 4, 6, 7, 8, 9, 10, 12, 14, 65, 76, 88, 122, 124, 125, 126, 127, 135, 138, 139, 140, 141, 157] Tryz.f82 = some a82 := by kernel_rfl
/- (*damask/term.Counter).add -/
def a115r0 : Rg := [oT 4 (.mv cF)]
def a115r1 : Rg := [oL 5 (.mv (.g 0)), oL 6 (.nilCheck (.l 5)), oL 7 (.fa 0 (.l 6)), oL 8 (.ld (.l 7)), oL 9 (.bin .add (.l 8) (ci 1)), oL 10 (.nilCheck (.l 5)), oL 11 (.fa 0 (.l 10)), oN (.store 1 (.l 11) (.l 9))]
def a115r2 : Rg := [oL 12 (.mv (.g 0)), oL 13 (.mv (.g 0)), oL 14 (.nilCheck (.l 13)), oL 15 (.fa 1 (.l 14)), oL 16 (.ld (.l 15)), oL 17 (.mv (.g 1)), oL 18 (.max (.l 16) (.l 17)), oL 19 (.nilCheck (.l 12)), oL 20 (.fa 1 (.l 19)), oN (.store 1 (.l 20) (.l 18))]
def a115r3 : Rg := [oL 21 (.mv (.g 0)), oL 22 (.nilCheck (.l 21)), oL 23 (.fa 0 (.l 22)), oL 24 (.ld (.l 23)), oL 25 (.bin .leq (.l 24) (ci 4000)), oL 26 (.mv (.l 25)), oLt 27 (.mv (.g 1)) 26, oLt 28 (.bin .leq (.l 27) (ci 200)) 26, oL 29 (.pick (.l 26) (.l 28) cF), oT 4 (.mv (.l 29))]
def a115b : ACode := (.seq (rq a115r0) (.seq (rq a115r1) (.seq (rq a115r2) (.seq (rq a115r3) .ret))))
def a115 : AFun := ⟨2, 30, a115b, [.tmp (true, 4)]⟩
theorem c115 : compileFun Tryz.prog [0, 1, 4] Tryz.f115 = some a115 := by kernel_rfl
/- damask/term.within -/
def a116r0 : Rg := [oT 6 (.mv cF)]
def a116r1 : Rg := [oL 7 (.mv (.g 0)), oL 8 (.mv (.g 1)), oL 9 (.bin .geq (.l 7) (.l 8)), oL 10 (.mv (.l 9)), oLt 11 (.mv (.g 0)) 10, oLt 12 (.mv (.g 2)) 10, oLt 13 (.bin .leq (.l 11) (.l 12)) 10, oL 14 (.pick (.l 10) (.l 13) cF), oT 6 (.mv (.l 14))]
def a116b : ACode := (.seq (rq a116r0) (.seq (rq a116r1) .ret))
def a116 : AFun := ⟨3, 15, a116b, [.tmp (true, 6)]⟩
theorem c116 : compileFun Tryz.prog [0, 1, 2, 6] Tryz.f116 = some a116 := by kernel_rfl
/- damask/term.areAlts -/
def a117r0 : Rg := [oT 2 (.mv cF)]
def a117r1 : Rg := [oT 3 (.mv (ci 0))]
def a117r2 : Rg := [oL 8 (.mkmap), oT 4 (.mv (.l 8))]
def a117r3 : Rg := [oL 9 (.mkmap), oT 5 (.mv (.l 9))]
def a117r4 : Rg := [oT 10 (.mv (.g 0)), oT 11 (.len (.g 10)), oT 12 (.mv (ci 0))]
def a117r5 : Rg := [oT 13 (.bin .lss (.g 12) (.g 11))]
def a117r6 : Rg := [oL 14 (.mv (.g 12)), oL 15 (.ia 8 (.g 10) (.g 12)), oL 16 (.load 8 true (.l 15)), oT 7 (.alloc [i0, s0, i0, i0, i0, s0, nl, nl]), oT 6 (.mv (.l 14)), oN (.store 8 (.g 7) (.l 16))]
def a117r7 : Rg := [oL 17 (.fa 0 (.g 7)), oT 18 (.ld (.l 17))]
def a117r8 : Rg := [oL 20 (.bin .eql (.g 18) (ci 1)), oT 19 (.mv (.l 20))]
def a117r9 : Rg := [oL 21 (.mv (.g 6)), oL 22 (.mv (.g 0)), oL 23 (.len (.l 22)), oL 24 (.bin .sub (.l 23) (ci 1)), oL 25 (.bin .neq (.l 21) (.l 24)), oL 26 (.mv (.l 25)), oLf 27 (.fa 1 (.g 7)) 26, oLf 28 (.ld (.l 27)) 26, oLf 29 (.bin .neq (.l 28) (.c s0)) 26, oL 30 (.pick (.l 26) cT (.l 29)), oL 31 (.mv (.l 30)), oLf 32 (.fa 2 (.g 7)) 31, oLf 33 (.ld (.l 32)) 31, oLf 34 (.bin .neq (.l 33) (ci 0)) 31, oT 35 (.pick (.l 31) cT (.l 34))]
def a117r10 : Rg := [oT 2 (.mv cF)]
def a117r11 : Rg := [oL 37 (.bin .eql (.g 18) (ci 2)), oT 36 (.mv (.l 37))]
def a117r12 : Rg := [oL 38 (.fa 1 (.g 7)), oL 39 (.ld (.l 38)), oL 40 (.cf 74 [(.l 39)]), oL 41 (.un .not (.l 40)), oL 42 (.mv (.l 41)), oLf 43 (.mv (.g 4)) 42, oLf 44 (.fa 1 (.g 7)) 42, oLf 45 (.ld (.l 44)) 42, oLf 46 (.lookup true false [bF] false (.l 43) (.l 45)) 42, oL 47 (.pick (.l 42) cT (.l 46)), oL 48 (.mv (.l 47)), oLf 49 (.fa 2 (.g 7)) 48, oLf 50 (.ld (.l 49)) 48, oLf 51 (.cf 116 [(.l 50), (ci 0), (ci 12)]) 48, oLf 52 (.un .not (.l 51)) 48, oT 53 (.pick (.l 48) cT (.l 52))]
def a117r13 : Rg := [oT 2 (.mv cF)]
def a117r14 : Rg := [oL 54 (.mv (.g 4)), oL 55 (.fa 1 (.g 7)), oL 56 (.ld (.l 55)), oN (.mapUpdate true (.l 54) (.l 56) cT)]
def a117r15 : Rg := [oL 58 (.bin .eql (.g 18) (ci 3)), oT 57 (.mv (.l 58))]
def a117r16 : Rg := [oL 59 (.fa 1 (.g 7)), oL 60 (.ld (.l 59)), oL 61 (.bin .neq (.l 60) (.c s0)), oL 62 (.mv (.l 61)), oLf 63 (.mv (.g 5)) 62, oLf 64 (.fa 2 (.g 7)) 62, oLf 65 (.ld (.l 64)) 62, oLf 66 (.lookup false false [bF] false (.l 63) (.l 65)) 62, oT 67 (.pick (.l 62) cT (.l 66))]
def a117r17 : Rg := [oT 2 (.mv cF)]
def a117r18 : Rg := [oL 68 (.mv (.g 5)), oL 69 (.fa 2 (.g 7)), oL 70 (.ld (.l 69)), oN (.mapUpdate false (.l 68) (.l 70) cT)]
def a117r19 : Rg := [oT 2 (.mv cF)]
def a117r20 : Rg := [oL 71 (.mv (.g 3)), oL 72 (.bin .neq (.l 71) (ci 0)), oL 73 (.mv (.l 72)), oLt 74 (.mv (.g 3)) 73, oLt 75 (.fa 0 (.g 7)) 73, oLt 76 (.ld (.l 75)) 73, oLt 77 (.bin .neq (.l 74) (.l 76)) 73, oT 78 (.pick (.l 73) (.l 77) cF)]
def a117r21 : Rg := [oT 2 (.mv cF)]
def a117r22 : Rg := [oL 79 (.fa 0 (.g 7)), oL 80 (.ld (.l 79)), oT 3 (.mv (.l 80))]
def a117r23 : Rg := [oL 81 (.bin .add (.g 12) (ci 1)), oT 12 (.mv (.l 81))]
def a117l24 : ACode := (.seq (rq a117r5) (.seq (.cond (.g 13) .skip (.exit 0)) (.seq (.block 1 (.seq (rq a117r6) (.seq (.seq (rq a117r7) (.block 2 (.seq (rq a117r8) (.cond (.g 19) (.seq (.seq (rq a117r9) (.cond (.g 35) (.seq (rq a117r10) .ret) .skip)) (.exit 1)) (.seq (rq a117r11) (.cond (.g 36) (.seq (.seq (rq a117r12) (.cond (.g 53) (.seq (rq a117r13) .ret) .skip)) (rq a117r14)) (.seq (rq a117r15) (.cond (.g 57) (.seq (.seq (rq a117r16) (.cond (.g 67) (.seq (rq a117r17) .ret) .skip)) (rq a117r18)) (.seq (rq a117r19) .ret))))))))) (.seq (.seq (rq a117r20) (.cond (.g 78) (.seq (rq a117r21) .ret) .skip)) (rq a117r22))))) (rq a117r23))))
def a117r25 : Rg := [oT 2 (.mv cT)]
def a117b : ACode := (.seq (rq a117r0) (.seq (rq a117r1) (.seq (rq a117r2) (.seq (rq a117r3) (.seq (.seq (rq a117r4) (.block 0 (.loop a117l24))) (.seq (rq a117r25) .ret))))))
def a117 : AFun := ⟨1, 82, a117b, [.tmp (true, 2)]⟩
theorem c117 : compileFun Tryz.prog [0, 2, 3, 4, 5, 6, 7, 10, 11, 12, 13, 18, 19, 35, 36, 53, 57, 67, 78] Tryz.f117 = some a117 := by kernel_rfl
/- damask/term.IsWell -/
def a45r0 : Rg := [oT 1 (.box (.g 0)), oT 2 (.mv cF)]
def a45r1 : Rg := [oT 3 (.alloc [i0, i0])]
def a45r2 : Rg := [oL 4 (.load 5 true (.g 1)), oL 5 (.cf 82 [(.g 3), (.l 4), (ci 1)]), oT 2 (.mv (.l 5))]
def a45b : ACode := (.seq (rq a45r0) (.seq (rq a45r1) (.seq (rq a45r2) .ret)))
def a45 : AFun := ⟨1, 6, a45b, [.tmp (true, 2)]⟩
theorem c45 : compileFun Tryz.prog [0, 1, 2, 3] Tryz.f45 = some a45 := by kernel_rfl
/- (*damask/damaskref15.counter).code -/
def a91r0 : Rg := [oT 4 (.box (.g 1))]
def a91r1 : Rg := [oL 8 (.mv (.g 0)), oL 9 (.nilCheck (.l 8)), oL 10 (.fa 0 (.l 9)), oL 11 (.ld (.l 10)), oL 12 (.bin .add (.l 11) (ci 1)), oL 13 (.nilCheck (.l 8)), oL 14 (.fa 0 (.l 13)), oN (.store 1 (.l 14) (.l 12))]
def a91r2 : Rg := [oL 15 (.mv (.g 0)), oL 16 (.mv (.g 0)), oL 17 (.nilCheck (.l 16)), oL 18 (.fa 1 (.l 17)), oL 19 (.ld (.l 18)), oL 20 (.mv (.g 2)), oL 21 (.max (.l 19) (.l 20)), oL 22 (.nilCheck (.l 15)), oL 23 (.fa 1 (.l 22)), oN (.store 1 (.l 23) (.l 21))]
def a91r3 : Rg := [oL 24 (.mv (.g 0)), oL 25 (.nilCheck (.l 24)), oL 26 (.fa 0 (.l 25)), oL 27 (.ld (.l 26)), oL 28 (.bin .gtr (.l 27) (ci 4000)), oL 29 (.mv (.l 28)), oLf 30 (.mv (.g 2)) 29, oLf 31 (.bin .gtr (.l 30) (ci 200)) 29, oL 32 (.pick (.l 29) cT (.l 31)), oL 33 (.mv (.l 32)), oLf 34 (.load 5 true (.g 4)) 33, oLf 35 (.cf 140 [(.l 34)]) 33, oLf 36 (.un .not (.l 35)) 33, oT 37 (.pick (.l 33) cT (.l 36))]
def a91r4 : Rg := [oL 38 (.mv (.g 0)), oL 39 (.nilCheck (.l 38)), oL 40 (.fa 2 (.l 39)), oN (.store 1 (.l 40) cT)]
def a91r5 : Rg := [oT 6 (.mv (ci 0))]
def a91r6 : Rg := [oL 41 (.mv (.g 6)), oL 42 (.fa 3 (.g 4)), oL 43 (.ld (.l 42)), oL 44 (.len (.l 43)), oL 45 (.bin .lss (.l 41) (.l 44)), oL 46 (.mv (.l 45)), oLt 47 (.mv (.g 0)) 46, oLt 48 (.nilCheck (.l 47)) 46, oLt 49 (.fa 2 (.l 48)) 46, oLt 50 (.ld (.l 49)) 46, oLt 51 (.un .not (.l 50)) 46, oT 52 (.pick (.l 46) (.l 51) cF)]
def a91r7 : Rg := [oL 55 (.mv (.g 0)), oL 56 (.fa 3 (.g 4)), oL 57 (.ld (.l 56)), oL 58 (.mv (.g 6)), oL 59 (.ia 5 (.l 57) (.l 58)), oL 60 (.load 5 true (.l 59)), oL 61 (.mv (.g 2)), oL 62 (.bin .add (.l 61) (ci 1)), oL 63 (.cf 91 [(.l 55), (.l 60), (.l 62)])]
def a91r8 : Rg := [oL 53 (.mv (.g 6)), oL 54 (.bin .add (.l 53) (ci 1)), oT 6 (.mv (.l 54))]
def a91l9 : ACode := (.seq (.seq (rq a91r6) (.cond (.g 52) .skip (.exit 0))) (.seq (.block 1 (rq a91r7)) (rq a91r8)))
def a91r10 : Rg := [oT 7 (.mv (ci 0))]
def a91r11 : Rg := [oL 64 (.mv (.g 7)), oL 65 (.fa 4 (.g 4)), oL 66 (.ld (.l 65)), oL 67 (.len (.l 66)), oL 68 (.bin .lss (.l 64) (.l 67)), oL 69 (.mv (.l 68)), oLt 70 (.mv (.g 0)) 69, oLt 71 (.nilCheck (.l 70)) 69, oLt 72 (.fa 2 (.l 71)) 69, oLt 73 (.ld (.l 72)) 69, oLt 74 (.un .not (.l 73)) 69, oT 75 (.pick (.l 69) (.l 74) cF)]
def a91r12 : Rg := [oL 78 (.mv (.g 0)), oL 79 (.nilCheck (.l 78)), oL 80 (.fa 0 (.l 79)), oL 81 (.ld (.l 80)), oL 82 (.bin .add (.l 81) (ci 1)), oL 83 (.nilCheck (.l 78)), oL 84 (.fa 0 (.l 83)), oN (.store 1 (.l 84) (.l 82))]
def a91r13 : Rg := [oL 85 (.mv (.g 0)), oL 86 (.fa 4 (.g 4)), oL 87 (.ld (.l 86)), oL 88 (.mv (.g 7)), oL 89 (.ia 8 (.l 87) (.l 88)), oL 90 (.fa 3 (.l 89)), oL 91 (.load 5 true (.l 90)), oL 92 (.mv (.g 2)), oL 93 (.bin .add (.l 92) (ci 2)), oL 94 (.cf 91 [(.l 85), (.l 91), (.l 93)])]
def a91r14 : Rg := [oL 76 (.mv (.g 7)), oL 77 (.bin .add (.l 76) (ci 1)), oT 7 (.mv (.l 77))]
def a91l15 : ACode := (.seq (.seq (rq a91r11) (.cond (.g 75) .skip (.exit 2))) (.seq (.block 3 (.seq (rq a91r12) (rq a91r13))) (rq a91r14)))
def a91b : ACode := (.seq (rq a91r0) (.seq (rq a91r1) (.seq (rq a91r2) (.seq (.seq (rq a91r3) (.cond (.g 37) (rq a91r4) .skip)) (.seq (.seq (rq a91r5) (.block 0 (.loop a91l9))) (.seq (rq a91r10) (.block 2 (.loop a91l15))))))))
def a91 : AFun := ⟨3, 95, a91b, []⟩
theorem c91 : compileFun Tryz.prog [0, 1, 2, 4, 6, 7, 37, 52, 75] Tryz.f91 = some a91 := by kernel_rfl
/- damask/damaskref15.built -/
def a140r0 : Rg := [oT 1 (.box (.g 0)), oT 2 (.mv cF)]
def a140r1 : Rg := [oL 6 (.fa 3 (.g 1)), oL 7 (.ld (.l 6)), oL 8 (.len (.l 7)), oT 3 (.mv (.l 8))]
def a140r2 : Rg := [oL 9 (.fa 0 (.g 1)), oL 10 (.ld (.l 9)), oL 11 (.bin .neq (.l 10) (ci 8)), oL 12 (.mv (.l 11)), oLt 13 (.fa 4 (.g 1)) 12, oLt 14 (.ld (.l 13)) 12, oLt 15 (.len (.l 14)) 12, oLt 16 (.bin .gtr (.l 15) (ci 0)) 12, oL 17 (.pick (.l 12) (.l 16) cF), oL 18 (.mv (.l 17)), oLf 19 (.fa 1 (.g 1)) 18, oLf 20 (.ld (.l 19)) 18, oLf 21 (.bin .neq (.l 20) (ci 0)) 18, oLf 22 (.mv (.l 21)) 18, oLt 23 (.fa 0 (.g 1)) 22, oLt 24 (.ld (.l 23)) 22, oLt 25 (.bin .neq (.l 24) (ci 1)) 22, oLf 26 (.pick (.l 22) (.l 25) cF) 18, oLf 27 (.mv (.l 26)) 18, oLt 28 (.fa 0 (.g 1)) 27, oLt 29 (.ld (.l 28)) 27, oLt 30 (.bin .neq (.l 29) (ci 3)) 27, oLf 31 (.pick (.l 27) (.l 30) cF) 18, oLf 32 (.mv (.l 31)) 18, oLt 33 (.fa 0 (.g 1)) 32, oLt 34 (.ld (.l 33)) 32, oLt 35 (.bin .neq (.l 34) (ci 5)) 32, oLf 36 (.pick (.l 32) (.l 35) cF) 18, oT 37 (.pick (.l 18) cT (.l 36))]
def a140r3 : Rg := [oT 2 (.mv cF)]
def a140r4 : Rg := [oL 38 (.fa 2 (.g 1)), oL 39 (.ld (.l 38)), oL 40 (.bin .neq (.l 39) (.c s0)), oL 41 (.mv (.l 40)), oLt 42 (.fa 0 (.g 1)) 41, oLt 43 (.ld (.l 42)) 41, oLt 44 (.bin .neq (.l 43) (ci 2)) 41, oL 45 (.pick (.l 41) (.l 44) cF), oL 46 (.mv (.l 45)), oLt 47 (.fa 0 (.g 1)) 46, oLt 48 (.ld (.l 47)) 46, oLt 49 (.bin .neq (.l 48) (ci 4)) 46, oL 50 (.pick (.l 46) (.l 49) cF), oL 51 (.mv (.l 50)), oLt 52 (.fa 0 (.g 1)) 51, oLt 53 (.ld (.l 52)) 51, oLt 54 (.bin .neq (.l 53) (ci 9)) 51, oT 55 (.pick (.l 51) (.l 54) cF)]
def a140r5 : Rg := [oT 2 (.mv cF)]
def a140r6 : Rg := [oL 56 (.fa 0 (.g 1)), oT 57 (.ld (.l 56))]
def a140r7 : Rg := [oL 59 (.bin .eql (.g 57) (ci 1)), oT 58 (.mv (.l 59))]
def a140r8 : Rg := [oL 60 (.fa 1 (.g 1)), oL 61 (.ld (.l 60)), oL 62 (.bin .geq (.l 61) (ci 0)), oL 63 (.mv (.l 62)), oLt 64 (.mv (.g 3)) 63, oLt 65 (.bin .eql (.l 64) (ci 0)) 63, oL 66 (.pick (.l 63) (.l 65) cF), oT 2 (.mv (.l 66))]
def a140r9 : Rg := [oL 68 (.bin .eql (.g 57) (ci 2)), oT 67 (.mv (.l 68))]
def a140r10 : Rg := [oL 69 (.fa 2 (.g 1)), oL 70 (.ld (.l 69)), oL 71 (.cf 34 [(.l 70)]), oL 72 (.mv (.l 71)), oLt 73 (.mv (.g 3)) 72, oLt 74 (.bin .eql (.l 73) (ci 0)) 72, oL 75 (.pick (.l 72) (.l 74) cF), oT 2 (.mv (.l 75))]
def a140r11 : Rg := [oL 77 (.bin .eql (.g 57) (ci 3)), oT 76 (.mv (.l 77))]
def a140r12 : Rg := [oL 78 (.mv (.g 3)), oL 79 (.bin .eql (.l 78) (ci 0)), oT 2 (.mv (.l 79))]
def a140r13 : Rg := [oL 81 (.bin .eql (.g 57) (ci 4)), oT 80 (.mv (.l 81))]
def a140r14 : Rg := [oL 82 (.fa 2 (.g 1)), oL 83 (.ld (.l 82)), oL 84 (.cf 34 [(.l 83)]), oL 85 (.mv (.l 84)), oLt 86 (.mv (.g 3)) 85, oLt 87 (.bin .leq (.l 86) (ci 12)) 85, oL 88 (.pick (.l 85) (.l 87) cF), oT 2 (.mv (.l 88))]
def a140r15 : Rg := [oL 90 (.bin .eql (.g 57) (ci 5)), oT 89 (.mv (.l 90))]
def a140r16 : Rg := [oL 91 (.fa 1 (.g 1)), oL 92 (.ld (.l 91)), oL 93 (.bin .geq (.l 92) (ci 1)), oL 94 (.mv (.l 93)), oLt 95 (.fa 1 (.g 1)) 94, oLt 96 (.ld (.l 95)) 94, oLt 97 (.bin .leq (.l 96) (ci 8)) 94, oL 98 (.pick (.l 94) (.l 97) cF), oL 99 (.mv (.l 98)), oLt 100 (.mv (.g 3)) 99, oLt 101 (.bin .eql (.l 100) (ci 1)) 99, oL 102 (.pick (.l 99) (.l 101) cF), oT 2 (.mv (.l 102))]
def a140r17 : Rg := [oL 104 (.bin .eql (.g 57) (ci 6)), oT 103 (.mv (.l 104))]
def a140r18 : Rg := [oL 105 (.mv (.g 3)), oL 106 (.bin .geq (.l 105) (ci 2)), oL 107 (.mv (.l 106)), oLt 108 (.mv (.g 3)) 107, oLt 109 (.bin .leq (.l 108) (ci 9)) 107, oL 110 (.pick (.l 107) (.l 109) cF), oT 2 (.mv (.l 110))]
def a140r19 : Rg := [oL 112 (.bin .eql (.g 57) (ci 7)), oT 111 (.mv (.l 112))]
def a140r20 : Rg := [oL 113 (.mv (.g 3)), oL 114 (.bin .geq (.l 113) (ci 2)), oL 115 (.mv (.l 114)), oLt 116 (.mv (.g 3)) 115, oLt 117 (.bin .leq (.l 116) (ci 13)) 115, oL 118 (.pick (.l 115) (.l 117) cF), oT 2 (.mv (.l 118))]
def a140r21 : Rg := [oL 120 (.bin .eql (.g 57) (ci 8)), oT 119 (.mv (.l 120))]
def a140r22 : Rg := [oL 121 (.mv (.g 3)), oL 122 (.bin .eql (.l 121) (ci 1)), oL 123 (.mv (.l 122)), oLt 124 (.fa 4 (.g 1)) 123, oLt 125 (.ld (.l 124)) 123, oLt 126 (.cf 175 [(.l 125)]) 123, oL 127 (.pick (.l 123) (.l 126) cF), oT 2 (.mv (.l 127))]
def a140r23 : Rg := [oL 129 (.bin .eql (.g 57) (ci 9)), oT 128 (.mv (.l 129))]
def a140r24 : Rg := [oL 131 (.fa 2 (.g 1)), oL 132 (.ld (.l 131)), oL 133 (.cf 176 [(.l 132)]), oL 130 (.mv (.l 133)), oL 134 (.extract (.l 130) 0), oL 135 (.extract (.l 130) 1), oT 4 (.mv (.l 134)), oT 5 (.mv (.l 135))]
def a140r25 : Rg := [oL 136 (.mv (.g 5)), oL 137 (.mv (.l 136)), oLt 138 (.mv (.g 3)) 137, oLt 139 (.mv (.g 4)) 137, oLt 140 (.bin .eql (.l 138) (.l 139)) 137, oL 141 (.pick (.l 137) (.l 140) cF), oT 2 (.mv (.l 141))]
def a140r26 : Rg := [oT 2 (.mv cF)]
def a140b : ACode := (.seq (rq a140r0) (.seq (rq a140r1) (.seq (.seq (rq a140r2) (.cond (.g 37) (.seq (rq a140r3) .ret) .skip)) (.seq (.seq (rq a140r4) (.cond (.g 55) (.seq (rq a140r5) .ret) .skip)) (.seq (.seq (rq a140r6) (.block 0 (.seq (rq a140r7) (.cond (.g 58) (.seq (rq a140r8) .ret) (.seq (rq a140r9) (.cond (.g 67) (.seq (rq a140r10) .ret) (.seq (rq a140r11) (.cond (.g 76) (.seq (rq a140r12) .ret) (.seq (rq a140r13) (.cond (.g 80) (.seq (rq a140r14) .ret) (.seq (rq a140r15) (.cond (.g 89) (.seq (rq a140r16) .ret) (.seq (rq a140r17) (.cond (.g 103) (.seq (rq a140r18) .ret) (.seq (rq a140r19) (.cond (.g 111) (.seq (rq a140r20) .ret) (.seq (rq a140r21) (.cond (.g 119) (.seq (rq a140r22) .ret) (.seq (rq a140r23) (.cond (.g 128) (.seq (rq a140r24) (.seq (rq a140r25) .ret)) .skip)))))))))))))))))))) (.seq (rq a140r26) .ret))))))
def a140 : AFun := ⟨1, 142, a140b, [.tmp (true, 2)]⟩
theorem c140 : compileFun Tryz.prog [0, 1, 2, 3, 4, 5, 37, 55, 57, 58, 67, 76, 80, 89, 103, 111, 119, 128] Tryz.f140 = some a140 := by kernel_rfl
/- damask/damaskref15.cases -/
def a175r0 : Rg := [oT 2 (.mv cF)]
def a175r1 : Rg := [oL 6 (.mv (.g 0)), oL 7 (.len (.l 6)), oL 8 (.bin .lss (.l 7) (ci 1)), oL 9 (.mv (.l 8)), oLf 10 (.mv (.g 0)) 9, oLf 11 (.len (.l 10)) 9, oLf 12 (.bin .gtr (.l 11) (ci 40)) 9, oT 13 (.pick (.l 9) cT (.l 12))]
def a175r2 : Rg := [oT 2 (.mv cF)]
def a175r3 : Rg := [oT 3 (.mv (ci 0))]
def a175r4 : Rg := [oL 14 (.mv (.g 3)), oL 15 (.mv (.g 0)), oL 16 (.len (.l 15)), oT 17 (.bin .lss (.l 14) (.l 16))]
def a175r5 : Rg := [oL 20 (.mv (.g 0)), oL 21 (.mv (.g 3)), oL 22 (.ia 8 (.l 20) (.l 21)), oL 23 (.load 8 true (.l 22)), oT 4 (.alloc [i0, s0, i0, i0, i0, s0, nl, nl]), oN (.store 8 (.g 4) (.l 23))]
def a175r6 : Rg := [oL 24 (.fa 0 (.g 4)), oT 25 (.ld (.l 24))]
def a175r7 : Rg := [oL 27 (.bin .eql (.g 25) (ci 1)), oT 26 (.mv (.l 27))]
def a175r8 : Rg := [oL 28 (.mv (.g 3)), oL 29 (.mv (.g 0)), oL 30 (.len (.l 29)), oL 31 (.bin .sub (.l 30) (ci 1)), oL 32 (.bin .lss (.l 28) (.l 31)), oL 33 (.mv (.l 32)), oLf 34 (.fa 1 (.g 4)) 33, oLf 35 (.ld (.l 34)) 33, oLf 36 (.bin .neq (.l 35) (.c s0)) 33, oL 37 (.pick (.l 33) cT (.l 36)), oL 38 (.mv (.l 37)), oLf 39 (.fa 2 (.g 4)) 38, oLf 40 (.ld (.l 39)) 38, oLf 41 (.bin .neq (.l 40) (ci 0)) 38, oT 42 (.pick (.l 38) cT (.l 41))]
def a175r9 : Rg := [oT 2 (.mv cF)]
def a175r10 : Rg := [oL 44 (.bin .eql (.g 25) (ci 2)), oT 43 (.mv (.l 44))]
def a175r11 : Rg := [oL 45 (.fa 1 (.g 4)), oL 46 (.ld (.l 45)), oL 47 (.cf 34 [(.l 46)]), oL 48 (.un .not (.l 47)), oL 49 (.mv (.l 48)), oLf 50 (.fa 2 (.g 4)) 49, oLf 51 (.ld (.l 50)) 49, oLf 52 (.bin .lss (.l 51) (ci 0)) 49, oL 53 (.pick (.l 49) cT (.l 52)), oL 54 (.mv (.l 53)), oLf 55 (.fa 2 (.g 4)) 54, oLf 56 (.ld (.l 55)) 54, oLf 57 (.bin .gtr (.l 56) (ci 12)) 54, oT 58 (.pick (.l 54) cT (.l 57))]
def a175r12 : Rg := [oT 2 (.mv cF)]
def a175r13 : Rg := [oL 60 (.bin .eql (.g 25) (ci 3)), oT 59 (.mv (.l 60))]
def a175r14 : Rg := [oL 61 (.fa 1 (.g 4)), oL 62 (.ld (.l 61)), oT 63 (.bin .neq (.l 62) (.c s0))]
def a175r15 : Rg := [oT 2 (.mv cF)]
def a175r16 : Rg := [oT 2 (.mv cF)]
def a175r17 : Rg := [oT 5 (.mv (ci 0))]
def a175r18 : Rg := [oL 64 (.mv (.g 5)), oL 65 (.mv (.g 3)), oT 66 (.bin .lss (.l 64) (.l 65))]
def a175r19 : Rg := [oL 69 (.mv (.g 0)), oL 70 (.mv (.g 5)), oL 71 (.ia 8 (.l 69) (.l 70)), oL 72 (.fa 0 (.l 71)), oL 73 (.ld (.l 72)), oL 74 (.fa 0 (.g 4)), oL 75 (.ld (.l 74)), oL 76 (.bin .neq (.l 73) (.l 75)), oL 77 (.mv (.l 76)), oLf 78 (.fa 0 (.g 4)) 77, oLf 79 (.ld (.l 78)) 77, oLf 80 (.bin .eql (.l 79) (ci 2)) 77, oLf 81 (.mv (.l 80)) 77, oLt 82 (.mv (.g 0)) 81, oLt 83 (.mv (.g 5)) 81, oLt 84 (.ia 8 (.l 82) (.l 83)) 81, oLt 85 (.fa 1 (.l 84)) 81, oLt 86 (.ld (.l 85)) 81, oLt 87 (.fa 1 (.g 4)) 81, oLt 88 (.ld (.l 87)) 81, oLt 89 (.bin .eql (.l 86) (.l 88)) 81, oLf 90 (.pick (.l 81) (.l 89) cF) 77, oL 91 (.pick (.l 77) cT (.l 90)), oL 92 (.mv (.l 91)), oLf 93 (.fa 0 (.g 4)) 92, oLf 94 (.ld (.l 93)) 92, oLf 95 (.bin .eql (.l 94) (ci 3)) 92, oLf 96 (.mv (.l 95)) 92, oLt 97 (.mv (.g 0)) 96, oLt 98 (.mv (.g 5)) 96, oLt 99 (.ia 8 (.l 97) (.l 98)) 96, oLt 100 (.fa 2 (.l 99)) 96, oLt 101 (.ld (.l 100)) 96, oLt 102 (.fa 2 (.g 4)) 96, oLt 103 (.ld (.l 102)) 96, oLt 104 (.bin .eql (.l 101) (.l 103)) 96, oLf 105 (.pick (.l 96) (.l 104) cF) 92, oT 106 (.pick (.l 92) cT (.l 105))]
def a175r20 : Rg := [oT 2 (.mv cF)]
def a175r21 : Rg := [oL 67 (.mv (.g 5)), oL 68 (.bin .add (.l 67) (ci 1)), oT 5 (.mv (.l 68))]
def a175l22 : ACode := (.seq (.seq (rq a175r18) (.cond (.g 66) .skip (.exit 3))) (.seq (.block 4 (.seq (.reg true a175r19) (.cond (.g 106) (.seq (rq a175r20) .ret) .skip))) (rq a175r21)))
def a175r23 : Rg := [oL 18 (.mv (.g 3)), oL 19 (.bin .add (.l 18) (ci 1)), oT 3 (.mv (.l 19))]
def a175l24 : ACode := (.seq (.seq (rq a175r4) (.cond (.g 17) .skip (.exit 0))) (.seq (.block 1 (.seq (rq a175r5) (.seq (.seq (rq a175r6) (.block 2 (.seq (rq a175r7) (.cond (.g 26) (.seq (.seq (rq a175r8) (.cond (.g 42) (.seq (rq a175r9) .ret) .skip)) (.exit 1)) (.seq (rq a175r10) (.cond (.g 43) (.seq (rq a175r11) (.cond (.g 58) (.seq (rq a175r12) .ret) .skip)) (.seq (rq a175r13) (.cond (.g 59) (.seq (rq a175r14) (.cond (.g 63) (.seq (rq a175r15) .ret) .skip)) (.seq (rq a175r16) .ret))))))))) (.seq (rq a175r17) (.block 3 (.loop a175l22)))))) (rq a175r23)))
def a175r25 : Rg := [oT 2 (.mv cT)]
def a175b : ACode := (.seq (rq a175r0) (.seq (.seq (rq a175r1) (.cond (.g 13) (.seq (rq a175r2) .ret) .skip)) (.seq (.seq (rq a175r3) (.block 0 (.loop a175l24))) (.seq (rq a175r25) .ret))))
def a175 : AFun := ⟨1, 107, a175b, [.tmp (true, 2)]⟩
theorem c175 : compileFun Tryz.prog [0, 2, 3, 4, 5, 13, 17, 25, 26, 42, 43, 58, 59, 63, 66, 106] Tryz.f175 = some a175 := by kernel_rfl
/- damask/damaskref15.Arity -/
def a176r0 : Rg := [oT 2 (.mv (ci 0)), oT 3 (.mv cF)]
def a176r1 : Rg := [oL 5 (.mv (.g 0)), oL 6 (.cf 56 [(.l 5)]), oT 4 (.mv (.l 6))]
def a176r2 : Rg := [oL 7 (.mv (.g 4)), oT 8 (.bin .lss (.l 7) (ci 0))]
def a176r3 : Rg := [oT 2 (.mv (ci 0)), oT 3 (.mv cF)]
def a176r4 : Rg := [oL 9 (.mv (.g 4)), oL 10 (.arrAddr 1 27 (.c gv_rar) (.l 9)), oL 11 (.ld (.l 10)), oT 2 (.mv (.l 11)), oT 3 (.mv cT)]
def a176b : ACode := (.seq (rq a176r0) (.seq (rq a176r1) (.seq (.seq (rq a176r2) (.cond (.g 8) (.seq (rq a176r3) .ret) .skip)) (.seq (rq a176r4) .ret))))
def a176 : AFun := ⟨1, 12, a176b, [.tmp (true, 2), .tmp (true, 3)]⟩
theorem c176 : compileFun Tryz.prog [0, 2, 3, 4, 8] Tryz.f176 = some a176 := by kernel_rfl
/- damask/damaskref15.Prim -/
def a56r0 : Rg := [oT 2 (.mv (ci 0))]
def a56r1 : Rg := [oL 5 (.cf 97 []), oT 3 (.mv (.l 5))]
def a56r2 : Rg := [oT 4 (.mv (ci 0))]
def a56r3 : Rg := [oL 6 (.mv (.g 4)), oL 7 (.mv (.g 3)), oL 8 (.len (.l 7)), oT 9 (.bin .lss (.l 6) (.l 8))]
def a56r4 : Rg := [oL 12 (.mv (.g 3)), oL 13 (.mv (.g 4)), oL 14 (.ia 1 (.l 12) (.l 13)), oL 15 (.ld (.l 14)), oL 16 (.mv (.g 0)), oT 17 (.bin .eql (.l 15) (.l 16))]
def a56r5 : Rg := [oL 18 (.mv (.g 4)), oT 2 (.mv (.l 18))]
def a56r6 : Rg := [oL 10 (.mv (.g 4)), oL 11 (.bin .add (.l 10) (ci 1)), oT 4 (.mv (.l 11))]
def a56l7 : ACode := (.seq (.seq (rq a56r3) (.cond (.g 9) .skip (.exit 0))) (.seq (.block 1 (.seq (rq a56r4) (.cond (.g 17) (.seq (rq a56r5) .ret) .skip))) (rq a56r6)))
def a56r8 : Rg := [oT 2 (.mv (ci (-1)))]
def a56b : ACode := (.seq (rq a56r0) (.seq (rq a56r1) (.seq (.seq (rq a56r2) (.block 0 (.loop a56l7))) (.seq (rq a56r8) .ret))))
def a56 : AFun := ⟨1, 19, a56b, [.tmp (true, 2)]⟩
theorem c56 : compileFun Tryz.prog [0, 2, 3, 4, 9, 17] Tryz.f56 = some a56 := by kernel_rfl
/- damask/damaskref15.Prims -/
def a97r0 : Rg := [oT 0 (.mv (.c nl))]
def a97r1 : Rg := [oL 1 (.buildSlice 1 false [s0] 27 [(0, (.c (.str ⟨#[97, 100, 100]⟩))), (1, (.c (.str ⟨#[115, 117, 98]⟩))), (2, (.c (.str ⟨#[109, 117, 108]⟩))), (3, (.c (.str ⟨#[100, 105, 118]⟩))), (4, (.c (.str ⟨#[109, 111, 100]⟩))), (5, (.c (.str ⟨#[101, 113]⟩))), (6, (.c (.str ⟨#[108, 116]⟩))), (7, (.c (.str ⟨#[108, 101]⟩))), (8, (.c (.str ⟨#[115, 101, 113]⟩))), (9, (.c (.str ⟨#[116, 104, 114, 111, 119]⟩))), (10, (.c (.str ⟨#[114, 101, 116, 117, 114, 110, 73, 79]⟩))), (11, (.c (.str ⟨#[98, 105, 110, 100, 73, 79]⟩))), (12, (.c (.str ⟨#[112, 117, 116]⟩))), (13, (.c (.str ⟨#[103, 101, 116]⟩))), (14, (.c (.str ⟨#[99, 97, 116, 99, 104]⟩))), (15, (.c (.str ⟨#[102, 111, 114, 107]⟩))), (16, (.c (.str ⟨#[107, 105, 108, 108]⟩))), (17, (.c (.str ⟨#[109, 97, 115, 107]⟩))), (18, (.c (.str ⟨#[121, 105, 101, 108, 100]⟩))), (19, (.c (.str ⟨#[97, 116, 111, 109, 105, 99, 97, 108, 108, 121]⟩))), (20, (.c (.str ⟨#[114, 101, 116, 117, 114, 110, 83, 84, 77]⟩))), (21, (.c (.str ⟨#[98, 105, 110, 100, 83, 84, 77]⟩))), (22, (.c (.str ⟨#[110, 101, 119, 84, 86, 97, 114]⟩))), (23, (.c (.str ⟨#[114, 101, 97, 100, 84, 86, 97, 114]⟩))), (24, (.c (.str ⟨#[119, 114, 105, 116, 101, 84, 86, 97, 114]⟩))), (25, (.c (.str ⟨#[114, 101, 116, 114, 121]⟩))), (26, (.c (.str ⟨#[111, 114, 69, 108, 115, 101]⟩)))]), oT 0 (.mv (.l 1))]
def a97b : ACode := (.seq (rq a97r0) (.seq (rq a97r1) .ret))
def a97 : AFun := ⟨0, 2, a97b, [.tmp (true, 0)]⟩
theorem c97 : compileFun Tryz.prog [0] Tryz.f97 = some a97 := by kernel_rfl
/- damask/damaskref15.Size -/
def a51r0 : Rg := [oT 1 (.box (.g 0)), oT 2 (.mv (ci 0)), oT 3 (.mv (ci 0)), oT 4 (.mv cF)]
def a51r1 : Rg := [oL 6 (.build [i0, i0, bF] []), oL 7 (.box (.l 6)), oT 5 (.mv (.l 7))]
def a51r2 : Rg := [oL 8 (.mv (.g 5)), oL 9 (.load 5 true (.g 1)), oL 10 (.cf 91 [(.l 8), (.l 9), (ci 1)])]
def a51r3 : Rg := [oL 11 (.mv (.g 5)), oL 12 (.nilCheck (.l 11)), oL 13 (.fa 2 (.l 12)), oT 14 (.ld (.l 13))]
def a51r4 : Rg := [oT 2 (.mv (ci 0)), oT 3 (.mv (ci 0)), oT 4 (.mv cF)]
def a51r5 : Rg := [oL 15 (.mv (.g 5)), oL 16 (.nilCheck (.l 15)), oL 17 (.fa 0 (.l 16)), oL 18 (.ld (.l 17)), oL 19 (.mv (.g 5)), oL 20 (.nilCheck (.l 19)), oL 21 (.fa 1 (.l 20)), oL 22 (.ld (.l 21)), oT 2 (.mv (.l 18)), oT 3 (.mv (.l 22)), oT 4 (.mv cT)]
def a51b : ACode := (.seq (rq a51r0) (.seq (rq a51r1) (.seq (rq a51r2) (.seq (.seq (rq a51r3) (.cond (.g 14) (.seq (rq a51r4) .ret) .skip)) (.seq (.reg true a51r5) .ret)))))
def a51 : AFun := ⟨1, 23, a51b, [.tmp (true, 2), .tmp (true, 3), .tmp (true, 4)]⟩
theorem c51 : compileFun Tryz.prog [0, 1, 2, 3, 4, 5, 14] Tryz.f51 = some a51 := by kernel_rfl
/- damask/damaskref15.Well -/
def a27r0 : Rg := [oT 1 (.box (.g 0)), oT 2 (.mv cF)]
def a27r1 : Rg := [oL 7 (.load 5 true (.g 1)), oL 8 (.cf 51 [(.l 7)]), oL 6 (.mv (.l 8)), oL 9 (.extract (.l 6) 0), oL 10 (.extract (.l 6) 1), oL 11 (.extract (.l 6) 2), oL 3 (.mv (.l 9)), oL 4 (.mv (.l 10)), oT 5 (.mv (.l 11))]
def a27r2 : Rg := [oL 12 (.mv (.g 5)), oT 2 (.mv (.l 12))]
def a27b : ACode := (.seq (rq a27r0) (.seq (rq a27r1) (.seq (rq a27r2) .ret)))
def a27 : AFun := ⟨1, 13, a27b, [.tmp (true, 2)]⟩
theorem c27 : compileFun Tryz.prog [0, 1, 2, 5] Tryz.f27 = some a27 := by kernel_rfl
end Go.AL.Dm
namespace Go.AL.Dm
open Go Go.Proofs
def prims : List ByteArray := [⟨#[97, 100, 100]⟩, ⟨#[115, 117, 98]⟩, ⟨#[109, 117, 108]⟩, ⟨#[100, 105, 118]⟩, ⟨#[109, 111, 100]⟩, ⟨#[101, 113]⟩, ⟨#[108, 116]⟩, ⟨#[108, 101]⟩, ⟨#[115, 101, 113]⟩, ⟨#[116, 104, 114, 111, 119]⟩, ⟨#[114, 101, 116, 117, 114, 110, 73, 79]⟩, ⟨#[98, 105, 110, 100, 73, 79]⟩, ⟨#[112, 117, 116]⟩, ⟨#[103, 101, 116]⟩, ⟨#[99, 97, 116, 99, 104]⟩, ⟨#[102, 111, 114, 107]⟩, ⟨#[107, 105, 108, 108]⟩, ⟨#[109, 97, 115, 107]⟩, ⟨#[121, 105, 101, 108, 100]⟩, ⟨#[97, 116, 111, 109, 105, 99, 97, 108, 108, 121]⟩, ⟨#[114, 101, 116, 117, 114, 110, 83, 84, 77]⟩, ⟨#[98, 105, 110, 100, 83, 84, 77]⟩, ⟨#[110, 101, 119, 84, 86, 97, 114]⟩, ⟨#[114, 101, 97, 100, 84, 86, 97, 114]⟩, ⟨#[119, 114, 105, 116, 101, 84, 86, 97, 114]⟩, ⟨#[114, 101, 116, 114, 121]⟩, ⟨#[111, 114, 69, 108, 115, 101]⟩]
def ars : List Int := [2, 2, 2, 2, 2, 2, 2, 2, 2, 1, 1, 2, 1, 0, 2, 1, 2, 1, 0, 1, 1, 2, 1, 1, 2, 0, 2]
theorem p97 : PureC Tryz.prog 97 [] (.list 1 .none (prims.map .str)) := by
 refine PureC.intro fun s => fun_sound mixed Tryz.func97 Tryz.call97 c97 rfl (awpFun_go _ _ _ _ ?_)
 simp -implicitDefEqProofs (disch:=first|omega|simp only[nx4]<;>omega|fail) [a97, a97b, a97r0, a97r1, prims]
def idxB : List ByteArray → ByteArray → Int → Int
 | [], _, _ => -1
 | x :: r, t, i => if x = t then i else idxB r t (i + 1)
def primI (t : ByteArray) : Int := idxB prims t 0
def I56 (t : ByteArray) (s : St) (m : Nat) (g : Env) (s1 : St) : Prop :=
 ∃ i : Nat, i ≤ 27 ∧ m = 27 - i ∧ idxB (prims.drop i) t i = primI t ∧ g.get 0 = .str t ∧ g.get 3 = .list 1 .none (prims.map .str) ∧ g.get 4 = .int .i64 i ∧ Kept s s1
theorem prims_len : prims.length = 27 := rfl
theorem p56 (t : ByteArray) : PureC Tryz.prog 56 [.str t] (.int .i64 (primI t)) := by
 refine PureC.intro fun s => fun_sound mixed Tryz.func56 Tryz.call56 c56 rfl (awpFun_go _ _ _ _ ?_)
 simp -implicitDefEqProofs (disch:=first|omega|simp only[nx4]<;>omega|fail) [a56, a56b, a56r0, a56r1]
 refine go_pure p97 fun mm1 hm1 => ?_
 try simp only [nx4] at hm1
 simp -implicitDefEqProofs (disch:=first|omega|simp only[nx4]<;>omega|fail) [a56r2]
 refine go_loop (I56 t s) 27 ⟨0, by omega, by omega, rfl, ?_, ?_, ?_, ?_⟩ ?_
 iterate 4 (simp -implicitDefEqProofs (disch:=first|omega|simp only[nx4]<;>omega|fail))
 rintro m g s1 ⟨i, hi, rfl, hw, e0, e3, e4, hk⟩
 by_cases hlt : i < prims.length
 ·have hlt' : (i : Int) < 27 := by rw [prims_len] at hlt; omega
  have w3 := wrapS (i := i) (by omega)
  rw [List.drop_eq_getElem_cons hlt, idxB] at hw
  simp -implicitDefEqProofs (disch:=first|omega|simp only[nx4]<;>omega|fail) [a56l7, a56r3, a56r4, a56r5, e0, e3, e4, hlt', prims_len, getD_map _ _ _ hlt]
  refine ⟨fun h => ?_, fun h => ?_⟩
  ·rw [if_pos h] at hw
   exact ⟨hw, hk⟩
  ·rw [if_neg h] at hw
   simp -implicitDefEqProofs (disch:=first|omega|simp only[nx4]<;>omega|fail) [a56r6, e4, w3]
   refine go_next (27 - (i + 1)) (by omega) ⟨i + 1, by omega, rfl, hw, ?_, ?_, rfl, ?_⟩
   ·simp -implicitDefEqProofs (disch:=first|omega|simp only[nx4]<;>omega|fail) [e0]
   ·simp -implicitDefEqProofs (disch:=first|omega|simp only[nx4]<;>omega|fail) [e3]
   ·simp -implicitDefEqProofs (disch:=first|omega|simp only[nx4]<;>omega|fail) [hk]
 ·have hlt' : ¬ (i : Int) < 27 := by rw [prims_len] at hlt; omega
  rw [List.drop_eq_nil_of_le (by rw [prims_len] at hlt ⊢; omega), idxB] at hw
  simp -implicitDefEqProofs (disch:=first|omega|simp only[nx4]<;>omega|fail) [a56l7, a56r3, a56r8, e0, e3, e4, hlt', prims_len, ← hw, hk]
def arI (t : ByteArray) : Option Int := if primI t < 0 then none else ars[(primI t).toNat]?
theorem idxB_le : ∀ (l : List ByteArray) (t : ByteArray) (i : Int), 0 ≤ i → -1 ≤ idxB l t i ∧ idxB l t i < i + l.length
 | [], t, i, h => by simp [idxB]; omega
 | x :: r, t, i, h => by
  simp only [idxB]
  split
  ·simp; omega
  ·have := idxB_le r t (i + 1) (by omega)
   simp only [List.length_cons]; omega
theorem primI_le (t : ByteArray) : -1 ≤ primI t ∧ primI t < 27 := idxB_le prims t 0 (by omega)
def arR (t : ByteArray) : AV := match arI t with | some n => .tup [.int .i64 n, .bool true] | none => .tup [.int .i64 0, .bool false]
theorem gv_rar_get (k : Nat) (h : k < 27) : ∃ n, ars[k]? = some n ∧ gv_rar = .cptr (ars.map (.int .i64)) := by
 have : k < ars.length := h
 exact ⟨ars[k], by simp [this], rfl⟩
theorem p176 (t : ByteArray) : PureC Tryz.prog 176 [.str t] (arR t) := by
 refine PureC.intro fun s => fun_sound mixed Tryz.func176 Tryz.call176 c176 rfl (awpFun_go _ _ _ _ ?_)
 simp -implicitDefEqProofs (disch:=first|omega|simp only[nx4]<;>omega|fail) [a176, a176b, a176r0, a176r1]
 refine go_pure (p56 t) fun mm2 hm2 => ?_
 try simp only [nx4] at hm2
 simp -implicitDefEqProofs (disch:=first|omega|simp only[nx4]<;>omega|fail) [a176r2]
 obtain ⟨h1, h2⟩ := primI_le t
 refine ⟨fun h => ?_, fun h => ?_⟩
 ·have : arI t = none := by rw [arI, if_pos h]
  simp -implicitDefEqProofs (disch:=first|omega|simp only[nx4]<;>omega|fail) [a176r3, arR, this]
 ·obtain ⟨n, hn, hg⟩ := gv_rar_get (primI t).toNat (by omega)
  have : arI t = some n := by rw [arI, if_neg (by omega)]; exact hn
  have hd : (ars.map (AV.int .i64)).drop (primI t).toNat = .int .i64 n :: (ars.map (AV.int .i64)).drop ((primI t).toNat + 1) := by
   have hl : (primI t).toNat < (ars.map (AV.int .i64)).length := by
    have := (List.getElem?_eq_some_iff.1 hn).1
    simpa using this
   rw [List.drop_eq_getElem_cons hl]
   congr 1
   obtain ⟨q1, q2⟩ := List.getElem?_eq_some_iff.1 hn
   simp [q2]
  simp -implicitDefEqProofs (disch:=first|omega|simp only[nx4]<;>omega|fail) [a176r4, hg, h, h2, hd, arR, this]
theorem cfind_none (t : ByteArray) : ∀ (es : List (Value × Value)), (∀ p ∈ es, ∃ k, p.1 = .string k ∧ k ≠ t) → cfind (.str t) es = some none
 | [], _ => rfl
 | p :: r, h => by
  obtain ⟨k, hk, hne⟩ := h p (by simp)
  have ih := cfind_none t r fun q hq => h q (by simp [hq])
  have hne' : ¬ t = k := fun e => hne e.symm
  rw [cfind, ih, hk]
  simp [constAV, keq, hne']
def keysIn (es : List (Value × Value)) (l : List ByteArray) : Bool := es.all fun p => match p.1 with | .string k => l.any fun x => decide (x = k) | _ => false
theorem keysIn_spec {es : List (Value × Value)} {l : List ByteArray} (h : keysIn es l = true) (t : ByteArray) (ht : ¬ t ∈ l) : cfind (.str t) es = some none := by
 refine cfind_none t es fun p hp => ?_
 have := List.all_eq_true.1 h p hp
 split at this
 ·rename_i k hk
  obtain ⟨x, hx, he⟩ := List.any_eq_true.1 this
  have he := of_decide_eq_true he
  exact ⟨k, hk, fun e => ht (by rw [← e, ← he]; exact hx)⟩
 ·cases this
theorem idxB_none : ∀ (l : List ByteArray) (t : ByteArray) (i : Int), ¬ t ∈ l → idxB l t i = -1
 | [], _, _, _ => rfl
 | x :: r, t, i, h => by
  simp only [List.mem_cons, not_or] at h
  rw [idxB, if_neg (fun e => h.1 e.symm), idxB_none r t _ h.2]
theorem ari_all : ∀ t ∈ prims, cfind (.str t) es_ari = some ((arI t).map (.int .i64)) := by
 intro t ht
 simp only [prims, List.mem_cons, List.not_mem_nil, or_false] at ht
 rcases ht with rfl | rfl | rfl | rfl | rfl | rfl | rfl | rfl | rfl | rfl | rfl | rfl | rfl | rfl | rfl | rfl | rfl | rfl | rfl | rfl | rfl | rfl | rfl | rfl | rfl | rfl | rfl <;> kernel_rfl
theorem ari_find (t : ByteArray) : cfind (.str t) es_ari = some ((arI t).map (.int .i64)) := by
 by_cases h : t ∈ prims
 ·exact ari_all t h
 ·rw [keysIn_spec (l := prims) (by kernel_rfl) t h, arI, primI, idxB_none _ _ _ h]
  rfl
def purI (t : ByteArray) : Bool := decide (0 ≤ primI t ∧ primI t < 10)
theorem pur_all : ∀ t ∈ prims, cfind (.str t) es_pur = some (if purI t then some (.bool true) else none) := by
 intro t ht
 simp only [prims, List.mem_cons, List.not_mem_nil, or_false] at ht
 rcases ht with rfl | rfl | rfl | rfl | rfl | rfl | rfl | rfl | rfl | rfl | rfl | rfl | rfl | rfl | rfl | rfl | rfl | rfl | rfl | rfl | rfl | rfl | rfl | rfl | rfl | rfl | rfl <;> kernel_rfl
theorem pur_find (t : ByteArray) : cfind (.str t) es_pur = some (if purI t then some (.bool true) else none) := by
 by_cases h : t ∈ prims
 ·exact pur_all t h
 ·rw [keysIn_spec (l := prims) (by kernel_rfl) t h, purI, primI, idxB_none _ _ _ h]
  rfl
def shp : Int → Option (Int × Int × Bool × Bool × Bool)
 | 1 => some (0, 0, true, false, false)
 | 2 => some (0, 0, false, true, false)
 | 3 => some (0, 0, true, false, false)
 | 4 => some (0, 12, false, true, false)
 | 5 => some (1, 1, true, false, false)
 | 6 => some (2, 9, false, false, false)
 | 7 => some (2, 13, false, false, false)
 | 8 => some (1, 1, false, false, true)
 | 9 => some (0, 2, false, true, false)
 | _ => none
def shpV (x : Int × Int × Bool × Bool × Bool) : AV := .agg [.int .i64 x.1, .int .i64 x.2.1, .bool x.2.2.1, .bool x.2.2.2.1, .bool x.2.2.2.2]
theorem cfindI_none (n : Int) : ∀ (es : List (Value × Value)), (∀ p ∈ es, ∃ k, p.1 = .int .i64 k ∧ k ≠ n) → cfind (.int .i64 n) es = some none
 | [], _ => rfl
 | p :: r, h => by
  obtain ⟨k, hk, hne⟩ := h p (by simp)
  have ih := cfindI_none n r fun q hq => h q (by simp [hq])
  have hne' : ¬ n = k := fun e => hne e.symm
  rw [cfind, ih, hk]
  simp [constAV, keq, hne']
theorem shp_find (op : Int) : cfind (.int .i64 op) es_shp = some ((shp op).map shpV) := by
 by_cases h : op = 1 ∨ op = 2 ∨ op = 3 ∨ op = 4 ∨ op = 5 ∨ op = 6 ∨ op = 7 ∨ op = 8 ∨ op = 9
 ·rcases h with rfl | rfl | rfl | rfl | rfl | rfl | rfl | rfl | rfl <;> kernel_rfl
 ·have h1 : shp op = none := by
   unfold shp
   split <;> first | rfl | (exfalso; omega)
  rw [h1]
  refine cfindI_none op _ fun p hp => ?_
  simp only [es_shp, List.mem_cons, List.not_mem_nil, or_false] at hp
  rcases hp with rfl | rfl | rfl | rfl | rfl | rfl | rfl | rfl | rfl <;> exact ⟨_, rfl, by omega⟩
end Go.AL.Dm
namespace Go.AL.Dm
open Go Go.Proofs
section
variable {α : Type} [DecidableEq α]
def kset (f : α → AV) (es : List (Nat × AV × AV)) (l : List α) : Prop := es.map (·.2) = l.map fun k => (f k, AV.bool true)
theorem kset_find {f : α → AV} (hf : ∀ a b, keq (f a) (f b) = some (decide (a = b))) (k : α) : ∀ {es : List (Nat × AV × AV)} {l : List α} (_ : kset f es l) (i : Nat),
  ∃ r, mfind (f k) es i = some r ∧ (k ∉ l → r = none) ∧ (k ∈ l → ∃ j, r = some (i + j) ∧ ∃ e, es[j]? = some e ∧ e.2 = (f k, .bool true))
 | [], l, h, i => by
  have : l = [] := by simpa [kset] using h.symm
  subst this
  exact ⟨none, rfl, fun _ => rfl, by simp⟩
 | e :: es, l, h, i => by
  cases l with
  | nil => simp [kset] at h
  | cons x l =>
   simp only [kset, List.map_cons, List.cons.injEq] at h
   obtain ⟨h1, h2⟩ := h
   by_cases hx : k = x
   ·subst hx
    refine ⟨some i, ?_, by simp, fun _ => ⟨0, by simp, e, rfl, h1⟩⟩
    rw [mfind, h1]
    simp [hf]
   ·obtain ⟨r, k1, k2, k3⟩ := kset_find hf k h2 (i + 1)
    refine ⟨r, ?_, fun hn => k2 fun hm => hn (by simp [hm]), fun hm => ?_⟩
    ·rw [mfind, h1]
     simp [hf, hx, k1]
    ·have hm' : k ∈ l := by simpa [hx] using hm
     obtain ⟨j, q1, q2⟩ := k3 hm'
     exact ⟨j + 1, by rw [q1]; congr 1; omega, by simpa using q2⟩
theorem kset_look {f : α → AV} (hf : ∀ a b, keq (f a) (f b) = some (decide (a = b))) (k : α) {es : List (Nat × AV × AV)} {l : List α} (h : kset f es l) (clock : Nat) :
  ∃ r, mfind (f k) es 0 = some r ∧ lookAV false [.bool false] false (r.bind fun i => (es[i]?).map (·.2.2)) = .bool (decide (k ∈ l)) ∧ (r.bind fun i => (es[i]?).map (·.2.2)).isSome = decide (k ∈ l) ∧
   ∃ es' clock', mapSet es clock (f k) (.bool true) r = .map es' clock' ∧ kset f es' (if k ∈ l then l else l ++ [k]) := by
 obtain ⟨r, h1, h2, h3⟩ := kset_find hf k h 0
 refine ⟨r, h1, ?_⟩
 by_cases hm : k ∈ l
 ·obtain ⟨j, hj, e, q1, q2⟩ := h3 hm
  simp only [Nat.zero_add] at hj
  subst hj
  refine ⟨by simp [lookAV, q1, q2, hm], by simp [q1, hm], _, _, rfl, ?_⟩
  rw [if_pos hm]
  unfold kset at h ⊢
  rw [← h]
  apply List.ext_getElem?
  intro n
  simp only [List.getElem?_map, List.getElem?_modify]
  by_cases hn : j = n
  ·subst hn
   simp [q1, q2]
  ·simp [hn]
 ·have hr := h2 hm
  subst hr
  refine ⟨by simp [lookAV, hm], by simp [hm], _, _, rfl, ?_⟩
  rw [if_neg hm]
  unfold kset at h ⊢
  simp [h]
theorem kset_lk {f : α → AV} (hf : ∀ a b, keq (f a) (f b) = some (decide (a = b))) (k : α) {es : List (Nat × AV × AV)} {l : List α} (h : kset f es l) (s : St) (K : KS) :
  lkR false [.bool false] false es (mfind (f k) es 0) s K = K (.bool (decide (k ∈ l))) s := by
 obtain ⟨r, h1, h2, _⟩ := kset_look hf k h 0
 rw [h1]
 show K _ s = _
 rw [h2]
theorem kset_up {f : α → AV} (hf : ∀ a b, keq (f a) (f b) = some (decide (a = b))) (k : α) {es : List (Nat × AV × AV)} {l : List α} (h : kset f es l) (clock : Nat) :
  ∃ es' clock', kset f es' (if k ∈ l then l else l ++ [k]) ∧ ∀ (o : Nat) (s : St) (K : KS), upR o es clock (f k) (.bool true) (mfind (f k) es 0) s K = K (.tup []) (s.set o (.map es' clock')) := by
 obtain ⟨r, h1, _, _, es', clock', h4, h5⟩ := kset_look hf k h clock
 refine ⟨es', clock', h5, fun o s K => ?_⟩
 rw [h1]
 show K _ (s.set o _) = _
 rw [h4]
end
theorem kset_nil {α : Type} (f : α → AV) : kset f [] [] := rfl
theorem keq_str (a b : ByteArray) : keq (.str a) (.str b) = some (decide (a = b)) := rfl
theorem keq_int (a b : Int) : keq (.int .i64 a) (.int .i64 b) = some (decide (a = b)) := by simp [keq]
theorem p116 (a b c : Int) : PureC Tryz.prog 116 [.int .i64 a, .int .i64 b, .int .i64 c] (.bool (decide (b ≤ a) && decide (a ≤ c))) := by
 refine PureC.intro fun s => fun_sound mixed Tryz.func116 Tryz.call116 c116 rfl (awpFun_go _ _ _ _ ?_)
 by_cases h1 : b ≤ a <;> by_cases h2 : a ≤ c <;> simp -implicitDefEqProofs (disch:=first|omega|simp only[nx4]<;>omega|fail) [a116, a116b, a116r0, a116r1, h1, h2]
def emp : ByteArray := ⟨#[]⟩
def headOK (a : Hd) (last : Bool) : Bool :=
 if a.op = 1 then last && decide (a.s = emp) && decide (a.n = 0) else if a.op = 2 then nm a.s && (decide (0 ≤ a.n) && decide (a.n ≤ 12)) else if a.op = 3 then decide (a.s = emp) else false
def pairOK (h a : Hd) : Bool := decide (h.op = a.op) && !(decide (a.op = 2) && decide (h.s = a.s)) && !(decide (a.op = 3) && decide (h.n = a.n))
def altsOK : List Hd → List (Hd × Pl) → Bool
 | _, [] => true
 | pre, a :: r => headOK a.1 r.isEmpty && (if a.1.op = 1 then altsOK pre r else (pre.all fun h => pairOK h a.1) && altsOK (pre ++ [a.1]) r)
end Go.AL.Dm
namespace Go.AL.Dm
open Go Go.Proofs
def I175 (l : List (Hd × Pl)) (s : St) (m : Nat) (g : Env) (s1 : St) : Prop :=
 ∃ i : Nat, i ≤ l.length ∧ m = l.length - i ∧ altsOK ((l.take i).map (·.1)) (l.drop i) = altsOK [] l ∧ g.get 0 = .list 8 .none (l.map Pl.altv) ∧ g.get 3 = .int .i64 i ∧ Kept s s1 ∧ s.nx ≤ s1.nx
def J175 (l : List (Hd × Pl)) (i o : Nat) (a : Hd × Pl) (s : St) (m : Nat) (g : Env) (s1 : St) : Prop :=
 ∃ k : Nat, k ≤ i ∧ m = i - k ∧ (((l.take i).map (·.1)).drop k |>.all fun h => pairOK h a.1) = (((l.take i).map (·.1)).all fun h => pairOK h a.1) ∧
  g.get 0 = .list 8 .none (l.map Pl.altv) ∧ g.get 3 = .int .i64 i ∧ g.get 4 = .ptr o 0 ∧ g.get 5 = .int .i64 k ∧ s1.m o = some (.box (Pl.altv a).cells) ∧ Kept s s1 ∧ o < s1.nx
theorem emp_def : (⟨#[]⟩ : ByteArray) = emp := rfl
theorem p175 (l : List (Hd × Pl)) : PureC Tryz.prog 175 [.list 8 .none (l.map Pl.altv)] (.bool (decide (1 ≤ l.length) && decide (l.length ≤ 40) && altsOK [] l)) := by
 refine PureC.intro fun s => fun_sound mixed Tryz.func175 Tryz.call175 c175 rfl (awpFun_go _ _ _ _ ?_)
 by_cases h1 : (l.length : Int) < 1
 ·have : ¬ 1 ≤ l.length := by omega
  simp -implicitDefEqProofs (disch:=first|omega|simp only[nx4]<;>omega|fail) [a175, a175b, a175r0, a175r1, a175r2, h1, this]
 by_cases h2 : (40 : Int) < l.length
 ·have : ¬ l.length ≤ 40 := by omega
  simp -implicitDefEqProofs (disch:=first|omega|simp only[nx4]<;>omega|fail) [a175, a175b, a175r0, a175r1, a175r2, h1, h2, this]
 have k1 : 1 ≤ l.length := by omega
 have k2 : l.length ≤ 40 := by omega
 simp -implicitDefEqProofs (disch:=first|omega|simp only[nx4]<;>omega|fail) [a175, a175b, a175r0, a175r1, a175r3, h1, h2, k1, k2]
 refine go_loop (I175 l s) l.length ⟨0, by omega, by omega, by simp, ?_, ?_, ?_, ?_⟩ ?_
 iterate 4 (try simp -implicitDefEqProofs (disch:=first|omega|simp only[nx4]<;>omega|fail))
 rintro m g s1 ⟨i, hi, rfl, hw, e0, e3, hk, hn⟩
 by_cases hlt : i < l.length
 ·have hlt' : (i : Int) < l.length := by omega
  have w3 := wrapS (i := i) (by omega)
  have w4 : IntKind.i64.wrap ((l.length : Int) - 1) = (l.length : Int) - 1 := wrap64 (by omega) (by omega)
  rw [List.drop_eq_getElem_cons hlt, altsOK] at hw
  generalize hx : l[i] = x at hw
  have hget : (l.map Pl.altv).getD i .any = Pl.altv x := by rw [getD_map _ _ _ hlt, hx]
  have hemp : (l.drop (i + 1)).isEmpty = decide ((i : Int) = l.length - 1) := by
   by_cases e : i + 1 = l.length
   ·have : (i : Int) = l.length - 1 := by omega
    simp [this, List.drop_eq_nil_of_le (show l.length ≤ i + 1 by omega)]
   ·have : ¬ (i : Int) = l.length - 1 := by omega
    simp [this]; omega
  have e4 : emp = ⟨#[]⟩ := rfl
  have hin : x.1.op ≠ 1 → ((((l.take i).map (·.1)).all fun h => pairOK h x.1) && altsOK ((l.take i).map (·.1) ++ [x.1]) (l.drop (i + 1))) = altsOK [] l →
    ∀ (G : Env) (S : St), G.get 0 = .list 8 .none (l.map Pl.altv) → G.get 3 = .int .i64 i → G.get 4 = .ptr s1.nx 0 → S.m s1.nx = some (.box (Pl.altv x).cells) → Kept s S → s1.nx < S.nx →
    go (awp Tryz.prog (.seq (.reg false a175r17) (.block 3 (.loop a175l22))) (blockQ 1 (seqQ Tryz.prog (.reg false a175r23) (loopQ (l.length - i) (I175 l s) (blockQ 0 (seqQ Tryz.prog (.seq (.reg false a175r25) .ret) (finQ [.tmp (true, 2)] fun r' s' => wk r' (.bool (altsOK [] l)) ∧ Kept s s')))))) G S) := by
   intro hne hall G S g0 g3 g4 hb hk hn1
   simp -implicitDefEqProofs (disch:=first|omega|simp only[nx4]<;>omega|fail) [a175r17]
   refine go_loop (J175 l i s1.nx x s) i ⟨0, by omega, by omega, by simp, ?_, ?_, ?_, ?_, ?_, ?_, ?_⟩ ?_
   iterate 7 (try simp -implicitDefEqProofs (disch:=first|omega|simp only[nx4]<;>omega|fail) [g0, g3, g4, hb, hk])
   ·exact hn1
   rintro m g s2 ⟨k, hki, rfl, hp, e0, e3, e4, e5, hb, hk, hn2⟩
   by_cases hklt : k < i
   ·have hklt' : (k : Int) < i := by omega
    have hkl : k < l.length := by omega
    have hkl' : (k : Int) < l.length := by omega
    have w5 := wrapS (i := k) (by omega)
    have hlen : k < ((l.take i).map (·.1)).length := by simp; omega
    rw [List.drop_eq_getElem_cons hlen, List.all_cons] at hp
    have hy : ((l.take i).map (·.1))[k] = l[k].1 := by simp
    rw [hy] at hp
    generalize hyy : l[k] = y at hp
    have hnext : pairOK y.1 x.1 = true → ∀ mm, s2.nx ≤ mm → go (loopQ (i - k) (J175 l i s1.nx x s) (blockQ 3 (blockQ 1 (seqQ Tryz.prog (.reg false a175r23) (loopQ (l.length - i) (I175 l s) (blockQ 0 (seqQ Tryz.prog (.seq (.reg false a175r25) .ret) (finQ [.tmp (true, 2)] fun r' s' => wk r' (.bool (altsOK [] l)) ∧ Kept s s'))))))) .normal ((5, .int .i64 ((k : Int) + 1)) :: (106, .bool false) :: (66, .bool true) :: g) (s2.bump mm)) := by
     intro hpk mm hmm
     rw [hpk, Bool.true_and] at hp
     refine go_next (i - (k + 1)) (by omega) ⟨k + 1, by omega, rfl, hp, ?_, ?_, ?_, rfl, ?_, ?_, ?_⟩
     all_goals (try simp -implicitDefEqProofs (disch:=first|omega|simp only[nx4]<;>omega|fail) [e0, e3, e4, hb, hk])
     all_goals omega
    by_cases c1 : y.1.op = x.1.op
    ·by_cases q2 : x.1.op = 2
     ·by_cases d : y.1.s = x.1.s
      ·have : pairOK y.1 x.1 = false := by simp [pairOK, c1, q2, d]
       rw [this, Bool.false_and] at hp
       rw [← hp, Bool.false_and] at hall
       simp -implicitDefEqProofs (disch:=first|omega|simp only[nx4]<;>omega|fail) [a175l22, a175r18, a175r19, a175r20, e0, e3, e4, e5, hb, hklt', hkl', hkl, hyy, c1, q2, d, ← hall, hk]
      ·have : pairOK y.1 x.1 = true := by simp [pairOK, c1, q2, d]
       simp -implicitDefEqProofs (disch:=first|omega|simp only[nx4]<;>omega|fail) [a175l22, a175r18, a175r19, a175r20, a175r21, e0, e3, e4, e5, hb, hklt', hkl', hkl, hyy, c1, q2, d, w5]
       exact hnext this
     ·by_cases q3 : x.1.op = 3
      ·by_cases d : y.1.n = x.1.n
       ·have : pairOK y.1 x.1 = false := by simp [pairOK, c1, q3, d]
        rw [this, Bool.false_and] at hp
        rw [← hp, Bool.false_and] at hall
        simp -implicitDefEqProofs (disch:=first|omega|simp only[nx4]<;>omega|fail) [a175l22, a175r18, a175r19, a175r20, e0, e3, e4, e5, hb, hklt', hkl', hkl, hyy, c1, q3, d, ← hall, hk]
       ·have : pairOK y.1 x.1 = true := by simp [pairOK, c1, q3, d]
        simp -implicitDefEqProofs (disch:=first|omega|simp only[nx4]<;>omega|fail) [a175l22, a175r18, a175r19, a175r20, a175r21, e0, e3, e4, e5, hb, hklt', hkl', hkl, hyy, c1, q3, d, w5]
        exact hnext this
      ·have : pairOK y.1 x.1 = true := by simp [pairOK, c1, q2, q3]
       simp -implicitDefEqProofs (disch:=first|omega|simp only[nx4]<;>omega|fail) [a175l22, a175r18, a175r19, a175r20, a175r21, e0, e3, e4, e5, hb, hklt', hkl', hkl, hyy, c1, q2, q3, w5]
       exact hnext this
    ·have : pairOK y.1 x.1 = false := by simp [pairOK, c1]
     rw [this, Bool.false_and] at hp
     rw [← hp, Bool.false_and] at hall
     simp -implicitDefEqProofs (disch:=first|omega|simp only[nx4]<;>omega|fail) [a175l22, a175r18, a175r19, a175r20, e0, e3, e4, e5, hb, hklt', hkl', hkl, hyy, c1, ← hall, hk]
   ·have hklt' : ¬ (k : Int) < i := by omega
    have hlen : ((l.take i).map (·.1)).length ≤ k := by simp; omega
    rw [List.drop_eq_nil_of_le hlen, List.all_nil] at hp
    rw [← hp, Bool.true_and] at hall
    simp -implicitDefEqProofs (disch:=first|omega|simp only[nx4]<;>omega|fail) [a175l22, a175r18, a175r23, e0, e3, e4, e5, hklt', w3]
    refine go_next (l.length - (i + 1)) (by omega) ⟨i + 1, by omega, rfl, ?_, ?_, rfl, ?_, ?_⟩
    ·rw [List.take_add_one, List.getElem?_eq_getElem hlt, hx]
     simpa using hall
    ·simp -implicitDefEqProofs (disch:=first|omega|simp only[nx4]<;>omega|fail) [e0]
    ·simp -implicitDefEqProofs (disch:=first|omega|simp only[nx4]<;>omega|fail) [hk]
    ·omega
  by_cases o1 : x.1.op = 1
  ·by_cases d1 : (i : Int) = l.length - 1
   ·have d1' : ¬ (i : Int) < l.length - 1 := by omega
    by_cases d2 : x.1.s = emp
    ·by_cases d3 : x.1.n = 0
     ·have hh : headOK x.1 (l.drop (i + 1)).isEmpty = true := by simp [headOK, o1, hemp, d1, d2, d3]
      rw [hh, Bool.true_and, if_pos o1, List.drop_eq_nil_of_le (by omega), altsOK] at hw
      simp -implicitDefEqProofs (disch:=first|omega|simp only[nx4]<;>omega|fail) [a175l24, a175r4, a175r5, a175r6, a175r7, a175r8, a175r23, e0, e3, hlt', hx, o1, w4, d1', emp_def, d2, d3, w3]
      refine go_next (l.length - (i + 1)) (by omega) ⟨i + 1, by omega, rfl, ?_, ?_, rfl, ?_, ?_⟩
      ·rw [List.drop_eq_nil_of_le (by omega), altsOK]; exact hw
      ·simp -implicitDefEqProofs (disch:=first|omega|simp only[nx4]<;>omega|fail) [e0]
      ·simp -implicitDefEqProofs (disch:=first|omega|simp only[nx4]<;>omega|fail) [hk]
      ·simp -implicitDefEqProofs (disch:=first|omega|simp only[nx4]<;>omega|fail)
       omega
     ·have hh : headOK x.1 (l.drop (i + 1)).isEmpty = false := by simp [headOK, o1, d3]
      rw [hh, Bool.false_and] at hw
      simp -implicitDefEqProofs (disch:=first|omega|simp only[nx4]<;>omega|fail) [a175l24, a175r4, a175r5, a175r6, a175r7, a175r8, a175r9, e0, e3, hlt', hx, o1, w4, d1', emp_def, d2, d3, ← hw, hk]
    ·have hh : headOK x.1 (l.drop (i + 1)).isEmpty = false := by simp [headOK, o1, d2]
     rw [hh, Bool.false_and] at hw
     simp -implicitDefEqProofs (disch:=first|omega|simp only[nx4]<;>omega|fail) [a175l24, a175r4, a175r5, a175r6, a175r7, a175r8, a175r9, e0, e3, hlt', hx, o1, w4, d1', emp_def, d2, ← hw, hk]
   ·have d1' : (i : Int) < l.length - 1 := by omega
    have hh : headOK x.1 (l.drop (i + 1)).isEmpty = false := by simp [headOK, o1, hemp, d1]
    rw [hh, Bool.false_and] at hw
    simp -implicitDefEqProofs (disch:=first|omega|simp only[nx4]<;>omega|fail) [a175l24, a175r4, a175r5, a175r6, a175r7, a175r8, a175r9, e0, e3, hlt', hx, o1, w4, d1', ← hw, hk]
  rw [if_neg o1] at hw
  by_cases o2 : x.1.op = 2
  ·have h34 := p34 x.1.s
   cases hnm : nm x.1.s with
   | false =>
    rw [hnm] at h34
    have hh : headOK x.1 (l.drop (i + 1)).isEmpty = false := by simp [headOK, o2, hnm]
    rw [hh, Bool.false_and] at hw
    simp -implicitDefEqProofs (disch:=first|omega|simp only[nx4]<;>omega|fail) [a175l24, a175r4, a175r5, a175r6, a175r7, a175r10, a175r11, e0, e3, hlt', hx, o2]
    refine go_pure h34 fun mm1 hm1 => ?_
    try simp only [nx4] at hm1
    simp -implicitDefEqProofs (disch:=first|omega|simp only[nx4]<;>omega|fail) [a175r12, ← hw, hk]
   | true =>
    rw [hnm] at h34
    by_cases d1 : x.1.n < 0
    ·have hh : headOK x.1 (l.drop (i + 1)).isEmpty = false := by simp [headOK, o2]; omega
     rw [hh, Bool.false_and] at hw
     simp -implicitDefEqProofs (disch:=first|omega|simp only[nx4]<;>omega|fail) [a175l24, a175r4, a175r5, a175r6, a175r7, a175r10, a175r11, e0, e3, hlt', hx, o2]
     refine go_pure h34 fun mm2 hm2 => ?_
     try simp only [nx4] at hm2
     simp -implicitDefEqProofs (disch:=first|omega|simp only[nx4]<;>omega|fail) [a175r12, d1, ← hw, hk]
    ·by_cases d2 : 12 < x.1.n
     ·have hh : headOK x.1 (l.drop (i + 1)).isEmpty = false := by simp [headOK, o2]; omega
      rw [hh, Bool.false_and] at hw
      simp -implicitDefEqProofs (disch:=first|omega|simp only[nx4]<;>omega|fail) [a175l24, a175r4, a175r5, a175r6, a175r7, a175r10, a175r11, e0, e3, hlt', hx, o2]
      refine go_pure h34 fun mm3 hm3 => ?_
      try simp only [nx4] at hm3
      simp -implicitDefEqProofs (disch:=first|omega|simp only[nx4]<;>omega|fail) [a175r12, d1, d2, ← hw, hk]
     ·have q1 : 0 ≤ x.1.n := by omega
      have q2 : x.1.n ≤ 12 := by omega
      have hh : headOK x.1 (l.drop (i + 1)).isEmpty = true := by simp [headOK, o2, hnm, q1, q2]
      rw [hh, Bool.true_and] at hw
      simp -implicitDefEqProofs (disch:=first|omega|simp only[nx4]<;>omega|fail) [a175l24, a175r4, a175r5, a175r6, a175r7, a175r10, a175r11, e0, e3, hlt', hx, o2]
      refine go_pure h34 fun mm4 hm4 => ?_
      try simp only [nx4] at hm4
      simp -implicitDefEqProofs (disch:=first|omega|simp only[nx4]<;>omega|fail) [d1, d2]
      refine hin (by omega) hw _ _ ?_ ?_ ?_ ?_ ?_ ?_
      all_goals (try simp -implicitDefEqProofs (disch:=first|omega|simp only[nx4]<;>omega|fail) [e0, e3, hk, o2])
      all_goals omega
  ·by_cases o3 : x.1.op = 3
   ·by_cases d1 : x.1.s = emp
    ·have hh : headOK x.1 (l.drop (i + 1)).isEmpty = true := by simp [headOK, o3, d1]
     rw [hh, Bool.true_and] at hw
     simp -implicitDefEqProofs (disch:=first|omega|simp only[nx4]<;>omega|fail) [a175l24, a175r4, a175r5, a175r6, a175r7, a175r10, a175r13, a175r14, e0, e3, hlt', hx, o3, emp_def, d1]
     refine hin (by omega) hw _ _ ?_ ?_ ?_ ?_ ?_ ?_
     all_goals (try simp -implicitDefEqProofs (disch:=first|omega|simp only[nx4]<;>omega|fail) [e0, e3, hk, o3, d1])
     all_goals omega
    ·have hh : headOK x.1 (l.drop (i + 1)).isEmpty = false := by simp [headOK, o3, d1]
     rw [hh, Bool.false_and] at hw
     simp -implicitDefEqProofs (disch:=first|omega|simp only[nx4]<;>omega|fail) [a175l24, a175r4, a175r5, a175r6, a175r7, a175r10, a175r13, a175r14, a175r15, e0, e3, hlt', hx, o3, emp_def, d1, ← hw, hk]
   ·have hh : headOK x.1 (l.drop (i + 1)).isEmpty = false := by simp [headOK, o1, o2, o3]
    rw [hh, Bool.false_and] at hw
    simp -implicitDefEqProofs (disch:=first|omega|simp only[nx4]<;>omega|fail) [a175l24, a175r4, a175r5, a175r6, a175r7, a175r10, a175r13, a175r16, e0, e3, hlt', hx, o1, o2, o3, ← hw, hk]
 ·have hlt' : ¬ (i : Int) < l.length := by omega
  rw [List.drop_eq_nil_of_le (by omega), altsOK] at hw
  simp -implicitDefEqProofs (disch:=first|omega|simp only[nx4]<;>omega|fail) [a175l24, a175r4, a175r25, e0, e3, hlt', ← hw, hk]
end Go.AL.Dm
namespace Go.AL.Dm
open Go Go.Proofs
instance decMemBA (a : ByteArray) (l : List ByteArray) : Decidable (a ∈ l) := @List.instDecidableMemOfLawfulBEq ByteArray instBEqOfDecidableEq inferInstance a l
structure A117 (pre : List Hd) (kd : Int) (ls : List ByteArray) (ln : List Int) : Prop where
 two : ∀ a : Hd, a.op = 2 → (pre.all fun h => pairOK h a) = ((decide (kd = 0) || decide (kd = 2)) && !decide (a.s ∈ ls))
 three : ∀ a : Hd, a.op = 3 → (pre.all fun h => pairOK h a) = ((decide (kd = 0) || decide (kd = 3)) && !decide (a.n ∈ ln))
theorem A117.nil : A117 [] 0 [] [] := ⟨fun _ _ => rfl, fun _ _ => rfl⟩
theorem A117.add2 {pre : List Hd} {kd : Int} {ls : List ByteArray} {ln : List Int} (h : A117 pre kd ls ln) (a : Hd) (ha : a.op = 2) (hk : kd = 0 ∨ kd = 2) (hs : a.s ∉ ls) : A117 (pre ++ [a]) 2 (ls ++ [a.s]) ln := by
 constructor
 ·intro b hb
  rw [List.all_append, h.two b hb]
  have : (decide (kd = 0) || decide (kd = 2)) = true := by rcases hk with h | h <;> simp [h]
  by_cases e : a.s = b.s
  ·simp [pairOK, ha, hb, e]
  ·have e' : ¬ b.s = a.s := fun h => e h.symm
   simp [this, pairOK, ha, hb, e, e']
 ·intro b hb
  rw [List.all_append, h.three b hb]
  simp [pairOK, ha, hb]
theorem A117.add3 {pre : List Hd} {kd : Int} {ls : List ByteArray} {ln : List Int} (h : A117 pre kd ls ln) (a : Hd) (ha : a.op = 3) (hk : kd = 0 ∨ kd = 3) (hs : a.n ∉ ln) : A117 (pre ++ [a]) 3 ls (ln ++ [a.n]) := by
 constructor
 ·intro b hb
  rw [List.all_append, h.two b hb]
  simp [pairOK, ha, hb]
 ·intro b hb
  rw [List.all_append, h.three b hb]
  have : (decide (kd = 0) || decide (kd = 3)) = true := by rcases hk with h | h <;> simp [h]
  by_cases e : a.n = b.n
  ·simp [pairOK, ha, hb, e]
  ·have e' : ¬ b.n = a.n := fun h => e h.symm
   simp [this, pairOK, ha, hb, e, e']
def I117 (l : List (Hd × Pl)) (s : St) (m : Nat) (g : Env) (s1 : St) : Prop :=
 ∃ (i : Nat) (kd : Int) (ls : List ByteArray) (ln : List Int) (es1 es2 : List (Nat × AV × AV)) (c1 c2 : Nat), i ≤ l.length ∧ m = l.length - i ∧ altsOK ((l.take i).map (·.1)) (l.drop i) = altsOK [] l ∧ (i < l.length → A117 ((l.take i).map (·.1)) kd ls ln) ∧
  kset AV.str es1 ls ∧ kset (AV.int .i64) es2 ln ∧ s1.m s.nx = some (.map es1 c1) ∧ s1.m (s.nx + 1) = some (.map es2 c2) ∧
  g.get 0 = .list 8 .none (l.map Pl.altv) ∧ g.get 3 = .int .i64 kd ∧ g.get 4 = .map s.nx ∧ g.get 5 = .map (s.nx + 1) ∧ g.get 10 = .list 8 .none (l.map Pl.altv) ∧ g.get 11 = .int .i64 l.length ∧ g.get 12 = .int .i64 i ∧ Kept s s1 ∧ s.nx + 1 < s1.nx
theorem p117 (l : List (Hd × Pl)) (hl : l.length ≤ 1000000) : PureC Tryz.prog 117 [.list 8 .none (l.map Pl.altv)] (.bool (altsOK [] l)) := by
 refine PureC.intro fun s => fun_sound mixed Tryz.func117 Tryz.call117 c117 rfl (awpFun_go _ _ _ _ ?_)
 simp -implicitDefEqProofs (disch:=first|omega|simp only[nx4]<;>omega|fail) [a117, a117b, a117r0, a117r1, a117r2, a117r3, a117r4]
 refine go_loop (I117 l s) l.length ⟨0, 0, [], [], [], [], 0, 0, by omega, by omega, by simp, fun _ => A117.nil, rfl, rfl, ?_, ?_, ?_, ?_, ?_, ?_, ?_, ?_, ?_, ?_, ?_⟩ ?_
 iterate 11 (try simp -implicitDefEqProofs (disch:=first|omega|simp only[nx4]<;>omega|fail))
 rintro m g s1 ⟨i, kd, ls, ln, es1, es2, c1, c2, hi, rfl, hw, hA, ks1, ks2, hm1, hm2, e0, e3, e4, e5, e10, e11, e12, hk, hn⟩
 by_cases hlt : i < l.length
 ·have hA := hA hlt
  have hlt' : (i : Int) < l.length := by omega
  have w3 := wrapS (i := i) (by omega)
  have w4 : IntKind.i64.wrap ((l.length : Int) - 1) = (l.length : Int) - 1 := wrap64 (by omega) (by omega)
  rw [List.drop_eq_getElem_cons hlt, altsOK] at hw
  generalize hx : l[i] = x at hw
  have hemp : (l.drop (i + 1)).isEmpty = decide ((i : Int) = l.length - 1) := by
   by_cases e : i + 1 = l.length
   ·have : (i : Int) = l.length - 1 := by omega
    simp [this, List.drop_eq_nil_of_le (show l.length ≤ i + 1 by omega)]
   ·have : ¬ (i : Int) = l.length - 1 := by omega
    simp [this]; omega
  have htk : (l.take (i + 1)).map (·.1) = (l.take i).map (·.1) ++ [x.1] := by
   rw [List.take_add_one, List.getElem?_eq_getElem hlt, hx]
   simp
  have v1 := fun s K => kset_lk keq_str x.1.s ks1 s K
  have v2 := fun s K => kset_lk keq_int x.1.n ks2 s K
  obtain ⟨es1', c1', k1, u1⟩ := kset_up keq_str x.1.s ks1 c1
  obtain ⟨es2', c2', k2, u2⟩ := kset_up keq_int x.1.n ks2 c2
  by_cases o1 : x.1.op = 1
  ·by_cases d1 : (i : Int) = l.length - 1
   ·have hT : ((i : Int) = (l.length : Int) - 1) = True := eq_true d1
    by_cases d2 : x.1.s = emp
    ·by_cases d3 : x.1.n = 0
     ·have hh : headOK x.1 (l.drop (i + 1)).isEmpty = true := by simp [headOK, o1, hemp, d1, d2, d3]
      rw [hh, Bool.true_and, if_pos o1, List.drop_eq_nil_of_le (by omega), altsOK] at hw
      simp -implicitDefEqProofs (disch:=first|omega|simp only[nx4]<;>omega|fail) [a117l24, a117r5, a117r6, a117r7, a117r8, a117r9, a117r23, e0, e3, e10, e11, e12, hlt', hx, o1, w4, hT, emp_def, d2, d3, w3]
      refine go_next (l.length - (i + 1)) (by omega) ⟨i + 1, kd, ls, ln, es1, es2, c1, c2, by omega, rfl, ?_, fun h => ?_, ks1, ks2, ?_, ?_, ?_, ?_, ?_, ?_, ?_, ?_, rfl, ?_, ?_⟩
      ·rw [List.drop_eq_nil_of_le (by omega), altsOK]; exact hw
      ·omega
      all_goals (try simp -implicitDefEqProofs (disch:=first|omega|simp only[nx4]<;>omega|fail) [e0, e3, e4, e5, e10, e11, hk, hm1, hm2])
      all_goals omega
     ·have hh : headOK x.1 (l.drop (i + 1)).isEmpty = false := by simp [headOK, o1, d3]
      rw [hh, Bool.false_and] at hw
      simp -implicitDefEqProofs (disch:=first|omega|simp only[nx4]<;>omega|fail) [a117l24, a117r5, a117r6, a117r7, a117r8, a117r9, a117r10, e0, e3, e10, e11, e12, hlt', hx, o1, w4, hT, emp_def, d2, d3, ← hw, hk]
    ·have hh : headOK x.1 (l.drop (i + 1)).isEmpty = false := by simp [headOK, o1, d2]
     rw [hh, Bool.false_and] at hw
     simp -implicitDefEqProofs (disch:=first|omega|simp only[nx4]<;>omega|fail) [a117l24, a117r5, a117r6, a117r7, a117r8, a117r9, a117r10, e0, e3, e10, e11, e12, hlt', hx, o1, w4, hT, emp_def, d2, ← hw, hk]
   ·have hh : headOK x.1 (l.drop (i + 1)).isEmpty = false := by simp [headOK, o1, hemp, d1]
    rw [hh, Bool.false_and] at hw
    simp -implicitDefEqProofs (disch:=first|omega|simp only[nx4]<;>omega|fail) [a117l24, a117r5, a117r6, a117r7, a117r8, a117r9, a117r10, e0, e3, e10, e11, e12, hlt', hx, o1, w4, d1, ← hw, hk]
  rw [if_neg o1] at hw
  by_cases o2 : x.1.op = 2
  ·have h34 := p74 x.1.s
   cases hnm : nm x.1.s with
   | false =>
    rw [hnm] at h34
    have hh : headOK x.1 (l.drop (i + 1)).isEmpty = false := by simp [headOK, o2, hnm]
    rw [hh, Bool.false_and] at hw
    simp -implicitDefEqProofs (disch:=first|omega|simp only[nx4]<;>omega|fail) [a117l24, a117r5, a117r6, a117r7, a117r8, a117r11, a117r12, e0, e3, e10, e11, e12, hlt', hx, o2]
    refine go_pure h34 fun mm1 hm1 => ?_
    try simp only [nx4] at hm1
    simp -implicitDefEqProofs (disch:=first|omega|simp only[nx4]<;>omega|fail) [a117r13, ← hw, hk]
   | true =>
    rw [hnm] at h34
    rw [hA.two x.1 o2] at hw
    by_cases d0 : x.1.s ∈ ls
    ·have d0' : decide (x.1.s ∈ ls) = true := decide_eq_true d0
     rw [d0', Bool.not_true, Bool.and_false, Bool.false_and, Bool.and_false] at hw
     simp -implicitDefEqProofs (disch:=first|omega|simp only[nx4]<;>omega|fail) [a117l24, a117r5, a117r6, a117r7, a117r8, a117r11, a117r12, e0, e3, e4, e5, e10, e11, e12, hlt', hx, o2]
     refine go_pure h34 fun mm2 hm2 => ?_
     try simp only [nx4] at hm2
     simp -implicitDefEqProofs (disch:=first|omega|simp only[nx4]<;>omega|fail) [e4, e5, hm1, v1, d0, a117r13, hk, ← hw]
    ·have d0' : decide (x.1.s ∈ ls) = false := decide_eq_false d0
     rw [if_neg d0] at k1
     have h116 := p116 x.1.n 0 12
     rw [d0', Bool.not_false, Bool.and_true] at hw
     by_cases d1 : 0 ≤ x.1.n ∧ x.1.n ≤ 12
     ·have hh : headOK x.1 (l.drop (i + 1)).isEmpty = true := by simp [headOK, o2, hnm, d1]
      rw [hh, Bool.true_and] at hw
      have d1' : (decide (0 ≤ x.1.n) && decide (x.1.n ≤ 12)) = true := by simp [d1]
      rw [d1'] at h116
      simp -implicitDefEqProofs (disch:=first|omega|simp only[nx4]<;>omega|fail) [a117l24, a117r5, a117r6, a117r7, a117r8, a117r11, a117r12, e0, e3, e4, e5, e10, e11, e12, hlt', hx, o2]
      refine go_pure h34 fun mm3 hm3 => ?_
      try simp only [nx4] at hm3
      simp -implicitDefEqProofs (disch:=first|omega|simp only[nx4]<;>omega|fail) [e4, e5, hm1, v1, d0]
      refine go_pure h116 fun mm4 hm4 => ?_
      try simp only [nx4] at hm4
      simp -implicitDefEqProofs (disch:=first|omega|simp only[nx4]<;>omega|fail) [a117r14, e4, hm1, u1]
      by_cases q : kd = 0 ∨ kd = 2
      ·have hq : (decide (kd = 0) || decide (kd = 2)) = true := by rcases q with h | h <;> simp [h]
       rw [hq, Bool.true_and] at hw
       have hA' := hA.add2 x.1 o2 q d0
       rcases q with q0 | q0
       all_goals
        simp -implicitDefEqProofs (disch:=first|omega|simp only[nx4]<;>omega|fail) [a117r20, a117r22, a117r23, e3, q0, e12, w3]
        refine go_next (l.length - (i + 1)) (by omega) ⟨i + 1, 2, ls ++ [x.1.s], ln, es1', es2, c1', c2, by omega, rfl, ?_, fun _ => ?_, k1, ks2, ?_, ?_, ?_, ?_, ?_, ?_, ?_, ?_, rfl, ?_, ?_⟩
        ·rw [htk]; exact hw
        ·rw [htk]; exact hA'
        all_goals (try simp -implicitDefEqProofs (disch:=first|omega|simp only[nx4]<;>omega|fail) [e0, e3, e4, e5, e10, e11, hk, hm1, hm2, o2])
        all_goals omega
      ·have hq : (decide (kd = 0) || decide (kd = 2)) = false := by simpa [not_or] using q
       rw [hq, Bool.false_and] at hw
       have q1 : ¬ kd = 0 := fun h => q (.inl h)
       have q2 : ¬ kd = 2 := fun h => q (.inr h)
       simp -implicitDefEqProofs (disch:=first|omega|simp only[nx4]<;>omega|fail) [a117r20, a117r21, e3, q1, q2, ← hw, hk]
     ·have hh : headOK x.1 (l.drop (i + 1)).isEmpty = false := by simp [headOK, o2, hnm]; omega
      rw [hh, Bool.false_and] at hw
      have d1' : (decide (0 ≤ x.1.n) && decide (x.1.n ≤ 12)) = false := by
       by_cases q : 0 ≤ x.1.n
       ·have : ¬ x.1.n ≤ 12 := fun h => d1 ⟨q, h⟩
        simp [this]
       ·simp [q]
      rw [d1'] at h116
      simp -implicitDefEqProofs (disch:=first|omega|simp only[nx4]<;>omega|fail) [a117l24, a117r5, a117r6, a117r7, a117r8, a117r11, a117r12, e0, e3, e4, e5, e10, e11, e12, hlt', hx, o2]
      refine go_pure h34 fun mm5 hm5 => ?_
      try simp only [nx4] at hm5
      simp -implicitDefEqProofs (disch:=first|omega|simp only[nx4]<;>omega|fail) [e4, e5, hm1, v1, d0]
      refine go_pure h116 fun mm6 hm6 => ?_
      try simp only [nx4] at hm6
      simp -implicitDefEqProofs (disch:=first|omega|simp only[nx4]<;>omega|fail) [a117r13, hk, ← hw]
  ·by_cases o3 : x.1.op = 3
   ·rw [hA.three x.1 o3] at hw
    by_cases d1 : x.1.s = emp
    ·have hh : headOK x.1 (l.drop (i + 1)).isEmpty = true := by simp [headOK, o3, d1]
     rw [hh, Bool.true_and] at hw
     by_cases d0 : x.1.n ∈ ln
     ·have d0' : decide (x.1.n ∈ ln) = true := decide_eq_true d0
      rw [d0', Bool.not_true, Bool.and_false, Bool.false_and] at hw
      simp -implicitDefEqProofs (disch:=first|omega|simp only[nx4]<;>omega|fail) [a117l24, a117r5, a117r6, a117r7, a117r8, a117r11, a117r15, a117r16, a117r17, e0, e3, e4, e5, e10, e11, e12, hlt', hx, o3, emp_def, d1, hm2, v2, d0, hk, ← hw]
     ·have d0' : decide (x.1.n ∈ ln) = false := decide_eq_false d0
      rw [if_neg d0] at k2
      rw [d0', Bool.not_false, Bool.and_true] at hw
      simp -implicitDefEqProofs (disch:=first|omega|simp only[nx4]<;>omega|fail) [a117l24, a117r5, a117r6, a117r7, a117r8, a117r11, a117r15, a117r16, a117r18, e0, e3, e4, e5, e10, e11, e12, hlt', hx, o3, emp_def, d1, hm2, v2, d0, u2]
      by_cases q : kd = 0 ∨ kd = 3
      ·have hq : (decide (kd = 0) || decide (kd = 3)) = true := by rcases q with h | h <;> simp [h]
       rw [hq, Bool.true_and] at hw
       have hA' := hA.add3 x.1 o3 q d0
       rcases q with q0 | q0
       all_goals
        simp -implicitDefEqProofs (disch:=first|omega|simp only[nx4]<;>omega|fail) [a117r20, a117r22, a117r23, e3, q0, e12, w3]
        refine go_next (l.length - (i + 1)) (by omega) ⟨i + 1, 3, ls, ln ++ [x.1.n], es1, es2', c1, c2', by omega, rfl, ?_, fun _ => ?_, ks1, k2, ?_, ?_, ?_, ?_, ?_, ?_, ?_, ?_, rfl, ?_, ?_⟩
        ·rw [htk]; exact hw
        ·rw [htk]; exact hA'
        all_goals (try simp -implicitDefEqProofs (disch:=first|omega|simp only[nx4]<;>omega|fail) [e0, e3, e4, e5, e10, e11, hk, hm1, hm2, o3])
        all_goals omega
      ·have hq : (decide (kd = 0) || decide (kd = 3)) = false := by simpa [not_or] using q
       rw [hq, Bool.false_and] at hw
       have q1 : ¬ kd = 0 := fun h => q (.inl h)
       have q2 : ¬ kd = 3 := fun h => q (.inr h)
       simp -implicitDefEqProofs (disch:=first|omega|simp only[nx4]<;>omega|fail) [a117r20, a117r21, e3, q1, q2, ← hw, hk]
    ·have hh : headOK x.1 (l.drop (i + 1)).isEmpty = false := by simp [headOK, o3, d1]
     rw [hh, Bool.false_and] at hw
     simp -implicitDefEqProofs (disch:=first|omega|simp only[nx4]<;>omega|fail) [a117l24, a117r5, a117r6, a117r7, a117r8, a117r11, a117r15, a117r16, a117r17, e0, e3, e4, e5, e10, e11, e12, hlt', hx, o3, emp_def, d1, hk, ← hw]
   ·have hh : headOK x.1 (l.drop (i + 1)).isEmpty = false := by simp [headOK, o1, o2, o3]
    rw [hh, Bool.false_and] at hw
    simp -implicitDefEqProofs (disch:=first|omega|simp only[nx4]<;>omega|fail) [a117l24, a117r5, a117r6, a117r7, a117r8, a117r11, a117r15, a117r19, e0, e3, e4, e5, e10, e11, e12, hlt', hx, o1, o2, o3, hk, ← hw]
 ·have hlt' : ¬ (i : Int) < l.length := by omega
  rw [List.drop_eq_nil_of_le (by omega), altsOK] at hw
  simp -implicitDefEqProofs (disch:=first|omega|simp only[nx4]<;>omega|fail) [a117l24, a117r5, a117r25, e10, e11, e12, hlt', ← hw, hk]
end Go.AL.Dm
namespace Go.AL.Dm
open Go Go.Proofs
def formOK (t : Pl) : Bool :=
 if t.op = 1 then decide (0 ≤ t.n) && decide (t.args.length = 0)
 else if t.op = 2 then nm t.s && decide (t.args.length = 0)
 else if t.op = 3 then decide (t.args.length = 0)
 else if t.op = 4 then nm t.s && decide (t.args.length ≤ 12)
 else if t.op = 5 then (decide (1 ≤ t.n) && decide (t.n ≤ 8)) && decide (t.args.length = 1)
 else if t.op = 6 then decide (2 ≤ t.args.length) && decide (t.args.length ≤ 9)
 else if t.op = 7 then decide (2 ≤ t.args.length) && decide (t.args.length ≤ 13)
 else if t.op = 8 then decide (t.args.length = 1) && (decide (1 ≤ t.alts.length) && decide (t.alts.length ≤ 40) && altsOK [] t.alts)
 else if t.op = 9 then (match arI t.s with | some k => decide ((t.args.length : Int) = k) | none => false)
 else false
def nodeOK (t : Pl) : Bool :=
 !(decide (t.op ≠ 8) && decide (0 < t.alts.length)) && !(decide (t.n ≠ 0) && decide (t.op ≠ 1) && decide (t.op ≠ 3) && decide (t.op ≠ 5)) && !(decide (t.s ≠ emp) && decide (t.op ≠ 2) && decide (t.op ≠ 4) && decide (t.op ≠ 9)) && formOK t
theorem len0 {α : Type} (l : List α) : ((l.length : Int) = 0) = (l.length = 0) := by simp
theorem len1 {α : Type} (l : List α) : ((l.length : Int) = 1) = (l.length = 1) := by apply propext; omega
theorem lenle {α : Type} (l : List α) (k : Nat) : ((l.length : Int) ≤ (k : Int)) = (l.length ≤ k) := by apply propext; omega
theorem gele {α : Type} (l : List α) (k : Nat) : ((k : Int) ≤ (l.length : Int)) = (k ≤ l.length) := by apply propext; omega
set_option maxHeartbeats 4000000 in
theorem p140 (t : Pl) : PureC Tryz.prog 140 [t.av] (.bool (nodeOK t)) := by
 refine PureC.intro fun s => fun_sound mixed Tryz.func140 Tryz.call140 c140 rfl (awpFun_go _ _ _ _ ?_)
 by_cases a : t.op ≠ 8 ∧ 0 < t.alts.length
 ·obtain ⟨a1, a2⟩ := a
  simp -implicitDefEqProofs (disch:=first|omega|simp only[nx4]<;>omega|fail) [a140, a140b, a140r0, a140r1, a140r2, a140r3, nodeOK, a1, a2]
 by_cases b : t.n ≠ 0 ∧ t.op ≠ 1 ∧ t.op ≠ 3 ∧ t.op ≠ 5
 ·obtain ⟨b1, b2, b3, b4⟩ := b
  by_cases a1 : t.op = 8
  ·simp -implicitDefEqProofs (disch:=first|omega|simp only[nx4]<;>omega|fail) [a140, a140b, a140r0, a140r1, a140r2, a140r3, nodeOK, a1, b1]
  ·have a2 : ¬ 0 < t.alts.length := fun h => a ⟨a1, h⟩
   simp -implicitDefEqProofs (disch:=first|omega|simp only[nx4]<;>omega|fail) [a140, a140b, a140r0, a140r1, a140r2, a140r3, nodeOK, a1, a2, b1, b2, b3, b4]
 by_cases c : t.s ≠ emp ∧ t.op ≠ 2 ∧ t.op ≠ 4 ∧ t.op ≠ 9
 ·obtain ⟨c1, c2, c3, c4⟩ := c
  by_cases a1 : t.op = 8
  ·have b1 : t.n = 0 := by
    by_cases q : t.n = 0
    ·exact q
    ·exact absurd ⟨q, by omega, by omega, by omega⟩ b
   simp -implicitDefEqProofs (disch:=first|omega|simp only[nx4]<;>omega|fail) [a140, a140b, a140r0, a140r1, a140r2, a140r4, a140r5, nodeOK, a1, b1, emp_def, c1]
  ·have a2 : ¬ 0 < t.alts.length := fun h => a ⟨a1, h⟩
   by_cases b1 : t.n = 0
   ·simp -implicitDefEqProofs (disch:=first|omega|simp only[nx4]<;>omega|fail) [a140, a140b, a140r0, a140r1, a140r2, a140r4, a140r5, nodeOK, a1, a2, b1, emp_def, c1, c2, c3, c4]
   ·by_cases b2 : t.op = 1
    ·simp -implicitDefEqProofs (disch:=first|omega|simp only[nx4]<;>omega|fail) [a140, a140b, a140r0, a140r1, a140r2, a140r4, a140r5, nodeOK, a2, b1, b2, emp_def, c1]
    ·by_cases b3 : t.op = 3
     ·simp -implicitDefEqProofs (disch:=first|omega|simp only[nx4]<;>omega|fail) [a140, a140b, a140r0, a140r1, a140r2, a140r4, a140r5, nodeOK, a2, b1, b3, emp_def, c1]
     ·by_cases b4 : t.op = 5
      ·simp -implicitDefEqProofs (disch:=first|omega|simp only[nx4]<;>omega|fail) [a140, a140b, a140r0, a140r1, a140r2, a140r4, a140r5, nodeOK, a2, b1, b4, emp_def, c1]
      ·exact absurd ⟨b1, b2, b3, b4⟩ b
 have a0 : t.op ≠ 8 → ¬ 0 < t.alts.length := fun h1 h2 => a ⟨h1, h2⟩
 have n0 : t.op ≠ 1 → t.op ≠ 3 → t.op ≠ 5 → t.n = 0 := fun h1 h2 h3 => by
  by_cases q : t.n = 0
  ·exact q
  ·exact absurd ⟨q, h1, h2, h3⟩ b
 have s0 : t.op ≠ 2 → t.op ≠ 4 → t.op ≠ 9 → t.s = emp := fun h1 h2 h3 => by
  by_cases q : t.s = emp
  ·exact q
  ·exact absurd ⟨q, h1, h2, h3⟩ c
 have hk : nodeOK t = formOK t := by
  have e1 : (decide (t.op ≠ 8) && decide (0 < t.alts.length)) = false := by
   by_cases q : t.op = 8
   ·simp [q]
   ·have := a0 q
    simp [this]
  have e2 : (decide (t.n ≠ 0) && decide (t.op ≠ 1) && decide (t.op ≠ 3) && decide (t.op ≠ 5)) = false := by
   by_cases q1 : t.op = 1
   ·simp [q1]
   by_cases q2 : t.op = 3
   ·simp [q2]
   by_cases q3 : t.op = 5
   ·simp [q3]
   simp [n0 q1 q2 q3]
  have e3 : (decide (t.s ≠ emp) && decide (t.op ≠ 2) && decide (t.op ≠ 4) && decide (t.op ≠ 9)) = false := by
   by_cases q1 : t.op = 2
   ·simp [q1]
   by_cases q2 : t.op = 4
   ·simp [q2]
   by_cases q3 : t.op = 9
   ·simp [q3]
   simp [s0 q1 q2 q3]
  rw [nodeOK, e1, e2, e3]
  rfl
 rw [hk]
 by_cases o1 : t.op = 1
 ·have q1 := a0 (by omega)
  have q3 := s0 (by omega) (by omega) (by omega)
  by_cases p1 : 0 ≤ t.n <;> by_cases p2 : t.args.length = 0 <;> by_cases p3 : t.n = 0 <;> first | omega | simp -implicitDefEqProofs (disch:=first|omega|simp only[nx4]<;>omega|fail) [a140, a140b, a140r0, a140r1, a140r2, a140r4, a140r6, a140r7, a140r8, emp_def, o1, q1, q3, formOK, len0, p1, p2, p3]
 by_cases o2 : t.op = 2
 ·have q1 := a0 (by omega)
  have q2 := n0 (by omega) (by omega) (by omega)
  have h34 := p34 t.s
  cases hnm : nm t.s <;> rw [hnm] at h34 <;> by_cases p2 : t.args = [] <;> by_cases p3 : t.s = emp
  all_goals
   simp -implicitDefEqProofs (disch:=first|omega|simp only[nx4]<;>omega|fail) [a140, a140b, a140r0, a140r1, a140r2, a140r4, a140r6, a140r7, a140r9, a140r10, emp_def, o2, q1, q2, formOK, p3, hnm]
   try rw [p3] at h34
   refine go_pure h34 fun m1 hm1 => ?_
   simp -implicitDefEqProofs (disch:=first|omega|simp only[nx4]<;>omega|fail) [len0, p2, hnm]
   try (rw [p3] at hnm; simp [hnm])
 by_cases o3 : t.op = 3
 ·have q1 := a0 (by omega)
  have q3 := s0 (by omega) (by omega) (by omega)
  by_cases p3 : t.n = 0 <;> by_cases p2 : t.args.length = 0 <;> first | omega | simp -implicitDefEqProofs (disch:=first|omega|simp only[nx4]<;>omega|fail) [a140, a140b, a140r0, a140r1, a140r2, a140r4, a140r6, a140r7, a140r9, a140r11, a140r12, emp_def, o3, q1, q3, formOK, len0, p3, p2]
 by_cases o4 : t.op = 4
 ·have q1 := a0 (by omega)
  have q2 := n0 (by omega) (by omega) (by omega)
  have r2 : ((t.args.length : Int) ≤ 12) = (t.args.length ≤ 12) := by apply propext; omega
  have h34 := p34 t.s
  cases hnm : nm t.s <;> rw [hnm] at h34 <;> by_cases p2 : t.args.length ≤ 12 <;> by_cases p3 : t.s = emp
  all_goals
   simp -implicitDefEqProofs (disch:=first|omega|simp only[nx4]<;>omega|fail) [a140, a140b, a140r0, a140r1, a140r2, a140r4, a140r6, a140r7, a140r9, a140r11, a140r13, a140r14, emp_def, o4, q1, q2, formOK, p3, hnm]
   try rw [p3] at h34
   refine go_pure h34 fun m1 hm1 => ?_
   simp -implicitDefEqProofs (disch:=first|omega|simp only[nx4]<;>omega|fail) [r2, p2, hnm]
   try (rw [p3] at hnm; simp [hnm])
 by_cases o5 : t.op = 5
 ·have q1 := a0 (by omega)
  have q3 := s0 (by omega) (by omega) (by omega)
  by_cases p1 : 1 ≤ t.n <;> by_cases p4 : t.n ≤ 8 <;> by_cases p3 : t.n = 0 <;> by_cases p2 : t.args.length = 1 <;> first | omega | simp -implicitDefEqProofs (disch:=first|omega|simp only[nx4]<;>omega|fail) [a140, a140b, a140r0, a140r1, a140r2, a140r4, a140r6, a140r7, a140r9, a140r11, a140r13, a140r15, a140r16, emp_def, o5, q1, q3, formOK, len1, p1, p4, p3, p2]
 by_cases o6 : t.op = 6
 ·have q1 := a0 (by omega)
  have q2 := n0 (by omega) (by omega) (by omega)
  have q3 := s0 (by omega) (by omega) (by omega)
  have r1 : ((2 : Int) ≤ (t.args.length : Int)) = (2 ≤ t.args.length) := by apply propext; omega
  have r2 : ((t.args.length : Int) ≤ 9) = (t.args.length ≤ 9) := by apply propext; omega
  by_cases p1 : 2 ≤ t.args.length <;> by_cases p2 : t.args.length ≤ 9 <;> first | omega | simp -implicitDefEqProofs (disch:=first|omega|simp only[nx4]<;>omega|fail) [a140, a140b, a140r0, a140r1, a140r2, a140r4, a140r6, a140r7, a140r9, a140r11, a140r13, a140r15, a140r17, a140r18, emp_def, o6, q1, q2, q3, formOK, r1, r2, p1, p2]
 by_cases o7 : t.op = 7
 ·have q1 := a0 (by omega)
  have q2 := n0 (by omega) (by omega) (by omega)
  have q3 := s0 (by omega) (by omega) (by omega)
  have r1 : ((2 : Int) ≤ (t.args.length : Int)) = (2 ≤ t.args.length) := by apply propext; omega
  have r2 : ((t.args.length : Int) ≤ 13) = (t.args.length ≤ 13) := by apply propext; omega
  by_cases p1 : 2 ≤ t.args.length <;> by_cases p2 : t.args.length ≤ 13 <;> first | omega | simp -implicitDefEqProofs (disch:=first|omega|simp only[nx4]<;>omega|fail) [a140, a140b, a140r0, a140r1, a140r2, a140r4, a140r6, a140r7, a140r9, a140r11, a140r13, a140r15, a140r17, a140r19, a140r20, emp_def, o7, q1, q2, q3, formOK, r1, r2, p1, p2]
 by_cases o8 : t.op = 8
 ·have q2 := n0 (by omega) (by omega) (by omega)
  have q3 := s0 (by omega) (by omega) (by omega)
  by_cases p2 : t.args.length = 1
  ·simp -implicitDefEqProofs (disch:=first|omega|simp only[nx4]<;>omega|fail) [a140, a140b, a140r0, a140r1, a140r2, a140r4, a140r6, a140r7, a140r9, a140r11, a140r13, a140r15, a140r17, a140r19, a140r21, a140r22, emp_def, o8, q2, q3, formOK, len1, p2]
   refine go_pure (p175 t.alts) fun mm1 hm1 => ?_
   try simp only [nx4] at hm1
   simp -implicitDefEqProofs (disch:=first|omega|simp only[nx4]<;>omega|fail)
  ·simp -implicitDefEqProofs (disch:=first|omega|simp only[nx4]<;>omega|fail) [a140, a140b, a140r0, a140r1, a140r2, a140r4, a140r6, a140r7, a140r9, a140r11, a140r13, a140r15, a140r17, a140r19, a140r21, a140r22, emp_def, o8, q2, q3, formOK, len1, p2]
 by_cases o9 : t.op = 9
 ·have q1 := a0 (by omega)
  have q2 := n0 (by omega) (by omega) (by omega)
  have h176 := p176 t.s
  unfold arR at h176
  by_cases p3 : t.s = emp
  ·simp -implicitDefEqProofs (disch:=first|omega|simp only[nx4]<;>omega|fail) [a140, a140b, a140r0, a140r1, a140r2, a140r4, a140r6, a140r7, a140r9, a140r11, a140r13, a140r15, a140r17, a140r19, a140r21, a140r23, a140r24, a140r25, emp_def, o9, q1, q2, formOK, p3]
   rw [p3] at h176
   have he : arI emp = none := by kernel_rfl
   rw [he] at h176
   refine go_pure h176 fun mm2 hm2 => ?_
   try simp only [nx4] at hm2
   simp -implicitDefEqProofs (disch:=first|omega|simp only[nx4]<;>omega|fail) [he]
  ·cases har : arI t.s with
   | none =>
    rw [har] at h176
    simp -implicitDefEqProofs (disch:=first|omega|simp only[nx4]<;>omega|fail) [a140, a140b, a140r0, a140r1, a140r2, a140r4, a140r6, a140r7, a140r9, a140r11, a140r13, a140r15, a140r17, a140r19, a140r21, a140r23, a140r24, a140r25, emp_def, o9, q1, q2, formOK, p3]
    refine go_pure h176 fun mm3 hm3 => ?_
    try simp only [nx4] at hm3
    simp -implicitDefEqProofs (disch:=first|omega|simp only[nx4]<;>omega|fail) [har]
   | some k =>
    rw [har] at h176
    simp -implicitDefEqProofs (disch:=first|omega|simp only[nx4]<;>omega|fail) [a140, a140b, a140r0, a140r1, a140r2, a140r4, a140r6, a140r7, a140r9, a140r11, a140r13, a140r15, a140r17, a140r19, a140r21, a140r23, a140r24, a140r25, emp_def, o9, q1, q2, formOK, p3]
    refine go_pure h176 fun mm4 hm4 => ?_
    try simp only [nx4] at hm4
    simp -implicitDefEqProofs (disch:=first|omega|simp only[nx4]<;>omega|fail) [har]
 have q1 := a0 o8
 have q2 := n0 o1 o3 o5
 have q3 := s0 o2 o4 o9
 simp -implicitDefEqProofs (disch:=first|omega|simp only[nx4]<;>omega|fail) [a140, a140b, a140r0, a140r1, a140r2, a140r4, a140r6, a140r7, a140r9, a140r11, a140r13, a140r15, a140r17, a140r19, a140r21, a140r23, a140r26, emp_def, o1, o2, o3, o4, o5, o6, o7, o8, o9, q1, q2, q3, formOK]
end Go.AL.Dm
namespace Go.AL.Dm
open Go Go.Proofs
mutual
def wf : Pl → Bool
 | .mk op n s args alts => nodeOK (.mk op n s args alts) && wfs args && wfa alts
def wfs : List Pl → Bool
 | [] => true
 | t :: ts => wf t && wfs ts
def wfa : List (Hd × Pl) → Bool
 | [] => true
 | (_, b) :: ts => wf b && wfa ts
end
theorem wf_eq (t : Pl) : wf t = (nodeOK t && wfs t.args && wfa t.alts) := by cases t; rw [wf]; rfl
mutual
def sz : Pl → Int
 | .mk _ _ _ args alts => 1 + szs args + sza alts
def szs : List Pl → Int
 | [] => 0
 | t :: ts => sz t + szs ts
def sza : List (Hd × Pl) → Int
 | [] => 0
 | (_, b) :: ts => 1 + sz b + sza ts
end
theorem sz_eq (t : Pl) : sz t = 1 + szs t.args + sza t.alts := by cases t; rw [sz]; rfl
mutual
def dw : Pl → Int
 | .mk _ _ _ args alts => 1 + max (dws args) (dwa alts)
def dws : List Pl → Int
 | [] => 0
 | t :: ts => max (dw t) (dws ts)
def dwa : List (Hd × Pl) → Int
 | [] => 0
 | (_, b) :: ts => max (1 + dw b) (dwa ts)
end
theorem dw_eq (t : Pl) : dw t = 1 + max (dws t.args) (dwa t.alts) := by cases t; rw [dw]; rfl
theorem szs_pos : ∀ (ts : List Pl), (∀ x ∈ ts, 1 ≤ sz x) → 0 ≤ szs ts
 | [], _ => by simp [szs]
 | t :: ts, h => by
  have := h t (by simp)
  have := szs_pos ts fun x hx => h x (by simp [hx])
  simp only [szs]; omega
theorem sza_pos : ∀ (ts : List (Hd × Pl)), (∀ x ∈ ts, 1 ≤ sz x.2) → 0 ≤ sza ts
 | [], _ => by simp [sza]
 | (hh, t) :: ts, h => by
  have : 1 ≤ sz t := h (hh, t) (by simp)
  have := sza_pos ts fun x hx => h x (by simp [hx])
  simp only [sza]; omega
theorem sz_pos (t : Pl) : 1 ≤ sz t := by
 induction t using Pl.ind with
 | h t ih1 ih2 =>
  have := szs_pos _ ih1
  have := sza_pos _ ih2
  rw [sz_eq]; omega
theorem dws_pos : ∀ (ts : List Pl), 0 ≤ dws ts
 | [] => by simp [dws]
 | t :: ts => by have := dws_pos ts; simp only [dws]; omega
theorem dwa_pos : ∀ (ts : List (Hd × Pl)), 0 ≤ dwa ts
 | [] => by simp [dwa]
 | (_, t) :: ts => by have := dwa_pos ts; simp only [dwa]; omega
theorem dw_pos (t : Pl) : 1 ≤ dw t := by have := dws_pos t.args; rw [dw_eq]; omega
theorem wts_spec : ∀ (ts : List Pl) (most deep n : Int), (∀ x ∈ ts, ∀ most deep, 0 ≤ most → 0 ≤ deep → wt x most deep ≤ most → wt x most deep = sz x ∧ dw x ≤ 2 * deep - 1) → 0 ≤ most → 1 ≤ deep → wts ts most deep n ≤ most →
  wts ts most deep n = n + szs ts ∧ dws ts ≤ max 0 (2 * (deep - 1) - 1)
 | [], most, deep, n, _, _, _, h1 => by simp [wts, szs, dws]; omega
 | t :: ts, most, deep, n, h, hm, hd, h1 => by
  simp only [wts] at h1 ⊢
  split at h1
  ·rename_i hn
   rw [if_pos hn]
   obtain ⟨k1, k2⟩ := wts_spec ts most deep (n + wt t (most - n) (deep - 1)) (fun x hx => h x (by simp [hx])) hm hd h1
   have hpos := szs_pos ts fun x _ => sz_pos x
   obtain ⟨q1, q2⟩ := h t (by simp) (most - n) (deep - 1) (by omega) (by omega) (by omega)
   simp only [szs, dws]
   omega
  ·omega
theorem wta_spec : ∀ (ts : List (Hd × Pl)) (most deep n : Int), (∀ x ∈ ts, ∀ most deep, 0 ≤ most → 0 ≤ deep → wt x.2 most deep ≤ most → wt x.2 most deep = sz x.2 ∧ dw x.2 ≤ 2 * deep - 1) → 0 ≤ most → 1 ≤ deep → wta ts most deep n ≤ most →
  wta ts most deep n = n + sza ts ∧ dwa ts ≤ max 0 (2 * (deep - 1))
 | [], most, deep, n, _, _, _, h1 => by simp [wta, sza, dwa]; omega
 | (hh, t) :: ts, most, deep, n, h, hm, hd, h1 => by
  simp only [wta] at h1 ⊢
  split at h1
  ·rename_i hn
   rw [if_pos hn]
   obtain ⟨k1, k2⟩ := wta_spec ts most deep (n + 1 + wt t (most - n) (deep - 1)) (fun x hx => h x (by simp [hx])) hm hd h1
   have hpos := sza_pos ts fun x _ => sz_pos x.2
   obtain ⟨q1, q2⟩ := h (hh, t) (by simp) (most - n) (deep - 1) (by omega) (by omega) (by simp only; omega)
   simp only at q1 q2
   simp only [sza, dwa]
   omega
  ·omega
theorem wt_spec (t : Pl) : ∀ most deep, 0 ≤ most → 0 ≤ deep → wt t most deep ≤ most → wt t most deep = sz t ∧ dw t ≤ 2 * deep - 1 := by
 induction t using Pl.ind with
 | h t ih1 ih2 =>
  intro most deep hm hd h
  rw [wt_eq] at h ⊢
  split at h
  ·omega
  ·rename_i h0
   rw [if_neg h0]
   obtain ⟨k1, k2⟩ := wta_spec t.alts most deep _ ih2 hm (by omega) h
   have hpos := sza_pos t.alts fun x _ => sz_pos x.2
   obtain ⟨k3, k4⟩ := wts_spec t.args most deep 1 ih1 hm (by omega) (by omega)
   rw [sz_eq, dw_eq]
   omega
def cnt (n d : Int) : AObj := .box [.int .i64 n, .int .i64 d]
theorem p115 (d nn dd : Int) (o : Nat) (s : St) (K : AV → St → Prop) (hd0 : 0 ≤ d) (hd : d ≤ 1000) (h0 : 0 ≤ nn) (h1 : nn ≤ 100000) (hm : s.m o = some (cnt nn dd)) (ho : o < s.nx)
  (hK : ∀ m, s.nx ≤ m → K (.bool (decide (nn + 1 ≤ 4000) && decide (d ≤ 200))) ((s.set o (cnt (nn + 1) (max dd d))).bump m)) : ACalls Tryz.prog 115 [.ptr o 0, .int .i64 d] s K := by
 refine ACalls.upd ho (fun_sound mixed Tryz.func115 Tryz.call115 c115 rfl (awpFun_go _ _ _ _ ?_)) hK
 have w1 : IntKind.i64.wrap (nn + 1) = nn + 1 := wrap64 (by omega) (by omega)
 have e1 : (if dd < d then d else dd) = max dd d := by omega
 rw [cnt] at hm
 by_cases a1 : nn + 1 ≤ 4000 <;> by_cases a2 : d ≤ 200 <;> simp -implicitDefEqProofs (disch:=first|omega|simp only[nx4]<;>omega|fail) [a115, a115b, a115r0, a115r1, a115r2, a115r3, hm, w1, a1, a2, e1, cnt]
end Go.AL.Dm
namespace Go.AL.Dm
open Go Go.Proofs
def nameOK (t : Pl) (s : Bool) : Bool := if t.op = 9 then decide (arI t.s = some (t.args.length : Int)) else if s then nm t.s else decide (t.s = emp)
def progOK (t : Pl) : Bool :=
 match shp t.op with
 | none => false
 | some (lo, hi, n, s, al) => (decide (lo ≤ t.args.length) && decide ((t.args.length : Int) ≤ hi)) && !(!n && decide (t.n ≠ 0)) && (al == decide (0 < t.alts.length)) && !decide (40 < t.alts.length) &&
   nameOK t s && !(decide (t.op = 1) && decide (t.n < 0)) && !(decide (t.op = 5) && !(decide (1 ≤ t.n) && decide (t.n ≤ 8))) && altsOK [] t.alts
theorem arI_le (t : ByteArray) (k : Int) (h : arI t = some k) : 0 ≤ k ∧ k ≤ 2 := by
 unfold arI at h
 split at h
 ·cases h
 ·have hm := List.mem_of_getElem? h
  simp only [ars, List.mem_cons, List.not_mem_nil, or_false] at hm
  omega
set_option maxHeartbeats 2000000 in
theorem progOK_eq (t : Pl) : progOK t = nodeOK t := by
 have hz : t.alts.length = 0 → altsOK [] t.alts = true := fun h => by rw [List.length_eq_zero_iff.1 h, altsOK]
 rw [Bool.eq_iff_iff]
 by_cases o : t.op = 1 ∨ t.op = 2 ∨ t.op = 3 ∨ t.op = 4 ∨ t.op = 5 ∨ t.op = 6 ∨ t.op = 7 ∨ t.op = 8 ∨ t.op = 9
 ·rcases o with o | o | o | o | o | o | o | o | o
  case inr.inr.inr.inr.inr.inr.inr.inr =>
   cases ha : t.alts with
   | nil =>
    cases har : arI t.s with
    | none => simp [progOK, nodeOK, formOK, nameOK, o, shp, ha, altsOK, har]
    | some k =>
     have := arI_le _ _ har
     simp [progOK, nodeOK, formOK, nameOK, o, shp, ha, altsOK, har]
     omega
   | cons x r => simp [progOK, nodeOK, formOK, nameOK, o, shp, ha]
  case inr.inr.inr.inr.inr.inr.inr.inl =>
   cases ha : t.alts with
   | nil => simp [progOK, nodeOK, formOK, nameOK, o, shp, ha, altsOK]
   | cons x r =>
    simp [progOK, nodeOK, formOK, nameOK, o, shp, ha]
    grind
  all_goals
   cases ha : t.alts with
   | nil =>
    simp [progOK, nodeOK, formOK, nameOK, o, shp, ha, altsOK]
    try grind
   | cons x r => simp [progOK, nodeOK, formOK, nameOK, o, shp, ha]
 ·have : shp t.op = none := by
   unfold shp
   split <;> first | rfl | (exfalso; omega)
  have h1 : formOK t = false := by
   unfold formOK
   repeat rw [if_neg (by omega)]
  simp [progOK, this, nodeOK, h1]
end Go.AL.Dm
namespace Go.AL.Dm
open Go Go.Proofs
def R82 (t : Pl) (nn : Int) (o : Nat) (s : St) (r : AV) (s' : St) : Prop := r = .bool (wf t) ∧ ∃ nn' dd', nn ≤ nn' ∧ nn' ≤ nn + sz t ∧ s'.m o = some (cnt nn' dd') ∧ KeptX s o s'
def C82 (t : Pl) : Prop := ∀ (d nn dd : Int) (o : Nat) (s : St), 1 ≤ d → d + dw t ≤ 201 → 0 ≤ nn → nn + sz t ≤ 4000 → s.m o = some (cnt nn dd) → o < s.nx →
 ACalls Tryz.prog 82 [.ptr o 0, t.av, .int .i64 d] s (R82 t nn o s)
theorem keptX_trans {s s1 s2 : St} {o : Nat} (h : KeptX s o s1) (h2 : KeptX s1 o s2) (hn : s.nx ≤ s1.nx) : KeptX s o s2 := fun q hq hne => (h2 q (by omega) hne).trans (h q hq hne)
def IB82 (t : Pl) (d nn : Int) (o : Nat) (s : St) (m : Nat) (g : Env) (s1 : St) : Prop :=
 ∃ (i : Nat) (nb db : Int), i ≤ t.alts.length ∧ m = t.alts.length - i ∧ wfa (t.alts.drop i) = wf t ∧ nn ≤ nb ∧ nb + sza (t.alts.drop i) ≤ nn + sz t ∧ d + 1 + dwa (t.alts.drop i) ≤ 201 ∧
  g.get 0 = .ptr o 0 ∧ g.get 2 = .int .i64 d ∧ g.get 138 = .list 8 .none (t.alts.map Pl.altv) ∧ g.get 139 = .int .i64 t.alts.length ∧ g.get 140 = .int .i64 i ∧ s1.m o = some (cnt nb db) ∧ KeptX s o s1 ∧ s.nx ≤ s1.nx
theorem loopB82 (t : Pl) (ih2 : ∀ a ∈ t.alts, C82 a.2) (d nn : Int) (o : Nat) (s : St) (hd : 1 ≤ d) (hd2 : d + 1 + dwa t.alts ≤ 201) (hw : wfa t.alts = wf t) (hn : 0 ≤ nn) (hn2 : nn + sz t ≤ 4000) (nb db : Int) (hb1 : nn ≤ nb) (hb2 : nb + sza t.alts ≤ nn + sz t)
  (G : Env) (S : St) (g0 : G.get 0 = .ptr o 0) (g2 : G.get 2 = .int .i64 d) (g4 : G.get 4 = .ptr s.nx 0) (hbx : S.m s.nx = some (.box t.av.cells)) (hm : S.m o = some (cnt nb db)) (hk : KeptX s o S) (hnx : s.nx < S.nx) (ho : o < s.nx) (hlen : t.alts.length ≤ 4000) :
  go (awp Tryz.prog (.seq (.seq (.reg false a82r19) (.block 3 (.loop a82l25))) (.seq (.reg false a82r26) .ret)) (finQ [.tmp (true, 6)] (R82 t nn o s)) G S) := by
 simp -implicitDefEqProofs (disch:=first|omega|simp only[nx4]<;>omega|fail) [a82r19, g4, hbx]
 refine go_loop (IB82 t d nn o s) t.alts.length ⟨0, nb, db, by omega, by omega, by simpa using hw, hb1, by simpa using hb2, by simpa using hd2, ?_, ?_, ?_, ?_, ?_, hm, hk, by omega⟩ ?_
 iterate 5 (simp -implicitDefEqProofs (disch:=first|omega|simp only[nx4]<;>omega|fail) [g0, g2])
 rintro m g s1 ⟨i, nb, db, hi, rfl, hw, hb1, hb2, hd2, e0, e2, e138, e139, e140, hm, hk, hnx⟩
 by_cases hlt : i < t.alts.length
 ·have hlt' : (i : Int) < t.alts.length := by omega
  have w3 := wrapS (i := i) (by omega)
  have w1 : IntKind.i64.wrap (d + 1) = d + 1 := wrap64 (by omega) (by have := dwa_pos (t.alts.drop i); omega)
  have w2 : IntKind.i64.wrap (d + 2) = d + 2 := wrap64 (by omega) (by have := dwa_pos (t.alts.drop i); omega)
  rw [List.drop_eq_getElem_cons hlt] at hw hb2 hd2
  have ihx := ih2 _ (List.getElem_mem hlt)
  generalize hx : t.alts[i] = x at hw hb2 hd2 ihx
  obtain ⟨xh, xb⟩ := x
  simp only [wfa] at hw
  simp only [sza] at hb2
  simp only [dwa] at hd2
  simp only at ihx
  have z1 := sz_pos xb
  have z2 := sza_pos (t.alts.drop (i + 1)) fun x _ => sz_pos x.2
  have z3 := dw_pos xb
  simp -implicitDefEqProofs (disch:=first|omega|simp only[nx4]<;>omega|fail) [a82l25, a82r20, a82r21, a82r22, e0, e2, e138, e139, e140, hlt', hx, w1, w2]
  refine go_calls (p115 (d + 1) nb db o _ _ (by omega) (by omega) (by omega) (by omega) (by simp -implicitDefEqProofs (disch:=first|omega|simp only[nx4]<;>omega|fail) [hm]) (by simp -implicitDefEqProofs (disch:=first|omega|simp only[nx4]<;>omega|fail); omega) fun m1 hm1 => go_of ?_)
  try simp only [St.new_nx, St.bump_nx, St.set_nx, St.del_nx] at hm1
  have t1 : nb + 1 ≤ 4000 := by omega
  have t2 : d + 1 ≤ 200 := by omega
  simp -implicitDefEqProofs (disch:=first|omega|simp only[nx4]<;>omega|fail) [t1, t2, e0, e2, w2]
  refine go_calls (ACalls.mono (ihx (d + 2) (nb + 1) (max db (d + 1)) o _ (by omega) (by omega) (by omega) (by omega) (by simp -implicitDefEqProofs (disch:=first|omega|simp only[nx4]<;>omega|fail)) (by simp -implicitDefEqProofs (disch:=first|omega|simp only[nx4]<;>omega|fail); omega)) fun r s' hn' h => go_of ?_)
  try simp only [St.new_nx, St.bump_nx, St.set_nx, St.del_nx] at hn'
  obtain ⟨rfl, nn', dd', q1, q2, q3, q4⟩ := h
  have hk' : KeptX s o s' := keptX_trans (by simp -implicitDefEqProofs (disch:=first|omega|simp only[nx4]<;>omega|fail) [hk]) q4 (by simp -implicitDefEqProofs (disch:=first|omega|simp only[nx4]<;>omega|fail); omega)
  cases hb : wf xb with
  | false =>
   simp -implicitDefEqProofs (disch:=first|omega|simp only[nx4]<;>omega|fail) [a82r23]
   exact ⟨by rw [← hw, hb, Bool.false_and], nn', dd', by omega, by omega, q3, hk'⟩
  | true =>
   rw [hb, Bool.true_and] at hw
   simp -implicitDefEqProofs (disch:=first|omega|simp only[nx4]<;>omega|fail) [a82r24, e140, w3]
   refine go_next (t.alts.length - (i + 1)) (by omega) ⟨i + 1, nn', dd', by omega, rfl, hw, by omega, by omega, by omega, ?_, ?_, ?_, ?_, rfl, q3, hk', by omega⟩
   all_goals simp -implicitDefEqProofs (disch:=first|omega|simp only[nx4]<;>omega|fail) [e0, e2, e138, e139]
 ·have hlt' : ¬ (i : Int) < t.alts.length := by omega
  rw [List.drop_eq_nil_of_le (by omega)] at hw hb2
  simp only [wfa] at hw
  simp only [sza] at hb2
  simp -implicitDefEqProofs (disch:=first|omega|simp only[nx4]<;>omega|fail) [a82l25, a82r20, a82r26, e0, e2, e138, e139, e140, hlt']
  exact ⟨by rw [← hw], nb, db, hb1, by omega, hm, hk⟩
def IA82 (t : Pl) (d nn : Int) (o : Nat) (s : St) (m : Nat) (g : Env) (s1 : St) : Prop :=
 ∃ (i : Nat) (nb db : Int), i ≤ t.args.length ∧ m = t.args.length - i ∧ (wfs (t.args.drop i) && wfa t.alts) = wf t ∧ nn ≤ nb ∧ nb + szs (t.args.drop i) + sza t.alts ≤ nn + sz t ∧ d + dws (t.args.drop i) ≤ 200 ∧
  g.get 0 = .ptr o 0 ∧ g.get 2 = .int .i64 d ∧ g.get 4 = .ptr s.nx 0 ∧ g.get 124 = .list 5 .none (t.args.map Pl.av) ∧ g.get 125 = .int .i64 t.args.length ∧ g.get 126 = .int .i64 i ∧ s1.m s.nx = some (.box t.av.cells) ∧ s1.m o = some (cnt nb db) ∧ KeptX s o s1 ∧ s.nx < s1.nx
theorem loopA82 (t : Pl) (ih1 : ∀ x ∈ t.args, C82 x) (ih2 : ∀ a ∈ t.alts, C82 a.2) (d nn : Int) (o : Nat) (s : St) (hd : 1 ≤ d) (hd2 : d + dw t ≤ 201) (hw : (wfs t.args && wfa t.alts) = wf t) (hn : 0 ≤ nn) (hn2 : nn + sz t ≤ 4000) (nb db : Int) (hb1 : nn ≤ nb) (hb2 : nb + szs t.args + sza t.alts ≤ nn + sz t)
  (G : Env) (S : St) (g0 : G.get 0 = .ptr o 0) (g2 : G.get 2 = .int .i64 d) (g4 : G.get 4 = .ptr s.nx 0) (hbx : S.m s.nx = some (.box t.av.cells)) (hm : S.m o = some (cnt nb db)) (hk : KeptX s o S) (hnx : s.nx < S.nx) (ho : o < s.nx) (hla : t.args.length ≤ 4000) (hlen : t.alts.length ≤ 4000) :
  go (awp Tryz.prog (.seq (.seq (.reg false a82r12) (.block 1 (.loop a82l18))) (.seq (.seq (.reg false a82r19) (.block 3 (.loop a82l25))) (.seq (.reg false a82r26) .ret))) (finQ [.tmp (true, 6)] (R82 t nn o s)) G S) := by
 have hde := dw_eq t
 have hda := dwa_pos t.alts
 have hza := sza_pos t.alts fun x _ => sz_pos x.2
 simp -implicitDefEqProofs (disch:=first|omega|simp only[nx4]<;>omega|fail) [a82r12, g4, hbx]
 refine go_loop (IA82 t d nn o s) t.args.length ⟨0, nb, db, by omega, by omega, by simpa using hw, hb1, by simpa using hb2, by simp only [List.drop_zero]; omega, ?_, ?_, ?_, ?_, ?_, ?_, hbx, hm, hk, hnx⟩ ?_
 iterate 6 (simp -implicitDefEqProofs (disch:=first|omega|simp only[nx4]<;>omega|fail) [g0, g2, g4])
 rintro m g s1 ⟨i, nb, db, hi, rfl, hw, hb1, hb2, hd3, e0, e2, e4, e124, e125, e126, hbx, hm, hk, hnx⟩
 by_cases hlt : i < t.args.length
 ·have hlt' : (i : Int) < t.args.length := by omega
  have w3 := wrapS (i := i) (by omega)
  have w1 : IntKind.i64.wrap (d + 1) = d + 1 := wrap64 (by omega) (by have := dws_pos (t.args.drop i); omega)
  rw [List.drop_eq_getElem_cons hlt] at hw hb2 hd3
  have ihx := ih1 _ (List.getElem_mem hlt)
  generalize hx : t.args[i] = x at hw hb2 hd3 ihx
  simp only [wfs] at hw
  simp only [szs] at hb2
  simp only [dws] at hd3
  have z1 := sz_pos x
  have z2 := szs_pos (t.args.drop (i + 1)) fun x _ => sz_pos x
  have z3 := dw_pos x
  simp -implicitDefEqProofs (disch:=first|omega|simp only[nx4]<;>omega|fail) [a82l18, a82r13, a82r14, a82r15, e0, e2, e124, e125, e126, hlt', hx, w1]
  refine go_calls (ACalls.mono (ihx (d + 1) nb db o _ (by omega) (by omega) (by omega) (by omega) (by simp -implicitDefEqProofs (disch:=first|omega|simp only[nx4]<;>omega|fail) [hm]) (by simp -implicitDefEqProofs (disch:=first|omega|simp only[nx4]<;>omega|fail); omega)) fun r s' hn' h => go_of ?_)
  try simp only [St.new_nx, St.bump_nx, St.set_nx, St.del_nx] at hn'
  obtain ⟨rfl, nn', dd', q1, q2, q3, q4⟩ := h
  have hk' : KeptX s o s' := keptX_trans (by simp -implicitDefEqProofs (disch:=first|omega|simp only[nx4]<;>omega|fail) [hk]) q4 (by simp -implicitDefEqProofs (disch:=first|omega|simp only[nx4]<;>omega|fail); omega)
  cases hb : wf x with
  | false =>
   simp -implicitDefEqProofs (disch:=first|omega|simp only[nx4]<;>omega|fail) [a82r16]
   exact ⟨by rw [← hw, hb, Bool.false_and, Bool.false_and], nn', dd', by omega, by omega, q3, hk'⟩
  | true =>
   rw [hb, Bool.true_and] at hw
   simp -implicitDefEqProofs (disch:=first|omega|simp only[nx4]<;>omega|fail) [a82r17, e126, w3]
   refine go_next (t.args.length - (i + 1)) (by omega) ⟨i + 1, nn', dd', by omega, rfl, hw, by omega, by omega, by omega, ?_, ?_, ?_, ?_, ?_, rfl, ?_, q3, hk', by omega⟩
   iterate 5 (simp -implicitDefEqProofs (disch:=first|omega|simp only[nx4]<;>omega|fail) [e0, e2, e4, e124, e125])
   rw [q4 s.nx (by simp -implicitDefEqProofs (disch:=first|omega|simp only[nx4]<;>omega|fail); omega) (by omega)]
   simp -implicitDefEqProofs (disch:=first|omega|simp only[nx4]<;>omega|fail) [hbx]
 ·have hlt' : ¬ (i : Int) < t.args.length := by omega
  rw [List.drop_eq_nil_of_le (by omega)] at hw hb2
  simp only [wfs, Bool.true_and] at hw
  simp only [szs] at hb2
  simp -implicitDefEqProofs (disch:=first|omega|simp only[nx4]<;>omega|fail) [a82l18, a82r13, e0, e2, e4, e124, e125, e126, hlt']
  refine loopB82 t ih2 d nn o s hd (by omega) hw hn hn2 nb db hb1 (by omega) _ _ ?_ ?_ ?_ hbx hm hk hnx ho hlen
  all_goals simp -implicitDefEqProofs (disch:=first|omega|simp only[nx4]<;>omega|fail) [e0, e2, e4]
end Go.AL.Dm
namespace Go.AL.Dm
open Go Go.Proofs
theorem szs_len : ∀ (ts : List Pl), (ts.length : Int) ≤ szs ts
 | [] => by simp [szs]
 | t :: ts => by have := sz_pos t; have := szs_len ts; simp only [szs, List.length_cons]; omega
theorem sza_len : ∀ (ts : List (Hd × Pl)), (ts.length : Int) ≤ sza ts
 | [] => by simp [sza]
 | (_, t) :: ts => by have := sz_pos t; have := sza_len ts; simp only [sza, List.length_cons]; omega
def rest82 : ACode := .seq (.reg false a82r4) (.seq (.block 0 (.seq (.reg false a82r5) (.cond (.g 76) (.reg false a82r6) (.seq (.reg false a82r7) (.cond (.g 88) (.reg false a82r8) (.reg false a82r9)))))) (.seq (.seq (.reg false a82r10) (.cond (.g 122) (.seq (.reg false a82r11) .ret) .skip))
 (.seq (.seq (.reg false a82r12) (.block 1 (.loop a82l18))) (.seq (.seq (.reg false a82r19) (.block 3 (.loop a82l25))) (.seq (.reg false a82r26) .ret)))))
theorem tail82 (t : Pl) (ih1 : ∀ x ∈ t.args, C82 x) (ih2 : ∀ a ∈ t.alts, C82 a.2) (d nn dd : Int) (o : Nat) (s : St) (hd : 1 ≤ d) (hd2 : d + dw t ≤ 201) (hn : 0 ≤ nn) (hn2 : nn + sz t ≤ 4000) (lo hi : Int) (bn bs al : Bool)
  (hwf : wf t = (nameOK t bs && !(decide (t.op = 1) && decide (t.n < 0)) && !(decide (t.op = 5) && !(decide (1 ≤ t.n) && decide (t.n ≤ 8))) && altsOK [] t.alts && wfs t.args && wfa t.alts))
  (G : Env) (S : St) (g0 : G.get 0 = .ptr o 0) (g2 : G.get 2 = .int .i64 d) (g4 : G.get 4 = .ptr s.nx 0) (g7 : G.get 7 = .ptr (s.nx + 1) 0) (g8 : G.get 8 = .bool true) (hbx : S.m s.nx = some (.box t.av.cells)) (hb7 : S.m (s.nx + 1) = some (.box [.int .i64 lo, .int .i64 hi, .bool bn, .bool bs, .bool al]))
  (hm : S.m o = some (cnt (nn + 1) dd)) (hk : KeptX s o S) (hnx : s.nx + 1 < S.nx) (ho : o < s.nx) :
  go (awp Tryz.prog rest82 (finQ [.tmp (true, 6)] (R82 t nn o s)) G S) := by
 have hps := szs_len t.args
 have hpa := sza_len t.alts
 have hse := sz_eq t
 have hz1 := sz_pos t
 have hari := ari_find t.s
 have hfail : ∀ (s' : St), wf t = false → s'.m o = some (cnt (nn + 1) dd) → KeptX s o s' → R82 t nn o s (.bool false) s' := fun s' h2 h5 h6 => ⟨by rw [h2], nn + 1, dd, by omega, by omega, h5, h6⟩
 -- behind the switch
 have hafter : ∀ (v : Bool), v = nameOK t bs → ∀ (G : Env) (S : St), G.get 0 = .ptr o 0 → G.get 2 = .int .i64 d → G.get 4 = .ptr s.nx 0 → G.get 8 = .bool v → S.m s.nx = some (.box t.av.cells) → S.m o = some (cnt (nn + 1) dd) → KeptX s o S → s.nx + 1 < S.nx →
   go (awp Tryz.prog (.seq (.seq (.reg false a82r10) (.cond (.g 122) (.seq (.reg false a82r11) .ret) .skip)) (.seq (.seq (.reg false a82r12) (.block 1 (.loop a82l18))) (.seq (.seq (.reg false a82r19) (.block 3 (.loop a82l25))) (.seq (.reg false a82r26) .ret)))) (finQ [.tmp (true, 6)] (R82 t nn o s)) G S) := by
  intro v hv G S g0 g2 g4 g8 hbx hm hk hnx
  rw [← hv] at hwf
  cases v with
  | false =>
   simp -implicitDefEqProofs (disch:=first|omega|simp only[nx4]<;>omega|fail) [a82r10, a82r11, g0, g2, g4, g8, hbx]
   exact hfail _ (by rw [hwf]; rfl) hm hk
  | true =>
   rw [Bool.true_and] at hwf
   by_cases o1 : t.op = 1 ∧ t.n < 0
   ·obtain ⟨o1, o2⟩ := o1
    simp -implicitDefEqProofs (disch:=first|omega|simp only[nx4]<;>omega|fail) [a82r10, a82r11, g0, g2, g4, g8, hbx, o1, o2]
    exact hfail _ (by rw [hwf]; simp [o1, o2]) hm hk
   have e1 : (decide (t.op = 1) && decide (t.n < 0)) = false := by
    by_cases q : t.op = 1
    ·have : ¬ t.n < 0 := fun h => o1 ⟨q, h⟩
     simp [this]
    ·simp [q]
   rw [e1, Bool.not_false, Bool.true_and] at hwf
   have h116 := p116 t.n 1 8
   generalize hq : (decide (1 ≤ t.n) && decide (t.n ≤ 8)) = q at hwf h116
   have h117 := p117 t.alts (by omega)
   have hfin : ∀ (G : Env) (S : St), G.get 0 = .ptr o 0 → G.get 2 = .int .i64 d → G.get 4 = .ptr s.nx 0 → S.m s.nx = some (.box t.av.cells) → S.m o = some (cnt (nn + 1) dd) → KeptX s o S → s.nx + 1 < S.nx → (wfs t.args && wfa t.alts) = wf t →
     go (awp Tryz.prog (.seq (.seq (.reg false a82r12) (.block 1 (.loop a82l18))) (.seq (.seq (.reg false a82r19) (.block 3 (.loop a82l25))) (.seq (.reg false a82r26) .ret))) (finQ [.tmp (true, 6)] (R82 t nn o s)) G S) :=
    fun G S a0 a2 a4 a5 a6 a7 a8 a9 => loopA82 t ih1 ih2 d nn o s hd hd2 a9 hn hn2 (nn + 1) dd (by omega) (by omega) G S a0 a2 a4 a5 a6 a7 (by omega) ho (by omega) (by omega)
   by_cases o5 : t.op = 5
   ·cases q with
    | false =>
     simp -implicitDefEqProofs (disch:=first|omega|simp only[nx4]<;>omega|fail) [a82r10, g0, g2, g4, g8, hbx, o5]
     refine go_pure h116 fun mm1 hm1 => ?_
     try simp only [nx4] at hm1
     simp -implicitDefEqProofs (disch:=first|omega|simp only[nx4]<;>omega|fail) [a82r11]
     exact hfail _ (by rw [hwf]; simp [o5]) hm hk
    | true =>
     simp -implicitDefEqProofs (disch:=first|omega|simp only[nx4]<;>omega|fail) [a82r10, g0, g2, g4, g8, hbx, o5]
     refine go_pure h116 fun mm2 hm2 => ?_
     try simp only [nx4] at hm2
     simp -implicitDefEqProofs (disch:=first|omega|simp only[nx4]<;>omega|fail) [g4, hbx]
     cases hal : altsOK [] t.alts <;> rw [hal] at h117 hwf
     ·refine go_pure h117 fun mm3 hm3 => ?_
      try simp only [nx4] at hm3
      simp -implicitDefEqProofs (disch:=first|omega|simp only[nx4]<;>omega|fail) [a82r11]
      exact hfail _ (by rw [hwf]; simp) hm hk
     ·refine go_pure h117 fun mm4 hm4 => ?_
      try simp only [nx4] at hm4
      simp -implicitDefEqProofs (disch:=first|omega|simp only[nx4]<;>omega|fail)
      refine hfin _ _ ?_ ?_ ?_ hbx hm hk ?_ (by rw [hwf]; simp [o5])
      all_goals (try simp -implicitDefEqProofs (disch:=first|omega|simp only[nx4]<;>omega|fail) [g0, g2, g4])
      all_goals omega
   ·have e5 : (decide (t.op = 5) && !q) = false := by simp [o5]
    rw [e5, Bool.not_false, Bool.true_and] at hwf
    by_cases q1 : t.op = 1
    ·have q2 : ¬ t.n < 0 := fun h => o1 ⟨q1, h⟩
     simp -implicitDefEqProofs (disch:=first|omega|simp only[nx4]<;>omega|fail) [a82r10, g0, g2, g4, g8, hbx, q1, q2]
     cases hal : altsOK [] t.alts <;> rw [hal] at h117 hwf
     ·refine go_pure h117 fun mm5 hm5 => ?_
      try simp only [nx4] at hm5
      simp -implicitDefEqProofs (disch:=first|omega|simp only[nx4]<;>omega|fail) [a82r11]
      exact hfail _ (by rw [hwf]; simp) hm hk
     ·refine go_pure h117 fun mm6 hm6 => ?_
      try simp only [nx4] at hm6
      simp -implicitDefEqProofs (disch:=first|omega|simp only[nx4]<;>omega|fail)
      refine hfin _ _ ?_ ?_ ?_ hbx hm hk ?_ (by rw [hwf]; simp)
      all_goals (try simp -implicitDefEqProofs (disch:=first|omega|simp only[nx4]<;>omega|fail) [g0, g2, g4])
      all_goals omega
    ·simp -implicitDefEqProofs (disch:=first|omega|simp only[nx4]<;>omega|fail) [a82r10, g0, g2, g4, g8, hbx, q1, o5]
     cases hal : altsOK [] t.alts <;> rw [hal] at h117 hwf
     ·refine go_pure h117 fun mm7 hm7 => ?_
      try simp only [nx4] at hm7
      simp -implicitDefEqProofs (disch:=first|omega|simp only[nx4]<;>omega|fail) [a82r11]
      exact hfail _ (by rw [hwf]; simp) hm hk
     ·refine go_pure h117 fun mm8 hm8 => ?_
      try simp only [nx4] at hm8
      simp -implicitDefEqProofs (disch:=first|omega|simp only[nx4]<;>omega|fail)
      refine hfin _ _ ?_ ?_ ?_ hbx hm hk ?_ (by rw [hwf]; simp)
      all_goals (try simp -implicitDefEqProofs (disch:=first|omega|simp only[nx4]<;>omega|fail) [g0, g2, g4])
      all_goals omega
 by_cases o9 : t.op = 9
 ·cases har : arI t.s with
  | none =>
   rw [har] at hari
   simp only [Option.map_none] at hari
   simp -implicitDefEqProofs (disch:=first|omega|simp only[nx4]<;>omega|fail) [rest82, a82r4, a82r5, a82r6, gv_ari, g0, g2, g4, g7, g8, hbx, hb7, hari, lookAV, o9]
   refine hafter false (by simp [nameOK, o9, har]) _ _ ?_ ?_ ?_ ?_ hbx hm hk hnx
   all_goals simp -implicitDefEqProofs (disch:=first|omega|simp only[nx4]<;>omega|fail) [g0, g2, g4]
  | some k =>
   rw [har] at hari
   simp only [Option.map_some] at hari
   simp -implicitDefEqProofs (disch:=first|omega|simp only[nx4]<;>omega|fail) [rest82, a82r4, a82r5, a82r6, gv_ari, g0, g2, g4, g7, g8, hbx, hb7, hari, lookAV, o9]
   refine hafter (decide (k = (t.args.length : Int))) (by simp [nameOK, o9, har]) _ _ ?_ ?_ ?_ ?_ hbx hm hk hnx
   all_goals simp -implicitDefEqProofs (disch:=first|omega|simp only[nx4]<;>omega|fail) [g0, g2, g4]
 ·have hlk : ∃ a b, lookAV true [.int .i64 0] false ((arI t.s).map (AV.int .i64)) = .tup [a, .bool b] := by
   cases arI t.s with
   | none => exact ⟨_, _, rfl⟩
   | some k => exact ⟨_, _, rfl⟩
  obtain ⟨ra, rb, hlk⟩ := hlk
  cases bs with
  | true =>
   have h74 := p74 t.s
   simp -implicitDefEqProofs (disch:=first|omega|simp only[nx4]<;>omega|fail) [rest82, a82r4, a82r5, a82r7, a82r8, gv_ari, g0, g2, g4, g7, g8, hbx, hb7, hari, hlk, o9]
   refine go_pure h74 fun mm9 hm9 => ?_
   try simp only [nx4] at hm9
   simp -implicitDefEqProofs (disch:=first|omega|simp only[nx4]<;>omega|fail)
   refine hafter (nm t.s) (by simp [nameOK, o9]) _ _ ?_ ?_ ?_ ?_ hbx hm hk ?_
   all_goals (try simp -implicitDefEqProofs (disch:=first|omega|simp only[nx4]<;>omega|fail) [g0, g2, g4])
   all_goals omega
  | false =>
   simp -implicitDefEqProofs (disch:=first|omega|simp only[nx4]<;>omega|fail) [rest82, a82r4, a82r5, a82r7, a82r9, gv_ari, g0, g2, g4, g7, g8, hbx, hb7, hari, hlk, o9, emp_def]
   refine hafter (decide (t.s = emp)) (by simp [nameOK, o9]) _ _ ?_ ?_ ?_ ?_ hbx hm hk hnx
   all_goals simp -implicitDefEqProofs (disch:=first|omega|simp only[nx4]<;>omega|fail) [g0, g2, g4]
set_option maxHeartbeats 4000000 in
theorem p82 (t : Pl) : C82 t := by
 induction t using Pl.ind with
 | h t ih1 ih2 =>
  intro d nn dd o s hd hd2 hn hn2 hm ho
  have hps := szs_pos t.args fun x _ => sz_pos x
  have hpa := sza_pos t.alts fun x _ => sz_pos x.2
  have hse := sz_eq t
  have hde := dw_eq t
  have hdp := dw_pos t
  have hfail : ∀ (b : Bool) (s' : St) (nn' dd' : Int), b = false → wf t = b → nn ≤ nn' → nn' ≤ nn + sz t → s'.m o = some (cnt nn' dd') → KeptX s o s' → R82 t nn o s (.bool false) s' := fun b s' nn' dd' h1 h2 h3 h4 h5 h6 => ⟨by rw [h2, h1], nn', dd', h3, h4, h5, h6⟩
  refine fun_sound mixed Tryz.func82 Tryz.call82 c82 rfl (awpFun_go _ _ _ _ ?_)
  have hwf : wf t = (progOK t && wfs t.args && wfa t.alts) := by rw [wf_eq, progOK_eq]
  have hsf := shp_find t.op
  unfold progOK at hwf
  cases hsh : shp t.op with
  | none =>
   rw [hsh] at hwf hsf
   simp -implicitDefEqProofs (disch:=first|omega|simp only[nx4]<;>omega|fail) [a82, a82b, a82r0, a82r1, a82r2, a82r3, gv_shp, hsf, lookAV]
   exact ⟨by rw [hwf]; rfl, nn, dd, by omega, by omega, by simp -implicitDefEqProofs (disch:=first|omega|simp only[nx4]<;>omega|fail) [hm], by simp -implicitDefEqProofs (disch:=first|omega|simp only[nx4]<;>omega|fail)⟩
  | some x =>
   obtain ⟨lo, hi, bn, bs, al⟩ := x
   rw [hsh] at hwf hsf
   simp only at hwf
   simp only [Option.map_some, shpV] at hsf
   simp -implicitDefEqProofs (disch:=first|omega|simp only[nx4]<;>omega|fail) [a82, a82b, a82r0, a82r1, a82r2, gv_shp, hsf, lookAV]
   refine go_calls (p115 d nn dd o _ _ (by omega) (by omega) hn (by omega) (by simp -implicitDefEqProofs (disch:=first|omega|simp only[nx4]<;>omega|fail) [hm]) (by simp -implicitDefEqProofs (disch:=first|omega|simp only[nx4]<;>omega|fail); omega) fun m1 hm1 => go_of ?_)
   try simp only [St.new_nx, St.bump_nx, St.set_nx, St.del_nx] at hm1
   have t1 : nn + 1 ≤ 4000 := by omega
   have t2 : d ≤ 200 := by omega
   have h116 := p116 t.args.length lo hi
   generalize hc1 : (decide (lo ≤ (t.args.length : Int)) && decide ((t.args.length : Int) ≤ hi)) = q1 at hwf h116
   cases q1
   ·simp -implicitDefEqProofs (disch:=first|omega|simp only[nx4]<;>omega|fail) [t1, t2]
    refine go_pure h116 fun mm10 hm10 => ?_
    try simp only [nx4] at hm10
    simp -implicitDefEqProofs (disch:=first|omega|simp only[nx4]<;>omega|fail) [a82r3]
    refine hfail _ _ (nn + 1) (max dd d) rfl (by rw [hwf]; rfl) (by omega) (by omega) ?_ ?_
    ·simp -implicitDefEqProofs (disch:=first|omega|simp only[nx4]<;>omega|fail)
    ·simp -implicitDefEqProofs (disch:=first|omega|simp only[nx4]<;>omega|fail)
   generalize hc2 : (!bn && decide (t.n ≠ 0)) = q2 at hwf
   cases q2
   case true =>
    simp only [Bool.and_eq_true, Bool.not_eq_true', decide_eq_true_eq] at hc2
    obtain ⟨g1, g2⟩ := hc2
    subst g1
    simp -implicitDefEqProofs (disch:=first|omega|simp only[nx4]<;>omega|fail) [t1, t2]
    refine go_pure h116 fun mm11 hm11 => ?_
    try simp only [nx4] at hm11
    simp -implicitDefEqProofs (disch:=first|omega|simp only[nx4]<;>omega|fail) [a82r3, g2]
    refine hfail _ _ (nn + 1) (max dd d) rfl (by rw [hwf]; rfl) (by omega) (by omega) ?_ ?_
    ·simp -implicitDefEqProofs (disch:=first|omega|simp only[nx4]<;>omega|fail)
    ·simp -implicitDefEqProofs (disch:=first|omega|simp only[nx4]<;>omega|fail)
   case false =>
   have hN : bn = true ∨ (bn = false ∧ t.n = 0) := by
    cases bn with
    | true => exact .inl rfl
    | false => exact .inr ⟨rfl, by simpa using hc2⟩
   have hne : 0 < (t.alts.length : Int) ↔ 0 < t.alts.length := by omega
   have h40 : 40 < (t.alts.length : Int) ↔ 40 < t.alts.length := by omega
   have hsub : ∀ q : Bool, q = true → (true && q) = true := fun q h => by simp [h]
   by_cases c3 : al = decide (0 < t.alts.length)
   ·have e3 : (al == decide (0 < t.alts.length)) = true := by rw [c3]; exact beq_self_eq_true _
    rw [e3] at hwf
    by_cases c4 : 40 < t.alts.length
    ·have c4' : (40 : Int) < t.alts.length := by omega
     have hf : wf t = false := by rw [hwf]; simp [c4]
     rcases hN with hbn | ⟨hbn, hn0⟩
     ·subst hbn
      simp -implicitDefEqProofs (disch:=first|omega|simp only[nx4]<;>omega|fail) [t1, t2]
      refine go_pure h116 fun mm12 hm12 => ?_
      try simp only [nx4] at hm12
      simp -implicitDefEqProofs (disch:=first|omega|simp only[nx4]<;>omega|fail) [a82r3, ← c3, c4']
      exact hfail _ _ (nn + 1) (max dd d) rfl hf (by omega) (by omega) (by simp -implicitDefEqProofs (disch:=first|omega|simp only[nx4]<;>omega|fail)) (by simp -implicitDefEqProofs (disch:=first|omega|simp only[nx4]<;>omega|fail))
     ·subst hbn
      simp -implicitDefEqProofs (disch:=first|omega|simp only[nx4]<;>omega|fail) [t1, t2]
      refine go_pure h116 fun mm13 hm13 => ?_
      try simp only [nx4] at hm13
      simp -implicitDefEqProofs (disch:=first|omega|simp only[nx4]<;>omega|fail) [a82r3, ← c3, c4', hn0]
      exact hfail _ _ (nn + 1) (max dd d) rfl hf (by omega) (by omega) (by simp -implicitDefEqProofs (disch:=first|omega|simp only[nx4]<;>omega|fail)) (by simp -implicitDefEqProofs (disch:=first|omega|simp only[nx4]<;>omega|fail))
    ·have c4' : ¬ (40 : Int) < t.alts.length := by omega
     have hw2 : wf t = (nameOK t bs && !(decide (t.op = 1) && decide (t.n < 0)) && !(decide (t.op = 5) && !(decide (1 ≤ t.n) && decide (t.n ≤ 8))) && altsOK [] t.alts && wfs t.args && wfa t.alts) := by
      rw [hwf]; simp [c4]
     rcases hN with hbn | ⟨hbn, hn0⟩
     ·subst hbn
      simp -implicitDefEqProofs (disch:=first|omega|simp only[nx4]<;>omega|fail) [t1, t2]
      refine go_pure h116 fun mm14 hm14 => ?_
      try simp only [nx4] at hm14
      simp -implicitDefEqProofs (disch:=first|omega|simp only[nx4]<;>omega|fail) [← c3, c4']
      refine tail82 t ih1 ih2 d nn (max dd d) o s hd hd2 hn hn2 lo hi true bs al hw2 _ _ ?_ ?_ ?_ ?_ ?_ ?_ ?_ ?_ ?_ ?_ ho
      all_goals (try simp -implicitDefEqProofs (disch:=first|omega|simp only[nx4]<;>omega|fail))
      all_goals omega
     ·subst hbn
      simp -implicitDefEqProofs (disch:=first|omega|simp only[nx4]<;>omega|fail) [t1, t2]
      refine go_pure h116 fun mm15 hm15 => ?_
      try simp only [nx4] at hm15
      simp -implicitDefEqProofs (disch:=first|omega|simp only[nx4]<;>omega|fail) [← c3, c4', hn0]
      refine tail82 t ih1 ih2 d nn (max dd d) o s hd hd2 hn hn2 lo hi false bs al hw2 _ _ ?_ ?_ ?_ ?_ ?_ ?_ ?_ ?_ ?_ ?_ ho
      all_goals (try simp -implicitDefEqProofs (disch:=first|omega|simp only[nx4]<;>omega|fail) [hn0])
      all_goals omega
   ·have e3 : (al == decide (0 < t.alts.length)) = false := by simpa using c3
    have hf : wf t = false := by rw [hwf, e3]; simp
    rcases hN with hbn | ⟨hbn, hn0⟩
    ·subst hbn
     simp -implicitDefEqProofs (disch:=first|omega|simp only[nx4]<;>omega|fail) [t1, t2]
     refine go_pure h116 fun mm16 hm16 => ?_
     try simp only [nx4] at hm16
     simp -implicitDefEqProofs (disch:=first|omega|simp only[nx4]<;>omega|fail) [a82r3, c3]
     exact hfail _ _ (nn + 1) (max dd d) rfl hf (by omega) (by omega) (by simp -implicitDefEqProofs (disch:=first|omega|simp only[nx4]<;>omega|fail)) (by simp -implicitDefEqProofs (disch:=first|omega|simp only[nx4]<;>omega|fail))
    ·subst hbn
     simp -implicitDefEqProofs (disch:=first|omega|simp only[nx4]<;>omega|fail) [t1, t2]
     refine go_pure h116 fun mm17 hm17 => ?_
     try simp only [nx4] at hm17
     simp -implicitDefEqProofs (disch:=first|omega|simp only[nx4]<;>omega|fail) [a82r3, c3, hn0]
     exact hfail _ _ (nn + 1) (max dd d) rfl hf (by omega) (by omega) (by simp -implicitDefEqProofs (disch:=first|omega|simp only[nx4]<;>omega|fail)) (by simp -implicitDefEqProofs (disch:=first|omega|simp only[nx4]<;>omega|fail))
end Go.AL.Dm
namespace Go.AL.Dm
open Go Go.Proofs
def small (t : Pl) : Prop := sz t ≤ 3000 ∧ dw t ≤ 199
theorem keptX_kept {s s1 s' : St} {o : Nat} (h : KeptX s1 o s') (hk : Kept s s1) (ho : s.nx ≤ o) (hn : s.nx ≤ s1.nx) : Kept s s' := fun q hq => (h q (by omega) (by omega)).trans (hk q hq)
theorem p45 (t : Pl) (h : small t) : PureC Tryz.prog 45 [t.av] (.bool (wf t)) := by
 refine PureC.intro fun s => fun_sound mixed Tryz.func45 Tryz.call45 c45 rfl (awpFun_go _ _ _ _ ?_)
 obtain ⟨h1, h2⟩ := h
 simp -implicitDefEqProofs (disch:=first|omega|simp only[nx4]<;>omega|fail) [a45, a45b, a45r0, a45r1, a45r2]
 refine go_calls (ACalls.mono (p82 t 1 0 0 (s.nx + 1) _ (by omega) (by omega) (by omega) (by omega) (by simp -implicitDefEqProofs (disch:=first|omega|simp only[nx4]<;>omega|fail) [cnt]) (by simp -implicitDefEqProofs (disch:=first|omega|simp only[nx4]<;>omega|fail))) fun r s' hn' h => go_of ?_)
 obtain ⟨rfl, nn', dd', q1, q2, q3, q4⟩ := h
 have hk : Kept s s' := keptX_kept q4 (by simp -implicitDefEqProofs (disch:=first|omega|simp only[nx4]<;>omega|fail)) (by omega) (by simp -implicitDefEqProofs (disch:=first|omega|simp only[nx4]<;>omega|fail); omega)
 simp -implicitDefEqProofs (disch:=first|omega|simp only[nx4]<;>omega|fail) [hk]
end Go.AL.Dm
namespace Go.AL.Dm
open Go Go.Proofs
def cnt3 (n d : Int) (b : Bool) : AObj := .box [.int .i64 n, .int .i64 d, .bool b]
def R91 (t : Pl) (nn : Int) (o : Nat) (s : St) (r : AV) (s' : St) : Prop := r = .tup [] ∧ ∃ nn' dd', nn ≤ nn' ∧ nn' ≤ nn + sz t ∧ s'.m o = some (cnt3 nn' dd' (!wf t)) ∧ KeptX s o s'
def C91 (t : Pl) : Prop := ∀ (d nn dd : Int) (o : Nat) (s : St), 1 ≤ d → d + dw t ≤ 201 → 0 ≤ nn → nn + sz t ≤ 4000 → s.m o = some (cnt3 nn dd false) → o < s.nx →
 ACalls Tryz.prog 91 [.ptr o 0, t.av, .int .i64 d] s (R91 t nn o s)
def IB91 (t : Pl) (d nn : Int) (o : Nat) (s : St) (m : Nat) (g : Env) (s1 : St) : Prop :=
 ∃ (i : Nat) (nb db : Int) (b : Bool), i ≤ t.alts.length ∧ m = t.alts.length - i ∧ (if b then wf t = false else wfa (t.alts.drop i) = wf t) ∧ nn ≤ nb ∧ nb + sza (t.alts.drop i) ≤ nn + sz t ∧ d + 1 + dwa (t.alts.drop i) ≤ 201 ∧
  g.get 0 = .ptr o 0 ∧ g.get 2 = .int .i64 d ∧ g.get 4 = .ptr s.nx 0 ∧ g.get 7 = .int .i64 i ∧ s1.m s.nx = some (.box t.av.cells) ∧ s1.m o = some (cnt3 nb db b) ∧ KeptX s o s1 ∧ s.nx < s1.nx
theorem loopB91 (t : Pl) (ih2 : ∀ a ∈ t.alts, C91 a.2) (d nn : Int) (o : Nat) (s : St) (hd : 1 ≤ d) (hd2 : d + 1 + dwa t.alts ≤ 201) (b : Bool) (hw : if b then wf t = false else wfa t.alts = wf t) (hn : 0 ≤ nn) (hn2 : nn + sz t ≤ 4000) (nb db : Int) (hb1 : nn ≤ nb) (hb2 : nb + sza t.alts ≤ nn + sz t)
  (G : Env) (S : St) (g0 : G.get 0 = .ptr o 0) (g2 : G.get 2 = .int .i64 d) (g4 : G.get 4 = .ptr s.nx 0) (hbx : S.m s.nx = some (.box t.av.cells)) (hm : S.m o = some (cnt3 nb db b)) (hk : KeptX s o S) (hnx : s.nx < S.nx) (ho : o < s.nx) (hlen : t.alts.length ≤ 4000) :
  go (awp Tryz.prog (.seq (.reg false a91r10) (.block 2 (.loop a91l15))) (finQ [] (R91 t nn o s)) G S) := by
 simp -implicitDefEqProofs (disch:=first|omega|simp only[nx4]<;>omega|fail) [a91r10]
 refine go_loop (IB91 t d nn o s) t.alts.length ⟨0, nb, db, b, by omega, by omega, by simpa using hw, hb1, by simpa using hb2, by simpa using hd2, ?_, ?_, ?_, ?_, hbx, hm, hk, hnx⟩ ?_
 iterate 4 (simp -implicitDefEqProofs (disch:=first|omega|simp only[nx4]<;>omega|fail) [g0, g2, g4])
 rintro m g s1 ⟨i, nb, db, b, hi, rfl, hw, hb1, hb2, hd2, e0, e2, e4, e7, hbx, hm, hk, hnx⟩
 rw [cnt3] at hm
 cases b with
 | true =>
  have hz := sza_pos (t.alts.drop i) fun x _ => sz_pos x.2
  rw [if_pos rfl] at hw
  by_cases hlt' : (i : Int) < t.alts.length <;> simp -implicitDefEqProofs (disch:=first|omega|simp only[nx4]<;>omega|fail) [a91l15, a91r11, e0, e2, e4, e7, hbx, hm, hlt']
  all_goals exact ⟨rfl, nb, db, hb1, by omega, by rw [hm, hw]; rfl, hk⟩
 | false =>
  rw [if_neg (by simp)] at hw
  by_cases hlt : i < t.alts.length
  ·have hlt' : (i : Int) < t.alts.length := by omega
   have w3 := wrapS (i := i) (by omega)
   have w2 : IntKind.i64.wrap (d + 2) = d + 2 := wrap64 (by omega) (by have := dwa_pos (t.alts.drop i); omega)
   rw [List.drop_eq_getElem_cons hlt] at hw hb2 hd2
   have ihx := ih2 _ (List.getElem_mem hlt)
   generalize hx : t.alts[i] = x at hw hb2 hd2 ihx
   obtain ⟨xh, xb⟩ := x
   simp only [wfa] at hw
   simp only [sza] at hb2
   simp only [dwa] at hd2
   simp only at ihx
   have z1 := sz_pos xb
   have z2 := sza_pos (t.alts.drop (i + 1)) fun x _ => sz_pos x.2
   have z3 := dw_pos xb
   have w4 : IntKind.i64.wrap (nb + 1) = nb + 1 := wrap64 (by omega) (by omega)
   have hne : s.nx ≠ o := by omega
   simp -implicitDefEqProofs (disch:=first|omega|simp only[nx4]<;>omega|fail) [a91l15, a91r11, a91r12, a91r13, e0, e2, e4, e7, hbx, hm, hlt', hx, w2, w4, hne]
   refine go_calls (ACalls.mono (ihx (d + 2) (nb + 1) db o _ (by omega) (by omega) (by omega) (by omega) (by simp -implicitDefEqProofs (disch:=first|omega|simp only[nx4]<;>omega|fail) [cnt3]) (by simp -implicitDefEqProofs (disch:=first|omega|simp only[nx4]<;>omega|fail); omega)) fun r s' hn' h => go_of ?_)
   try simp only [St.new_nx, St.bump_nx, St.set_nx, St.del_nx] at hn'
   obtain ⟨rfl, nn', dd', q1, q2, q3, q4⟩ := h
   have hk' : KeptX s o s' := keptX_trans (by simp -implicitDefEqProofs (disch:=first|omega|simp only[nx4]<;>omega|fail) [hk]) q4 (by simp -implicitDefEqProofs (disch:=first|omega|simp only[nx4]<;>omega|fail); omega)
   have hbx' : s'.m s.nx = some (.box t.av.cells) := by
    rw [q4 s.nx (by simp -implicitDefEqProofs (disch:=first|omega|simp only[nx4]<;>omega|fail); omega) (by omega)]
    simp -implicitDefEqProofs (disch:=first|omega|simp only[nx4]<;>omega|fail) [hbx, hne]
   simp -implicitDefEqProofs (disch:=first|omega|simp only[nx4]<;>omega|fail) [a91r14, e7, w3]
   refine go_next (t.alts.length - (i + 1)) (by omega) ⟨i + 1, nn', dd', !wf xb, by omega, rfl, ?_, by omega, by omega, by omega, ?_, ?_, ?_, rfl, hbx', q3, hk', by omega⟩
   ·cases hb : wf xb with
    | false => rw [hb, Bool.false_and] at hw; simp [← hw]
    | true => rw [hb, Bool.true_and] at hw; simpa using hw
   all_goals simp -implicitDefEqProofs (disch:=first|omega|simp only[nx4]<;>omega|fail) [e0, e2, e4]
  ·have hlt' : ¬ (i : Int) < t.alts.length := by omega
   rw [List.drop_eq_nil_of_le (by omega)] at hw hb2
   simp only [wfa] at hw
   simp only [sza] at hb2
   simp -implicitDefEqProofs (disch:=first|omega|simp only[nx4]<;>omega|fail) [a91l15, a91r11, e0, e2, e4, e7, hbx, hm, hlt']
   exact ⟨rfl, nb, db, hb1, by omega, by rw [hm, ← hw]; rfl, hk⟩
def IA91 (t : Pl) (d nn : Int) (o : Nat) (s : St) (m : Nat) (g : Env) (s1 : St) : Prop :=
 ∃ (i : Nat) (nb db : Int) (b : Bool), i ≤ t.args.length ∧ m = t.args.length - i ∧ (if b then wf t = false else (wfs (t.args.drop i) && wfa t.alts) = wf t) ∧ nn ≤ nb ∧ nb + szs (t.args.drop i) + sza t.alts ≤ nn + sz t ∧ d + dws (t.args.drop i) ≤ 200 ∧
  g.get 0 = .ptr o 0 ∧ g.get 2 = .int .i64 d ∧ g.get 4 = .ptr s.nx 0 ∧ g.get 6 = .int .i64 i ∧ s1.m s.nx = some (.box t.av.cells) ∧ s1.m o = some (cnt3 nb db b) ∧ KeptX s o s1 ∧ s.nx < s1.nx
theorem loopA91 (t : Pl) (ih1 : ∀ x ∈ t.args, C91 x) (ih2 : ∀ a ∈ t.alts, C91 a.2) (d nn : Int) (o : Nat) (s : St) (hd : 1 ≤ d) (hd2 : d + dw t ≤ 201) (b : Bool) (hw : if b then wf t = false else (wfs t.args && wfa t.alts) = wf t) (hn : 0 ≤ nn) (hn2 : nn + sz t ≤ 4000) (nb db : Int) (hb1 : nn ≤ nb) (hb2 : nb + szs t.args + sza t.alts ≤ nn + sz t)
  (G : Env) (S : St) (g0 : G.get 0 = .ptr o 0) (g2 : G.get 2 = .int .i64 d) (g4 : G.get 4 = .ptr s.nx 0) (hbx : S.m s.nx = some (.box t.av.cells)) (hm : S.m o = some (cnt3 nb db b)) (hk : KeptX s o S) (hnx : s.nx < S.nx) (ho : o < s.nx) (hla : t.args.length ≤ 4000) (hlen : t.alts.length ≤ 4000) :
  go (awp Tryz.prog (.seq (.seq (.reg false a91r5) (.block 0 (.loop a91l9))) (.seq (.reg false a91r10) (.block 2 (.loop a91l15)))) (finQ [] (R91 t nn o s)) G S) := by
 have hde := dw_eq t
 have hda := dwa_pos t.alts
 have hza := sza_pos t.alts fun x _ => sz_pos x.2
 simp -implicitDefEqProofs (disch:=first|omega|simp only[nx4]<;>omega|fail) [a91r5]
 refine go_loop (IA91 t d nn o s) t.args.length ⟨0, nb, db, b, by omega, by omega, by simpa using hw, hb1, by simpa using hb2, by simp only [List.drop_zero]; omega, ?_, ?_, ?_, ?_, hbx, hm, hk, hnx⟩ ?_
 iterate 4 (simp -implicitDefEqProofs (disch:=first|omega|simp only[nx4]<;>omega|fail) [g0, g2, g4])
 rintro m g s1 ⟨i, nb, db, b, hi, rfl, hw, hb1, hb2, hd3, e0, e2, e4, e6, hbx, hm, hk, hnx⟩
 have hzs := szs_pos (t.args.drop i) fun x _ => sz_pos x
 have hm0 := hm
 rw [cnt3] at hm
 cases b with
 | true =>
  rw [if_pos rfl] at hw
  by_cases hlt' : (i : Int) < t.args.length <;> simp -implicitDefEqProofs (disch:=first|omega|simp only[nx4]<;>omega|fail) [a91l9, a91r6, e0, e2, e4, e6, hbx, hm, hlt']
  all_goals
   refine loopB91 t ih2 d nn o s hd (by omega) true (by rw [if_pos rfl]; exact hw) hn hn2 nb db hb1 (by omega) _ _ ?_ ?_ ?_ hbx hm0 hk hnx ho hlen
   all_goals simp -implicitDefEqProofs (disch:=first|omega|simp only[nx4]<;>omega|fail) [e0, e2, e4]
 | false =>
  rw [if_neg (by simp)] at hw
  by_cases hlt : i < t.args.length
  ·have hlt' : (i : Int) < t.args.length := by omega
   have w3 := wrapS (i := i) (by omega)
   have w1 : IntKind.i64.wrap (d + 1) = d + 1 := wrap64 (by omega) (by have := dws_pos (t.args.drop i); omega)
   rw [List.drop_eq_getElem_cons hlt] at hw hb2 hd3
   have ihx := ih1 _ (List.getElem_mem hlt)
   generalize hx : t.args[i] = x at hw hb2 hd3 ihx
   simp only [wfs] at hw
   simp only [szs] at hb2
   simp only [dws] at hd3
   have z1 := sz_pos x
   have z2 := szs_pos (t.args.drop (i + 1)) fun x _ => sz_pos x
   have z3 := dw_pos x
   simp -implicitDefEqProofs (disch:=first|omega|simp only[nx4]<;>omega|fail) [a91l9, a91r6, a91r7, e0, e2, e4, e6, hbx, hm, hlt', hx, w1]
   refine go_calls (ACalls.mono (ihx (d + 1) nb db o _ (by omega) (by omega) (by omega) (by omega) (by simp -implicitDefEqProofs (disch:=first|omega|simp only[nx4]<;>omega|fail) [hm, cnt3]) (by omega)) fun r s' hn' h => go_of ?_)
   obtain ⟨rfl, nn', dd', q1, q2, q3, q4⟩ := h
   have hk' : KeptX s o s' := keptX_trans hk q4 (by omega)
   have hbx' : s'.m s.nx = some (.box t.av.cells) := by
    rw [q4 s.nx (by omega) (by omega)]
    exact hbx
   simp -implicitDefEqProofs (disch:=first|omega|simp only[nx4]<;>omega|fail) [a91r8, e6, w3]
   refine go_next (t.args.length - (i + 1)) (by omega) ⟨i + 1, nn', dd', !wf x, by omega, rfl, ?_, by omega, by omega, by omega, ?_, ?_, ?_, rfl, hbx', q3, hk', by omega⟩
   ·cases hb : wf x with
    | false => rw [hb, Bool.false_and, Bool.false_and] at hw; simp [← hw]
    | true => rw [hb, Bool.true_and] at hw; simpa using hw
   all_goals simp -implicitDefEqProofs (disch:=first|omega|simp only[nx4]<;>omega|fail) [e0, e2, e4]
  ·have hlt' : ¬ (i : Int) < t.args.length := by omega
   rw [List.drop_eq_nil_of_le (by omega)] at hw hb2
   simp only [wfs, Bool.true_and] at hw
   simp only [szs] at hb2
   simp -implicitDefEqProofs (disch:=first|omega|simp only[nx4]<;>omega|fail) [a91l9, a91r6, e0, e2, e4, e6, hbx, hm, hlt']
   refine loopB91 t ih2 d nn o s hd (by omega) false (by rw [if_neg (by simp)]; exact hw) hn hn2 nb db hb1 (by omega) _ _ ?_ ?_ ?_ hbx hm0 hk hnx ho hlen
   all_goals simp -implicitDefEqProofs (disch:=first|omega|simp only[nx4]<;>omega|fail) [e0, e2, e4]
theorem p91 (t : Pl) : C91 t := by
 induction t using Pl.ind with
 | h t ih1 ih2 =>
  intro d nn dd o s hd hd2 hn hn2 hm ho
  have hps := szs_len t.args
  have hpa := sza_len t.alts
  have hse := sz_eq t
  have hde := dw_eq t
  have hdp := dw_pos t
  have hz1 := sz_pos t
  refine fun_sound mixed Tryz.func91 Tryz.call91 c91 rfl (awpFun_go _ _ _ _ ?_)
  have h140 := p140 t
  have hwf := wf_eq t
  have w1 : IntKind.i64.wrap (nn + 1) = nn + 1 := wrap64 (by omega) (by omega)
  have t1 : nn + 1 ≤ 4000 := by omega
  have t2 : d ≤ 200 := by omega
  have t1' : ¬ 4000 < nn + 1 := by omega
  have t2' : ¬ 200 < d := by omega
  have hne : o ≠ s.nx := by omega
  rw [cnt3] at hm
  cases hno : nodeOK t <;> rw [hno] at h140 hwf
  ·simp -implicitDefEqProofs (disch:=first|omega|simp only[nx4]<;>omega|fail) [a91, a91b, a91r0, a91r1, a91r2, a91r3, hm, w1, t1', t2', hne]
   refine go_pure h140 fun mm1 hm1 => ?_
   try simp only [nx4] at hm1
   simp -implicitDefEqProofs (disch:=first|omega|simp only[nx4]<;>omega|fail) [a91r4, hm, hne]
   refine loopA91 t ih1 ih2 d nn o s hd hd2 true (by rw [if_pos rfl, hwf]; rfl) hn hn2 (nn + 1) (if dd < d then d else dd) (by omega) (by omega) _ _ ?_ ?_ ?_ ?_ ?_ ?_ ?_ ho (by omega) (by omega)
   all_goals (try simp -implicitDefEqProofs (disch:=first|omega|simp only[nx4]<;>omega|fail) [cnt3])
   all_goals omega
  ·simp -implicitDefEqProofs (disch:=first|omega|simp only[nx4]<;>omega|fail) [a91, a91b, a91r0, a91r1, a91r2, a91r3, hm, w1, t1', t2', hne]
   refine go_pure h140 fun mm2 hm2 => ?_
   try simp only [nx4] at hm2
   simp -implicitDefEqProofs (disch:=first|omega|simp only[nx4]<;>omega|fail)
   refine loopA91 t ih1 ih2 d nn o s hd hd2 false (by rw [if_neg (by simp), hwf, Bool.true_and]) hn hn2 (nn + 1) (if dd < d then d else dd) (by omega) (by omega) _ _ ?_ ?_ ?_ ?_ ?_ ?_ ?_ ho (by omega) (by omega)
   all_goals (try simp -implicitDefEqProofs (disch:=first|omega|simp only[nx4]<;>omega|fail) [cnt3])
   all_goals omega
end Go.AL.Dm
namespace Go.AL.Dm
open Go Go.Proofs
theorem p51 (t : Pl) (h : small t) (s : St) : ACalls Tryz.prog 51 [t.av] s fun r s' => (∃ a b, r = .tup [.int .i64 a, .int .i64 b, .bool (wf t)]) ∧ Kept s s' := by
 refine fun_sound mixed Tryz.func51 Tryz.call51 c51 rfl (awpFun_go _ _ _ _ ?_)
 obtain ⟨h1, h2⟩ := h
 simp -implicitDefEqProofs (disch:=first|omega|simp only[nx4]<;>omega|fail) [a51, a51b, a51r0, a51r1, a51r2]
 refine go_calls (ACalls.mono (p91 t 1 0 0 (s.nx + 1) _ (by omega) (by omega) (by omega) (by omega) (by simp -implicitDefEqProofs (disch:=first|omega|simp only[nx4]<;>omega|fail) [cnt3]) (by simp -implicitDefEqProofs (disch:=first|omega|simp only[nx4]<;>omega|fail))) fun r s' hn' h => go_of ?_)
 obtain ⟨rfl, nn', dd', q1, q2, q3, q4⟩ := h
 have hk : Kept s s' := keptX_kept q4 (by simp -implicitDefEqProofs (disch:=first|omega|simp only[nx4]<;>omega|fail)) (by omega) (by simp -implicitDefEqProofs (disch:=first|omega|simp only[nx4]<;>omega|fail); omega)
 rw [cnt3] at q3
 cases hw : wf t <;> rw [hw] at q3
 ·simp -implicitDefEqProofs (disch:=first|omega|simp only[nx4]<;>omega|fail) [a51r3, a51r4, q3]
  exact hk
 ·simp -implicitDefEqProofs (disch:=first|omega|simp only[nx4]<;>omega|fail) [a51r3, a51r5, q3]
  exact fun m _ => hk
theorem p27 (t : Pl) (h : small t) : PureC Tryz.prog 27 [t.av] (.bool (wf t)) := by
 refine PureC.intro fun s => fun_sound mixed Tryz.func27 Tryz.call27 c27 rfl (awpFun_go _ _ _ _ ?_)
 simp -implicitDefEqProofs (disch:=first|omega|simp only[nx4]<;>omega|fail) [a27, a27b, a27r0, a27r1]
 refine go_calls (ACalls.mono (p51 t h _) fun r s' hn' h => go_of ?_)
 obtain ⟨⟨a, b, rfl⟩, hk⟩ := h
 have hk' : Kept s s' := fun q hq => (hk q (by simp -implicitDefEqProofs (disch:=first|omega|simp only[nx4]<;>omega|fail); omega)).trans (by simp -implicitDefEqProofs (disch:=first|omega|simp only[nx4]<;>omega|fail))
 simp -implicitDefEqProofs (disch:=first|omega|simp only[nx4]<;>omega|fail) [a27r2, hk']
end Go.AL.Dm
