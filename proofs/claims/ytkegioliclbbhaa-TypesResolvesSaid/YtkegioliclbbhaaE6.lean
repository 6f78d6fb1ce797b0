import Derived.Test.YtkegioliclbbhaaD1
import Derived.Test.YtkegioliclbbhaaProg
import Derived.KernelRfl
import Derived.Test.YtkegioliclbbhaaE5
namespace Go.AL.Ty
open Go.Proofs

/- damask/damaskref05.Proper -/
def a13r0 : List AOper :=
  [⟨some (true, 1), .box (.g 0), none, []⟩,
   ⟨some (true, 2), .mv (.c (.bool false)), none, []⟩]
def a13r1 : List AOper :=
  [⟨some (true, 3), .alloc [(.int .i64 0)], none, []⟩,
   ⟨none, .store 1 (.g 3) (.c (.int .i64 0)), none, []⟩]
def a13r2 : List AOper :=
  [⟨some (false, 4), .load 4 true (.g 1), none, []⟩,
   ⟨some (false, 5), .call false (.c (.fn 57 [] [])) [(.l 4), (.c (.int .i64 1)), (.g 3)], none, []⟩,
   ⟨some (true, 2), .mv (.l 5), none, []⟩]
def a13b : ACode :=
  (.seq (.reg false a13r0) (.seq (.reg false a13r1) (.seq (.reg false a13r2) .ret)))
def a13 : AFun := ⟨1, 6, a13b, [.tmp (true, 2)]⟩
theorem c13 : compileFun Try.prog [0, 1, 2, 3] Try.f13 = some a13 := by kernel_rfl

/- damask/damaskref05.proper -/
def a57r0 : List AOper :=
  [⟨some (true, 3), .box (.g 0), none, []⟩,
   ⟨some (true, 6), .mv (.c (.bool false)), none, []⟩]
def a57r1 : List AOper :=
  [⟨some (false, 10), .mv (.g 2), none, []⟩,
   ⟨some (false, 11), .nilCheck (.l 10), none, []⟩,
   ⟨some (false, 12), .load 1 false (.l 11), none, []⟩,
   ⟨some (false, 13), .bin .add (.l 12) (.c (.int .i64 1)), none, []⟩,
   ⟨some (false, 14), .nilCheck (.l 10), none, []⟩,
   ⟨none, .store 1 (.l 14) (.l 13), none, []⟩]
def a57r2 : List AOper :=
  [⟨some (false, 15), .mv (.g 2), none, []⟩,
   ⟨some (false, 16), .nilCheck (.l 15), none, []⟩,
   ⟨some (false, 17), .load 1 false (.l 16), none, []⟩,
   ⟨some (false, 18), .bin .gtr (.l 17) (.c (.int .i64 600)), none, []⟩,
   ⟨some (false, 19), .mv (.l 18), none, []⟩,
   ⟨some (false, 20), .mv (.g 1), some (false, 19, false), []⟩,
   ⟨some (false, 21), .bin .gtr (.l 20) (.c (.int .i64 40)), some (false, 19, false), []⟩,
   ⟨some (true, 22), .pick (.l 19) (.c (.bool true)) (.l 21), none, []⟩]
def a57r3 : List AOper :=
  [⟨some (true, 6), .mv (.c (.bool false)), none, []⟩]
def a57r4 : List AOper :=
  [⟨some (true, 7), .mv (.c (.int .i64 0)), none, []⟩]
def a57r5 : List AOper :=
  [⟨some (false, 23), .fieldAddr 0 (.g 3), none, []⟩,
   ⟨some (true, 24), .load 1 false (.l 23), none, []⟩]
def a57r6 : List AOper :=
  [⟨some (false, 26), .bin .eql (.g 24) (.c (.int .i64 1)), none, []⟩,
   ⟨some (true, 25), .mv (.l 26), none, []⟩]
def a57r7 : List AOper :=
  [⟨some (false, 27), .bin .eql (.g 24) (.c (.int .i64 6)), none, []⟩,
   ⟨some (true, 25), .mv (.l 27), none, []⟩]
def a57r8 : List AOper :=
  [⟨some (false, 28), .bin .eql (.g 24) (.c (.int .i64 7)), none, []⟩,
   ⟨some (true, 25), .mv (.l 28), none, []⟩]
def a57r9 : List AOper :=
  [⟨some (false, 29), .fieldAddr 1 (.g 3), none, []⟩,
   ⟨some (false, 30), .load 1 false (.l 29), none, []⟩,
   ⟨some (false, 31), .call false (.c (.fn 20 [] [])) [(.l 30)], none, []⟩,
   ⟨some (false, 32), .un .not (.l 31), none, []⟩,
   ⟨some (false, 33), .mv (.l 32), none, []⟩,
   ⟨some (false, 34), .fieldAddr 2 (.g 3), some (false, 33, false), []⟩,
   ⟨some (false, 35), .load 1 false (.l 34), some (false, 33, false), []⟩,
   ⟨some (false, 36), .bin .neq (.l 35) (.c (.str ⟨#[]⟩)), some (false, 33, false), []⟩,
   ⟨some (true, 37), .pick (.l 33) (.c (.bool true)) (.l 36), none, []⟩]
def a57r10 : List AOper :=
  [⟨some (true, 6), .mv (.c (.bool false)), none, []⟩]
def a57r11 : List AOper :=
  [⟨some (false, 39), .bin .eql (.g 24) (.c (.int .i64 2)), none, []⟩,
   ⟨some (true, 38), .mv (.l 39), none, []⟩]
def a57r12 : List AOper :=
  [⟨some (false, 40), .fieldAddr 1 (.g 3), none, []⟩,
   ⟨some (false, 41), .load 1 false (.l 40), none, []⟩,
   ⟨some (false, 42), .bin .neq (.l 41) (.c (.int .i64 0)), none, []⟩,
   ⟨some (false, 43), .mv (.l 42), none, []⟩,
   ⟨some (false, 44), .fieldAddr 2 (.g 3), some (false, 43, false), []⟩,
   ⟨some (false, 45), .load 1 false (.l 44), some (false, 43, false), []⟩,
   ⟨some (false, 46), .bin .eql (.l 45) (.c (.str ⟨#[]⟩)), some (false, 43, false), []⟩,
   ⟨some (false, 47), .pick (.l 43) (.c (.bool true)) (.l 46), none, []⟩,
   ⟨some (false, 48), .mv (.l 47), none, []⟩,
   ⟨some (false, 49), .fieldAddr 2 (.g 3), some (false, 48, false), []⟩,
   ⟨some (false, 50), .load 1 false (.l 49), some (false, 48, false), []⟩,
   ⟨some (false, 51), .lenStr (.l 50), some (false, 48, false), []⟩,
   ⟨some (false, 52), .bin .gtr (.l 51) (.c (.int .i64 40)), some (false, 48, false), []⟩,
   ⟨some (true, 53), .pick (.l 48) (.c (.bool true)) (.l 52), none, []⟩]
def a57r13 : List AOper :=
  [⟨some (true, 6), .mv (.c (.bool false)), none, []⟩]
def a57r14 : List AOper :=
  [⟨some (false, 55), .bin .eql (.g 24) (.c (.int .i64 3)), none, []⟩,
   ⟨some (true, 54), .mv (.l 55), none, []⟩]
def a57r15 : List AOper :=
  [⟨some (false, 56), .bin .eql (.g 24) (.c (.int .i64 4)), none, []⟩,
   ⟨some (true, 54), .mv (.l 56), none, []⟩]
def a57r16 : List AOper :=
  [⟨some (false, 57), .bin .eql (.g 24) (.c (.int .i64 5)), none, []⟩,
   ⟨some (true, 54), .mv (.l 57), none, []⟩]
def a57r17 : List AOper :=
  [⟨some (false, 58), .fieldAddr 1 (.g 3), none, []⟩,
   ⟨some (false, 59), .load 1 false (.l 58), none, []⟩,
   ⟨some (false, 60), .bin .neq (.l 59) (.c (.int .i64 0)), none, []⟩,
   ⟨some (false, 61), .mv (.l 60), none, []⟩,
   ⟨some (false, 62), .fieldAddr 2 (.g 3), some (false, 61, false), []⟩,
   ⟨some (false, 63), .load 1 false (.l 62), some (false, 61, false), []⟩,
   ⟨some (false, 64), .bin .neq (.l 63) (.c (.str ⟨#[]⟩)), some (false, 61, false), []⟩,
   ⟨some (true, 65), .pick (.l 61) (.c (.bool true)) (.l 64), none, []⟩]
def a57r18 : List AOper :=
  [⟨some (true, 6), .mv (.c (.bool false)), none, []⟩]
def a57r19 : List AOper :=
  [⟨some (true, 7), .mv (.c (.int .i64 2)), none, []⟩]
def a57r20 : List AOper :=
  [⟨some (true, 6), .mv (.c (.bool false)), none, []⟩]
def a57r21 : List AOper :=
  [⟨some (false, 66), .fieldAddr 3 (.g 3), none, []⟩,
   ⟨some (false, 67), .load 1 false (.l 66), none, []⟩,
   ⟨some (false, 68), .len (.l 67), none, []⟩,
   ⟨some (false, 69), .mv (.g 7), none, []⟩,
   ⟨some (true, 70), .bin .neq (.l 68) (.l 69), none, []⟩]
def a57r22 : List AOper :=
  [⟨some (true, 6), .mv (.c (.bool false)), none, []⟩]
def a57r23 : List AOper :=
  [⟨some (false, 71), .fieldAddr 3 (.g 3), none, []⟩,
   ⟨some (true, 72), .load 1 false (.l 71), none, []⟩,
   ⟨some (true, 73), .len (.g 72), none, []⟩,
   ⟨some (true, 74), .mv (.c (.int .i64 0)), none, []⟩]
def a57r24 : List AOper :=
  [⟨some (true, 75), .bin .lss (.g 74) (.g 73), none, []⟩]
def a57r25 : List AOper :=
  [⟨some (false, 76), .indexAddr 4 (.g 72) (.g 74), none, []⟩,
   ⟨some (false, 77), .load 4 true (.l 76), none, []⟩,
   ⟨some (true, 9), .alloc [(.int .i64 0), (.int .i64 0), (.str ⟨#[]⟩), (.list 0 .full [])], none, []⟩,
   ⟨none, .store 4 (.g 9) (.l 77), none, []⟩]
def a57r26 : List AOper :=
  [⟨some (false, 78), .load 4 true (.g 9), none, []⟩,
   ⟨some (false, 79), .mv (.g 1), none, []⟩,
   ⟨some (false, 80), .bin .add (.l 79) (.c (.int .i64 1)), none, []⟩,
   ⟨some (false, 81), .mv (.g 2), none, []⟩,
   ⟨some (false, 82), .call false (.c (.fn 57 [] [])) [(.l 78), (.l 80), (.l 81)], none, []⟩,
   ⟨some (true, 83), .un .not (.l 82), none, []⟩]
def a57r27 : List AOper :=
  [⟨some (true, 6), .mv (.c (.bool false)), none, []⟩]
def a57r28 : List AOper :=
  [⟨some (false, 84), .bin .add (.g 74) (.c (.int .i64 1)), none, []⟩,
   ⟨some (true, 74), .mv (.l 84), none, []⟩]
def a57l29 : ACode :=
  (.seq (.reg false a57r24) (.seq (.cond (.g 75) .skip (.exit 1)) (.seq (.block 2 (.seq (.reg false a57r25) (.seq (.reg false a57r26) (.cond (.g 83) (.seq (.reg false a57r27) .ret) .skip)))) (.reg false a57r28))))
def a57r30 : List AOper :=
  [⟨some (true, 6), .mv (.c (.bool true)), none, []⟩]
def a57b : ACode :=
  (.seq (.reg false a57r0) (.seq (.reg false a57r1) (.seq (.seq (.reg false a57r2) (.cond (.g 22) (.seq (.reg false a57r3) .ret) .skip)) (.seq (.reg false a57r4) (.seq (.seq (.reg false a57r5) (.block 0 (.seq (.seq (.reg false a57r6) (.cond (.g 25) .skip (.seq (.reg false a57r7) (.cond (.g 25) .skip (.reg false a57r8))))) (.cond (.g 25) (.seq (.reg false a57r9) (.cond (.g 37) (.seq (.reg false a57r10) .ret) .skip)) (.seq (.reg false a57r11) (.cond (.g 38) (.seq (.reg false a57r12) (.cond (.g 53) (.seq (.reg false a57r13) .ret) .skip)) (.seq (.seq (.reg false a57r14) (.cond (.g 54) .skip (.seq (.reg false a57r15) (.cond (.g 54) .skip (.reg false a57r16))))) (.cond (.g 54) (.seq (.seq (.reg false a57r17) (.cond (.g 65) (.seq (.reg false a57r18) .ret) .skip)) (.reg false a57r19)) (.seq (.reg false a57r20) .ret))))))))) (.seq (.seq (.reg false a57r21) (.cond (.g 70) (.seq (.reg false a57r22) .ret) .skip)) (.seq (.seq (.reg false a57r23) (.block 1 (.loop a57l29))) (.seq (.reg false a57r30) .ret))))))))
def a57 : AFun := ⟨3, 85, a57b, [.tmp (true, 6)]⟩
theorem c57 : compileFun Try.prog [0, 1, 2, 3, 6, 7, 9, 22, 24, 25, 37, 38, 53, 54, 65, 70, 72, 73, 74, 75, 83] Try.f57 = some a57 := by kernel_rfl

/- damask/damaskref05.Propers -/
def a14r0 : List AOper :=
  [⟨some (true, 2), .mv (.c (.bool false)), none, []⟩]
def a14r1 : List AOper :=
  [⟨some (false, 5), .mv (.g 0), none, []⟩,
   ⟨some (false, 6), .len (.l 5), none, []⟩,
   ⟨some (true, 7), .bin .gtr (.l 6) (.c (.int .i64 600)), none, []⟩]
def a14r2 : List AOper :=
  [⟨some (true, 2), .mv (.c (.bool false)), none, []⟩]
def a14r3 : List AOper :=
  [⟨some (true, 8), .mv (.g 0), none, []⟩,
   ⟨some (true, 9), .len (.g 8), none, []⟩,
   ⟨some (true, 10), .mv (.c (.int .i64 0)), none, []⟩]
def a14r4 : List AOper :=
  [⟨some (true, 11), .bin .lss (.g 10) (.g 9), none, []⟩]
def a14r5 : List AOper :=
  [⟨some (false, 12), .indexAddr 4 (.g 8) (.g 10), none, []⟩,
   ⟨some (false, 13), .load 4 true (.l 12), none, []⟩,
   ⟨some (true, 4), .alloc [(.int .i64 0), (.int .i64 0), (.str ⟨#[]⟩), (.list 0 .full [])], none, []⟩,
   ⟨none, .store 4 (.g 4) (.l 13), none, []⟩]
def a14r6 : List AOper :=
  [⟨some (false, 14), .load 4 true (.g 4), none, []⟩,
   ⟨some (false, 15), .call false (.c (.fn 13 [] [])) [(.l 14)], none, []⟩,
   ⟨some (true, 16), .un .not (.l 15), none, []⟩]
def a14r7 : List AOper :=
  [⟨some (true, 2), .mv (.c (.bool false)), none, []⟩]
def a14r8 : List AOper :=
  [⟨some (false, 17), .bin .add (.g 10) (.c (.int .i64 1)), none, []⟩,
   ⟨some (true, 10), .mv (.l 17), none, []⟩]
def a14l9 : ACode :=
  (.seq (.reg false a14r4) (.seq (.cond (.g 11) .skip (.exit 0)) (.seq (.block 1 (.seq (.reg false a14r5) (.seq (.reg false a14r6) (.cond (.g 16) (.seq (.reg false a14r7) .ret) .skip)))) (.reg false a14r8))))
def a14r10 : List AOper :=
  [⟨some (true, 2), .mv (.c (.bool true)), none, []⟩]
def a14b : ACode :=
  (.seq (.reg false a14r0) (.seq (.seq (.reg false a14r1) (.cond (.g 7) (.seq (.reg false a14r2) .ret) .skip)) (.seq (.seq (.reg false a14r3) (.block 0 (.loop a14l9))) (.seq (.reg false a14r10) .ret))))
def a14 : AFun := ⟨1, 18, a14b, [.tmp (true, 2)]⟩
theorem c14 : compileFun Try.prog [0, 2, 4, 7, 8, 9, 10, 11, 16] Try.f14 = some a14 := by kernel_rfl

/- damask/damaskref05.Number -/
def a20r0 : List AOper :=
  [⟨some (true, 2), .mv (.c (.bool false)), none, []⟩]
def a20r1 : List AOper :=
  [⟨some (false, 3), .mv (.g 0), none, []⟩,
   ⟨some (false, 4), .bin .geq (.l 3) (.c (.int .i64 0)), none, []⟩,
   ⟨some (false, 5), .mv (.l 4), none, []⟩,
   ⟨some (false, 6), .mv (.g 0), some (false, 5, true), []⟩,
   ⟨some (false, 7), .bin .leq (.l 6) (.c (.int .i64 9999)), some (false, 5, true), []⟩,
   ⟨some (false, 8), .pick (.l 5) (.l 7) (.c (.bool false)), none, []⟩,
   ⟨some (true, 2), .mv (.l 8), none, []⟩]
def a20b : ACode :=
  (.seq (.reg false a20r0) (.seq (.reg false a20r1) .ret))
def a20 : AFun := ⟨1, 9, a20b, [.tmp (true, 2)]⟩
theorem c20 : compileFun Try.prog [0, 2] Try.f20 = some a20 := by kernel_rfl

/- damask/damasklaw05.zero -/
def a15r0 : List AOper :=
  [⟨some (true, 1), .box (.g 0), none, []⟩,
   ⟨some (true, 2), .mv (.c (.bool false)), none, []⟩]
def a15r1 : List AOper :=
  [⟨some (false, 3), .load 4 true (.g 1), none, []⟩,
   ⟨some (false, 4), .build [(.int .i64 0), (.int .i64 0), (.str ⟨#[]⟩), (.list 0 .full [])] [], none, []⟩,
   ⟨some (false, 5), .call false (.c (.fn 31 [] [])) [(.l 3), (.l 4)], none, []⟩,
   ⟨some (true, 2), .mv (.l 5), none, []⟩]
def a15b : ACode :=
  (.seq (.reg false a15r0) (.seq (.reg false a15r1) .ret))
def a15 : AFun := ⟨1, 6, a15b, [.tmp (true, 2)]⟩
theorem c15 : compileFun Try.prog [0, 1, 2] Try.f15 = some a15 := by kernel_rfl

/- damask/damasklaw05.whole -/
def a17r0 : List AOper :=
  [⟨some (true, 3), .box (.g 0), none, []⟩,
   ⟨some (true, 5), .box (.g 2), none, []⟩,
   ⟨some (true, 6), .mv (.c (.bool false)), none, []⟩]
def a17r1 : List AOper :=
  [⟨some (false, 7), .load 4 true (.g 5), none, []⟩,
   ⟨some (false, 8), .call false (.c (.fn 13 [] [])) [(.l 7)], none, []⟩,
   ⟨some (true, 9), .un .not (.l 8), none, []⟩]
def a17r2 : List AOper :=
  [⟨some (false, 10), .load 4 true (.g 3), none, []⟩,
   ⟨some (false, 11), .call false (.c (.fn 15 [] [])) [(.l 10)], none, []⟩,
   ⟨some (false, 12), .mv (.l 11), none, []⟩,
   ⟨some (false, 13), .mv (.g 1), some (false, 12, true), []⟩,
   ⟨some (false, 14), .bin .eql (.l 13) (.c (.int .i64 5)), some (false, 12, true), []⟩,
   ⟨some (false, 15), .pick (.l 12) (.l 14) (.c (.bool false)), none, []⟩,
   ⟨some (true, 6), .mv (.l 15), none, []⟩]
def a17r3 : List AOper :=
  [⟨some (false, 16), .mv (.g 1), none, []⟩,
   ⟨some (false, 17), .bin .eql (.l 16) (.c (.int .i64 0)), none, []⟩,
   ⟨some (false, 18), .mv (.l 17), none, []⟩,
   ⟨some (false, 19), .load 4 true (.g 3), some (false, 18, true), []⟩,
   ⟨some (false, 20), .load 4 true (.g 5), some (false, 18, true), []⟩,
   ⟨some (false, 21), .call false (.c (.fn 31 [] [])) [(.l 19), (.l 20)], some (false, 18, true), []⟩,
   ⟨some (false, 22), .pick (.l 18) (.l 21) (.c (.bool false)), none, []⟩,
   ⟨some (true, 6), .mv (.l 22), none, []⟩]
def a17b : ACode :=
  (.seq (.reg false a17r0) (.seq (.seq (.reg false a17r1) (.cond (.g 9) (.seq (.reg false a17r2) .ret) .skip)) (.seq (.reg false a17r3) .ret)))
def a17 : AFun := ⟨3, 23, a17b, [.tmp (true, 6)]⟩
theorem c17 : compileFun Try.prog [0, 1, 2, 3, 5, 6, 9] Try.f17 = some a17 := by kernel_rfl

/- damask/damaskref05.Put -/
def a18r0 : List AOper :=
  [⟨some (true, 2), .box (.g 0), none, []⟩,
   ⟨some (true, 4), .alloc [(.int .i64 0), (.int .i64 0), (.str ⟨#[]⟩), (.list 0 .full [])], none, []⟩]
def a18r1 : List AOper :=
  [⟨some (false, 5), .load 4 true (.g 2), none, []⟩,
   ⟨some (false, 6), .mv (.g 1), none, []⟩,
   ⟨some (false, 7), .call false (.c (.fn 60 [] [])) [(.l 5), (.l 6), (.c (.int .i64 0))], none, []⟩,
   ⟨none, .store 4 (.g 4) (.l 7), none, []⟩]
def a18b : ACode :=
  (.seq (.reg false a18r0) (.seq (.reg false a18r1) .ret))
def a18 : AFun := ⟨2, 8, a18b, [.cell (true, 4) 4 true]⟩
theorem c18 : compileFun Try.prog [0, 1, 2, 4] Try.f18 = some a18 := by kernel_rfl

/- damask/damaskref05.put -/
def a60r0 : List AOper :=
  [⟨some (true, 3), .box (.g 0), none, []⟩,
   ⟨some (true, 6), .alloc [(.int .i64 0), (.int .i64 0), (.str ⟨#[]⟩), (.list 0 .full [])], none, []⟩]
def a60r1 : List AOper :=
  [⟨some (false, 11), .mv (.g 1), none, []⟩,
   ⟨some (false, 12), .len (.l 11), none, []⟩,
   ⟨some (true, 7), .mv (.l 12), none, []⟩]
def a60r2 : List AOper :=
  [⟨some (false, 13), .fieldAddr 0 (.g 3), none, []⟩,
   ⟨some (false, 14), .load 1 false (.l 13), none, []⟩,
   ⟨some (true, 15), .bin .eql (.l 14) (.c (.int .i64 1)), none, []⟩]
def a60r3 : List AOper :=
  [⟨some (false, 17), .fieldAddr 1 (.g 3), none, []⟩,
   ⟨some (false, 18), .load 1 false (.l 17), none, []⟩,
   ⟨some (false, 19), .mv (.g 2), none, []⟩,
   ⟨some (false, 20), .bin .lss (.l 18) (.l 19), none, []⟩,
   ⟨some (true, 16), .mv (.l 20), none, []⟩]
def a60r4 : List AOper :=
  [⟨some (false, 21), .load 4 true (.g 3), none, []⟩,
   ⟨none, .store 4 (.g 6) (.l 21), none, []⟩]
def a60r5 : List AOper :=
  [⟨some (false, 23), .fieldAddr 1 (.g 3), none, []⟩,
   ⟨some (false, 24), .load 1 false (.l 23), none, []⟩,
   ⟨some (false, 25), .mv (.g 2), none, []⟩,
   ⟨some (false, 26), .bin .sub (.l 24) (.l 25), none, []⟩,
   ⟨some (false, 27), .mv (.g 7), none, []⟩,
   ⟨some (false, 28), .bin .lss (.l 26) (.l 27), none, []⟩,
   ⟨some (true, 22), .mv (.l 28), none, []⟩]
def a60r6 : List AOper :=
  [⟨some (false, 29), .mv (.g 1), none, []⟩,
   ⟨some (false, 30), .mv (.g 7), none, []⟩,
   ⟨some (false, 31), .bin .sub (.l 30) (.c (.int .i64 1)), none, []⟩,
   ⟨some (false, 32), .fieldAddr 1 (.g 3), none, []⟩,
   ⟨some (false, 33), .load 1 false (.l 32), none, []⟩,
   ⟨some (false, 34), .mv (.g 2), none, []⟩,
   ⟨some (false, 35), .bin .sub (.l 33) (.l 34), none, []⟩,
   ⟨some (false, 36), .bin .sub (.l 31) (.l 35), none, []⟩,
   ⟨some (false, 37), .indexAddr 4 (.l 29) (.l 36), none, []⟩,
   ⟨some (false, 38), .load 4 true (.l 37), none, []⟩,
   ⟨some (false, 39), .mv (.g 2), none, []⟩,
   ⟨some (false, 40), .call false (.c (.fn 102 [] [])) [(.l 38), (.l 39)], none, []⟩,
   ⟨none, .store 4 (.g 6) (.l 40), none, []⟩]
def a60r7 : List AOper :=
  [⟨some (false, 41), .fieldAddr 1 (.g 3), none, []⟩,
   ⟨some (false, 42), .load 1 false (.l 41), none, []⟩,
   ⟨some (false, 43), .mv (.g 7), none, []⟩,
   ⟨some (false, 44), .bin .sub (.l 42) (.l 43), none, []⟩,
   ⟨some (false, 45), .call false (.c (.fn 59 [] [])) [(.l 44)], none, []⟩,
   ⟨none, .store 4 (.g 6) (.l 45), none, []⟩]
def a60r8 : List AOper :=
  [⟨some (false, 46), .fieldAddr 0 (.g 3), none, []⟩,
   ⟨some (false, 47), .load 1 false (.l 46), none, []⟩,
   ⟨some (false, 48), .fieldAddr 1 (.g 3), none, []⟩,
   ⟨some (false, 49), .load 1 false (.l 48), none, []⟩,
   ⟨some (false, 50), .fieldAddr 2 (.g 3), none, []⟩,
   ⟨some (false, 51), .load 1 false (.l 50), none, []⟩,
   ⟨some (false, 52), .build [(.int .i64 0), (.int .i64 0), (.str ⟨#[]⟩), (.list 0 .full [])] [(0, 1, (.l 47)), (1, 1, (.l 49)), (2, 1, (.l 51))], none, []⟩,
   ⟨some (true, 8), .alloc [(.int .i64 0), (.int .i64 0), (.str ⟨#[]⟩), (.list 0 .full [])], none, []⟩,
   ⟨none, .store 4 (.g 8) (.l 52), none, []⟩]
def a60r9 : List AOper :=
  [⟨some (false, 53), .fieldAddr 3 (.g 3), none, []⟩,
   ⟨some (true, 54), .load 1 false (.l 53), none, []⟩,
   ⟨some (true, 55), .len (.g 54), none, []⟩,
   ⟨some (true, 56), .mv (.c (.int .i64 0)), none, []⟩]
def a60r10 : List AOper :=
  [⟨some (true, 57), .bin .lss (.g 56) (.g 55), none, []⟩]
def a60r11 : List AOper :=
  [⟨some (false, 58), .mv (.g 56), none, []⟩,
   ⟨some (false, 59), .indexAddr 4 (.g 54) (.g 56), none, []⟩,
   ⟨some (false, 60), .load 4 true (.l 59), none, []⟩,
   ⟨some (true, 10), .alloc [(.int .i64 0), (.int .i64 0), (.str ⟨#[]⟩), (.list 0 .full [])], none, []⟩,
   ⟨some (true, 9), .mv (.l 58), none, []⟩,
   ⟨none, .store 4 (.g 10) (.l 60), none, []⟩]
def a60r12 : List AOper :=
  [⟨some (false, 61), .fieldAddr 3 (.g 8), none, []⟩,
   ⟨some (false, 62), .load 1 false (.l 61), none, []⟩,
   ⟨some (false, 63), .load 4 true (.g 10), none, []⟩,
   ⟨some (false, 64), .mv (.g 1), none, []⟩,
   ⟨some (false, 65), .mv (.g 2), none, []⟩,
   ⟨some (false, 66), .load 4 true (.g 3), none, []⟩,
   ⟨some (false, 67), .mv (.g 9), none, []⟩,
   ⟨some (false, 68), .call true (.c (.fn 103 [] [])) [(.l 66), (.l 67)], none, []⟩,
   ⟨some (false, 69), .bin .add (.l 65) (.l 68), none, []⟩,
   ⟨some (false, 70), .call true (.c (.fn 60 [] [])) [(.l 63), (.l 64), (.l 69)], none, []⟩,
   ⟨some (false, 71), .buildSlice 4 true [(.int .i64 0), (.int .i64 0), (.str ⟨#[]⟩), (.list 0 .full [])] 1 [(0, (.l 70))], none, []⟩,
   ⟨some (false, 72), .append 4 56 (.l 62) (.l 71), none, []⟩,
   ⟨some (false, 73), .fieldAddr 3 (.g 8), none, []⟩,
   ⟨none, .store 1 (.l 73) (.l 72), none, []⟩]
def a60r13 : List AOper :=
  [⟨some (false, 74), .bin .add (.g 56) (.c (.int .i64 1)), none, []⟩,
   ⟨some (true, 56), .mv (.l 74), none, []⟩]
def a60l14 : ACode :=
  (.seq (.reg false a60r10) (.seq (.cond (.g 57) .skip (.exit 1)) (.seq (.block 2 (.seq (.reg false a60r11) (.reg true a60r12))) (.reg false a60r13))))
def a60r15 : List AOper :=
  [⟨some (false, 75), .load 4 true (.g 8), none, []⟩,
   ⟨none, .store 4 (.g 6) (.l 75), none, []⟩]
def a60b : ACode :=
  (.seq (.reg false a60r0) (.seq (.reg false a60r1) (.seq (.seq (.reg false a60r2) (.cond (.g 15) (.seq (.block 0 (.seq (.reg false a60r3) (.cond (.g 16) (.seq (.reg false a60r4) .ret) (.seq (.reg false a60r5) (.cond (.g 22) (.seq (.reg false a60r6) .ret) .skip))))) (.seq (.reg false a60r7) .ret)) .skip)) (.seq (.reg false a60r8) (.seq (.seq (.reg false a60r9) (.block 1 (.loop a60l14))) (.seq (.reg false a60r15) .ret))))))
def a60 : AFun := ⟨3, 76, a60b, [.cell (true, 6) 4 true]⟩
theorem c60 : compileFun Try.prog [0, 1, 2, 3, 6, 7, 8, 9, 10, 15, 16, 22, 54, 55, 56, 57] Try.f60 = some a60 := by kernel_rfl

/- damask/damaskref05.Up -/
def a102r0 : List AOper :=
  [⟨some (true, 2), .box (.g 0), none, []⟩,
   ⟨some (true, 4), .alloc [(.int .i64 0), (.int .i64 0), (.str ⟨#[]⟩), (.list 0 .full [])], none, []⟩]
def a102r1 : List AOper :=
  [⟨some (false, 8), .load 4 true (.g 2), none, []⟩,
   ⟨some (false, 9), .mv (.g 1), none, []⟩,
   ⟨some (false, 10), .call false (.c (.fn 21 [] [])) [(.l 8), (.l 9), (.c (.int .i64 0))], none, []⟩,
   ⟨some (false, 7), .mv (.l 10), none, []⟩,
   ⟨some (false, 11), .extract (.l 7) 0, none, []⟩,
   ⟨some (false, 12), .extract (.l 7) 1, none, []⟩,
   ⟨some (true, 5), .alloc [(.int .i64 0), (.int .i64 0), (.str ⟨#[]⟩), (.list 0 .full [])], none, []⟩,
   ⟨none, .store 4 (.g 5) (.l 11), none, []⟩,
   ⟨some (false, 6), .mv (.l 12), none, []⟩]
def a102r2 : List AOper :=
  [⟨some (false, 13), .load 4 true (.g 5), none, []⟩,
   ⟨none, .store 4 (.g 4) (.l 13), none, []⟩]
def a102b : ACode :=
  (.seq (.reg false a102r0) (.seq (.reg false a102r1) (.seq (.reg false a102r2) .ret)))
def a102 : AFun := ⟨2, 14, a102b, [.cell (true, 4) 4 true]⟩
theorem c102 : compileFun Try.prog [0, 1, 2, 4, 5] Try.f102 = some a102 := by kernel_rfl

/- damask/damaskref05.Shift -/
def a21r0 : List AOper :=
  [⟨some (true, 3), .box (.g 0), none, []⟩,
   ⟨some (true, 6), .alloc [(.int .i64 0), (.int .i64 0), (.str ⟨#[]⟩), (.list 0 .full [])], none, []⟩,
   ⟨some (true, 7), .mv (.c (.bool false)), none, []⟩]
def a21r1 : List AOper :=
  [⟨some (false, 8), .load 4 true (.g 3), none, []⟩,
   ⟨some (false, 9), .mv (.g 1), none, []⟩,
   ⟨some (false, 10), .mv (.g 2), none, []⟩,
   ⟨some (false, 11), .call false (.c (.fn 64 [] [])) [(.l 8), (.l 9), (.l 10), (.c (.int .i64 0))], none, []⟩,
   ⟨some (false, 12), .extract (.l 11) 0, none, []⟩,
   ⟨some (false, 13), .extract (.l 11) 1, none, []⟩,
   ⟨none, .store 4 (.g 6) (.l 12), none, []⟩,
   ⟨some (true, 7), .mv (.l 13), none, []⟩]
def a21b : ACode :=
  (.seq (.reg false a21r0) (.seq (.reg false a21r1) .ret))
def a21 : AFun := ⟨3, 14, a21b, [.cell (true, 6) 4 true, .tmp (true, 7)]⟩
theorem c21 : compileFun Try.prog [0, 1, 2, 3, 6, 7] Try.f21 = some a21 := by kernel_rfl

/- damask/damaskref05.shift -/
def a64r0 : List AOper :=
  [⟨some (true, 4), .box (.g 0), none, []⟩,
   ⟨some (true, 8), .alloc [(.int .i64 0), (.int .i64 0), (.str ⟨#[]⟩), (.list 0 .full [])], none, []⟩,
   ⟨some (true, 9), .mv (.c (.bool false)), none, []⟩]
def a64r1 : List AOper :=
  [⟨some (false, 16), .fieldAddr 0 (.g 4), none, []⟩,
   ⟨some (false, 17), .load 1 false (.l 16), none, []⟩,
   ⟨some (false, 18), .fieldAddr 1 (.g 4), none, []⟩,
   ⟨some (false, 19), .load 1 false (.l 18), none, []⟩,
   ⟨some (false, 20), .fieldAddr 2 (.g 4), none, []⟩,
   ⟨some (false, 21), .load 1 false (.l 20), none, []⟩,
   ⟨some (false, 22), .build [(.int .i64 0), (.int .i64 0), (.str ⟨#[]⟩), (.list 0 .full [])] [(0, 1, (.l 17)), (1, 1, (.l 19)), (2, 1, (.l 21))], none, []⟩,
   ⟨some (true, 10), .alloc [(.int .i64 0), (.int .i64 0), (.str ⟨#[]⟩), (.list 0 .full [])], none, []⟩,
   ⟨none, .store 4 (.g 10) (.l 22), none, []⟩]
def a64r2 : List AOper :=
  [⟨some (false, 23), .fieldAddr 0 (.g 4), none, []⟩,
   ⟨some (false, 24), .load 1 false (.l 23), none, []⟩,
   ⟨some (false, 25), .bin .eql (.l 24) (.c (.int .i64 1)), none, []⟩,
   ⟨some (false, 26), .mv (.l 25), none, []⟩,
   ⟨some (false, 27), .fieldAddr 1 (.g 4), some (false, 26, true), []⟩,
   ⟨some (false, 28), .load 1 false (.l 27), some (false, 26, true), []⟩,
   ⟨some (false, 29), .mv (.g 3), some (false, 26, true), []⟩,
   ⟨some (false, 30), .bin .sub (.l 28) (.l 29), some (false, 26, true), []⟩,
   ⟨some (false, 31), .mv (.g 2), some (false, 26, true), []⟩,
   ⟨some (false, 32), .bin .geq (.l 30) (.l 31), some (false, 26, true), []⟩,
   ⟨some (true, 33), .pick (.l 26) (.l 32) (.c (.bool false)), none, []⟩]
def a64r3 : List AOper :=
  [⟨some (false, 34), .fieldAddr 1 (.g 4), none, []⟩,
   ⟨some (false, 35), .load 1 false (.l 34), none, []⟩,
   ⟨some (false, 36), .mv (.g 1), none, []⟩,
   ⟨some (false, 37), .bin .add (.l 35) (.l 36), none, []⟩,
   ⟨some (false, 38), .fieldAddr 1 (.g 10), none, []⟩,
   ⟨none, .store 1 (.l 38) (.l 37), none, []⟩]
def a64r4 : List AOper :=
  [⟨some (false, 39), .load 4 true (.g 10), none, []⟩,
   ⟨some (false, 40), .fieldAddr 1 (.g 10), none, []⟩,
   ⟨some (false, 41), .load 1 false (.l 40), none, []⟩,
   ⟨some (false, 42), .mv (.g 3), none, []⟩,
   ⟨some (false, 43), .bin .sub (.l 41) (.l 42), none, []⟩,
   ⟨some (false, 44), .mv (.g 2), none, []⟩,
   ⟨some (false, 45), .bin .geq (.l 43) (.l 44), none, []⟩,
   ⟨none, .store 4 (.g 8) (.l 39), none, [2]⟩,
   ⟨some (true, 9), .mv (.l 45), none, []⟩]
def a64r5 : List AOper :=
  [⟨some (true, 11), .mv (.c (.bool true)), none, []⟩]
def a64r6 : List AOper :=
  [⟨some (false, 46), .fieldAddr 3 (.g 4), none, []⟩,
   ⟨some (true, 47), .load 1 false (.l 46), none, []⟩,
   ⟨some (true, 48), .len (.g 47), none, []⟩,
   ⟨some (true, 49), .mv (.c (.int .i64 0)), none, []⟩]
def a64r7 : List AOper :=
  [⟨some (true, 50), .bin .lss (.g 49) (.g 48), none, []⟩]
def a64r8 : List AOper :=
  [⟨some (false, 51), .mv (.g 49), none, []⟩,
   ⟨some (false, 52), .indexAddr 4 (.g 47) (.g 49), none, []⟩,
   ⟨some (false, 53), .load 4 true (.l 52), none, []⟩,
   ⟨some (true, 13), .alloc [(.int .i64 0), (.int .i64 0), (.str ⟨#[]⟩), (.list 0 .full [])], none, []⟩,
   ⟨some (true, 12), .mv (.l 51), none, []⟩,
   ⟨none, .store 4 (.g 13) (.l 53), none, []⟩]
def a64r9 : List AOper :=
  [⟨some (false, 55), .load 4 true (.g 13), none, []⟩,
   ⟨some (false, 56), .mv (.g 1), none, []⟩,
   ⟨some (false, 57), .mv (.g 2), none, []⟩,
   ⟨some (false, 58), .mv (.g 3), none, []⟩,
   ⟨some (false, 59), .load 4 true (.g 4), none, []⟩,
   ⟨some (false, 60), .mv (.g 12), none, []⟩,
   ⟨some (false, 61), .call true (.c (.fn 103 [] [])) [(.l 59), (.l 60)], none, []⟩,
   ⟨some (false, 62), .bin .add (.l 58) (.l 61), none, []⟩,
   ⟨some (false, 63), .call true (.c (.fn 64 [] [])) [(.l 55), (.l 56), (.l 57), (.l 62)], none, []⟩,
   ⟨some (false, 54), .mv (.l 63), none, []⟩,
   ⟨some (false, 64), .extract (.l 54) 0, none, []⟩,
   ⟨some (false, 65), .extract (.l 54) 1, none, []⟩,
   ⟨some (true, 14), .alloc [(.int .i64 0), (.int .i64 0), (.str ⟨#[]⟩), (.list 0 .full [])], none, []⟩,
   ⟨none, .store 4 (.g 14) (.l 64), none, []⟩,
   ⟨some (true, 15), .mv (.l 65), none, []⟩]
def a64r10 : List AOper :=
  [⟨some (false, 66), .mv (.g 11), none, []⟩,
   ⟨some (false, 67), .mv (.l 66), none, []⟩,
   ⟨some (false, 68), .mv (.g 15), some (false, 67, true), []⟩,
   ⟨some (false, 69), .pick (.l 67) (.l 68) (.c (.bool false)), none, []⟩,
   ⟨some (true, 11), .mv (.l 69), none, []⟩]
def a64r11 : List AOper :=
  [⟨some (false, 70), .fieldAddr 3 (.g 10), none, []⟩,
   ⟨some (false, 71), .load 1 false (.l 70), none, []⟩,
   ⟨some (false, 72), .load 4 true (.g 14), none, []⟩,
   ⟨some (false, 73), .buildSlice 4 true [(.int .i64 0), (.int .i64 0), (.str ⟨#[]⟩), (.list 0 .full [])] 1 [(0, (.l 72))], none, []⟩,
   ⟨some (false, 74), .append 4 56 (.l 71) (.l 73), none, []⟩,
   ⟨some (false, 75), .fieldAddr 3 (.g 10), none, []⟩,
   ⟨none, .store 1 (.l 75) (.l 74), none, []⟩]
def a64r12 : List AOper :=
  [⟨some (false, 76), .bin .add (.g 49) (.c (.int .i64 1)), none, []⟩,
   ⟨some (true, 49), .mv (.l 76), none, []⟩]
def a64l13 : ACode :=
  (.seq (.reg false a64r7) (.seq (.cond (.g 50) .skip (.exit 0)) (.seq (.block 1 (.seq (.reg false a64r8) (.seq (.reg true a64r9) (.seq (.reg false a64r10) (.reg false a64r11))))) (.reg false a64r12))))
def a64r14 : List AOper :=
  [⟨some (false, 77), .load 4 true (.g 10), none, []⟩,
   ⟨some (false, 78), .mv (.g 11), none, []⟩,
   ⟨none, .store 4 (.g 8) (.l 77), none, []⟩,
   ⟨some (true, 9), .mv (.l 78), none, []⟩]
def a64b : ACode :=
  (.seq (.reg false a64r0) (.seq (.reg false a64r1) (.seq (.seq (.reg false a64r2) (.cond (.g 33) (.seq (.reg false a64r3) (.seq (.reg true a64r4) .ret)) .skip)) (.seq (.reg false a64r5) (.seq (.seq (.reg false a64r6) (.block 0 (.loop a64l13))) (.seq (.reg false a64r14) .ret))))))
def a64 : AFun := ⟨4, 79, a64b, [.cell (true, 8) 4 true, .tmp (true, 9)]⟩
theorem c64 : compileFun Try.prog [0, 1, 2, 3, 4, 8, 9, 10, 11, 12, 13, 14, 15, 33, 47, 48, 49, 50] Try.f64 = some a64 := by kernel_rfl

/- damask/damaskref05.under -/
def a103r0 : List AOper :=
  [⟨some (true, 2), .box (.g 0), none, []⟩,
   ⟨some (true, 4), .mv (.c (.int .i64 0)), none, []⟩]
def a103r1 : List AOper :=
  [⟨some (false, 5), .fieldAddr 0 (.g 2), none, []⟩,
   ⟨some (false, 6), .load 1 false (.l 5), none, []⟩,
   ⟨some (false, 7), .bin .eql (.l 6) (.c (.int .i64 4)), none, []⟩,
   ⟨some (false, 8), .mv (.l 7), none, []⟩,
   ⟨some (false, 9), .mv (.g 1), some (false, 8, true), []⟩,
   ⟨some (false, 10), .bin .eql (.l 9) (.c (.int .i64 1)), some (false, 8, true), []⟩,
   ⟨some (true, 11), .pick (.l 8) (.l 10) (.c (.bool false)), none, []⟩]
def a103r2 : List AOper :=
  [⟨some (true, 4), .mv (.c (.int .i64 1)), none, []⟩]
def a103r3 : List AOper :=
  [⟨some (true, 4), .mv (.c (.int .i64 0)), none, []⟩]
def a103b : ACode :=
  (.seq (.reg false a103r0) (.seq (.seq (.reg false a103r1) (.cond (.g 11) (.seq (.reg false a103r2) .ret) .skip)) (.seq (.reg false a103r3) .ret)))
def a103 : AFun := ⟨2, 12, a103b, [.tmp (true, 4)]⟩
theorem c103 : compileFun Try.prog [0, 1, 2, 4, 11] Try.f103 = some a103 := by kernel_rfl

/- damask/damaskref05.Same -/
def a31r0 : List AOper :=
  [⟨some (true, 2), .box (.g 0), none, []⟩,
   ⟨some (true, 3), .box (.g 1), none, []⟩,
   ⟨some (true, 4), .mv (.c (.bool false)), none, []⟩]
def a31r1 : List AOper :=
  [⟨some (false, 5), .load 4 true (.g 2), none, []⟩,
   ⟨some (false, 6), .load 4 true (.g 3), none, []⟩,
   ⟨some (false, 7), .call false (.c (.fn 74 [] [])) [(.l 5), (.l 6)], none, []⟩,
   ⟨some (true, 4), .mv (.l 7), none, []⟩]
def a31b : ACode :=
  (.seq (.reg false a31r0) (.seq (.reg false a31r1) .ret))
def a31 : AFun := ⟨2, 8, a31b, [.tmp (true, 4)]⟩
theorem c31 : compileFun Try.prog [0, 1, 2, 3, 4] Try.f31 = some a31 := by kernel_rfl

/- damask/damaskref05.SameAll -/
def a32r0 : List AOper :=
  [⟨some (true, 4), .mv (.c (.bool false)), none, []⟩]
def a32r1 : List AOper :=
  [⟨some (false, 5), .mv (.g 0), none, []⟩,
   ⟨some (false, 6), .mv (.g 1), none, []⟩,
   ⟨some (false, 7), .call false (.c (.fn 75 [] [])) [(.l 5), (.l 6)], none, []⟩,
   ⟨some (true, 4), .mv (.l 7), none, []⟩]
def a32b : ACode :=
  (.seq (.reg false a32r0) (.seq (.reg false a32r1) .ret))
def a32 : AFun := ⟨2, 8, a32b, [.tmp (true, 4)]⟩
theorem c32 : compileFun Try.prog [0, 1, 4] Try.f32 = some a32 := by kernel_rfl

/- damask/damaskkit.Same -/
def a74r0 : List AOper :=
  [⟨some (true, 2), .box (.g 0), none, []⟩,
   ⟨some (true, 3), .box (.g 1), none, []⟩,
   ⟨some (true, 4), .mv (.c (.bool false)), none, []⟩]
def a74r1 : List AOper :=
  [⟨some (false, 5), .fieldAddr 0 (.g 2), none, []⟩,
   ⟨some (false, 6), .load 1 false (.l 5), none, []⟩,
   ⟨some (false, 7), .fieldAddr 0 (.g 3), none, []⟩,
   ⟨some (false, 8), .load 1 false (.l 7), none, []⟩,
   ⟨some (false, 9), .bin .eql (.l 6) (.l 8), none, []⟩,
   ⟨some (false, 10), .mv (.l 9), none, []⟩,
   ⟨some (false, 11), .fieldAddr 1 (.g 2), some (false, 10, true), []⟩,
   ⟨some (false, 12), .load 1 false (.l 11), some (false, 10, true), []⟩,
   ⟨some (false, 13), .fieldAddr 1 (.g 3), some (false, 10, true), []⟩,
   ⟨some (false, 14), .load 1 false (.l 13), some (false, 10, true), []⟩,
   ⟨some (false, 15), .bin .eql (.l 12) (.l 14), some (false, 10, true), []⟩,
   ⟨some (false, 16), .pick (.l 10) (.l 15) (.c (.bool false)), none, []⟩,
   ⟨some (false, 17), .mv (.l 16), none, []⟩,
   ⟨some (false, 18), .fieldAddr 2 (.g 2), some (false, 17, true), []⟩,
   ⟨some (false, 19), .load 1 false (.l 18), some (false, 17, true), []⟩,
   ⟨some (false, 20), .fieldAddr 2 (.g 3), some (false, 17, true), []⟩,
   ⟨some (false, 21), .load 1 false (.l 20), some (false, 17, true), []⟩,
   ⟨some (false, 22), .bin .eql (.l 19) (.l 21), some (false, 17, true), []⟩,
   ⟨some (false, 23), .pick (.l 17) (.l 22) (.c (.bool false)), none, []⟩,
   ⟨some (false, 24), .mv (.l 23), none, []⟩,
   ⟨some (false, 25), .fieldAddr 3 (.g 2), some (false, 24, true), []⟩,
   ⟨some (false, 26), .load 1 false (.l 25), some (false, 24, true), []⟩,
   ⟨some (false, 27), .fieldAddr 3 (.g 3), some (false, 24, true), []⟩,
   ⟨some (false, 28), .load 1 false (.l 27), some (false, 24, true), []⟩,
   ⟨some (false, 29), .call false (.c (.fn 75 [] [])) [(.l 26), (.l 28)], some (false, 24, true), []⟩,
   ⟨some (false, 30), .pick (.l 24) (.l 29) (.c (.bool false)), none, []⟩,
   ⟨some (true, 4), .mv (.l 30), none, []⟩]
def a74b : ACode :=
  (.seq (.reg false a74r0) (.seq (.reg false a74r1) .ret))
def a74 : AFun := ⟨2, 31, a74b, [.tmp (true, 4)]⟩
theorem c74 : compileFun Try.prog [0, 1, 2, 3, 4] Try.f74 = some a74 := by kernel_rfl

/- damask/damaskkit.SameAll -/
def a75r0 : List AOper :=
  [⟨some (true, 4), .mv (.c (.bool false)), none, []⟩]
def a75r1 : List AOper :=
  [⟨some (false, 6), .mv (.g 0), none, []⟩,
   ⟨some (false, 7), .len (.l 6), none, []⟩,
   ⟨some (false, 8), .mv (.g 1), none, []⟩,
   ⟨some (false, 9), .len (.l 8), none, []⟩,
   ⟨some (true, 10), .bin .neq (.l 7) (.l 9), none, []⟩]
def a75r2 : List AOper :=
  [⟨some (true, 4), .mv (.c (.bool false)), none, []⟩]
def a75r3 : List AOper :=
  [⟨some (false, 11), .mv (.g 0), none, []⟩,
   ⟨some (true, 12), .len (.l 11), none, []⟩,
   ⟨some (true, 13), .mv (.c (.int .i64 0)), none, []⟩]
def a75r4 : List AOper :=
  [⟨some (true, 14), .bin .lss (.g 13) (.g 12), none, []⟩]
def a75r5 : List AOper :=
  [⟨some (false, 15), .mv (.g 13), none, []⟩,
   ⟨some (true, 5), .mv (.l 15), none, []⟩]
def a75r6 : List AOper :=
  [⟨some (false, 16), .mv (.g 0), none, []⟩,
   ⟨some (false, 17), .mv (.g 5), none, []⟩,
   ⟨some (false, 18), .indexAddr 4 (.l 16) (.l 17), none, []⟩,
   ⟨some (false, 19), .load 4 true (.l 18), none, []⟩,
   ⟨some (false, 20), .mv (.g 1), none, []⟩,
   ⟨some (false, 21), .mv (.g 5), none, []⟩,
   ⟨some (false, 22), .indexAddr 4 (.l 20) (.l 21), none, []⟩,
   ⟨some (false, 23), .load 4 true (.l 22), none, []⟩,
   ⟨some (false, 24), .call true (.c (.fn 74 [] [])) [(.l 19), (.l 23)], none, []⟩,
   ⟨some (true, 25), .un .not (.l 24), none, []⟩]
def a75r7 : List AOper :=
  [⟨some (true, 4), .mv (.c (.bool false)), none, []⟩]
def a75r8 : List AOper :=
  [⟨some (false, 26), .bin .add (.g 13) (.c (.int .i64 1)), none, []⟩,
   ⟨some (true, 13), .mv (.l 26), none, []⟩]
def a75l9 : ACode :=
  (.seq (.reg false a75r4) (.seq (.cond (.g 14) .skip (.exit 0)) (.seq (.block 1 (.seq (.reg false a75r5) (.seq (.reg true a75r6) (.cond (.g 25) (.seq (.reg false a75r7) .ret) .skip)))) (.reg false a75r8))))
def a75r10 : List AOper :=
  [⟨some (true, 4), .mv (.c (.bool true)), none, []⟩]
def a75b : ACode :=
  (.seq (.reg false a75r0) (.seq (.seq (.reg false a75r1) (.cond (.g 10) (.seq (.reg false a75r2) .ret) .skip)) (.seq (.seq (.reg false a75r3) (.block 0 (.loop a75l9))) (.seq (.reg false a75r10) .ret))))
def a75 : AFun := ⟨2, 27, a75b, [.tmp (true, 4)]⟩
theorem c75 : compileFun Try.prog [0, 1, 4, 5, 10, 12, 13, 14, 25] Try.f75 = some a75 := by kernel_rfl

/- damask/damasklaw05.awake -/
def a16r0 : List AOper :=
  [⟨some (true, 0), .mv (.c (.bool false)), none, []⟩]
def a16r1 : List AOper :=
  [⟨some (false, 8), .call false (.c (.fn 59 [] [])) [(.c (.int .i64 1))], none, []⟩,
   ⟨some (false, 9), .call false (.c (.fn 59 [] [])) [(.c (.int .i64 0))], none, []⟩,
   ⟨some (false, 10), .call false (.c (.fn 58 [] [])) [(.l 8), (.l 9)], none, []⟩,
   ⟨some (false, 11), .call false (.c (.fn 35 [] [])) [(.c (.str ⟨#[73, 110, 116]⟩))], none, []⟩,
   ⟨some (false, 12), .buildSlice 4 true [(.int .i64 0), (.int .i64 0), (.str ⟨#[]⟩), (.list 0 .full [])] 1 [(0, (.l 11))], none, []⟩,
   ⟨some (false, 13), .call false (.c (.fn 12 [] [])) [(.l 10), (.l 12)], none, []⟩,
   ⟨some (false, 7), .mv (.l 13), none, []⟩,
   ⟨some (false, 14), .extract (.l 7) 0, none, []⟩,
   ⟨some (false, 15), .extract (.l 7) 1, none, []⟩,
   ⟨some (true, 1), .alloc [(.int .i64 0), (.int .i64 0), (.str ⟨#[]⟩), (.list 0 .full [])], none, []⟩,
   ⟨none, .store 4 (.g 1) (.l 14), none, []⟩,
   ⟨some (true, 2), .mv (.l 15), none, []⟩]
def a16r2 : List AOper :=
  [⟨some (false, 16), .call false (.c (.fn 35 [] [])) [(.c (.str ⟨#[86, 101, 99]⟩))], none, []⟩,
   ⟨some (false, 17), .call false (.c (.fn 59 [] [])) [(.c (.int .i64 0))], none, []⟩,
   ⟨some (false, 18), .call false (.c (.fn 35 [] [])) [(.c (.str ⟨#[39, 90]⟩))], none, []⟩,
   ⟨some (false, 19), .buildSlice 4 true [(.int .i64 0), (.int .i64 0), (.str ⟨#[]⟩), (.list 0 .full [])] 2 [(0, (.l 17)), (1, (.l 18))], none, []⟩,
   ⟨some (false, 20), .call false (.c (.fn 33 [] [])) [(.l 16), (.l 19)], none, []⟩,
   ⟨some (true, 3), .alloc [(.int .i64 0), (.int .i64 0), (.str ⟨#[]⟩), (.list 0 .full [])], none, []⟩,
   ⟨none, .store 4 (.g 3) (.l 20), none, []⟩]
def a16r3 : List AOper :=
  [⟨some (false, 22), .load 4 true (.g 3), none, []⟩,
   ⟨some (false, 23), .call false (.c (.fn 25 [] [])) [(.l 22)], none, []⟩,
   ⟨some (false, 21), .mv (.l 23), none, []⟩,
   ⟨some (false, 24), .extract (.l 21) 0, none, []⟩,
   ⟨some (false, 25), .extract (.l 21) 1, none, []⟩,
   ⟨some (false, 26), .extract (.l 21) 2, none, []⟩,
   ⟨some (true, 4), .alloc [(.int .i64 0), (.int .i64 0), (.str ⟨#[]⟩), (.list 0 .full [])], none, []⟩,
   ⟨none, .store 4 (.g 4) (.l 24), none, []⟩,
   ⟨some (true, 5), .mv (.l 25), none, []⟩,
   ⟨some (true, 6), .mv (.l 26), none, []⟩]
def a16r4 : List AOper :=
  [⟨some (false, 27), .mv (.g 2), none, []⟩,
   ⟨some (false, 28), .bin .eql (.l 27) (.c (.int .i64 0)), none, []⟩,
   ⟨some (false, 29), .mv (.l 28), none, []⟩,
   ⟨some (false, 30), .load 4 true (.g 1), some (false, 29, true), []⟩,
   ⟨some (false, 31), .call true (.c (.fn 59 [] [])) [(.c (.int .i64 0))], some (false, 29, true), []⟩,
   ⟨some (false, 32), .call true (.c (.fn 35 [] [])) [(.c (.str ⟨#[73, 110, 116]⟩))], some (false, 29, true), []⟩,
   ⟨some (false, 33), .call true (.c (.fn 58 [] [])) [(.l 31), (.l 32)], some (false, 29, true), []⟩,
   ⟨some (false, 34), .call true (.c (.fn 31 [] [])) [(.l 30), (.l 33)], some (false, 29, true), []⟩,
   ⟨some (false, 35), .pick (.l 29) (.l 34) (.c (.bool false)), none, []⟩,
   ⟨some (false, 36), .mv (.l 35), none, []⟩,
   ⟨some (false, 37), .mv (.g 6), some (false, 36, true), []⟩,
   ⟨some (false, 38), .bin .eql (.l 37) (.c (.int .i64 0)), some (false, 36, true), []⟩,
   ⟨some (false, 39), .pick (.l 36) (.l 38) (.c (.bool false)), none, []⟩,
   ⟨some (false, 40), .mv (.l 39), none, []⟩,
   ⟨some (false, 41), .load 4 true (.g 4), some (false, 40, true), []⟩,
   ⟨some (false, 42), .call true (.c (.fn 35 [] [])) [(.c (.str ⟨#[86, 101, 99]⟩))], some (false, 40, true), []⟩,
   ⟨some (false, 43), .call true (.c (.fn 31 [] [])) [(.l 41), (.l 42)], some (false, 40, true), []⟩,
   ⟨some (false, 44), .pick (.l 40) (.l 43) (.c (.bool false)), none, []⟩,
   ⟨some (false, 45), .mv (.l 44), none, []⟩,
   ⟨some (false, 46), .mv (.g 5), some (false, 45, true), []⟩,
   ⟨some (false, 47), .len (.l 46), some (false, 45, true), []⟩,
   ⟨some (false, 48), .bin .eql (.l 47) (.c (.int .i64 2)), some (false, 45, true), []⟩,
   ⟨some (false, 49), .pick (.l 45) (.l 48) (.c (.bool false)), none, []⟩,
   ⟨some (false, 50), .mv (.l 49), none, []⟩,
   ⟨some (false, 51), .mv (.g 5), some (false, 50, true), []⟩,
   ⟨some (false, 52), .indexAddr 4 (.l 51) (.c (.int .i64 1)), some (false, 50, true), []⟩,
   ⟨some (false, 53), .load 4 true (.l 52), some (false, 50, true), []⟩,
   ⟨some (false, 54), .call true (.c (.fn 35 [] [])) [(.c (.str ⟨#[39, 90]⟩))], some (false, 50, true), []⟩,
   ⟨some (false, 55), .call true (.c (.fn 31 [] [])) [(.l 53), (.l 54)], some (false, 50, true), []⟩,
   ⟨some (false, 56), .pick (.l 50) (.l 55) (.c (.bool false)), none, []⟩,
   ⟨some (true, 0), .mv (.l 56), none, []⟩]
def a16b : ACode :=
  (.seq (.reg false a16r0) (.seq (.reg false a16r1) (.seq (.reg false a16r2) (.seq (.reg false a16r3) (.seq (.reg true a16r4) .ret)))))
def a16 : AFun := ⟨0, 57, a16b, [.tmp (true, 0)]⟩
theorem c16 : compileFun Try.prog [0, 1, 2, 3, 4, 5, 6] Try.f16 = some a16 := by kernel_rfl

/- damask/damaskref05.Con -/
def a35r0 : List AOper :=
  [⟨some (true, 2), .alloc [(.int .i64 0), (.int .i64 0), (.str ⟨#[]⟩), (.list 0 .full [])], none, []⟩]
def a35r1 : List AOper :=
  [⟨some (false, 3), .mv (.g 0), none, []⟩,
   ⟨some (false, 4), .call false (.c (.fn 78 [] [])) [(.l 3)], none, []⟩,
   ⟨none, .store 4 (.g 2) (.l 4), none, []⟩]
def a35b : ACode :=
  (.seq (.reg false a35r0) (.seq (.reg false a35r1) .ret))
def a35 : AFun := ⟨1, 5, a35b, [.cell (true, 2) 4 true]⟩
theorem c35 : compileFun Try.prog [0, 2] Try.f35 = some a35 := by kernel_rfl

/- damask/damaskkit.Con -/
def a78r0 : List AOper :=
  [⟨some (true, 2), .alloc [(.int .i64 0), (.int .i64 0), (.str ⟨#[]⟩), (.list 0 .full [])], none, []⟩]
def a78r1 : List AOper :=
  [⟨some (false, 3), .mv (.g 0), none, []⟩,
   ⟨some (false, 4), .build [(.int .i64 0), (.int .i64 0), (.str ⟨#[]⟩), (.list 0 .full [])] [(0, 1, (.c (.int .i64 2))), (2, 1, (.l 3))], none, []⟩,
   ⟨none, .store 4 (.g 2) (.l 4), none, []⟩]
def a78b : ACode :=
  (.seq (.reg false a78r0) (.seq (.reg false a78r1) .ret))
def a78 : AFun := ⟨1, 5, a78b, [.cell (true, 2) 4 true]⟩
theorem c78 : compileFun Try.prog [0, 2] Try.f78 = some a78 := by kernel_rfl

/- damask/damaskref05.Var -/
def a59r0 : List AOper :=
  [⟨some (true, 2), .alloc [(.int .i64 0), (.int .i64 0), (.str ⟨#[]⟩), (.list 0 .full [])], none, []⟩]
def a59r1 : List AOper :=
  [⟨some (false, 3), .mv (.g 0), none, []⟩,
   ⟨some (false, 4), .call false (.c (.fn 101 [] [])) [(.l 3)], none, []⟩,
   ⟨none, .store 4 (.g 2) (.l 4), none, []⟩]
def a59b : ACode :=
  (.seq (.reg false a59r0) (.seq (.reg false a59r1) .ret))
def a59 : AFun := ⟨1, 5, a59b, [.cell (true, 2) 4 true]⟩
theorem c59 : compileFun Try.prog [0, 2] Try.f59 = some a59 := by kernel_rfl

/- damask/damaskkit.Var -/
def a101r0 : List AOper :=
  [⟨some (true, 2), .alloc [(.int .i64 0), (.int .i64 0), (.str ⟨#[]⟩), (.list 0 .full [])], none, []⟩]
def a101r1 : List AOper :=
  [⟨some (false, 3), .mv (.g 0), none, []⟩,
   ⟨some (false, 4), .build [(.int .i64 0), (.int .i64 0), (.str ⟨#[]⟩), (.list 0 .full [])] [(0, 1, (.c (.int .i64 1))), (1, 1, (.l 3))], none, []⟩,
   ⟨none, .store 4 (.g 2) (.l 4), none, []⟩]
def a101b : ACode :=
  (.seq (.reg false a101r0) (.seq (.reg false a101r1) .ret))
def a101 : AFun := ⟨1, 5, a101b, [.cell (true, 2) 4 true]⟩
theorem c101 : compileFun Try.prog [0, 2] Try.f101 = some a101 := by kernel_rfl

/- damask/damaskref05.Arrow -/
def a58r0 : List AOper :=
  [⟨some (true, 2), .box (.g 0), none, []⟩,
   ⟨some (true, 3), .box (.g 1), none, []⟩,
   ⟨some (true, 4), .alloc [(.int .i64 0), (.int .i64 0), (.str ⟨#[]⟩), (.list 0 .full [])], none, []⟩]
def a58r1 : List AOper :=
  [⟨some (false, 5), .load 4 true (.g 2), none, []⟩,
   ⟨some (false, 6), .load 4 true (.g 3), none, []⟩,
   ⟨some (false, 7), .call false (.c (.fn 100 [] [])) [(.l 5), (.l 6)], none, []⟩,
   ⟨none, .store 4 (.g 4) (.l 7), none, []⟩]
def a58b : ACode :=
  (.seq (.reg false a58r0) (.seq (.reg false a58r1) .ret))
def a58 : AFun := ⟨2, 8, a58b, [.cell (true, 4) 4 true]⟩
theorem c58 : compileFun Try.prog [0, 1, 2, 3, 4] Try.f58 = some a58 := by kernel_rfl

/- damask/damaskkit.Arrow -/
def a100r0 : List AOper :=
  [⟨some (true, 2), .box (.g 0), none, []⟩,
   ⟨some (true, 3), .box (.g 1), none, []⟩,
   ⟨some (true, 4), .alloc [(.int .i64 0), (.int .i64 0), (.str ⟨#[]⟩), (.list 0 .full [])], none, []⟩]
def a100r1 : List AOper :=
  [⟨some (false, 5), .call true (.c (.fn 78 [] [])) [(.c (.str ⟨#[45, 62]⟩))], none, []⟩,
   ⟨some (false, 6), .load 4 true (.g 2), none, []⟩,
   ⟨some (false, 7), .call true (.c (.fn 116 [] [])) [(.l 5), (.l 6)], none, []⟩,
   ⟨some (false, 8), .load 4 true (.g 3), none, []⟩,
   ⟨some (false, 9), .call true (.c (.fn 116 [] [])) [(.l 7), (.l 8)], none, []⟩,
   ⟨none, .store 4 (.g 4) (.l 9), none, []⟩]
def a100b : ACode :=
  (.seq (.reg false a100r0) (.seq (.reg true a100r1) .ret))
def a100 : AFun := ⟨2, 10, a100b, [.cell (true, 4) 4 true]⟩
theorem c100 : compileFun Try.prog [0, 1, 2, 3, 4] Try.f100 = some a100 := by kernel_rfl

/- damask/damaskref05.Apply -/
def a33r0 : List AOper :=
  [⟨some (true, 2), .box (.g 0), none, []⟩,
   ⟨some (true, 4), .alloc [(.int .i64 0), (.int .i64 0), (.str ⟨#[]⟩), (.list 0 .full [])], none, []⟩]
def a33r1 : List AOper :=
  [⟨some (true, 7), .mv (.g 1), none, []⟩,
   ⟨some (true, 8), .len (.g 7), none, []⟩,
   ⟨some (true, 9), .mv (.c (.int .i64 0)), none, []⟩]
def a33r2 : List AOper :=
  [⟨some (true, 10), .bin .lss (.g 9) (.g 8), none, []⟩]
def a33r3 : List AOper :=
  [⟨some (false, 11), .indexAddr 4 (.g 7) (.g 9), none, []⟩,
   ⟨some (false, 12), .load 4 true (.l 11), none, []⟩,
   ⟨some (true, 6), .alloc [(.int .i64 0), (.int .i64 0), (.str ⟨#[]⟩), (.list 0 .full [])], none, []⟩,
   ⟨none, .store 4 (.g 6) (.l 12), none, []⟩]
def a33r4 : List AOper :=
  [⟨some (false, 13), .load 4 true (.g 2), none, []⟩,
   ⟨some (false, 14), .load 4 true (.g 6), none, []⟩,
   ⟨some (false, 15), .call false (.c (.fn 76 [] [])) [(.l 13), (.l 14)], none, []⟩,
   ⟨none, .store 4 (.g 2) (.l 15), none, []⟩]
def a33r5 : List AOper :=
  [⟨some (false, 16), .bin .add (.g 9) (.c (.int .i64 1)), none, []⟩,
   ⟨some (true, 9), .mv (.l 16), none, []⟩]
def a33l6 : ACode :=
  (.seq (.reg false a33r2) (.seq (.cond (.g 10) .skip (.exit 0)) (.seq (.block 1 (.seq (.reg false a33r3) (.reg false a33r4))) (.reg false a33r5))))
def a33r7 : List AOper :=
  [⟨some (false, 17), .load 4 true (.g 2), none, []⟩,
   ⟨none, .store 4 (.g 4) (.l 17), none, []⟩]
def a33b : ACode :=
  (.seq (.reg false a33r0) (.seq (.seq (.reg false a33r1) (.block 0 (.loop a33l6))) (.seq (.reg false a33r7) .ret)))
def a33 : AFun := ⟨2, 18, a33b, [.cell (true, 4) 4 true]⟩
theorem c33 : compileFun Try.prog [0, 1, 2, 4, 6, 7, 8, 9, 10] Try.f33 = some a33 := by kernel_rfl

/- damask/damaskref05.App -/
def a76r0 : List AOper :=
  [⟨some (true, 2), .box (.g 0), none, []⟩,
   ⟨some (true, 3), .box (.g 1), none, []⟩,
   ⟨some (true, 4), .alloc [(.int .i64 0), (.int .i64 0), (.str ⟨#[]⟩), (.list 0 .full [])], none, []⟩]
def a76r1 : List AOper :=
  [⟨some (false, 5), .load 4 true (.g 2), none, []⟩,
   ⟨some (false, 6), .load 4 true (.g 3), none, []⟩,
   ⟨some (false, 7), .call false (.c (.fn 116 [] [])) [(.l 5), (.l 6)], none, []⟩,
   ⟨none, .store 4 (.g 4) (.l 7), none, []⟩]
def a76b : ACode :=
  (.seq (.reg false a76r0) (.seq (.reg false a76r1) .ret))
def a76 : AFun := ⟨2, 8, a76b, [.cell (true, 4) 4 true]⟩
theorem c76 : compileFun Try.prog [0, 1, 2, 3, 4] Try.f76 = some a76 := by kernel_rfl

/- damask/damaskkit.App -/
def a116r0 : List AOper :=
  [⟨some (true, 2), .box (.g 0), none, []⟩,
   ⟨some (true, 3), .box (.g 1), none, []⟩,
   ⟨some (true, 4), .alloc [(.int .i64 0), (.int .i64 0), (.str ⟨#[]⟩), (.list 0 .full [])], none, []⟩]
def a116r1 : List AOper :=
  [⟨some (false, 5), .load 4 true (.g 2), none, []⟩,
   ⟨some (false, 6), .load 4 true (.g 3), none, []⟩,
   ⟨some (false, 7), .buildSlice 4 true [(.int .i64 0), (.int .i64 0), (.str ⟨#[]⟩), (.list 0 .full [])] 2 [(0, (.l 5)), (1, (.l 6))], none, []⟩,
   ⟨some (false, 8), .build [(.int .i64 0), (.int .i64 0), (.str ⟨#[]⟩), (.list 0 .full [])] [(0, 1, (.c (.int .i64 3))), (3, 1, (.l 7))], none, []⟩,
   ⟨none, .store 4 (.g 4) (.l 8), none, []⟩]
def a116b : ACode :=
  (.seq (.reg false a116r0) (.seq (.reg false a116r1) .ret))
def a116 : AFun := ⟨2, 9, a116b, [.cell (true, 4) 4 true]⟩
theorem c116 : compileFun Try.prog [0, 1, 2, 3, 4] Try.f116 = some a116 := by kernel_rfl

/- damask/damasklaw05.TypesPuts -/
def a3r0 : List AOper :=
  [⟨some (true, 2), .box (.g 0), none, []⟩,
   ⟨some (true, 4), .mv (.c (.bool false)), none, []⟩]
def a3r1 : List AOper :=
  [⟨some (false, 8), .load 4 true (.g 2), none, []⟩,
   ⟨some (false, 9), .buildSlice 4 true [(.int .i64 0), (.int .i64 0), (.str ⟨#[]⟩), (.list 0 .full [])] 0 [], none, []⟩,
   ⟨some (false, 10), .mv (.g 1), none, []⟩,
   ⟨some (false, 11), .append 4 56 (.l 9) (.l 10), none, [0]⟩,
   ⟨some (false, 12), .call true (.c (.fn 12 [] [])) [(.l 8), (.l 11)], none, []⟩,
   ⟨some (false, 7), .mv (.l 12), none, []⟩,
   ⟨some (false, 13), .extract (.l 7) 0, none, []⟩,
   ⟨some (false, 14), .extract (.l 7) 1, none, []⟩,
   ⟨some (true, 5), .alloc [(.int .i64 0), (.int .i64 0), (.str ⟨#[]⟩), (.list 0 .full [])], none, []⟩,
   ⟨none, .store 4 (.g 5) (.l 13), none, []⟩,
   ⟨some (true, 6), .mv (.l 14), none, []⟩]
def a3r2 : List AOper :=
  [⟨some (false, 15), .load 4 true (.g 2), none, []⟩,
   ⟨some (false, 16), .call false (.c (.fn 13 [] [])) [(.l 15)], none, []⟩,
   ⟨some (false, 17), .un .not (.l 16), none, []⟩,
   ⟨some (false, 18), .mv (.l 17), none, []⟩,
   ⟨some (false, 19), .mv (.g 1), some (false, 18, false), []⟩,
   ⟨some (false, 20), .call false (.c (.fn 14 [] [])) [(.l 19)], some (false, 18, false), []⟩,
   ⟨some (false, 21), .un .not (.l 20), some (false, 18, false), []⟩,
   ⟨some (true, 22), .pick (.l 18) (.c (.bool true)) (.l 21), none, []⟩]
def a3r3 : List AOper :=
  [⟨some (false, 23), .load 4 true (.g 5), none, []⟩,
   ⟨some (false, 24), .call false (.c (.fn 15 [] [])) [(.l 23)], none, []⟩,
   ⟨some (false, 25), .mv (.l 24), none, []⟩,
   ⟨some (false, 26), .mv (.g 6), some (false, 25, true), []⟩,
   ⟨some (false, 27), .bin .eql (.l 26) (.c (.int .i64 2)), some (false, 25, true), []⟩,
   ⟨some (false, 28), .pick (.l 25) (.l 27) (.c (.bool false)), none, []⟩,
   ⟨some (false, 29), .mv (.l 28), none, []⟩,
   ⟨some (false, 30), .call false (.c (.fn 16 [] [])) [], some (false, 29, true), []⟩,
   ⟨some (false, 31), .pick (.l 29) (.l 30) (.c (.bool false)), none, []⟩,
   ⟨some (true, 4), .mv (.l 31), none, []⟩]
def a3r4 : List AOper :=
  [⟨some (false, 32), .load 4 true (.g 5), none, []⟩,
   ⟨some (false, 33), .mv (.g 6), none, []⟩,
   ⟨some (false, 34), .load 4 true (.g 2), none, []⟩,
   ⟨some (false, 35), .mv (.g 1), none, []⟩,
   ⟨some (false, 36), .call true (.c (.fn 18 [] [])) [(.l 34), (.l 35)], none, []⟩,
   ⟨some (false, 37), .call true (.c (.fn 17 [] [])) [(.l 32), (.l 33), (.l 36)], none, []⟩,
   ⟨some (false, 38), .mv (.l 37), none, []⟩,
   ⟨some (false, 39), .call true (.c (.fn 16 [] [])) [], some (false, 38, true), []⟩,
   ⟨some (false, 40), .pick (.l 38) (.l 39) (.c (.bool false)), none, []⟩,
   ⟨some (true, 4), .mv (.l 40), none, []⟩]
def a3b : ACode :=
  (.seq (.reg false a3r0) (.seq (.reg true a3r1) (.seq (.seq (.reg false a3r2) (.cond (.g 22) (.seq (.reg false a3r3) .ret) .skip)) (.seq (.reg true a3r4) .ret))))
def a3 : AFun := ⟨2, 41, a3b, [.tmp (true, 4)]⟩
theorem c3 : compileFun Try.prog [0, 1, 2, 4, 5, 6, 22] Try.f3 = some a3 := by kernel_rfl

end Go.AL.Ty
/- The reference: what is proper. -/
set_option linter.unusedVariables false
set_option linter.unusedSimpArgs false
namespace Go.AL.Ty
open Go Go.Proofs

theorem p20 (n : Int) : PureC Try.prog 20 [.int .i64 n] (.bool (decide (0 ≤ n) && decide (n ≤ 9999))) := by
  refine PureC.intro fun s => fun_sound mixed Try.func20 Try.call20 c20 rfl (awpFun_go _ _ _ _ ?_)
  simp (implicitDefEqProofs := false) (maxSteps := 2000000) (disch := (first | omega | (simp only [St.new_nx, St.set_nx, St.del_nx, St.bump_nx]; done) | (simp only [St.new_nx, St.set_nx, St.del_nx, St.bump_nx]; omega) | fail)) [a20, a20b, a20r0, a20r1]
  grind
theorem p78 (x : ByteArray) : PureC Try.prog 78 [.str x] (mk 2 0 x []).av := by
  refine PureC.intro fun s => fun_sound mixed Try.func78 Try.call78 c78 rfl (awpFun_go _ _ _ _ ?_)
  simp (implicitDefEqProofs := false) (maxSteps := 2000000) (disch := (first | omega | (simp only [St.new_nx, St.set_nx, St.del_nx, St.bump_nx]; done) | (simp only [St.new_nx, St.set_nx, St.del_nx, St.bump_nx]; omega) | fail)) [a78, a78b, a78r0, a78r1, av_mk]
theorem p35 (x : ByteArray) : PureC Try.prog 35 [.str x] (mk 2 0 x []).av := by
  refine PureC.intro fun s => fun_sound mixed Try.func35 Try.call35 c35 rfl (awpFun_go _ _ _ _ ?_)
  simp (implicitDefEqProofs := false) (maxSteps := 2000000) (disch := (first | omega | (simp only [St.new_nx, St.set_nx, St.del_nx, St.bump_nx]; done) | (simp only [St.new_nx, St.set_nx, St.del_nx, St.bump_nx]; omega) | fail)) [a35, a35b, a35r0, a35r1]
  refine go_pure (p78 x) fun m hm => ?_
  simp (implicitDefEqProofs := false) (maxSteps := 2000000) (disch := (first | omega | (simp only [St.new_nx, St.set_nx, St.del_nx, St.bump_nx]; done) | (simp only [St.new_nx, St.set_nx, St.del_nx, St.bump_nx]; omega) | fail)) [av_mk]
theorem p101 (n : Int) : PureC Try.prog 101 [.int .i64 n] (mk 1 n ⟨#[]⟩ []).av := by
  refine PureC.intro fun s => fun_sound mixed Try.func101 Try.call101 c101 rfl (awpFun_go _ _ _ _ ?_)
  simp (implicitDefEqProofs := false) (maxSteps := 2000000) (disch := (first | omega | (simp only [St.new_nx, St.set_nx, St.del_nx, St.bump_nx]; done) | (simp only [St.new_nx, St.set_nx, St.del_nx, St.bump_nx]; omega) | fail)) [a101, a101b, a101r0, a101r1, av_mk]
theorem p59 (n : Int) : PureC Try.prog 59 [.int .i64 n] (mk 1 n ⟨#[]⟩ []).av := by
  refine PureC.intro fun s => fun_sound mixed Try.func59 Try.call59 c59 rfl (awpFun_go _ _ _ _ ?_)
  simp (implicitDefEqProofs := false) (maxSteps := 2000000) (disch := (first | omega | (simp only [St.new_nx, St.set_nx, St.del_nx, St.bump_nx]; done) | (simp only [St.new_nx, St.set_nx, St.del_nx, St.bump_nx]; omega) | fail)) [a59, a59b, a59r0, a59r1]
  refine go_pure (p101 n) fun m hm => ?_
  simp (implicitDefEqProofs := false) (maxSteps := 2000000) (disch := (first | omega | (simp only [St.new_nx, St.set_nx, St.del_nx, St.bump_nx]; done) | (simp only [St.new_nx, St.set_nx, St.del_nx, St.bump_nx]; omega) | fail)) [av_mk]
theorem p116 (f a : Ty) : PureC Try.prog 116 [f.av, a.av] (mk 3 0 ⟨#[]⟩ [f, a]).av := by
  refine PureC.intro fun s => fun_sound mixed Try.func116 Try.call116 c116 rfl (awpFun_go _ _ _ _ ?_)
  simp (implicitDefEqProofs := false) (maxSteps := 2000000) (disch := (first | omega | (simp only [St.new_nx, St.set_nx, St.del_nx, St.bump_nx]; done) | (simp only [St.new_nx, St.set_nx, St.del_nx, St.bump_nx]; omega) | fail)) [a116, a116b, a116r0, a116r1, av_mk]
theorem p76 (f a : Ty) : PureC Try.prog 76 [f.av, a.av] (mk 3 0 ⟨#[]⟩ [f, a]).av := by
  refine PureC.intro fun s => fun_sound mixed Try.func76 Try.call76 c76 rfl (awpFun_go _ _ _ _ ?_)
  simp (implicitDefEqProofs := false) (maxSteps := 2000000) (disch := (first | omega | (simp only [St.new_nx, St.set_nx, St.del_nx, St.bump_nx]; done) | (simp only [St.new_nx, St.set_nx, St.del_nx, St.bump_nx]; omega) | fail)) [a76, a76b, a76r0, a76r1]
  refine go_pure (p116 f a) fun m hm => ?_
  simp (implicitDefEqProofs := false) (maxSteps := 2000000) (disch := (first | omega | (simp only [St.new_nx, St.set_nx, St.del_nx, St.bump_nx]; done) | (simp only [St.new_nx, St.set_nx, St.del_nx, St.bump_nx]; omega) | fail)) [av_mk]

mutual
def same : Ty → Ty → Bool
  | mk o n s a, u => decide (o = u.op) && (decide (n = u.n) && (decide (s = u.s) && sames a u.args))
def sames : List Ty → List Ty → Bool
  | [], us => us.isEmpty
  | t :: ts, us => match us with
    | [] => false
    | u :: us => same t u && sames ts us
end
mutual
def lim : Ty → Prop
  | mk _ _ _ a => a.length ≤ 9223372036854775807 ∧ lims a
def lims : List Ty → Prop
  | [] => True
  | t :: ts => lim t ∧ lims ts
end
theorem lims_mem : ∀ (l : List Ty) x, lims l → x ∈ l → lim x
  | t :: ts, x, hw, h => by
    simp only [List.mem_cons] at h
    simp only [lims] at hw
    rcases h with rfl | h
    · exact hw.1
    · exact lims_mem ts x hw.2 h
theorem sames_len : ∀ (ts us : List Ty), sames ts us = true → ts.length = us.length
  | [], us, h => by simp [sames] at h; simp [h]
  | t :: ts, [], h => by simp [sames] at h
  | t :: ts, u :: us, h => by simp [sames] at h; simp [sames_len ts us h.2]

def C74 (t : Ty) : Prop := ∀ u : Ty, PureC Try.prog 74 [t.av, u.av] (.bool (same t u))

theorem p75 (ts : List Ty) (ih : ∀ x ∈ ts, C74 x) (hl : ts.length ≤ 9223372036854775807) (us : List Ty) : PureC Try.prog 75 [.list 4 .none (ts.map av), .list 4 .none (us.map av)] (.bool (sames ts us)) := by
  refine PureC.intro fun s => fun_sound mixed Try.func75 Try.call75 c75 rfl (awpFun_go _ _ _ _ ?_)
  by_cases hlen : ts.length = us.length
  · simp (implicitDefEqProofs := false) (maxSteps := 2000000) (disch := (first | omega | (simp only [St.new_nx, St.set_nx, St.del_nx, St.bump_nx]; done) | (simp only [St.new_nx, St.set_nx, St.del_nx, St.bump_nx]; omega) | fail)) [a75, a75b, a75r0, a75r1, a75r2, a75r3, hlen]
    refine go_loop (fun n g s1 => ∃ (i : Nat), i ≤ ts.length ∧ n = ts.length - i ∧ sames (ts.drop i) (us.drop i) = sames ts us ∧
      g.get 0 = .list 4 .none (ts.map av) ∧ g.get 1 = .list 4 .none (us.map av) ∧ g.get 12 = .int .i64 us.length ∧ g.get 13 = .int .i64 i ∧ Kept s s1 ∧ s.nx ≤ s1.nx) ts.length ⟨0, Nat.zero_le _, by simp, by simp, by simp, by simp, by simp, by simp, by simp, by simp⟩ ?_
    rintro n g s1 ⟨i, hi, rfl, hg, h0, h1, h12, h13, hk, hn⟩
    by_cases hlt : i < ts.length
    · have hlu : i < us.length := by omega
      have hx : ts[i]? = some ts[i] := by simp [hlt]
      have hy : us[i]? = some us[i] := by simp [hlu]
      have hlt' : (i : Int) < us.length := by omega
      have w2 : IntKind.i64.wrap ((i : Int) + 1) = ((i + 1 : Nat) : Int) := by rw [wrap64 (by omega) (by omega)]; omega
      have hdrop : ts.drop i = ts[i] :: ts.drop (i + 1) := List.drop_eq_getElem_cons hlt
      have hdropu : us.drop i = us[i] :: us.drop (i + 1) := List.drop_eq_getElem_cons hlu
      simp (implicitDefEqProofs := false) (maxSteps := 2000000) (disch := (first | omega | (simp only [St.new_nx, St.set_nx, St.del_nx, St.bump_nx]; done) | (simp only [St.new_nx, St.set_nx, St.del_nx, St.bump_nx]; omega) | fail)) [a75l9, a75r4, a75r5, a75r6, h0, h1, h12, h13, hlt', hlt, hlu, hx, hy]
      refine pcV_intro (ih ts[i] (List.getElem_mem hlt) us[i]) ?_
      rw [hdrop, hdropu, sames] at hg
      simp (implicitDefEqProofs := false) (maxSteps := 2000000) (disch := (first | omega | (simp only [St.new_nx, St.set_nx, St.del_nx, St.bump_nx]; done) | (simp only [St.new_nx, St.set_nx, St.del_nx, St.bump_nx]; omega) | fail)) [a75r7, a75r8, h13, w2]
      intro m hm
      refine ⟨fun hb => ?_, fun hb => ?_⟩
      · rw [hb] at hg
        exact ⟨by rw [← hg]; rfl, hk⟩
      · rw [hb, Bool.true_and] at hg
        refine go_next (ts.length - (i + 1)) (by omega) ⟨i + 1, by omega, rfl, hg, ?_, ?_, ?_, ?_, ?_, ?_⟩ <;> (try simp (implicitDefEqProofs := false) (maxSteps := 2000000) (disch := (first | omega | (simp only [St.new_nx, St.set_nx, St.del_nx, St.bump_nx]; done) | (simp only [St.new_nx, St.set_nx, St.del_nx, St.bump_nx]; omega) | fail)) [h0, h1, h12, h13, hk])
        omega
    · have hlt' : ¬ (i : Int) < us.length := by omega
      have hd : ts.drop i = [] := List.drop_eq_nil_of_le (by omega)
      have hdu : us.drop i = [] := List.drop_eq_nil_of_le (by omega)
      rw [hd, hdu] at hg
      simp only [sames, List.isEmpty_nil] at hg
      simp (implicitDefEqProofs := false) (maxSteps := 2000000) (disch := (first | omega | (simp only [St.new_nx, St.set_nx, St.del_nx, St.bump_nx]; done) | (simp only [St.new_nx, St.set_nx, St.del_nx, St.bump_nx]; omega) | fail)) [a75l9, a75r4, h0, h1, h12, h13, hlt', a75r10, ← hg, hk]
  · have : sames ts us = false := by
      cases h : sames ts us with
      | false => rfl
      | true => exact (hlen (sames_len _ _ h)).elim
    have hlen' : ¬ (ts.length : Int) = us.length := by omega
    simp (implicitDefEqProofs := false) (maxSteps := 2000000) (disch := (first | omega | (simp only [St.new_nx, St.set_nx, St.del_nx, St.bump_nx]; done) | (simp only [St.new_nx, St.set_nx, St.del_nx, St.bump_nx]; omega) | fail)) [a75, a75b, a75r0, a75r1, a75r2, hlen', this]

theorem p74 (t : Ty) (hl : lim t) : C74 t := by
  induction t using Ty.ind with
  | h t ih =>
    intro u
    have hla : t.args.length ≤ 9223372036854775807 ∧ lims t.args := by cases t; simpa only [lim, args_mk] using hl
    have h75 := p75 t.args (fun x hx => ih x hx (lims_mem _ _ hla.2 hx)) hla.1 u.args
    have he : same t u = (decide (t.op = u.op) && (decide (t.n = u.n) && (decide (t.s = u.s) && sames t.args u.args))) := by cases t; rw [same]; rfl
    refine PureC.intro fun s => fun_sound mixed Try.func74 Try.call74 c74 rfl (awpFun_go _ _ _ _ ?_)
    rw [he]
    simp (implicitDefEqProofs := false) (maxSteps := 2000000) (disch := (first | omega | (simp only [St.new_nx, St.set_nx, St.del_nx, St.bump_nx]; done) | (simp only [St.new_nx, St.set_nx, St.del_nx, St.bump_nx]; omega) | fail)) [a74, a74b, a74r0, a74r1]
    refine ⟨fun h1 => ⟨fun h2 => ⟨fun h3 => go_pure h75 fun m hm => ?_, fun h3 => ?_⟩, fun h2 => ?_⟩, fun h1 => ?_⟩
    · simp (implicitDefEqProofs := false) (maxSteps := 2000000) (disch := (first | omega | (simp only [St.new_nx, St.set_nx, St.del_nx, St.bump_nx]; done) | (simp only [St.new_nx, St.set_nx, St.del_nx, St.bump_nx]; omega) | fail)) [h1, h2, h3]
    · simp (implicitDefEqProofs := false) (maxSteps := 2000000) (disch := (first | omega | (simp only [St.new_nx, St.set_nx, St.del_nx, St.bump_nx]; done) | (simp only [St.new_nx, St.set_nx, St.del_nx, St.bump_nx]; omega) | fail)) [h1, h2, h3]
    · simp (implicitDefEqProofs := false) (maxSteps := 2000000) (disch := (first | omega | (simp only [St.new_nx, St.set_nx, St.del_nx, St.bump_nx]; done) | (simp only [St.new_nx, St.set_nx, St.del_nx, St.bump_nx]; omega) | fail)) [h1, h2]
    · simp (implicitDefEqProofs := false) (maxSteps := 2000000) (disch := (first | omega | (simp only [St.new_nx, St.set_nx, St.del_nx, St.bump_nx]; done) | (simp only [St.new_nx, St.set_nx, St.del_nx, St.bump_nx]; omega) | fail)) [h1]

theorem p31 (t : Ty) (hl : lim t) (u : Ty) : PureC Try.prog 31 [t.av, u.av] (.bool (same t u)) := by
  refine PureC.intro fun s => fun_sound mixed Try.func31 Try.call31 c31 rfl (awpFun_go _ _ _ _ ?_)
  simp (implicitDefEqProofs := false) (maxSteps := 2000000) (disch := (first | omega | (simp only [St.new_nx, St.set_nx, St.del_nx, St.bump_nx]; done) | (simp only [St.new_nx, St.set_nx, St.del_nx, St.bump_nx]; omega) | fail)) [a31, a31b, a31r0, a31r1]
  refine go_pure (p74 t hl u) fun m hm => ?_
  simp (implicitDefEqProofs := false) (maxSteps := 2000000) (disch := (first | omega | (simp only [St.new_nx, St.set_nx, St.del_nx, St.bump_nx]; done) | (simp only [St.new_nx, St.set_nx, St.del_nx, St.bump_nx]; omega) | fail))
end Go.AL.Ty
