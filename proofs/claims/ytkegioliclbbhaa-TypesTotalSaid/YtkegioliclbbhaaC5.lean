import Derived.Test.YtkegioliclbbhaaA16
import Derived.Test.YtkegioliclbbhaaProg
import Derived.KernelRfl
namespace Go.AL.Ty
open Go.Proofs

/- damask/types.Order -/
def a36r0 : List AOper :=
  [⟨some (true, 2), .box (.g 0), none, []⟩,
   ⟨some (true, 3), .box (.g 1), none, []⟩,
   ⟨some (true, 4), .mv (.c (.int .i64 0)), none, []⟩,
   ⟨some (true, 5), .mv (.c (.int .i64 0)), none, []⟩]
def a36r1 : List AOper :=
  [⟨some (false, 6), .load 4 true (.g 2), none, []⟩,
   ⟨some (false, 7), .call false (.c (.fn 53 [] [])) [(.l 6)], none, []⟩,
   ⟨some (false, 8), .un .not (.l 7), none, []⟩,
   ⟨some (false, 9), .mv (.l 8), none, []⟩,
   ⟨some (false, 10), .load 4 true (.g 3), some (false, 9, false), []⟩,
   ⟨some (false, 11), .call false (.c (.fn 53 [] [])) [(.l 10)], some (false, 9, false), []⟩,
   ⟨some (false, 12), .un .not (.l 11), some (false, 9, false), []⟩,
   ⟨some (true, 13), .pick (.l 9) (.c (.bool true)) (.l 12), none, []⟩]
def a36r2 : List AOper :=
  [⟨some (true, 4), .mv (.c (.int .i64 0)), none, []⟩,
   ⟨some (true, 5), .mv (.c (.int .i64 2)), none, []⟩]
def a36r3 : List AOper :=
  [⟨some (false, 14), .load 4 true (.g 2), none, []⟩,
   ⟨some (false, 15), .load 4 true (.g 3), none, []⟩,
   ⟨some (false, 16), .call false (.c (.fn 79 [] [])) [(.l 14), (.l 15)], none, []⟩,
   ⟨some (true, 4), .mv (.l 16), none, []⟩,
   ⟨some (true, 5), .mv (.c (.int .i64 0)), none, []⟩]
def a36b : ACode :=
  (.seq (.reg false a36r0) (.seq (.seq (.reg false a36r1) (.cond (.g 13) (.seq (.reg false a36r2) .ret) .skip)) (.seq (.reg false a36r3) .ret)))
def a36 : AFun := ⟨2, 17, a36b, [.tmp (true, 4), .tmp (true, 5)]⟩
theorem c36 : compileFun Try.prog [0, 1, 2, 3, 4, 5, 13] Try.f36 = some a36 := by kernel_rfl

/- damask/types.Same -/
def a37r0 : List AOper :=
  [⟨some (true, 2), .box (.g 0), none, []⟩,
   ⟨some (true, 3), .box (.g 1), none, []⟩,
   ⟨some (true, 4), .mv (.c (.bool false)), none, []⟩]
def a37r1 : List AOper :=
  [⟨some (false, 5), .fieldAddr 0 (.g 2), none, []⟩,
   ⟨some (false, 6), .load 1 false (.l 5), none, []⟩,
   ⟨some (false, 7), .fieldAddr 0 (.g 3), none, []⟩,
   ⟨some (false, 8), .load 1 false (.l 7), none, []⟩,
   ⟨some (false, 9), .bin .eql (.l 6) (.l 8), none, []⟩,
   ⟨some (false, 10), .mv (.l 9), none, []⟩,
   ⟨some (false, 11), .fieldAddr 1 (.g 2), some (false, 10, true), []⟩,
   ⟨some (false, 12), .load 1 false (.l 11), some (false, 10, true), []⟩,
   ⟨some (false, 13), .fieldAddr 1 (.g 3), some (false, 10, true), []⟩,
   ⟨some (false, 14), .load 1 false (.l 13), some (false, 10, true), []⟩,
   ⟨some (false, 15), .bin .eql (.l 12) (.l 14), some (false, 10, true), []⟩,
   ⟨some (false, 16), .pick (.l 10) (.l 15) (.c (.bool false)), none, []⟩,
   ⟨some (false, 17), .mv (.l 16), none, []⟩,
   ⟨some (false, 18), .fieldAddr 2 (.g 2), some (false, 17, true), []⟩,
   ⟨some (false, 19), .load 1 false (.l 18), some (false, 17, true), []⟩,
   ⟨some (false, 20), .fieldAddr 2 (.g 3), some (false, 17, true), []⟩,
   ⟨some (false, 21), .load 1 false (.l 20), some (false, 17, true), []⟩,
   ⟨some (false, 22), .bin .eql (.l 19) (.l 21), some (false, 17, true), []⟩,
   ⟨some (false, 23), .pick (.l 17) (.l 22) (.c (.bool false)), none, []⟩,
   ⟨some (false, 24), .mv (.l 23), none, []⟩,
   ⟨some (false, 25), .fieldAddr 3 (.g 2), some (false, 24, true), []⟩,
   ⟨some (false, 26), .load 1 false (.l 25), some (false, 24, true), []⟩,
   ⟨some (false, 27), .fieldAddr 3 (.g 3), some (false, 24, true), []⟩,
   ⟨some (false, 28), .load 1 false (.l 27), some (false, 24, true), []⟩,
   ⟨some (false, 29), .call false (.c (.fn 80 [] [])) [(.l 26), (.l 28), (.c (.fn 37 [] []))], some (false, 24, true), []⟩,
   ⟨some (false, 30), .pick (.l 24) (.l 29) (.c (.bool false)), none, []⟩,
   ⟨some (true, 4), .mv (.l 30), none, []⟩]
def a37b : ACode :=
  (.seq (.reg false a37r0) (.seq (.reg false a37r1) .ret))
def a37 : AFun := ⟨2, 31, a37b, [.tmp (true, 4)]⟩
theorem c37 : compileFun Try.prog [0, 1, 2, 3, 4] Try.f37 = some a37 := by kernel_rfl

/- damask/damaskref05.Order -/
def a38r0 : List AOper :=
  [⟨some (true, 2), .box (.g 0), none, []⟩,
   ⟨some (true, 3), .box (.g 1), none, []⟩,
   ⟨some (true, 4), .mv (.c (.int .i64 0)), none, []⟩]
def a38r1 : List AOper :=
  [⟨some (false, 9), .load 4 true (.g 2), none, []⟩,
   ⟨some (false, 10), .call true (.c (.fn 48 [] [])) [(.l 9)], none, []⟩,
   ⟨some (false, 11), .load 4 true (.g 3), none, []⟩,
   ⟨some (false, 12), .call true (.c (.fn 48 [] [])) [(.l 11)], none, []⟩,
   ⟨some (false, 13), .call true (.c (.fn 81 [] [])) [(.l 10), (.l 12)], none, []⟩,
   ⟨some (false, 14), .fieldAddr 0 (.g 2), none, []⟩,
   ⟨some (false, 15), .load 1 false (.l 14), none, []⟩,
   ⟨some (false, 16), .fieldAddr 0 (.g 3), none, []⟩,
   ⟨some (false, 17), .load 1 false (.l 16), none, []⟩,
   ⟨some (false, 18), .call true (.c (.fn 81 [] [])) [(.l 15), (.l 17)], none, []⟩,
   ⟨some (false, 19), .fieldAddr 1 (.g 2), none, []⟩,
   ⟨some (false, 20), .load 1 false (.l 19), none, []⟩,
   ⟨some (false, 21), .fieldAddr 1 (.g 3), none, []⟩,
   ⟨some (false, 22), .load 1 false (.l 21), none, []⟩,
   ⟨some (false, 23), .call true (.c (.fn 81 [] [])) [(.l 20), (.l 22)], none, []⟩,
   ⟨some (false, 24), .fieldAddr 2 (.g 2), none, []⟩,
   ⟨some (false, 25), .load 1 false (.l 24), none, []⟩,
   ⟨some (false, 26), .fieldAddr 2 (.g 3), none, []⟩,
   ⟨some (false, 27), .load 1 false (.l 26), none, []⟩,
   ⟨some (false, 28), .call true (.c (.fn 82 [] [])) [(.l 25), (.l 27)], none, []⟩,
   ⟨some (true, 29), .buildSlice 1 false [(.int .i64 0)] 4 [(0, (.l 13)), (1, (.l 18)), (2, (.l 23)), (3, (.l 28))], none, []⟩,
   ⟨some (true, 30), .len (.g 29), none, []⟩,
   ⟨some (true, 31), .mv (.c (.int .i64 0)), none, []⟩]
def a38r2 : List AOper :=
  [⟨some (true, 32), .bin .lss (.g 31) (.g 30), none, []⟩]
def a38r3 : List AOper :=
  [⟨some (false, 33), .indexAddr 1 (.g 29) (.g 31), none, []⟩,
   ⟨some (false, 34), .load 1 false (.l 33), none, []⟩,
   ⟨some (true, 6), .mv (.l 34), none, []⟩]
def a38r4 : List AOper :=
  [⟨some (false, 35), .mv (.g 6), none, []⟩,
   ⟨some (true, 36), .bin .neq (.l 35) (.c (.int .i64 0)), none, []⟩]
def a38r5 : List AOper :=
  [⟨some (false, 37), .mv (.g 6), none, []⟩,
   ⟨some (true, 4), .mv (.l 37), none, []⟩]
def a38r6 : List AOper :=
  [⟨some (false, 38), .bin .add (.g 31) (.c (.int .i64 1)), none, []⟩,
   ⟨some (true, 31), .mv (.l 38), none, []⟩]
def a38l7 : ACode :=
  (.seq (.reg false a38r2) (.seq (.cond (.g 32) .skip (.exit 0)) (.seq (.block 1 (.seq (.reg false a38r3) (.seq (.reg false a38r4) (.cond (.g 36) (.seq (.reg false a38r5) .ret) .skip)))) (.reg false a38r6))))
def a38r8 : List AOper :=
  [⟨some (false, 39), .fieldAddr 3 (.g 2), none, []⟩,
   ⟨some (false, 40), .load 1 false (.l 39), none, []⟩,
   ⟨some (true, 41), .len (.l 40), none, []⟩,
   ⟨some (true, 42), .mv (.c (.int .i64 0)), none, []⟩]
def a38r9 : List AOper :=
  [⟨some (true, 43), .bin .lss (.g 42) (.g 41), none, []⟩]
def a38r10 : List AOper :=
  [⟨some (false, 44), .mv (.g 42), none, []⟩,
   ⟨some (true, 7), .mv (.l 44), none, []⟩]
def a38r11 : List AOper :=
  [⟨some (false, 45), .fieldAddr 3 (.g 2), none, []⟩,
   ⟨some (false, 46), .load 1 false (.l 45), none, []⟩,
   ⟨some (false, 47), .mv (.g 7), none, []⟩,
   ⟨some (false, 48), .indexAddr 4 (.l 46) (.l 47), none, []⟩,
   ⟨some (false, 49), .load 4 true (.l 48), none, []⟩,
   ⟨some (false, 50), .fieldAddr 3 (.g 3), none, []⟩,
   ⟨some (false, 51), .load 1 false (.l 50), none, []⟩,
   ⟨some (false, 52), .mv (.g 7), none, []⟩,
   ⟨some (false, 53), .indexAddr 4 (.l 51) (.l 52), none, []⟩,
   ⟨some (false, 54), .load 4 true (.l 53), none, []⟩,
   ⟨some (false, 55), .call true (.c (.fn 38 [] [])) [(.l 49), (.l 54)], none, []⟩,
   ⟨some (true, 8), .mv (.l 55), none, []⟩]
def a38r12 : List AOper :=
  [⟨some (false, 56), .mv (.g 8), none, []⟩,
   ⟨some (true, 57), .bin .neq (.l 56) (.c (.int .i64 0)), none, []⟩]
def a38r13 : List AOper :=
  [⟨some (false, 58), .mv (.g 8), none, []⟩,
   ⟨some (true, 4), .mv (.l 58), none, []⟩]
def a38r14 : List AOper :=
  [⟨some (false, 59), .bin .add (.g 42) (.c (.int .i64 1)), none, []⟩,
   ⟨some (true, 42), .mv (.l 59), none, []⟩]
def a38l15 : ACode :=
  (.seq (.reg false a38r9) (.seq (.cond (.g 43) .skip (.exit 2)) (.seq (.block 3 (.seq (.reg false a38r10) (.seq (.reg true a38r11) (.seq (.reg false a38r12) (.cond (.g 57) (.seq (.reg false a38r13) .ret) .skip))))) (.reg false a38r14))))
def a38r16 : List AOper :=
  [⟨some (true, 4), .mv (.c (.int .i64 0)), none, []⟩]
def a38b : ACode :=
  (.seq (.reg false a38r0) (.seq (.seq (.reg true a38r1) (.block 0 (.loop a38l7))) (.seq (.seq (.reg false a38r8) (.block 2 (.loop a38l15))) (.seq (.reg false a38r16) .ret))))
def a38 : AFun := ⟨2, 60, a38b, [.tmp (true, 4)]⟩
theorem c38 : compileFun Try.prog [0, 1, 2, 3, 4, 6, 7, 8, 29, 30, 31, 32, 36, 41, 42, 43, 57] Try.f38 = some a38 := by kernel_rfl

/- damask/types.Compare -/
def a79r0 : List AOper :=
  [⟨some (true, 2), .box (.g 0), none, []⟩,
   ⟨some (true, 3), .box (.g 1), none, []⟩,
   ⟨some (true, 4), .mv (.c (.int .i64 0)), none, []⟩]
def a79r1 : List AOper :=
  [⟨some (false, 6), .load 4 true (.g 2), none, []⟩,
   ⟨some (false, 7), .call true (.c (.fn 84 [] [])) [(.l 6)], none, []⟩,
   ⟨some (false, 8), .load 4 true (.g 3), none, []⟩,
   ⟨some (false, 9), .call true (.c (.fn 84 [] [])) [(.l 8)], none, []⟩,
   ⟨some (false, 10), .call true (.c (.fn 117 [] [])) [(.l 7), (.l 9)], none, []⟩,
   ⟨some (true, 5), .mv (.l 10), none, []⟩]
def a79r2 : List AOper :=
  [⟨some (false, 11), .mv (.g 5), none, []⟩,
   ⟨some (true, 12), .bin .neq (.l 11) (.c (.int .i64 0)), none, []⟩]
def a79r3 : List AOper :=
  [⟨some (false, 13), .mv (.g 5), none, []⟩,
   ⟨some (true, 4), .mv (.l 13), none, []⟩]
def a79r4 : List AOper :=
  [⟨some (false, 14), .load 4 true (.g 2), none, []⟩,
   ⟨some (false, 15), .load 4 true (.g 3), none, []⟩,
   ⟨some (false, 16), .call false (.c (.fn 118 [] [])) [(.l 14), (.l 15)], none, []⟩,
   ⟨some (true, 4), .mv (.l 16), none, []⟩]
def a79b : ACode :=
  (.seq (.reg false a79r0) (.seq (.seq (.reg true a79r1) (.seq (.reg false a79r2) (.cond (.g 12) (.seq (.reg false a79r3) .ret) .skip))) (.seq (.reg false a79r4) .ret)))
def a79 : AFun := ⟨2, 17, a79b, [.tmp (true, 4)]⟩
theorem c79 : compileFun Try.prog [0, 1, 2, 3, 4, 5, 12] Try.f79 = some a79 := by kernel_rfl

/- slices.EqualFunc[[]damask/api.Type,[]damask/api.Type,damask/api.Type,damask/api.Type] -/
def a80r0 : List AOper :=
  [⟨some (true, 6), .mv (.c (.bool false)), none, []⟩]
def a80r1 : List AOper :=
  [⟨some (false, 10), .mv (.g 0), none, []⟩,
   ⟨some (false, 11), .len (.l 10), none, []⟩,
   ⟨some (false, 12), .mv (.g 1), none, []⟩,
   ⟨some (false, 13), .len (.l 12), none, []⟩,
   ⟨some (true, 14), .bin .neq (.l 11) (.l 13), none, []⟩]
def a80r2 : List AOper :=
  [⟨some (true, 6), .mv (.c (.bool false)), none, []⟩]
def a80r3 : List AOper :=
  [⟨some (true, 15), .mv (.g 0), none, []⟩,
   ⟨some (true, 16), .len (.g 15), none, []⟩,
   ⟨some (true, 17), .mv (.c (.int .i64 0)), none, []⟩]
def a80r4 : List AOper :=
  [⟨some (true, 18), .bin .lss (.g 17) (.g 16), none, []⟩]
def a80r5 : List AOper :=
  [⟨some (false, 19), .mv (.g 17), none, []⟩,
   ⟨some (false, 20), .indexAddr 4 (.g 15) (.g 17), none, []⟩,
   ⟨some (false, 21), .load 4 true (.l 20), none, []⟩,
   ⟨some (true, 8), .alloc [(.int .i64 0), (.int .i64 0), (.str ⟨#[]⟩), (.list 0 .full [])], none, []⟩,
   ⟨some (true, 7), .mv (.l 19), none, []⟩,
   ⟨none, .store 4 (.g 8) (.l 21), none, []⟩]
def a80r6 : List AOper :=
  [⟨some (false, 22), .mv (.g 1), none, []⟩,
   ⟨some (false, 23), .mv (.g 7), none, []⟩,
   ⟨some (false, 24), .indexAddr 4 (.l 22) (.l 23), none, []⟩,
   ⟨some (false, 25), .load 4 true (.l 24), none, []⟩,
   ⟨some (true, 9), .alloc [(.int .i64 0), (.int .i64 0), (.str ⟨#[]⟩), (.list 0 .full [])], none, []⟩,
   ⟨none, .store 4 (.g 9) (.l 25), none, []⟩]
def a80r7 : List AOper :=
  [⟨some (false, 26), .mv (.g 2), none, []⟩,
   ⟨some (false, 27), .load 4 true (.g 8), none, []⟩,
   ⟨some (false, 28), .load 4 true (.g 9), none, []⟩,
   ⟨some (false, 29), .call false (.l 26) [(.l 27), (.l 28)], none, []⟩,
   ⟨some (true, 30), .un .not (.l 29), none, []⟩]
def a80r8 : List AOper :=
  [⟨some (true, 6), .mv (.c (.bool false)), none, []⟩]
def a80r9 : List AOper :=
  [⟨some (false, 31), .bin .add (.g 17) (.c (.int .i64 1)), none, []⟩,
   ⟨some (true, 17), .mv (.l 31), none, []⟩]
def a80l10 : ACode :=
  (.seq (.reg false a80r4) (.seq (.cond (.g 18) .skip (.exit 0)) (.seq (.block 1 (.seq (.reg false a80r5) (.seq (.reg false a80r6) (.seq (.reg false a80r7) (.cond (.g 30) (.seq (.reg false a80r8) .ret) .skip))))) (.reg false a80r9))))
def a80r11 : List AOper :=
  [⟨some (true, 6), .mv (.c (.bool true)), none, []⟩]
def a80b : ACode :=
  (.seq (.reg false a80r0) (.seq (.seq (.reg false a80r1) (.cond (.g 14) (.seq (.reg false a80r2) .ret) .skip)) (.seq (.seq (.reg false a80r3) (.block 0 (.loop a80l10))) (.seq (.reg false a80r11) .ret))))
def a80 : AFun := ⟨3, 32, a80b, [.tmp (true, 6)]⟩
theorem c80 : compileFun Try.prog [0, 1, 2, 6, 7, 8, 9, 14, 15, 16, 17, 18, 30] Try.f80 = some a80 := by kernel_rfl

/- damask/damaskref05.compare -/
def a81r0 : List AOper :=
  [⟨some (true, 4), .mv (.c (.int .i64 0)), none, []⟩]
def a81r1 : List AOper :=
  [⟨some (false, 5), .mv (.g 0), none, []⟩,
   ⟨some (false, 6), .mv (.g 1), none, []⟩,
   ⟨some (true, 7), .bin .lss (.l 5) (.l 6), none, []⟩]
def a81r2 : List AOper :=
  [⟨some (true, 4), .mv (.c (.int .i64 (-1))), none, []⟩]
def a81r3 : List AOper :=
  [⟨some (false, 8), .mv (.g 0), none, []⟩,
   ⟨some (false, 9), .mv (.g 1), none, []⟩,
   ⟨some (true, 10), .bin .gtr (.l 8) (.l 9), none, []⟩]
def a81r4 : List AOper :=
  [⟨some (true, 4), .mv (.c (.int .i64 1)), none, []⟩]
def a81r5 : List AOper :=
  [⟨some (true, 4), .mv (.c (.int .i64 0)), none, []⟩]
def a81b : ACode :=
  (.seq (.reg false a81r0) (.seq (.seq (.reg false a81r1) (.cond (.g 7) (.seq (.reg false a81r2) .ret) .skip)) (.seq (.seq (.reg false a81r3) (.cond (.g 10) (.seq (.reg false a81r4) .ret) .skip)) (.seq (.reg false a81r5) .ret))))
def a81 : AFun := ⟨2, 11, a81b, [.tmp (true, 4)]⟩
theorem c81 : compileFun Try.prog [0, 1, 4, 7, 10] Try.f81 = some a81 := by kernel_rfl

/- damask/damaskref05.words -/
def a82r0 : List AOper :=
  [⟨some (true, 4), .mv (.c (.int .i64 0)), none, []⟩]
def a82r1 : List AOper :=
  [⟨some (false, 5), .mv (.g 0), none, []⟩,
   ⟨some (false, 6), .mv (.g 1), none, []⟩,
   ⟨some (true, 7), .bin .lss (.l 5) (.l 6), none, []⟩]
def a82r2 : List AOper :=
  [⟨some (true, 4), .mv (.c (.int .i64 (-1))), none, []⟩]
def a82r3 : List AOper :=
  [⟨some (false, 8), .mv (.g 0), none, []⟩,
   ⟨some (false, 9), .mv (.g 1), none, []⟩,
   ⟨some (true, 10), .bin .gtr (.l 8) (.l 9), none, []⟩]
def a82r4 : List AOper :=
  [⟨some (true, 4), .mv (.c (.int .i64 1)), none, []⟩]
def a82r5 : List AOper :=
  [⟨some (true, 4), .mv (.c (.int .i64 0)), none, []⟩]
def a82b : ACode :=
  (.seq (.reg false a82r0) (.seq (.seq (.reg false a82r1) (.cond (.g 7) (.seq (.reg false a82r2) .ret) .skip)) (.seq (.seq (.reg false a82r3) (.cond (.g 10) (.seq (.reg false a82r4) .ret) .skip)) (.seq (.reg false a82r5) .ret))))
def a82 : AFun := ⟨2, 11, a82b, [.tmp (true, 4)]⟩
theorem c82 : compileFun Try.prog [0, 1, 4, 7, 10] Try.f82 = some a82 := by kernel_rfl

/- damask/types.size -/
def a84r0 : List AOper :=
  [⟨some (true, 1), .box (.g 0), none, []⟩,
   ⟨some (true, 2), .mv (.c (.int .i64 0)), none, []⟩]
def a84r1 : List AOper :=
  [⟨some (true, 3), .mv (.c (.int .i64 1)), none, []⟩]
def a84r2 : List AOper :=
  [⟨some (false, 6), .fieldAddr 3 (.g 1), none, []⟩,
   ⟨some (true, 7), .load 1 false (.l 6), none, []⟩,
   ⟨some (true, 8), .len (.g 7), none, []⟩,
   ⟨some (true, 9), .mv (.c (.int .i64 0)), none, []⟩]
def a84r3 : List AOper :=
  [⟨some (true, 10), .bin .lss (.g 9) (.g 8), none, []⟩]
def a84r4 : List AOper :=
  [⟨some (false, 11), .indexAddr 4 (.g 7) (.g 9), none, []⟩,
   ⟨some (false, 12), .load 4 true (.l 11), none, []⟩,
   ⟨some (true, 5), .alloc [(.int .i64 0), (.int .i64 0), (.str ⟨#[]⟩), (.list 0 .full [])], none, []⟩,
   ⟨none, .store 4 (.g 5) (.l 12), none, []⟩]
def a84r5 : List AOper :=
  [⟨some (false, 13), .mv (.g 3), none, []⟩,
   ⟨some (false, 14), .load 4 true (.g 5), none, []⟩,
   ⟨some (false, 15), .call false (.c (.fn 84 [] [])) [(.l 14)], none, []⟩,
   ⟨some (false, 16), .bin .add (.l 13) (.l 15), none, []⟩,
   ⟨some (true, 3), .mv (.l 16), none, []⟩]
def a84r6 : List AOper :=
  [⟨some (false, 17), .bin .add (.g 9) (.c (.int .i64 1)), none, []⟩,
   ⟨some (true, 9), .mv (.l 17), none, []⟩]
def a84l7 : ACode :=
  (.seq (.reg false a84r3) (.seq (.cond (.g 10) .skip (.exit 0)) (.seq (.block 1 (.seq (.reg false a84r4) (.reg false a84r5))) (.reg false a84r6))))
def a84r8 : List AOper :=
  [⟨some (false, 18), .mv (.g 3), none, []⟩,
   ⟨some (true, 2), .mv (.l 18), none, []⟩]
def a84b : ACode :=
  (.seq (.reg false a84r0) (.seq (.reg false a84r1) (.seq (.seq (.reg false a84r2) (.block 0 (.loop a84l7))) (.seq (.reg false a84r8) .ret))))
def a84 : AFun := ⟨1, 19, a84b, [.tmp (true, 2)]⟩
theorem c84 : compileFun Try.prog [0, 1, 2, 3, 5, 7, 8, 9, 10] Try.f84 = some a84 := by kernel_rfl

/- cmp.Compare[int] -/
def a117r0 : List AOper :=
  [⟨some (true, 4), .mv (.c (.int .i64 0)), none, []⟩]
def a117r1 : List AOper :=
  [⟨some (false, 7), .mv (.g 0), none, []⟩,
   ⟨some (false, 8), .call false (.c (.fn 130 [] [])) [(.l 7)], none, []⟩,
   ⟨some (true, 5), .mv (.l 8), none, []⟩]
def a117r2 : List AOper :=
  [⟨some (false, 9), .mv (.g 1), none, []⟩,
   ⟨some (false, 10), .call false (.c (.fn 130 [] [])) [(.l 9)], none, []⟩,
   ⟨some (true, 6), .mv (.l 10), none, []⟩]
def a117r3 : List AOper :=
  [⟨some (true, 11), .mv (.g 5), none, []⟩]
def a117r4 : List AOper :=
  [⟨some (true, 12), .mv (.g 6), none, []⟩]
def a117r5 : List AOper :=
  [⟨some (true, 4), .mv (.c (.int .i64 0)), none, []⟩]
def a117r6 : List AOper :=
  [⟨some (true, 4), .mv (.c (.int .i64 (-1))), none, []⟩]
def a117r7 : List AOper :=
  [⟨some (true, 13), .mv (.g 6), none, []⟩]
def a117r8 : List AOper :=
  [⟨some (true, 4), .mv (.c (.int .i64 1)), none, []⟩]
def a117r9 : List AOper :=
  [⟨some (false, 14), .mv (.g 0), none, []⟩,
   ⟨some (false, 15), .mv (.g 1), none, []⟩,
   ⟨some (true, 16), .bin .lss (.l 14) (.l 15), none, []⟩]
def a117r10 : List AOper :=
  [⟨some (true, 4), .mv (.c (.int .i64 (-1))), none, []⟩]
def a117r11 : List AOper :=
  [⟨some (false, 17), .mv (.g 0), none, []⟩,
   ⟨some (false, 18), .mv (.g 1), none, []⟩,
   ⟨some (true, 19), .bin .gtr (.l 17) (.l 18), none, []⟩]
def a117r12 : List AOper :=
  [⟨some (true, 4), .mv (.c (.int .i64 1)), none, []⟩]
def a117r13 : List AOper :=
  [⟨some (true, 4), .mv (.c (.int .i64 0)), none, []⟩]
def a117b : ACode :=
  (.seq (.reg false a117r0) (.seq (.reg false a117r1) (.seq (.reg false a117r2) (.seq (.seq (.reg false a117r3) (.cond (.g 11) (.seq (.seq (.reg false a117r4) (.cond (.g 12) (.seq (.reg false a117r5) .ret) .skip)) (.seq (.reg false a117r6) .ret)) .skip)) (.seq (.seq (.reg false a117r7) (.cond (.g 13) (.seq (.reg false a117r8) .ret) .skip)) (.seq (.seq (.reg false a117r9) (.cond (.g 16) (.seq (.reg false a117r10) .ret) .skip)) (.seq (.seq (.reg false a117r11) (.cond (.g 19) (.seq (.reg false a117r12) .ret) .skip)) (.seq (.reg false a117r13) .ret))))))))
def a117 : AFun := ⟨2, 20, a117b, [.tmp (true, 4)]⟩
theorem c117 : compileFun Try.prog [0, 1, 4, 5, 6, 11, 12, 13, 16, 19] Try.f117 = some a117 := by kernel_rfl

/- damask/types.compare -/
def a118r0 : List AOper :=
  [⟨some (true, 2), .box (.g 0), none, []⟩,
   ⟨some (true, 3), .box (.g 1), none, []⟩,
   ⟨some (true, 4), .mv (.c (.int .i64 0)), none, []⟩]
def a118r1 : List AOper :=
  [⟨some (false, 6), .fieldAddr 0 (.g 2), none, []⟩,
   ⟨some (false, 7), .load 1 false (.l 6), none, []⟩,
   ⟨some (false, 8), .fieldAddr 0 (.g 3), none, []⟩,
   ⟨some (false, 9), .load 1 false (.l 8), none, []⟩,
   ⟨some (false, 10), .call true (.c (.fn 117 [] [])) [(.l 7), (.l 9)], none, []⟩,
   ⟨some (false, 11), .fieldAddr 1 (.g 2), none, []⟩,
   ⟨some (false, 12), .load 1 false (.l 11), none, []⟩,
   ⟨some (false, 13), .fieldAddr 1 (.g 3), none, []⟩,
   ⟨some (false, 14), .load 1 false (.l 13), none, []⟩,
   ⟨some (false, 15), .call true (.c (.fn 117 [] [])) [(.l 12), (.l 14)], none, []⟩,
   ⟨some (false, 16), .fieldAddr 2 (.g 2), none, []⟩,
   ⟨some (false, 17), .load 1 false (.l 16), none, []⟩,
   ⟨some (false, 18), .fieldAddr 2 (.g 3), none, []⟩,
   ⟨some (false, 19), .load 1 false (.l 18), none, []⟩,
   ⟨some (false, 20), .call true (.c (.fn 132 [] [])) [(.l 17), (.l 19)], none, []⟩,
   ⟨some (false, 21), .buildSlice 1 false [(.int .i64 0)] 3 [(0, (.l 10)), (1, (.l 15)), (2, (.l 20))], none, []⟩,
   ⟨some (false, 22), .call true (.c (.fn 131 [] [])) [(.l 21)], none, []⟩,
   ⟨some (true, 5), .mv (.l 22), none, []⟩]
def a118r2 : List AOper :=
  [⟨some (false, 23), .mv (.g 5), none, []⟩,
   ⟨some (true, 24), .bin .neq (.l 23) (.c (.int .i64 0)), none, []⟩]
def a118r3 : List AOper :=
  [⟨some (false, 25), .mv (.g 5), none, []⟩,
   ⟨some (true, 4), .mv (.l 25), none, []⟩]
def a118r4 : List AOper :=
  [⟨some (false, 26), .fieldAddr 3 (.g 2), none, []⟩,
   ⟨some (false, 27), .load 1 false (.l 26), none, []⟩,
   ⟨some (false, 28), .fieldAddr 3 (.g 3), none, []⟩,
   ⟨some (false, 29), .load 1 false (.l 28), none, []⟩,
   ⟨some (false, 30), .call false (.c (.fn 133 [] [])) [(.l 27), (.l 29), (.c (.fn 79 [] []))], none, []⟩,
   ⟨some (true, 4), .mv (.l 30), none, []⟩]
def a118b : ACode :=
  (.seq (.reg false a118r0) (.seq (.seq (.reg true a118r1) (.seq (.reg false a118r2) (.cond (.g 24) (.seq (.reg false a118r3) .ret) .skip))) (.seq (.reg false a118r4) .ret)))
def a118 : AFun := ⟨2, 31, a118b, [.tmp (true, 4)]⟩
theorem c118 : compileFun Try.prog [0, 1, 2, 3, 4, 5, 24] Try.f118 = some a118 := by kernel_rfl

/- cmp.isNaN[int] -/
def a130r0 : List AOper :=
  [⟨some (true, 2), .mv (.c (.bool false)), none, []⟩]
def a130r1 : List AOper :=
  [⟨some (false, 3), .mv (.g 0), none, []⟩,
   ⟨some (false, 4), .mv (.g 0), none, []⟩,
   ⟨some (false, 5), .bin .neq (.l 3) (.l 4), none, []⟩,
   ⟨some (true, 2), .mv (.l 5), none, []⟩]
def a130b : ACode :=
  (.seq (.reg false a130r0) (.seq (.reg false a130r1) .ret))
def a130 : AFun := ⟨1, 6, a130b, [.tmp (true, 2)]⟩
theorem c130 : compileFun Try.prog [0, 2] Try.f130 = some a130 := by kernel_rfl

/- cmp.Or[int] -/
def a131r0 : List AOper :=
  [⟨some (true, 2), .mv (.c (.int .i64 0)), none, []⟩]
def a131r1 : List AOper :=
  [⟨some (true, 3), .mv (.c (.int .i64 0)), none, []⟩]
def a131r2 : List AOper :=
  [⟨some (true, 6), .mv (.g 0), none, []⟩,
   ⟨some (true, 7), .len (.g 6), none, []⟩,
   ⟨some (true, 8), .mv (.c (.int .i64 0)), none, []⟩]
def a131r3 : List AOper :=
  [⟨some (true, 9), .bin .lss (.g 8) (.g 7), none, []⟩]
def a131r4 : List AOper :=
  [⟨some (false, 10), .indexAddr 1 (.g 6) (.g 8), none, []⟩,
   ⟨some (false, 11), .load 1 false (.l 10), none, []⟩,
   ⟨some (true, 5), .mv (.l 11), none, []⟩]
def a131r5 : List AOper :=
  [⟨some (false, 12), .mv (.g 5), none, []⟩,
   ⟨some (false, 13), .mv (.g 3), none, []⟩,
   ⟨some (true, 14), .bin .neq (.l 12) (.l 13), none, []⟩]
def a131r6 : List AOper :=
  [⟨some (false, 15), .mv (.g 5), none, []⟩,
   ⟨some (true, 2), .mv (.l 15), none, []⟩]
def a131r7 : List AOper :=
  [⟨some (false, 16), .bin .add (.g 8) (.c (.int .i64 1)), none, []⟩,
   ⟨some (true, 8), .mv (.l 16), none, []⟩]
def a131l8 : ACode :=
  (.seq (.reg false a131r3) (.seq (.cond (.g 9) .skip (.exit 0)) (.seq (.block 1 (.seq (.reg false a131r4) (.seq (.reg false a131r5) (.cond (.g 14) (.seq (.reg false a131r6) .ret) .skip)))) (.reg false a131r7))))
def a131r9 : List AOper :=
  [⟨some (false, 17), .mv (.g 3), none, []⟩,
   ⟨some (true, 2), .mv (.l 17), none, []⟩]
def a131b : ACode :=
  (.seq (.reg false a131r0) (.seq (.reg false a131r1) (.seq (.seq (.reg false a131r2) (.block 0 (.loop a131l8))) (.seq (.reg false a131r9) .ret))))
def a131 : AFun := ⟨1, 18, a131b, [.tmp (true, 2)]⟩
theorem c131 : compileFun Try.prog [0, 2, 3, 5, 6, 7, 8, 9, 14] Try.f131 = some a131 := by kernel_rfl

/- cmp.Compare[string] -/
def a132r0 : List AOper :=
  [⟨some (true, 4), .mv (.c (.int .i64 0)), none, []⟩]
def a132r1 : List AOper :=
  [⟨some (false, 7), .mv (.g 0), none, []⟩,
   ⟨some (false, 8), .call false (.c (.fn 137 [] [])) [(.l 7)], none, []⟩,
   ⟨some (true, 5), .mv (.l 8), none, []⟩]
def a132r2 : List AOper :=
  [⟨some (false, 9), .mv (.g 1), none, []⟩,
   ⟨some (false, 10), .call false (.c (.fn 137 [] [])) [(.l 9)], none, []⟩,
   ⟨some (true, 6), .mv (.l 10), none, []⟩]
def a132r3 : List AOper :=
  [⟨some (true, 11), .mv (.g 5), none, []⟩]
def a132r4 : List AOper :=
  [⟨some (true, 12), .mv (.g 6), none, []⟩]
def a132r5 : List AOper :=
  [⟨some (true, 4), .mv (.c (.int .i64 0)), none, []⟩]
def a132r6 : List AOper :=
  [⟨some (true, 4), .mv (.c (.int .i64 (-1))), none, []⟩]
def a132r7 : List AOper :=
  [⟨some (true, 13), .mv (.g 6), none, []⟩]
def a132r8 : List AOper :=
  [⟨some (true, 4), .mv (.c (.int .i64 1)), none, []⟩]
def a132r9 : List AOper :=
  [⟨some (false, 14), .mv (.g 0), none, []⟩,
   ⟨some (false, 15), .mv (.g 1), none, []⟩,
   ⟨some (true, 16), .bin .lss (.l 14) (.l 15), none, []⟩]
def a132r10 : List AOper :=
  [⟨some (true, 4), .mv (.c (.int .i64 (-1))), none, []⟩]
def a132r11 : List AOper :=
  [⟨some (false, 17), .mv (.g 0), none, []⟩,
   ⟨some (false, 18), .mv (.g 1), none, []⟩,
   ⟨some (true, 19), .bin .gtr (.l 17) (.l 18), none, []⟩]
def a132r12 : List AOper :=
  [⟨some (true, 4), .mv (.c (.int .i64 1)), none, []⟩]
def a132r13 : List AOper :=
  [⟨some (true, 4), .mv (.c (.int .i64 0)), none, []⟩]
def a132b : ACode :=
  (.seq (.reg false a132r0) (.seq (.reg false a132r1) (.seq (.reg false a132r2) (.seq (.seq (.reg false a132r3) (.cond (.g 11) (.seq (.seq (.reg false a132r4) (.cond (.g 12) (.seq (.reg false a132r5) .ret) .skip)) (.seq (.reg false a132r6) .ret)) .skip)) (.seq (.seq (.reg false a132r7) (.cond (.g 13) (.seq (.reg false a132r8) .ret) .skip)) (.seq (.seq (.reg false a132r9) (.cond (.g 16) (.seq (.reg false a132r10) .ret) .skip)) (.seq (.seq (.reg false a132r11) (.cond (.g 19) (.seq (.reg false a132r12) .ret) .skip)) (.seq (.reg false a132r13) .ret))))))))
def a132 : AFun := ⟨2, 20, a132b, [.tmp (true, 4)]⟩
theorem c132 : compileFun Try.prog [0, 1, 4, 5, 6, 11, 12, 13, 16, 19] Try.f132 = some a132 := by kernel_rfl

/- slices.CompareFunc[[]damask/api.Type,[]damask/api.Type,damask/api.Type,damask/api.Type] -/
def a133r0 : List AOper :=
  [⟨some (true, 6), .mv (.c (.int .i64 0)), none, []⟩]
def a133r1 : List AOper :=
  [⟨some (true, 11), .mv (.g 0), none, []⟩,
   ⟨some (true, 12), .len (.g 11), none, []⟩,
   ⟨some (true, 13), .mv (.c (.int .i64 0)), none, []⟩]
def a133r2 : List AOper :=
  [⟨some (true, 14), .bin .lss (.g 13) (.g 12), none, []⟩]
def a133r3 : List AOper :=
  [⟨some (false, 15), .mv (.g 13), none, []⟩,
   ⟨some (false, 16), .indexAddr 4 (.g 11) (.g 13), none, []⟩,
   ⟨some (false, 17), .load 4 true (.l 16), none, []⟩,
   ⟨some (true, 8), .alloc [(.int .i64 0), (.int .i64 0), (.str ⟨#[]⟩), (.list 0 .full [])], none, []⟩,
   ⟨some (true, 7), .mv (.l 15), none, []⟩,
   ⟨none, .store 4 (.g 8) (.l 17), none, []⟩]
def a133r4 : List AOper :=
  [⟨some (false, 18), .mv (.g 7), none, []⟩,
   ⟨some (false, 19), .mv (.g 1), none, []⟩,
   ⟨some (false, 20), .len (.l 19), none, []⟩,
   ⟨some (true, 21), .bin .geq (.l 18) (.l 20), none, []⟩]
def a133r5 : List AOper :=
  [⟨some (true, 6), .mv (.c (.int .i64 1)), none, []⟩]
def a133r6 : List AOper :=
  [⟨some (false, 22), .mv (.g 1), none, []⟩,
   ⟨some (false, 23), .mv (.g 7), none, []⟩,
   ⟨some (false, 24), .indexAddr 4 (.l 22) (.l 23), none, []⟩,
   ⟨some (false, 25), .load 4 true (.l 24), none, []⟩,
   ⟨some (true, 9), .alloc [(.int .i64 0), (.int .i64 0), (.str ⟨#[]⟩), (.list 0 .full [])], none, []⟩,
   ⟨none, .store 4 (.g 9) (.l 25), none, []⟩]
def a133r7 : List AOper :=
  [⟨some (false, 26), .mv (.g 2), none, []⟩,
   ⟨some (false, 27), .load 4 true (.g 8), none, []⟩,
   ⟨some (false, 28), .load 4 true (.g 9), none, []⟩,
   ⟨some (false, 29), .call false (.l 26) [(.l 27), (.l 28)], none, []⟩,
   ⟨some (true, 10), .mv (.l 29), none, []⟩]
def a133r8 : List AOper :=
  [⟨some (false, 30), .mv (.g 10), none, []⟩,
   ⟨some (true, 31), .bin .neq (.l 30) (.c (.int .i64 0)), none, []⟩]
def a133r9 : List AOper :=
  [⟨some (false, 32), .mv (.g 10), none, []⟩,
   ⟨some (true, 6), .mv (.l 32), none, []⟩]
def a133r10 : List AOper :=
  [⟨some (false, 33), .bin .add (.g 13) (.c (.int .i64 1)), none, []⟩,
   ⟨some (true, 13), .mv (.l 33), none, []⟩]
def a133l11 : ACode :=
  (.seq (.reg false a133r2) (.seq (.cond (.g 14) .skip (.exit 0)) (.seq (.block 1 (.seq (.reg false a133r3) (.seq (.seq (.reg false a133r4) (.cond (.g 21) (.seq (.reg false a133r5) .ret) .skip)) (.seq (.reg false a133r6) (.seq (.reg false a133r7) (.seq (.reg false a133r8) (.cond (.g 31) (.seq (.reg false a133r9) .ret) .skip))))))) (.reg false a133r10))))
def a133r12 : List AOper :=
  [⟨some (false, 34), .mv (.g 0), none, []⟩,
   ⟨some (false, 35), .len (.l 34), none, []⟩,
   ⟨some (false, 36), .mv (.g 1), none, []⟩,
   ⟨some (false, 37), .len (.l 36), none, []⟩,
   ⟨some (true, 38), .bin .lss (.l 35) (.l 37), none, []⟩]
def a133r13 : List AOper :=
  [⟨some (true, 6), .mv (.c (.int .i64 (-1))), none, []⟩]
def a133r14 : List AOper :=
  [⟨some (true, 6), .mv (.c (.int .i64 0)), none, []⟩]
def a133b : ACode :=
  (.seq (.reg false a133r0) (.seq (.seq (.reg false a133r1) (.block 0 (.loop a133l11))) (.seq (.seq (.reg false a133r12) (.cond (.g 38) (.seq (.reg false a133r13) .ret) .skip)) (.seq (.reg false a133r14) .ret))))
def a133 : AFun := ⟨3, 39, a133b, [.tmp (true, 6)]⟩
theorem c133 : compileFun Try.prog [0, 1, 2, 6, 7, 8, 9, 10, 11, 12, 13, 14, 21, 31, 38] Try.f133 = some a133 := by kernel_rfl

/- cmp.isNaN[string] -/
def a137r0 : List AOper :=
  [⟨some (true, 2), .mv (.c (.bool false)), none, []⟩]
def a137r1 : List AOper :=
  [⟨some (false, 3), .mv (.g 0), none, []⟩,
   ⟨some (false, 4), .mv (.g 0), none, []⟩,
   ⟨some (false, 5), .bin .neq (.l 3) (.l 4), none, []⟩,
   ⟨some (true, 2), .mv (.l 5), none, []⟩]
def a137b : ACode :=
  (.seq (.reg false a137r0) (.seq (.reg false a137r1) .ret))
def a137 : AFun := ⟨1, 6, a137b, [.tmp (true, 2)]⟩
theorem c137 : compileFun Try.prog [0, 2] Try.f137 = some a137 := by kernel_rfl

/- damask/damaskref05.Size -/
def a48r0 : List AOper :=
  [⟨some (true, 1), .box (.g 0), none, []⟩,
   ⟨some (true, 2), .mv (.c (.int .i64 0)), none, []⟩]
def a48r1 : List AOper :=
  [⟨some (true, 3), .mv (.c (.int .i64 1)), none, []⟩]
def a48r2 : List AOper :=
  [⟨some (false, 6), .fieldAddr 3 (.g 1), none, []⟩,
   ⟨some (true, 7), .load 1 false (.l 6), none, []⟩,
   ⟨some (true, 8), .len (.g 7), none, []⟩,
   ⟨some (true, 9), .mv (.c (.int .i64 0)), none, []⟩]
def a48r3 : List AOper :=
  [⟨some (true, 10), .bin .lss (.g 9) (.g 8), none, []⟩]
def a48r4 : List AOper :=
  [⟨some (false, 11), .indexAddr 4 (.g 7) (.g 9), none, []⟩,
   ⟨some (false, 12), .load 4 true (.l 11), none, []⟩,
   ⟨some (true, 5), .alloc [(.int .i64 0), (.int .i64 0), (.str ⟨#[]⟩), (.list 0 .full [])], none, []⟩,
   ⟨none, .store 4 (.g 5) (.l 12), none, []⟩]
def a48r5 : List AOper :=
  [⟨some (false, 13), .mv (.g 3), none, []⟩,
   ⟨some (false, 14), .load 4 true (.g 5), none, []⟩,
   ⟨some (false, 15), .call false (.c (.fn 48 [] [])) [(.l 14)], none, []⟩,
   ⟨some (false, 16), .bin .add (.l 13) (.l 15), none, []⟩,
   ⟨some (true, 3), .mv (.l 16), none, []⟩]
def a48r6 : List AOper :=
  [⟨some (false, 17), .bin .add (.g 9) (.c (.int .i64 1)), none, []⟩,
   ⟨some (true, 9), .mv (.l 17), none, []⟩]
def a48l7 : ACode :=
  (.seq (.reg false a48r3) (.seq (.cond (.g 10) .skip (.exit 0)) (.seq (.block 1 (.seq (.reg false a48r4) (.reg false a48r5))) (.reg false a48r6))))
def a48r8 : List AOper :=
  [⟨some (false, 18), .mv (.g 3), none, []⟩,
   ⟨some (true, 2), .mv (.l 18), none, []⟩]
def a48b : ACode :=
  (.seq (.reg false a48r0) (.seq (.reg false a48r1) (.seq (.seq (.reg false a48r2) (.block 0 (.loop a48l7))) (.seq (.reg false a48r8) .ret))))
def a48 : AFun := ⟨1, 19, a48b, [.tmp (true, 2)]⟩
theorem c48 : compileFun Try.prog [0, 1, 2, 3, 5, 7, 8, 9, 10] Try.f48 = some a48 := by kernel_rfl

/- damask/damasklaw05.TypesOrders -/
def a9r0 : List AOper :=
  [⟨some (true, 2), .box (.g 0), none, []⟩,
   ⟨some (true, 3), .box (.g 1), none, []⟩,
   ⟨some (true, 4), .mv (.c (.bool false)), none, []⟩]
def a9r1 : List AOper :=
  [⟨some (false, 11), .load 4 true (.g 2), none, []⟩,
   ⟨some (false, 12), .load 4 true (.g 3), none, []⟩,
   ⟨some (false, 13), .call false (.c (.fn 36 [] [])) [(.l 11), (.l 12)], none, []⟩,
   ⟨some (false, 10), .mv (.l 13), none, []⟩,
   ⟨some (false, 14), .extract (.l 10) 0, none, []⟩,
   ⟨some (false, 15), .extract (.l 10) 1, none, []⟩,
   ⟨some (true, 5), .mv (.l 14), none, []⟩,
   ⟨some (true, 6), .mv (.l 15), none, []⟩]
def a9r2 : List AOper :=
  [⟨some (false, 17), .load 4 true (.g 3), none, []⟩,
   ⟨some (false, 18), .load 4 true (.g 2), none, []⟩,
   ⟨some (false, 19), .call false (.c (.fn 36 [] [])) [(.l 17), (.l 18)], none, []⟩,
   ⟨some (false, 16), .mv (.l 19), none, []⟩,
   ⟨some (false, 20), .extract (.l 16) 0, none, []⟩,
   ⟨some (false, 21), .extract (.l 16) 1, none, []⟩,
   ⟨some (true, 7), .mv (.l 20), none, []⟩,
   ⟨some (true, 8), .mv (.l 21), none, []⟩]
def a9r3 : List AOper :=
  [⟨some (false, 22), .load 4 true (.g 2), none, []⟩,
   ⟨some (false, 23), .load 4 true (.g 3), none, []⟩,
   ⟨some (false, 24), .call false (.c (.fn 37 [] [])) [(.l 22), (.l 23)], none, []⟩,
   ⟨some (true, 9), .mv (.l 24), none, []⟩]
def a9r4 : List AOper :=
  [⟨some (false, 25), .mv (.g 9), none, []⟩,
   ⟨some (false, 26), .load 4 true (.g 2), none, []⟩,
   ⟨some (false, 27), .load 4 true (.g 3), none, []⟩,
   ⟨some (false, 28), .call false (.c (.fn 31 [] [])) [(.l 26), (.l 27)], none, []⟩,
   ⟨some (false, 29), .eqb true (.l 25) (.l 28), none, []⟩,
   ⟨some (false, 30), .mv (.l 29), none, []⟩,
   ⟨some (false, 31), .load 4 true (.g 3), some (false, 30, false), []⟩,
   ⟨some (false, 32), .load 4 true (.g 2), some (false, 30, false), []⟩,
   ⟨some (false, 33), .call false (.c (.fn 37 [] [])) [(.l 31), (.l 32)], some (false, 30, false), []⟩,
   ⟨some (false, 34), .mv (.g 9), some (false, 30, false), []⟩,
   ⟨some (false, 35), .eqb true (.l 33) (.l 34), some (false, 30, false), []⟩,
   ⟨some (false, 36), .pick (.l 30) (.c (.bool true)) (.l 35), none, []⟩,
   ⟨some (false, 37), .mv (.l 36), none, []⟩,
   ⟨some (false, 38), .load 4 true (.g 2), some (false, 37, false), []⟩,
   ⟨some (false, 39), .load 4 true (.g 2), some (false, 37, false), []⟩,
   ⟨some (false, 40), .call false (.c (.fn 37 [] [])) [(.l 38), (.l 39)], some (false, 37, false), []⟩,
   ⟨some (false, 41), .un .not (.l 40), some (false, 37, false), []⟩,
   ⟨some (true, 42), .pick (.l 37) (.c (.bool true)) (.l 41), none, []⟩]
def a9r5 : List AOper :=
  [⟨some (true, 4), .mv (.c (.bool false)), none, []⟩]
def a9r6 : List AOper :=
  [⟨some (false, 43), .load 4 true (.g 2), none, []⟩,
   ⟨some (false, 44), .call false (.c (.fn 13 [] [])) [(.l 43)], none, []⟩,
   ⟨some (false, 45), .un .not (.l 44), none, []⟩,
   ⟨some (false, 46), .mv (.l 45), none, []⟩,
   ⟨some (false, 47), .load 4 true (.g 3), some (false, 46, false), []⟩,
   ⟨some (false, 48), .call false (.c (.fn 13 [] [])) [(.l 47)], some (false, 46, false), []⟩,
   ⟨some (false, 49), .un .not (.l 48), some (false, 46, false), []⟩,
   ⟨some (true, 50), .pick (.l 46) (.c (.bool true)) (.l 49), none, []⟩]
def a9r7 : List AOper :=
  [⟨some (false, 51), .mv (.g 5), none, []⟩,
   ⟨some (false, 52), .bin .eql (.l 51) (.c (.int .i64 0)), none, []⟩,
   ⟨some (false, 53), .mv (.l 52), none, []⟩,
   ⟨some (false, 54), .mv (.g 7), some (false, 53, true), []⟩,
   ⟨some (false, 55), .bin .eql (.l 54) (.c (.int .i64 0)), some (false, 53, true), []⟩,
   ⟨some (false, 56), .pick (.l 53) (.l 55) (.c (.bool false)), none, []⟩,
   ⟨some (false, 57), .mv (.l 56), none, []⟩,
   ⟨some (false, 58), .mv (.g 6), some (false, 57, true), []⟩,
   ⟨some (false, 59), .bin .eql (.l 58) (.c (.int .i64 2)), some (false, 57, true), []⟩,
   ⟨some (false, 60), .pick (.l 57) (.l 59) (.c (.bool false)), none, []⟩,
   ⟨some (false, 61), .mv (.l 60), none, []⟩,
   ⟨some (false, 62), .mv (.g 8), some (false, 61, true), []⟩,
   ⟨some (false, 63), .bin .eql (.l 62) (.c (.int .i64 2)), some (false, 61, true), []⟩,
   ⟨some (false, 64), .pick (.l 61) (.l 63) (.c (.bool false)), none, []⟩,
   ⟨some (false, 65), .mv (.l 64), none, []⟩,
   ⟨some (false, 66), .call false (.c (.fn 16 [] [])) [], some (false, 65, true), []⟩,
   ⟨some (false, 67), .pick (.l 65) (.l 66) (.c (.bool false)), none, []⟩,
   ⟨some (true, 4), .mv (.l 67), none, []⟩]
def a9r8 : List AOper :=
  [⟨some (false, 68), .mv (.g 6), none, []⟩,
   ⟨some (false, 69), .bin .eql (.l 68) (.c (.int .i64 0)), none, []⟩,
   ⟨some (false, 70), .mv (.l 69), none, []⟩,
   ⟨some (false, 71), .mv (.g 8), some (false, 70, true), []⟩,
   ⟨some (false, 72), .bin .eql (.l 71) (.c (.int .i64 0)), some (false, 70, true), []⟩,
   ⟨some (false, 73), .pick (.l 70) (.l 72) (.c (.bool false)), none, []⟩,
   ⟨some (false, 74), .mv (.l 73), none, []⟩,
   ⟨some (false, 75), .mv (.g 5), some (false, 74, true), []⟩,
   ⟨some (false, 76), .load 4 true (.g 2), some (false, 74, true), []⟩,
   ⟨some (false, 77), .load 4 true (.g 3), some (false, 74, true), []⟩,
   ⟨some (false, 78), .call false (.c (.fn 38 [] [])) [(.l 76), (.l 77)], some (false, 74, true), []⟩,
   ⟨some (false, 79), .bin .eql (.l 75) (.l 78), some (false, 74, true), []⟩,
   ⟨some (false, 80), .pick (.l 74) (.l 79) (.c (.bool false)), none, []⟩,
   ⟨some (false, 81), .mv (.l 80), none, []⟩,
   ⟨some (false, 82), .mv (.g 7), some (false, 81, true), []⟩,
   ⟨some (false, 83), .mv (.g 5), some (false, 81, true), []⟩,
   ⟨some (false, 84), .un .neg (.l 83), some (false, 81, true), []⟩,
   ⟨some (false, 85), .bin .eql (.l 82) (.l 84), some (false, 81, true), []⟩,
   ⟨some (false, 86), .pick (.l 81) (.l 85) (.c (.bool false)), none, []⟩,
   ⟨some (false, 87), .mv (.l 86), none, []⟩,
   ⟨some (false, 88), .mv (.g 5), some (false, 87, true), []⟩,
   ⟨some (false, 89), .bin .eql (.l 88) (.c (.int .i64 0)), some (false, 87, true), []⟩,
   ⟨some (false, 90), .mv (.g 9), some (false, 87, true), []⟩,
   ⟨some (false, 91), .eqb false (.l 89) (.l 90), some (false, 87, true), []⟩,
   ⟨some (false, 92), .pick (.l 87) (.l 91) (.c (.bool false)), none, []⟩,
   ⟨some (false, 93), .mv (.l 92), none, []⟩,
   ⟨some (false, 94), .call false (.c (.fn 16 [] [])) [], some (false, 93, true), []⟩,
   ⟨some (false, 95), .pick (.l 93) (.l 94) (.c (.bool false)), none, []⟩,
   ⟨some (true, 4), .mv (.l 95), none, []⟩]
def a9b : ACode :=
  (.seq (.reg false a9r0) (.seq (.reg false a9r1) (.seq (.reg false a9r2) (.seq (.reg false a9r3) (.seq (.seq (.reg false a9r4) (.cond (.g 42) (.seq (.reg false a9r5) .ret) .skip)) (.seq (.seq (.reg false a9r6) (.cond (.g 50) (.seq (.reg false a9r7) .ret) .skip)) (.seq (.reg false a9r8) .ret)))))))
def a9 : AFun := ⟨2, 96, a9b, [.tmp (true, 4)]⟩
theorem c9 : compileFun Try.prog [0, 1, 2, 3, 4, 5, 6, 7, 8, 9, 42, 50] Try.f9 = some a9 := by kernel_rfl

end Go.AL.Ty
