import Derived.Test.YtkegioliclbbhaaD1
import Derived.Test.YtkegioliclbbhaaProg
import Derived.KernelRfl
namespace Go.AL.Ty
open Go.Proofs

/- damask/types.IsProper -/
def a53r0 : List AOper :=
  [⟨some (true, 1), .box (.g 0), none, []⟩,
   ⟨some (true, 2), .mv (.c (.bool false)), none, []⟩]
def a53r1 : List AOper :=
  [⟨some (true, 3), .alloc [(.int .i64 0)], none, []⟩,
   ⟨none, .store 1 (.g 3) (.c (.int .i64 600)), none, []⟩]
def a53r2 : List AOper :=
  [⟨some (false, 4), .load 4 true (.g 1), none, []⟩,
   ⟨some (false, 5), .call false (.c (.fn 95 [] [])) [(.l 4), (.c (.int .i64 1)), (.g 3)], none, []⟩,
   ⟨some (true, 2), .mv (.l 5), none, []⟩]
def a53b : ACode :=
  (.seq (.reg false a53r0) (.seq (.reg false a53r1) (.seq (.reg false a53r2) .ret)))
def a53 : AFun := ⟨1, 6, a53b, [.tmp (true, 2)]⟩
theorem c53 : compileFun Try.prog [0, 1, 2, 3] Try.f53 = some a53 := by kernel_rfl

/- damask/types.good -/
def a95r0 : List AOper :=
  [⟨some (true, 3), .box (.g 0), none, []⟩,
   ⟨some (true, 6), .mv (.c (.bool false)), none, []⟩]
def a95r1 : List AOper :=
  [⟨some (false, 9), .mv (.g 2), none, []⟩,
   ⟨some (false, 10), .nilCheck (.l 9), none, []⟩,
   ⟨some (false, 11), .load 1 false (.l 10), none, []⟩,
   ⟨some (false, 12), .bin .sub (.l 11) (.c (.int .i64 1)), none, []⟩,
   ⟨some (false, 13), .nilCheck (.l 9), none, []⟩,
   ⟨none, .store 1 (.l 13) (.l 12), none, []⟩]
def a95r2 : List AOper :=
  [⟨some (false, 14), .mv (.g 2), none, []⟩,
   ⟨some (false, 15), .nilCheck (.l 14), none, []⟩,
   ⟨some (false, 16), .load 1 false (.l 15), none, []⟩,
   ⟨some (false, 17), .bin .lss (.l 16) (.c (.int .i64 0)), none, []⟩,
   ⟨some (false, 18), .mv (.l 17), none, []⟩,
   ⟨some (false, 19), .mv (.g 1), some (false, 18, false), []⟩,
   ⟨some (false, 20), .bin .gtr (.l 19) (.c (.int .i64 40)), some (false, 18, false), []⟩,
   ⟨some (true, 21), .pick (.l 18) (.c (.bool true)) (.l 20), none, []⟩]
def a95r3 : List AOper :=
  [⟨some (true, 6), .mv (.c (.bool false)), none, []⟩]
def a95r4 : List AOper :=
  [⟨some (false, 22), .fieldAddr 0 (.g 3), none, []⟩,
   ⟨some (false, 23), .load 1 false (.l 22), none, []⟩,
   ⟨some (false, 24), .bin .lss (.l 23) (.c (.int .i64 1)), none, []⟩,
   ⟨some (false, 25), .mv (.l 24), none, []⟩,
   ⟨some (false, 26), .fieldAddr 0 (.g 3), some (false, 25, false), []⟩,
   ⟨some (false, 27), .load 1 false (.l 26), some (false, 25, false), []⟩,
   ⟨some (false, 28), .bin .gtr (.l 27) (.c (.int .i64 7)), some (false, 25, false), []⟩,
   ⟨some (false, 29), .pick (.l 25) (.c (.bool true)) (.l 28), none, []⟩,
   ⟨some (false, 30), .mv (.l 29), none, []⟩,
   ⟨some (false, 31), .fieldAddr 3 (.g 3), some (false, 30, false), []⟩,
   ⟨some (false, 32), .load 1 false (.l 31), some (false, 30, false), []⟩,
   ⟨some (false, 33), .len (.l 32), some (false, 30, false), []⟩,
   ⟨some (false, 34), .fieldAddr 0 (.g 3), some (false, 30, false), []⟩,
   ⟨some (false, 35), .load 1 false (.l 34), some (false, 30, false), []⟩,
   ⟨some (false, 36), .call true (.c (.fn 124 [] [])) [(.l 35)], some (false, 30, false), []⟩,
   ⟨some (false, 37), .bin .neq (.l 33) (.l 36), some (false, 30, false), []⟩,
   ⟨some (true, 38), .pick (.l 30) (.c (.bool true)) (.l 37), none, []⟩]
def a95r5 : List AOper :=
  [⟨some (true, 6), .mv (.c (.bool false)), none, []⟩]
def a95r6 : List AOper :=
  [⟨some (false, 39), .fieldAddr 1 (.g 3), none, []⟩,
   ⟨some (false, 40), .load 1 false (.l 39), none, []⟩,
   ⟨some (false, 41), .bin .lss (.l 40) (.c (.int .i64 0)), none, []⟩,
   ⟨some (false, 42), .mv (.l 41), none, []⟩,
   ⟨some (false, 43), .fieldAddr 1 (.g 3), some (false, 42, false), []⟩,
   ⟨some (false, 44), .load 1 false (.l 43), some (false, 42, false), []⟩,
   ⟨some (false, 45), .bin .gtr (.l 44) (.c (.int .i64 9999)), some (false, 42, false), []⟩,
   ⟨some (false, 46), .pick (.l 42) (.c (.bool true)) (.l 45), none, []⟩,
   ⟨some (false, 47), .mv (.l 46), none, []⟩,
   ⟨some (false, 48), .fieldAddr 1 (.g 3), some (false, 47, false), []⟩,
   ⟨some (false, 49), .load 1 false (.l 48), some (false, 47, false), []⟩,
   ⟨some (false, 50), .bin .neq (.l 49) (.c (.int .i64 0)), some (false, 47, false), []⟩,
   ⟨some (false, 51), .mv (.l 50), some (false, 47, false), []⟩,
   ⟨some (false, 52), .fieldAddr 0 (.g 3), some (false, 51, true), []⟩,
   ⟨some (false, 53), .load 1 false (.l 52), some (false, 51, true), []⟩,
   ⟨some (false, 54), .call false (.c (.fn 125 [] [])) [(.l 53)], some (false, 51, true), []⟩,
   ⟨some (false, 55), .un .not (.l 54), some (false, 51, true), []⟩,
   ⟨some (false, 56), .pick (.l 51) (.l 55) (.c (.bool false)), some (false, 47, false), []⟩,
   ⟨some (true, 57), .pick (.l 47) (.c (.bool true)) (.l 56), none, []⟩]
def a95r7 : List AOper :=
  [⟨some (true, 6), .mv (.c (.bool false)), none, []⟩]
def a95r8 : List AOper :=
  [⟨some (false, 58), .fieldAddr 0 (.g 3), none, []⟩,
   ⟨some (false, 59), .load 1 false (.l 58), none, []⟩,
   ⟨some (false, 60), .bin .eql (.l 59) (.c (.int .i64 2)), none, []⟩,
   ⟨some (false, 61), .fieldAddr 2 (.g 3), none, []⟩,
   ⟨some (false, 62), .load 1 false (.l 61), none, []⟩,
   ⟨some (false, 63), .bin .neq (.l 62) (.c (.str ⟨#[]⟩)), none, []⟩,
   ⟨some (false, 64), .eqb true (.l 60) (.l 63), none, []⟩,
   ⟨some (false, 65), .mv (.l 64), none, []⟩,
   ⟨some (false, 66), .fieldAddr 2 (.g 3), some (false, 65, false), []⟩,
   ⟨some (false, 67), .load 1 false (.l 66), some (false, 65, false), []⟩,
   ⟨some (false, 68), .lenStr (.l 67), some (false, 65, false), []⟩,
   ⟨some (false, 69), .bin .gtr (.l 68) (.c (.int .i64 40)), some (false, 65, false), []⟩,
   ⟨some (true, 70), .pick (.l 65) (.c (.bool true)) (.l 69), none, []⟩]
def a95r9 : List AOper :=
  [⟨some (true, 6), .mv (.c (.bool false)), none, []⟩]
def a95r10 : List AOper :=
  [⟨some (false, 71), .fieldAddr 3 (.g 3), none, []⟩,
   ⟨some (true, 72), .load 1 false (.l 71), none, []⟩,
   ⟨some (true, 73), .len (.g 72), none, []⟩,
   ⟨some (true, 74), .mv (.c (.int .i64 0)), none, []⟩]
def a95r11 : List AOper :=
  [⟨some (true, 75), .bin .lss (.g 74) (.g 73), none, []⟩]
def a95r12 : List AOper :=
  [⟨some (false, 76), .indexAddr 4 (.g 72) (.g 74), none, []⟩,
   ⟨some (false, 77), .load 4 true (.l 76), none, []⟩,
   ⟨some (true, 8), .alloc [(.int .i64 0), (.int .i64 0), (.str ⟨#[]⟩), (.list 0 .full [])], none, []⟩,
   ⟨none, .store 4 (.g 8) (.l 77), none, []⟩]
def a95r13 : List AOper :=
  [⟨some (false, 78), .load 4 true (.g 8), none, []⟩,
   ⟨some (false, 79), .mv (.g 1), none, []⟩,
   ⟨some (false, 80), .bin .add (.l 79) (.c (.int .i64 1)), none, []⟩,
   ⟨some (false, 81), .mv (.g 2), none, []⟩,
   ⟨some (false, 82), .call false (.c (.fn 95 [] [])) [(.l 78), (.l 80), (.l 81)], none, []⟩,
   ⟨some (true, 83), .un .not (.l 82), none, []⟩]
def a95r14 : List AOper :=
  [⟨some (true, 6), .mv (.c (.bool false)), none, []⟩]
def a95r15 : List AOper :=
  [⟨some (false, 84), .bin .add (.g 74) (.c (.int .i64 1)), none, []⟩,
   ⟨some (true, 74), .mv (.l 84), none, []⟩]
def a95l16 : ACode :=
  (.seq (.reg false a95r11) (.seq (.cond (.g 75) .skip (.exit 0)) (.seq (.block 1 (.seq (.reg false a95r12) (.seq (.reg false a95r13) (.cond (.g 83) (.seq (.reg false a95r14) .ret) .skip)))) (.reg false a95r15))))
def a95r17 : List AOper :=
  [⟨some (true, 6), .mv (.c (.bool true)), none, []⟩]
def a95b : ACode :=
  (.seq (.reg false a95r0) (.seq (.seq (.reg false a95r1) (.seq (.reg false a95r2) (.cond (.g 21) (.seq (.reg false a95r3) .ret) .skip))) (.seq (.seq (.reg true a95r4) (.cond (.g 38) (.seq (.reg false a95r5) .ret) .skip)) (.seq (.seq (.reg false a95r6) (.cond (.g 57) (.seq (.reg false a95r7) .ret) .skip)) (.seq (.seq (.reg false a95r8) (.cond (.g 70) (.seq (.reg false a95r9) .ret) .skip)) (.seq (.seq (.reg false a95r10) (.block 0 (.loop a95l16))) (.seq (.reg false a95r17) .ret)))))))
def a95 : AFun := ⟨3, 85, a95b, [.tmp (true, 6)]⟩
theorem c95 : compileFun Try.prog [0, 1, 2, 3, 6, 8, 21, 38, 57, 70, 72, 73, 74, 75, 83] Try.f95 = some a95 := by kernel_rfl

/- damask/types.areProper -/
def a54r0 : List AOper :=
  [⟨some (true, 2), .mv (.c (.bool false)), none, []⟩]
def a54r1 : List AOper :=
  [⟨some (false, 3), .mv (.g 0), none, []⟩,
   ⟨some (false, 4), .len (.l 3), none, []⟩,
   ⟨some (false, 5), .bin .leq (.l 4) (.c (.int .i64 600)), none, []⟩,
   ⟨some (false, 6), .mv (.l 5), none, []⟩,
   ⟨some (false, 7), .mv (.g 0), some (false, 6, true), []⟩,
   ⟨some (false, 8), .call false (.c (.fn 96 [] [])) [(.l 7), (.c (.fn 97 [] []))], some (false, 6, true), []⟩,
   ⟨some (false, 9), .un .not (.l 8), some (false, 6, true), []⟩,
   ⟨some (false, 10), .pick (.l 6) (.l 9) (.c (.bool false)), none, []⟩,
   ⟨some (true, 2), .mv (.l 10), none, []⟩]
def a54b : ACode :=
  (.seq (.reg false a54r0) (.seq (.reg false a54r1) .ret))
def a54 : AFun := ⟨1, 11, a54b, [.tmp (true, 2)]⟩
theorem c54 : compileFun Try.prog [0, 2] Try.f54 = some a54 := by kernel_rfl

/- slices.ContainsFunc[[]damask/api.Type,damask/api.Type] -/
def a96r0 : List AOper :=
  [⟨some (true, 4), .mv (.c (.bool false)), none, []⟩]
def a96r1 : List AOper :=
  [⟨some (false, 5), .mv (.g 0), none, []⟩,
   ⟨some (false, 6), .mv (.g 1), none, []⟩,
   ⟨some (false, 7), .call false (.c (.fn 126 [] [])) [(.l 5), (.l 6)], none, []⟩,
   ⟨some (false, 8), .bin .geq (.l 7) (.c (.int .i64 0)), none, []⟩,
   ⟨some (true, 4), .mv (.l 8), none, []⟩]
def a96b : ACode :=
  (.seq (.reg false a96r0) (.seq (.reg false a96r1) .ret))
def a96 : AFun := ⟨2, 9, a96b, [.tmp (true, 4)]⟩
theorem c96 : compileFun Try.prog [0, 1, 4] Try.f96 = some a96 := by kernel_rfl

/- damask/types.areProper$1 -/
def a97r0 : List AOper :=
  [⟨some (true, 1), .box (.g 0), none, []⟩,
   ⟨some (true, 2), .mv (.c (.bool false)), none, []⟩]
def a97r1 : List AOper :=
  [⟨some (false, 3), .load 4 true (.g 1), none, []⟩,
   ⟨some (false, 4), .call false (.c (.fn 53 [] [])) [(.l 3)], none, []⟩,
   ⟨some (false, 5), .un .not (.l 4), none, []⟩,
   ⟨some (true, 2), .mv (.l 5), none, []⟩]
def a97b : ACode :=
  (.seq (.reg false a97r0) (.seq (.reg false a97r1) .ret))
def a97 : AFun := ⟨1, 6, a97b, [.tmp (true, 2)]⟩
theorem c97 : compileFun Try.prog [0, 1, 2] Try.f97 = some a97 := by kernel_rfl

/- slices.IndexFunc[[]damask/api.Type,damask/api.Type] -/
def a126r0 : List AOper :=
  [⟨some (true, 4), .mv (.c (.int .i64 0)), none, []⟩]
def a126r1 : List AOper :=
  [⟨some (false, 6), .mv (.g 0), none, []⟩,
   ⟨some (true, 7), .len (.l 6), none, []⟩,
   ⟨some (true, 8), .mv (.c (.int .i64 0)), none, []⟩]
def a126r2 : List AOper :=
  [⟨some (true, 9), .bin .lss (.g 8) (.g 7), none, []⟩]
def a126r3 : List AOper :=
  [⟨some (false, 10), .mv (.g 8), none, []⟩,
   ⟨some (true, 5), .mv (.l 10), none, []⟩]
def a126r4 : List AOper :=
  [⟨some (false, 11), .mv (.g 1), none, []⟩,
   ⟨some (false, 12), .mv (.g 0), none, []⟩,
   ⟨some (false, 13), .mv (.g 5), none, []⟩,
   ⟨some (false, 14), .indexAddr 4 (.l 12) (.l 13), none, []⟩,
   ⟨some (false, 15), .load 4 true (.l 14), none, []⟩,
   ⟨some (true, 16), .call false (.l 11) [(.l 15)], none, []⟩]
def a126r5 : List AOper :=
  [⟨some (false, 17), .mv (.g 5), none, []⟩,
   ⟨some (true, 4), .mv (.l 17), none, []⟩]
def a126r6 : List AOper :=
  [⟨some (false, 18), .bin .add (.g 8) (.c (.int .i64 1)), none, []⟩,
   ⟨some (true, 8), .mv (.l 18), none, []⟩]
def a126l7 : ACode :=
  (.seq (.reg false a126r2) (.seq (.cond (.g 9) .skip (.exit 0)) (.seq (.block 1 (.seq (.reg false a126r3) (.seq (.reg false a126r4) (.cond (.g 16) (.seq (.reg false a126r5) .ret) .skip)))) (.reg false a126r6))))
def a126r8 : List AOper :=
  [⟨some (true, 4), .mv (.c (.int .i64 (-1))), none, []⟩]
def a126b : ACode :=
  (.seq (.reg false a126r0) (.seq (.seq (.reg false a126r1) (.block 0 (.loop a126l7))) (.seq (.reg false a126r8) .ret)))
def a126 : AFun := ⟨2, 19, a126b, [.tmp (true, 4)]⟩
theorem c126 : compileFun Try.prog [0, 1, 4, 5, 7, 8, 9, 16] Try.f126 = some a126 := by kernel_rfl

/- damask/types.proper -/
def a55r0 : List AOper :=
  [⟨some (true, 1), .box (.g 0), none, []⟩,
   ⟨some (true, 2), .alloc [(.int .i64 0), (.int .i64 0), (.str ⟨#[]⟩), (.list 0 .full [])], none, []⟩,
   ⟨some (true, 3), .mv (.c (.int .i64 0)), none, []⟩]
def a55r1 : List AOper :=
  [⟨some (false, 4), .load 4 true (.g 1), none, []⟩,
   ⟨some (false, 5), .call false (.c (.fn 53 [] [])) [(.l 4)], none, []⟩,
   ⟨some (true, 6), .un .not (.l 5), none, []⟩]
def a55r2 : List AOper :=
  [⟨some (false, 7), .build [(.int .i64 0), (.int .i64 0), (.str ⟨#[]⟩), (.list 0 .full [])] [], none, []⟩,
   ⟨none, .store 4 (.g 2) (.l 7), none, []⟩,
   ⟨some (true, 3), .mv (.c (.int .i64 5)), none, []⟩]
def a55r3 : List AOper :=
  [⟨some (false, 8), .load 4 true (.g 1), none, []⟩,
   ⟨none, .store 4 (.g 2) (.l 8), none, []⟩,
   ⟨some (true, 3), .mv (.c (.int .i64 0)), none, []⟩]
def a55b : ACode :=
  (.seq (.reg false a55r0) (.seq (.seq (.reg false a55r1) (.cond (.g 6) (.seq (.reg false a55r2) .ret) .skip)) (.seq (.reg false a55r3) .ret)))
def a55 : AFun := ⟨1, 9, a55b, [.cell (true, 2) 4 true, .tmp (true, 3)]⟩
theorem c55 : compileFun Try.prog [0, 1, 2, 3, 6] Try.f55 = some a55 := by kernel_rfl

/- damask/types.Putted -/
def a56r0 : List AOper :=
  [⟨some (true, 2), .box (.g 0), none, []⟩,
   ⟨some (true, 3), .box (.g 1), none, []⟩,
   ⟨some (true, 4), .alloc [(.int .i64 0), (.int .i64 0), (.str ⟨#[]⟩), (.list 0 .full [])], none, []⟩]
def a56r1 : List AOper :=
  [⟨some (false, 6), .load 1 false (.g 3), none, []⟩,
   ⟨some (false, 7), .len (.l 6), none, []⟩,
   ⟨some (true, 5), .alloc [(.int .i64 0)], none, []⟩,
   ⟨none, .store 1 (.g 5) (.l 7), none, []⟩]
def a56r2 : List AOper :=
  [⟨some (false, 8), .load 4 true (.g 2), none, []⟩,
   ⟨some (false, 9), .mkfn 99 [] [(.g 5), (.g 3)], none, []⟩,
   ⟨some (false, 10), .call false (.c (.fn 98 [] [])) [(.l 8), (.c (.int .i64 0)), (.l 9)], none, []⟩,
   ⟨none, .store 4 (.g 4) (.l 10), none, []⟩]
def a56b : ACode :=
  (.seq (.seq (.reg false a56r0) (.frz 3)) (.seq (.seq (.reg false a56r1) (.frz 5)) (.seq (.reg false a56r2) .ret)))
def a56 : AFun := ⟨2, 11, a56b, [.cell (true, 4) 4 true]⟩
theorem c56 : compileFun Try.prog [0, 1, 2, 3, 4, 5, 1000000000003, 2000000000005] Try.f56 = some a56 := by kernel_rfl

/- damask/types.Putted$1 -/
def a99r0 : List AOper :=
  [⟨some (true, 4), .box (.g 0), none, []⟩,
   ⟨some (true, 6), .alloc [(.int .i64 0), (.int .i64 0), (.str ⟨#[]⟩), (.list 0 .full [])], none, []⟩,
   ⟨some (true, 7), .mv (.c (.bool false)), none, []⟩]
def a99r1 : List AOper :=
  [⟨some (false, 9), .fieldAddr 1 (.g 4), none, []⟩,
   ⟨some (false, 10), .load 1 false (.l 9), none, []⟩,
   ⟨some (false, 11), .mv (.g 1), none, []⟩,
   ⟨some (false, 12), .bin .sub (.l 10) (.l 11), none, []⟩,
   ⟨some (true, 8), .mv (.l 12), none, []⟩]
def a99r2 : List AOper :=
  [⟨some (false, 14), .fieldAddr 0 (.g 4), none, []⟩,
   ⟨some (false, 15), .load 1 false (.l 14), none, []⟩,
   ⟨some (false, 16), .bin .neq (.l 15) (.c (.int .i64 1)), none, []⟩,
   ⟨some (true, 13), .mv (.l 16), none, []⟩]
def a99r3 : List AOper :=
  [⟨some (false, 17), .load 4 true (.g 4), none, []⟩,
   ⟨none, .store 4 (.g 6) (.l 17), none, []⟩,
   ⟨some (true, 7), .mv (.c (.bool false)), none, []⟩]
def a99r4 : List AOper :=
  [⟨some (false, 19), .mv (.g 8), none, []⟩,
   ⟨some (false, 20), .bin .lss (.l 19) (.c (.int .i64 0)), none, []⟩,
   ⟨some (true, 18), .mv (.l 20), none, []⟩]
def a99r5 : List AOper :=
  [⟨some (false, 21), .load 4 true (.g 4), none, []⟩,
   ⟨none, .store 4 (.g 6) (.l 21), none, []⟩,
   ⟨some (true, 7), .mv (.c (.bool true)), none, []⟩]
def a99r6 : List AOper :=
  [⟨some (false, 23), .mv (.g 8), none, []⟩,
   ⟨some (false, 24), .load 1 false (.g 2), none, []⟩,
   ⟨some (false, 25), .bin .lss (.l 23) (.l 24), none, []⟩,
   ⟨some (true, 22), .mv (.l 25), none, []⟩]
def a99r7 : List AOper :=
  [⟨some (false, 26), .load 1 false (.g 3), none, []⟩,
   ⟨some (false, 27), .load 1 false (.g 2), none, []⟩,
   ⟨some (false, 28), .bin .sub (.l 27) (.c (.int .i64 1)), none, []⟩,
   ⟨some (false, 29), .mv (.g 8), none, []⟩,
   ⟨some (false, 30), .bin .sub (.l 28) (.l 29), none, []⟩,
   ⟨some (false, 31), .indexAddr 4 (.l 26) (.l 30), none, []⟩,
   ⟨some (false, 32), .load 4 true (.l 31), none, []⟩,
   ⟨some (false, 33), .mv (.g 1), none, []⟩,
   ⟨some (false, 34), .call false (.c (.fn 63 [] [])) [(.l 32), (.l 33), (.c (.int .i64 0))], none, []⟩,
   ⟨none, .store 4 (.g 6) (.l 34), none, []⟩,
   ⟨some (true, 7), .mv (.c (.bool true)), none, []⟩]
def a99r8 : List AOper :=
  [⟨some (false, 35), .fieldAddr 1 (.g 4), none, []⟩,
   ⟨some (false, 36), .load 1 false (.l 35), none, []⟩,
   ⟨some (false, 37), .load 1 false (.g 2), none, []⟩,
   ⟨some (false, 38), .bin .sub (.l 36) (.l 37), none, []⟩,
   ⟨some (false, 39), .build [(.int .i64 0), (.int .i64 0), (.str ⟨#[]⟩), (.list 0 .full [])] [(0, 1, (.c (.int .i64 1))), (1, 1, (.l 38))], none, []⟩,
   ⟨none, .store 4 (.g 6) (.l 39), none, []⟩,
   ⟨some (true, 7), .mv (.c (.bool true)), none, []⟩]
def a99b : ACode :=
  (.seq (.reg false a99r0) (.seq (.seq (.reg false a99r1) (.block 0 (.seq (.reg false a99r2) (.cond (.g 13) (.seq (.reg false a99r3) .ret) (.seq (.reg false a99r4) (.cond (.g 18) (.seq (.reg false a99r5) .ret) (.seq (.reg false a99r6) (.cond (.g 22) (.seq (.reg false a99r7) .ret) .skip)))))))) (.seq (.reg false a99r8) .ret)))
def a99 : AFun := ⟨4, 40, a99b, [.cell (true, 6) 4 true, .tmp (true, 7)]⟩
theorem c99 : compileFun Try.prog [0, 1, 2, 3, 4, 6, 7, 8, 13, 18, 22] Try.f99 = some a99 := by kernel_rfl

/- damask/types.Map -/
def a98r0 : List AOper :=
  [⟨some (true, 3), .box (.g 0), none, []⟩,
   ⟨some (true, 6), .alloc [(.int .i64 0), (.int .i64 0), (.str ⟨#[]⟩), (.list 0 .full [])], none, []⟩]
def a98r1 : List AOper :=
  [⟨some (false, 13), .mv (.g 2), none, []⟩,
   ⟨some (false, 14), .load 4 true (.g 3), none, []⟩,
   ⟨some (false, 15), .mv (.g 1), none, []⟩,
   ⟨some (false, 16), .call false (.l 13) [(.l 14), (.l 15)], none, []⟩,
   ⟨some (false, 12), .mv (.l 16), none, []⟩,
   ⟨some (false, 17), .extract (.l 12) 0, none, []⟩,
   ⟨some (false, 18), .extract (.l 12) 1, none, []⟩,
   ⟨some (true, 7), .alloc [(.int .i64 0), (.int .i64 0), (.str ⟨#[]⟩), (.list 0 .full [])], none, []⟩,
   ⟨none, .store 4 (.g 7) (.l 17), none, []⟩,
   ⟨some (true, 8), .mv (.l 18), none, []⟩]
def a98r2 : List AOper :=
  [⟨some (true, 19), .mv (.g 8), none, []⟩]
def a98r3 : List AOper :=
  [⟨some (false, 20), .load 4 true (.g 7), none, []⟩,
   ⟨none, .store 4 (.g 6) (.l 20), none, []⟩]
def a98r4 : List AOper :=
  [⟨some (false, 21), .fieldAddr 0 (.g 3), none, []⟩,
   ⟨some (false, 22), .load 1 false (.l 21), none, []⟩,
   ⟨some (false, 23), .fieldAddr 1 (.g 3), none, []⟩,
   ⟨some (false, 24), .load 1 false (.l 23), none, []⟩,
   ⟨some (false, 25), .fieldAddr 2 (.g 3), none, []⟩,
   ⟨some (false, 26), .load 1 false (.l 25), none, []⟩,
   ⟨some (false, 27), .build [(.int .i64 0), (.int .i64 0), (.str ⟨#[]⟩), (.list 0 .full [])] [(0, 1, (.l 22)), (1, 1, (.l 24)), (2, 1, (.l 26))], none, []⟩,
   ⟨some (true, 9), .alloc [(.int .i64 0), (.int .i64 0), (.str ⟨#[]⟩), (.list 0 .full [])], none, []⟩,
   ⟨none, .store 4 (.g 9) (.l 27), none, []⟩]
def a98r5 : List AOper :=
  [⟨some (false, 28), .fieldAddr 3 (.g 3), none, []⟩,
   ⟨some (true, 29), .load 1 false (.l 28), none, []⟩,
   ⟨some (true, 30), .len (.g 29), none, []⟩,
   ⟨some (true, 31), .mv (.c (.int .i64 0)), none, []⟩]
def a98r6 : List AOper :=
  [⟨some (true, 32), .bin .lss (.g 31) (.g 30), none, []⟩]
def a98r7 : List AOper :=
  [⟨some (false, 33), .mv (.g 31), none, []⟩,
   ⟨some (false, 34), .indexAddr 4 (.g 29) (.g 31), none, []⟩,
   ⟨some (false, 35), .load 4 true (.l 34), none, []⟩,
   ⟨some (true, 11), .alloc [(.int .i64 0), (.int .i64 0), (.str ⟨#[]⟩), (.list 0 .full [])], none, []⟩,
   ⟨some (true, 10), .mv (.l 33), none, []⟩,
   ⟨none, .store 4 (.g 11) (.l 35), none, []⟩]
def a98r8 : List AOper :=
  [⟨some (false, 36), .fieldAddr 3 (.g 9), none, []⟩,
   ⟨some (false, 37), .load 1 false (.l 36), none, []⟩,
   ⟨some (false, 38), .load 4 true (.g 11), none, []⟩,
   ⟨some (false, 39), .mv (.g 1), none, []⟩,
   ⟨some (false, 40), .load 4 true (.g 3), none, []⟩,
   ⟨some (false, 41), .mv (.g 10), none, []⟩,
   ⟨some (false, 42), .call true (.c (.fn 105 [] [])) [(.l 40), (.l 41)], none, []⟩,
   ⟨some (false, 43), .bin .add (.l 39) (.l 42), none, []⟩,
   ⟨some (false, 44), .mv (.g 2), none, []⟩,
   ⟨some (false, 45), .call true (.c (.fn 98 [] [])) [(.l 38), (.l 43), (.l 44)], none, []⟩,
   ⟨some (false, 46), .buildSlice 4 true [(.int .i64 0), (.int .i64 0), (.str ⟨#[]⟩), (.list 0 .full [])] 1 [(0, (.l 45))], none, []⟩,
   ⟨some (false, 47), .append 4 56 (.l 37) (.l 46), none, []⟩,
   ⟨some (false, 48), .fieldAddr 3 (.g 9), none, []⟩,
   ⟨none, .store 1 (.l 48) (.l 47), none, []⟩]
def a98r9 : List AOper :=
  [⟨some (false, 49), .bin .add (.g 31) (.c (.int .i64 1)), none, []⟩,
   ⟨some (true, 31), .mv (.l 49), none, []⟩]
def a98l10 : ACode :=
  (.seq (.reg false a98r6) (.seq (.cond (.g 32) .skip (.exit 0)) (.seq (.block 1 (.seq (.reg false a98r7) (.reg true a98r8))) (.reg false a98r9))))
def a98r11 : List AOper :=
  [⟨some (false, 50), .load 4 true (.g 9), none, []⟩,
   ⟨none, .store 4 (.g 6) (.l 50), none, []⟩]
def a98b : ACode :=
  (.seq (.reg false a98r0) (.seq (.seq (.reg false a98r1) (.seq (.reg false a98r2) (.cond (.g 19) (.seq (.reg false a98r3) .ret) .skip))) (.seq (.reg false a98r4) (.seq (.seq (.reg false a98r5) (.block 0 (.loop a98l10))) (.seq (.reg false a98r11) .ret)))))
def a98 : AFun := ⟨3, 51, a98b, [.cell (true, 6) 4 true]⟩
theorem c98 : compileFun Try.prog [0, 1, 2, 3, 6, 7, 8, 9, 10, 11, 19, 29, 30, 31, 32] Try.f98 = some a98 := by kernel_rfl

/- damask/types.Moved -/
def a63r0 : List AOper :=
  [⟨some (true, 3), .box (.g 0), none, []⟩,
   ⟨some (true, 4), .box (.g 1), none, []⟩,
   ⟨some (true, 5), .box (.g 2), none, []⟩,
   ⟨some (true, 6), .alloc [(.int .i64 0), (.int .i64 0), (.str ⟨#[]⟩), (.list 0 .full [])], none, []⟩]
def a63r1 : List AOper :=
  [⟨some (false, 7), .load 4 true (.g 3), none, []⟩,
   ⟨some (false, 8), .mkfn 106 [] [(.g 5), (.g 4)], none, []⟩,
   ⟨some (false, 9), .call false (.c (.fn 98 [] [])) [(.l 7), (.c (.int .i64 0)), (.l 8)], none, []⟩,
   ⟨none, .store 4 (.g 6) (.l 9), none, []⟩]
def a63b : ACode :=
  (.seq (.seq (.seq (.reg false a63r0) (.frz 4)) (.frz 5)) (.seq (.reg false a63r1) .ret))
def a63 : AFun := ⟨3, 10, a63b, [.cell (true, 6) 4 true]⟩
theorem c63 : compileFun Try.prog [0, 1, 2, 3, 4, 5, 6, 1000000000004, 1000000000005] Try.f63 = some a63 := by kernel_rfl

/- damask/types.Moved$1 -/
def a106r0 : List AOper :=
  [⟨some (true, 4), .box (.g 0), none, []⟩,
   ⟨some (true, 6), .alloc [(.int .i64 0), (.int .i64 0), (.str ⟨#[]⟩), (.list 0 .full [])], none, []⟩,
   ⟨some (true, 7), .mv (.c (.bool false)), none, []⟩]
def a106r1 : List AOper :=
  [⟨some (false, 8), .fieldAddr 0 (.g 4), none, []⟩,
   ⟨some (false, 9), .load 1 false (.l 8), none, []⟩,
   ⟨some (false, 10), .bin .neq (.l 9) (.c (.int .i64 1)), none, []⟩,
   ⟨some (false, 11), .mv (.l 10), none, []⟩,
   ⟨some (false, 12), .fieldAddr 1 (.g 4), some (false, 11, false), []⟩,
   ⟨some (false, 13), .load 1 false (.l 12), some (false, 11, false), []⟩,
   ⟨some (false, 14), .mv (.g 1), some (false, 11, false), []⟩,
   ⟨some (false, 15), .load 1 false (.g 2), some (false, 11, false), []⟩,
   ⟨some (false, 16), .bin .add (.l 14) (.l 15), some (false, 11, false), []⟩,
   ⟨some (false, 17), .bin .lss (.l 13) (.l 16), some (false, 11, false), []⟩,
   ⟨some (true, 18), .pick (.l 11) (.c (.bool true)) (.l 17), none, []⟩]
def a106r2 : List AOper :=
  [⟨some (false, 19), .load 4 true (.g 4), none, []⟩,
   ⟨some (false, 20), .fieldAddr 0 (.g 4), none, []⟩,
   ⟨some (false, 21), .load 1 false (.l 20), none, []⟩,
   ⟨some (false, 22), .bin .eql (.l 21) (.c (.int .i64 1)), none, []⟩,
   ⟨none, .store 4 (.g 6) (.l 19), none, [2]⟩,
   ⟨some (true, 7), .mv (.l 22), none, []⟩]
def a106r3 : List AOper :=
  [⟨some (false, 23), .fieldAddr 1 (.g 4), none, []⟩,
   ⟨some (false, 24), .load 1 false (.l 23), none, []⟩,
   ⟨some (false, 25), .load 1 false (.g 3), none, []⟩,
   ⟨some (false, 26), .bin .add (.l 24) (.l 25), none, []⟩,
   ⟨some (false, 27), .build [(.int .i64 0), (.int .i64 0), (.str ⟨#[]⟩), (.list 0 .full [])] [(0, 1, (.c (.int .i64 1))), (1, 1, (.l 26))], none, []⟩,
   ⟨none, .store 4 (.g 6) (.l 27), none, []⟩,
   ⟨some (true, 7), .mv (.c (.bool true)), none, []⟩]
def a106b : ACode :=
  (.seq (.reg false a106r0) (.seq (.seq (.reg false a106r1) (.cond (.g 18) (.seq (.reg true a106r2) .ret) .skip)) (.seq (.reg false a106r3) .ret)))
def a106 : AFun := ⟨4, 28, a106b, [.cell (true, 6) 4 true, .tmp (true, 7)]⟩
theorem c106 : compileFun Try.prog [0, 1, 2, 3, 4, 6, 7, 18] Try.f106 = some a106 := by kernel_rfl

/- damask/types.Copy -/
def a69r0 : List AOper :=
  [⟨some (true, 1), .box (.g 0), none, []⟩,
   ⟨some (true, 2), .alloc [(.int .i64 0), (.int .i64 0), (.str ⟨#[]⟩), (.list 0 .full [])], none, []⟩]
def a69r1 : List AOper :=
  [⟨some (false, 3), .load 4 true (.g 1), none, []⟩,
   ⟨some (false, 4), .call false (.c (.fn 98 [] [])) [(.l 3), (.c (.int .i64 0)), (.c (.fn 111 [] []))], none, []⟩,
   ⟨none, .store 4 (.g 2) (.l 4), none, []⟩]
def a69b : ACode :=
  (.seq (.reg false a69r0) (.seq (.reg false a69r1) .ret))
def a69 : AFun := ⟨1, 5, a69b, [.cell (true, 2) 4 true]⟩
theorem c69 : compileFun Try.prog [0, 1, 2] Try.f69 = some a69 := by kernel_rfl

/- damask/types.Copy$1 -/
def a111r0 : List AOper :=
  [⟨some (false, 2), .box (.g 0), none, []⟩,
   ⟨some (true, 4), .alloc [(.int .i64 0), (.int .i64 0), (.str ⟨#[]⟩), (.list 0 .full [])], none, []⟩,
   ⟨some (true, 5), .mv (.c (.bool false)), none, []⟩]
def a111r1 : List AOper :=
  [⟨some (false, 6), .build [(.int .i64 0), (.int .i64 0), (.str ⟨#[]⟩), (.list 0 .full [])] [], none, []⟩,
   ⟨none, .store 4 (.g 4) (.l 6), none, []⟩,
   ⟨some (true, 5), .mv (.c (.bool false)), none, []⟩]
def a111b : ACode :=
  (.seq (.reg false a111r0) (.seq (.reg false a111r1) .ret))
def a111 : AFun := ⟨2, 7, a111b, [.cell (true, 4) 4 true, .tmp (true, 5)]⟩
theorem c111 : compileFun Try.prog [0, 1, 4, 5] Try.f111 = some a111 := by kernel_rfl

/- damask/types.Put -/
def a12r0 : List AOper :=
  [⟨some (true, 2), .box (.g 0), none, []⟩,
   ⟨some (true, 4), .alloc [(.int .i64 0), (.int .i64 0), (.str ⟨#[]⟩), (.list 0 .full [])], none, []⟩,
   ⟨some (true, 5), .mv (.c (.int .i64 0)), none, []⟩]
def a12r1 : List AOper :=
  [⟨some (false, 6), .load 4 true (.g 2), none, []⟩,
   ⟨some (false, 7), .call false (.c (.fn 53 [] [])) [(.l 6)], none, []⟩,
   ⟨some (false, 8), .un .not (.l 7), none, []⟩,
   ⟨some (false, 9), .mv (.l 8), none, []⟩,
   ⟨some (false, 10), .mv (.g 1), some (false, 9, false), []⟩,
   ⟨some (false, 11), .call false (.c (.fn 54 [] [])) [(.l 10)], some (false, 9, false), []⟩,
   ⟨some (false, 12), .un .not (.l 11), some (false, 9, false), []⟩,
   ⟨some (true, 13), .pick (.l 9) (.c (.bool true)) (.l 12), none, []⟩]
def a12r2 : List AOper :=
  [⟨some (false, 14), .build [(.int .i64 0), (.int .i64 0), (.str ⟨#[]⟩), (.list 0 .full [])] [], none, []⟩,
   ⟨none, .store 4 (.g 4) (.l 14), none, []⟩,
   ⟨some (true, 5), .mv (.c (.int .i64 2)), none, []⟩]
def a12r3 : List AOper :=
  [⟨some (false, 15), .load 4 true (.g 2), none, []⟩,
   ⟨some (false, 16), .mv (.g 1), none, []⟩,
   ⟨some (false, 17), .call false (.c (.fn 56 [] [])) [(.l 15), (.l 16)], none, []⟩,
   ⟨some (false, 18), .call false (.c (.fn 55 [] [])) [(.l 17)], none, []⟩,
   ⟨some (false, 19), .extract (.l 18) 0, none, []⟩,
   ⟨some (false, 20), .extract (.l 18) 1, none, []⟩,
   ⟨none, .store 4 (.g 4) (.l 19), none, []⟩,
   ⟨some (true, 5), .mv (.l 20), none, []⟩]
def a12b : ACode :=
  (.seq (.reg false a12r0) (.seq (.seq (.reg false a12r1) (.cond (.g 13) (.seq (.reg false a12r2) .ret) .skip)) (.seq (.reg false a12r3) .ret)))
def a12 : AFun := ⟨2, 21, a12b, [.cell (true, 4) 4 true, .tmp (true, 5)]⟩
theorem c12 : compileFun Try.prog [0, 1, 2, 4, 5, 13] Try.f12 = some a12 := by kernel_rfl

/- damask/types.Under -/
def a105r0 : List AOper :=
  [⟨some (true, 2), .box (.g 0), none, []⟩,
   ⟨some (true, 4), .mv (.c (.int .i64 0)), none, []⟩]
def a105r1 : List AOper :=
  [⟨some (false, 5), .fieldAddr 0 (.g 2), none, []⟩,
   ⟨some (false, 6), .load 1 false (.l 5), none, []⟩,
   ⟨some (false, 7), .bin .eql (.l 6) (.c (.int .i64 4)), none, []⟩,
   ⟨some (false, 8), .mv (.l 7), none, []⟩,
   ⟨some (false, 9), .mv (.g 1), some (false, 8, true), []⟩,
   ⟨some (false, 10), .bin .eql (.l 9) (.c (.int .i64 1)), some (false, 8, true), []⟩,
   ⟨some (true, 11), .pick (.l 8) (.l 10) (.c (.bool false)), none, []⟩]
def a105r2 : List AOper :=
  [⟨some (true, 4), .mv (.c (.int .i64 1)), none, []⟩]
def a105r3 : List AOper :=
  [⟨some (true, 4), .mv (.c (.int .i64 0)), none, []⟩]
def a105b : ACode :=
  (.seq (.reg false a105r0) (.seq (.seq (.reg false a105r1) (.cond (.g 11) (.seq (.reg false a105r2) .ret) .skip)) (.seq (.reg false a105r3) .ret)))
def a105 : AFun := ⟨2, 12, a105b, [.tmp (true, 4)]⟩
theorem c105 : compileFun Try.prog [0, 1, 2, 4, 11] Try.f105 = some a105 := by kernel_rfl

/- damask/types.children -/
def a124r0 : List AOper :=
  [⟨some (true, 2), .mv (.c (.int .i64 0)), none, []⟩]
def a124r1 : List AOper :=
  [⟨some (false, 3), .mv (.g 0), none, []⟩,
   ⟨some (false, 4), .bin .eql (.l 3) (.c (.int .i64 3)), none, []⟩,
   ⟨some (false, 5), .mv (.l 4), none, []⟩,
   ⟨some (false, 6), .mv (.g 0), some (false, 5, false), []⟩,
   ⟨some (false, 7), .bin .eql (.l 6) (.c (.int .i64 4)), some (false, 5, false), []⟩,
   ⟨some (false, 8), .pick (.l 5) (.c (.bool true)) (.l 7), none, []⟩,
   ⟨some (false, 9), .mv (.l 8), none, []⟩,
   ⟨some (false, 10), .mv (.g 0), some (false, 9, false), []⟩,
   ⟨some (false, 11), .bin .eql (.l 10) (.c (.int .i64 5)), some (false, 9, false), []⟩,
   ⟨some (true, 12), .pick (.l 9) (.c (.bool true)) (.l 11), none, []⟩]
def a124r2 : List AOper :=
  [⟨some (true, 2), .mv (.c (.int .i64 2)), none, []⟩]
def a124r3 : List AOper :=
  [⟨some (true, 2), .mv (.c (.int .i64 0)), none, []⟩]
def a124b : ACode :=
  (.seq (.reg false a124r0) (.seq (.seq (.reg false a124r1) (.cond (.g 12) (.seq (.reg false a124r2) .ret) .skip)) (.seq (.reg false a124r3) .ret)))
def a124 : AFun := ⟨1, 13, a124b, [.tmp (true, 2)]⟩
theorem c124 : compileFun Try.prog [0, 2, 12] Try.f124 = some a124 := by kernel_rfl

/- damask/types.numbered -/
def a125r0 : List AOper :=
  [⟨some (true, 2), .mv (.c (.bool false)), none, []⟩]
def a125r1 : List AOper :=
  [⟨some (false, 3), .mv (.g 0), none, []⟩,
   ⟨some (false, 4), .bin .eql (.l 3) (.c (.int .i64 1)), none, []⟩,
   ⟨some (false, 5), .mv (.l 4), none, []⟩,
   ⟨some (false, 6), .mv (.g 0), some (false, 5, false), []⟩,
   ⟨some (false, 7), .bin .eql (.l 6) (.c (.int .i64 6)), some (false, 5, false), []⟩,
   ⟨some (false, 8), .pick (.l 5) (.c (.bool true)) (.l 7), none, []⟩,
   ⟨some (false, 9), .mv (.l 8), none, []⟩,
   ⟨some (false, 10), .mv (.g 0), some (false, 9, false), []⟩,
   ⟨some (false, 11), .bin .eql (.l 10) (.c (.int .i64 7)), some (false, 9, false), []⟩,
   ⟨some (false, 12), .pick (.l 9) (.c (.bool true)) (.l 11), none, []⟩,
   ⟨some (true, 2), .mv (.l 12), none, []⟩]
def a125b : ACode :=
  (.seq (.reg false a125r0) (.seq (.reg false a125r1) .ret))
def a125 : AFun := ⟨1, 13, a125b, [.tmp (true, 2)]⟩
theorem c125 : compileFun Try.prog [0, 2] Try.f125 = some a125 := by kernel_rfl

/- damask/types.Walk -/
def a61r0 : List AOper :=
  [⟨some (true, 2), .box (.g 0), none, []⟩,
   ⟨some (true, 3), .box (.g 1), none, []⟩]
def a61r1 : List AOper :=
  [⟨some (true, 4), .alloc [.nilfn], none, []⟩]
def a61r2 : List AOper :=
  [⟨some (false, 5), .mkfn 104 [] [(.g 3), (.g 4)], none, []⟩,
   ⟨none, .store 1 (.g 4) (.l 5), none, []⟩]
def a61r3 : List AOper :=
  [⟨some (false, 6), .load 1 false (.g 4), none, []⟩,
   ⟨some (false, 7), .load 4 true (.g 2), none, []⟩,
   ⟨some (false, 8), .call false (.l 6) [(.l 7), (.c (.int .i64 0))], none, []⟩]
def a61b : ACode :=
  (.seq (.seq (.reg false a61r0) (.frz 3)) (.seq (.reg false a61r1) (.seq (.reg false a61r2) (.reg false a61r3))))
def a61 : AFun := ⟨2, 9, a61b, []⟩
theorem c61 : compileFun Try.prog [0, 1, 2, 3, 4, 1000000000003] Try.f61 = some a61 := by kernel_rfl

/- damask/types.Walk$1 -/
def a104r0 : List AOper :=
  [⟨some (true, 4), .box (.g 0), none, []⟩]
def a104r1 : List AOper :=
  [⟨some (false, 8), .load 1 false (.g 2), none, []⟩,
   ⟨some (false, 9), .load 4 true (.g 4), none, []⟩,
   ⟨some (false, 10), .mv (.g 1), none, []⟩,
   ⟨some (true, 11), .call false (.l 8) [(.l 9), (.l 10)], none, []⟩]
def a104r2 : List AOper :=
  [⟨some (false, 12), .fieldAddr 3 (.g 4), none, []⟩,
   ⟨some (true, 13), .load 1 false (.l 12), none, []⟩,
   ⟨some (true, 14), .len (.g 13), none, []⟩,
   ⟨some (true, 15), .mv (.c (.int .i64 0)), none, []⟩]
def a104r3 : List AOper :=
  [⟨some (true, 16), .bin .lss (.g 15) (.g 14), none, []⟩]
def a104r4 : List AOper :=
  [⟨some (false, 17), .mv (.g 15), none, []⟩,
   ⟨some (false, 18), .indexAddr 4 (.g 13) (.g 15), none, []⟩,
   ⟨some (false, 19), .load 4 true (.l 18), none, []⟩,
   ⟨some (true, 7), .alloc [(.int .i64 0), (.int .i64 0), (.str ⟨#[]⟩), (.list 0 .full [])], none, []⟩,
   ⟨some (true, 6), .mv (.l 17), none, []⟩,
   ⟨none, .store 4 (.g 7) (.l 19), none, []⟩]
def a104r5 : List AOper :=
  [⟨some (false, 20), .load 1 false (.g 3), none, []⟩,
   ⟨some (false, 21), .load 4 true (.g 7), none, []⟩,
   ⟨some (false, 22), .mv (.g 1), none, []⟩,
   ⟨some (false, 23), .load 4 true (.g 4), none, []⟩,
   ⟨some (false, 24), .mv (.g 6), none, []⟩,
   ⟨some (false, 25), .call true (.c (.fn 105 [] [])) [(.l 23), (.l 24)], none, []⟩,
   ⟨some (false, 26), .bin .add (.l 22) (.l 25), none, []⟩]
def a104s5 : List AOper :=
  [⟨some (false, 27), .call false (.l 20) [(.l 21), (.l 26)], none, []⟩]
def a104r6 : List AOper :=
  [⟨some (false, 28), .bin .add (.g 15) (.c (.int .i64 1)), none, []⟩,
   ⟨some (true, 15), .mv (.l 28), none, []⟩]
def a104l7 : ACode :=
  (.seq (.reg false a104r3) (.seq (.cond (.g 16) .skip (.exit 0)) (.seq (.block 1 (.seq (.reg false a104r4) (.reg2 a104r5 a104s5))) (.reg false a104r6))))
def a104b : ACode :=
  (.seq (.reg false a104r0) (.seq (.reg false a104r1) (.cond (.g 11) (.seq (.reg false a104r2) (.block 0 (.loop a104l7))) .skip)))
def a104 : AFun := ⟨4, 29, a104b, []⟩
theorem c104 : compileFun Try.prog [0, 1, 2, 3, 4, 6, 7, 11, 13, 14, 15, 16, 6000000999999] Try.f104 = some a104 := by kernel_rfl

/- damask/types.Shift$1 -/
def a62r0 : List AOper :=
  [⟨some (true, 5), .box (.g 0), none, []⟩,
   ⟨some (true, 7), .mv (.c (.bool false)), none, []⟩]
def a62r1 : List AOper :=
  [⟨some (false, 9), .fieldAddr 1 (.g 5), none, []⟩,
   ⟨some (false, 10), .load 1 false (.l 9), none, []⟩,
   ⟨some (false, 11), .mv (.g 1), none, []⟩,
   ⟨some (false, 12), .bin .sub (.l 10) (.l 11), none, []⟩,
   ⟨some (true, 8), .mv (.l 12), none, []⟩]
def a62r2 : List AOper :=
  [⟨some (false, 13), .load 1 false (.g 2), none, []⟩,
   ⟨some (false, 14), .mv (.l 13), none, []⟩,
   ⟨some (false, 15), .fieldAddr 0 (.g 5), some (false, 14, false), []⟩,
   ⟨some (false, 16), .load 1 false (.l 15), some (false, 14, false), []⟩,
   ⟨some (false, 17), .bin .eql (.l 16) (.c (.int .i64 1)), some (false, 14, false), []⟩,
   ⟨some (false, 18), .mv (.l 17), some (false, 14, false), []⟩,
   ⟨some (false, 19), .mv (.g 8), some (false, 18, true), []⟩,
   ⟨some (false, 20), .load 1 false (.g 3), some (false, 18, true), []⟩,
   ⟨some (false, 21), .bin .geq (.l 19) (.l 20), some (false, 18, true), []⟩,
   ⟨some (false, 22), .pick (.l 18) (.l 21) (.c (.bool false)), some (false, 14, false), []⟩,
   ⟨some (false, 23), .mv (.l 22), some (false, 14, false), []⟩,
   ⟨some (false, 24), .mv (.g 8), some (false, 23, true), []⟩,
   ⟨some (false, 25), .load 1 false (.g 4), some (false, 23, true), []⟩,
   ⟨some (false, 26), .bin .add (.l 24) (.l 25), some (false, 23, true), []⟩,
   ⟨some (false, 27), .load 1 false (.g 3), some (false, 23, true), []⟩,
   ⟨some (false, 28), .bin .lss (.l 26) (.l 27), some (false, 23, true), []⟩,
   ⟨some (false, 29), .pick (.l 23) (.l 28) (.c (.bool false)), some (false, 14, false), []⟩,
   ⟨some (false, 30), .pick (.l 14) (.c (.bool true)) (.l 29), none, []⟩,
   ⟨none, .store 1 (.g 2) (.l 30), none, []⟩]
def a62r3 : List AOper :=
  [⟨some (true, 7), .mv (.c (.bool true)), none, []⟩]
def a62b : ACode :=
  (.seq (.reg false a62r0) (.seq (.reg false a62r1) (.seq (.reg false a62r2) (.seq (.reg false a62r3) .ret))))
def a62 : AFun := ⟨5, 31, a62b, [.tmp (true, 7)]⟩
theorem c62 : compileFun Try.prog [0, 1, 2, 3, 4, 5, 7, 8] Try.f62 = some a62 := by kernel_rfl

/- damask/types.Shift -/
def a19r0 : List AOper :=
  [⟨some (true, 3), .box (.g 0), none, []⟩,
   ⟨some (true, 4), .box (.g 1), none, []⟩,
   ⟨some (true, 5), .box (.g 2), none, []⟩,
   ⟨some (true, 6), .alloc [(.int .i64 0), (.int .i64 0), (.str ⟨#[]⟩), (.list 0 .full [])], none, []⟩,
   ⟨some (true, 7), .mv (.c (.int .i64 0)), none, []⟩]
def a19r1 : List AOper :=
  [⟨some (false, 9), .load 4 true (.g 3), none, []⟩,
   ⟨some (false, 10), .call false (.c (.fn 53 [] [])) [(.l 9)], none, []⟩,
   ⟨some (false, 11), .un .not (.l 10), none, []⟩,
   ⟨some (false, 12), .mv (.l 11), none, []⟩,
   ⟨some (false, 13), .load 1 false (.g 4), some (false, 12, false), []⟩,
   ⟨some (false, 14), .bin .lss (.l 13) (.c (.int .i64 (-9999))), some (false, 12, false), []⟩,
   ⟨some (false, 15), .pick (.l 12) (.c (.bool true)) (.l 14), none, []⟩,
   ⟨some (false, 16), .mv (.l 15), none, []⟩,
   ⟨some (false, 17), .load 1 false (.g 4), some (false, 16, false), []⟩,
   ⟨some (false, 18), .bin .gtr (.l 17) (.c (.int .i64 9999)), some (false, 16, false), []⟩,
   ⟨some (false, 19), .pick (.l 16) (.c (.bool true)) (.l 18), none, []⟩,
   ⟨some (false, 20), .mv (.l 19), none, []⟩,
   ⟨some (false, 21), .load 1 false (.g 5), some (false, 20, false), []⟩,
   ⟨some (false, 22), .bin .lss (.l 21) (.c (.int .i64 0)), some (false, 20, false), []⟩,
   ⟨some (false, 23), .pick (.l 20) (.c (.bool true)) (.l 22), none, []⟩,
   ⟨some (false, 24), .mv (.l 23), none, []⟩,
   ⟨some (false, 25), .load 1 false (.g 5), some (false, 24, false), []⟩,
   ⟨some (false, 26), .bin .gtr (.l 25) (.c (.int .i64 9999)), some (false, 24, false), []⟩,
   ⟨some (true, 27), .pick (.l 24) (.c (.bool true)) (.l 26), none, []⟩]
def a19r2 : List AOper :=
  [⟨some (false, 28), .build [(.int .i64 0), (.int .i64 0), (.str ⟨#[]⟩), (.list 0 .full [])] [], none, []⟩,
   ⟨none, .store 4 (.g 6) (.l 28), none, []⟩,
   ⟨some (true, 7), .mv (.c (.int .i64 2)), none, []⟩]
def a19r3 : List AOper :=
  [⟨some (true, 8), .alloc [(.bool false)], none, []⟩,
   ⟨none, .store 1 (.g 8) (.c (.bool false)), none, []⟩]
def a19r4 : List AOper :=
  [⟨some (false, 29), .load 4 true (.g 3), none, []⟩,
   ⟨some (false, 30), .mkfn 62 [] [(.g 8), (.g 5), (.g 4)], none, []⟩,
   ⟨some (false, 31), .call false (.c (.fn 61 [] [])) [(.l 29), (.l 30)], none, []⟩]
def a19r5 : List AOper :=
  [⟨some (true, 32), .load 1 false (.g 8), none, []⟩]
def a19r6 : List AOper :=
  [⟨some (false, 33), .build [(.int .i64 0), (.int .i64 0), (.str ⟨#[]⟩), (.list 0 .full [])] [], none, []⟩,
   ⟨none, .store 4 (.g 6) (.l 33), none, []⟩,
   ⟨some (true, 7), .mv (.c (.int .i64 6)), none, []⟩]
def a19r7 : List AOper :=
  [⟨some (false, 34), .load 4 true (.g 3), none, []⟩,
   ⟨some (false, 35), .load 1 false (.g 4), none, []⟩,
   ⟨some (false, 36), .load 1 false (.g 5), none, []⟩,
   ⟨some (false, 37), .call false (.c (.fn 63 [] [])) [(.l 34), (.l 35), (.l 36)], none, []⟩,
   ⟨some (false, 38), .call false (.c (.fn 55 [] [])) [(.l 37)], none, []⟩,
   ⟨some (false, 39), .extract (.l 38) 0, none, []⟩,
   ⟨some (false, 40), .extract (.l 38) 1, none, []⟩,
   ⟨none, .store 4 (.g 6) (.l 39), none, []⟩,
   ⟨some (true, 7), .mv (.l 40), none, []⟩]
def a19b : ACode :=
  (.seq (.seq (.seq (.reg false a19r0) (.frz 4)) (.frz 5)) (.seq (.seq (.reg false a19r1) (.cond (.g 27) (.seq (.reg false a19r2) .ret) .skip)) (.seq (.reg false a19r3) (.seq (.reg false a19r4) (.seq (.seq (.reg false a19r5) (.cond (.g 32) (.seq (.reg false a19r6) .ret) .skip)) (.seq (.reg false a19r7) .ret))))))
def a19 : AFun := ⟨3, 41, a19b, [.cell (true, 6) 4 true, .tmp (true, 7)]⟩
theorem c19 : compileFun Try.prog [0, 1, 2, 3, 4, 5, 6, 7, 8, 27, 32, 1000000000004, 1000000000005] Try.f19 = some a19 := by kernel_rfl

/- damask/types.Head -/
def a68r0 : List AOper :=
  [⟨some (true, 1), .box (.g 0), none, []⟩,
   ⟨some (true, 2), .alloc [(.int .i64 0), (.int .i64 0), (.str ⟨#[]⟩), (.list 0 .full [])], none, []⟩,
   ⟨some (true, 3), .mv (.c (.list 0 .full [])), none, []⟩]
def a68r1 : List AOper :=
  [⟨some (true, 4), .mkslice 4 0 [] true (.c .any) (.c .any), none, []⟩]
def a68r2 : List AOper :=
  [⟨some (false, 5), .fieldAddr 0 (.g 1), none, []⟩,
   ⟨some (false, 6), .load 1 false (.l 5), none, []⟩,
   ⟨some (true, 7), .bin .eql (.l 6) (.c (.int .i64 3)), none, []⟩]
def a68r3 : List AOper :=
  [⟨some (false, 8), .mv (.g 4), none, []⟩,
   ⟨some (false, 9), .fieldAddr 3 (.g 1), none, []⟩,
   ⟨some (false, 10), .load 1 false (.l 9), none, []⟩,
   ⟨some (false, 11), .indexAddr 4 (.l 10) (.c (.int .i64 1)), none, []⟩,
   ⟨some (false, 12), .load 4 true (.l 11), none, []⟩,
   ⟨some (false, 13), .buildSlice 4 true [(.int .i64 0), (.int .i64 0), (.str ⟨#[]⟩), (.list 0 .full [])] 1 [(0, (.l 12))], none, []⟩,
   ⟨some (false, 14), .append 4 56 (.l 8) (.l 13), none, []⟩,
   ⟨some (true, 4), .mv (.l 14), none, []⟩]
def a68r4 : List AOper :=
  [⟨some (false, 15), .fieldAddr 3 (.g 1), none, []⟩,
   ⟨some (false, 16), .load 1 false (.l 15), none, []⟩,
   ⟨some (false, 17), .indexAddr 4 (.l 16) (.c (.int .i64 0)), none, []⟩,
   ⟨some (false, 18), .load 4 true (.l 17), none, []⟩,
   ⟨none, .store 4 (.g 1) (.l 18), none, []⟩]
def a68l5 : ACode :=
  (.seq (.seq (.reg false a68r2) (.cond (.g 7) .skip (.exit 0))) (.block 1 (.seq (.reg false a68r3) (.reg false a68r4))))
def a68r6 : List AOper :=
  [⟨some (false, 19), .mv (.g 4), none, []⟩,
   ⟨some (false, 20), .call false (.c (.fn 110 [] [])) [(.l 19)], none, []⟩]
def a68r7 : List AOper :=
  [⟨some (false, 21), .load 4 true (.g 1), none, []⟩,
   ⟨some (false, 22), .mv (.g 4), none, []⟩,
   ⟨none, .store 4 (.g 2) (.l 21), none, []⟩,
   ⟨some (true, 3), .mv (.l 22), none, []⟩]
def a68b : ACode :=
  (.seq (.reg false a68r0) (.seq (.reg false a68r1) (.seq (.block 0 (.loop a68l5)) (.seq (.reg false a68r6) (.seq (.reg false a68r7) .ret)))))
def a68 : AFun := ⟨1, 23, a68b, [.cell (true, 2) 4 true, .tmp (true, 3)]⟩
theorem c68 : compileFun Try.prog [0, 1, 2, 3, 4, 7, 5000004] Try.f68 = some a68 := by kernel_rfl

/- slices.Reverse[[]damask/api.Type,damask/api.Type] -/
def a110r0 : List AOper :=
  [⟨some (false, 4), .mv (.g 0), none, []⟩,
   ⟨some (false, 5), .len (.l 4), none, []⟩,
   ⟨some (false, 6), .bin .sub (.l 5) (.c (.int .i64 1)), none, []⟩,
   ⟨some (true, 2), .mv (.c (.int .i64 0)), none, []⟩,
   ⟨some (true, 3), .mv (.l 6), none, []⟩]
def a110r1 : List AOper :=
  [⟨some (false, 7), .mv (.g 2), none, []⟩,
   ⟨some (false, 8), .mv (.g 3), none, []⟩,
   ⟨some (true, 9), .bin .lss (.l 7) (.l 8), none, []⟩]
def a110r2 : List AOper :=
  [⟨some (false, 14), .mv (.g 0), none, []⟩,
   ⟨some (false, 15), .mv (.g 2), none, []⟩,
   ⟨some (false, 16), .mv (.g 0), none, []⟩,
   ⟨some (false, 17), .mv (.g 3), none, []⟩,
   ⟨some (false, 18), .mv (.g 0), none, []⟩,
   ⟨some (false, 19), .mv (.g 3), none, []⟩,
   ⟨some (false, 20), .indexAddr 4 (.l 18) (.l 19), none, []⟩,
   ⟨some (false, 21), .load 4 true (.l 20), none, []⟩,
   ⟨some (false, 22), .mv (.g 0), none, []⟩,
   ⟨some (false, 23), .mv (.g 2), none, []⟩,
   ⟨some (false, 24), .indexAddr 4 (.l 22) (.l 23), none, []⟩,
   ⟨some (false, 25), .load 4 true (.l 24), none, []⟩,
   ⟨some (false, 26), .indexAddr 4 (.l 14) (.l 15), none, []⟩,
   ⟨none, .store 4 (.l 26) (.l 21), none, []⟩,
   ⟨some (false, 27), .indexAddr 4 (.l 16) (.l 17), none, []⟩,
   ⟨none, .store 4 (.l 27) (.l 25), none, []⟩]
def a110r3 : List AOper :=
  [⟨some (false, 10), .mv (.g 2), none, []⟩,
   ⟨some (false, 11), .bin .add (.l 10) (.c (.int .i64 1)), none, []⟩,
   ⟨some (false, 12), .mv (.g 3), none, []⟩,
   ⟨some (false, 13), .bin .sub (.l 12) (.c (.int .i64 1)), none, []⟩,
   ⟨some (true, 2), .mv (.l 11), none, []⟩,
   ⟨some (true, 3), .mv (.l 13), none, []⟩]
def a110l4 : ACode :=
  (.seq (.seq (.reg false a110r1) (.cond (.g 9) .skip (.exit 0))) (.seq (.block 1 (.reg true a110r2)) (.reg false a110r3)))
def a110b : ACode :=
  (.seq (.reg false a110r0) (.block 0 (.loop a110l4)))
def a110 : AFun := ⟨1, 28, a110b, []⟩
theorem c110 : compileFun Try.prog [0, 2, 3, 9] Try.f110 = some a110 := by kernel_rfl

/- damask/types.Spine -/
def a25r0 : List AOper :=
  [⟨some (true, 1), .box (.g 0), none, []⟩,
   ⟨some (true, 2), .alloc [(.int .i64 0), (.int .i64 0), (.str ⟨#[]⟩), (.list 0 .full [])], none, []⟩,
   ⟨some (true, 3), .mv (.c (.list 0 .full [])), none, []⟩,
   ⟨some (true, 4), .mv (.c (.int .i64 0)), none, []⟩]
def a25r1 : List AOper :=
  [⟨some (false, 9), .load 4 true (.g 1), none, []⟩,
   ⟨some (false, 10), .call false (.c (.fn 53 [] [])) [(.l 9)], none, []⟩,
   ⟨some (true, 11), .un .not (.l 10), none, []⟩]
def a25r2 : List AOper :=
  [⟨some (false, 12), .build [(.int .i64 0), (.int .i64 0), (.str ⟨#[]⟩), (.list 0 .full [])] [], none, []⟩,
   ⟨none, .store 4 (.g 2) (.l 12), none, []⟩,
   ⟨some (true, 3), .mv (.c (.list 0 .full [])), none, []⟩,
   ⟨some (true, 4), .mv (.c (.int .i64 2)), none, []⟩]
def a25r3 : List AOper :=
  [⟨some (false, 14), .load 4 true (.g 1), none, []⟩,
   ⟨some (false, 15), .call false (.c (.fn 68 [] [])) [(.l 14)], none, []⟩,
   ⟨some (false, 13), .mv (.l 15), none, []⟩,
   ⟨some (false, 16), .extract (.l 13) 0, none, []⟩,
   ⟨some (false, 17), .extract (.l 13) 1, none, []⟩,
   ⟨some (true, 5), .alloc [(.int .i64 0), (.int .i64 0), (.str ⟨#[]⟩), (.list 0 .full [])], none, []⟩,
   ⟨none, .store 4 (.g 5) (.l 16), none, []⟩,
   ⟨some (true, 6), .mv (.l 17), none, []⟩]
def a25r4 : List AOper :=
  [⟨some (false, 18), .load 4 true (.g 5), none, []⟩,
   ⟨some (false, 19), .call false (.c (.fn 69 [] [])) [(.l 18)], none, []⟩,
   ⟨none, .store 4 (.g 5) (.l 19), none, []⟩]
def a25r5 : List AOper :=
  [⟨some (true, 20), .mv (.g 6), none, []⟩,
   ⟨some (true, 21), .len (.g 20), none, []⟩,
   ⟨some (true, 22), .mv (.c (.int .i64 0)), none, []⟩]
def a25r6 : List AOper :=
  [⟨some (true, 23), .bin .lss (.g 22) (.g 21), none, []⟩]
def a25r7 : List AOper :=
  [⟨some (false, 24), .mv (.g 22), none, []⟩,
   ⟨some (false, 25), .indexAddr 4 (.g 20) (.g 22), none, []⟩,
   ⟨some (false, 26), .load 4 true (.l 25), none, []⟩,
   ⟨some (true, 8), .alloc [(.int .i64 0), (.int .i64 0), (.str ⟨#[]⟩), (.list 0 .full [])], none, []⟩,
   ⟨some (true, 7), .mv (.l 24), none, []⟩,
   ⟨none, .store 4 (.g 8) (.l 26), none, []⟩]
def a25r8 : List AOper :=
  [⟨some (false, 27), .mv (.g 6), none, []⟩,
   ⟨some (false, 28), .mv (.g 7), none, []⟩,
   ⟨some (false, 29), .load 4 true (.g 8), none, []⟩,
   ⟨some (false, 30), .call false (.c (.fn 69 [] [])) [(.l 29)], none, []⟩,
   ⟨some (false, 31), .indexAddr 4 (.l 27) (.l 28), none, []⟩,
   ⟨none, .store 4 (.l 31) (.l 30), none, []⟩]
def a25r9 : List AOper :=
  [⟨some (false, 32), .bin .add (.g 22) (.c (.int .i64 1)), none, []⟩,
   ⟨some (true, 22), .mv (.l 32), none, []⟩]
def a25l10 : ACode :=
  (.seq (.reg false a25r6) (.seq (.cond (.g 23) .skip (.exit 0)) (.seq (.block 1 (.seq (.reg false a25r7) (.reg false a25r8))) (.reg false a25r9))))
def a25r11 : List AOper :=
  [⟨some (false, 33), .load 4 true (.g 5), none, []⟩,
   ⟨some (false, 34), .mv (.g 6), none, []⟩,
   ⟨none, .store 4 (.g 2) (.l 33), none, []⟩,
   ⟨some (true, 3), .mv (.l 34), none, []⟩,
   ⟨some (true, 4), .mv (.c (.int .i64 0)), none, []⟩]
def a25b : ACode :=
  (.seq (.reg false a25r0) (.seq (.seq (.reg false a25r1) (.cond (.g 11) (.seq (.reg false a25r2) .ret) .skip)) (.seq (.reg false a25r3) (.seq (.reg false a25r4) (.seq (.seq (.reg false a25r5) (.block 0 (.loop a25l10))) (.seq (.reg false a25r11) .ret))))))
def a25 : AFun := ⟨1, 35, a25b, [.cell (true, 2) 4 true, .tmp (true, 3), .tmp (true, 4)]⟩
theorem c25 : compileFun Try.prog [0, 1, 2, 3, 4, 5, 6, 7, 8, 11, 20, 21, 22, 23] Try.f25 = some a25 := by kernel_rfl

end Go.AL.Ty
/- Small functions of types. -/
set_option linter.unusedVariables false
set_option linter.unusedSimpArgs false
namespace Go.AL.Ty
open Go Go.Proofs
theorem mixed : Try.prog.follows .mixedOrders = true := by kernel_rfl

def kids (op : Int) : Int := if op = 3 ∨ op = 4 ∨ op = 5 then 2 else 0
theorem p124 (op : Int) : PureC Try.prog 124 [.int .i64 op] (.int .i64 (kids op)) := by
  refine PureC.intro fun s => fun_sound mixed Try.func124 Try.call124 c124 rfl (awpFun_go _ _ _ _ ?_)
  simp (disch := (first | omega | (simp only [St.new_nx, St.set_nx, St.del_nx, St.bump_nx]; done) | (simp only [St.new_nx, St.set_nx, St.del_nx, St.bump_nx]; omega) | fail)) [a124, a124b, a124r0, a124r1, a124r2, a124r3, kids]
  grind

def isNum (op : Int) : Bool := (decide (op = 1) || decide (op = 6) || decide (op = 7))
theorem p125 (op : Int) : PureC Try.prog 125 [.int .i64 op] (.bool (isNum op)) := by
  refine PureC.intro fun s => fun_sound mixed Try.func125 Try.call125 c125 rfl (awpFun_go _ _ _ _ ?_)
  simp (disch := (first | omega | (simp only [St.new_nx, St.set_nx, St.del_nx, St.bump_nx]; done) | (simp only [St.new_nx, St.set_nx, St.del_nx, St.bump_nx]; omega) | fail)) [a125, a125b, a125r0, a125r1, isNum]

  grind

def belw (op i : Int) : Int := if op = 4 ∧ i = 1 then 1 else 0
theorem p105 (t : Ty) (i : Int) : PureC Try.prog 105 [t.av, .int .i64 i] (.int .i64 (belw t.op i)) := by
  refine PureC.intro fun s => fun_sound mixed Try.func105 Try.call105 c105 rfl (awpFun_go _ _ _ _ ?_)
  simp (disch := (first | omega | (simp only [St.new_nx, St.set_nx, St.del_nx, St.bump_nx]; done) | (simp only [St.new_nx, St.set_nx, St.del_nx, St.bump_nx]; omega) | fail)) [a105, a105b, a105r0, a105r1, a105r2, a105r3, belw]

  grind
end Go.AL.Ty
/- What is proper. -/
set_option linter.unusedVariables false
set_option linter.unusedSimpArgs false
namespace Go.AL.Ty
open Go Go.Proofs

mutual
def gd : Ty → Int → Int → Bool × Int
  | mk op n s args, d, l =>
    if l - 1 < 0 ∨ 40 < d then (false, l - 1)
    else if op < 1 ∨ 7 < op ∨ (args.length : Int) ≠ kids op then (false, l - 1)
    else if n < 0 ∨ 9999 < n ∨ n ≠ 0 ∧ isNum op = false then (false, l - 1)
    else if ¬ (op = 2 ↔ s ≠ ⟨#[]⟩) ∨ 40 < s.size then (false, l - 1)
    else gds args (d + 1) (l - 1)
def gds : List Ty → Int → Int → Bool × Int
  | [], _, l => (true, l)
  | t :: ts, d, l => if (gd t d l).1 then gds ts d (gd t d l).2 else (false, (gd t d l).2)
end
theorem gd_eq (t : Ty) (d l : Int) : gd t d l =
    if l - 1 < 0 ∨ 40 < d then (false, l - 1)
    else if t.op < 1 ∨ 7 < t.op ∨ (t.args.length : Int) ≠ kids t.op then (false, l - 1)
    else if t.n < 0 ∨ 9999 < t.n ∨ t.n ≠ 0 ∧ isNum t.op = false then (false, l - 1)
    else if ¬ (t.op = 2 ↔ t.s ≠ ⟨#[]⟩) ∨ 40 < t.s.size then (false, l - 1)
    else gds t.args (d + 1) (l - 1) := by cases t; rw [gd]; rfl

theorem gds_bound : ∀ (ts : List Ty) (d l : Int), (∀ x ∈ ts, ∀ d l, 0 ≤ l → (gd x d l).2 ≤ l ∧ ((gd x d l).1 = true → 0 ≤ (gd x d l).2)) → 0 ≤ l → (gds ts d l).2 ≤ l ∧ ((gds ts d l).1 = true → 0 ≤ (gds ts d l).2)
  | [], d, l, _, hl => by simp [gds, hl]
  | t :: ts, d, l, h, hl => by
    have h1 := h t (by simp) d l hl
    simp only [gds]
    split
    · rename_i hb
      have h2 := gds_bound ts d (gd t d l).2 (fun x hx => h x (by simp [hx])) (h1.2 hb)
      exact ⟨by omega, h2.2⟩
    · exact ⟨h1.1, by simp⟩
theorem gd_bound (t : Ty) : ∀ d l, 0 ≤ l → (gd t d l).2 ≤ l ∧ ((gd t d l).1 = true → 0 ≤ (gd t d l).2) := by
  induction t using Ty.ind with
  | h t ih =>
    intro d l hl
    rw [gd_eq]
    split
    · simp; omega
    split
    · simp; omega
    split
    · simp; omega
    split
    · simp; omega
    · rename_i h1 _ _ _
      have := gds_bound t.args (d + 1) (l - 1) ih (by omega)
      exact ⟨by omega, this.2⟩

def C95 (t : Ty) : Prop := ∀ (d l : Int) (o : Nat) (s : St) (K : AV → St → Prop), 0 ≤ d → d ≤ 100 → 0 ≤ l → l ≤ 1000 → s.m o = some (.box [.int .i64 l]) → o < s.nx →
    (∀ m, s.nx ≤ m → K (.bool (gd t d l).1) ((s.set o (.box [.int .i64 (gd t d l).2])).bump m)) → ACalls Try.prog 95 [t.av, .int .i64 d, .ptr o 0] s K

theorem loop95 (ts : List Ty) (ih : ∀ x ∈ ts, C95 x) (d l : Int) (o : Nat) (s : St) (K : AV → St → Prop) (G : Env) (S : St) (hd0 : 0 ≤ d) (hd : d ≤ 50) (hl0 : 0 ≤ l) (hl : l ≤ 1000) (hlen : ts.length ≤ 2)
    (h72 : G.get 72 = .list 4 .none (ts.map av)) (h73 : G.get 73 = .int .i64 ts.length) (h74 : G.get 74 = .int .i64 0) (h1 : G.get 1 = .int .i64 d) (h2 : G.get 2 = .ptr o 0)
    (hm : S.m o = some (.box [.int .i64 l])) (hk : KeptX s o S) (hn : s.nx ≤ S.nx) (ho : o < s.nx)
    (hK : ∀ s', s'.m o = some (.box [.int .i64 (gds ts (d + 1) l).2]) → KeptX s o s' → K (.bool (gds ts (d + 1) l).1) s') :
    go (awp Try.prog (.loop a95l16) (blockQ 0 (seqQ Try.prog ((ACode.reg false a95r17).seq .ret) (finQ [.tmp (true, 6)] K))) G S) := by
  refine go_loop (fun n g s1 => ∃ (i : Nat) (l1 : Int), i ≤ ts.length ∧ n = ts.length - i ∧ gds (ts.drop i) (d + 1) l1 = gds ts (d + 1) l ∧ 0 ≤ l1 ∧ l1 ≤ 1000 ∧
    g.get 72 = .list 4 .none (ts.map av) ∧ g.get 73 = .int .i64 ts.length ∧ g.get 74 = .int .i64 i ∧ g.get 1 = .int .i64 d ∧ g.get 2 = .ptr o 0 ∧
    s1.m o = some (.box [.int .i64 l1]) ∧ KeptX s o s1 ∧ s.nx ≤ s1.nx) ts.length ⟨0, l, Nat.zero_le _, by simp, by simp, hl0, hl, h72, h73, h74, h1, h2, hm, hk, hn⟩ ?_
  clear h72 h73 h74 h1 h2 hm hk hn
  rintro n g s1 ⟨i, l1, hi, rfl, hg, hl10, hl1, h72, h73, h74, h1, h2, hm, hk, hn⟩
  by_cases hlt : i < ts.length
  · have hx : ts[i]? = some ts[i] := by simp [hlt]
    have hlt' : (i : Int) < ts.length := by omega
    have w1 : IntKind.i64.wrap (d + 1) = d + 1 := wrap64 (by omega) (by omega)
    have w2 : IntKind.i64.wrap ((i : Int) + 1) = ((i + 1 : Nat) : Int) := by rw [wrap64 (by omega) (by omega)]; omega
    have hon : o ≠ s1.nx := by omega
    have hdrop : ts.drop i = ts[i] :: ts.drop (i + 1) := List.drop_eq_getElem_cons hlt
    simp (implicitDefEqProofs := false) (maxSteps := 2000000) (disch := (first | omega | (simp only [St.new_nx, St.set_nx, St.del_nx, St.bump_nx]; done) | (simp only [St.new_nx, St.set_nx, St.del_nx, St.bump_nx]; omega) | fail)) [a95l16, a95r11, a95r12, a95r13, h72, h73, h74, h1, h2, hlt', hlt, hx, w1]
    refine go_calls (ih ts[i] (List.getElem_mem hlt) (d + 1) l1 o _ _ (by omega) (by omega) hl10 hl1 (by simp (implicitDefEqProofs := false) (maxSteps := 2000000) (disch := (first | omega | (simp only [St.new_nx, St.set_nx, St.del_nx, St.bump_nx]; done) | (simp only [St.new_nx, St.set_nx, St.del_nx, St.bump_nx]; omega) | fail)) [hm]) (by simp; omega) fun m hm1 => go_of ?_)
    simp (implicitDefEqProofs := false) (maxSteps := 2000000) (disch := (first | omega | (simp only [St.new_nx, St.set_nx, St.del_nx, St.bump_nx]; done) | (simp only [St.new_nx, St.set_nx, St.del_nx, St.bump_nx]; omega) | fail)) [a95r14, a95r15]
    simp at hm1
    refine ⟨fun hb => ?_, fun hb => ?_⟩
    · rw [hdrop, gds, if_neg (by simp [hb])] at hg
      rw [← hg] at hK
      exact hK _ (by simp (implicitDefEqProofs := false) (maxSteps := 2000000) (disch := (first | omega | (simp only [St.new_nx, St.set_nx, St.del_nx, St.bump_nx]; done) | (simp only [St.new_nx, St.set_nx, St.del_nx, St.bump_nx]; omega) | fail))) (by simp (implicitDefEqProofs := false) (maxSteps := 2000000) (disch := (first | omega | (simp only [St.new_nx, St.set_nx, St.del_nx, St.bump_nx]; done) | (simp only [St.new_nx, St.set_nx, St.del_nx, St.bump_nx]; omega) | fail)) [hk])
    · rw [hdrop, gds, if_pos hb] at hg
      have hbd := gd_bound ts[i] (d + 1) l1 hl10
      have := hbd.2 hb
      simp (implicitDefEqProofs := false) (maxSteps := 2000000) (disch := (first | omega | (simp only [St.new_nx, St.set_nx, St.del_nx, St.bump_nx]; done) | (simp only [St.new_nx, St.set_nx, St.del_nx, St.bump_nx]; omega) | fail)) [h74, w2]
      refine go_next (ts.length - (i + 1)) (by omega) ⟨i + 1, by omega, rfl, (gd ts[i] (d + 1) l1).2, hg, this, by omega, ?_, ?_, ?_, ?_, ?_, ?_, ?_, ?_⟩ <;> simp (implicitDefEqProofs := false) (maxSteps := 2000000) (disch := (first | omega | (simp only [St.new_nx, St.set_nx, St.del_nx, St.bump_nx]; done) | (simp only [St.new_nx, St.set_nx, St.del_nx, St.bump_nx]; omega) | fail)) [h72, h73, h74, h1, h2, hk]
      omega
  · have hlt' : ¬ (i : Int) < ts.length := by omega
    have hdrop : ts.drop i = [] := List.drop_eq_nil_of_le (by omega)
    simp (implicitDefEqProofs := false) (maxSteps := 2000000) (disch := (first | omega | (simp only [St.new_nx, St.set_nx, St.del_nx, St.bump_nx]; done) | (simp only [St.new_nx, St.set_nx, St.del_nx, St.bump_nx]; omega) | fail)) [a95l16, a95r11, a95r12, h72, h73, h74, h1, h2, hlt', a95r17]
    rw [hdrop, gds] at hg
    rw [← hg] at hK
    exact hK _ hm hk

theorem p95 (t : Ty) : C95 t := by
  induction t using Ty.ind with
  | h t ih =>
    intro d l o s K hd0 hd hl0 hl hm ho hK
    refine ACalls.upd ho ?_ hK
    clear hK K
    refine fun_sound mixed Try.func95 Try.call95 c95 rfl (awpFun_go _ _ _ _ ?_)
    have hon : o ≠ s.nx := by omega
    have w1 : IntKind.i64.wrap (l - 1) = l - 1 := wrap64 (by omega) (by omega)
    simp (implicitDefEqProofs := false) (maxSteps := 2000000) (disch := (first | omega | (simp only [St.new_nx, St.set_nx, St.del_nx, St.bump_nx]; done) | (simp only [St.new_nx, St.set_nx, St.del_nx, St.bump_nx]; omega) | fail)) [a95, a95b, a95r0, a95r1, a95r2, a95r3, a95r4, a95r5, hm, w1]
    refine ⟨fun hl1 => ⟨fun hd1 => ?_, fun hd1 => ⟨fun h1 => ⟨fun h7 => ?_, fun h7 m hm1 => ?_⟩, fun h1 m hm1 => ?_⟩⟩, fun hl1 => ?_⟩
    · rw [gd_eq, if_pos (by omega)]; simp
    rotate_left
    · rw [gd_eq, if_neg (by omega), if_pos (by omega)]; simp
    · rw [gd_eq, if_neg (by omega), if_pos (by omega)]; simp
    · rw [gd_eq, if_pos (by omega)]; simp
    refine pcV_intro (p124 _) ?_
    simp (implicitDefEqProofs := false) (maxSteps := 2000000) (disch := (first | omega | (simp only [St.new_nx, St.set_nx, St.del_nx, St.bump_nx]; done) | (simp only [St.new_nx, St.set_nx, St.del_nx, St.bump_nx]; omega) | fail)) [a95r6, a95r7]
    intro m hm1
    refine ⟨fun hk => ?_, fun hk => ?_⟩
    · rw [gd_eq, if_neg (by omega), if_pos (by omega)]; simp
    refine ⟨fun h0 => ⟨fun h9 => ⟨fun hz => go_pure (p125 _) fun m2 hm2 => ?_, fun hz => ?_⟩, fun h9 => ?_⟩, fun h0 => ?_⟩
    rotate_left 2
    · rw [gd_eq, if_neg (by omega), if_neg (by omega), if_pos (by omega)]; simp
    · rw [gd_eq, if_neg (by omega), if_neg (by omega), if_pos (by omega)]; simp
    · simp (implicitDefEqProofs := false) (maxSteps := 2000000) (disch := (first | omega | (simp only [St.new_nx, St.set_nx, St.del_nx, St.bump_nx]; done) | (simp only [St.new_nx, St.set_nx, St.del_nx, St.bump_nx]; omega) | fail))
      refine ⟨fun hn => ?_, fun hn => ?_⟩
      · rw [gd_eq, if_neg (by omega), if_neg (by omega), if_pos (by rw [hn]; simp; omega)]; simp
      rename_i _
      have hn' : ¬ (t.n < 0 ∨ 9999 < t.n ∨ t.n ≠ 0 ∧ isNum t.op = false) := by rw [hn]; simp; omega
      simp only [St.bump_nx] at hm2
      simp (implicitDefEqProofs := false) (maxSteps := 2000000) (disch := (first | omega | (simp only [St.new_nx, St.set_nx, St.del_nx, St.bump_nx]; done) | (simp only [St.new_nx, St.set_nx, St.del_nx, St.bump_nx]; omega) | fail)) [a95r8, a95r9, a95r10]
      refine ⟨fun hs => ⟨fun hs2 => ?_, fun hs2 => ?_⟩, fun hs => ?_⟩
      · rw [gd_eq, if_neg (by omega), if_neg (by omega), if_neg hn', if_pos (by right; omega)]; simp
      · have hc : ¬ (¬ (t.op = 2 ↔ t.s ≠ ⟨#[]⟩) ∨ 40 < t.s.size) := by
          rintro (hc | hc)
          · apply hc
            by_cases ha : t.op = 2 <;> by_cases hb : t.s = ⟨#[]⟩ <;> simp [ha, hb] at hs ⊢
          · omega
        have hk2 : t.args.length ≤ 2 := by unfold kids at hk; split at hk <;> omega
        have he : gd t d l = gds t.args (d + 1) (l - 1) := by rw [gd_eq, if_neg (by omega), if_neg (by omega), if_neg hn', if_neg hc]
        refine loop95 t.args ih d (l - 1) o s _ _ _ hd0 (by omega) (by omega) (by omega) hk2 ?_ ?_ ?_ ?_ ?_ ?_ ?_ ?_ ho ?_
        rotate_right
        · intro s' hs1 hs2
          rw [he]
          exact ⟨wk_refl _, hs1, hs2⟩
        all_goals simp (implicitDefEqProofs := false) (maxSteps := 2000000) (disch := (first | omega | (simp only [St.new_nx, St.set_nx, St.del_nx, St.bump_nx]; done) | (simp only [St.new_nx, St.set_nx, St.del_nx, St.bump_nx]; omega) | fail))
        all_goals omega
      · rw [gd_eq, if_neg (by omega), if_neg (by omega), if_neg hn', if_pos (by left; rw [hs]; simp)]; simp
    · have hn' : ¬ (t.n < 0 ∨ 9999 < t.n ∨ t.n ≠ 0 ∧ isNum t.op = false) := by omega
      simp (implicitDefEqProofs := false) (maxSteps := 2000000) (disch := (first | omega | (simp only [St.new_nx, St.set_nx, St.del_nx, St.bump_nx]; done) | (simp only [St.new_nx, St.set_nx, St.del_nx, St.bump_nx]; omega) | fail)) [a95r8, a95r9, a95r10]
      refine ⟨fun hs => ⟨fun hs2 => ?_, fun hs2 => ?_⟩, fun hs => ?_⟩
      · rw [gd_eq, if_neg (by omega), if_neg (by omega), if_neg hn', if_pos (by right; omega)]; simp
      · have hc : ¬ (¬ (t.op = 2 ↔ t.s ≠ ⟨#[]⟩) ∨ 40 < t.s.size) := by
          rintro (hc | hc)
          · apply hc
            by_cases ha : t.op = 2 <;> by_cases hb : t.s = ⟨#[]⟩ <;> simp [ha, hb] at hs ⊢
          · omega
        have hk2 : t.args.length ≤ 2 := by unfold kids at hk; split at hk <;> omega
        have he : gd t d l = gds t.args (d + 1) (l - 1) := by rw [gd_eq, if_neg (by omega), if_neg (by omega), if_neg hn', if_neg hc]
        refine loop95 t.args ih d (l - 1) o s _ _ _ hd0 (by omega) (by omega) (by omega) hk2 ?_ ?_ ?_ ?_ ?_ ?_ ?_ ?_ ho ?_
        rotate_right
        · intro s' hs1 hs2
          rw [he]
          exact ⟨wk_refl _, hs1, hs2⟩
        all_goals simp (implicitDefEqProofs := false) (maxSteps := 2000000) (disch := (first | omega | (simp only [St.new_nx, St.set_nx, St.del_nx, St.bump_nx]; done) | (simp only [St.new_nx, St.set_nx, St.del_nx, St.bump_nx]; omega) | fail))
        all_goals omega
      · rw [gd_eq, if_neg (by omega), if_neg (by omega), if_neg hn', if_pos (by left; rw [hs]; simp)]; simp
end Go.AL.Ty
