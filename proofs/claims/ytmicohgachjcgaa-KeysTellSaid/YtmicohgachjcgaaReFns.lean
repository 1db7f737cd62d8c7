/- The code of the functions that are reached, resolved for the abstract machine: each is what the program's own function resolves to. Printed by program. -/
import Derived.Test.YtmicohgachjcgaaChecked
import Derived.Test.YtmicohgachjcgaaAmSym
import Derived.Test.YtmicohgachjcgaaReFnsA
set_option maxRecDepth 100000
namespace Go.Proofs.Ytmicohgachjcgaa.ReFns
open Go Go.Proofs.Ytmicohgachjcgaa.Am
def c103 : AFn := ⟨(.seq (.region [⟨(some 6), (.mv (.con (.int .u64 0))), none, none⟩]) (.seq (.seq (.region [⟨(some 9), (.mv (.tmp 1)), none, none⟩, ⟨(some 10), (.mv (.tmp 2)), none, none⟩, ⟨(some 11), (.bin .add (.tmp 9) (.tmp 10)), none, none⟩, ⟨(some 12), (.mv (.tmp 0)), none, none⟩, ⟨(some 13), (.len true (.tmp 12)), none, none⟩, ⟨(some 14), (.bin .gtr (.tmp 11) (.tmp 13)), none, none⟩]) (.cond (.tmp 14) (.seq (.region [⟨(some 6), (.mv (.con (.int .u64 0))), none, none⟩]) .ret) .skip)) (.seq (.region [⟨(some 16), (.mv (.tmp 0)), none, none⟩, ⟨(some 17), (.mv (.tmp 1)), none, none⟩, ⟨(some 18), (.slcStr (.tmp 16) (some (.tmp 17)) none), none, none⟩, ⟨(some 19), (.build [(.str []), (.int .i64 0)] [(0, (1, (.tmp 18)))]), none, none⟩, ⟨(some 20), (.mv (.tmp 2)), none, none⟩, ⟨(some 21), (.call (.con (.func 33 [] [])) [(.tmp 19), (.tmp 20)]), none, none⟩, ⟨(some 15), (.mv (.tmp 21)), none, none⟩, ⟨(some 22), (.extract (.tmp 15) 0), none, none⟩, ⟨(some 23), (.extract (.tmp 15) 1), none, none⟩, ⟨(some 7), (.new [(.str []), (.int .i64 0)]), none, none⟩, ⟨none, (.store 2 (.tmp 7) (.tmp 22)), none, none⟩, ⟨(some 8), (.mv (.tmp 23)), none, none⟩]) (.seq (.region [⟨(some 24), (.mv (.tmp 8)), none, none⟩, ⟨(some 6), (.mv (.tmp 24)), none, none⟩]) .ret)))), [(.tmp 6)]⟩
theorem c103_is : cfn Try.prog 103 = some c103 := by kernel_rfl
def c104 : AFn := ⟨(.seq (.region [⟨(some 2), (.new [(.int .u32 0), (.int .i64 0), (.int .i64 0)]), none, none⟩]) (.seq (.region [⟨(some 4), (.mv (.tmp 0)), none, none⟩, ⟨(some 5), (.call (.con (.func 34 [] [])) [(.tmp 4), (.con (.int .i64 4))]), none, none⟩, ⟨(some 6), (.toInt .u32 (.tmp 5)), none, none⟩, ⟨(some 7), (.build [(.int .u32 0), (.int .i64 0), (.int .i64 0)] [(0, (1, (.tmp 6)))]), none, none⟩, ⟨(some 3), (.new [(.int .u32 0), (.int .i64 0), (.int .i64 0)]), none, none⟩, ⟨none, (.store 3 (.tmp 3) (.tmp 7)), none, none⟩]) (.seq (.region [⟨(some 8), (.mv (.tmp 0)), none, none⟩, ⟨(some 9), (.call (.con (.func 34 [] [])) [(.tmp 8), (.con (.int .i64 2))]), none, none⟩, ⟨(some 10), (.toInt .i64 (.tmp 9)), none, none⟩, ⟨(some 11), (.mv (.tmp 0)), none, none⟩, ⟨(some 12), (.call (.con (.func 34 [] [])) [(.tmp 11), (.con (.int .i64 2))]), none, none⟩, ⟨(some 13), (.toInt .i64 (.tmp 12)), none, none⟩, ⟨(some 14), (.build [(.int .i64 0), (.int .i64 0)] [(0, (1, (.tmp 10))), (1, (1, (.tmp 13)))]), none, none⟩, ⟨(some 15), (.fieldA 1 (.tmp 3)), none, none⟩, ⟨none, (.store 2 (.tmp 15) (.tmp 14)), none, none⟩]) (.seq (.region [⟨(some 16), (.load true 3 (.tmp 3)), none, none⟩, ⟨none, (.store 3 (.tmp 2) (.tmp 16)), none, none⟩]) .ret)))), [(.cell 2 true 3)]⟩
theorem c104_is : cfn Try.prog 104 = some c104 := by kernel_rfl
def c105 : AFn := ⟨(.seq (.region [⟨(some 4), (.box (.tmp 0)), none, none⟩, ⟨(some 8), (.new [(.int .u64 0), (.bool false), (.int .u32 0), (.int .i64 0), (.int .i64 0)]), none, none⟩, ⟨(some 9), (.mv (.con (.int .i64 0))), none, none⟩]) (.seq (.seq (.region [⟨(some 14), (.mv (.tmp 3)), none, none⟩, ⟨(some 15), (.load true 5 (.tmp 4)), none, none⟩, ⟨(some 16), (.call (.tmp 14) [(.tmp 15)]), none, none⟩, ⟨(some 13), (.mv (.tmp 16)), none, none⟩, ⟨(some 17), (.extract (.tmp 13) 0), none, none⟩, ⟨(some 18), (.extract (.tmp 13) 1), none, none⟩, ⟨(some 10), (.mv (.tmp 17)), none, none⟩, ⟨(some 11), (.mv (.tmp 18)), none, none⟩]) (.seq (.region [⟨(some 19), (.mv (.tmp 1)), none, none⟩, ⟨(some 20), (.call (.con (.func 41 [] [])) [(.tmp 19)]), none, none⟩, ⟨(some 21), (.bin .neq (.tmp 20) (.con (.int .i64 0))), none, none⟩, ⟨(some 22), (.mv (.tmp 21)), none, none⟩, ⟨(some 23), (.mv (.tmp 11)), (some (22, false)), none⟩, ⟨(some 24), (.bin .neq (.tmp 23) (.con (.int .i64 0))), (some (22, false)), none⟩, ⟨(some 25), (.pick (.tmp 22) (.con (.bool true)) (.tmp 24)), none, none⟩, ⟨(some 26), (.mv (.tmp 25)), none, none⟩, ⟨(some 27), (.mv (.tmp 10)), (some (26, false)), none⟩, ⟨(some 28), (.mv (.tmp 2)), (some (26, false)), none⟩, ⟨(some 29), (.bin .neq (.tmp 27) (.tmp 28)), (some (26, false)), none⟩, ⟨(some 30), (.pick (.tmp 26) (.con (.bool true)) (.tmp 29)), none, none⟩]) (.cond (.tmp 30) (.seq (.region [⟨(some 12), (.new [(.int .u64 0), (.bool false), (.int .u32 0), (.int .i64 0), (.int .i64 0)]), none, none⟩]) (.seq (.region [⟨(some 31), (.load true 5 (.tmp 12)), none, none⟩, ⟨none, (.store 5 (.tmp 8) (.tmp 31)), none, none⟩, ⟨(some 9), (.mv (.con (.int .i64 19))), none, none⟩]) .ret)) .skip))) (.seq (.region [⟨(some 32), (.load true 5 (.tmp 4)), none, none⟩, ⟨none, (.store 5 (.tmp 8) (.tmp 32)), none, none⟩, ⟨(some 9), (.mv (.con (.int .i64 0))), none, none⟩]) .ret))), [(.cell 8 true 5), (.tmp 9)]⟩
theorem c105_is : cfn Try.prog 105 = some c105 := by kernel_rfl
def c106 : AFn := ⟨(.seq (.region [⟨(some 4), (.box (.tmp 0)), none, none⟩, ⟨(some 8), (.new [(.str [])]), none, none⟩, ⟨(some 9), (.mv (.con (.int .i64 0))), none, none⟩]) (.seq (.seq (.region [⟨(some 14), (.mv (.tmp 3)), none, none⟩, ⟨(some 15), (.load true 1 (.tmp 4)), none, none⟩, ⟨(some 16), (.call (.tmp 14) [(.tmp 15)]), none, none⟩, ⟨(some 13), (.mv (.tmp 16)), none, none⟩, ⟨(some 17), (.extract (.tmp 13) 0), none, none⟩, ⟨(some 18), (.extract (.tmp 13) 1), none, none⟩, ⟨(some 10), (.mv (.tmp 17)), none, none⟩, ⟨(some 11), (.mv (.tmp 18)), none, none⟩]) (.seq (.region [⟨(some 19), (.mv (.tmp 1)), none, none⟩, ⟨(some 20), (.call (.con (.func 41 [] [])) [(.tmp 19)]), none, none⟩, ⟨(some 21), (.bin .neq (.tmp 20) (.con (.int .i64 0))), none, none⟩, ⟨(some 22), (.mv (.tmp 21)), none, none⟩, ⟨(some 23), (.mv (.tmp 11)), (some (22, false)), none⟩, ⟨(some 24), (.bin .neq (.tmp 23) (.con (.int .i64 0))), (some (22, false)), none⟩, ⟨(some 25), (.pick (.tmp 22) (.con (.bool true)) (.tmp 24)), none, none⟩, ⟨(some 26), (.mv (.tmp 25)), none, none⟩, ⟨(some 27), (.mv (.tmp 10)), (some (26, false)), none⟩, ⟨(some 28), (.mv (.tmp 2)), (some (26, false)), none⟩, ⟨(some 29), (.bin .neq (.tmp 27) (.tmp 28)), (some (26, false)), none⟩, ⟨(some 30), (.pick (.tmp 26) (.con (.bool true)) (.tmp 29)), none, none⟩]) (.cond (.tmp 30) (.seq (.region [⟨(some 12), (.new [(.str [])]), none, none⟩]) (.seq (.region [⟨(some 31), (.load true 1 (.tmp 12)), none, none⟩, ⟨none, (.store 1 (.tmp 8) (.tmp 31)), none, none⟩, ⟨(some 9), (.mv (.con (.int .i64 19))), none, none⟩]) .ret)) .skip))) (.seq (.region [⟨(some 32), (.load true 1 (.tmp 4)), none, none⟩, ⟨none, (.store 1 (.tmp 8) (.tmp 32)), none, none⟩, ⟨(some 9), (.mv (.con (.int .i64 0))), none, none⟩]) .ret))), [(.cell 8 true 1), (.tmp 9)]⟩
theorem c106_is : cfn Try.prog 106 = some c106 := by kernel_rfl
def c107 : AFn := ⟨(.seq (.region [⟨(some 4), (.box (.tmp 0)), none, none⟩, ⟨(some 8), (.new [(.int .u32 0), (.int .i64 0), (.int .i64 0)]), none, none⟩, ⟨(some 9), (.mv (.con (.int .i64 0))), none, none⟩]) (.seq (.seq (.region [⟨(some 14), (.mv (.tmp 3)), none, none⟩, ⟨(some 15), (.load true 3 (.tmp 4)), none, none⟩, ⟨(some 16), (.call (.tmp 14) [(.tmp 15)]), none, none⟩, ⟨(some 13), (.mv (.tmp 16)), none, none⟩, ⟨(some 17), (.extract (.tmp 13) 0), none, none⟩, ⟨(some 18), (.extract (.tmp 13) 1), none, none⟩, ⟨(some 10), (.mv (.tmp 17)), none, none⟩, ⟨(some 11), (.mv (.tmp 18)), none, none⟩]) (.seq (.region [⟨(some 19), (.mv (.tmp 1)), none, none⟩, ⟨(some 20), (.call (.con (.func 41 [] [])) [(.tmp 19)]), none, none⟩, ⟨(some 21), (.bin .neq (.tmp 20) (.con (.int .i64 0))), none, none⟩, ⟨(some 22), (.mv (.tmp 21)), none, none⟩, ⟨(some 23), (.mv (.tmp 11)), (some (22, false)), none⟩, ⟨(some 24), (.bin .neq (.tmp 23) (.con (.int .i64 0))), (some (22, false)), none⟩, ⟨(some 25), (.pick (.tmp 22) (.con (.bool true)) (.tmp 24)), none, none⟩, ⟨(some 26), (.mv (.tmp 25)), none, none⟩, ⟨(some 27), (.mv (.tmp 10)), (some (26, false)), none⟩, ⟨(some 28), (.mv (.tmp 2)), (some (26, false)), none⟩, ⟨(some 29), (.bin .neq (.tmp 27) (.tmp 28)), (some (26, false)), none⟩, ⟨(some 30), (.pick (.tmp 26) (.con (.bool true)) (.tmp 29)), none, none⟩]) (.cond (.tmp 30) (.seq (.region [⟨(some 12), (.new [(.int .u32 0), (.int .i64 0), (.int .i64 0)]), none, none⟩]) (.seq (.region [⟨(some 31), (.load true 3 (.tmp 12)), none, none⟩, ⟨none, (.store 3 (.tmp 8) (.tmp 31)), none, none⟩, ⟨(some 9), (.mv (.con (.int .i64 19))), none, none⟩]) .ret)) .skip))) (.seq (.region [⟨(some 32), (.load true 3 (.tmp 4)), none, none⟩, ⟨none, (.store 3 (.tmp 8) (.tmp 32)), none, none⟩, ⟨(some 9), (.mv (.con (.int .i64 0))), none, none⟩]) .ret))), [(.cell 8 true 3), (.tmp 9)]⟩
theorem c107_is : cfn Try.prog 107 = some c107 := by kernel_rfl
def c108 : AFn := ⟨(.seq (.region [⟨(some 4), (.mv (.con (.str []))), none, none⟩]) (.seq (.draw [⟨(some 5), (.mv (.tmp 0)), none, none⟩, ⟨(some 6), (.mv (.tmp 0)), none, none⟩, ⟨(some 7), (.bin .add (.tmp 6) (.con (.int .i64 1))), none, none⟩, ⟨(some 8), (.slcStr (.con (.str [32, 84, 66, 86, 85, 80])) (some (.tmp 5)) (some (.tmp 7))), none, none⟩, ⟨(some 9), (.mv (.tmp 1)), none, none⟩, ⟨(some 10), (.toInt .u64 (.tmp 9)), none, none⟩, ⟨(some 11), (.call (.con (.func 21 [] [])) [(.con (.int .i64 1)), (.tmp 10)]), none, none⟩, ⟨(some 12), (.bin .add (.tmp 8) (.tmp 11)), none, none⟩, ⟨(some 4), (.mv (.tmp 12)), none, none⟩]) .ret)), [(.tmp 4)]⟩
theorem c108_is : cfn Try.prog 108 = some c108 := by kernel_rfl
def c109 : AFn := ⟨(.seq (.region [⟨(some 4), (.mv (.con (.str []))), none, none⟩, ⟨(some 5), (.mv (.con (.str []))), none, none⟩, ⟨(some 6), (.mv (.con (.bool false))), none, none⟩]) (.seq (.region [⟨(some 7), (.mv (.tmp 0)), none, none⟩, ⟨(some 8), (.mv (.tmp 1)), none, none⟩, ⟨(some 9), (.call (.con (.func 134 [] [])) [(.tmp 7), (.tmp 8)]), none, none⟩, ⟨(some 10), (.extract (.tmp 9) 0), none, none⟩, ⟨(some 11), (.extract (.tmp 9) 1), none, none⟩, ⟨(some 12), (.extract (.tmp 9) 2), none, none⟩, ⟨(some 4), (.mv (.tmp 10)), none, none⟩, ⟨(some 5), (.mv (.tmp 11)), none, none⟩, ⟨(some 6), (.mv (.tmp 12)), none, none⟩]) .ret)), [(.tmp 4), (.tmp 5), (.tmp 6)]⟩
theorem c109_is : cfn Try.prog 109 = some c109 := by kernel_rfl
def c110 : AFn := ⟨(.seq (.region [⟨(some 4), (.mv (.con (.int .i64 0))), none, none⟩]) (.seq (.region [⟨(some 5), (.mv (.tmp 0)), none, none⟩, ⟨(some 6), (.mv (.tmp 1)), none, none⟩, ⟨(some 7), (.call (.con (.func 135 [] [])) [(.tmp 5), (.tmp 6)]), none, none⟩, ⟨(some 4), (.mv (.tmp 7)), none, none⟩]) .ret)), [(.tmp 4)]⟩
theorem c110_is : cfn Try.prog 110 = some c110 := by kernel_rfl
def c111 : AFn := ⟨(.seq (.region [⟨(some 2), (.box (.tmp 0)), none, none⟩, ⟨(some 4), (.new [(.int .i64 0), (.int .i64 0), (.str []), (.str []), (.int .u64 0), (.int .i64 0)]), none, none⟩]) (.seq (.seq (.region [⟨(some 7), (.fieldA 0 (.tmp 2)), none, none⟩, ⟨(some 8), (.load false 1 (.tmp 7)), none, none⟩]) (.block 0 (.seq (.region [⟨(some 10), (.bin .eql (.tmp 8) (.con (.int .i64 3))), none, none⟩, ⟨(some 9), (.mv (.tmp 10)), none, none⟩]) (.cond (.tmp 9) (.seq (.region [⟨(some 11), (.mv (.tmp 1)), none, none⟩, ⟨(some 12), (.len true (.tmp 11)), none, none⟩, ⟨(some 13), (.bin .sub (.tmp 12) (.con (.int .i64 8))), none, none⟩, ⟨(some 14), (.minmax true [(.tmp 13), (.con (.int .i64 0))]), none, none⟩, ⟨(some 5), (.mv (.tmp 14)), none, none⟩]) (.seq (.region [⟨(some 15), (.mv (.tmp 1)), none, none⟩, ⟨(some 16), (.mv (.tmp 5)), none, none⟩, ⟨(some 17), (.slcStr (.tmp 15) none (some (.tmp 16))), none, none⟩, ⟨(some 18), (.call (.con (.func 136 [] [])) [(.tmp 17), (.con (.str [0]))]), none, none⟩, ⟨(some 19), (.fieldA 3 (.tmp 2)), none, none⟩, ⟨none, (.store 1 (.tmp 19) (.tmp 18)), none, none⟩]) (.region [⟨(some 21), (.mv (.tmp 1)), none, none⟩, ⟨(some 22), (.mv (.tmp 5)), none, none⟩, ⟨(some 23), (.slcStr (.tmp 21) (some (.tmp 22)) none), none, none⟩, ⟨(some 24), (.call (.con (.func 20 [] [])) [(.tmp 23)]), none, none⟩, ⟨(some 20), (.mv (.tmp 24)), none, none⟩, ⟨(some 25), (.extract (.tmp 20) 0), none, none⟩, ⟨(some 26), (.extract (.tmp 20) 1), none, none⟩, ⟨(some 27), (.fieldA 4 (.tmp 2)), none, none⟩, ⟨none, (.store 1 (.tmp 27) (.tmp 25)), none, none⟩]))) (.seq (.region [⟨(some 29), (.bin .eql (.tmp 8) (.con (.int .i64 4))), none, none⟩, ⟨(some 28), (.mv (.tmp 29)), none, none⟩]) (.cond (.tmp 28) (.region [⟨(some 31), (.mv (.tmp 1)), none, none⟩, ⟨(some 32), (.call (.con (.func 18 [] [])) [(.tmp 31)]), none, none⟩, ⟨(some 30), (.mv (.tmp 32)), none, none⟩, ⟨(some 33), (.extract (.tmp 30) 0), none, none⟩, ⟨(some 34), (.extract (.tmp 30) 1), none, none⟩, ⟨(some 35), (.fieldA 4 (.tmp 2)), none, none⟩, ⟨none, (.store 1 (.tmp 35) (.tmp 33)), none, none⟩]) (.seq (.region [⟨(some 37), (.bin .eql (.tmp 8) (.con (.int .i64 5))), none, none⟩, ⟨(some 36), (.mv (.tmp 37)), none, none⟩]) (.cond (.tmp 36) (.seq (.region [⟨(some 38), (.mv (.tmp 1)), none, none⟩, ⟨(some 39), (.call (.con (.func 32 [] [])) [(.tmp 38)]), none, none⟩, ⟨(some 6), (.mv (.tmp 39)), none, none⟩]) (.region [⟨(some 40), (.mv (.tmp 6)), none, none⟩, ⟨(some 41), (.call (.con (.func 34 [] [])) [(.tmp 40), (.con (.int .i64 8))]), none, none⟩, ⟨(some 42), (.mv (.tmp 6)), none, none⟩, ⟨(some 43), (.call (.con (.func 34 [] [])) [(.tmp 42), (.con (.int .i64 1))]), none, none⟩, ⟨(some 44), (.toInt .i64 (.tmp 43)), none, none⟩, ⟨(some 45), (.fieldA 4 (.tmp 2)), none, none⟩, ⟨none, (.store 1 (.tmp 45) (.tmp 41)), none, none⟩, ⟨(some 46), (.fieldA 5 (.tmp 2)), none, none⟩, ⟨none, (.store 1 (.tmp 46) (.tmp 44)), none, none⟩])) .skip)))))))) (.seq (.region [⟨(some 47), (.load true 6 (.tmp 2)), none, none⟩, ⟨none, (.store 6 (.tmp 4) (.tmp 47)), none, none⟩]) .ret))), [(.cell 4 true 6)]⟩
theorem c111_is : cfn Try.prog 111 = some c111 := by kernel_rfl
def c112 : AFn := ⟨(.seq (.region [⟨(some 2), (.mv (.con (.str []))), none, none⟩, ⟨(some 3), (.mv (.con (.str []))), none, none⟩]) (.seq (.seq (.region [⟨(some 4), (.mv (.con (.int .i64 0))), none, none⟩]) (.block 0 (.loop (.seq (.seq (.region [⟨(some 5), (.mv (.tmp 4)), none, none⟩, ⟨(some 6), (.mv (.tmp 0)), none, none⟩, ⟨(some 7), (.len true (.tmp 6)), none, none⟩, ⟨(some 8), (.bin .lss (.tmp 5) (.tmp 7)), none, none⟩]) (.cond (.tmp 8) .skip (.exit 0))) (.seq (.block 1 (.seq (.region [⟨(some 11), (.mv (.tmp 0)), none, none⟩, ⟨(some 12), (.mv (.tmp 4)), none, none⟩, ⟨(some 13), (.idxStr (.tmp 11) (.tmp 12)), none, none⟩, ⟨(some 14), (.bin .eql (.tmp 13) (.con (.int .u8 0))), none, none⟩]) (.cond (.tmp 14) (.seq (.draw [⟨(some 15), (.mv (.tmp 0)), none, none⟩, ⟨(some 16), (.mv (.tmp 4)), none, none⟩, ⟨(some 17), (.slcStr (.tmp 15) none (some (.tmp 16))), none, none⟩, ⟨(some 18), (.mv (.tmp 0)), none, none⟩, ⟨(some 19), (.mv (.tmp 4)), none, none⟩, ⟨(some 20), (.bin .add (.tmp 19) (.con (.int .i64 1))), none, none⟩, ⟨(some 21), (.slcStr (.tmp 18) (some (.tmp 20)) none), none, none⟩, ⟨(some 2), (.mv (.tmp 17)), none, none⟩, ⟨(some 3), (.mv (.tmp 21)), none, none⟩]) .ret) .skip))) (.region [⟨(some 9), (.mv (.tmp 4)), none, none⟩, ⟨(some 10), (.bin .add (.tmp 9) (.con (.int .i64 1))), none, none⟩, ⟨(some 4), (.mv (.tmp 10)), none, none⟩])))))) (.seq (.region [⟨(some 22), (.mv (.tmp 0)), none, none⟩, ⟨(some 2), (.mv (.tmp 22)), none, none⟩, ⟨(some 3), (.mv (.con (.str []))), none, none⟩]) .ret))), [(.tmp 2), (.tmp 3)]⟩
theorem c112_is : cfn Try.prog 112 = some c112 := by kernel_rfl
def c113 : AFn := ⟨(.seq (.region [⟨(some 1), (.box (.tmp 0)), none, none⟩, ⟨(some 2), (.new [(.int .i64 0), (.int .i64 0), (.str []), (.str []), (.int .u64 0), (.int .i64 0)]), none, none⟩, ⟨(some 3), (.mv (.con (.bool false))), none, none⟩]) (.seq (.region [⟨(some 5), (.fieldA 1 (.tmp 1)), none, none⟩, ⟨(some 6), (.load false 1 (.tmp 5)), none, none⟩, ⟨(some 7), (.call (.con (.func 115 [] [])) [(.tmp 6)]), none, none⟩, ⟨(some 4), (.mv (.tmp 7)), none, none⟩]) (.seq (.seq (.region [⟨(some 8), (.fieldA 0 (.tmp 1)), none, none⟩, ⟨(some 9), (.load false 1 (.tmp 8)), none, none⟩, ⟨(some 10), (.bin .neq (.tmp 9) (.con (.int .i64 1))), none, none⟩]) (.cond (.tmp 10) (.seq (.region [⟨(some 11), (.mv (.tmp 4)), none, none⟩, ⟨(some 12), (.mv (.tmp 11)), none, none⟩, ⟨(some 13), (.fieldA 2 (.tmp 1)), (some (12, true)), none⟩, ⟨(some 14), (.load false 1 (.tmp 13)), (some (12, true)), none⟩, ⟨(some 15), (.call (.con (.func 117 [] [])) [(.tmp 14)]), (some (12, true)), none⟩, ⟨(some 16), (.bin .eql (.tmp 15) (.con (.int .i64 0))), (some (12, true)), none⟩, ⟨(some 17), (.pick (.tmp 12) (.tmp 16) (.con (.bool false))), none, none⟩, ⟨(some 4), (.mv (.tmp 17)), none, none⟩]) (.region [⟨(some 18), (.fieldA 2 (.tmp 1)), none, none⟩, ⟨none, (.store 1 (.tmp 18) (.con (.str []))), none, none⟩])) .skip)) (.seq (.seq (.region [⟨(some 19), (.fieldA 0 (.tmp 1)), none, none⟩, ⟨(some 20), (.load false 1 (.tmp 19)), none, none⟩]) (.block 0 (.seq (.region [⟨(some 22), (.bin .eql (.tmp 20) (.con (.int .i64 5))), none, none⟩, ⟨(some 21), (.mv (.tmp 22)), none, none⟩]) (.cond (.tmp 21) (.seq (.region [⟨(some 23), (.mv (.tmp 4)), none, none⟩, ⟨(some 24), (.mv (.tmp 23)), none, none⟩, ⟨(some 25), (.fieldA 5 (.tmp 1)), (some (24, true)), none⟩, ⟨(some 26), (.load false 1 (.tmp 25)), (some (24, true)), none⟩, ⟨(some 27), (.bin .geq (.tmp 26) (.con (.int .i64 1))), (some (24, true)), none⟩, ⟨(some 28), (.pick (.tmp 24) (.tmp 27) (.con (.bool false))), none, none⟩, ⟨(some 29), (.mv (.tmp 28)), none, none⟩, ⟨(some 30), (.fieldA 5 (.tmp 1)), (some (29, true)), none⟩, ⟨(some 31), (.load false 1 (.tmp 30)), (some (29, true)), none⟩, ⟨(some 32), (.bin .leq (.tmp 31) (.con (.int .i64 16))), (some (29, true)), none⟩, ⟨(some 33), (.pick (.tmp 29) (.tmp 32) (.con (.bool false))), none, none⟩, ⟨(some 4), (.mv (.tmp 33)), none, none⟩]) (.region [⟨(some 34), (.fieldA 5 (.tmp 1)), none, none⟩, ⟨none, (.store 1 (.tmp 34) (.con (.int .i64 0))), none, none⟩, ⟨(some 35), (.fieldA 4 (.tmp 1)), none, none⟩, ⟨none, (.store 1 (.tmp 35) (.con (.int .u64 0))), none, none⟩])) (.seq (.region [⟨(some 37), (.bin .eql (.tmp 20) (.con (.int .i64 3))), none, none⟩, ⟨(some 36), (.mv (.tmp 37)), none, none⟩]) (.cond (.tmp 36) (.seq (.region [⟨(some 38), (.mv (.tmp 4)), none, none⟩, ⟨(some 39), (.mv (.tmp 38)), none, none⟩, ⟨(some 40), (.fieldA 3 (.tmp 1)), (some (39, true)), none⟩, ⟨(some 41), (.load false 1 (.tmp 40)), (some (39, true)), none⟩, ⟨(some 42), (.call (.con (.func 97 [] [])) [(.tmp 41)]), (some (39, true)), none⟩, ⟨(some 43), (.bin .eql (.tmp 42) (.con (.int .i64 0))), (some (39, true)), none⟩, ⟨(some 44), (.pick (.tmp 39) (.tmp 43) (.con (.bool false))), none, none⟩, ⟨(some 4), (.mv (.tmp 44)), none, none⟩]) (.region [⟨(some 45), (.fieldA 3 (.tmp 1)), none, none⟩, ⟨none, (.store 1 (.tmp 45) (.con (.str []))), none, none⟩, ⟨(some 46), (.fieldA 4 (.tmp 1)), none, none⟩, ⟨none, (.store 1 (.tmp 46) (.con (.int .u64 0))), none, none⟩])) (.seq (.region [⟨(some 48), (.bin .eql (.tmp 20) (.con (.int .i64 4))), none, none⟩, ⟨(some 47), (.mv (.tmp 48)), none, none⟩]) (.cond (.tmp 47) (.region [⟨(some 49), (.fieldA 4 (.tmp 1)), none, none⟩, ⟨none, (.store 1 (.tmp 49) (.con (.int .u64 0))), none, none⟩]) .skip)))))))) (.seq (.region [⟨(some 50), (.load true 6 (.tmp 1)), none, none⟩, ⟨(some 51), (.mv (.tmp 4)), none, none⟩, ⟨none, (.store 6 (.tmp 2) (.tmp 50)), none, none⟩, ⟨(some 3), (.mv (.tmp 51)), none, none⟩]) .ret))))), [(.cell 2 true 6), (.tmp 3)]⟩
theorem c113_is : cfn Try.prog 113 = some c113 := by kernel_rfl
def c114 : AFn := ⟨(.seq (.region [⟨(some 2), (.mv (.con (.bool false))), none, none⟩]) (.seq (.seq (.region [⟨(some 4), (.mv (.tmp 0)), none, none⟩, ⟨(some 5), (.len true (.tmp 4)), none, none⟩, ⟨(some 6), (.bin .lss (.tmp 5) (.con (.int .i64 1))), none, none⟩, ⟨(some 7), (.mv (.tmp 6)), none, none⟩, ⟨(some 8), (.mv (.tmp 0)), (some (7, false)), none⟩, ⟨(some 9), (.len true (.tmp 8)), (some (7, false)), none⟩, ⟨(some 10), (.bin .gtr (.tmp 9) (.con (.int .i64 12))), (some (7, false)), none⟩, ⟨(some 11), (.pick (.tmp 7) (.con (.bool true)) (.tmp 10)), none, none⟩, ⟨(some 12), (.mv (.tmp 11)), none, none⟩, ⟨(some 13), (.mv (.tmp 0)), (some (12, false)), none⟩, ⟨(some 14), (.idxStr (.tmp 13) (.con (.int .i64 0))), (some (12, false)), none⟩, ⟨(some 15), (.bin .eql (.tmp 14) (.con (.int .u8 45))), (some (12, false)), none⟩, ⟨(some 16), (.pick (.tmp 12) (.con (.bool true)) (.tmp 15)), none, none⟩, ⟨(some 17), (.mv (.tmp 16)), none, none⟩, ⟨(some 18), (.mv (.tmp 0)), (some (17, false)), none⟩, ⟨(some 19), (.mv (.tmp 0)), (some (17, false)), none⟩, ⟨(some 20), (.len true (.tmp 19)), (some (17, false)), none⟩, ⟨(some 21), (.bin .sub (.tmp 20) (.con (.int .i64 1))), (some (17, false)), none⟩, ⟨(some 22), (.idxStr (.tmp 18) (.tmp 21)), (some (17, false)), none⟩, ⟨(some 23), (.bin .eql (.tmp 22) (.con (.int .u8 45))), (some (17, false)), none⟩, ⟨(some 24), (.pick (.tmp 17) (.con (.bool true)) (.tmp 23)), none, none⟩]) (.cond (.tmp 24) (.seq (.region [⟨(some 2), (.mv (.con (.bool false))), none, none⟩]) .ret) .skip)) (.seq (.seq (.region [⟨(some 3), (.mv (.con (.int .i64 0))), none, none⟩]) (.block 0 (.loop (.seq (.seq (.region [⟨(some 25), (.mv (.tmp 3)), none, none⟩, ⟨(some 26), (.mv (.tmp 0)), none, none⟩, ⟨(some 27), (.len true (.tmp 26)), none, none⟩, ⟨(some 28), (.bin .lss (.tmp 25) (.tmp 27)), none, none⟩]) (.cond (.tmp 28) .skip (.exit 0))) (.seq (.block 1 (.seq (.region [⟨(some 31), (.mv (.tmp 0)), none, none⟩, ⟨(some 32), (.mv (.tmp 3)), none, none⟩, ⟨(some 33), (.idxStr (.tmp 31) (.tmp 32)), none, none⟩, ⟨(some 34), (.call (.con (.func 137 [] [])) [(.tmp 33), (.con (.int .u8 97)), (.con (.int .u8 122))]), none, none⟩, ⟨(some 35), (.un .not (.tmp 34)), none, none⟩, ⟨(some 36), (.mv (.tmp 35)), none, none⟩, ⟨(some 37), (.mv (.tmp 0)), (some (36, true)), none⟩, ⟨(some 38), (.mv (.tmp 3)), (some (36, true)), none⟩, ⟨(some 39), (.idxStr (.tmp 37) (.tmp 38)), (some (36, true)), none⟩, ⟨(some 40), (.call (.con (.func 137 [] [])) [(.tmp 39), (.con (.int .u8 48)), (.con (.int .u8 57))]), (some (36, true)), none⟩, ⟨(some 41), (.un .not (.tmp 40)), (some (36, true)), none⟩, ⟨(some 42), (.pick (.tmp 36) (.tmp 41) (.con (.bool false))), none, none⟩, ⟨(some 43), (.mv (.tmp 42)), none, none⟩, ⟨(some 44), (.mv (.tmp 0)), (some (43, true)), none⟩, ⟨(some 45), (.mv (.tmp 3)), (some (43, true)), none⟩, ⟨(some 46), (.idxStr (.tmp 44) (.tmp 45)), (some (43, true)), none⟩, ⟨(some 47), (.bin .neq (.tmp 46) (.con (.int .u8 45))), (some (43, true)), none⟩, ⟨(some 48), (.pick (.tmp 43) (.tmp 47) (.con (.bool false))), none, none⟩]) (.cond (.tmp 48) (.seq (.region [⟨(some 2), (.mv (.con (.bool false))), none, none⟩]) .ret) .skip))) (.region [⟨(some 29), (.mv (.tmp 3)), none, none⟩, ⟨(some 30), (.bin .add (.tmp 29) (.con (.int .i64 1))), none, none⟩, ⟨(some 3), (.mv (.tmp 30)), none, none⟩])))))) (.seq (.region [⟨(some 2), (.mv (.con (.bool true))), none, none⟩]) .ret)))), [(.tmp 2)]⟩
theorem c114_is : cfn Try.prog 114 = some c114 := by kernel_rfl
def c115 : AFn := ⟨(.seq (.region [⟨(some 2), (.mv (.con (.bool false))), none, none⟩]) (.seq (.region [⟨(some 3), (.mv (.tmp 0)), none, none⟩, ⟨(some 4), (.bin .geq (.tmp 3) (.con (.int .i64 0))), none, none⟩, ⟨(some 5), (.mv (.tmp 4)), none, none⟩, ⟨(some 6), (.mv (.tmp 0)), (some (5, true)), none⟩, ⟨(some 7), (.bin .lss (.tmp 6) (.con (.int .i64 8))), (some (5, true)), none⟩, ⟨(some 8), (.pick (.tmp 5) (.tmp 7) (.con (.bool false))), none, none⟩, ⟨(some 2), (.mv (.tmp 8)), none, none⟩]) .ret)), [(.tmp 2)]⟩
theorem c115_is : cfn Try.prog 115 = some c115 := by kernel_rfl
def c116 : AFn := ⟨(.seq (.region [⟨(some 2), (.box (.tmp 0)), none, none⟩, ⟨(some 4), (.mv (.con (.str []))), none, none⟩]) (.seq (.region [⟨(some 8), (.load true 6 (.tmp 2)), none, none⟩, ⟨(some 9), (.call (.con (.func 67 [] [])) [(.tmp 8)]), none, none⟩, ⟨(some 7), (.mv (.tmp 9)), none, none⟩, ⟨(some 10), (.extract (.tmp 7) 0), none, none⟩, ⟨(some 11), (.extract (.tmp 7) 1), none, none⟩, ⟨(some 5), (.mv (.tmp 10)), none, none⟩, ⟨(some 6), (.mv (.tmp 11)), none, none⟩]) (.seq (.seq (.region [⟨(some 12), (.mv (.tmp 6)), none, none⟩, ⟨(some 13), (.bin .neq (.tmp 12) (.con (.int .i64 0))), none, none⟩]) (.cond (.tmp 13) (.seq (.region [⟨(some 4), (.mv (.con (.str []))), none, none⟩]) .ret) .skip)) (.seq (.region [⟨(some 14), (.mv (.tmp 5)), none, none⟩, ⟨(some 15), (.mv (.tmp 1)), none, none⟩, ⟨(some 16), (.slcStr (.tmp 14) none (some (.tmp 15))), none, none⟩, ⟨(some 4), (.mv (.tmp 16)), none, none⟩]) .ret)))), [(.tmp 4)]⟩
theorem c116_is : cfn Try.prog 116 = some c116 := by kernel_rfl
def c117 : AFn := ⟨(.seq (.region [⟨(some 2), (.mv (.con (.int .i64 0))), none, none⟩]) (.seq (.region [⟨(some 4), (.mv (.tmp 0)), none, none⟩, ⟨(some 5), (.bin .neq (.tmp 4) (.con (.str []))), none, none⟩, ⟨(some 6), (.mv (.tmp 5)), none, none⟩, ⟨(some 7), (.mv (.tmp 0)), (some (6, true)), none⟩, ⟨(some 8), (.len true (.tmp 7)), (some (6, true)), none⟩, ⟨(some 9), (.bin .leq (.tmp 8) (.con (.int .i64 12))), (some (6, true)), none⟩, ⟨(some 10), (.pick (.tmp 6) (.tmp 9) (.con (.bool false))), none, none⟩, ⟨(some 11), (.mv (.tmp 10)), none, none⟩, ⟨(some 12), (.mv (.tmp 0)), (some (11, true)), none⟩, ⟨(some 13), (.idxStr (.tmp 12) (.con (.int .i64 0))), (some (11, true)), none⟩, ⟨(some 14), (.bin .neq (.tmp 13) (.con (.int .u8 45))), (some (11, true)), none⟩, ⟨(some 15), (.pick (.tmp 11) (.tmp 14) (.con (.bool false))), none, none⟩, ⟨(some 16), (.mv (.tmp 15)), none, none⟩, ⟨(some 17), (.mv (.tmp 0)), (some (16, true)), none⟩, ⟨(some 18), (.mv (.tmp 0)), (some (16, true)), none⟩, ⟨(some 19), (.len true (.tmp 18)), (some (16, true)), none⟩, ⟨(some 20), (.bin .sub (.tmp 19) (.con (.int .i64 1))), (some (16, true)), none⟩, ⟨(some 21), (.idxStr (.tmp 17) (.tmp 20)), (some (16, true)), none⟩, ⟨(some 22), (.bin .neq (.tmp 21) (.con (.int .u8 45))), (some (16, true)), none⟩, ⟨(some 23), (.pick (.tmp 16) (.tmp 22) (.con (.bool false))), none, none⟩, ⟨(some 3), (.mv (.tmp 23)), none, none⟩]) (.seq (.region [⟨(some 24), (.mv (.tmp 3)), none, none⟩, ⟨(some 25), (.mv (.tmp 24)), none, none⟩, ⟨(some 26), (.mv (.tmp 0)), (some (25, true)), none⟩, ⟨(some 27), (.call (.con (.func 138 [] [])) [(.tmp 26), (.con (.func 139 [] []))]), (some (25, true)), none⟩, ⟨(some 28), (.pick (.tmp 25) (.tmp 27) (.con (.bool false))), none, none⟩, ⟨(some 29), (.call (.con (.func 131 [] [])) [(.tmp 28)]), none, none⟩, ⟨(some 2), (.mv (.tmp 29)), none, none⟩]) .ret))), [(.tmp 2)]⟩
theorem c117_is : cfn Try.prog 117 = some c117 := by kernel_rfl
def c127 : AFn := ⟨(.seq (.region [⟨(some 1), (.box (.tmp 0)), none, none⟩, ⟨(some 2), (.mv (.con (.int .i64 0))), none, none⟩]) (.seq (.seq (.region [⟨(some 3), (.fieldA 0 (.tmp 1)), none, none⟩, ⟨(some 4), (.load false 1 (.tmp 3)), none, none⟩, ⟨(some 5), (.call (.con (.func 148 [] [])) [(.tmp 4)]), none, none⟩, ⟨(some 6), (.un .not (.tmp 5)), none, none⟩, ⟨(some 7), (.mv (.tmp 6)), none, none⟩, ⟨(some 8), (.fieldA 1 (.tmp 1)), (some (7, false)), none⟩, ⟨(some 9), (.load false 1 (.tmp 8)), (some (7, false)), none⟩, ⟨(some 10), (.call (.con (.func 148 [] [])) [(.tmp 9)]), (some (7, false)), none⟩, ⟨(some 11), (.un .not (.tmp 10)), (some (7, false)), none⟩, ⟨(some 12), (.pick (.tmp 7) (.con (.bool true)) (.tmp 11)), none, none⟩]) (.cond (.tmp 12) (.seq (.region [⟨(some 2), (.mv (.con (.int .i64 18))), none, none⟩]) .ret) .skip)) (.seq (.region [⟨(some 2), (.mv (.con (.int .i64 0))), none, none⟩]) .ret))), [(.tmp 2)]⟩
theorem c127_is : cfn Try.prog 127 = some c127 := by kernel_rfl
def c128 : AFn := ⟨(.seq (.region [⟨(some 1), (.box (.tmp 0)), none, none⟩, ⟨(some 2), (.mv (.con (.int .i64 0))), none, none⟩]) (.seq (.seq (.region [⟨(some 3), (.fieldA 0 (.tmp 1)), none, none⟩, ⟨(some 4), (.load false 1 (.tmp 3)), none, none⟩, ⟨(some 5), (.call (.con (.func 149 [] [])) [(.tmp 4)]), none, none⟩, ⟨(some 6), (.un .not (.tmp 5)), none, none⟩, ⟨(some 7), (.mv (.tmp 6)), none, none⟩, ⟨(some 8), (.fieldA 1 (.tmp 1)), (some (7, false)), none⟩, ⟨(some 9), (.load false 1 (.tmp 8)), (some (7, false)), none⟩, ⟨(some 10), (.call (.con (.func 149 [] [])) [(.tmp 9)]), (some (7, false)), none⟩, ⟨(some 11), (.un .not (.tmp 10)), (some (7, false)), none⟩, ⟨(some 12), (.pick (.tmp 7) (.con (.bool true)) (.tmp 11)), none, none⟩]) (.cond (.tmp 12) (.seq (.region [⟨(some 2), (.mv (.con (.int .i64 18))), none, none⟩]) .ret) .skip)) (.seq (.region [⟨(some 2), (.mv (.con (.int .i64 0))), none, none⟩]) .ret))), [(.tmp 2)]⟩
theorem c128_is : cfn Try.prog 128 = some c128 := by kernel_rfl
def c129 : AFn := ⟨(.seq (.region [⟨(some 2), (.mv (.con (.bool false))), none, none⟩]) (.seq (.region [⟨(some 3), (.mv (.tmp 0)), none, none⟩, ⟨(some 4), (.bin .geq (.tmp 3) (.con (.int .i64 0))), none, none⟩, ⟨(some 5), (.mv (.tmp 4)), none, none⟩, ⟨(some 6), (.mv (.tmp 0)), (some (5, true)), none⟩, ⟨(some 7), (.bin .leq (.tmp 6) (.con (.int .i64 1125899906842624))), (some (5, true)), none⟩, ⟨(some 8), (.pick (.tmp 5) (.tmp 7) (.con (.bool false))), none, none⟩, ⟨(some 2), (.mv (.tmp 8)), none, none⟩]) .ret)), [(.tmp 2)]⟩
theorem c129_is : cfn Try.prog 129 = some c129 := by kernel_rfl
def c130 : AFn := ⟨(.seq (.region [⟨(some 2), (.mv (.con (.str []))), none, none⟩]) (.seq (.region [⟨(some 3), (.mv (.tmp 0)), none, none⟩, ⟨(some 4), (.toInt .u64 (.tmp 3)), none, none⟩, ⟨(some 5), (.call (.con (.func 22 [] [])) [(.con (.int .i64 8)), (.tmp 4)]), none, none⟩, ⟨(some 2), (.mv (.tmp 5)), none, none⟩]) .ret)), [(.tmp 2)]⟩
theorem c130_is : cfn Try.prog 130 = some c130 := by kernel_rfl
def c131 : AFn := ⟨(.seq (.region [⟨(some 2), (.mv (.con (.int .i64 0))), none, none⟩]) (.seq (.seq (.region [⟨(some 3), (.mv (.tmp 0)), none, none⟩, ⟨(some 4), (.un .not (.tmp 3)), none, none⟩]) (.cond (.tmp 4) (.seq (.region [⟨(some 2), (.mv (.con (.int .i64 18))), none, none⟩]) .ret) .skip)) (.seq (.region [⟨(some 2), (.mv (.con (.int .i64 0))), none, none⟩]) .ret))), [(.tmp 2)]⟩
theorem c131_is : cfn Try.prog 131 = some c131 := by kernel_rfl
def c132 : AFn := ⟨(.seq (.region [⟨(some 2), (.mv (.con (.int .i64 0))), none, none⟩]) (.seq (.region [⟨(some 3), (.mv (.tmp 0)), none, none⟩, ⟨(some 4), (.len true (.tmp 3)), none, none⟩, ⟨(some 5), (.bin .leq (.tmp 4) (.con (.int .i64 24))), none, none⟩, ⟨(some 6), (.mv (.tmp 5)), none, none⟩, ⟨(some 7), (.mv (.tmp 0)), (some (6, true)), none⟩, ⟨(some 8), (.call (.con (.func 138 [] [])) [(.tmp 7), (.con (.func 150 [] []))]), (some (6, true)), none⟩, ⟨(some 9), (.pick (.tmp 6) (.tmp 8) (.con (.bool false))), none, none⟩, ⟨(some 10), (.call (.con (.func 131 [] [])) [(.tmp 9)]), none, none⟩, ⟨(some 2), (.mv (.tmp 10)), none, none⟩]) .ret)), [(.tmp 2)]⟩
theorem c132_is : cfn Try.prog 132 = some c132 := by kernel_rfl
def c133 : AFn := ⟨(.seq (.region [⟨(some 2), (.mv (.con (.bool false))), none, none⟩]) (.seq (.seq (.region [⟨(some 3), (.mv (.con (.int .i64 0))), none, none⟩]) (.block 0 (.loop (.seq (.seq (.region [⟨(some 4), (.mv (.tmp 3)), none, none⟩, ⟨(some 5), (.mv (.tmp 0)), none, none⟩, ⟨(some 6), (.len true (.tmp 5)), none, none⟩, ⟨(some 7), (.bin .lss (.tmp 4) (.tmp 6)), none, none⟩]) (.cond (.tmp 7) .skip (.exit 0))) (.seq (.block 1 (.seq (.region [⟨(some 10), (.mv (.tmp 0)), none, none⟩, ⟨(some 11), (.mv (.tmp 3)), none, none⟩, ⟨(some 12), (.idxStr (.tmp 10) (.tmp 11)), none, none⟩, ⟨(some 13), (.bin .eql (.tmp 12) (.con (.int .u8 0))), none, none⟩]) (.cond (.tmp 13) (.seq (.region [⟨(some 2), (.mv (.con (.bool false))), none, none⟩]) .ret) .skip))) (.region [⟨(some 8), (.mv (.tmp 3)), none, none⟩, ⟨(some 9), (.bin .add (.tmp 8) (.con (.int .i64 1))), none, none⟩, ⟨(some 3), (.mv (.tmp 9)), none, none⟩])))))) (.seq (.region [⟨(some 14), (.mv (.tmp 0)), none, none⟩, ⟨(some 15), (.len true (.tmp 14)), none, none⟩, ⟨(some 16), (.bin .leq (.tmp 15) (.con (.int .i64 24))), none, none⟩, ⟨(some 2), (.mv (.tmp 16)), none, none⟩]) .ret))), [(.tmp 2)]⟩
theorem c133_is : cfn Try.prog 133 = some c133 := by kernel_rfl
def c134 : AFn := ⟨(.seq (.region [⟨(some 4), (.mv (.con (.str []))), none, none⟩, ⟨(some 5), (.mv (.con (.str []))), none, none⟩, ⟨(some 6), (.mv (.con (.bool false))), none, none⟩]) (.seq (.seq (.region [⟨(some 8), (.mv (.tmp 0)), none, none⟩, ⟨(some 9), (.mv (.tmp 1)), none, none⟩, ⟨(some 10), (.call (.con (.func 147 [] [])) [(.tmp 8), (.tmp 9)]), none, none⟩, ⟨(some 7), (.mv (.tmp 10)), none, none⟩]) (.seq (.region [⟨(some 11), (.mv (.tmp 7)), none, none⟩, ⟨(some 12), (.bin .geq (.tmp 11) (.con (.int .i64 0))), none, none⟩]) (.cond (.tmp 12) (.seq (.draw [⟨(some 13), (.mv (.tmp 0)), none, none⟩, ⟨(some 14), (.mv (.tmp 7)), none, none⟩, ⟨(some 15), (.slcStr (.tmp 13) none (some (.tmp 14))), none, none⟩, ⟨(some 16), (.mv (.tmp 0)), none, none⟩, ⟨(some 17), (.mv (.tmp 7)), none, none⟩, ⟨(some 18), (.mv (.tmp 1)), none, none⟩, ⟨(some 19), (.len true (.tmp 18)), none, none⟩, ⟨(some 20), (.bin .add (.tmp 17) (.tmp 19)), none, none⟩, ⟨(some 21), (.slcStr (.tmp 16) (some (.tmp 20)) none), none, none⟩, ⟨(some 4), (.mv (.tmp 15)), none, none⟩, ⟨(some 5), (.mv (.tmp 21)), none, none⟩, ⟨(some 6), (.mv (.con (.bool true))), none, none⟩]) .ret) .skip))) (.seq (.region [⟨(some 22), (.mv (.tmp 0)), none, none⟩, ⟨(some 4), (.mv (.tmp 22)), none, none⟩, ⟨(some 5), (.mv (.con (.str []))), none, none⟩, ⟨(some 6), (.mv (.con (.bool false))), none, none⟩]) .ret))), [(.tmp 4), (.tmp 5), (.tmp 6)]⟩
theorem c134_is : cfn Try.prog 134 = some c134 := by kernel_rfl
def c136 : AFn := ⟨(.seq (.region [⟨(some 4), (.mv (.con (.str []))), none, none⟩]) (.seq (.region [⟨(some 5), (.mv (.tmp 0)), none, none⟩, ⟨(some 6), (.mv (.tmp 1)), none, none⟩, ⟨(some 7), (.call (.con (.func 152 [] [])) [(.tmp 5), (.tmp 6)]), none, none⟩, ⟨(some 4), (.mv (.tmp 7)), none, none⟩]) .ret)), [(.tmp 4)]⟩
theorem c136_is : cfn Try.prog 136 = some c136 := by kernel_rfl
def c137 : AFn := ⟨(.seq (.region [⟨(some 6), (.mv (.con (.bool false))), none, none⟩]) (.seq (.region [⟨(some 7), (.mv (.tmp 0)), none, none⟩, ⟨(some 8), (.mv (.tmp 1)), none, none⟩, ⟨(some 9), (.bin .geq (.tmp 7) (.tmp 8)), none, none⟩, ⟨(some 10), (.mv (.tmp 9)), none, none⟩, ⟨(some 11), (.mv (.tmp 0)), (some (10, true)), none⟩, ⟨(some 12), (.mv (.tmp 2)), (some (10, true)), none⟩, ⟨(some 13), (.bin .leq (.tmp 11) (.tmp 12)), (some (10, true)), none⟩, ⟨(some 14), (.pick (.tmp 10) (.tmp 13) (.con (.bool false))), none, none⟩, ⟨(some 6), (.mv (.tmp 14)), none, none⟩]) .ret)), [(.tmp 6)]⟩
theorem c137_is : cfn Try.prog 137 = some c137 := by kernel_rfl
def c138 : AFn := ⟨(.seq (.region [⟨(some 3), (.box (.tmp 1)), none, none⟩, ⟨(some 4), (.mv (.con (.bool false))), none, none⟩]) (.seq (.region [⟨(some 5), (.mv (.tmp 0)), none, none⟩, ⟨(some 6), (.sToB (.tmp 5)), none, none⟩, ⟨(some 7), (.mkFn 154 [] [(.tmp 3)]), none, none⟩, ⟨(some 8), (.call (.con (.func 153 [] [])) [(.tmp 6), (.tmp 7)]), none, none⟩, ⟨(some 9), (.un .not (.tmp 8)), none, none⟩, ⟨(some 4), (.mv (.tmp 9)), none, none⟩]) .ret)), [(.tmp 4)]⟩
theorem c138_is : cfn Try.prog 138 = some c138 := by kernel_rfl
def c139 : AFn := ⟨(.seq (.region [⟨(some 2), (.mv (.con (.bool false))), none, none⟩]) (.seq (.region [⟨(some 3), (.mv (.tmp 0)), none, none⟩, ⟨(some 4), (.call (.con (.func 140 [] [])) [(.tmp 3)]), none, none⟩, ⟨(some 5), (.mv (.tmp 4)), none, none⟩, ⟨(some 6), (.mv (.tmp 0)), (some (5, false)), none⟩, ⟨(some 7), (.call (.con (.func 141 [] [])) [(.tmp 6)]), (some (5, false)), none⟩, ⟨(some 8), (.pick (.tmp 5) (.con (.bool true)) (.tmp 7)), none, none⟩, ⟨(some 9), (.mv (.tmp 8)), none, none⟩, ⟨(some 10), (.mv (.tmp 0)), (some (9, false)), none⟩, ⟨(some 11), (.bin .eql (.tmp 10) (.con (.int .u8 45))), (some (9, false)), none⟩, ⟨(some 12), (.pick (.tmp 9) (.con (.bool true)) (.tmp 11)), none, none⟩, ⟨(some 2), (.mv (.tmp 12)), none, none⟩]) .ret)), [(.tmp 2)]⟩
theorem c139_is : cfn Try.prog 139 = some c139 := by kernel_rfl
def c140 : AFn := ⟨(.seq (.region [⟨(some 2), (.mv (.con (.bool false))), none, none⟩]) (.seq (.region [⟨(some 3), (.mv (.tmp 0)), none, none⟩, ⟨(some 4), (.bin .geq (.tmp 3) (.con (.int .u8 48))), none, none⟩, ⟨(some 5), (.mv (.tmp 4)), none, none⟩, ⟨(some 6), (.mv (.tmp 0)), (some (5, true)), none⟩, ⟨(some 7), (.bin .leq (.tmp 6) (.con (.int .u8 57))), (some (5, true)), none⟩, ⟨(some 8), (.pick (.tmp 5) (.tmp 7) (.con (.bool false))), none, none⟩, ⟨(some 2), (.mv (.tmp 8)), none, none⟩]) .ret)), [(.tmp 2)]⟩
theorem c140_is : cfn Try.prog 140 = some c140 := by kernel_rfl
def c141 : AFn := ⟨(.seq (.region [⟨(some 2), (.mv (.con (.bool false))), none, none⟩]) (.seq (.region [⟨(some 3), (.mv (.tmp 0)), none, none⟩, ⟨(some 4), (.bin .geq (.tmp 3) (.con (.int .u8 97))), none, none⟩, ⟨(some 5), (.mv (.tmp 4)), none, none⟩, ⟨(some 6), (.mv (.tmp 0)), (some (5, true)), none⟩, ⟨(some 7), (.bin .leq (.tmp 6) (.con (.int .u8 122))), (some (5, true)), none⟩, ⟨(some 8), (.pick (.tmp 5) (.tmp 7) (.con (.bool false))), none, none⟩, ⟨(some 2), (.mv (.tmp 8)), none, none⟩]) .ret)), [(.tmp 2)]⟩
theorem c141_is : cfn Try.prog 141 = some c141 := by kernel_rfl
def c147 : AFn := ⟨(.seq (.region [⟨(some 4), (.mv (.con (.int .i64 0))), none, none⟩]) (.seq (.region [⟨(some 14), (.mv (.tmp 1)), none, none⟩, ⟨(some 15), (.len true (.tmp 14)), none, none⟩, ⟨(some 5), (.mv (.tmp 15)), none, none⟩]) (.seq (.block 0 (.seq (.region [⟨(some 17), (.mv (.tmp 5)), none, none⟩, ⟨(some 18), (.bin .eql (.tmp 17) (.con (.int .i64 0))), none, none⟩, ⟨(some 19), (.mv (.tmp 18)), none, none⟩, ⟨(some 20), (.mv (.tmp 1)), (some (19, false)), none⟩, ⟨(some 21), (.mv (.tmp 0)), (some (19, false)), none⟩, ⟨(some 22), (.bin .eql (.tmp 20) (.tmp 21)), (some (19, false)), none⟩, ⟨(some 23), (.pick (.tmp 19) (.con (.bool true)) (.tmp 22)), none, none⟩, ⟨(some 16), (.mv (.tmp 23)), none, none⟩]) (.cond (.tmp 16) (.seq (.region [⟨(some 4), (.mv (.con (.int .i64 0))), none, none⟩]) .ret) (.seq (.region [⟨(some 25), (.mv (.tmp 5)), none, none⟩, ⟨(some 26), (.bin .eql (.tmp 25) (.con (.int .i64 1))), none, none⟩, ⟨(some 24), (.mv (.tmp 26)), none, none⟩]) (.cond (.tmp 24) (.seq (.region [⟨(some 27), (.mv (.tmp 0)), none, none⟩, ⟨(some 28), (.mv (.tmp 1)), none, none⟩, ⟨(some 29), (.idxStr (.tmp 28) (.con (.int .i64 0))), none, none⟩, ⟨(some 30), (.call (.con (.func 135 [] [])) [(.tmp 27), (.tmp 29)]), none, none⟩, ⟨(some 4), (.mv (.tmp 30)), none, none⟩]) .ret) (.seq (.region [⟨(some 32), (.mv (.tmp 5)), none, none⟩, ⟨(some 33), (.mv (.tmp 0)), none, none⟩, ⟨(some 34), (.len true (.tmp 33)), none, none⟩, ⟨(some 35), (.bin .geq (.tmp 32) (.tmp 34)), none, none⟩, ⟨(some 31), (.mv (.tmp 35)), none, none⟩]) (.cond (.tmp 31) (.seq (.region [⟨(some 4), (.mv (.con (.int .i64 (-1)))), none, none⟩]) .ret) (.seq (.region [⟨(some 37), (.mv (.tmp 5)), none, none⟩, ⟨(some 38), .die, none, none⟩, ⟨(some 39), (.bin .leq (.tmp 37) (.tmp 38)), none, none⟩, ⟨(some 40), (.mv (.tmp 39)), none, none⟩, ⟨(some 41), (.mv (.tmp 0)), (some (40, true)), none⟩, ⟨(some 42), (.len true (.tmp 41)), (some (40, true)), none⟩, ⟨(some 43), (.bin .leq (.tmp 42) (.con (.int .i64 64))), (some (40, true)), none⟩, ⟨(some 44), (.pick (.tmp 40) (.tmp 43) (.con (.bool false))), none, none⟩, ⟨(some 36), (.mv (.tmp 44)), none, none⟩]) (.cond (.tmp 36) (.seq (.region [⟨(some 45), (.mv (.tmp 0)), none, none⟩, ⟨(some 46), (.mv (.tmp 1)), none, none⟩, ⟨(some 47), (.call (.con (.func 157 [] [])) [(.tmp 45), (.tmp 46)]), none, none⟩, ⟨(some 4), (.mv (.tmp 47)), none, none⟩]) .ret) .skip))))))))) (.seq (.region [⟨(some 48), (.mv (.tmp 1)), none, none⟩, ⟨(some 49), (.idxStr (.tmp 48) (.con (.int .i64 0))), none, none⟩, ⟨(some 6), (.mv (.tmp 49)), none, none⟩]) (.seq (.region [⟨(some 50), (.mv (.tmp 1)), none, none⟩, ⟨(some 51), (.idxStr (.tmp 50) (.con (.int .i64 1))), none, none⟩, ⟨(some 7), (.mv (.tmp 51)), none, none⟩]) (.seq (.region [⟨(some 8), (.mv (.con (.int .i64 0))), none, none⟩]) (.seq (.region [⟨(some 52), (.mv (.tmp 0)), none, none⟩, ⟨(some 53), (.len true (.tmp 52)), none, none⟩, ⟨(some 54), (.mv (.tmp 5)), none, none⟩, ⟨(some 55), (.bin .sub (.tmp 53) (.tmp 54)), none, none⟩, ⟨(some 56), (.bin .add (.tmp 55) (.con (.int .i64 1))), none, none⟩, ⟨(some 9), (.mv (.tmp 56)), none, none⟩]) (.seq (.region [⟨(some 10), (.mv (.con (.int .i64 0))), none, none⟩]) (.seq (.block 1 (.loop (.seq (.seq (.region [⟨(some 57), (.mv (.tmp 8)), none, none⟩, ⟨(some 58), (.mv (.tmp 9)), none, none⟩, ⟨(some 59), (.bin .lss (.tmp 57) (.tmp 58)), none, none⟩]) (.cond (.tmp 59) .skip (.exit 1))) (.block 2 (.seq (.seq (.region [⟨(some 60), (.mv (.tmp 0)), none, none⟩, ⟨(some 61), (.mv (.tmp 8)), none, none⟩, ⟨(some 62), (.idxStr (.tmp 60) (.tmp 61)), none, none⟩, ⟨(some 63), (.mv (.tmp 6)), none, none⟩, ⟨(some 64), (.bin .neq (.tmp 62) (.tmp 63)), none, none⟩]) (.cond (.tmp 64) (.seq (.region [⟨(some 65), (.mv (.tmp 0)), none, none⟩, ⟨(some 66), (.mv (.tmp 8)), none, none⟩, ⟨(some 67), (.bin .add (.tmp 66) (.con (.int .i64 1))), none, none⟩, ⟨(some 68), (.mv (.tmp 9)), none, none⟩, ⟨(some 69), (.slcStr (.tmp 65) (some (.tmp 67)) (some (.tmp 68))), none, none⟩, ⟨(some 70), (.mv (.tmp 6)), none, none⟩, ⟨(some 71), (.call (.con (.func 135 [] [])) [(.tmp 69), (.tmp 70)]), none, none⟩, ⟨(some 11), (.mv (.tmp 71)), none, none⟩]) (.seq (.seq (.region [⟨(some 72), (.mv (.tmp 11)), none, none⟩, ⟨(some 73), (.bin .lss (.tmp 72) (.con (.int .i64 0))), none, none⟩]) (.cond (.tmp 73) (.seq (.region [⟨(some 4), (.mv (.con (.int .i64 (-1)))), none, none⟩]) .ret) .skip)) (.region [⟨(some 74), (.mv (.tmp 8)), none, none⟩, ⟨(some 75), (.mv (.tmp 11)), none, none⟩, ⟨(some 76), (.bin .add (.tmp 75) (.con (.int .i64 1))), none, none⟩, ⟨(some 77), (.bin .add (.tmp 74) (.tmp 76)), none, none⟩, ⟨(some 8), (.mv (.tmp 77)), none, none⟩]))) .skip)) (.seq (.seq (.region [⟨(some 78), (.mv (.tmp 0)), none, none⟩, ⟨(some 79), (.mv (.tmp 8)), none, none⟩, ⟨(some 80), (.bin .add (.tmp 79) (.con (.int .i64 1))), none, none⟩, ⟨(some 81), (.idxStr (.tmp 78) (.tmp 80)), none, none⟩, ⟨(some 82), (.mv (.tmp 7)), none, none⟩, ⟨(some 83), (.bin .eql (.tmp 81) (.tmp 82)), none, none⟩, ⟨(some 84), (.mv (.tmp 83)), none, none⟩, ⟨(some 85), (.mv (.tmp 0)), (some (84, true)), none⟩, ⟨(some 86), (.mv (.tmp 8)), (some (84, true)), none⟩, ⟨(some 87), (.mv (.tmp 8)), (some (84, true)), none⟩, ⟨(some 88), (.mv (.tmp 5)), (some (84, true)), none⟩, ⟨(some 89), (.bin .add (.tmp 87) (.tmp 88)), (some (84, true)), none⟩, ⟨(some 90), (.slcStr (.tmp 85) (some (.tmp 86)) (some (.tmp 89))), (some (84, true)), none⟩, ⟨(some 91), (.mv (.tmp 1)), (some (84, true)), none⟩, ⟨(some 92), (.bin .eql (.tmp 90) (.tmp 91)), (some (84, true)), none⟩, ⟨(some 93), (.pick (.tmp 84) (.tmp 92) (.con (.bool false))), none, none⟩]) (.cond (.tmp 93) (.seq (.region [⟨(some 94), (.mv (.tmp 8)), none, none⟩, ⟨(some 4), (.mv (.tmp 94)), none, none⟩]) .ret) .skip)) (.seq (.region [⟨(some 95), (.mv (.tmp 8)), none, none⟩, ⟨(some 96), (.bin .add (.tmp 95) (.con (.int .i64 1))), none, none⟩, ⟨(some 8), (.mv (.tmp 96)), none, none⟩]) (.seq (.region [⟨(some 97), (.mv (.tmp 10)), none, none⟩, ⟨(some 98), (.bin .add (.tmp 97) (.con (.int .i64 1))), none, none⟩, ⟨(some 10), (.mv (.tmp 98)), none, none⟩]) (.seq (.region [⟨(some 99), (.mv (.tmp 5)), none, none⟩, ⟨(some 100), .die, none, none⟩, ⟨(some 101), (.bin .leq (.tmp 99) (.tmp 100)), none, none⟩, ⟨(some 102), (.mv (.tmp 101)), none, none⟩, ⟨(some 103), (.mv (.tmp 10)), (some (102, true)), none⟩, ⟨(some 104), (.mv (.tmp 8)), (some (102, true)), none⟩, ⟨(some 105), (.call (.con (.func 158 [] [])) [(.tmp 104)]), (some (102, true)), none⟩, ⟨(some 106), (.bin .gtr (.tmp 103) (.tmp 105)), (some (102, true)), none⟩, ⟨(some 107), (.pick (.tmp 102) (.tmp 106) (.con (.bool false))), none, none⟩]) (.cond (.tmp 107) (.seq (.region [⟨(some 108), (.mv (.tmp 0)), none, none⟩, ⟨(some 109), (.mv (.tmp 8)), none, none⟩, ⟨(some 110), (.slcStr (.tmp 108) (some (.tmp 109)) none), none, none⟩, ⟨(some 111), (.mv (.tmp 1)), none, none⟩, ⟨(some 112), (.call (.con (.func 157 [] [])) [(.tmp 110), (.tmp 111)]), none, none⟩, ⟨(some 12), (.mv (.tmp 112)), none, none⟩]) (.seq (.seq (.region [⟨(some 113), (.mv (.tmp 12)), none, none⟩, ⟨(some 114), (.bin .geq (.tmp 113) (.con (.int .i64 0))), none, none⟩]) (.cond (.tmp 114) (.seq (.region [⟨(some 115), (.mv (.tmp 12)), none, none⟩, ⟨(some 116), (.mv (.tmp 8)), none, none⟩, ⟨(some 117), (.bin .add (.tmp 115) (.tmp 116)), none, none⟩, ⟨(some 4), (.mv (.tmp 117)), none, none⟩]) .ret) .skip)) (.seq (.region [⟨(some 4), (.mv (.con (.int .i64 (-1)))), none, none⟩]) .ret))) (.seq (.region [⟨(some 118), (.mv (.tmp 5)), none, none⟩, ⟨(some 119), .die, none, none⟩, ⟨(some 120), (.bin .gtr (.tmp 118) (.tmp 119)), none, none⟩, ⟨(some 121), (.mv (.tmp 120)), none, none⟩, ⟨(some 122), (.mv (.tmp 10)), (some (121, true)), none⟩, ⟨(some 123), (.mv (.tmp 8)), (some (121, true)), none⟩, ⟨(some 124), (.bin .shr (.tmp 123) (.con (.int .u64 4))), (some (121, true)), none⟩, ⟨(some 125), (.bin .add (.con (.int .i64 4)) (.tmp 124)), (some (121, true)), none⟩, ⟨(some 126), (.bin .geq (.tmp 122) (.tmp 125)), (some (121, true)), none⟩, ⟨(some 127), (.pick (.tmp 121) (.tmp 126) (.con (.bool false))), none, none⟩, ⟨(some 128), (.mv (.tmp 127)), none, none⟩, ⟨(some 129), (.mv (.tmp 8)), (some (128, true)), none⟩, ⟨(some 130), (.mv (.tmp 9)), (some (128, true)), none⟩, ⟨(some 131), (.bin .lss (.tmp 129) (.tmp 130)), (some (128, true)), none⟩, ⟨(some 132), (.pick (.tmp 128) (.tmp 131) (.con (.bool false))), none, none⟩]) (.cond (.tmp 132) (.seq (.region [⟨(some 133), (.mv (.tmp 0)), none, none⟩, ⟨(some 134), (.mv (.tmp 8)), none, none⟩, ⟨(some 135), (.slcStr (.tmp 133) (some (.tmp 134)) none), none, none⟩, ⟨(some 136), (.mv (.tmp 1)), none, none⟩, ⟨(some 137), (.call (.con (.func 159 [] [])) [(.tmp 135), (.tmp 136)]), none, none⟩, ⟨(some 13), (.mv (.tmp 137)), none, none⟩]) (.seq (.seq (.region [⟨(some 138), (.mv (.tmp 13)), none, none⟩, ⟨(some 139), (.bin .lss (.tmp 138) (.con (.int .i64 0))), none, none⟩]) (.cond (.tmp 139) (.seq (.region [⟨(some 4), (.mv (.con (.int .i64 (-1)))), none, none⟩]) .ret) .skip)) (.seq (.region [⟨(some 140), (.mv (.tmp 8)), none, none⟩, ⟨(some 141), (.mv (.tmp 13)), none, none⟩, ⟨(some 142), (.bin .add (.tmp 140) (.tmp 141)), none, none⟩, ⟨(some 4), (.mv (.tmp 142)), none, none⟩]) .ret))) .skip)))))))))))) (.seq (.region [⟨(some 4), (.mv (.con (.int .i64 (-1)))), none, none⟩]) .ret)))))))))), [(.tmp 4)]⟩
theorem c147_is : cfn Try.prog 147 = some c147 := by kernel_rfl
def c148 : AFn := ⟨(.seq (.region [⟨(some 2), (.mv (.con (.bool false))), none, none⟩]) (.seq (.region [⟨(some 3), (.mv (.tmp 0)), none, none⟩, ⟨(some 4), (.bin .eql (.tmp 3) (.con (.int .i64 (-1)))), none, none⟩, ⟨(some 5), (.mv (.tmp 4)), none, none⟩, ⟨(some 6), (.mv (.tmp 0)), (some (5, false)), none⟩, ⟨(some 7), (.call (.con (.func 149 [] [])) [(.tmp 6)]), (some (5, false)), none⟩, ⟨(some 8), (.pick (.tmp 5) (.con (.bool true)) (.tmp 7)), none, none⟩, ⟨(some 2), (.mv (.tmp 8)), none, none⟩]) .ret)), [(.tmp 2)]⟩
theorem c148_is : cfn Try.prog 148 = some c148 := by kernel_rfl
def c149 : AFn := ⟨(.seq (.region [⟨(some 2), (.mv (.con (.bool false))), none, none⟩]) (.seq (.region [⟨(some 3), (.mv (.tmp 0)), none, none⟩, ⟨(some 4), (.bin .geq (.tmp 3) (.con (.int .i64 0))), none, none⟩, ⟨(some 5), (.mv (.tmp 4)), none, none⟩, ⟨(some 6), (.mv (.tmp 0)), (some (5, true)), none⟩, ⟨(some 7), (.bin .leq (.tmp 6) (.con (.int .i64 1125899906842624))), (some (5, true)), none⟩, ⟨(some 8), (.pick (.tmp 5) (.tmp 7) (.con (.bool false))), none, none⟩, ⟨(some 2), (.mv (.tmp 8)), none, none⟩]) .ret)), [(.tmp 2)]⟩
theorem c149_is : cfn Try.prog 149 = some c149 := by kernel_rfl
def c150 : AFn := ⟨(.seq (.region [⟨(some 2), (.mv (.con (.bool false))), none, none⟩]) (.seq (.region [⟨(some 3), (.mv (.tmp 0)), none, none⟩, ⟨(some 4), (.bin .neq (.tmp 3) (.con (.int .u8 0))), none, none⟩, ⟨(some 2), (.mv (.tmp 4)), none, none⟩]) .ret)), [(.tmp 2)]⟩
theorem c150_is : cfn Try.prog 150 = some c150 := by kernel_rfl
def c152 : AFn := ⟨(.seq (.region [⟨(some 4), (.mv (.con (.str []))), none, none⟩]) (.seq (.seq (.region [⟨(some 5), (.mv (.tmp 0)), none, none⟩, ⟨(some 6), (.mv (.tmp 1)), none, none⟩, ⟨(some 7), (.call (.con (.func 160 [] [])) [(.tmp 5), (.tmp 6)]), none, none⟩]) (.cond (.tmp 7) (.seq (.region [⟨(some 8), (.mv (.tmp 0)), none, none⟩, ⟨(some 9), (.mv (.tmp 0)), none, none⟩, ⟨(some 10), (.len true (.tmp 9)), none, none⟩, ⟨(some 11), (.mv (.tmp 1)), none, none⟩, ⟨(some 12), (.len true (.tmp 11)), none, none⟩, ⟨(some 13), (.bin .sub (.tmp 10) (.tmp 12)), none, none⟩, ⟨(some 14), (.slcStr (.tmp 8) none (some (.tmp 13))), none, none⟩, ⟨(some 4), (.mv (.tmp 14)), none, none⟩]) .ret) .skip)) (.seq (.region [⟨(some 15), (.mv (.tmp 0)), none, none⟩, ⟨(some 4), (.mv (.tmp 15)), none, none⟩]) .ret))), [(.tmp 4)]⟩
theorem c152_is : cfn Try.prog 152 = some c152 := by kernel_rfl
def c153 : AFn := ⟨(.seq (.region [⟨(some 4), (.mv (.con (.bool false))), none, none⟩]) (.seq (.region [⟨(some 5), (.mv (.tmp 0)), none, none⟩, ⟨(some 6), (.mv (.tmp 1)), none, none⟩, ⟨(some 7), (.call (.con (.func 161 [] [])) [(.tmp 5), (.tmp 6)]), none, none⟩, ⟨(some 8), (.bin .geq (.tmp 7) (.con (.int .i64 0))), none, none⟩, ⟨(some 4), (.mv (.tmp 8)), none, none⟩]) .ret)), [(.tmp 4)]⟩
theorem c153_is : cfn Try.prog 153 = some c153 := by kernel_rfl
def c154 : AFn := ⟨(.seq (.region [⟨(some 3), (.mv (.con (.bool false))), none, none⟩]) (.seq (.region [⟨(some 4), (.load false 1 (.tmp 1)), none, none⟩, ⟨(some 5), (.mv (.tmp 0)), none, none⟩, ⟨(some 6), (.call (.tmp 4) [(.tmp 5)]), none, none⟩, ⟨(some 7), (.un .not (.tmp 6)), none, none⟩, ⟨(some 3), (.mv (.tmp 7)), none, none⟩]) .ret)), [(.tmp 3)]⟩
theorem c154_is : cfn Try.prog 154 = some c154 := by kernel_rfl
def c160 : AFn := ⟨(.seq (.region [⟨(some 4), (.mv (.con (.bool false))), none, none⟩]) (.seq (.region [⟨(some 5), (.mv (.tmp 0)), none, none⟩, ⟨(some 6), (.len true (.tmp 5)), none, none⟩, ⟨(some 7), (.mv (.tmp 1)), none, none⟩, ⟨(some 8), (.len true (.tmp 7)), none, none⟩, ⟨(some 9), (.bin .geq (.tmp 6) (.tmp 8)), none, none⟩, ⟨(some 10), (.mv (.tmp 9)), none, none⟩, ⟨(some 11), (.mv (.tmp 0)), (some (10, true)), none⟩, ⟨(some 12), (.mv (.tmp 0)), (some (10, true)), none⟩, ⟨(some 13), (.len true (.tmp 12)), (some (10, true)), none⟩, ⟨(some 14), (.mv (.tmp 1)), (some (10, true)), none⟩, ⟨(some 15), (.len true (.tmp 14)), (some (10, true)), none⟩, ⟨(some 16), (.bin .sub (.tmp 13) (.tmp 15)), (some (10, true)), none⟩, ⟨(some 17), (.slcStr (.tmp 11) (some (.tmp 16)) none), (some (10, true)), none⟩, ⟨(some 18), (.mv (.tmp 1)), (some (10, true)), none⟩, ⟨(some 19), (.bin .eql (.tmp 17) (.tmp 18)), (some (10, true)), none⟩, ⟨(some 20), (.pick (.tmp 10) (.tmp 19) (.con (.bool false))), none, none⟩, ⟨(some 4), (.mv (.tmp 20)), none, none⟩]) .ret)), [(.tmp 4)]⟩
theorem c160_is : cfn Try.prog 160 = some c160 := by kernel_rfl
def c161 : AFn := ⟨(.seq (.region [⟨(some 4), (.mv (.con (.int .i64 0))), none, none⟩]) (.seq (.seq (.region [⟨(some 6), (.mv (.tmp 0)), none, none⟩, ⟨(some 7), (.len false (.tmp 6)), none, none⟩, ⟨(some 8), (.mv (.con (.int .i64 0))), none, none⟩]) (.block 0 (.loop (.seq (.region [⟨(some 9), (.bin .lss (.tmp 8) (.tmp 7)), none, none⟩]) (.seq (.cond (.tmp 9) .skip (.exit 0)) (.seq (.block 1 (.seq (.region [⟨(some 10), (.mv (.tmp 8)), none, none⟩, ⟨(some 5), (.mv (.tmp 10)), none, none⟩]) (.seq (.region [⟨(some 11), (.mv (.tmp 1)), none, none⟩, ⟨(some 12), (.mv (.tmp 0)), none, none⟩, ⟨(some 13), (.mv (.tmp 5)), none, none⟩, ⟨(some 14), (.idxASl 1 (.tmp 12) (.tmp 13)), none, none⟩, ⟨(some 15), (.load false 1 (.tmp 14)), none, none⟩, ⟨(some 16), (.call (.tmp 11) [(.tmp 15)]), none, none⟩]) (.cond (.tmp 16) (.seq (.region [⟨(some 17), (.mv (.tmp 5)), none, none⟩, ⟨(some 4), (.mv (.tmp 17)), none, none⟩]) .ret) .skip)))) (.region [⟨(some 18), (.bin .add (.tmp 8) (.con (.int .i64 1))), none, none⟩, ⟨(some 8), (.mv (.tmp 18)), none, none⟩]))))))) (.seq (.region [⟨(some 4), (.mv (.con (.int .i64 (-1)))), none, none⟩]) .ret))), [(.tmp 4)]⟩
theorem c161_is : cfn Try.prog 161 = some c161 := by kernel_rfl
def fn : FuncId → Option AFn
  | 3 => some c3
  | 4 => some c4
  | 5 => some c5
  | 6 => some c6
  | 7 => some c7
  | 8 => some c8
  | 9 => some c9
  | 10 => some c10
  | 11 => some c11
  | 12 => some c12
  | 13 => some c13
  | 14 => some c14
  | 15 => some c15
  | 16 => some c16
  | 17 => some c17
  | 18 => some c18
  | 19 => some c19
  | 20 => some c20
  | 21 => some c21
  | 22 => some c22
  | 23 => some c23
  | 24 => some c24
  | 25 => some c25
  | 26 => some c26
  | 27 => some c27
  | 28 => some c28
  | 29 => some c29
  | 30 => some c30
  | 31 => some c31
  | 32 => some c32
  | 33 => some c33
  | 34 => some c34
  | 35 => some c35
  | 36 => some c36
  | 37 => some c37
  | 38 => some c38
  | 39 => some c39
  | 40 => some c40
  | 41 => some c41
  | 42 => some c42
  | 43 => some c43
  | 44 => some c44
  | 45 => some c45
  | 46 => some c46
  | 47 => some c47
  | 48 => some c48
  | 49 => some c49
  | 50 => some c50
  | 51 => some c51
  | 52 => some c52
  | 53 => some c53
  | 54 => some c54
  | 55 => some c55
  | 56 => some c56
  | 57 => some c57
  | 58 => some c58
  | 59 => some c59
  | 60 => some c60
  | 61 => some c61
  | 62 => some c62
  | 63 => some c63
  | 64 => some c64
  | 65 => some c65
  | 66 => some c66
  | 67 => some c67
  | 68 => some c68
  | 69 => some c69
  | 70 => some c70
  | 71 => some c71
  | 72 => some c72
  | 73 => some c73
  | 74 => some c74
  | 75 => some c75
  | 76 => some c76
  | 77 => some c77
  | 78 => some c78
  | 79 => some c79
  | 80 => some c80
  | 81 => some c81
  | 83 => some c83
  | 85 => some c85
  | 86 => some c86
  | 87 => some c87
  | 88 => some c88
  | 89 => some c89
  | 90 => some c90
  | 91 => some c91
  | 92 => some c92
  | 93 => some c93
  | 94 => some c94
  | 95 => some c95
  | 96 => some c96
  | 97 => some c97
  | 98 => some c98
  | 99 => some c99
  | 100 => some c100
  | 101 => some c101
  | 102 => some c102
  | 103 => some c103
  | 104 => some c104
  | 105 => some c105
  | 106 => some c106
  | 107 => some c107
  | 108 => some c108
  | 109 => some c109
  | 110 => some c110
  | 111 => some c111
  | 112 => some c112
  | 113 => some c113
  | 114 => some c114
  | 115 => some c115
  | 116 => some c116
  | 117 => some c117
  | 127 => some c127
  | 128 => some c128
  | 129 => some c129
  | 130 => some c130
  | 131 => some c131
  | 132 => some c132
  | 133 => some c133
  | 134 => some c134
  | 136 => some c136
  | 137 => some c137
  | 138 => some c138
  | 139 => some c139
  | 140 => some c140
  | 141 => some c141
  | 147 => some c147
  | 148 => some c148
  | 149 => some c149
  | 150 => some c150
  | 152 => some c152
  | 153 => some c153
  | 154 => some c154
  | 160 => some c160
  | 161 => some c161
  | _ => none
theorem fn_is : ∀ f x, fn f = some x → cfn Try.prog f = some x := by
  intro f x h
  unfold fn at h
  split at h
  · injection h with h; subst h; exact c3_is
  · injection h with h; subst h; exact c4_is
  · injection h with h; subst h; exact c5_is
  · injection h with h; subst h; exact c6_is
  · injection h with h; subst h; exact c7_is
  · injection h with h; subst h; exact c8_is
  · injection h with h; subst h; exact c9_is
  · injection h with h; subst h; exact c10_is
  · injection h with h; subst h; exact c11_is
  · injection h with h; subst h; exact c12_is
  · injection h with h; subst h; exact c13_is
  · injection h with h; subst h; exact c14_is
  · injection h with h; subst h; exact c15_is
  · injection h with h; subst h; exact c16_is
  · injection h with h; subst h; exact c17_is
  · injection h with h; subst h; exact c18_is
  · injection h with h; subst h; exact c19_is
  · injection h with h; subst h; exact c20_is
  · injection h with h; subst h; exact c21_is
  · injection h with h; subst h; exact c22_is
  · injection h with h; subst h; exact c23_is
  · injection h with h; subst h; exact c24_is
  · injection h with h; subst h; exact c25_is
  · injection h with h; subst h; exact c26_is
  · injection h with h; subst h; exact c27_is
  · injection h with h; subst h; exact c28_is
  · injection h with h; subst h; exact c29_is
  · injection h with h; subst h; exact c30_is
  · injection h with h; subst h; exact c31_is
  · injection h with h; subst h; exact c32_is
  · injection h with h; subst h; exact c33_is
  · injection h with h; subst h; exact c34_is
  · injection h with h; subst h; exact c35_is
  · injection h with h; subst h; exact c36_is
  · injection h with h; subst h; exact c37_is
  · injection h with h; subst h; exact c38_is
  · injection h with h; subst h; exact c39_is
  · injection h with h; subst h; exact c40_is
  · injection h with h; subst h; exact c41_is
  · injection h with h; subst h; exact c42_is
  · injection h with h; subst h; exact c43_is
  · injection h with h; subst h; exact c44_is
  · injection h with h; subst h; exact c45_is
  · injection h with h; subst h; exact c46_is
  · injection h with h; subst h; exact c47_is
  · injection h with h; subst h; exact c48_is
  · injection h with h; subst h; exact c49_is
  · injection h with h; subst h; exact c50_is
  · injection h with h; subst h; exact c51_is
  · injection h with h; subst h; exact c52_is
  · injection h with h; subst h; exact c53_is
  · injection h with h; subst h; exact c54_is
  · injection h with h; subst h; exact c55_is
  · injection h with h; subst h; exact c56_is
  · injection h with h; subst h; exact c57_is
  · injection h with h; subst h; exact c58_is
  · injection h with h; subst h; exact c59_is
  · injection h with h; subst h; exact c60_is
  · injection h with h; subst h; exact c61_is
  · injection h with h; subst h; exact c62_is
  · injection h with h; subst h; exact c63_is
  · injection h with h; subst h; exact c64_is
  · injection h with h; subst h; exact c65_is
  · injection h with h; subst h; exact c66_is
  · injection h with h; subst h; exact c67_is
  · injection h with h; subst h; exact c68_is
  · injection h with h; subst h; exact c69_is
  · injection h with h; subst h; exact c70_is
  · injection h with h; subst h; exact c71_is
  · injection h with h; subst h; exact c72_is
  · injection h with h; subst h; exact c73_is
  · injection h with h; subst h; exact c74_is
  · injection h with h; subst h; exact c75_is
  · injection h with h; subst h; exact c76_is
  · injection h with h; subst h; exact c77_is
  · injection h with h; subst h; exact c78_is
  · injection h with h; subst h; exact c79_is
  · injection h with h; subst h; exact c80_is
  · injection h with h; subst h; exact c81_is
  · injection h with h; subst h; exact c83_is
  · injection h with h; subst h; exact c85_is
  · injection h with h; subst h; exact c86_is
  · injection h with h; subst h; exact c87_is
  · injection h with h; subst h; exact c88_is
  · injection h with h; subst h; exact c89_is
  · injection h with h; subst h; exact c90_is
  · injection h with h; subst h; exact c91_is
  · injection h with h; subst h; exact c92_is
  · injection h with h; subst h; exact c93_is
  · injection h with h; subst h; exact c94_is
  · injection h with h; subst h; exact c95_is
  · injection h with h; subst h; exact c96_is
  · injection h with h; subst h; exact c97_is
  · injection h with h; subst h; exact c98_is
  · injection h with h; subst h; exact c99_is
  · injection h with h; subst h; exact c100_is
  · injection h with h; subst h; exact c101_is
  · injection h with h; subst h; exact c102_is
  · injection h with h; subst h; exact c103_is
  · injection h with h; subst h; exact c104_is
  · injection h with h; subst h; exact c105_is
  · injection h with h; subst h; exact c106_is
  · injection h with h; subst h; exact c107_is
  · injection h with h; subst h; exact c108_is
  · injection h with h; subst h; exact c109_is
  · injection h with h; subst h; exact c110_is
  · injection h with h; subst h; exact c111_is
  · injection h with h; subst h; exact c112_is
  · injection h with h; subst h; exact c113_is
  · injection h with h; subst h; exact c114_is
  · injection h with h; subst h; exact c115_is
  · injection h with h; subst h; exact c116_is
  · injection h with h; subst h; exact c117_is
  · injection h with h; subst h; exact c127_is
  · injection h with h; subst h; exact c128_is
  · injection h with h; subst h; exact c129_is
  · injection h with h; subst h; exact c130_is
  · injection h with h; subst h; exact c131_is
  · injection h with h; subst h; exact c132_is
  · injection h with h; subst h; exact c133_is
  · injection h with h; subst h; exact c134_is
  · injection h with h; subst h; exact c136_is
  · injection h with h; subst h; exact c137_is
  · injection h with h; subst h; exact c138_is
  · injection h with h; subst h; exact c139_is
  · injection h with h; subst h; exact c140_is
  · injection h with h; subst h; exact c141_is
  · injection h with h; subst h; exact c147_is
  · injection h with h; subst h; exact c148_is
  · injection h with h; subst h; exact c149_is
  · injection h with h; subst h; exact c150_is
  · injection h with h; subst h; exact c152_is
  · injection h with h; subst h; exact c153_is
  · injection h with h; subst h; exact c154_is
  · injection h with h; subst h; exact c160_is
  · injection h with h; subst h; exact c161_is
  · simp at h
end Go.Proofs.Ytmicohgachjcgaa.ReFns
