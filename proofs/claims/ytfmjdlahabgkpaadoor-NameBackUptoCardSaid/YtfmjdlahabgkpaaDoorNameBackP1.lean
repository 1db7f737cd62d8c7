/- Texts put together by program: YtfmjdlahabgkpaaDoorNaFns, YtfmjdlahabgkpaaDoorShelf, YtfmjdlahabgkpaaDoorNa, YtfmjdlahabgkpaaDoorNb, YtfmjdlahabgkpaaDoorNc, YtfmjdlahabgkpaaDoorNg, YtfmjdlahabgkpaaDoorNh, YtfmjdlahabgkpaaDoorNi, YtfmjdlahabgkpaaDoorNd, YtfmjdlahabgkpaaDoorNe, YtfmjdlahabgkpaaDoorNf. -/
import Derived.Test.YtfmjdlahabgkpaaDoorChecked
import Derived.Shelf.Strings.Builder1
import Derived.Shelf.Strings.Builder2
import Derived.Shelf.Strings.OnBuilder
import Derived.Shelf.Small.Strs
import Derived.Shelf.Small.Wraps
import Derived.Shelf.Strings.BuilderF
import Derived.Shelf.Strings.BuilderK
import Derived.Shelf.Utf8.RuneCount
import Derived.Shelf.Strings.Builder2Cap
import Derived.Shelf.Strings.Search1
import Derived.Shelf.Strings.Search2
import Derived.Shelf.Strings.Search3
import Derived.Shelf.Strings.Count
import Derived.Shelf.LaysM
import Derived.Shelf.Strings.Shaped
import Derived.Shelf.Strings.Prefix
import Derived.Shelf.Strings.Split
import Derived.Shelf.Strings.SplitShaped
import Derived.Shelf.Unicode.Decode
import Derived.Shelf.Strings.RuneCount
import Derived.Shelf.Strings.Explode
import Derived.Shelf.Unicode.DecodeSlow
import Derived.Shelf.Unicode.DecodeAny
import Derived.Shelf.Strings.BuilderCap
import Derived.Test.YtfmjdlahabgkpaaDoorProg
import Derived.Test.YtfmjdlahabgkpaaDoorPm3
section
/- The code of the functions that are reached, resolved for the abstract machine: each is what the program's own function resolves to. Printed by program. -/
set_option maxRecDepth 100000
namespace Go.Proofs.YtfmjdlahabgkpaaDoor.NaFns
open Go Go.Proofs.YtfmjdlahabgkpaaDoor.Am
def c3 : AFn := ⟨(.seq (.region [⟨some 4, (.mv (.con (.bool false))), none, none⟩]) (.seq (.seq (.region [⟨some 9, (.mv (.tmp 0)), none, none⟩, ⟨some 10, (.len true (.tmp 9)), none, none⟩, ⟨some 11, (.bin .gtr (.tmp 10) (.con (.int .i64 2048))), none, none⟩, ⟨some 12, (.mv (.tmp 11)), none, none⟩, ⟨some 13, (.mv (.tmp 1)), (some (12, false)), none⟩, ⟨some 14, (.len false (.tmp 13)), (some (12, false)), none⟩, ⟨some 15, (.bin .gtr (.tmp 14) (.con (.int .i64 100))), (some (12, false)), none⟩, ⟨some 16, (.pick (.tmp 12) (.con (.bool true)) (.tmp 15)), none, none⟩]) (.cond (.tmp 16) (.seq (.region [⟨some 17, (.call (.con (.func 6 [] [])) []), none, none⟩, ⟨some 4, (.mv (.tmp 17)), none, none⟩]) .ret) .skip)) (.seq (.region [⟨some 19, (.mv (.tmp 0)), none, none⟩, ⟨some 20, (.call (.con (.func 7 [] [])) [.tmp 19]), none, none⟩, ⟨some 18, (.mv (.tmp 20)), none, none⟩, ⟨some 21, (.extract (.tmp 18) 0), none, none⟩, ⟨some 22, (.extract (.tmp 18) 1), none, none⟩, ⟨some 5, (.mv (.tmp 21)), none, none⟩, ⟨some 6, (.mv (.tmp 22)), none, none⟩]) (.seq (.region [⟨some 24, (.mv (.tmp 0)), none, none⟩, ⟨some 25, (.call (.con (.func 8 [] [])) [.tmp 24]), none, none⟩, ⟨some 23, (.mv (.tmp 25)), none, none⟩, ⟨some 26, (.extract (.tmp 23) 0), none, none⟩, ⟨some 27, (.extract (.tmp 23) 1), none, none⟩, ⟨some 7, (.mv (.tmp 26)), none, none⟩, ⟨some 8, (.mv (.tmp 27)), none, none⟩]) (.seq (.region [⟨some 28, (.call (.con (.func 6 [] [])) []), none, none⟩, ⟨some 29, (.mv (.tmp 28)), none, none⟩, ⟨some 30, (.mv (.tmp 0)), (some (29, true)), none⟩, ⟨some 31, (.call (.con (.func 9 [] [])) [.tmp 30]), (some (29, true)), none⟩, ⟨some 32, (.pick (.tmp 29) (.tmp 31) (.con (.bool false))), none, none⟩, ⟨some 33, (.mv (.tmp 32)), none, none⟩, ⟨some 34, (.mv (.tmp 0)), (some (33, true)), none⟩, ⟨some 35, (.call (.con (.func 10 [] [])) [.tmp 34]), (some (33, true)), none⟩, ⟨some 36, (.mv (.tmp 0)), (some (33, true)), none⟩, ⟨some 37, (.call (.con (.func 11 [] [])) [.tmp 36]), (some (33, true)), none⟩, ⟨some 38, (.bin .eql (.tmp 35) (.tmp 37)), (some (33, true)), none⟩, ⟨some 39, (.pick (.tmp 33) (.tmp 38) (.con (.bool false))), none, none⟩, ⟨some 40, (.mv (.tmp 39)), none, none⟩, ⟨some 41, (.mv (.tmp 5)), (some (40, true)), none⟩, ⟨some 42, (.mv (.tmp 7)), (some (40, true)), none⟩, ⟨some 43, (.bin .eql (.tmp 41) (.tmp 42)), (some (40, true)), none⟩, ⟨some 44, (.pick (.tmp 40) (.tmp 43) (.con (.bool false))), none, none⟩, ⟨some 45, (.mv (.tmp 44)), none, none⟩, ⟨some 46, (.mv (.tmp 6)), (some (45, true)), none⟩, ⟨some 47, (.mv (.tmp 8)), (some (45, true)), none⟩, ⟨some 48, (.bin .eql (.tmp 46) (.tmp 47)), (some (45, true)), none⟩, ⟨some 49, (.pick (.tmp 45) (.tmp 48) (.con (.bool false))), none, none⟩, ⟨some 50, (.mv (.tmp 49)), none, none⟩, ⟨some 51, (.mv (.tmp 0)), (some (50, true)), none⟩, ⟨some 52, (.call (.con (.func 13 [] [])) [.tmp 51]), (some (50, true)), none⟩, ⟨some 53, (.mv (.tmp 0)), (some (50, true)), none⟩, ⟨some 54, (.call (.con (.func 14 [] [])) [.tmp 53]), (some (50, true)), none⟩, ⟨some 55, (.call (.con (.func 12 [] [])) [.tmp 52, .tmp 54]), (some (50, true)), none⟩, ⟨some 56, (.pick (.tmp 50) (.tmp 55) (.con (.bool false))), none, none⟩, ⟨some 57, (.mv (.tmp 56)), none, none⟩, ⟨some 58, (.mv (.tmp 1)), (some (57, true)), none⟩, ⟨some 59, (.call (.con (.func 15 [] [])) [.tmp 58]), (some (57, true)), none⟩, ⟨some 60, (.mv (.tmp 1)), (some (57, true)), none⟩, ⟨some 61, (.call (.con (.func 16 [] [])) [.tmp 60]), (some (57, true)), none⟩, ⟨some 62, (.bin .eql (.tmp 59) (.tmp 61)), (some (57, true)), none⟩, ⟨some 63, (.pick (.tmp 57) (.tmp 62) (.con (.bool false))), none, none⟩, ⟨some 4, (.mv (.tmp 63)), none, none⟩]) .ret))))), [.tmp 4]⟩
theorem c3_is : cfn Tryd.prog 3 = some c3 := by kernel_rfl
def c4 : AFn := ⟨(.seq (.region [⟨some 4, (.mv (.con (.bool false))), none, none⟩]) (.seq (.seq (.region [⟨some 13, (.mv (.tmp 1)), none, none⟩, ⟨some 14, (.len true (.tmp 13)), none, none⟩, ⟨some 15, (.bin .gtr (.tmp 14) (.con (.int .i64 2048))), none, none⟩]) (.cond (.tmp 15) (.seq (.region [⟨some 16, (.call (.con (.func 6 [] [])) []), none, none⟩, ⟨some 4, (.mv (.tmp 16)), none, none⟩]) .ret) .skip)) (.seq (.region [⟨some 18, (.mv (.tmp 1)), none, none⟩, ⟨some 19, (.call (.con (.func 17 [] [])) [.tmp 18]), none, none⟩, ⟨some 17, (.mv (.tmp 19)), none, none⟩, ⟨some 20, (.extract (.tmp 17) 0), none, none⟩, ⟨some 21, (.extract (.tmp 17) 1), none, none⟩, ⟨some 5, (.mv (.tmp 20)), none, none⟩, ⟨some 6, (.mv (.tmp 21)), none, none⟩]) (.seq (.region [⟨some 23, (.mv (.tmp 1)), none, none⟩, ⟨some 24, (.call (.con (.func 18 [] [])) [.tmp 23]), none, none⟩, ⟨some 22, (.mv (.tmp 24)), none, none⟩, ⟨some 25, (.extract (.tmp 22) 0), none, none⟩, ⟨some 26, (.extract (.tmp 22) 1), none, none⟩, ⟨some 7, (.mv (.tmp 25)), none, none⟩, ⟨some 8, (.mv (.tmp 26)), none, none⟩]) (.seq (.region [⟨some 28, (.mv (.tmp 1)), none, none⟩, ⟨some 29, (.call (.con (.func 19 [] [])) [.tmp 28]), none, none⟩, ⟨some 27, (.mv (.tmp 29)), none, none⟩, ⟨some 30, (.extract (.tmp 27) 0), none, none⟩, ⟨some 31, (.extract (.tmp 27) 1), none, none⟩, ⟨some 9, (.mv (.tmp 30)), none, none⟩, ⟨some 10, (.mv (.tmp 31)), none, none⟩]) (.seq (.region [⟨some 33, (.mv (.tmp 1)), none, none⟩, ⟨some 34, (.call (.con (.func 20 [] [])) [.tmp 33]), none, none⟩, ⟨some 32, (.mv (.tmp 34)), none, none⟩, ⟨some 35, (.extract (.tmp 32) 0), none, none⟩, ⟨some 36, (.extract (.tmp 32) 1), none, none⟩, ⟨some 11, (.mv (.tmp 35)), none, none⟩, ⟨some 12, (.mv (.tmp 36)), none, none⟩]) (.seq (.region [⟨some 37, (.call (.con (.func 6 [] [])) []), none, none⟩, ⟨some 38, (.mv (.tmp 37)), none, none⟩, ⟨some 39, (.mv (.tmp 0)), (some (38, true)), none⟩, ⟨some 40, (.call (.con (.func 21 [] [])) [.tmp 39]), (some (38, true)), none⟩, ⟨some 41, (.mv (.tmp 0)), (some (38, true)), none⟩, ⟨some 42, (.call (.con (.func 22 [] [])) [.tmp 41]), (some (38, true)), none⟩, ⟨some 43, (.bin .eql (.tmp 40) (.tmp 42)), (some (38, true)), none⟩, ⟨some 44, (.pick (.tmp 38) (.tmp 43) (.con (.bool false))), none, none⟩, ⟨some 45, (.mv (.tmp 44)), none, none⟩, ⟨some 46, (.mv (.tmp 0)), (some (45, true)), none⟩, ⟨some 47, (.toInt .i64 (.tmp 46)), (some (45, true)), none⟩, ⟨some 48, (.call (.con (.func 23 [] [])) [.tmp 47]), (some (45, true)), none⟩, ⟨some 49, (.mv (.tmp 0)), (some (45, true)), none⟩, ⟨some 50, (.toInt .i64 (.tmp 49)), (some (45, true)), none⟩, ⟨some 51, (.call (.con (.func 24 [] [])) [.tmp 50]), (some (45, true)), none⟩, ⟨some 52, (.bin .eql (.tmp 48) (.tmp 51)), (some (45, true)), none⟩, ⟨some 53, (.pick (.tmp 45) (.tmp 52) (.con (.bool false))), none, none⟩, ⟨some 54, (.mv (.tmp 53)), none, none⟩, ⟨some 55, (.mv (.tmp 5)), (some (54, true)), none⟩, ⟨some 56, (.mv (.tmp 7)), (some (54, true)), none⟩, ⟨some 57, (.bin .eql (.tmp 55) (.tmp 56)), (some (54, true)), none⟩, ⟨some 58, (.pick (.tmp 54) (.tmp 57) (.con (.bool false))), none, none⟩, ⟨some 59, (.mv (.tmp 58)), none, none⟩, ⟨some 60, (.mv (.tmp 6)), (some (59, true)), none⟩, ⟨some 61, (.mv (.tmp 8)), (some (59, true)), none⟩, ⟨some 62, (.bin .eql (.tmp 60) (.tmp 61)), (some (59, true)), none⟩, ⟨some 63, (.pick (.tmp 59) (.tmp 62) (.con (.bool false))), none, none⟩, ⟨some 64, (.mv (.tmp 63)), none, none⟩, ⟨some 65, (.mv (.tmp 9)), (some (64, true)), none⟩, ⟨some 66, (.mv (.tmp 11)), (some (64, true)), none⟩, ⟨some 67, (.bin .eql (.tmp 65) (.tmp 66)), (some (64, true)), none⟩, ⟨some 68, (.pick (.tmp 64) (.tmp 67) (.con (.bool false))), none, none⟩, ⟨some 69, (.mv (.tmp 68)), none, none⟩, ⟨some 70, (.mv (.tmp 10)), (some (69, true)), none⟩, ⟨some 71, (.mv (.tmp 12)), (some (69, true)), none⟩, ⟨some 72, (.bin .eql (.tmp 70) (.tmp 71)), (some (69, true)), none⟩, ⟨some 73, (.pick (.tmp 69) (.tmp 72) (.con (.bool false))), none, none⟩, ⟨some 4, (.mv (.tmp 73)), none, none⟩]) .ret))))))), [.tmp 4]⟩
theorem c4_is : cfn Tryd.prog 4 = some c4 := by kernel_rfl
def c5 : AFn := ⟨(.seq (.region [⟨some 8, (.mv (.con (.bool false))), none, none⟩]) (.seq (.seq (.region [⟨some 23, (.call (.con (.func 6 [] [])) []), none, none⟩, ⟨some 24, (.un .not (.tmp 23)), none, none⟩]) (.cond (.tmp 24) (.seq (.region [⟨some 8, (.mv (.con (.bool false))), none, none⟩]) .ret) .skip)) (.seq (.seq (.region [⟨some 25, (.mv (.tmp 0)), none, none⟩, ⟨some 26, (.len true (.tmp 25)), none, none⟩, ⟨some 27, (.bin .gtr (.tmp 26) (.con (.int .i64 2048))), none, none⟩, ⟨some 28, (.mv (.tmp 27)), none, none⟩, ⟨some 29, (.mv (.tmp 1)), (some (28, false)), none⟩, ⟨some 30, (.len true (.tmp 29)), (some (28, false)), none⟩, ⟨some 31, (.bin .gtr (.tmp 30) (.con (.int .i64 2048))), (some (28, false)), none⟩, ⟨some 32, (.pick (.tmp 28) (.con (.bool true)) (.tmp 31)), none, none⟩, ⟨some 33, (.mv (.tmp 32)), none, none⟩, ⟨some 34, (.mv (.tmp 3)), (some (33, false)), none⟩, ⟨some 35, (.len false (.tmp 34)), (some (33, false)), none⟩, ⟨some 36, (.bin .gtr (.tmp 35) (.con (.int .i64 100))), (some (33, false)), none⟩, ⟨some 37, (.pick (.tmp 33) (.con (.bool true)) (.tmp 36)), none, none⟩]) (.cond (.tmp 37) (.seq (.region [⟨some 8, (.mv (.con (.bool true))), none, none⟩]) .ret) .skip)) (.seq (.region [⟨some 39, (.mv (.tmp 0)), none, none⟩, ⟨some 40, (.call (.con (.func 10 [] [])) [.tmp 39]), none, none⟩, ⟨some 41, (.call (.con (.func 7 [] [])) [.tmp 40]), none, none⟩, ⟨some 38, (.mv (.tmp 41)), none, none⟩, ⟨some 42, (.extract (.tmp 38) 0), none, none⟩, ⟨some 43, (.extract (.tmp 38) 1), none, none⟩, ⟨some 9, (.mv (.tmp 42)), none, none⟩, ⟨some 10, (.mv (.tmp 43)), none, none⟩]) (.seq (.region [⟨some 45, (.mv (.tmp 2)), none, none⟩, ⟨some 46, (.call (.con (.func 21 [] [])) [.tmp 45]), none, none⟩, ⟨some 47, (.call (.con (.func 17 [] [])) [.tmp 46]), none, none⟩, ⟨some 44, (.mv (.tmp 47)), none, none⟩, ⟨some 48, (.extract (.tmp 44) 0), none, none⟩, ⟨some 49, (.extract (.tmp 44) 1), none, none⟩, ⟨some 11, (.mv (.tmp 48)), none, none⟩, ⟨some 12, (.mv (.tmp 49)), none, none⟩]) (.seq (.region [⟨some 51, (.mv (.tmp 2)), none, none⟩, ⟨some 52, (.toInt .i64 (.tmp 51)), none, none⟩, ⟨some 53, (.call (.con (.func 23 [] [])) [.tmp 52]), none, none⟩, ⟨some 54, (.call (.con (.func 19 [] [])) [.tmp 53]), none, none⟩, ⟨some 50, (.mv (.tmp 54)), none, none⟩, ⟨some 55, (.extract (.tmp 50) 0), none, none⟩, ⟨some 56, (.extract (.tmp 50) 1), none, none⟩, ⟨some 13, (.mv (.tmp 55)), none, none⟩, ⟨some 14, (.mv (.tmp 56)), none, none⟩]) (.seq (.seq (.region [⟨some 57, (.mv (.tmp 9)), none, none⟩, ⟨some 58, (.mv (.tmp 0)), none, none⟩, ⟨some 59, (.bin .neq (.tmp 57) (.tmp 58)), none, none⟩, ⟨some 60, (.mv (.tmp 59)), none, none⟩, ⟨some 61, (.mv (.tmp 10)), (some (60, false)), none⟩, ⟨some 62, (.bin .neq (.tmp 61) (.con (.int .i64 0))), (some (60, false)), none⟩, ⟨some 63, (.pick (.tmp 60) (.con (.bool true)) (.tmp 62)), none, none⟩, ⟨some 64, (.mv (.tmp 63)), none, none⟩, ⟨some 65, (.mv (.tmp 11)), (some (64, false)), none⟩, ⟨some 66, (.mv (.tmp 2)), (some (64, false)), none⟩, ⟨some 67, (.bin .neq (.tmp 65) (.tmp 66)), (some (64, false)), none⟩, ⟨some 68, (.pick (.tmp 64) (.con (.bool true)) (.tmp 67)), none, none⟩, ⟨some 69, (.mv (.tmp 68)), none, none⟩, ⟨some 70, (.mv (.tmp 12)), (some (69, false)), none⟩, ⟨some 71, (.bin .neq (.tmp 70) (.con (.int .i64 0))), (some (69, false)), none⟩, ⟨some 72, (.pick (.tmp 69) (.con (.bool true)) (.tmp 71)), none, none⟩, ⟨some 73, (.mv (.tmp 72)), none, none⟩, ⟨some 74, (.mv (.tmp 13)), (some (73, false)), none⟩, ⟨some 75, (.mv (.tmp 2)), (some (73, false)), none⟩, ⟨some 76, (.toInt .i64 (.tmp 75)), (some (73, false)), none⟩, ⟨some 77, (.bin .neq (.tmp 74) (.tmp 76)), (some (73, false)), none⟩, ⟨some 78, (.pick (.tmp 73) (.con (.bool true)) (.tmp 77)), none, none⟩, ⟨some 79, (.mv (.tmp 78)), none, none⟩, ⟨some 80, (.mv (.tmp 14)), (some (79, false)), none⟩, ⟨some 81, (.bin .neq (.tmp 80) (.con (.int .i64 0))), (some (79, false)), none⟩, ⟨some 82, (.pick (.tmp 79) (.con (.bool true)) (.tmp 81)), none, none⟩]) (.cond (.tmp 82) (.seq (.region [⟨some 8, (.mv (.con (.bool false))), none, none⟩]) .ret) .skip)) (.seq (.seq (.region [⟨some 83, (.mv (.tmp 0)), none, none⟩, ⟨some 84, (.call (.con (.func 10 [] [])) [.tmp 83]), none, none⟩, ⟨some 85, (.sToB (.tmp 84)), none, none⟩, ⟨some 86, (.len false (.tmp 85)), none, none⟩, ⟨some 87, (.mv (.con (.int .i64 0))), none, none⟩]) (.block 0 (.loop (.seq (.region [⟨some 88, (.bin .lss (.tmp 87) (.tmp 86)), none, none⟩]) (.seq (.cond (.tmp 88) .skip (.exit 0)) (.seq (.block 1 (.seq (.region [⟨some 89, (.idxASl 1 (.tmp 85) (.tmp 87)), none, none⟩, ⟨some 90, (.load false 1 (.tmp 89)), none, none⟩, ⟨some 16, (.mv (.tmp 90)), none, none⟩]) (.seq (.region [⟨some 91, (.mv (.tmp 16)), none, none⟩, ⟨some 92, (.bin .eql (.tmp 91) (.con (.int .u8 32))), none, none⟩, ⟨some 93, (.mv (.tmp 92)), none, none⟩, ⟨some 94, (.mv (.tmp 16)), (some (93, false)), none⟩, ⟨some 95, (.bin .eql (.tmp 94) (.con (.int .u8 10))), (some (93, false)), none⟩, ⟨some 96, (.pick (.tmp 93) (.con (.bool true)) (.tmp 95)), none, none⟩]) (.cond (.tmp 96) (.seq (.region [⟨some 8, (.mv (.con (.bool false))), none, none⟩]) .ret) .skip)))) (.region [⟨some 97, (.bin .add (.tmp 87) (.con (.int .i64 1))), none, none⟩, ⟨some 87, (.mv (.tmp 97)), none, none⟩]))))))) (.seq (.seq (.region [⟨some 99, (.mv (.tmp 1)), none, none⟩, ⟨some 100, (.call (.con (.func 7 [] [])) [.tmp 99]), none, none⟩, ⟨some 98, (.mv (.tmp 100)), none, none⟩, ⟨some 101, (.extract (.tmp 98) 0), none, none⟩, ⟨some 102, (.extract (.tmp 98) 1), none, none⟩, ⟨some 17, (.mv (.tmp 101)), none, none⟩, ⟨some 18, (.mv (.tmp 102)), none, none⟩]) (.seq (.region [⟨some 103, (.mv (.tmp 18)), none, none⟩, ⟨some 104, (.bin .eql (.tmp 103) (.con (.int .i64 0))), none, none⟩, ⟨some 105, (.mv (.tmp 104)), none, none⟩, ⟨some 106, (.mv (.tmp 17)), (some (105, true)), none⟩, ⟨some 107, (.call (.con (.func 10 [] [])) [.tmp 106]), (some (105, true)), none⟩, ⟨some 108, (.mv (.tmp 1)), (some (105, true)), none⟩, ⟨some 109, (.bin .neq (.tmp 107) (.tmp 108)), (some (105, true)), none⟩, ⟨some 110, (.pick (.tmp 105) (.tmp 109) (.con (.bool false))), none, none⟩]) (.cond (.tmp 110) (.seq (.region [⟨some 8, (.mv (.con (.bool false))), none, none⟩]) .ret) .skip))) (.seq (.seq (.region [⟨some 111, (.mv (.tmp 3)), none, none⟩, ⟨some 112, (.len false (.tmp 111)), none, none⟩, ⟨some 113, (.mv (.con (.int .i64 0))), none, none⟩]) (.block 2 (.loop (.seq (.region [⟨some 114, (.bin .lss (.tmp 113) (.tmp 112)), none, none⟩]) (.seq (.cond (.tmp 114) .skip (.exit 2)) (.seq (.block 3 (.seq (.region [⟨some 115, (.idxASl 1 (.tmp 111) (.tmp 113)), none, none⟩, ⟨some 116, (.load false 1 (.tmp 115)), none, none⟩, ⟨some 20, (.mv (.tmp 116)), none, none⟩]) (.seq (.region [⟨some 117, (.mv (.tmp 20)), none, none⟩, ⟨some 118, (.sToB (.tmp 117)), none, none⟩, ⟨some 119, (.len false (.tmp 118)), none, none⟩, ⟨some 120, (.mv (.con (.int .i64 0))), none, none⟩]) (.block 4 (.loop (.seq (.region [⟨some 121, (.bin .lss (.tmp 120) (.tmp 119)), none, none⟩]) (.seq (.cond (.tmp 121) .skip (.exit 4)) (.seq (.block 5 (.seq (.region [⟨some 122, (.idxASl 1 (.tmp 118) (.tmp 120)), none, none⟩, ⟨some 123, (.load false 1 (.tmp 122)), none, none⟩, ⟨some 22, (.mv (.tmp 123)), none, none⟩]) (.seq (.region [⟨some 124, (.mv (.tmp 22)), none, none⟩, ⟨some 125, (.bin .eql (.tmp 124) (.con (.int .u8 32))), none, none⟩]) (.cond (.tmp 125) (.seq (.region [⟨some 8, (.mv (.con (.bool true))), none, none⟩]) .ret) .skip)))) (.region [⟨some 126, (.bin .add (.tmp 120) (.con (.int .i64 1))), none, none⟩, ⟨some 120, (.mv (.tmp 126)), none, none⟩]))))))))) (.region [⟨some 127, (.bin .add (.tmp 113) (.con (.int .i64 1))), none, none⟩, ⟨some 113, (.mv (.tmp 127)), none, none⟩]))))))) (.seq (.region [⟨some 128, (.mv (.tmp 3)), none, none⟩, ⟨some 129, (.len false (.tmp 128)), none, none⟩, ⟨some 130, (.bin .eql (.tmp 129) (.con (.int .i64 0))), none, none⟩, ⟨some 131, (.mv (.tmp 130)), none, none⟩, ⟨some 132, (.mv (.tmp 3)), (some (131, false)), none⟩, ⟨some 133, (.call (.con (.func 15 [] [])) [.tmp 132]), (some (131, false)), none⟩, ⟨some 134, (.call (.con (.func 13 [] [])) [.tmp 133]), (some (131, false)), none⟩, ⟨some 135, (.mv (.tmp 3)), (some (131, false)), none⟩, ⟨some 136, (.call (.con (.func 12 [] [])) [.tmp 134, .tmp 135]), (some (131, false)), none⟩, ⟨some 137, (.pick (.tmp 131) (.con (.bool true)) (.tmp 136)), none, none⟩, ⟨some 8, (.mv (.tmp 137)), none, none⟩]) .ret))))))))))), [.tmp 8]⟩
theorem c5_is : cfn Tryd.prog 5 = some c5 := by kernel_rfl
def c6 : AFn := ⟨(.seq (.region [⟨some 0, (.mv (.con (.bool false))), none, none⟩]) (.seq (.region [⟨some 15, (.call (.con (.func 7 [] [])) [(.con (.str [97, 37, 50, 48, 37, 50, 53]))]), none, none⟩, ⟨some 14, (.mv (.tmp 15)), none, none⟩, ⟨some 16, (.extract (.tmp 14) 0), none, none⟩, ⟨some 17, (.extract (.tmp 14) 1), none, none⟩, ⟨some 1, (.mv (.tmp 16)), none, none⟩, ⟨some 2, (.mv (.tmp 17)), none, none⟩]) (.seq (.region [⟨some 19, (.call (.con (.func 7 [] [])) [(.con (.str [97, 37, 50]))]), none, none⟩, ⟨some 18, (.mv (.tmp 19)), none, none⟩, ⟨some 20, (.extract (.tmp 18) 0), none, none⟩, ⟨some 21, (.extract (.tmp 18) 1), none, none⟩, ⟨some 3, (.mv (.tmp 20)), none, none⟩, ⟨some 4, (.mv (.tmp 21)), none, none⟩]) (.seq (.region [⟨some 23, (.call (.con (.func 17 [] [])) [(.con (.str [49, 56, 52, 52, 54, 55, 52, 52, 48, 55, 51, 55, 48, 57, 53, 53, 49, 54, 49, 53]))]), none, none⟩, ⟨some 22, (.mv (.tmp 23)), none, none⟩, ⟨some 24, (.extract (.tmp 22) 0), none, none⟩, ⟨some 25, (.extract (.tmp 22) 1), none, none⟩, ⟨some 5, (.mv (.tmp 24)), none, none⟩, ⟨some 6, (.mv (.tmp 25)), none, none⟩]) (.seq (.region [⟨some 27, (.call (.con (.func 17 [] [])) [(.con (.str [48, 53]))]), none, none⟩, ⟨some 26, (.mv (.tmp 27)), none, none⟩, ⟨some 28, (.extract (.tmp 26) 0), none, none⟩, ⟨some 29, (.extract (.tmp 26) 1), none, none⟩, ⟨some 7, (.mv (.tmp 28)), none, none⟩, ⟨some 8, (.mv (.tmp 29)), none, none⟩]) (.seq (.region [⟨some 31, (.call (.con (.func 19 [] [])) [(.con (.str [45, 57, 50, 50, 51, 51, 55, 50, 48, 51, 54, 56, 53, 52, 55, 55, 53, 56, 48, 56]))]), none, none⟩, ⟨some 30, (.mv (.tmp 31)), none, none⟩, ⟨some 32, (.extract (.tmp 30) 0), none, none⟩, ⟨some 33, (.extract (.tmp 30) 1), none, none⟩, ⟨some 9, (.mv (.tmp 32)), none, none⟩, ⟨some 10, (.mv (.tmp 33)), none, none⟩]) (.seq (.region [⟨some 35, (.call (.con (.func 19 [] [])) [(.con (.str [45, 48]))]), none, none⟩, ⟨some 34, (.mv (.tmp 35)), none, none⟩, ⟨some 36, (.extract (.tmp 34) 0), none, none⟩, ⟨some 37, (.extract (.tmp 34) 1), none, none⟩, ⟨some 11, (.mv (.tmp 36)), none, none⟩, ⟨some 12, (.mv (.tmp 37)), none, none⟩]) (.seq (.region [⟨some 38, (.call (.con (.func 13 [] [])) [(.con (.str [97, 32, 32, 98]))]), none, none⟩, ⟨some 13, (.mv (.tmp 38)), none, none⟩]) (.seq (.region [⟨some 39, (.call (.con (.func 10 [] [])) [(.con (.str [97, 32, 37]))]), none, none⟩, ⟨some 40, (.bin .eql (.tmp 39) (.con (.str [97, 37, 50, 48, 37, 50, 53]))), none, none⟩, ⟨some 41, (.mv (.tmp 40)), none, none⟩, ⟨some 42, (.mv (.tmp 1)), (some (41, true)), none⟩, ⟨some 43, (.bin .eql (.tmp 42) (.con (.str [97, 32, 37]))), (some (41, true)), none⟩, ⟨some 44, (.pick (.tmp 41) (.tmp 43) (.con (.bool false))), none, none⟩, ⟨some 45, (.mv (.tmp 44)), none, none⟩, ⟨some 46, (.mv (.tmp 2)), (some (45, true)), none⟩, ⟨some 47, (.bin .eql (.tmp 46) (.con (.int .i64 0))), (some (45, true)), none⟩, ⟨some 48, (.pick (.tmp 45) (.tmp 47) (.con (.bool false))), none, none⟩, ⟨some 49, (.mv (.tmp 48)), none, none⟩, ⟨some 50, (.mv (.tmp 4)), (some (49, true)), none⟩, ⟨some 51, (.bin .eql (.tmp 50) (.con (.int .i64 19))), (some (49, true)), none⟩, ⟨some 52, (.pick (.tmp 49) (.tmp 51) (.con (.bool false))), none, none⟩, ⟨some 53, (.mv (.tmp 52)), none, none⟩, ⟨some 54, (.mv (.tmp 5)), (some (53, true)), none⟩, ⟨some 55, (.bin .eql (.tmp 54) (.con (.int .u64 18446744073709551615))), (some (53, true)), none⟩, ⟨some 56, (.pick (.tmp 53) (.tmp 55) (.con (.bool false))), none, none⟩, ⟨some 57, (.mv (.tmp 56)), none, none⟩, ⟨some 58, (.mv (.tmp 6)), (some (57, true)), none⟩, ⟨some 59, (.bin .eql (.tmp 58) (.con (.int .i64 0))), (some (57, true)), none⟩, ⟨some 60, (.pick (.tmp 57) (.tmp 59) (.con (.bool false))), none, none⟩, ⟨some 61, (.mv (.tmp 60)), none, none⟩, ⟨some 62, (.mv (.tmp 8)), (some (61, true)), none⟩, ⟨some 63, (.bin .eql (.tmp 62) (.con (.int .i64 19))), (some (61, true)), none⟩, ⟨some 64, (.pick (.tmp 61) (.tmp 63) (.con (.bool false))), none, none⟩, ⟨some 65, (.mv (.tmp 64)), none, none⟩, ⟨some 66, (.mv (.tmp 9)), (some (65, true)), none⟩, ⟨some 67, (.bin .eql (.tmp 66) (.con (.int .i64 (-9223372036854775808)))), (some (65, true)), none⟩, ⟨some 68, (.pick (.tmp 65) (.tmp 67) (.con (.bool false))), none, none⟩, ⟨some 69, (.mv (.tmp 68)), none, none⟩, ⟨some 70, (.mv (.tmp 10)), (some (69, true)), none⟩, ⟨some 71, (.bin .eql (.tmp 70) (.con (.int .i64 0))), (some (69, true)), none⟩, ⟨some 72, (.pick (.tmp 69) (.tmp 71) (.con (.bool false))), none, none⟩, ⟨some 73, (.mv (.tmp 72)), none, none⟩, ⟨some 74, (.mv (.tmp 12)), (some (73, true)), none⟩, ⟨some 75, (.bin .eql (.tmp 74) (.con (.int .i64 19))), (some (73, true)), none⟩, ⟨some 76, (.pick (.tmp 73) (.tmp 75) (.con (.bool false))), none, none⟩, ⟨some 77, (.mv (.tmp 76)), none, none⟩, ⟨some 78, (.mv (.tmp 13)), (some (77, true)), none⟩, ⟨some 79, (.len false (.tmp 78)), (some (77, true)), none⟩, ⟨some 80, (.bin .eql (.tmp 79) (.con (.int .i64 3))), (some (77, true)), none⟩, ⟨some 81, (.pick (.tmp 77) (.tmp 80) (.con (.bool false))), none, none⟩, ⟨some 82, (.mv (.tmp 81)), none, none⟩, ⟨some 83, (.mv (.tmp 13)), (some (82, true)), none⟩, ⟨some 84, (.idxASl 1 (.tmp 83) (.con (.int .i64 1))), (some (82, true)), none⟩, ⟨some 85, (.load false 1 (.tmp 84)), (some (82, true)), none⟩, ⟨some 86, (.bin .eql (.tmp 85) (.con (.str []))), (some (82, true)), none⟩, ⟨some 87, (.pick (.tmp 82) (.tmp 86) (.con (.bool false))), none, none⟩, ⟨some 88, (.mv (.tmp 87)), none, none⟩, ⟨some 89, (.call (.con (.func 10 [] [])) [(.con (.str []))]), (some (88, true)), none⟩, ⟨some 90, (.bin .eql (.tmp 89) (.con (.str [37]))), (some (88, true)), none⟩, ⟨some 91, (.pick (.tmp 88) (.tmp 90) (.con (.bool false))), none, none⟩, ⟨some 92, (.mv (.tmp 91)), none, none⟩, ⟨some 93, (.call (.con (.func 25 [] [])) [(.con (.str [97, 45, 49]))]), (some (92, true)), none⟩, ⟨some 94, (.bin .eql (.tmp 93) (.con (.int .i64 0))), (some (92, true)), none⟩, ⟨some 95, (.pick (.tmp 92) (.tmp 94) (.con (.bool false))), none, none⟩, ⟨some 96, (.mv (.tmp 95)), none, none⟩, ⟨some 97, (.call (.con (.func 25 [] [])) [(.con (.str [45, 97]))]), (some (96, true)), none⟩, ⟨some 98, (.bin .eql (.tmp 97) (.con (.int .i64 18))), (some (96, true)), none⟩, ⟨some 99, (.pick (.tmp 96) (.tmp 98) (.con (.bool false))), none, none⟩, ⟨some 100, (.mv (.tmp 99)), none, none⟩, ⟨some 101, (.call (.con (.func 26 [] [])) [(.con (.str []))]), (some (100, true)), none⟩, ⟨some 102, (.bin .eql (.tmp 101) (.con (.int .i64 18))), (some (100, true)), none⟩, ⟨some 103, (.pick (.tmp 100) (.tmp 102) (.con (.bool false))), none, none⟩, ⟨some 104, (.mv (.tmp 103)), none, none⟩, ⟨some 105, (.call (.con (.func 26 [] [])) [(.con (.str [255]))]), (some (104, true)), none⟩, ⟨some 106, (.bin .eql (.tmp 105) (.con (.int .i64 0))), (some (104, true)), none⟩, ⟨some 107, (.pick (.tmp 104) (.tmp 106) (.con (.bool false))), none, none⟩, ⟨some 108, (.mv (.tmp 107)), none, none⟩, ⟨some 109, (.call (.con (.func 27 [] [])) [(.con (.str []))]), (some (108, true)), none⟩, ⟨some 110, (.bin .eql (.tmp 109) (.con (.int .i64 0))), (some (108, true)), none⟩, ⟨some 111, (.pick (.tmp 108) (.tmp 110) (.con (.bool false))), none, none⟩, ⟨some 112, (.mv (.tmp 111)), none, none⟩, ⟨some 113, (.buildS 2 [(.str []), (.str [])] [(0, (1, (.con (.str [97])))), (1, (1, (.con (.str [98]))))]), (some (112, true)), none⟩, ⟨some 114, (.call (.con (.func 15 [] [])) [.tmp 113]), (some (112, true)), none⟩, ⟨some 115, (.bin .eql (.tmp 114) (.con (.str [97, 32, 98]))), (some (112, true)), none⟩, ⟨some 116, (.pick (.tmp 112) (.tmp 115) (.con (.bool false))), none, none⟩, ⟨some 0, (.mv (.tmp 116)), none, none⟩]) .ret))))))))), [.tmp 0]⟩
theorem c6_is : cfn Tryd.prog 6 = some c6 := by kernel_rfl
def c7 : AFn := ⟨(.seq (.region [⟨some 2, (.mv (.con (.str []))), none, none⟩, ⟨some 3, (.mv (.con (.int .i64 0))), none, none⟩]) (.seq (.seq (.region [⟨some 9, (.mv (.tmp 0)), none, none⟩, ⟨some 10, (.bin .eql (.tmp 9) (.con (.str [37]))), none, none⟩]) (.cond (.tmp 10) (.seq (.region [⟨some 2, (.mv (.con (.str []))), none, none⟩, ⟨some 3, (.mv (.con (.int .i64 0))), none, none⟩]) .ret) .skip)) (.seq (.region [⟨some 4, (.mv (.con .nils)), none, none⟩]) (.seq (.seq (.region [⟨some 5, (.mv (.con (.int .i64 0))), none, none⟩]) (.block 0 (.loop (.seq (.seq (.region [⟨some 11, (.mv (.tmp 5)), none, none⟩, ⟨some 12, (.mv (.tmp 0)), none, none⟩, ⟨some 13, (.len true (.tmp 12)), none, none⟩, ⟨some 14, (.bin .lss (.tmp 11) (.tmp 13)), none, none⟩]) (.cond (.tmp 14) .skip (.exit 0))) (.seq (.block 1 (.seq (.region [⟨some 17, (.mv (.tmp 0)), none, none⟩, ⟨some 18, (.mv (.tmp 5)), none, none⟩, ⟨some 19, (.idxStr (.tmp 17) (.tmp 18)), none, none⟩, ⟨some 6, (.mv (.tmp 19)), none, none⟩]) (.seq (.seq (.region [⟨some 20, (.mv (.tmp 6)), none, none⟩, ⟨some 21, (.bin .eql (.tmp 20) (.con (.int .u8 37))), none, none⟩, ⟨some 22, (.mv (.tmp 21)), none, none⟩, ⟨some 23, (.mv (.tmp 5)), (some (22, true)), none⟩, ⟨some 24, (.mv (.tmp 0)), (some (22, true)), none⟩, ⟨some 25, (.len true (.tmp 24)), (some (22, true)), none⟩, ⟨some 26, (.bin .sub (.tmp 25) (.con (.int .i64 2))), (some (22, true)), none⟩, ⟨some 27, (.bin .lss (.tmp 23) (.tmp 26)), (some (22, true)), none⟩, ⟨some 28, (.pick (.tmp 22) (.tmp 27) (.con (.bool false))), none, none⟩]) (.cond (.tmp 28) (.seq (.draw [⟨some 29, (.mv (.tmp 0)), none, none⟩, ⟨some 30, (.mv (.tmp 5)), none, none⟩, ⟨some 31, (.bin .add (.tmp 30) (.con (.int .i64 1))), none, none⟩, ⟨some 32, (.idxStr (.tmp 29) (.tmp 31)), none, none⟩, ⟨some 33, (.call (.con (.func 28 [] [])) [(.con (.str [48, 49, 50, 51, 52, 53, 54, 55, 56, 57, 65, 66, 67, 68, 69, 70])), .tmp 32]), none, none⟩, ⟨some 34, (.mv (.tmp 0)), none, none⟩, ⟨some 35, (.mv (.tmp 5)), none, none⟩, ⟨some 36, (.bin .add (.tmp 35) (.con (.int .i64 2))), none, none⟩, ⟨some 37, (.idxStr (.tmp 34) (.tmp 36)), none, none⟩, ⟨some 38, (.call (.con (.func 28 [] [])) [(.con (.str [48, 49, 50, 51, 52, 53, 54, 55, 56, 57, 65, 66, 67, 68, 69, 70])), .tmp 37]), none, none⟩, ⟨some 7, (.mv (.tmp 33)), none, none⟩, ⟨some 8, (.mv (.tmp 38)), none, none⟩]) (.seq (.region [⟨some 39, (.mv (.tmp 7)), none, none⟩, ⟨some 40, (.bin .shl (.tmp 39) (.con (.int .u64 4))), none, none⟩, ⟨some 41, (.mv (.tmp 8)), none, none⟩, ⟨some 42, (.bin .or (.tmp 40) (.tmp 41)), none, none⟩, ⟨some 43, (.toInt .u8 (.tmp 42)), none, none⟩, ⟨some 6, (.mv (.tmp 43)), none, none⟩]) (.region [⟨some 44, (.mv (.tmp 5)), none, none⟩, ⟨some 45, (.bin .add (.tmp 44) (.con (.int .i64 2))), none, none⟩, ⟨some 5, (.mv (.tmp 45)), none, none⟩]))) .skip)) (.region [⟨some 46, (.mv (.tmp 4)), none, none⟩, ⟨some 47, (.mv (.tmp 6)), none, none⟩, ⟨some 48, (.buildS 1 [(.int .u8 0)] [(0, (1, (.tmp 47)))]), none, none⟩, ⟨some 49, (.append 1 1 (.tmp 46) (.tmp 48)), none, none⟩, ⟨some 4, (.mv (.tmp 49)), none, none⟩])))) (.region [⟨some 15, (.mv (.tmp 5)), none, none⟩, ⟨some 16, (.bin .add (.tmp 15) (.con (.int .i64 1))), none, none⟩, ⟨some 5, (.mv (.tmp 16)), none, none⟩])))))) (.seq (.seq (.region [⟨some 50, (.mv (.tmp 4)), none, none⟩, ⟨some 51, (.len false (.tmp 50)), none, none⟩, ⟨some 52, (.bin .eql (.tmp 51) (.con (.int .i64 0))), none, none⟩, ⟨some 53, (.mv (.tmp 52)), none, none⟩, ⟨some 54, (.mv (.tmp 4)), (some (53, false)), none⟩, ⟨some 55, (.bToS (.tmp 54)), (some (53, false)), none⟩, ⟨some 56, (.call (.con (.func 10 [] [])) [.tmp 55]), (some (53, false)), none⟩, ⟨some 57, (.mv (.tmp 0)), (some (53, false)), none⟩, ⟨some 58, (.bin .neq (.tmp 56) (.tmp 57)), (some (53, false)), none⟩, ⟨some 59, (.pick (.tmp 53) (.con (.bool true)) (.tmp 58)), none, none⟩]) (.cond (.tmp 59) (.seq (.region [⟨some 2, (.mv (.con (.str []))), none, none⟩, ⟨some 3, (.mv (.con (.int .i64 19))), none, none⟩]) .ret) .skip)) (.seq (.region [⟨some 60, (.mv (.tmp 4)), none, none⟩, ⟨some 61, (.bToS (.tmp 60)), none, none⟩, ⟨some 2, (.mv (.tmp 61)), none, none⟩, ⟨some 3, (.mv (.con (.int .i64 0))), none, none⟩]) .ret)))))), [.tmp 2, .tmp 3]⟩
theorem c7_is : cfn Tryd.prog 7 = some c7 := by kernel_rfl
def c8 : AFn := ⟨(.seq (.region [⟨some 2, (.mv (.con (.str []))), none, none⟩, ⟨some 3, (.mv (.con (.int .i64 0))), none, none⟩]) (.seq (.region [⟨some 6, (.buildS 0 [] []), none, none⟩, ⟨some 4, (.mv (.tmp 6)), none, none⟩]) (.seq (.seq (.region [⟨some 5, (.mv (.con (.int .i64 0))), none, none⟩]) (.block 0 (.loop (.seq (.seq (.region [⟨some 7, (.mv (.tmp 5)), none, none⟩, ⟨some 8, (.mv (.tmp 0)), none, none⟩, ⟨some 9, (.len true (.tmp 8)), none, none⟩, ⟨some 10, (.bin .lss (.tmp 7) (.tmp 9)), none, none⟩]) (.cond (.tmp 10) .skip (.exit 0))) (.seq (.block 1 (.seq (.region [⟨some 13, (.mv (.tmp 0)), none, none⟩, ⟨some 14, (.mv (.tmp 5)), none, none⟩, ⟨some 15, (.idxStr (.tmp 13) (.tmp 14)), none, none⟩, ⟨some 16, (.bin .eql (.tmp 15) (.con (.int .u8 37))), none, none⟩, ⟨some 17, (.mv (.tmp 16)), none, none⟩, ⟨some 18, (.mv (.tmp 5)), (some (17, true)), none⟩, ⟨some 19, (.bin .add (.tmp 18) (.con (.int .i64 2))), (some (17, true)), none⟩, ⟨some 20, (.mv (.tmp 0)), (some (17, true)), none⟩, ⟨some 21, (.len true (.tmp 20)), (some (17, true)), none⟩, ⟨some 22, (.bin .lss (.tmp 19) (.tmp 21)), (some (17, true)), none⟩, ⟨some 23, (.pick (.tmp 17) (.tmp 22) (.con (.bool false))), none, none⟩]) (.cond (.tmp 23) (.seq (.draw [⟨some 24, (.mv (.tmp 4)), none, none⟩, ⟨some 25, (.mv (.tmp 0)), none, none⟩, ⟨some 26, (.mv (.tmp 5)), none, none⟩, ⟨some 27, (.bin .add (.tmp 26) (.con (.int .i64 1))), none, none⟩, ⟨some 28, (.idxStr (.tmp 25) (.tmp 27)), none, none⟩, ⟨some 29, (.call (.con (.func 29 [] [])) [.tmp 28]), none, none⟩, ⟨some 30, (.bin .mul (.con (.int .u8 16)) (.tmp 29)), none, none⟩, ⟨some 31, (.mv (.tmp 0)), none, none⟩, ⟨some 32, (.mv (.tmp 5)), none, none⟩, ⟨some 33, (.bin .add (.tmp 32) (.con (.int .i64 2))), none, none⟩, ⟨some 34, (.idxStr (.tmp 31) (.tmp 33)), none, none⟩, ⟨some 35, (.call (.con (.func 29 [] [])) [.tmp 34]), none, none⟩, ⟨some 36, (.bin .add (.tmp 30) (.tmp 35)), none, none⟩, ⟨some 37, (.buildS 1 [(.int .u8 0)] [(0, (1, (.tmp 36)))]), none, none⟩, ⟨some 38, (.append 1 1 (.tmp 24) (.tmp 37)), none, none⟩, ⟨some 4, (.mv (.tmp 38)), none, none⟩]) (.region [⟨some 39, (.mv (.tmp 5)), none, none⟩, ⟨some 40, (.bin .add (.tmp 39) (.con (.int .i64 2))), none, none⟩, ⟨some 5, (.mv (.tmp 40)), none, none⟩])) (.seq (.region [⟨some 41, (.mv (.tmp 0)), none, none⟩, ⟨some 42, (.bin .neq (.tmp 41) (.con (.str [37]))), none, none⟩]) (.cond (.tmp 42) (.region [⟨some 43, (.mv (.tmp 4)), none, none⟩, ⟨some 44, (.mv (.tmp 0)), none, none⟩, ⟨some 45, (.mv (.tmp 5)), none, none⟩, ⟨some 46, (.idxStr (.tmp 44) (.tmp 45)), none, none⟩, ⟨some 47, (.buildS 1 [(.int .u8 0)] [(0, (1, (.tmp 46)))]), none, none⟩, ⟨some 48, (.append 1 1 (.tmp 43) (.tmp 47)), none, none⟩, ⟨some 4, (.mv (.tmp 48)), none, none⟩]) .skip))))) (.region [⟨some 11, (.mv (.tmp 5)), none, none⟩, ⟨some 12, (.bin .add (.tmp 11) (.con (.int .i64 1))), none, none⟩, ⟨some 5, (.mv (.tmp 12)), none, none⟩])))))) (.seq (.seq (.region [⟨some 49, (.mv (.tmp 4)), none, none⟩, ⟨some 50, (.bToS (.tmp 49)), none, none⟩, ⟨some 51, (.call (.con (.func 11 [] [])) [.tmp 50]), none, none⟩, ⟨some 52, (.mv (.tmp 0)), none, none⟩, ⟨some 53, (.bin .neq (.tmp 51) (.tmp 52)), none, none⟩]) (.cond (.tmp 53) (.seq (.region [⟨some 2, (.mv (.con (.str []))), none, none⟩, ⟨some 3, (.mv (.con (.int .i64 19))), none, none⟩]) .ret) .skip)) (.seq (.region [⟨some 54, (.mv (.tmp 4)), none, none⟩, ⟨some 55, (.bToS (.tmp 54)), none, none⟩, ⟨some 2, (.mv (.tmp 55)), none, none⟩, ⟨some 3, (.mv (.con (.int .i64 0))), none, none⟩]) .ret))))), [.tmp 2, .tmp 3]⟩
theorem c8_is : cfn Tryd.prog 8 = some c8 := by kernel_rfl
def c9 : AFn := ⟨(.seq (.region [⟨some 2, (.mv (.con (.bool false))), none, none⟩]) (.seq (.region [⟨some 3, (.mv (.tmp 0)), none, none⟩, ⟨some 4, (.call (.con (.func 25 [] [])) [.tmp 3]), none, none⟩, ⟨some 5, (.bin .eql (.tmp 4) (.con (.int .i64 0))), none, none⟩, ⟨some 6, (.mv (.tmp 0)), none, none⟩, ⟨some 7, (.call (.con (.func 30 [] [])) [.tmp 6]), none, none⟩, ⟨some 8, (.eq false .bool (.tmp 5) (.tmp 7)), none, none⟩, ⟨some 9, (.mv (.tmp 8)), none, none⟩, ⟨some 10, (.mv (.tmp 0)), (some (9, true)), none⟩, ⟨some 11, (.call (.con (.func 26 [] [])) [.tmp 10]), (some (9, true)), none⟩, ⟨some 12, (.bin .eql (.tmp 11) (.con (.int .i64 0))), (some (9, true)), none⟩, ⟨some 13, (.mv (.tmp 0)), (some (9, true)), none⟩, ⟨some 14, (.call (.con (.func 31 [] [])) [.tmp 13]), (some (9, true)), none⟩, ⟨some 15, (.eq false .bool (.tmp 12) (.tmp 14)), (some (9, true)), none⟩, ⟨some 16, (.pick (.tmp 9) (.tmp 15) (.con (.bool false))), none, none⟩, ⟨some 17, (.mv (.tmp 16)), none, none⟩, ⟨some 18, (.mv (.tmp 0)), (some (17, true)), none⟩, ⟨some 19, (.call (.con (.func 27 [] [])) [.tmp 18]), (some (17, true)), none⟩, ⟨some 20, (.bin .eql (.tmp 19) (.con (.int .i64 0))), (some (17, true)), none⟩, ⟨some 21, (.mv (.tmp 0)), (some (17, true)), none⟩, ⟨some 22, (.call (.con (.func 32 [] [])) [.tmp 21]), (some (17, true)), none⟩, ⟨some 23, (.eq false .bool (.tmp 20) (.tmp 22)), (some (17, true)), none⟩, ⟨some 24, (.pick (.tmp 17) (.tmp 23) (.con (.bool false))), none, none⟩, ⟨some 25, (.mv (.tmp 24)), none, none⟩, ⟨some 26, (.mv (.tmp 0)), (some (25, true)), none⟩, ⟨some 27, (.call (.con (.func 25 [] [])) [.tmp 26]), (some (25, true)), none⟩, ⟨some 28, (.bin .eql (.tmp 27) (.con (.int .i64 0))), (some (25, true)), none⟩, ⟨some 29, (.mv (.tmp 28)), (some (25, true)), none⟩, ⟨some 30, (.mv (.tmp 0)), (some (29, false)), none⟩, ⟨some 31, (.call (.con (.func 25 [] [])) [.tmp 30]), (some (29, false)), none⟩, ⟨some 32, (.bin .eql (.tmp 31) (.con (.int .i64 18))), (some (29, false)), none⟩, ⟨some 33, (.pick (.tmp 29) (.con (.bool true)) (.tmp 32)), (some (25, true)), none⟩, ⟨some 34, (.pick (.tmp 25) (.tmp 33) (.con (.bool false))), none, none⟩, ⟨some 35, (.mv (.tmp 34)), none, none⟩, ⟨some 36, (.mv (.tmp 0)), (some (35, true)), none⟩, ⟨some 37, (.call (.con (.func 26 [] [])) [.tmp 36]), (some (35, true)), none⟩, ⟨some 38, (.bin .eql (.tmp 37) (.con (.int .i64 0))), (some (35, true)), none⟩, ⟨some 39, (.mv (.tmp 38)), (some (35, true)), none⟩, ⟨some 40, (.mv (.tmp 0)), (some (39, false)), none⟩, ⟨some 41, (.call (.con (.func 26 [] [])) [.tmp 40]), (some (39, false)), none⟩, ⟨some 42, (.bin .eql (.tmp 41) (.con (.int .i64 18))), (some (39, false)), none⟩, ⟨some 43, (.pick (.tmp 39) (.con (.bool true)) (.tmp 42)), (some (35, true)), none⟩, ⟨some 44, (.pick (.tmp 35) (.tmp 43) (.con (.bool false))), none, none⟩, ⟨some 45, (.mv (.tmp 44)), none, none⟩, ⟨some 46, (.mv (.tmp 0)), (some (45, true)), none⟩, ⟨some 47, (.call (.con (.func 27 [] [])) [.tmp 46]), (some (45, true)), none⟩, ⟨some 48, (.bin .eql (.tmp 47) (.con (.int .i64 0))), (some (45, true)), none⟩, ⟨some 49, (.mv (.tmp 48)), (some (45, true)), none⟩, ⟨some 50, (.mv (.tmp 0)), (some (49, false)), none⟩, ⟨some 51, (.call (.con (.func 27 [] [])) [.tmp 50]), (some (49, false)), none⟩, ⟨some 52, (.bin .eql (.tmp 51) (.con (.int .i64 18))), (some (49, false)), none⟩, ⟨some 53, (.pick (.tmp 49) (.con (.bool true)) (.tmp 52)), (some (45, true)), none⟩, ⟨some 54, (.pick (.tmp 45) (.tmp 53) (.con (.bool false))), none, none⟩, ⟨some 2, (.mv (.tmp 54)), none, none⟩]) .ret)), [.tmp 2]⟩
theorem c9_is : cfn Tryd.prog 9 = some c9 := by kernel_rfl
def c10 : AFn := ⟨(.seq (.region [⟨some 2, (.mv (.con (.str []))), none, none⟩]) (.seq (.seq (.region [⟨some 6, (.mv (.tmp 0)), none, none⟩, ⟨some 7, (.bin .eql (.tmp 6) (.con (.str []))), none, none⟩]) (.cond (.tmp 7) (.seq (.region [⟨some 2, (.mv (.con (.str [37]))), none, none⟩]) .ret) .skip)) (.seq (.region [⟨some 3, (.mv (.con .nils)), none, none⟩]) (.seq (.seq (.region [⟨some 8, (.mv (.tmp 0)), none, none⟩, ⟨some 9, (.sToB (.tmp 8)), none, none⟩, ⟨some 10, (.len false (.tmp 9)), none, none⟩, ⟨some 11, (.mv (.con (.int .i64 0))), none, none⟩]) (.block 0 (.loop (.seq (.region [⟨some 12, (.bin .lss (.tmp 11) (.tmp 10)), none, none⟩]) (.seq (.cond (.tmp 12) .skip (.exit 0)) (.seq (.block 1 (.seq (.region [⟨some 13, (.idxASl 1 (.tmp 9) (.tmp 11)), none, none⟩, ⟨some 14, (.load false 1 (.tmp 13)), none, none⟩, ⟨some 5, (.mv (.tmp 14)), none, none⟩]) (.seq (.seq (.region [⟨some 15, (.mv (.tmp 5)), none, none⟩, ⟨some 16, (.call (.con (.func 33 [] [])) [.tmp 15]), none, none⟩]) (.cond (.tmp 16) (.seq (.region [⟨some 17, (.mv (.tmp 3)), none, none⟩, ⟨some 18, (.mv (.tmp 5)), none, none⟩, ⟨some 19, (.buildS 1 [(.int .u8 0)] [(0, (1, (.tmp 18)))]), none, none⟩, ⟨some 20, (.append 1 1 (.tmp 17) (.tmp 19)), none, none⟩, ⟨some 3, (.mv (.tmp 20)), none, none⟩]) (.exit 1)) .skip)) (.draw [⟨some 21, (.mv (.tmp 3)), none, none⟩, ⟨some 22, (.mv (.tmp 5)), none, none⟩, ⟨some 23, (.bin .shr (.tmp 22) (.con (.int .u64 4))), none, none⟩, ⟨some 24, (.idxStr (.con (.str [48, 49, 50, 51, 52, 53, 54, 55, 56, 57, 65, 66, 67, 68, 69, 70])) (.tmp 23)), none, none⟩, ⟨some 25, (.mv (.tmp 5)), none, none⟩, ⟨some 26, (.bin .and (.tmp 25) (.con (.int .u8 15))), none, none⟩, ⟨some 27, (.idxStr (.con (.str [48, 49, 50, 51, 52, 53, 54, 55, 56, 57, 65, 66, 67, 68, 69, 70])) (.tmp 26)), none, none⟩, ⟨some 28, (.buildS 3 [(.int .u8 0), (.int .u8 0), (.int .u8 0)] [(0, (1, (.con (.int .u8 37)))), (1, (1, (.tmp 24))), (2, (1, (.tmp 27)))]), none, none⟩, ⟨some 29, (.append 1 1 (.tmp 21) (.tmp 28)), none, none⟩, ⟨some 3, (.mv (.tmp 29)), none, none⟩])))) (.region [⟨some 30, (.bin .add (.tmp 11) (.con (.int .i64 1))), none, none⟩, ⟨some 11, (.mv (.tmp 30)), none, none⟩]))))))) (.seq (.region [⟨some 31, (.mv (.tmp 3)), none, none⟩, ⟨some 32, (.bToS (.tmp 31)), none, none⟩, ⟨some 2, (.mv (.tmp 32)), none, none⟩]) .ret))))), [.tmp 2]⟩
theorem c10_is : cfn Tryd.prog 10 = some c10 := by kernel_rfl
def c11 : AFn := ⟨(.seq (.region [⟨some 2, (.mv (.con (.str []))), none, none⟩]) (.seq (.seq (.region [⟨some 6, (.mv (.tmp 0)), none, none⟩, ⟨some 7, (.bin .eql (.tmp 6) (.con (.str []))), none, none⟩]) (.cond (.tmp 7) (.seq (.region [⟨some 2, (.mv (.con (.str [37]))), none, none⟩]) .ret) .skip)) (.seq (.region [⟨some 3, (.mv (.con (.str []))), none, none⟩]) (.seq (.seq (.region [⟨some 4, (.mv (.con (.int .i64 0))), none, none⟩]) (.block 0 (.loop (.seq (.seq (.region [⟨some 8, (.mv (.tmp 4)), none, none⟩, ⟨some 9, (.mv (.tmp 0)), none, none⟩, ⟨some 10, (.len true (.tmp 9)), none, none⟩, ⟨some 11, (.bin .lss (.tmp 8) (.tmp 10)), none, none⟩]) (.cond (.tmp 11) .skip (.exit 0))) (.seq (.block 1 (.seq (.region [⟨some 14, (.mv (.tmp 0)), none, none⟩, ⟨some 15, (.mv (.tmp 4)), none, none⟩, ⟨some 16, (.idxStr (.tmp 14) (.tmp 15)), none, none⟩, ⟨some 5, (.mv (.tmp 16)), none, none⟩]) (.seq (.region [⟨some 17, (.mv (.tmp 5)), none, none⟩, ⟨some 18, (.call (.con (.func 34 [] [])) [.tmp 17, (.con (.int .u8 97)), (.con (.int .u8 122))]), none, none⟩, ⟨some 19, (.mv (.tmp 18)), none, none⟩, ⟨some 20, (.mv (.tmp 5)), (some (19, false)), none⟩, ⟨some 21, (.call (.con (.func 34 [] [])) [.tmp 20, (.con (.int .u8 65)), (.con (.int .u8 90))]), (some (19, false)), none⟩, ⟨some 22, (.pick (.tmp 19) (.con (.bool true)) (.tmp 21)), none, none⟩, ⟨some 23, (.mv (.tmp 22)), none, none⟩, ⟨some 24, (.mv (.tmp 5)), (some (23, false)), none⟩, ⟨some 25, (.call (.con (.func 34 [] [])) [.tmp 24, (.con (.int .u8 48)), (.con (.int .u8 57))]), (some (23, false)), none⟩, ⟨some 26, (.pick (.tmp 23) (.con (.bool true)) (.tmp 25)), none, none⟩, ⟨some 27, (.mv (.tmp 26)), none, none⟩, ⟨some 28, (.mv (.tmp 5)), (some (27, false)), none⟩, ⟨some 29, (.bin .eql (.tmp 28) (.con (.int .u8 45))), (some (27, false)), none⟩, ⟨some 30, (.pick (.tmp 27) (.con (.bool true)) (.tmp 29)), none, none⟩, ⟨some 31, (.mv (.tmp 30)), none, none⟩, ⟨some 32, (.mv (.tmp 5)), (some (31, false)), none⟩, ⟨some 33, (.bin .eql (.tmp 32) (.con (.int .u8 95))), (some (31, false)), none⟩, ⟨some 34, (.pick (.tmp 31) (.con (.bool true)) (.tmp 33)), none, none⟩, ⟨some 35, (.mv (.tmp 34)), none, none⟩, ⟨some 36, (.mv (.tmp 5)), (some (35, false)), none⟩, ⟨some 37, (.bin .eql (.tmp 36) (.con (.int .u8 46))), (some (35, false)), none⟩, ⟨some 38, (.pick (.tmp 35) (.con (.bool true)) (.tmp 37)), none, none⟩]) (.cond (.tmp 38) (.region [⟨some 39, (.mv (.tmp 3)), none, none⟩, ⟨some 40, (.mv (.tmp 0)), none, none⟩, ⟨some 41, (.mv (.tmp 4)), none, none⟩, ⟨some 42, (.mv (.tmp 4)), none, none⟩, ⟨some 43, (.bin .add (.tmp 42) (.con (.int .i64 1))), none, none⟩, ⟨some 44, (.slcStr (.tmp 40) (some (.tmp 41)) (some (.tmp 43))), none, none⟩, ⟨some 45, (.bin .add (.tmp 39) (.tmp 44)), none, none⟩, ⟨some 3, (.mv (.tmp 45)), none, none⟩]) (.draw [⟨some 46, (.mv (.tmp 3)), none, none⟩, ⟨some 47, (.bin .add (.tmp 46) (.con (.str [37]))), none, none⟩, ⟨some 48, (.mv (.tmp 5)), none, none⟩, ⟨some 49, (.bin .quo (.tmp 48) (.con (.int .u8 16))), none, none⟩, ⟨some 50, (.mv (.tmp 5)), none, none⟩, ⟨some 51, (.bin .quo (.tmp 50) (.con (.int .u8 16))), none, none⟩, ⟨some 52, (.bin .add (.tmp 51) (.con (.int .u8 1))), none, none⟩, ⟨some 53, (.slcStr (.con (.str [48, 49, 50, 51, 52, 53, 54, 55, 56, 57, 65, 66, 67, 68, 69, 70])) (some (.tmp 49)) (some (.tmp 52))), none, none⟩, ⟨some 54, (.bin .add (.tmp 47) (.tmp 53)), none, none⟩, ⟨some 55, (.mv (.tmp 5)), none, none⟩, ⟨some 56, (.bin .rem (.tmp 55) (.con (.int .u8 16))), none, none⟩, ⟨some 57, (.mv (.tmp 5)), none, none⟩, ⟨some 58, (.bin .rem (.tmp 57) (.con (.int .u8 16))), none, none⟩, ⟨some 59, (.bin .add (.tmp 58) (.con (.int .u8 1))), none, none⟩, ⟨some 60, (.slcStr (.con (.str [48, 49, 50, 51, 52, 53, 54, 55, 56, 57, 65, 66, 67, 68, 69, 70])) (some (.tmp 56)) (some (.tmp 59))), none, none⟩, ⟨some 61, (.bin .add (.tmp 54) (.tmp 60)), none, none⟩, ⟨some 3, (.mv (.tmp 61)), none, none⟩]))))) (.region [⟨some 12, (.mv (.tmp 4)), none, none⟩, ⟨some 13, (.bin .add (.tmp 12) (.con (.int .i64 1))), none, none⟩, ⟨some 4, (.mv (.tmp 13)), none, none⟩])))))) (.seq (.region [⟨some 62, (.mv (.tmp 3)), none, none⟩, ⟨some 2, (.mv (.tmp 62)), none, none⟩]) .ret))))), [.tmp 2]⟩
theorem c11_is : cfn Tryd.prog 11 = some c11 := by kernel_rfl
def c12 : AFn := ⟨(.seq (.region [⟨some 4, (.mv (.con (.bool false))), none, none⟩]) (.seq (.seq (.region [⟨some 6, (.mv (.tmp 0)), none, none⟩, ⟨some 7, (.len false (.tmp 6)), none, none⟩, ⟨some 8, (.mv (.tmp 1)), none, none⟩, ⟨some 9, (.len false (.tmp 8)), none, none⟩, ⟨some 10, (.bin .neq (.tmp 7) (.tmp 9)), none, none⟩]) (.cond (.tmp 10) (.seq (.region [⟨some 4, (.mv (.con (.bool false))), none, none⟩]) .ret) .skip)) (.seq (.seq (.region [⟨some 5, (.mv (.con (.int .i64 0))), none, none⟩]) (.block 0 (.loop (.seq (.seq (.region [⟨some 11, (.mv (.tmp 5)), none, none⟩, ⟨some 12, (.mv (.tmp 0)), none, none⟩, ⟨some 13, (.len false (.tmp 12)), none, none⟩, ⟨some 14, (.bin .lss (.tmp 11) (.tmp 13)), none, none⟩]) (.cond (.tmp 14) .skip (.exit 0))) (.seq (.block 1 (.seq (.draw [⟨some 17, (.mv (.tmp 0)), none, none⟩, ⟨some 18, (.mv (.tmp 5)), none, none⟩, ⟨some 19, (.idxASl 1 (.tmp 17) (.tmp 18)), none, none⟩, ⟨some 20, (.load false 1 (.tmp 19)), none, none⟩, ⟨some 21, (.mv (.tmp 1)), none, none⟩, ⟨some 22, (.mv (.tmp 5)), none, none⟩, ⟨some 23, (.idxASl 1 (.tmp 21) (.tmp 22)), none, none⟩, ⟨some 24, (.load false 1 (.tmp 23)), none, none⟩, ⟨some 25, (.bin .neq (.tmp 20) (.tmp 24)), none, none⟩]) (.cond (.tmp 25) (.seq (.region [⟨some 4, (.mv (.con (.bool false))), none, none⟩]) .ret) .skip))) (.region [⟨some 15, (.mv (.tmp 5)), none, none⟩, ⟨some 16, (.bin .add (.tmp 15) (.con (.int .i64 1))), none, none⟩, ⟨some 5, (.mv (.tmp 16)), none, none⟩])))))) (.seq (.region [⟨some 4, (.mv (.con (.bool true))), none, none⟩]) .ret)))), [.tmp 4]⟩
theorem c12_is : cfn Tryd.prog 12 = some c12 := by kernel_rfl
def c13 : AFn := ⟨(.seq (.region [⟨some 2, (.mv (.con .nils)), none, none⟩]) (.seq (.region [⟨some 3, (.mv (.tmp 0)), none, none⟩, ⟨some 4, (.call (.con (.func 35 [] [])) [.tmp 3, (.con (.str [32]))]), none, none⟩, ⟨some 2, (.mv (.tmp 4)), none, none⟩]) .ret)), [.tmp 2]⟩
theorem c13_is : cfn Tryd.prog 13 = some c13 := by kernel_rfl
def c14 : AFn := ⟨(.seq (.region [⟨some 2, (.mv (.con .nils)), none, none⟩]) (.seq (.region [⟨some 6, (.buildS 0 [] []), none, none⟩, ⟨some 3, (.mv (.tmp 6)), none, none⟩]) (.seq (.region [⟨some 4, (.mv (.con (.int .i64 0))), none, none⟩]) (.seq (.seq (.region [⟨some 5, (.mv (.con (.int .i64 0))), none, none⟩]) (.block 0 (.loop (.seq (.seq (.region [⟨some 7, (.mv (.tmp 5)), none, none⟩, ⟨some 8, (.mv (.tmp 0)), none, none⟩, ⟨some 9, (.len true (.tmp 8)), none, none⟩, ⟨some 10, (.bin .leq (.tmp 7) (.tmp 9)), none, none⟩]) (.cond (.tmp 10) .skip (.exit 0))) (.seq (.block 1 (.seq (.region [⟨some 13, (.mv (.tmp 5)), none, none⟩, ⟨some 14, (.mv (.tmp 0)), none, none⟩, ⟨some 15, (.len true (.tmp 14)), none, none⟩, ⟨some 16, (.bin .eql (.tmp 13) (.tmp 15)), none, none⟩, ⟨some 17, (.mv (.tmp 16)), none, none⟩, ⟨some 18, (.mv (.tmp 0)), (some (17, false)), none⟩, ⟨some 19, (.mv (.tmp 5)), (some (17, false)), none⟩, ⟨some 20, (.idxStr (.tmp 18) (.tmp 19)), (some (17, false)), none⟩, ⟨some 21, (.bin .eql (.tmp 20) (.con (.int .u8 32))), (some (17, false)), none⟩, ⟨some 22, (.pick (.tmp 17) (.con (.bool true)) (.tmp 21)), none, none⟩]) (.cond (.tmp 22) (.seq (.region [⟨some 23, (.mv (.tmp 3)), none, none⟩, ⟨some 24, (.mv (.tmp 0)), none, none⟩, ⟨some 25, (.mv (.tmp 4)), none, none⟩, ⟨some 26, (.mv (.tmp 5)), none, none⟩, ⟨some 27, (.slcStr (.tmp 24) (some (.tmp 25)) (some (.tmp 26))), none, none⟩, ⟨some 28, (.buildS 1 [(.str [])] [(0, (1, (.tmp 27)))]), none, none⟩, ⟨some 29, (.append 1 16 (.tmp 23) (.tmp 28)), none, none⟩, ⟨some 3, (.mv (.tmp 29)), none, none⟩]) (.region [⟨some 30, (.mv (.tmp 5)), none, none⟩, ⟨some 31, (.bin .add (.tmp 30) (.con (.int .i64 1))), none, none⟩, ⟨some 4, (.mv (.tmp 31)), none, none⟩])) .skip))) (.region [⟨some 11, (.mv (.tmp 5)), none, none⟩, ⟨some 12, (.bin .add (.tmp 11) (.con (.int .i64 1))), none, none⟩, ⟨some 5, (.mv (.tmp 12)), none, none⟩])))))) (.seq (.region [⟨some 32, (.mv (.tmp 3)), none, none⟩, ⟨some 2, (.mv (.tmp 32)), none, none⟩]) .ret))))), [.tmp 2]⟩
theorem c14_is : cfn Tryd.prog 14 = some c14 := by kernel_rfl
def c15 : AFn := ⟨(.seq (.region [⟨some 2, (.mv (.con (.str []))), none, none⟩]) (.seq (.region [⟨some 3, (.mv (.tmp 0)), none, none⟩, ⟨some 4, (.call (.con (.func 36 [] [])) [.tmp 3, (.con (.str [32]))]), none, none⟩, ⟨some 2, (.mv (.tmp 4)), none, none⟩]) .ret)), [.tmp 2]⟩
theorem c15_is : cfn Tryd.prog 15 = some c15 := by kernel_rfl
def c16 : AFn := ⟨(.seq (.region [⟨some 2, (.mv (.con (.str []))), none, none⟩]) (.seq (.region [⟨some 3, (.mv (.con (.str []))), none, none⟩]) (.seq (.seq (.region [⟨some 4, (.mv (.con (.int .i64 0))), none, none⟩]) (.block 0 (.loop (.seq (.seq (.region [⟨some 5, (.mv (.tmp 4)), none, none⟩, ⟨some 6, (.mv (.tmp 0)), none, none⟩, ⟨some 7, (.len false (.tmp 6)), none, none⟩, ⟨some 8, (.bin .lss (.tmp 5) (.tmp 7)), none, none⟩]) (.cond (.tmp 8) .skip (.exit 0))) (.seq (.block 1 (.seq (.seq (.region [⟨some 11, (.mv (.tmp 4)), none, none⟩, ⟨some 12, (.bin .gtr (.tmp 11) (.con (.int .i64 0))), none, none⟩]) (.cond (.tmp 12) (.region [⟨some 13, (.mv (.tmp 3)), none, none⟩, ⟨some 14, (.bin .add (.tmp 13) (.con (.str [32]))), none, none⟩, ⟨some 3, (.mv (.tmp 14)), none, none⟩]) .skip)) (.region [⟨some 15, (.mv (.tmp 3)), none, none⟩, ⟨some 16, (.mv (.tmp 0)), none, none⟩, ⟨some 17, (.mv (.tmp 4)), none, none⟩, ⟨some 18, (.idxASl 1 (.tmp 16) (.tmp 17)), none, none⟩, ⟨some 19, (.load false 1 (.tmp 18)), none, none⟩, ⟨some 20, (.bin .add (.tmp 15) (.tmp 19)), none, none⟩, ⟨some 3, (.mv (.tmp 20)), none, none⟩]))) (.region [⟨some 9, (.mv (.tmp 4)), none, none⟩, ⟨some 10, (.bin .add (.tmp 9) (.con (.int .i64 1))), none, none⟩, ⟨some 4, (.mv (.tmp 10)), none, none⟩])))))) (.seq (.region [⟨some 21, (.mv (.tmp 3)), none, none⟩, ⟨some 2, (.mv (.tmp 21)), none, none⟩]) .ret)))), [.tmp 2]⟩
theorem c16_is : cfn Tryd.prog 16 = some c16 := by kernel_rfl
def c17 : AFn := ⟨(.seq (.region [⟨some 2, (.mv (.con (.int .u64 0))), none, none⟩, ⟨some 3, (.mv (.con (.int .i64 0))), none, none⟩]) (.seq (.seq (.region [⟨some 7, (.mv (.tmp 0)), none, none⟩, ⟨some 8, (.bin .eql (.tmp 7) (.con (.str []))), none, none⟩, ⟨some 9, (.mv (.tmp 8)), none, none⟩, ⟨some 10, (.mv (.tmp 0)), (some (9, false)), none⟩, ⟨some 11, (.len true (.tmp 10)), (some (9, false)), none⟩, ⟨some 12, (.bin .gtr (.tmp 11) (.con (.int .i64 20))), (some (9, false)), none⟩, ⟨some 13, (.pick (.tmp 9) (.con (.bool true)) (.tmp 12)), none, none⟩, ⟨some 14, (.mv (.tmp 13)), none, none⟩, ⟨some 15, (.mv (.tmp 0)), (some (14, false)), none⟩, ⟨some 16, (.call (.con (.func 37 [] [])) [.tmp 15, (.con (.func 38 [] []))]), (some (14, false)), none⟩, ⟨some 17, (.un .not (.tmp 16)), (some (14, false)), none⟩, ⟨some 18, (.pick (.tmp 14) (.con (.bool true)) (.tmp 17)), none, none⟩]) (.cond (.tmp 18) (.seq (.region [⟨some 2, (.mv (.con (.int .u64 0))), none, none⟩, ⟨some 3, (.mv (.con (.int .i64 19))), none, none⟩]) .ret) .skip)) (.seq (.region [⟨some 4, (.mv (.con (.int .u64 0))), none, none⟩]) (.seq (.seq (.region [⟨some 19, (.mv (.tmp 0)), none, none⟩, ⟨some 20, (.sToB (.tmp 19)), none, none⟩, ⟨some 21, (.len false (.tmp 20)), none, none⟩, ⟨some 22, (.mv (.con (.int .i64 0))), none, none⟩]) (.block 0 (.loop (.seq (.region [⟨some 23, (.bin .lss (.tmp 22) (.tmp 21)), none, none⟩]) (.seq (.cond (.tmp 23) .skip (.exit 0)) (.seq (.block 1 (.seq (.region [⟨some 24, (.idxASl 1 (.tmp 20) (.tmp 22)), none, none⟩, ⟨some 25, (.load false 1 (.tmp 24)), none, none⟩, ⟨some 6, (.mv (.tmp 25)), none, none⟩]) (.region [⟨some 26, (.mv (.tmp 4)), none, none⟩, ⟨some 27, (.bin .mul (.tmp 26) (.con (.int .u64 10))), none, none⟩, ⟨some 28, (.mv (.tmp 6)), none, none⟩, ⟨some 29, (.bin .sub (.tmp 28) (.con (.int .u8 48))), none, none⟩, ⟨some 30, (.toInt .u64 (.tmp 29)), none, none⟩, ⟨some 31, (.bin .add (.tmp 27) (.tmp 30)), none, none⟩, ⟨some 4, (.mv (.tmp 31)), none, none⟩]))) (.region [⟨some 32, (.bin .add (.tmp 22) (.con (.int .i64 1))), none, none⟩, ⟨some 22, (.mv (.tmp 32)), none, none⟩]))))))) (.seq (.seq (.region [⟨some 33, (.mv (.tmp 4)), none, none⟩, ⟨some 34, (.call (.con (.func 21 [] [])) [.tmp 33]), none, none⟩, ⟨some 35, (.mv (.tmp 0)), none, none⟩, ⟨some 36, (.bin .neq (.tmp 34) (.tmp 35)), none, none⟩]) (.cond (.tmp 36) (.seq (.region [⟨some 2, (.mv (.con (.int .u64 0))), none, none⟩, ⟨some 3, (.mv (.con (.int .i64 19))), none, none⟩]) .ret) .skip)) (.seq (.region [⟨some 37, (.mv (.tmp 4)), none, none⟩, ⟨some 2, (.mv (.tmp 37)), none, none⟩, ⟨some 3, (.mv (.con (.int .i64 0))), none, none⟩]) .ret)))))), [.tmp 2, .tmp 3]⟩
theorem c17_is : cfn Tryd.prog 17 = some c17 := by kernel_rfl
def c18 : AFn := ⟨(.seq (.region [⟨some 2, (.mv (.con (.int .u64 0))), none, none⟩, ⟨some 3, (.mv (.con (.int .i64 0))), none, none⟩]) (.seq (.region [⟨some 4, (.mv (.con (.int .u64 0))), none, none⟩]) (.seq (.seq (.region [⟨some 5, (.mv (.con (.int .i64 0))), none, none⟩]) (.block 0 (.loop (.seq (.seq (.region [⟨some 6, (.mv (.tmp 5)), none, none⟩, ⟨some 7, (.mv (.tmp 0)), none, none⟩, ⟨some 8, (.len true (.tmp 7)), none, none⟩, ⟨some 9, (.bin .lss (.tmp 6) (.tmp 8)), none, none⟩, ⟨some 10, (.mv (.tmp 9)), none, none⟩, ⟨some 11, (.mv (.tmp 5)), (some (10, true)), none⟩, ⟨some 12, (.bin .lss (.tmp 11) (.con (.int .i64 20))), (some (10, true)), none⟩, ⟨some 13, (.pick (.tmp 10) (.tmp 12) (.con (.bool false))), none, none⟩]) (.cond (.tmp 13) .skip (.exit 0))) (.seq (.block 1 (.region [⟨some 16, (.mv (.tmp 4)), none, none⟩, ⟨some 17, (.bin .mul (.con (.int .u64 10)) (.tmp 16)), none, none⟩, ⟨some 18, (.mv (.tmp 0)), none, none⟩, ⟨some 19, (.mv (.tmp 5)), none, none⟩, ⟨some 20, (.idxStr (.tmp 18) (.tmp 19)), none, none⟩, ⟨some 21, (.bin .sub (.tmp 20) (.con (.int .u8 48))), none, none⟩, ⟨some 22, (.bin .rem (.tmp 21) (.con (.int .u8 10))), none, none⟩, ⟨some 23, (.toInt .u64 (.tmp 22)), none, none⟩, ⟨some 24, (.bin .add (.tmp 17) (.tmp 23)), none, none⟩, ⟨some 4, (.mv (.tmp 24)), none, none⟩])) (.region [⟨some 14, (.mv (.tmp 5)), none, none⟩, ⟨some 15, (.bin .add (.tmp 14) (.con (.int .i64 1))), none, none⟩, ⟨some 5, (.mv (.tmp 15)), none, none⟩])))))) (.seq (.seq (.region [⟨some 25, (.mv (.tmp 4)), none, none⟩, ⟨some 26, (.call (.con (.func 22 [] [])) [.tmp 25]), none, none⟩, ⟨some 27, (.mv (.tmp 0)), none, none⟩, ⟨some 28, (.bin .neq (.tmp 26) (.tmp 27)), none, none⟩]) (.cond (.tmp 28) (.seq (.region [⟨some 2, (.mv (.con (.int .u64 0))), none, none⟩, ⟨some 3, (.mv (.con (.int .i64 19))), none, none⟩]) .ret) .skip)) (.seq (.region [⟨some 29, (.mv (.tmp 4)), none, none⟩, ⟨some 2, (.mv (.tmp 29)), none, none⟩, ⟨some 3, (.mv (.con (.int .i64 0))), none, none⟩]) .ret))))), [.tmp 2, .tmp 3]⟩
theorem c18_is : cfn Tryd.prog 18 = some c18 := by kernel_rfl
def c19 : AFn := ⟨(.seq (.region [⟨some 2, (.mv (.con (.int .i64 0))), none, none⟩, ⟨some 3, (.mv (.con (.int .i64 0))), none, none⟩]) (.seq (.region [⟨some 9, (.mv (.tmp 0)), none, none⟩, ⟨some 10, (.call (.con (.func 39 [] [])) [.tmp 9, (.con (.str [45]))]), none, none⟩, ⟨some 8, (.mv (.tmp 10)), none, none⟩, ⟨some 11, (.extract (.tmp 8) 0), none, none⟩, ⟨some 12, (.extract (.tmp 8) 1), none, none⟩, ⟨some 4, (.mv (.tmp 11)), none, none⟩, ⟨some 5, (.mv (.tmp 12)), none, none⟩]) (.seq (.region [⟨some 14, (.mv (.tmp 4)), none, none⟩, ⟨some 15, (.call (.con (.func 17 [] [])) [.tmp 14]), none, none⟩, ⟨some 13, (.mv (.tmp 15)), none, none⟩, ⟨some 16, (.extract (.tmp 13) 0), none, none⟩, ⟨some 17, (.extract (.tmp 13) 1), none, none⟩, ⟨some 6, (.mv (.tmp 16)), none, none⟩, ⟨some 7, (.mv (.tmp 17)), none, none⟩]) (.seq (.seq (.region [⟨some 18, (.mv (.tmp 5)), none, none⟩]) (.cond (.tmp 18) (.region [⟨some 19, (.mv (.tmp 6)), none, none⟩, ⟨some 20, (.un .neg (.tmp 19)), none, none⟩, ⟨some 6, (.mv (.tmp 20)), none, none⟩]) .skip)) (.seq (.seq (.region [⟨some 21, (.mv (.tmp 7)), none, none⟩, ⟨some 22, (.bin .neq (.tmp 21) (.con (.int .i64 0))), none, none⟩, ⟨some 23, (.mv (.tmp 22)), none, none⟩, ⟨some 24, (.mv (.tmp 6)), (some (23, false)), none⟩, ⟨some 25, (.toInt .i64 (.tmp 24)), (some (23, false)), none⟩, ⟨some 26, (.call (.con (.func 23 [] [])) [.tmp 25]), (some (23, false)), none⟩, ⟨some 27, (.mv (.tmp 0)), (some (23, false)), none⟩, ⟨some 28, (.bin .neq (.tmp 26) (.tmp 27)), (some (23, false)), none⟩, ⟨some 29, (.pick (.tmp 23) (.con (.bool true)) (.tmp 28)), none, none⟩]) (.cond (.tmp 29) (.seq (.region [⟨some 2, (.mv (.con (.int .i64 0))), none, none⟩, ⟨some 3, (.mv (.con (.int .i64 19))), none, none⟩]) .ret) .skip)) (.seq (.region [⟨some 30, (.mv (.tmp 6)), none, none⟩, ⟨some 31, (.toInt .i64 (.tmp 30)), none, none⟩, ⟨some 2, (.mv (.tmp 31)), none, none⟩, ⟨some 3, (.mv (.con (.int .i64 0))), none, none⟩]) .ret)))))), [.tmp 2, .tmp 3]⟩
theorem c19_is : cfn Tryd.prog 19 = some c19 := by kernel_rfl
def c20 : AFn := ⟨(.seq (.region [⟨some 2, (.mv (.con (.int .i64 0))), none, none⟩, ⟨some 3, (.mv (.con (.int .i64 0))), none, none⟩]) (.seq (.region [⟨some 4, (.mv (.con (.int .u64 0))), none, none⟩]) (.seq (.region [⟨some 5, (.mv (.con (.int .i64 0))), none, none⟩]) (.seq (.seq (.region [⟨some 8, (.mv (.tmp 0)), none, none⟩, ⟨some 9, (.len true (.tmp 8)), none, none⟩, ⟨some 10, (.bin .gtr (.tmp 9) (.con (.int .i64 0))), none, none⟩, ⟨some 11, (.mv (.tmp 10)), none, none⟩, ⟨some 12, (.mv (.tmp 0)), (some (11, true)), none⟩, ⟨some 13, (.idxStr (.tmp 12) (.con (.int .i64 0))), (some (11, true)), none⟩, ⟨some 14, (.bin .eql (.tmp 13) (.con (.int .u8 45))), (some (11, true)), none⟩, ⟨some 15, (.pick (.tmp 11) (.tmp 14) (.con (.bool false))), none, none⟩]) (.cond (.tmp 15) (.region [⟨some 5, (.mv (.con (.int .i64 1))), none, none⟩]) .skip)) (.seq (.seq (.region [⟨some 16, (.mv (.tmp 5)), none, none⟩, ⟨some 6, (.mv (.tmp 16)), none, none⟩]) (.block 0 (.loop (.seq (.seq (.region [⟨some 17, (.mv (.tmp 6)), none, none⟩, ⟨some 18, (.mv (.tmp 0)), none, none⟩, ⟨some 19, (.len true (.tmp 18)), none, none⟩, ⟨some 20, (.bin .lss (.tmp 17) (.tmp 19)), none, none⟩, ⟨some 21, (.mv (.tmp 20)), none, none⟩, ⟨some 22, (.mv (.tmp 6)), (some (21, true)), none⟩, ⟨some 23, (.bin .lss (.tmp 22) (.con (.int .i64 20))), (some (21, true)), none⟩, ⟨some 24, (.pick (.tmp 21) (.tmp 23) (.con (.bool false))), none, none⟩]) (.cond (.tmp 24) .skip (.exit 0))) (.seq (.block 1 (.region [⟨some 27, (.mv (.tmp 4)), none, none⟩, ⟨some 28, (.bin .mul (.con (.int .u64 10)) (.tmp 27)), none, none⟩, ⟨some 29, (.mv (.tmp 0)), none, none⟩, ⟨some 30, (.mv (.tmp 6)), none, none⟩, ⟨some 31, (.idxStr (.tmp 29) (.tmp 30)), none, none⟩, ⟨some 32, (.bin .sub (.tmp 31) (.con (.int .u8 48))), none, none⟩, ⟨some 33, (.bin .rem (.tmp 32) (.con (.int .u8 10))), none, none⟩, ⟨some 34, (.toInt .u64 (.tmp 33)), none, none⟩, ⟨some 35, (.bin .add (.tmp 28) (.tmp 34)), none, none⟩, ⟨some 4, (.mv (.tmp 35)), none, none⟩])) (.region [⟨some 25, (.mv (.tmp 6)), none, none⟩, ⟨some 26, (.bin .add (.tmp 25) (.con (.int .i64 1))), none, none⟩, ⟨some 6, (.mv (.tmp 26)), none, none⟩])))))) (.seq (.region [⟨some 36, (.mv (.tmp 4)), none, none⟩, ⟨some 37, (.toInt .i64 (.tmp 36)), none, none⟩, ⟨some 7, (.mv (.tmp 37)), none, none⟩]) (.seq (.seq (.region [⟨some 38, (.mv (.tmp 5)), none, none⟩, ⟨some 39, (.bin .eql (.tmp 38) (.con (.int .i64 1))), none, none⟩]) (.cond (.tmp 39) (.region [⟨some 40, (.mv (.tmp 4)), none, none⟩, ⟨some 41, (.bin .sub (.con (.int .u64 0)) (.tmp 40)), none, none⟩, ⟨some 42, (.toInt .i64 (.tmp 41)), none, none⟩, ⟨some 7, (.mv (.tmp 42)), none, none⟩]) .skip)) (.seq (.seq (.region [⟨some 43, (.mv (.tmp 7)), none, none⟩, ⟨some 44, (.call (.con (.func 24 [] [])) [.tmp 43]), none, none⟩, ⟨some 45, (.mv (.tmp 0)), none, none⟩, ⟨some 46, (.bin .neq (.tmp 44) (.tmp 45)), none, none⟩]) (.cond (.tmp 46) (.seq (.region [⟨some 2, (.mv (.con (.int .i64 0))), none, none⟩, ⟨some 3, (.mv (.con (.int .i64 19))), none, none⟩]) .ret) .skip)) (.seq (.region [⟨some 47, (.mv (.tmp 7)), none, none⟩, ⟨some 2, (.mv (.tmp 47)), none, none⟩, ⟨some 3, (.mv (.con (.int .i64 0))), none, none⟩]) .ret))))))))), [.tmp 2, .tmp 3]⟩
theorem c20_is : cfn Tryd.prog 20 = some c20 := by kernel_rfl
def c21 : AFn := ⟨(.seq (.region [⟨some 2, (.mv (.con (.str []))), none, none⟩]) (.seq (.region [⟨some 3, (.new [(.int .u8 0), (.int .u8 0), (.int .u8 0), (.int .u8 0), (.int .u8 0), (.int .u8 0), (.int .u8 0), (.int .u8 0), (.int .u8 0), (.int .u8 0), (.int .u8 0), (.int .u8 0), (.int .u8 0), (.int .u8 0), (.int .u8 0), (.int .u8 0), (.int .u8 0), (.int .u8 0), (.int .u8 0), (.int .u8 0)]), none, none⟩]) (.seq (.region [⟨some 4, (.mv (.con (.int .i64 20))), none, none⟩]) (.block 0 (.loop (.block 1 (.seq (.region [⟨some 5, (.mv (.tmp 4)), none, none⟩, ⟨some 6, (.bin .sub (.tmp 5) (.con (.int .i64 1))), none, none⟩, ⟨some 4, (.mv (.tmp 6)), none, none⟩]) (.seq (.region [⟨some 7, (.mv (.tmp 4)), none, none⟩, ⟨some 8, (.mv (.tmp 0)), none, none⟩, ⟨some 9, (.bin .rem (.tmp 8) (.con (.int .u64 10))), none, none⟩, ⟨some 10, (.bin .add (.con (.int .u64 48)) (.tmp 9)), none, none⟩, ⟨some 11, (.toInt .u8 (.tmp 10)), none, none⟩, ⟨some 12, (.idxAArr 20 1 (.tmp 3) (.tmp 7)), none, none⟩, ⟨none, (.store 1 (.tmp 12) (.tmp 11)), none, none⟩]) (.seq (.region [⟨some 13, (.mv (.tmp 0)), none, none⟩, ⟨some 14, (.bin .quo (.tmp 13) (.con (.int .u64 10))), none, none⟩, ⟨some 0, (.mv (.tmp 14)), none, none⟩]) (.seq (.region [⟨some 15, (.mv (.tmp 0)), none, none⟩, ⟨some 16, (.bin .eql (.tmp 15) (.con (.int .u64 0))), none, none⟩]) (.cond (.tmp 16) (.seq (.region [⟨some 17, (.mv (.tmp 4)), none, none⟩, ⟨some 18, (.slcArr 20 1 (.tmp 3) (some (.tmp 17)) none none), none, none⟩, ⟨some 19, (.bToS (.tmp 18)), none, none⟩, ⟨some 2, (.mv (.tmp 19)), none, none⟩]) .ret) .skip))))))))))), [.tmp 2]⟩
theorem c21_is : cfn Tryd.prog 21 = some c21 := by kernel_rfl
def c22 : AFn := ⟨(.seq (.region [⟨some 2, (.mv (.con (.str []))), none, none⟩]) (.seq (.region [⟨some 4, (.mv (.tmp 0)), none, none⟩, ⟨some 5, (.bin .rem (.tmp 4) (.con (.int .u64 10))), none, none⟩, ⟨some 6, (.mv (.tmp 0)), none, none⟩, ⟨some 7, (.bin .rem (.tmp 6) (.con (.int .u64 10))), none, none⟩, ⟨some 8, (.bin .add (.tmp 7) (.con (.int .u64 1))), none, none⟩, ⟨some 9, (.slcStr (.con (.str [48, 49, 50, 51, 52, 53, 54, 55, 56, 57])) (some (.tmp 5)) (some (.tmp 8))), none, none⟩, ⟨some 3, (.mv (.tmp 9)), none, none⟩]) (.seq (.seq (.region [⟨some 10, (.mv (.tmp 0)), none, none⟩, ⟨some 11, (.bin .lss (.tmp 10) (.con (.int .u64 10))), none, none⟩]) (.cond (.tmp 11) (.seq (.region [⟨some 12, (.mv (.tmp 3)), none, none⟩, ⟨some 2, (.mv (.tmp 12)), none, none⟩]) .ret) .skip)) (.seq (.region [⟨some 13, (.mv (.tmp 0)), none, none⟩, ⟨some 14, (.bin .quo (.tmp 13) (.con (.int .u64 10))), none, none⟩, ⟨some 15, (.call (.con (.func 22 [] [])) [.tmp 14]), none, none⟩, ⟨some 16, (.mv (.tmp 3)), none, none⟩, ⟨some 17, (.bin .add (.tmp 15) (.tmp 16)), none, none⟩, ⟨some 2, (.mv (.tmp 17)), none, none⟩]) .ret)))), [.tmp 2]⟩
theorem c22_is : cfn Tryd.prog 22 = some c22 := by kernel_rfl
def c23 : AFn := ⟨(.seq (.region [⟨some 2, (.mv (.con (.str []))), none, none⟩]) (.seq (.seq (.region [⟨some 3, (.mv (.tmp 0)), none, none⟩, ⟨some 4, (.bin .lss (.tmp 3) (.con (.int .i64 0))), none, none⟩]) (.cond (.tmp 4) (.seq (.region [⟨some 5, (.mv (.tmp 0)), none, none⟩, ⟨some 6, (.toInt .u64 (.tmp 5)), none, none⟩, ⟨some 7, (.un .neg (.tmp 6)), none, none⟩, ⟨some 8, (.call (.con (.func 21 [] [])) [.tmp 7]), none, none⟩, ⟨some 9, (.bin .add (.con (.str [45])) (.tmp 8)), none, none⟩, ⟨some 2, (.mv (.tmp 9)), none, none⟩]) .ret) .skip)) (.seq (.region [⟨some 10, (.mv (.tmp 0)), none, none⟩, ⟨some 11, (.toInt .u64 (.tmp 10)), none, none⟩, ⟨some 12, (.call (.con (.func 21 [] [])) [.tmp 11]), none, none⟩, ⟨some 2, (.mv (.tmp 12)), none, none⟩]) .ret))), [.tmp 2]⟩
theorem c23_is : cfn Tryd.prog 23 = some c23 := by kernel_rfl
def c24 : AFn := ⟨(.seq (.region [⟨some 2, (.mv (.con (.str []))), none, none⟩]) (.seq (.seq (.region [⟨some 3, (.mv (.tmp 0)), none, none⟩, ⟨some 4, (.bin .lss (.tmp 3) (.con (.int .i64 0))), none, none⟩]) (.cond (.tmp 4) (.seq (.region [⟨some 5, (.mv (.tmp 0)), none, none⟩, ⟨some 6, (.bin .add (.tmp 5) (.con (.int .i64 1))), none, none⟩, ⟨some 7, (.un .neg (.tmp 6)), none, none⟩, ⟨some 8, (.toInt .u64 (.tmp 7)), none, none⟩, ⟨some 9, (.bin .add (.tmp 8) (.con (.int .u64 1))), none, none⟩, ⟨some 10, (.call (.con (.func 22 [] [])) [.tmp 9]), none, none⟩, ⟨some 11, (.bin .add (.con (.str [45])) (.tmp 10)), none, none⟩, ⟨some 2, (.mv (.tmp 11)), none, none⟩]) .ret) .skip)) (.seq (.region [⟨some 12, (.mv (.tmp 0)), none, none⟩, ⟨some 13, (.toInt .u64 (.tmp 12)), none, none⟩, ⟨some 14, (.call (.con (.func 22 [] [])) [.tmp 13]), none, none⟩, ⟨some 2, (.mv (.tmp 14)), none, none⟩]) .ret))), [.tmp 2]⟩
theorem c24_is : cfn Tryd.prog 24 = some c24 := by kernel_rfl
def c25 : AFn := ⟨(.seq (.region [⟨some 2, (.mv (.con (.int .i64 0))), none, none⟩]) (.seq (.region [⟨some 4, (.mv (.tmp 0)), none, none⟩, ⟨some 5, (.bin .neq (.tmp 4) (.con (.str []))), none, none⟩, ⟨some 6, (.mv (.tmp 5)), none, none⟩, ⟨some 7, (.mv (.tmp 0)), (some (6, true)), none⟩, ⟨some 8, (.len true (.tmp 7)), (some (6, true)), none⟩, ⟨some 9, (.bin .leq (.tmp 8) (.con (.int .i64 12))), (some (6, true)), none⟩, ⟨some 10, (.pick (.tmp 6) (.tmp 9) (.con (.bool false))), none, none⟩, ⟨some 11, (.mv (.tmp 10)), none, none⟩, ⟨some 12, (.mv (.tmp 0)), (some (11, true)), none⟩, ⟨some 13, (.idxStr (.tmp 12) (.con (.int .i64 0))), (some (11, true)), none⟩, ⟨some 14, (.bin .neq (.tmp 13) (.con (.int .u8 45))), (some (11, true)), none⟩, ⟨some 15, (.pick (.tmp 11) (.tmp 14) (.con (.bool false))), none, none⟩, ⟨some 16, (.mv (.tmp 15)), none, none⟩, ⟨some 17, (.mv (.tmp 0)), (some (16, true)), none⟩, ⟨some 18, (.mv (.tmp 0)), (some (16, true)), none⟩, ⟨some 19, (.len true (.tmp 18)), (some (16, true)), none⟩, ⟨some 20, (.bin .sub (.tmp 19) (.con (.int .i64 1))), (some (16, true)), none⟩, ⟨some 21, (.idxStr (.tmp 17) (.tmp 20)), (some (16, true)), none⟩, ⟨some 22, (.bin .neq (.tmp 21) (.con (.int .u8 45))), (some (16, true)), none⟩, ⟨some 23, (.pick (.tmp 16) (.tmp 22) (.con (.bool false))), none, none⟩, ⟨some 3, (.mv (.tmp 23)), none, none⟩]) (.seq (.region [⟨some 24, (.mv (.tmp 3)), none, none⟩, ⟨some 25, (.mv (.tmp 24)), none, none⟩, ⟨some 26, (.mv (.tmp 0)), (some (25, true)), none⟩, ⟨some 27, (.call (.con (.func 37 [] [])) [.tmp 26, (.con (.func 41 [] []))]), (some (25, true)), none⟩, ⟨some 28, (.pick (.tmp 25) (.tmp 27) (.con (.bool false))), none, none⟩, ⟨some 29, (.call (.con (.func 40 [] [])) [.tmp 28]), none, none⟩, ⟨some 2, (.mv (.tmp 29)), none, none⟩]) .ret))), [.tmp 2]⟩
theorem c25_is : cfn Tryd.prog 25 = some c25 := by kernel_rfl
def c26 : AFn := ⟨(.seq (.region [⟨some 2, (.mv (.con (.int .i64 0))), none, none⟩]) (.seq (.region [⟨some 3, (.mv (.tmp 0)), none, none⟩, ⟨some 4, (.bin .neq (.tmp 3) (.con (.str []))), none, none⟩, ⟨some 5, (.mv (.tmp 4)), none, none⟩, ⟨some 6, (.mv (.tmp 0)), (some (5, true)), none⟩, ⟨some 7, (.call (.con (.func 27 [] [])) [.tmp 6]), (some (5, true)), none⟩, ⟨some 8, (.bin .eql (.tmp 7) (.con (.int .i64 0))), (some (5, true)), none⟩, ⟨some 9, (.pick (.tmp 5) (.tmp 8) (.con (.bool false))), none, none⟩, ⟨some 10, (.call (.con (.func 40 [] [])) [.tmp 9]), none, none⟩, ⟨some 2, (.mv (.tmp 10)), none, none⟩]) .ret)), [.tmp 2]⟩
theorem c26_is : cfn Tryd.prog 26 = some c26 := by kernel_rfl
def c27 : AFn := ⟨(.seq (.region [⟨some 2, (.mv (.con (.int .i64 0))), none, none⟩]) (.seq (.region [⟨some 3, (.mv (.tmp 0)), none, none⟩, ⟨some 4, (.len true (.tmp 3)), none, none⟩, ⟨some 5, (.bin .leq (.tmp 4) (.con (.int .i64 24))), none, none⟩, ⟨some 6, (.mv (.tmp 5)), none, none⟩, ⟨some 7, (.mv (.tmp 0)), (some (6, true)), none⟩, ⟨some 8, (.call (.con (.func 37 [] [])) [.tmp 7, (.con (.func 43 [] []))]), (some (6, true)), none⟩, ⟨some 9, (.pick (.tmp 6) (.tmp 8) (.con (.bool false))), none, none⟩, ⟨some 10, (.call (.con (.func 40 [] [])) [.tmp 9]), none, none⟩, ⟨some 2, (.mv (.tmp 10)), none, none⟩]) .ret)), [.tmp 2]⟩
theorem c27_is : cfn Tryd.prog 27 = some c27 := by kernel_rfl
def c28 : AFn := ⟨(.seq (.region [⟨some 4, (.mv (.con (.int .i64 0))), none, none⟩]) (.seq (.region [⟨some 5, (.mv (.tmp 0)), none, none⟩, ⟨some 6, (.mv (.tmp 1)), none, none⟩, ⟨some 7, (.call (.con (.func 44 [] [])) [.tmp 5, .tmp 6]), none, none⟩, ⟨some 4, (.mv (.tmp 7)), none, none⟩]) .ret)), [.tmp 4]⟩
theorem c28_is : cfn Tryd.prog 28 = some c28 := by kernel_rfl
def c29 : AFn := ⟨(.seq (.region [⟨some 2, (.mv (.con (.int .u8 0))), none, none⟩]) (.seq (.seq (.region [⟨some 3, (.mv (.tmp 0)), none, none⟩, ⟨some 4, (.call (.con (.func 34 [] [])) [.tmp 3, (.con (.int .u8 48)), (.con (.int .u8 57))]), none, none⟩]) (.cond (.tmp 4) (.seq (.region [⟨some 5, (.mv (.tmp 0)), none, none⟩, ⟨some 6, (.bin .sub (.tmp 5) (.con (.int .u8 48))), none, none⟩, ⟨some 2, (.mv (.tmp 6)), none, none⟩]) .ret) .skip)) (.seq (.seq (.region [⟨some 7, (.mv (.tmp 0)), none, none⟩, ⟨some 8, (.call (.con (.func 34 [] [])) [.tmp 7, (.con (.int .u8 65)), (.con (.int .u8 70))]), none, none⟩]) (.cond (.tmp 8) (.seq (.region [⟨some 9, (.mv (.tmp 0)), none, none⟩, ⟨some 10, (.bin .sub (.tmp 9) (.con (.int .u8 65))), none, none⟩, ⟨some 11, (.bin .add (.tmp 10) (.con (.int .u8 10))), none, none⟩, ⟨some 2, (.mv (.tmp 11)), none, none⟩]) .ret) .skip)) (.seq (.region [⟨some 2, (.mv (.con (.int .u8 0))), none, none⟩]) .ret)))), [.tmp 2]⟩
theorem c29_is : cfn Tryd.prog 29 = some c29 := by kernel_rfl
def c30 : AFn := ⟨(.seq (.region [⟨some 2, (.mv (.con (.bool false))), none, none⟩]) (.seq (.seq (.region [⟨some 4, (.mv (.tmp 0)), none, none⟩, ⟨some 5, (.len true (.tmp 4)), none, none⟩, ⟨some 6, (.bin .lss (.tmp 5) (.con (.int .i64 1))), none, none⟩, ⟨some 7, (.mv (.tmp 6)), none, none⟩, ⟨some 8, (.mv (.tmp 0)), (some (7, false)), none⟩, ⟨some 9, (.len true (.tmp 8)), (some (7, false)), none⟩, ⟨some 10, (.bin .gtr (.tmp 9) (.con (.int .i64 12))), (some (7, false)), none⟩, ⟨some 11, (.pick (.tmp 7) (.con (.bool true)) (.tmp 10)), none, none⟩, ⟨some 12, (.mv (.tmp 11)), none, none⟩, ⟨some 13, (.mv (.tmp 0)), (some (12, false)), none⟩, ⟨some 14, (.idxStr (.tmp 13) (.con (.int .i64 0))), (some (12, false)), none⟩, ⟨some 15, (.bin .eql (.tmp 14) (.con (.int .u8 45))), (some (12, false)), none⟩, ⟨some 16, (.pick (.tmp 12) (.con (.bool true)) (.tmp 15)), none, none⟩, ⟨some 17, (.mv (.tmp 16)), none, none⟩, ⟨some 18, (.mv (.tmp 0)), (some (17, false)), none⟩, ⟨some 19, (.mv (.tmp 0)), (some (17, false)), none⟩, ⟨some 20, (.len true (.tmp 19)), (some (17, false)), none⟩, ⟨some 21, (.bin .sub (.tmp 20) (.con (.int .i64 1))), (some (17, false)), none⟩, ⟨some 22, (.idxStr (.tmp 18) (.tmp 21)), (some (17, false)), none⟩, ⟨some 23, (.bin .eql (.tmp 22) (.con (.int .u8 45))), (some (17, false)), none⟩, ⟨some 24, (.pick (.tmp 17) (.con (.bool true)) (.tmp 23)), none, none⟩]) (.cond (.tmp 24) (.seq (.region [⟨some 2, (.mv (.con (.bool false))), none, none⟩]) .ret) .skip)) (.seq (.seq (.region [⟨some 3, (.mv (.con (.int .i64 0))), none, none⟩]) (.block 0 (.loop (.seq (.seq (.region [⟨some 25, (.mv (.tmp 3)), none, none⟩, ⟨some 26, (.mv (.tmp 0)), none, none⟩, ⟨some 27, (.len true (.tmp 26)), none, none⟩, ⟨some 28, (.bin .lss (.tmp 25) (.tmp 27)), none, none⟩]) (.cond (.tmp 28) .skip (.exit 0))) (.seq (.block 1 (.seq (.region [⟨some 31, (.mv (.tmp 0)), none, none⟩, ⟨some 32, (.mv (.tmp 3)), none, none⟩, ⟨some 33, (.idxStr (.tmp 31) (.tmp 32)), none, none⟩, ⟨some 34, (.call (.con (.func 34 [] [])) [.tmp 33, (.con (.int .u8 97)), (.con (.int .u8 122))]), none, none⟩, ⟨some 35, (.un .not (.tmp 34)), none, none⟩, ⟨some 36, (.mv (.tmp 35)), none, none⟩, ⟨some 37, (.mv (.tmp 0)), (some (36, true)), none⟩, ⟨some 38, (.mv (.tmp 3)), (some (36, true)), none⟩, ⟨some 39, (.idxStr (.tmp 37) (.tmp 38)), (some (36, true)), none⟩, ⟨some 40, (.call (.con (.func 34 [] [])) [.tmp 39, (.con (.int .u8 48)), (.con (.int .u8 57))]), (some (36, true)), none⟩, ⟨some 41, (.un .not (.tmp 40)), (some (36, true)), none⟩, ⟨some 42, (.pick (.tmp 36) (.tmp 41) (.con (.bool false))), none, none⟩, ⟨some 43, (.mv (.tmp 42)), none, none⟩, ⟨some 44, (.mv (.tmp 0)), (some (43, true)), none⟩, ⟨some 45, (.mv (.tmp 3)), (some (43, true)), none⟩, ⟨some 46, (.idxStr (.tmp 44) (.tmp 45)), (some (43, true)), none⟩, ⟨some 47, (.bin .neq (.tmp 46) (.con (.int .u8 45))), (some (43, true)), none⟩, ⟨some 48, (.pick (.tmp 43) (.tmp 47) (.con (.bool false))), none, none⟩]) (.cond (.tmp 48) (.seq (.region [⟨some 2, (.mv (.con (.bool false))), none, none⟩]) .ret) .skip))) (.region [⟨some 29, (.mv (.tmp 3)), none, none⟩, ⟨some 30, (.bin .add (.tmp 29) (.con (.int .i64 1))), none, none⟩, ⟨some 3, (.mv (.tmp 30)), none, none⟩])))))) (.seq (.region [⟨some 2, (.mv (.con (.bool true))), none, none⟩]) .ret)))), [.tmp 2]⟩
theorem c30_is : cfn Tryd.prog 30 = some c30 := by kernel_rfl
def c31 : AFn := ⟨(.seq (.region [⟨some 2, (.mv (.con (.bool false))), none, none⟩]) (.seq (.region [⟨some 3, (.mv (.tmp 0)), none, none⟩, ⟨some 4, (.len true (.tmp 3)), none, none⟩, ⟨some 5, (.bin .gtr (.tmp 4) (.con (.int .i64 0))), none, none⟩, ⟨some 6, (.mv (.tmp 5)), none, none⟩, ⟨some 7, (.mv (.tmp 0)), (some (6, true)), none⟩, ⟨some 8, (.call (.con (.func 32 [] [])) [.tmp 7]), (some (6, true)), none⟩, ⟨some 9, (.pick (.tmp 6) (.tmp 8) (.con (.bool false))), none, none⟩, ⟨some 2, (.mv (.tmp 9)), none, none⟩]) .ret)), [.tmp 2]⟩
theorem c31_is : cfn Tryd.prog 31 = some c31 := by kernel_rfl
def c32 : AFn := ⟨(.seq (.region [⟨some 2, (.mv (.con (.bool false))), none, none⟩]) (.seq (.seq (.region [⟨some 3, (.mv (.con (.int .i64 0))), none, none⟩]) (.block 0 (.loop (.seq (.seq (.region [⟨some 4, (.mv (.tmp 3)), none, none⟩, ⟨some 5, (.mv (.tmp 0)), none, none⟩, ⟨some 6, (.len true (.tmp 5)), none, none⟩, ⟨some 7, (.bin .lss (.tmp 4) (.tmp 6)), none, none⟩]) (.cond (.tmp 7) .skip (.exit 0))) (.seq (.block 1 (.seq (.region [⟨some 10, (.mv (.tmp 0)), none, none⟩, ⟨some 11, (.mv (.tmp 3)), none, none⟩, ⟨some 12, (.idxStr (.tmp 10) (.tmp 11)), none, none⟩, ⟨some 13, (.bin .eql (.tmp 12) (.con (.int .u8 0))), none, none⟩]) (.cond (.tmp 13) (.seq (.region [⟨some 2, (.mv (.con (.bool false))), none, none⟩]) .ret) .skip))) (.region [⟨some 8, (.mv (.tmp 3)), none, none⟩, ⟨some 9, (.bin .add (.tmp 8) (.con (.int .i64 1))), none, none⟩, ⟨some 3, (.mv (.tmp 9)), none, none⟩])))))) (.seq (.region [⟨some 14, (.mv (.tmp 0)), none, none⟩, ⟨some 15, (.len true (.tmp 14)), none, none⟩, ⟨some 16, (.bin .leq (.tmp 15) (.con (.int .i64 24))), none, none⟩, ⟨some 2, (.mv (.tmp 16)), none, none⟩]) .ret))), [.tmp 2]⟩
theorem c32_is : cfn Tryd.prog 32 = some c32 := by kernel_rfl
def c33 : AFn := ⟨(.seq (.region [⟨some 2, (.mv (.con (.bool false))), none, none⟩]) (.seq (.region [⟨some 3, (.mv (.tmp 0)), none, none⟩, ⟨some 4, (.call (.con (.func 38 [] [])) [.tmp 3]), none, none⟩, ⟨some 5, (.mv (.tmp 4)), none, none⟩, ⟨some 6, (.mv (.tmp 0)), (some (5, false)), none⟩, ⟨some 7, (.call (.con (.func 42 [] [])) [.tmp 6]), (some (5, false)), none⟩, ⟨some 8, (.pick (.tmp 5) (.con (.bool true)) (.tmp 7)), none, none⟩, ⟨some 9, (.mv (.tmp 8)), none, none⟩, ⟨some 10, (.mv (.tmp 0)), (some (9, false)), none⟩, ⟨some 11, (.bin .or (.tmp 10) (.con (.int .u8 32))), (some (9, false)), none⟩, ⟨some 12, (.call (.con (.func 42 [] [])) [.tmp 11]), (some (9, false)), none⟩, ⟨some 13, (.mv (.tmp 12)), (some (9, false)), none⟩, ⟨some 14, (.mv (.tmp 0)), (some (13, true)), none⟩, ⟨some 15, (.bin .lss (.tmp 14) (.con (.int .u8 97))), (some (13, true)), none⟩, ⟨some 16, (.pick (.tmp 13) (.tmp 15) (.con (.bool false))), (some (9, false)), none⟩, ⟨some 17, (.pick (.tmp 9) (.con (.bool true)) (.tmp 16)), none, none⟩, ⟨some 18, (.mv (.tmp 17)), none, none⟩, ⟨some 19, (.mv (.tmp 0)), (some (18, false)), none⟩, ⟨some 20, (.bin .eql (.tmp 19) (.con (.int .u8 45))), (some (18, false)), none⟩, ⟨some 21, (.pick (.tmp 18) (.con (.bool true)) (.tmp 20)), none, none⟩, ⟨some 22, (.mv (.tmp 21)), none, none⟩, ⟨some 23, (.mv (.tmp 0)), (some (22, false)), none⟩, ⟨some 24, (.bin .eql (.tmp 23) (.con (.int .u8 95))), (some (22, false)), none⟩, ⟨some 25, (.pick (.tmp 22) (.con (.bool true)) (.tmp 24)), none, none⟩, ⟨some 26, (.mv (.tmp 25)), none, none⟩, ⟨some 27, (.mv (.tmp 0)), (some (26, false)), none⟩, ⟨some 28, (.bin .eql (.tmp 27) (.con (.int .u8 46))), (some (26, false)), none⟩, ⟨some 29, (.pick (.tmp 26) (.con (.bool true)) (.tmp 28)), none, none⟩, ⟨some 2, (.mv (.tmp 29)), none, none⟩]) .ret)), [.tmp 2]⟩
theorem c33_is : cfn Tryd.prog 33 = some c33 := by kernel_rfl
def c34 : AFn := ⟨(.seq (.region [⟨some 6, (.mv (.con (.bool false))), none, none⟩]) (.seq (.region [⟨some 7, (.mv (.tmp 0)), none, none⟩, ⟨some 8, (.mv (.tmp 1)), none, none⟩, ⟨some 9, (.bin .geq (.tmp 7) (.tmp 8)), none, none⟩, ⟨some 10, (.mv (.tmp 9)), none, none⟩, ⟨some 11, (.mv (.tmp 0)), (some (10, true)), none⟩, ⟨some 12, (.mv (.tmp 2)), (some (10, true)), none⟩, ⟨some 13, (.bin .leq (.tmp 11) (.tmp 12)), (some (10, true)), none⟩, ⟨some 14, (.pick (.tmp 10) (.tmp 13) (.con (.bool false))), none, none⟩, ⟨some 6, (.mv (.tmp 14)), none, none⟩]) .ret)), [.tmp 6]⟩
theorem c34_is : cfn Tryd.prog 34 = some c34 := by kernel_rfl
def c35 : AFn := ⟨(.seq (.region [⟨some 4, (.mv (.con .nils)), none, none⟩]) (.seq (.region [⟨some 5, (.mv (.tmp 0)), none, none⟩, ⟨some 6, (.mv (.tmp 1)), none, none⟩, ⟨some 7, (.call (.con (.func 45 [] [])) [.tmp 5, .tmp 6, (.con (.int .i64 0)), (.con (.int .i64 (-1)))]), none, none⟩, ⟨some 4, (.mv (.tmp 7)), none, none⟩]) .ret)), [.tmp 4]⟩
theorem c35_is : cfn Tryd.prog 35 = some c35 := by kernel_rfl
def c37 : AFn := ⟨(.seq (.region [⟨some 3, (.box (.tmp 1)), none, none⟩, ⟨some 4, (.mv (.con (.bool false))), none, none⟩]) (.seq (.region [⟨some 5, (.mv (.tmp 0)), none, none⟩, ⟨some 6, (.sToB (.tmp 5)), none, none⟩, ⟨some 7, (.mkFn 50 [] [.tmp 3]), none, none⟩, ⟨some 8, (.call (.con (.func 49 [] [])) [.tmp 6, .tmp 7]), none, none⟩, ⟨some 9, (.un .not (.tmp 8)), none, none⟩, ⟨some 4, (.mv (.tmp 9)), none, none⟩]) .ret)), [.tmp 4]⟩
theorem c37_is : cfn Tryd.prog 37 = some c37 := by kernel_rfl
def c38 : AFn := ⟨(.seq (.region [⟨some 2, (.mv (.con (.bool false))), none, none⟩]) (.seq (.region [⟨some 3, (.mv (.tmp 0)), none, none⟩, ⟨some 4, (.bin .geq (.tmp 3) (.con (.int .u8 48))), none, none⟩, ⟨some 5, (.mv (.tmp 4)), none, none⟩, ⟨some 6, (.mv (.tmp 0)), (some (5, true)), none⟩, ⟨some 7, (.bin .leq (.tmp 6) (.con (.int .u8 57))), (some (5, true)), none⟩, ⟨some 8, (.pick (.tmp 5) (.tmp 7) (.con (.bool false))), none, none⟩, ⟨some 2, (.mv (.tmp 8)), none, none⟩]) .ret)), [.tmp 2]⟩
theorem c38_is : cfn Tryd.prog 38 = some c38 := by kernel_rfl
def c39 : AFn := ⟨(.seq (.region [⟨some 4, (.mv (.con (.str []))), none, none⟩, ⟨some 5, (.mv (.con (.bool false))), none, none⟩]) (.seq (.region [⟨some 6, (.mv (.tmp 0)), none, none⟩, ⟨some 7, (.mv (.tmp 1)), none, none⟩, ⟨some 8, (.call (.con (.func 51 [] [])) [.tmp 6, .tmp 7]), none, none⟩, ⟨some 9, (.extract (.tmp 8) 0), none, none⟩, ⟨some 10, (.extract (.tmp 8) 1), none, none⟩, ⟨some 4, (.mv (.tmp 9)), none, none⟩, ⟨some 5, (.mv (.tmp 10)), none, none⟩]) .ret)), [.tmp 4, .tmp 5]⟩
theorem c39_is : cfn Tryd.prog 39 = some c39 := by kernel_rfl
def c40 : AFn := ⟨(.seq (.region [⟨some 2, (.mv (.con (.int .i64 0))), none, none⟩]) (.seq (.seq (.region [⟨some 3, (.mv (.tmp 0)), none, none⟩, ⟨some 4, (.un .not (.tmp 3)), none, none⟩]) (.cond (.tmp 4) (.seq (.region [⟨some 2, (.mv (.con (.int .i64 18))), none, none⟩]) .ret) .skip)) (.seq (.region [⟨some 2, (.mv (.con (.int .i64 0))), none, none⟩]) .ret))), [.tmp 2]⟩
theorem c40_is : cfn Tryd.prog 40 = some c40 := by kernel_rfl
def c41 : AFn := ⟨(.seq (.region [⟨some 2, (.mv (.con (.bool false))), none, none⟩]) (.seq (.region [⟨some 3, (.mv (.tmp 0)), none, none⟩, ⟨some 4, (.call (.con (.func 38 [] [])) [.tmp 3]), none, none⟩, ⟨some 5, (.mv (.tmp 4)), none, none⟩, ⟨some 6, (.mv (.tmp 0)), (some (5, false)), none⟩, ⟨some 7, (.call (.con (.func 42 [] [])) [.tmp 6]), (some (5, false)), none⟩, ⟨some 8, (.pick (.tmp 5) (.con (.bool true)) (.tmp 7)), none, none⟩, ⟨some 9, (.mv (.tmp 8)), none, none⟩, ⟨some 10, (.mv (.tmp 0)), (some (9, false)), none⟩, ⟨some 11, (.bin .eql (.tmp 10) (.con (.int .u8 45))), (some (9, false)), none⟩, ⟨some 12, (.pick (.tmp 9) (.con (.bool true)) (.tmp 11)), none, none⟩, ⟨some 2, (.mv (.tmp 12)), none, none⟩]) .ret)), [.tmp 2]⟩
theorem c41_is : cfn Tryd.prog 41 = some c41 := by kernel_rfl
def c42 : AFn := ⟨(.seq (.region [⟨some 2, (.mv (.con (.bool false))), none, none⟩]) (.seq (.region [⟨some 3, (.mv (.tmp 0)), none, none⟩, ⟨some 4, (.bin .geq (.tmp 3) (.con (.int .u8 97))), none, none⟩, ⟨some 5, (.mv (.tmp 4)), none, none⟩, ⟨some 6, (.mv (.tmp 0)), (some (5, true)), none⟩, ⟨some 7, (.bin .leq (.tmp 6) (.con (.int .u8 122))), (some (5, true)), none⟩, ⟨some 8, (.pick (.tmp 5) (.tmp 7) (.con (.bool false))), none, none⟩, ⟨some 2, (.mv (.tmp 8)), none, none⟩]) .ret)), [.tmp 2]⟩
theorem c42_is : cfn Tryd.prog 42 = some c42 := by kernel_rfl
def c43 : AFn := ⟨(.seq (.region [⟨some 2, (.mv (.con (.bool false))), none, none⟩]) (.seq (.region [⟨some 3, (.mv (.tmp 0)), none, none⟩, ⟨some 4, (.bin .neq (.tmp 3) (.con (.int .u8 0))), none, none⟩, ⟨some 2, (.mv (.tmp 4)), none, none⟩]) .ret)), [.tmp 2]⟩
theorem c43_is : cfn Tryd.prog 43 = some c43 := by kernel_rfl
def c45 : AFn := ⟨(.seq (.region [⟨some 8, (.mv (.con .nils)), none, none⟩]) (.seq (.seq (.region [⟨some 12, (.mv (.tmp 3)), none, none⟩, ⟨some 13, (.bin .eql (.tmp 12) (.con (.int .i64 0))), none, none⟩]) (.cond (.tmp 13) (.seq (.region [⟨some 8, (.mv (.con .nils)), none, none⟩]) .ret) .skip)) (.seq (.seq (.region [⟨some 14, (.mv (.tmp 1)), none, none⟩, ⟨some 15, (.bin .eql (.tmp 14) (.con (.str []))), none, none⟩]) (.cond (.tmp 15) (.seq (.region [⟨some 16, (.mv (.tmp 0)), none, none⟩, ⟨some 17, (.mv (.tmp 3)), none, none⟩, ⟨some 18, (.call (.con (.func 53 [] [])) [.tmp 16, .tmp 17]), none, none⟩, ⟨some 8, (.mv (.tmp 18)), none, none⟩]) .ret) .skip)) (.seq (.seq (.region [⟨some 19, (.mv (.tmp 3)), none, none⟩, ⟨some 20, (.bin .lss (.tmp 19) (.con (.int .i64 0))), none, none⟩]) (.cond (.tmp 20) (.region [⟨some 21, (.mv (.tmp 0)), none, none⟩, ⟨some 22, (.mv (.tmp 1)), none, none⟩, ⟨some 23, (.call (.con (.func 54 [] [])) [.tmp 21, .tmp 22]), none, none⟩, ⟨some 24, (.bin .add (.tmp 23) (.con (.int .i64 1))), none, none⟩, ⟨some 3, (.mv (.tmp 24)), none, none⟩]) .skip)) (.seq (.region [⟨some 25, (.mv (.tmp 3)), none, none⟩, ⟨some 26, (.mv (.tmp 0)), none, none⟩, ⟨some 27, (.len true (.tmp 26)), none, none⟩, ⟨some 28, (.bin .add (.tmp 27) (.con (.int .i64 1))), none, none⟩, ⟨some 29, (.minmax false [.tmp 25, .tmp 28]), none, none⟩, ⟨some 3, (.mv (.tmp 29)), none, none⟩]) (.seq (.region [⟨some 30, (.mv (.tmp 3)), none, none⟩, ⟨some 31, (.mkS 1 16 [(.str [])] (.tmp 30) (.tmp 30)), none, none⟩, ⟨some 9, (.mv (.tmp 31)), none, none⟩]) (.seq (.region [⟨some 32, (.mv (.tmp 3)), none, none⟩, ⟨some 33, (.bin .sub (.tmp 32) (.con (.int .i64 1))), none, none⟩, ⟨some 3, (.mv (.tmp 33)), none, none⟩]) (.seq (.region [⟨some 10, (.mv (.con (.int .i64 0))), none, none⟩]) (.seq (.block 0 (.loop (.seq (.seq (.region [⟨some 34, (.mv (.tmp 10)), none, none⟩, ⟨some 35, (.mv (.tmp 3)), none, none⟩, ⟨some 36, (.bin .lss (.tmp 34) (.tmp 35)), none, none⟩]) (.cond (.tmp 36) .skip (.exit 0))) (.block 1 (.seq (.region [⟨some 37, (.mv (.tmp 0)), none, none⟩, ⟨some 38, (.mv (.tmp 1)), none, none⟩, ⟨some 39, (.call (.con (.func 55 [] [])) [.tmp 37, .tmp 38]), none, none⟩, ⟨some 11, (.mv (.tmp 39)), none, none⟩]) (.seq (.seq (.region [⟨some 40, (.mv (.tmp 11)), none, none⟩, ⟨some 41, (.bin .lss (.tmp 40) (.con (.int .i64 0))), none, none⟩]) (.cond (.tmp 41) (.exit 0) .skip)) (.seq (.region [⟨some 42, (.mv (.tmp 9)), none, none⟩, ⟨some 43, (.mv (.tmp 10)), none, none⟩, ⟨some 44, (.mv (.tmp 0)), none, none⟩, ⟨some 45, (.mv (.tmp 11)), none, none⟩, ⟨some 46, (.mv (.tmp 2)), none, none⟩, ⟨some 47, (.bin .add (.tmp 45) (.tmp 46)), none, none⟩, ⟨some 48, (.slcStr (.tmp 44) none (some (.tmp 47))), none, none⟩, ⟨some 49, (.idxASl 1 (.tmp 42) (.tmp 43)), none, none⟩, ⟨none, (.store 1 (.tmp 49) (.tmp 48)), none, none⟩]) (.seq (.region [⟨some 50, (.mv (.tmp 0)), none, none⟩, ⟨some 51, (.mv (.tmp 11)), none, none⟩, ⟨some 52, (.mv (.tmp 1)), none, none⟩, ⟨some 53, (.len true (.tmp 52)), none, none⟩, ⟨some 54, (.bin .add (.tmp 51) (.tmp 53)), none, none⟩, ⟨some 55, (.slcStr (.tmp 50) (some (.tmp 54)) none), none, none⟩, ⟨some 0, (.mv (.tmp 55)), none, none⟩]) (.region [⟨some 56, (.mv (.tmp 10)), none, none⟩, ⟨some 57, (.bin .add (.tmp 56) (.con (.int .i64 1))), none, none⟩, ⟨some 10, (.mv (.tmp 57)), none, none⟩]))))))))) (.seq (.region [⟨some 58, (.mv (.tmp 9)), none, none⟩, ⟨some 59, (.mv (.tmp 10)), none, none⟩, ⟨some 60, (.mv (.tmp 0)), none, none⟩, ⟨some 61, (.idxASl 1 (.tmp 58) (.tmp 59)), none, none⟩, ⟨none, (.store 1 (.tmp 61) (.tmp 60)), none, none⟩]) (.seq (.region [⟨some 62, (.mv (.tmp 9)), none, none⟩, ⟨some 63, (.mv (.tmp 10)), none, none⟩, ⟨some 64, (.bin .add (.tmp 63) (.con (.int .i64 1))), none, none⟩, ⟨some 65, (.slc 1 (.tmp 62) none (some (.tmp 64)) none), none, none⟩, ⟨some 8, (.mv (.tmp 65)), none, none⟩]) .ret))))))))))), [.tmp 8]⟩
theorem c45_is : cfn Tryd.prog 45 = some c45 := by kernel_rfl
def c49 : AFn := ⟨(.seq (.region [⟨some 4, (.mv (.con (.bool false))), none, none⟩]) (.seq (.region [⟨some 5, (.mv (.tmp 0)), none, none⟩, ⟨some 6, (.mv (.tmp 1)), none, none⟩, ⟨some 7, (.call (.con (.func 58 [] [])) [.tmp 5, .tmp 6]), none, none⟩, ⟨some 8, (.bin .geq (.tmp 7) (.con (.int .i64 0))), none, none⟩, ⟨some 4, (.mv (.tmp 8)), none, none⟩]) .ret)), [.tmp 4]⟩
theorem c49_is : cfn Tryd.prog 49 = some c49 := by kernel_rfl
def c50 : AFn := ⟨(.seq (.region [⟨some 3, (.mv (.con (.bool false))), none, none⟩]) (.seq (.region [⟨some 4, (.load false 1 (.tmp 1)), none, none⟩, ⟨some 5, (.mv (.tmp 0)), none, none⟩, ⟨some 6, (.call (.tmp 4) [.tmp 5]), none, none⟩, ⟨some 7, (.un .not (.tmp 6)), none, none⟩, ⟨some 3, (.mv (.tmp 7)), none, none⟩]) .ret)), [.tmp 3]⟩
theorem c50_is : cfn Tryd.prog 50 = some c50 := by kernel_rfl
def c51 : AFn := ⟨(.seq (.region [⟨some 4, (.mv (.con (.str []))), none, none⟩, ⟨some 5, (.mv (.con (.bool false))), none, none⟩]) (.seq (.seq (.region [⟨some 6, (.mv (.tmp 0)), none, none⟩, ⟨some 7, (.mv (.tmp 1)), none, none⟩, ⟨some 8, (.call (.con (.func 59 [] [])) [.tmp 6, .tmp 7]), none, none⟩, ⟨some 9, (.un .not (.tmp 8)), none, none⟩]) (.cond (.tmp 9) (.seq (.region [⟨some 10, (.mv (.tmp 0)), none, none⟩, ⟨some 4, (.mv (.tmp 10)), none, none⟩, ⟨some 5, (.mv (.con (.bool false))), none, none⟩]) .ret) .skip)) (.seq (.region [⟨some 11, (.mv (.tmp 0)), none, none⟩, ⟨some 12, (.mv (.tmp 1)), none, none⟩, ⟨some 13, (.len true (.tmp 12)), none, none⟩, ⟨some 14, (.slcStr (.tmp 11) (some (.tmp 13)) none), none, none⟩, ⟨some 4, (.mv (.tmp 14)), none, none⟩, ⟨some 5, (.mv (.con (.bool true))), none, none⟩]) .ret))), [.tmp 4, .tmp 5]⟩
theorem c51_is : cfn Tryd.prog 51 = some c51 := by kernel_rfl
def c53 : AFn := ⟨(.seq (.region [⟨some 4, (.mv (.con .nils)), none, none⟩]) (.seq (.region [⟨some 10, (.mv (.tmp 0)), none, none⟩, ⟨some 11, (.call (.con (.func 60 [] [])) [.tmp 10]), none, none⟩, ⟨some 5, (.mv (.tmp 11)), none, none⟩]) (.seq (.seq (.region [⟨some 12, (.mv (.tmp 1)), none, none⟩, ⟨some 13, (.bin .lss (.tmp 12) (.con (.int .i64 0))), none, none⟩, ⟨some 14, (.mv (.tmp 13)), none, none⟩, ⟨some 15, (.mv (.tmp 1)), (some (14, false)), none⟩, ⟨some 16, (.mv (.tmp 5)), (some (14, false)), none⟩, ⟨some 17, (.bin .gtr (.tmp 15) (.tmp 16)), (some (14, false)), none⟩, ⟨some 18, (.pick (.tmp 14) (.con (.bool true)) (.tmp 17)), none, none⟩]) (.cond (.tmp 18) (.region [⟨some 19, (.mv (.tmp 5)), none, none⟩, ⟨some 1, (.mv (.tmp 19)), none, none⟩]) .skip)) (.seq (.region [⟨some 20, (.mv (.tmp 1)), none, none⟩, ⟨some 21, (.mkS 1 16 [(.str [])] (.tmp 20) (.tmp 20)), none, none⟩, ⟨some 6, (.mv (.tmp 21)), none, none⟩]) (.seq (.seq (.region [⟨some 7, (.mv (.con (.int .i64 0))), none, none⟩]) (.block 0 (.loop (.seq (.seq (.region [⟨some 22, (.mv (.tmp 7)), none, none⟩, ⟨some 23, (.mv (.tmp 1)), none, none⟩, ⟨some 24, (.bin .sub (.tmp 23) (.con (.int .i64 1))), none, none⟩, ⟨some 25, (.bin .lss (.tmp 22) (.tmp 24)), none, none⟩]) (.cond (.tmp 25) .skip (.exit 0))) (.seq (.block 1 (.seq (.region [⟨some 29, (.mv (.tmp 0)), none, none⟩, ⟨some 30, (.call (.con (.func 61 [] [])) [.tmp 29]), none, none⟩, ⟨some 28, (.mv (.tmp 30)), none, none⟩, ⟨some 31, (.extract (.tmp 28) 0), none, none⟩, ⟨some 32, (.extract (.tmp 28) 1), none, none⟩, ⟨some 8, (.mv (.tmp 31)), none, none⟩, ⟨some 9, (.mv (.tmp 32)), none, none⟩]) (.seq (.region [⟨some 33, (.mv (.tmp 6)), none, none⟩, ⟨some 34, (.mv (.tmp 7)), none, none⟩, ⟨some 35, (.mv (.tmp 0)), none, none⟩, ⟨some 36, (.mv (.tmp 9)), none, none⟩, ⟨some 37, (.slcStr (.tmp 35) none (some (.tmp 36))), none, none⟩, ⟨some 38, (.idxASl 1 (.tmp 33) (.tmp 34)), none, none⟩, ⟨none, (.store 1 (.tmp 38) (.tmp 37)), none, none⟩]) (.region [⟨some 39, (.mv (.tmp 0)), none, none⟩, ⟨some 40, (.mv (.tmp 9)), none, none⟩, ⟨some 41, (.slcStr (.tmp 39) (some (.tmp 40)) none), none, none⟩, ⟨some 0, (.mv (.tmp 41)), none, none⟩])))) (.region [⟨some 26, (.mv (.tmp 7)), none, none⟩, ⟨some 27, (.bin .add (.tmp 26) (.con (.int .i64 1))), none, none⟩, ⟨some 7, (.mv (.tmp 27)), none, none⟩])))))) (.seq (.seq (.region [⟨some 42, (.mv (.tmp 1)), none, none⟩, ⟨some 43, (.bin .gtr (.tmp 42) (.con (.int .i64 0))), none, none⟩]) (.cond (.tmp 43) (.region [⟨some 44, (.mv (.tmp 6)), none, none⟩, ⟨some 45, (.mv (.tmp 1)), none, none⟩, ⟨some 46, (.bin .sub (.tmp 45) (.con (.int .i64 1))), none, none⟩, ⟨some 47, (.mv (.tmp 0)), none, none⟩, ⟨some 48, (.idxASl 1 (.tmp 44) (.tmp 46)), none, none⟩, ⟨none, (.store 1 (.tmp 48) (.tmp 47)), none, none⟩]) .skip)) (.seq (.region [⟨some 49, (.mv (.tmp 6)), none, none⟩, ⟨some 4, (.mv (.tmp 49)), none, none⟩]) .ret))))))), [.tmp 4]⟩
theorem c53_is : cfn Tryd.prog 53 = some c53 := by kernel_rfl
def c55 : AFn := ⟨(.seq (.region [⟨some 4, (.mv (.con (.int .i64 0))), none, none⟩]) (.seq (.region [⟨some 5, (.mv (.tmp 0)), none, none⟩, ⟨some 6, (.mv (.tmp 1)), none, none⟩, ⟨some 7, (.call (.con (.func 63 [] [])) [.tmp 5, .tmp 6]), none, none⟩, ⟨some 4, (.mv (.tmp 7)), none, none⟩]) .ret)), [.tmp 4]⟩
theorem c55_is : cfn Tryd.prog 55 = some c55 := by kernel_rfl
def c58 : AFn := ⟨(.seq (.region [⟨some 4, (.mv (.con (.int .i64 0))), none, none⟩]) (.seq (.seq (.region [⟨some 6, (.mv (.tmp 0)), none, none⟩, ⟨some 7, (.len false (.tmp 6)), none, none⟩, ⟨some 8, (.mv (.con (.int .i64 0))), none, none⟩]) (.block 0 (.loop (.seq (.region [⟨some 9, (.bin .lss (.tmp 8) (.tmp 7)), none, none⟩]) (.seq (.cond (.tmp 9) .skip (.exit 0)) (.seq (.block 1 (.seq (.region [⟨some 10, (.mv (.tmp 8)), none, none⟩, ⟨some 5, (.mv (.tmp 10)), none, none⟩]) (.seq (.region [⟨some 11, (.mv (.tmp 1)), none, none⟩, ⟨some 12, (.mv (.tmp 0)), none, none⟩, ⟨some 13, (.mv (.tmp 5)), none, none⟩, ⟨some 14, (.idxASl 1 (.tmp 12) (.tmp 13)), none, none⟩, ⟨some 15, (.load false 1 (.tmp 14)), none, none⟩, ⟨some 16, (.call (.tmp 11) [.tmp 15]), none, none⟩]) (.cond (.tmp 16) (.seq (.region [⟨some 17, (.mv (.tmp 5)), none, none⟩, ⟨some 4, (.mv (.tmp 17)), none, none⟩]) .ret) .skip)))) (.region [⟨some 18, (.bin .add (.tmp 8) (.con (.int .i64 1))), none, none⟩, ⟨some 8, (.mv (.tmp 18)), none, none⟩]))))))) (.seq (.region [⟨some 4, (.mv (.con (.int .i64 (-1)))), none, none⟩]) .ret))), [.tmp 4]⟩
theorem c58_is : cfn Tryd.prog 58 = some c58 := by kernel_rfl
def c59 : AFn := ⟨(.seq (.region [⟨some 4, (.mv (.con (.bool false))), none, none⟩]) (.seq (.region [⟨some 5, (.mv (.tmp 0)), none, none⟩, ⟨some 6, (.len true (.tmp 5)), none, none⟩, ⟨some 7, (.mv (.tmp 1)), none, none⟩, ⟨some 8, (.len true (.tmp 7)), none, none⟩, ⟨some 9, (.bin .geq (.tmp 6) (.tmp 8)), none, none⟩, ⟨some 10, (.mv (.tmp 9)), none, none⟩, ⟨some 11, (.mv (.tmp 0)), (some (10, true)), none⟩, ⟨some 12, (.mv (.tmp 1)), (some (10, true)), none⟩, ⟨some 13, (.len true (.tmp 12)), (some (10, true)), none⟩, ⟨some 14, (.slcStr (.tmp 11) none (some (.tmp 13))), (some (10, true)), none⟩, ⟨some 15, (.mv (.tmp 1)), (some (10, true)), none⟩, ⟨some 16, (.bin .eql (.tmp 14) (.tmp 15)), (some (10, true)), none⟩, ⟨some 17, (.pick (.tmp 10) (.tmp 16) (.con (.bool false))), none, none⟩, ⟨some 4, (.mv (.tmp 17)), none, none⟩]) .ret)), [.tmp 4]⟩
theorem c59_is : cfn Tryd.prog 59 = some c59 := by kernel_rfl
def c60 : AFn := ⟨(.seq (.region [⟨some 2, (.mv (.con (.int .i64 0))), none, none⟩]) (.seq (.seq (.region [⟨some 3, (.mv (.tmp 0)), none, none⟩, ⟨some 4, .die, none, none⟩]) (.block 0 (.loop (.seq (.region [⟨some 5, .die, none, none⟩, ⟨some 6, (.extract (.tmp 5) 0), none, none⟩]) (.seq (.cond (.tmp 6) .skip (.exit 0)) (.block 1 (.region [⟨some 7, (.mv (.tmp 2)), none, none⟩, ⟨some 8, (.bin .add (.tmp 7) (.con (.int .i64 1))), none, none⟩, ⟨some 2, (.mv (.tmp 8)), none, none⟩]))))))) (.seq (.region [⟨some 9, (.mv (.tmp 2)), none, none⟩, ⟨some 2, (.mv (.tmp 9)), none, none⟩]) .ret))), [.tmp 2]⟩
theorem c60_is : cfn Tryd.prog 60 = some c60 := by kernel_rfl
def c61 : AFn := ⟨(.seq (.region [⟨some 2, (.mv (.con (.int .i32 0))), none, none⟩, ⟨some 3, (.mv (.con (.int .i64 0))), none, none⟩]) (.seq (.seq (.region [⟨some 4, (.mv (.tmp 0)), none, none⟩, ⟨some 5, (.bin .neq (.tmp 4) (.con (.str []))), none, none⟩, ⟨some 6, (.mv (.tmp 5)), none, none⟩, ⟨some 7, (.mv (.tmp 0)), (some (6, true)), none⟩, ⟨some 8, (.idxStr (.tmp 7) (.con (.int .i64 0))), (some (6, true)), none⟩, ⟨some 9, (.bin .lss (.tmp 8) (.con (.int .u8 128))), (some (6, true)), none⟩, ⟨some 10, (.pick (.tmp 6) (.tmp 9) (.con (.bool false))), none, none⟩]) (.cond (.tmp 10) (.seq (.region [⟨some 11, (.mv (.tmp 0)), none, none⟩, ⟨some 12, (.idxStr (.tmp 11) (.con (.int .i64 0))), none, none⟩, ⟨some 13, (.toInt .i32 (.tmp 12)), none, none⟩, ⟨some 2, (.mv (.tmp 13)), none, none⟩, ⟨some 3, (.mv (.con (.int .i64 1))), none, none⟩]) .ret) (.region [⟨some 15, (.mv (.tmp 0)), none, none⟩, ⟨some 16, (.call (.con (.func 66 [] [])) [.tmp 15]), none, none⟩, ⟨some 14, (.mv (.tmp 16)), none, none⟩, ⟨some 17, (.extract (.tmp 14) 0), none, none⟩, ⟨some 18, (.extract (.tmp 14) 1), none, none⟩, ⟨some 2, (.mv (.tmp 17)), none, none⟩, ⟨some 3, (.mv (.tmp 18)), none, none⟩]))) .ret)), [.tmp 2, .tmp 3]⟩
theorem c61_is : cfn Tryd.prog 61 = some c61 := by kernel_rfl
def c63 : AFn := ⟨(.seq (.region [⟨some 4, (.mv (.con (.int .i64 0))), none, none⟩]) (.seq (.region [⟨some 14, (.mv (.tmp 1)), none, none⟩, ⟨some 15, (.len true (.tmp 14)), none, none⟩, ⟨some 5, (.mv (.tmp 15)), none, none⟩]) (.seq (.block 0 (.seq (.region [⟨some 17, (.mv (.tmp 5)), none, none⟩, ⟨some 18, (.bin .eql (.tmp 17) (.con (.int .i64 0))), none, none⟩, ⟨some 19, (.mv (.tmp 18)), none, none⟩, ⟨some 20, (.mv (.tmp 1)), (some (19, false)), none⟩, ⟨some 21, (.mv (.tmp 0)), (some (19, false)), none⟩, ⟨some 22, (.bin .eql (.tmp 20) (.tmp 21)), (some (19, false)), none⟩, ⟨some 23, (.pick (.tmp 19) (.con (.bool true)) (.tmp 22)), none, none⟩, ⟨some 16, (.mv (.tmp 23)), none, none⟩]) (.cond (.tmp 16) (.seq (.region [⟨some 4, (.mv (.con (.int .i64 0))), none, none⟩]) .ret) (.seq (.region [⟨some 25, (.mv (.tmp 5)), none, none⟩, ⟨some 26, (.bin .eql (.tmp 25) (.con (.int .i64 1))), none, none⟩, ⟨some 24, (.mv (.tmp 26)), none, none⟩]) (.cond (.tmp 24) (.seq (.region [⟨some 27, (.mv (.tmp 0)), none, none⟩, ⟨some 28, (.mv (.tmp 1)), none, none⟩, ⟨some 29, (.idxStr (.tmp 28) (.con (.int .i64 0))), none, none⟩, ⟨some 30, (.call (.con (.func 44 [] [])) [.tmp 27, .tmp 29]), none, none⟩, ⟨some 4, (.mv (.tmp 30)), none, none⟩]) .ret) (.seq (.region [⟨some 32, (.mv (.tmp 5)), none, none⟩, ⟨some 33, (.mv (.tmp 0)), none, none⟩, ⟨some 34, (.len true (.tmp 33)), none, none⟩, ⟨some 35, (.bin .geq (.tmp 32) (.tmp 34)), none, none⟩, ⟨some 31, (.mv (.tmp 35)), none, none⟩]) (.cond (.tmp 31) (.seq (.region [⟨some 4, (.mv (.con (.int .i64 (-1)))), none, none⟩]) .ret) (.seq (.region [⟨some 37, (.mv (.tmp 5)), none, none⟩, ⟨some 38, .die, none, none⟩, ⟨some 39, (.bin .leq (.tmp 37) (.tmp 38)), none, none⟩, ⟨some 40, (.mv (.tmp 39)), none, none⟩, ⟨some 41, (.mv (.tmp 0)), (some (40, true)), none⟩, ⟨some 42, (.len true (.tmp 41)), (some (40, true)), none⟩, ⟨some 43, (.bin .leq (.tmp 42) (.con (.int .i64 64))), (some (40, true)), none⟩, ⟨some 44, (.pick (.tmp 40) (.tmp 43) (.con (.bool false))), none, none⟩, ⟨some 36, (.mv (.tmp 44)), none, none⟩]) (.cond (.tmp 36) (.seq (.region [⟨some 45, (.mv (.tmp 0)), none, none⟩, ⟨some 46, (.mv (.tmp 1)), none, none⟩, ⟨some 47, (.call (.con (.func 67 [] [])) [.tmp 45, .tmp 46]), none, none⟩, ⟨some 4, (.mv (.tmp 47)), none, none⟩]) .ret) .skip))))))))) (.seq (.region [⟨some 48, (.mv (.tmp 1)), none, none⟩, ⟨some 49, (.idxStr (.tmp 48) (.con (.int .i64 0))), none, none⟩, ⟨some 6, (.mv (.tmp 49)), none, none⟩]) (.seq (.region [⟨some 50, (.mv (.tmp 1)), none, none⟩, ⟨some 51, (.idxStr (.tmp 50) (.con (.int .i64 1))), none, none⟩, ⟨some 7, (.mv (.tmp 51)), none, none⟩]) (.seq (.region [⟨some 8, (.mv (.con (.int .i64 0))), none, none⟩]) (.seq (.region [⟨some 52, (.mv (.tmp 0)), none, none⟩, ⟨some 53, (.len true (.tmp 52)), none, none⟩, ⟨some 54, (.mv (.tmp 5)), none, none⟩, ⟨some 55, (.bin .sub (.tmp 53) (.tmp 54)), none, none⟩, ⟨some 56, (.bin .add (.tmp 55) (.con (.int .i64 1))), none, none⟩, ⟨some 9, (.mv (.tmp 56)), none, none⟩]) (.seq (.region [⟨some 10, (.mv (.con (.int .i64 0))), none, none⟩]) (.seq (.block 1 (.loop (.seq (.seq (.region [⟨some 57, (.mv (.tmp 8)), none, none⟩, ⟨some 58, (.mv (.tmp 9)), none, none⟩, ⟨some 59, (.bin .lss (.tmp 57) (.tmp 58)), none, none⟩]) (.cond (.tmp 59) .skip (.exit 1))) (.block 2 (.seq (.seq (.region [⟨some 60, (.mv (.tmp 0)), none, none⟩, ⟨some 61, (.mv (.tmp 8)), none, none⟩, ⟨some 62, (.idxStr (.tmp 60) (.tmp 61)), none, none⟩, ⟨some 63, (.mv (.tmp 6)), none, none⟩, ⟨some 64, (.bin .neq (.tmp 62) (.tmp 63)), none, none⟩]) (.cond (.tmp 64) (.seq (.region [⟨some 65, (.mv (.tmp 0)), none, none⟩, ⟨some 66, (.mv (.tmp 8)), none, none⟩, ⟨some 67, (.bin .add (.tmp 66) (.con (.int .i64 1))), none, none⟩, ⟨some 68, (.mv (.tmp 9)), none, none⟩, ⟨some 69, (.slcStr (.tmp 65) (some (.tmp 67)) (some (.tmp 68))), none, none⟩, ⟨some 70, (.mv (.tmp 6)), none, none⟩, ⟨some 71, (.call (.con (.func 44 [] [])) [.tmp 69, .tmp 70]), none, none⟩, ⟨some 11, (.mv (.tmp 71)), none, none⟩]) (.seq (.seq (.region [⟨some 72, (.mv (.tmp 11)), none, none⟩, ⟨some 73, (.bin .lss (.tmp 72) (.con (.int .i64 0))), none, none⟩]) (.cond (.tmp 73) (.seq (.region [⟨some 4, (.mv (.con (.int .i64 (-1)))), none, none⟩]) .ret) .skip)) (.region [⟨some 74, (.mv (.tmp 8)), none, none⟩, ⟨some 75, (.mv (.tmp 11)), none, none⟩, ⟨some 76, (.bin .add (.tmp 75) (.con (.int .i64 1))), none, none⟩, ⟨some 77, (.bin .add (.tmp 74) (.tmp 76)), none, none⟩, ⟨some 8, (.mv (.tmp 77)), none, none⟩]))) .skip)) (.seq (.seq (.region [⟨some 78, (.mv (.tmp 0)), none, none⟩, ⟨some 79, (.mv (.tmp 8)), none, none⟩, ⟨some 80, (.bin .add (.tmp 79) (.con (.int .i64 1))), none, none⟩, ⟨some 81, (.idxStr (.tmp 78) (.tmp 80)), none, none⟩, ⟨some 82, (.mv (.tmp 7)), none, none⟩, ⟨some 83, (.bin .eql (.tmp 81) (.tmp 82)), none, none⟩, ⟨some 84, (.mv (.tmp 83)), none, none⟩, ⟨some 85, (.mv (.tmp 0)), (some (84, true)), none⟩, ⟨some 86, (.mv (.tmp 8)), (some (84, true)), none⟩, ⟨some 87, (.mv (.tmp 8)), (some (84, true)), none⟩, ⟨some 88, (.mv (.tmp 5)), (some (84, true)), none⟩, ⟨some 89, (.bin .add (.tmp 87) (.tmp 88)), (some (84, true)), none⟩, ⟨some 90, (.slcStr (.tmp 85) (some (.tmp 86)) (some (.tmp 89))), (some (84, true)), none⟩, ⟨some 91, (.mv (.tmp 1)), (some (84, true)), none⟩, ⟨some 92, (.bin .eql (.tmp 90) (.tmp 91)), (some (84, true)), none⟩, ⟨some 93, (.pick (.tmp 84) (.tmp 92) (.con (.bool false))), none, none⟩]) (.cond (.tmp 93) (.seq (.region [⟨some 94, (.mv (.tmp 8)), none, none⟩, ⟨some 4, (.mv (.tmp 94)), none, none⟩]) .ret) .skip)) (.seq (.region [⟨some 95, (.mv (.tmp 8)), none, none⟩, ⟨some 96, (.bin .add (.tmp 95) (.con (.int .i64 1))), none, none⟩, ⟨some 8, (.mv (.tmp 96)), none, none⟩]) (.seq (.region [⟨some 97, (.mv (.tmp 10)), none, none⟩, ⟨some 98, (.bin .add (.tmp 97) (.con (.int .i64 1))), none, none⟩, ⟨some 10, (.mv (.tmp 98)), none, none⟩]) (.seq (.region [⟨some 99, (.mv (.tmp 5)), none, none⟩, ⟨some 100, .die, none, none⟩, ⟨some 101, (.bin .leq (.tmp 99) (.tmp 100)), none, none⟩, ⟨some 102, (.mv (.tmp 101)), none, none⟩, ⟨some 103, (.mv (.tmp 10)), (some (102, true)), none⟩, ⟨some 104, (.mv (.tmp 8)), (some (102, true)), none⟩, ⟨some 105, (.call (.con (.func 68 [] [])) [.tmp 104]), (some (102, true)), none⟩, ⟨some 106, (.bin .gtr (.tmp 103) (.tmp 105)), (some (102, true)), none⟩, ⟨some 107, (.pick (.tmp 102) (.tmp 106) (.con (.bool false))), none, none⟩]) (.cond (.tmp 107) (.seq (.region [⟨some 108, (.mv (.tmp 0)), none, none⟩, ⟨some 109, (.mv (.tmp 8)), none, none⟩, ⟨some 110, (.slcStr (.tmp 108) (some (.tmp 109)) none), none, none⟩, ⟨some 111, (.mv (.tmp 1)), none, none⟩, ⟨some 112, (.call (.con (.func 67 [] [])) [.tmp 110, .tmp 111]), none, none⟩, ⟨some 12, (.mv (.tmp 112)), none, none⟩]) (.seq (.seq (.region [⟨some 113, (.mv (.tmp 12)), none, none⟩, ⟨some 114, (.bin .geq (.tmp 113) (.con (.int .i64 0))), none, none⟩]) (.cond (.tmp 114) (.seq (.region [⟨some 115, (.mv (.tmp 12)), none, none⟩, ⟨some 116, (.mv (.tmp 8)), none, none⟩, ⟨some 117, (.bin .add (.tmp 115) (.tmp 116)), none, none⟩, ⟨some 4, (.mv (.tmp 117)), none, none⟩]) .ret) .skip)) (.seq (.region [⟨some 4, (.mv (.con (.int .i64 (-1)))), none, none⟩]) .ret))) (.seq (.region [⟨some 118, (.mv (.tmp 5)), none, none⟩, ⟨some 119, .die, none, none⟩, ⟨some 120, (.bin .gtr (.tmp 118) (.tmp 119)), none, none⟩, ⟨some 121, (.mv (.tmp 120)), none, none⟩, ⟨some 122, (.mv (.tmp 10)), (some (121, true)), none⟩, ⟨some 123, (.mv (.tmp 8)), (some (121, true)), none⟩, ⟨some 124, (.bin .shr (.tmp 123) (.con (.int .u64 4))), (some (121, true)), none⟩, ⟨some 125, (.bin .add (.con (.int .i64 4)) (.tmp 124)), (some (121, true)), none⟩, ⟨some 126, (.bin .geq (.tmp 122) (.tmp 125)), (some (121, true)), none⟩, ⟨some 127, (.pick (.tmp 121) (.tmp 126) (.con (.bool false))), none, none⟩, ⟨some 128, (.mv (.tmp 127)), none, none⟩, ⟨some 129, (.mv (.tmp 8)), (some (128, true)), none⟩, ⟨some 130, (.mv (.tmp 9)), (some (128, true)), none⟩, ⟨some 131, (.bin .lss (.tmp 129) (.tmp 130)), (some (128, true)), none⟩, ⟨some 132, (.pick (.tmp 128) (.tmp 131) (.con (.bool false))), none, none⟩]) (.cond (.tmp 132) (.seq (.region [⟨some 133, (.mv (.tmp 0)), none, none⟩, ⟨some 134, (.mv (.tmp 8)), none, none⟩, ⟨some 135, (.slcStr (.tmp 133) (some (.tmp 134)) none), none, none⟩, ⟨some 136, (.mv (.tmp 1)), none, none⟩, ⟨some 137, (.call (.con (.func 69 [] [])) [.tmp 135, .tmp 136]), none, none⟩, ⟨some 13, (.mv (.tmp 137)), none, none⟩]) (.seq (.seq (.region [⟨some 138, (.mv (.tmp 13)), none, none⟩, ⟨some 139, (.bin .lss (.tmp 138) (.con (.int .i64 0))), none, none⟩]) (.cond (.tmp 139) (.seq (.region [⟨some 4, (.mv (.con (.int .i64 (-1)))), none, none⟩]) .ret) .skip)) (.seq (.region [⟨some 140, (.mv (.tmp 8)), none, none⟩, ⟨some 141, (.mv (.tmp 13)), none, none⟩, ⟨some 142, (.bin .add (.tmp 140) (.tmp 141)), none, none⟩, ⟨some 4, (.mv (.tmp 142)), none, none⟩]) .ret))) .skip)))))))))))) (.seq (.region [⟨some 4, (.mv (.con (.int .i64 (-1)))), none, none⟩]) .ret)))))))))), [.tmp 4]⟩
theorem c63_is : cfn Tryd.prog 63 = some c63 := by kernel_rfl
def c66 : AFn := ⟨(.seq (.region [⟨some 2, (.mv (.con (.int .i32 0))), none, none⟩, ⟨some 3, (.mv (.con (.int .i64 0))), none, none⟩]) (.seq (.region [⟨some 13, (.mv (.tmp 0)), none, none⟩, ⟨some 14, (.len true (.tmp 13)), none, none⟩, ⟨some 4, (.mv (.tmp 14)), none, none⟩]) (.seq (.seq (.region [⟨some 15, (.mv (.tmp 4)), none, none⟩, ⟨some 16, (.bin .lss (.tmp 15) (.con (.int .i64 1))), none, none⟩]) (.cond (.tmp 16) (.seq (.region [⟨some 2, (.mv (.con (.int .i32 65533))), none, none⟩, ⟨some 3, (.mv (.con (.int .i64 0))), none, none⟩]) .ret) .skip)) (.seq (.region [⟨some 17, (.mv (.tmp 0)), none, none⟩, ⟨some 18, (.idxStr (.tmp 17) (.con (.int .i64 0))), none, none⟩, ⟨some 5, (.mv (.tmp 18)), none, none⟩]) (.seq (.region [⟨some 19, (.mv (.tmp 5)), none, none⟩, ⟨some 20, .die, none, none⟩, ⟨some 21, (.load false 1 (.tmp 20)), none, none⟩, ⟨some 6, (.mv (.tmp 21)), none, none⟩]) (.seq (.seq (.region [⟨some 22, (.mv (.tmp 6)), none, none⟩, ⟨some 23, (.bin .geq (.tmp 22) (.con (.int .u8 240))), none, none⟩]) (.cond (.tmp 23) (.seq (.region [⟨some 24, (.mv (.tmp 6)), none, none⟩, ⟨some 25, (.toInt .i32 (.tmp 24)), none, none⟩, ⟨some 26, (.bin .shl (.tmp 25) (.con (.int .u64 31))), none, none⟩, ⟨some 27, (.bin .shr (.tmp 26) (.con (.int .u64 31))), none, none⟩, ⟨some 7, (.mv (.tmp 27)), none, none⟩]) (.seq (.region [⟨some 28, (.mv (.tmp 0)), none, none⟩, ⟨some 29, (.idxStr (.tmp 28) (.con (.int .i64 0))), none, none⟩, ⟨some 30, (.toInt .i32 (.tmp 29)), none, none⟩, ⟨some 31, (.mv (.tmp 7)), none, none⟩, ⟨some 32, (.bin .andNot (.tmp 30) (.tmp 31)), none, none⟩, ⟨some 33, (.mv (.tmp 7)), none, none⟩, ⟨some 34, (.bin .and (.con (.int .i32 65533)) (.tmp 33)), none, none⟩, ⟨some 35, (.bin .or (.tmp 32) (.tmp 34)), none, none⟩, ⟨some 2, (.mv (.tmp 35)), none, none⟩, ⟨some 3, (.mv (.con (.int .i64 1))), none, none⟩]) .ret)) .skip)) (.seq (.region [⟨some 36, (.mv (.tmp 6)), none, none⟩, ⟨some 37, (.bin .and (.tmp 36) (.con (.int .u8 7))), none, none⟩, ⟨some 38, (.toInt .i64 (.tmp 37)), none, none⟩, ⟨some 8, (.mv (.tmp 38)), none, none⟩]) (.seq (.region [⟨some 39, (.mv (.tmp 6)), none, none⟩, ⟨some 40, (.bin .shr (.tmp 39) (.con (.int .u64 4))), none, none⟩, ⟨some 41, .die, none, none⟩, ⟨some 42, (.load true 2 (.tmp 41)), none, none⟩, ⟨some 9, (.new [(.int .u8 0), (.int .u8 0)]), none, none⟩, ⟨none, (.store 2 (.tmp 9) (.tmp 42)), none, none⟩]) (.seq (.seq (.region [⟨some 43, (.mv (.tmp 4)), none, none⟩, ⟨some 44, (.mv (.tmp 8)), none, none⟩, ⟨some 45, (.bin .lss (.tmp 43) (.tmp 44)), none, none⟩]) (.cond (.tmp 45) (.seq (.region [⟨some 2, (.mv (.con (.int .i32 65533))), none, none⟩, ⟨some 3, (.mv (.con (.int .i64 1))), none, none⟩]) .ret) .skip)) (.seq (.region [⟨some 46, (.mv (.tmp 0)), none, none⟩, ⟨some 47, (.idxStr (.tmp 46) (.con (.int .i64 1))), none, none⟩, ⟨some 10, (.mv (.tmp 47)), none, none⟩]) (.seq (.seq (.region [⟨some 48, (.mv (.tmp 10)), none, none⟩, ⟨some 49, (.fieldA 0 (.tmp 9)), none, none⟩, ⟨some 50, (.load false 1 (.tmp 49)), none, none⟩, ⟨some 51, (.bin .lss (.tmp 48) (.tmp 50)), none, none⟩, ⟨some 52, (.mv (.tmp 51)), none, none⟩, ⟨some 53, (.fieldA 1 (.tmp 9)), (some (52, false)), none⟩, ⟨some 54, (.load false 1 (.tmp 53)), (some (52, false)), none⟩, ⟨some 55, (.mv (.tmp 10)), (some (52, false)), none⟩, ⟨some 56, (.bin .lss (.tmp 54) (.tmp 55)), (some (52, false)), none⟩, ⟨some 57, (.pick (.tmp 52) (.con (.bool true)) (.tmp 56)), none, none⟩]) (.cond (.tmp 57) (.seq (.region [⟨some 2, (.mv (.con (.int .i32 65533))), none, none⟩, ⟨some 3, (.mv (.con (.int .i64 1))), none, none⟩]) .ret) .skip)) (.seq (.seq (.region [⟨some 58, (.mv (.tmp 8)), none, none⟩, ⟨some 59, (.bin .leq (.tmp 58) (.con (.int .i64 2))), none, none⟩]) (.cond (.tmp 59) (.seq (.region [⟨some 60, (.mv (.tmp 5)), none, none⟩, ⟨some 61, (.bin .and (.tmp 60) (.con (.int .u8 31))), none, none⟩, ⟨some 62, (.toInt .i32 (.tmp 61)), none, none⟩, ⟨some 63, (.bin .shl (.tmp 62) (.con (.int .u64 6))), none, none⟩, ⟨some 64, (.mv (.tmp 10)), none, none⟩, ⟨some 65, (.bin .and (.tmp 64) (.con (.int .u8 63))), none, none⟩, ⟨some 66, (.toInt .i32 (.tmp 65)), none, none⟩, ⟨some 67, (.bin .or (.tmp 63) (.tmp 66)), none, none⟩, ⟨some 2, (.mv (.tmp 67)), none, none⟩, ⟨some 3, (.mv (.con (.int .i64 2))), none, none⟩]) .ret) .skip)) (.seq (.region [⟨some 68, (.mv (.tmp 0)), none, none⟩, ⟨some 69, (.idxStr (.tmp 68) (.con (.int .i64 2))), none, none⟩, ⟨some 11, (.mv (.tmp 69)), none, none⟩]) (.seq (.seq (.region [⟨some 70, (.mv (.tmp 11)), none, none⟩, ⟨some 71, (.bin .lss (.tmp 70) (.con (.int .u8 128))), none, none⟩, ⟨some 72, (.mv (.tmp 71)), none, none⟩, ⟨some 73, (.mv (.tmp 11)), (some (72, false)), none⟩, ⟨some 74, (.bin .lss (.con (.int .u8 191)) (.tmp 73)), (some (72, false)), none⟩, ⟨some 75, (.pick (.tmp 72) (.con (.bool true)) (.tmp 74)), none, none⟩]) (.cond (.tmp 75) (.seq (.region [⟨some 2, (.mv (.con (.int .i32 65533))), none, none⟩, ⟨some 3, (.mv (.con (.int .i64 1))), none, none⟩]) .ret) .skip)) (.seq (.seq (.region [⟨some 76, (.mv (.tmp 8)), none, none⟩, ⟨some 77, (.bin .leq (.tmp 76) (.con (.int .i64 3))), none, none⟩]) (.cond (.tmp 77) (.seq (.region [⟨some 78, (.mv (.tmp 5)), none, none⟩, ⟨some 79, (.bin .and (.tmp 78) (.con (.int .u8 15))), none, none⟩, ⟨some 80, (.toInt .i32 (.tmp 79)), none, none⟩, ⟨some 81, (.bin .shl (.tmp 80) (.con (.int .u64 12))), none, none⟩, ⟨some 82, (.mv (.tmp 10)), none, none⟩, ⟨some 83, (.bin .and (.tmp 82) (.con (.int .u8 63))), none, none⟩, ⟨some 84, (.toInt .i32 (.tmp 83)), none, none⟩, ⟨some 85, (.bin .shl (.tmp 84) (.con (.int .u64 6))), none, none⟩, ⟨some 86, (.bin .or (.tmp 81) (.tmp 85)), none, none⟩, ⟨some 87, (.mv (.tmp 11)), none, none⟩, ⟨some 88, (.bin .and (.tmp 87) (.con (.int .u8 63))), none, none⟩, ⟨some 89, (.toInt .i32 (.tmp 88)), none, none⟩, ⟨some 90, (.bin .or (.tmp 86) (.tmp 89)), none, none⟩, ⟨some 2, (.mv (.tmp 90)), none, none⟩, ⟨some 3, (.mv (.con (.int .i64 3))), none, none⟩]) .ret) .skip)) (.seq (.region [⟨some 91, (.mv (.tmp 0)), none, none⟩, ⟨some 92, (.idxStr (.tmp 91) (.con (.int .i64 3))), none, none⟩, ⟨some 12, (.mv (.tmp 92)), none, none⟩]) (.seq (.seq (.region [⟨some 93, (.mv (.tmp 12)), none, none⟩, ⟨some 94, (.bin .lss (.tmp 93) (.con (.int .u8 128))), none, none⟩, ⟨some 95, (.mv (.tmp 94)), none, none⟩, ⟨some 96, (.mv (.tmp 12)), (some (95, false)), none⟩, ⟨some 97, (.bin .lss (.con (.int .u8 191)) (.tmp 96)), (some (95, false)), none⟩, ⟨some 98, (.pick (.tmp 95) (.con (.bool true)) (.tmp 97)), none, none⟩]) (.cond (.tmp 98) (.seq (.region [⟨some 2, (.mv (.con (.int .i32 65533))), none, none⟩, ⟨some 3, (.mv (.con (.int .i64 1))), none, none⟩]) .ret) .skip)) (.seq (.region [⟨some 99, (.mv (.tmp 5)), none, none⟩, ⟨some 100, (.bin .and (.tmp 99) (.con (.int .u8 7))), none, none⟩, ⟨some 101, (.toInt .i32 (.tmp 100)), none, none⟩, ⟨some 102, (.bin .shl (.tmp 101) (.con (.int .u64 18))), none, none⟩, ⟨some 103, (.mv (.tmp 10)), none, none⟩, ⟨some 104, (.bin .and (.tmp 103) (.con (.int .u8 63))), none, none⟩, ⟨some 105, (.toInt .i32 (.tmp 104)), none, none⟩, ⟨some 106, (.bin .shl (.tmp 105) (.con (.int .u64 12))), none, none⟩, ⟨some 107, (.bin .or (.tmp 102) (.tmp 106)), none, none⟩, ⟨some 108, (.mv (.tmp 11)), none, none⟩, ⟨some 109, (.bin .and (.tmp 108) (.con (.int .u8 63))), none, none⟩, ⟨some 110, (.toInt .i32 (.tmp 109)), none, none⟩, ⟨some 111, (.bin .shl (.tmp 110) (.con (.int .u64 6))), none, none⟩, ⟨some 112, (.bin .or (.tmp 107) (.tmp 111)), none, none⟩, ⟨some 113, (.mv (.tmp 12)), none, none⟩, ⟨some 114, (.bin .and (.tmp 113) (.con (.int .u8 63))), none, none⟩, ⟨some 115, (.toInt .i32 (.tmp 114)), none, none⟩, ⟨some 116, (.bin .or (.tmp 112) (.tmp 115)), none, none⟩, ⟨some 2, (.mv (.tmp 116)), none, none⟩, ⟨some 3, (.mv (.con (.int .i64 4))), none, none⟩]) .ret)))))))))))))))))), [.tmp 2, .tmp 3]⟩
theorem c66_is : cfn Tryd.prog 66 = some c66 := by kernel_rfl
def c68 : AFn := ⟨(.seq (.region [⟨some 2, (.mv (.con (.int .i64 0))), none, none⟩]) (.seq (.region [⟨some 3, (.mv (.tmp 0)), none, none⟩, ⟨some 4, (.bin .add (.tmp 3) (.con (.int .i64 16))), none, none⟩, ⟨some 5, (.bin .quo (.tmp 4) (.con (.int .i64 8))), none, none⟩, ⟨some 2, (.mv (.tmp 5)), none, none⟩]) .ret)), [.tmp 2]⟩
theorem c68_is : cfn Tryd.prog 68 = some c68 := by kernel_rfl
def c69 : AFn := ⟨(.seq (.region [⟨some 4, (.mv (.con (.int .i64 0))), none, none⟩]) (.seq (.region [⟨some 12, (.mv (.tmp 1)), none, none⟩, ⟨some 13, (.call (.con (.func 70 [] [])) [.tmp 12]), none, none⟩, ⟨some 11, (.mv (.tmp 13)), none, none⟩, ⟨some 14, (.extract (.tmp 11) 0), none, none⟩, ⟨some 15, (.extract (.tmp 11) 1), none, none⟩, ⟨some 5, (.mv (.tmp 14)), none, none⟩, ⟨some 6, (.mv (.tmp 15)), none, none⟩]) (.seq (.region [⟨some 16, (.mv (.tmp 1)), none, none⟩, ⟨some 17, (.len true (.tmp 16)), none, none⟩, ⟨some 7, (.mv (.tmp 17)), none, none⟩]) (.seq (.region [⟨some 8, (.mv (.con (.int .u32 0))), none, none⟩]) (.seq (.seq (.region [⟨some 9, (.mv (.con (.int .i64 0))), none, none⟩]) (.block 0 (.loop (.seq (.seq (.region [⟨some 18, (.mv (.tmp 9)), none, none⟩, ⟨some 19, (.mv (.tmp 7)), none, none⟩, ⟨some 20, (.bin .lss (.tmp 18) (.tmp 19)), none, none⟩]) (.cond (.tmp 20) .skip (.exit 0))) (.seq (.block 1 (.region [⟨some 23, (.mv (.tmp 8)), none, none⟩, ⟨some 24, (.bin .mul (.tmp 23) (.con (.int .u32 16777619))), none, none⟩, ⟨some 25, (.mv (.tmp 0)), none, none⟩, ⟨some 26, (.mv (.tmp 9)), none, none⟩, ⟨some 27, (.idxStr (.tmp 25) (.tmp 26)), none, none⟩, ⟨some 28, (.toInt .u32 (.tmp 27)), none, none⟩, ⟨some 29, (.bin .add (.tmp 24) (.tmp 28)), none, none⟩, ⟨some 8, (.mv (.tmp 29)), none, none⟩])) (.region [⟨some 21, (.mv (.tmp 9)), none, none⟩, ⟨some 22, (.bin .add (.tmp 21) (.con (.int .i64 1))), none, none⟩, ⟨some 9, (.mv (.tmp 22)), none, none⟩])))))) (.seq (.seq (.region [⟨some 30, (.mv (.tmp 8)), none, none⟩, ⟨some 31, (.mv (.tmp 5)), none, none⟩, ⟨some 32, (.bin .eql (.tmp 30) (.tmp 31)), none, none⟩, ⟨some 33, (.mv (.tmp 32)), none, none⟩, ⟨some 34, (.mv (.tmp 0)), (some (33, true)), none⟩, ⟨some 35, (.mv (.tmp 7)), (some (33, true)), none⟩, ⟨some 36, (.slcStr (.tmp 34) none (some (.tmp 35))), (some (33, true)), none⟩, ⟨some 37, (.mv (.tmp 1)), (some (33, true)), none⟩, ⟨some 38, (.bin .eql (.tmp 36) (.tmp 37)), (some (33, true)), none⟩, ⟨some 39, (.pick (.tmp 33) (.tmp 38) (.con (.bool false))), none, none⟩]) (.cond (.tmp 39) (.seq (.region [⟨some 4, (.mv (.con (.int .i64 0))), none, none⟩]) .ret) .skip)) (.seq (.seq (.region [⟨some 40, (.mv (.tmp 7)), none, none⟩, ⟨some 10, (.mv (.tmp 40)), none, none⟩]) (.block 2 (.loop (.seq (.seq (.region [⟨some 41, (.mv (.tmp 10)), none, none⟩, ⟨some 42, (.mv (.tmp 0)), none, none⟩, ⟨some 43, (.len true (.tmp 42)), none, none⟩, ⟨some 44, (.bin .lss (.tmp 41) (.tmp 43)), none, none⟩]) (.cond (.tmp 44) .skip (.exit 2))) (.block 3 (.seq (.region [⟨some 45, (.mv (.tmp 8)), none, none⟩, ⟨some 46, (.bin .mul (.tmp 45) (.con (.int .u32 16777619))), none, none⟩, ⟨some 8, (.mv (.tmp 46)), none, none⟩]) (.seq (.region [⟨some 47, (.mv (.tmp 8)), none, none⟩, ⟨some 48, (.mv (.tmp 0)), none, none⟩, ⟨some 49, (.mv (.tmp 10)), none, none⟩, ⟨some 50, (.idxStr (.tmp 48) (.tmp 49)), none, none⟩, ⟨some 51, (.toInt .u32 (.tmp 50)), none, none⟩, ⟨some 52, (.bin .add (.tmp 47) (.tmp 51)), none, none⟩, ⟨some 8, (.mv (.tmp 52)), none, none⟩]) (.seq (.region [⟨some 53, (.mv (.tmp 8)), none, none⟩, ⟨some 54, (.mv (.tmp 6)), none, none⟩, ⟨some 55, (.mv (.tmp 0)), none, none⟩, ⟨some 56, (.mv (.tmp 10)), none, none⟩, ⟨some 57, (.mv (.tmp 7)), none, none⟩, ⟨some 58, (.bin .sub (.tmp 56) (.tmp 57)), none, none⟩, ⟨some 59, (.idxStr (.tmp 55) (.tmp 58)), none, none⟩, ⟨some 60, (.toInt .u32 (.tmp 59)), none, none⟩, ⟨some 61, (.bin .mul (.tmp 54) (.tmp 60)), none, none⟩, ⟨some 62, (.bin .sub (.tmp 53) (.tmp 61)), none, none⟩, ⟨some 8, (.mv (.tmp 62)), none, none⟩]) (.seq (.region [⟨some 63, (.mv (.tmp 10)), none, none⟩, ⟨some 64, (.bin .add (.tmp 63) (.con (.int .i64 1))), none, none⟩, ⟨some 10, (.mv (.tmp 64)), none, none⟩]) (.seq (.region [⟨some 65, (.mv (.tmp 8)), none, none⟩, ⟨some 66, (.mv (.tmp 5)), none, none⟩, ⟨some 67, (.bin .eql (.tmp 65) (.tmp 66)), none, none⟩, ⟨some 68, (.mv (.tmp 67)), none, none⟩, ⟨some 69, (.mv (.tmp 0)), (some (68, true)), none⟩, ⟨some 70, (.mv (.tmp 10)), (some (68, true)), none⟩, ⟨some 71, (.mv (.tmp 7)), (some (68, true)), none⟩, ⟨some 72, (.bin .sub (.tmp 70) (.tmp 71)), (some (68, true)), none⟩, ⟨some 73, (.mv (.tmp 10)), (some (68, true)), none⟩, ⟨some 74, (.slcStr (.tmp 69) (some (.tmp 72)) (some (.tmp 73))), (some (68, true)), none⟩, ⟨some 75, (.mv (.tmp 1)), (some (68, true)), none⟩, ⟨some 76, (.bin .eql (.tmp 74) (.tmp 75)), (some (68, true)), none⟩, ⟨some 77, (.pick (.tmp 68) (.tmp 76) (.con (.bool false))), none, none⟩]) (.cond (.tmp 77) (.seq (.region [⟨some 78, (.mv (.tmp 10)), none, none⟩, ⟨some 79, (.mv (.tmp 7)), none, none⟩, ⟨some 80, (.bin .sub (.tmp 78) (.tmp 79)), none, none⟩, ⟨some 4, (.mv (.tmp 80)), none, none⟩]) .ret) .skip))))))))))) (.seq (.region [⟨some 4, (.mv (.con (.int .i64 (-1)))), none, none⟩]) .ret)))))))), [.tmp 4]⟩
theorem c69_is : cfn Tryd.prog 69 = some c69 := by kernel_rfl
def c70 : AFn := ⟨(.seq (.region [⟨some 2, (.mv (.con (.int .u32 0))), none, none⟩, ⟨some 3, (.mv (.con (.int .u32 0))), none, none⟩]) (.seq (.region [⟨some 4, (.mv (.con (.int .u32 0))), none, none⟩]) (.seq (.seq (.region [⟨some 5, (.mv (.con (.int .i64 0))), none, none⟩]) (.block 0 (.loop (.seq (.seq (.region [⟨some 9, (.mv (.tmp 5)), none, none⟩, ⟨some 10, (.mv (.tmp 0)), none, none⟩, ⟨some 11, (.len true (.tmp 10)), none, none⟩, ⟨some 12, (.bin .lss (.tmp 9) (.tmp 11)), none, none⟩]) (.cond (.tmp 12) .skip (.exit 0))) (.seq (.block 1 (.region [⟨some 15, (.mv (.tmp 4)), none, none⟩, ⟨some 16, (.bin .mul (.tmp 15) (.con (.int .u32 16777619))), none, none⟩, ⟨some 17, (.mv (.tmp 0)), none, none⟩, ⟨some 18, (.mv (.tmp 5)), none, none⟩, ⟨some 19, (.idxStr (.tmp 17) (.tmp 18)), none, none⟩, ⟨some 20, (.toInt .u32 (.tmp 19)), none, none⟩, ⟨some 21, (.bin .add (.tmp 16) (.tmp 20)), none, none⟩, ⟨some 4, (.mv (.tmp 21)), none, none⟩])) (.region [⟨some 13, (.mv (.tmp 5)), none, none⟩, ⟨some 14, (.bin .add (.tmp 13) (.con (.int .i64 1))), none, none⟩, ⟨some 5, (.mv (.tmp 14)), none, none⟩])))))) (.seq (.region [⟨some 6, (.mv (.con (.int .u32 1))), none, none⟩, ⟨some 7, (.mv (.con (.int .u32 16777619))), none, none⟩]) (.seq (.seq (.region [⟨some 22, (.mv (.tmp 0)), none, none⟩, ⟨some 23, (.len true (.tmp 22)), none, none⟩, ⟨some 8, (.mv (.tmp 23)), none, none⟩]) (.block 2 (.loop (.seq (.seq (.region [⟨some 24, (.mv (.tmp 8)), none, none⟩, ⟨some 25, (.bin .gtr (.tmp 24) (.con (.int .i64 0))), none, none⟩]) (.cond (.tmp 25) .skip (.exit 2))) (.seq (.block 3 (.seq (.seq (.region [⟨some 28, (.mv (.tmp 8)), none, none⟩, ⟨some 29, (.bin .and (.tmp 28) (.con (.int .i64 1))), none, none⟩, ⟨some 30, (.bin .neq (.tmp 29) (.con (.int .i64 0))), none, none⟩]) (.cond (.tmp 30) (.region [⟨some 31, (.mv (.tmp 6)), none, none⟩, ⟨some 32, (.mv (.tmp 7)), none, none⟩, ⟨some 33, (.bin .mul (.tmp 31) (.tmp 32)), none, none⟩, ⟨some 6, (.mv (.tmp 33)), none, none⟩]) .skip)) (.region [⟨some 34, (.mv (.tmp 7)), none, none⟩, ⟨some 35, (.mv (.tmp 7)), none, none⟩, ⟨some 36, (.bin .mul (.tmp 34) (.tmp 35)), none, none⟩, ⟨some 7, (.mv (.tmp 36)), none, none⟩]))) (.region [⟨some 26, (.mv (.tmp 8)), none, none⟩, ⟨some 27, (.bin .shr (.tmp 26) (.con (.int .u64 1))), none, none⟩, ⟨some 8, (.mv (.tmp 27)), none, none⟩])))))) (.seq (.region [⟨some 37, (.mv (.tmp 4)), none, none⟩, ⟨some 38, (.mv (.tmp 6)), none, none⟩, ⟨some 2, (.mv (.tmp 37)), none, none⟩, ⟨some 3, (.mv (.tmp 38)), none, none⟩]) .ret)))))), [.tmp 2, .tmp 3]⟩
theorem c70_is : cfn Tryd.prog 70 = some c70 := by kernel_rfl
def fn : FuncId → Option AFn
  | 3 => some c3
  | 4 => some c4
  | 5 => some c5
  | 6 => some c6
  | 7 => some c7
  | 8 => some c8
  | 9 => some c9
  | 10 => some c10
  | 11 => some c11
  | 12 => some c12
  | 13 => some c13
  | 14 => some c14
  | 15 => some c15
  | 16 => some c16
  | 17 => some c17
  | 18 => some c18
  | 19 => some c19
  | 20 => some c20
  | 21 => some c21
  | 22 => some c22
  | 23 => some c23
  | 24 => some c24
  | 25 => some c25
  | 26 => some c26
  | 27 => some c27
  | 28 => some c28
  | 29 => some c29
  | 30 => some c30
  | 31 => some c31
  | 32 => some c32
  | 33 => some c33
  | 34 => some c34
  | 35 => some c35
  | 37 => some c37
  | 38 => some c38
  | 39 => some c39
  | 40 => some c40
  | 41 => some c41
  | 42 => some c42
  | 43 => some c43
  | 45 => some c45
  | 49 => some c49
  | 50 => some c50
  | 51 => some c51
  | 53 => some c53
  | 55 => some c55
  | 58 => some c58
  | 59 => some c59
  | 60 => some c60
  | 61 => some c61
  | 63 => some c63
  | 66 => some c66
  | 68 => some c68
  | 69 => some c69
  | 70 => some c70
  | _ => none
theorem fn_is : ∀ f x, fn f = some x → cfn Tryd.prog f = some x := by
  intro f x h
  unfold fn at h
  split at h
  · injection h with h; subst h; exact c3_is
  · injection h with h; subst h; exact c4_is
  · injection h with h; subst h; exact c5_is
  · injection h with h; subst h; exact c6_is
  · injection h with h; subst h; exact c7_is
  · injection h with h; subst h; exact c8_is
  · injection h with h; subst h; exact c9_is
  · injection h with h; subst h; exact c10_is
  · injection h with h; subst h; exact c11_is
  · injection h with h; subst h; exact c12_is
  · injection h with h; subst h; exact c13_is
  · injection h with h; subst h; exact c14_is
  · injection h with h; subst h; exact c15_is
  · injection h with h; subst h; exact c16_is
  · injection h with h; subst h; exact c17_is
  · injection h with h; subst h; exact c18_is
  · injection h with h; subst h; exact c19_is
  · injection h with h; subst h; exact c20_is
  · injection h with h; subst h; exact c21_is
  · injection h with h; subst h; exact c22_is
  · injection h with h; subst h; exact c23_is
  · injection h with h; subst h; exact c24_is
  · injection h with h; subst h; exact c25_is
  · injection h with h; subst h; exact c26_is
  · injection h with h; subst h; exact c27_is
  · injection h with h; subst h; exact c28_is
  · injection h with h; subst h; exact c29_is
  · injection h with h; subst h; exact c30_is
  · injection h with h; subst h; exact c31_is
  · injection h with h; subst h; exact c32_is
  · injection h with h; subst h; exact c33_is
  · injection h with h; subst h; exact c34_is
  · injection h with h; subst h; exact c35_is
  · injection h with h; subst h; exact c37_is
  · injection h with h; subst h; exact c38_is
  · injection h with h; subst h; exact c39_is
  · injection h with h; subst h; exact c40_is
  · injection h with h; subst h; exact c41_is
  · injection h with h; subst h; exact c42_is
  · injection h with h; subst h; exact c43_is
  · injection h with h; subst h; exact c45_is
  · injection h with h; subst h; exact c49_is
  · injection h with h; subst h; exact c50_is
  · injection h with h; subst h; exact c51_is
  · injection h with h; subst h; exact c53_is
  · injection h with h; subst h; exact c55_is
  · injection h with h; subst h; exact c58_is
  · injection h with h; subst h; exact c59_is
  · injection h with h; subst h; exact c60_is
  · injection h with h; subst h; exact c61_is
  · injection h with h; subst h; exact c63_is
  · injection h with h; subst h; exact c66_is
  · injection h with h; subst h; exact c68_is
  · injection h with h; subst h; exact c69_is
  · injection h with h; subst h; exact c70_is
  · simp at h
end Go.Proofs.YtfmjdlahabgkpaaDoor.NaFns
end

section
/- Contracts of Go's library at this program, as the kit's own tool prints them. -/
namespace Go.Proofs
open Go.Shelf
def Tryd.lays156_ren : Go.Shelf.Ren := ⟨fun | 156 => 36 | 165 => 46 | 166 => 47 | 169 => 48 | 240 => 56 | 241 => 57 | 276 => 64 | 277 => 65 | n => n, fun | 31 => 22 | 9 => 9 | 3 => 3 | 4 => 4 | 0 => 0 | 20 => 20 | 72 => 60 | 76 => 64 | 70 => 58 | 37 => 42 | 75 => 63 | 127 => 70 | 164 => 76 | 5 => 5 | 80 => 66 | n => n, fun | n => n⟩
theorem Tryd.lays156 : Go.Proofs.Lays.n156 Tryd.prog Tryd.lays156_ren := {
  mixed := by kernel_rfl
  f156 := Tryd.func36.trans (congrArg some (by kernel_rfl))
  f165 := Tryd.func46.trans (congrArg some (by kernel_rfl))
  f166 := Tryd.func47.trans (congrArg some (by kernel_rfl))
  f169 := Tryd.func48.trans (congrArg some (by kernel_rfl))
  f240 := Tryd.func56.trans (congrArg some (by kernel_rfl))
  f241 := Tryd.func57.trans (congrArg some (by kernel_rfl))
  f276 := Tryd.func64.trans (congrArg some (by kernel_rfl))
  f277 := Tryd.func65.trans (congrArg some (by kernel_rfl))
  t0 := Tryd.underlying0
  a0 := Tryd.isAgg0
  z0 := Tryd.sizeOf0
  v0 := Tryd.zeroValue0
  t3 := Tryd.underlying3
  a3 := Tryd.isAgg3
  z3 := Tryd.sizeOf3
  v3 := Tryd.zeroValue3
  t4 := Tryd.underlying4
  a4 := Tryd.isAgg4
  z4 := Tryd.sizeOf4
  v4 := Tryd.zeroValue4
  t9 := Tryd.underlying9
  a9 := Tryd.isAgg9
  z9 := Tryd.sizeOf9
  v9 := Tryd.zeroValue9
  t20 := Tryd.underlying20
  a20 := Tryd.isAgg20
  z20 := Tryd.sizeOf20
  v20 := Tryd.zeroValue20
  t31 := Tryd.underlying22
  a31 := Tryd.isAgg22
  z31 := Tryd.sizeOf22
  v31 := Tryd.zeroValue22
  t37 := Tryd.underlying42
  a37 := Tryd.isAgg42
  z37 := Tryd.sizeOf42
  v37 := Tryd.zeroValue42
  t70 := Tryd.underlying58
  a70 := Tryd.isAgg58
  z70 := Tryd.sizeOf58
  v70 := Tryd.zeroValue58
  t72 := Tryd.underlying60
  a72 := Tryd.isAgg60
  z72 := Tryd.sizeOf60
  v72 := Tryd.zeroValue60
  t75 := Tryd.underlying63
  a75 := Tryd.isAgg63
  z75 := Tryd.sizeOf63
  v75 := Tryd.zeroValue63
  t76 := Tryd.underlying64
  a76 := Tryd.isAgg64
  z76 := Tryd.sizeOf64
  v76 := Tryd.zeroValue64
  t127 := Tryd.underlying70
  a127 := Tryd.isAgg70
  z127 := Tryd.sizeOf70
  v127 := Tryd.zeroValue70
  t164 := Tryd.underlying76
  a164 := Tryd.isAgg76
  z164 := Tryd.sizeOf76
  v164 := Tryd.zeroValue76 }
theorem Tryd.Builder_Extra_156 : Builder.Extra Tryd.prog Tryd.lays156_ren := {
  sizeBuilder := by kernel_rfl
  liesBuilder := by kernel_rfl
  t5 := Tryd.underlying5
  a5 := Tryd.isAgg5
  z5 := Tryd.sizeOf5
  v5 := Tryd.zeroValue5
  infoByte := by kernel_rfl
  cellsByte := by kernel_rfl
  sizeByte := by kernel_rfl
  neB5 := by decide }
open Go.RowKit in
theorem Tryd.strings_Join (bk o c : Nat) (xs : List ByteArray) (sep : ByteArray) (w : World) (hcells : ∀ (j : Nat) x, xs[j]? = some x → w.cell? ⟨bk, o + j, none⟩ = some (.string x)) (hbk : bk < w.heap.size) (hN : xs.length ≤ 140737488355328) (hcap : xs.length ≤ c) (hlen : (Lib.join (xs.map (·.data.toList)) sep.data.toList).length ≤ 140737488355328) :
    Calls Tryd.prog 36 #[.slice (some ⟨bk, o, none⟩) xs.length c, .string sep] w fun e w' => e = .returned (.string ⟨(Lib.join (xs.map (·.data.toList)) sep.data.toList).toArray⟩) ∧ Below w.heap.size w w' := Any.strings_Join Tryd.lays156 Tryd.Builder_Extra_156 bk o c xs sep w hcells hbk hN hcap hlen
def Tryd.lays217_ren : Go.Shelf.Ren := ⟨fun | 217 => 44 | 266 => 52 | n => n, fun | 9 => 9 | 5 => 5 | 3 => 3 | n => n, fun | n => n⟩
theorem Tryd.lays217 : Go.Proofs.Lays.n217 Tryd.prog Tryd.lays217_ren := {
  mixed := by kernel_rfl
  f217 := Tryd.func44.trans (congrArg some (by kernel_rfl))
  f266 := Tryd.func52.trans (congrArg some (by kernel_rfl))
  t3 := Tryd.underlying3
  a3 := Tryd.isAgg3
  z3 := Tryd.sizeOf3
  v3 := Tryd.zeroValue3
  t5 := Tryd.underlying5
  a5 := Tryd.isAgg5
  z5 := Tryd.sizeOf5
  v5 := Tryd.zeroValue5
  t9 := Tryd.underlying9
  a9 := Tryd.isAgg9
  z9 := Tryd.sizeOf9
  v9 := Tryd.zeroValue9 }
open Go.RowKit Go.Lib in
theorem Tryd.stringslite_IndexByte (s : ByteArray) (c : Int) (w : World) :
    Calls Tryd.prog 44 #[.string s, .int .u8 c] w fun e w' => e = .returned (.int .i64 (Lib.indexByte s.data.toList c.toNat.toUInt8)) ∧ w' = w := Any.stringslite_IndexByte Tryd.lays217 s c w
def Tryd.lays138_ren : Go.Shelf.Ren := ⟨fun | 138 => 54 | 195 => 60 | 218 => 62 | 143 => 55 | 219 => 63 | 217 => 44 | 225 => 67 | 224 => 68 | 267 => 69 | 266 => 52 | 314 => 70 | n => n, fun | 9 => 9 | 3 => 3 | 4 => 4 | 5 => 5 | 0 => 0 | 46 => 46 | 146 => 85 | 51 => 84 | n => n, fun | 1 => 0 | n => n⟩
theorem Tryd.lays138 : Go.Proofs.Lays.n138 Tryd.prog Tryd.lays138_ren := {
  mixed := by kernel_rfl
  f138 := Tryd.func54.trans (congrArg some (by kernel_rfl))
  f143 := Tryd.func55.trans (congrArg some (by kernel_rfl))
  f195 := Tryd.func60.trans (congrArg some (by kernel_rfl))
  f217 := Tryd.func44.trans (congrArg some (by kernel_rfl))
  f218 := Tryd.func62.trans (congrArg some (by kernel_rfl))
  f219 := Tryd.func63.trans (congrArg some (by kernel_rfl))
  f224 := Tryd.func68.trans (congrArg some (by kernel_rfl))
  f225 := Tryd.func67.trans (congrArg some (by kernel_rfl))
  f266 := Tryd.func52.trans (congrArg some (by kernel_rfl))
  f267 := Tryd.func69.trans (congrArg some (by kernel_rfl))
  f314 := Tryd.func70.trans (congrArg some (by kernel_rfl))
  t0 := Tryd.underlying0
  a0 := Tryd.isAgg0
  z0 := Tryd.sizeOf0
  v0 := Tryd.zeroValue0
  t3 := Tryd.underlying3
  a3 := Tryd.isAgg3
  z3 := Tryd.sizeOf3
  v3 := Tryd.zeroValue3
  t4 := Tryd.underlying4
  a4 := Tryd.isAgg4
  z4 := Tryd.sizeOf4
  v4 := Tryd.zeroValue4
  t5 := Tryd.underlying5
  a5 := Tryd.isAgg5
  z5 := Tryd.sizeOf5
  v5 := Tryd.zeroValue5
  t9 := Tryd.underlying9
  a9 := Tryd.isAgg9
  z9 := Tryd.sizeOf9
  v9 := Tryd.zeroValue9
  t46 := Tryd.underlying46
  a46 := Tryd.isAgg46
  z46 := Tryd.sizeOf46
  v46 := Tryd.zeroValue46
  t51 := Tryd.underlying84
  a51 := Tryd.isAgg84
  z51 := Tryd.sizeOf84
  v51 := Tryd.zeroValue84
  t146 := Tryd.underlying85
  a146 := Tryd.isAgg85
  z146 := Tryd.sizeOf85
  v146 := Tryd.zeroValue85
  g1 := by kernel_rfl }
open Go.RowKit Go.Lib in
theorem Tryd.strings_Count_one (s : ByteArray) (c : UInt8) (w : World) :
    Calls Tryd.prog 54 #[.string s, .string ⟨#[c]⟩] w fun e w' => e = .returned (.int .i64 (Lib.countByte s.data.toList c)) ∧ w' = w := Any.strings_Count_one Tryd.lays138 s c w
end Go.Proofs
end

section
/- Names: Go's library by its contracts (strings.Join looks at a slice in memory), the closed call, bytes. -/
set_option maxRecDepth 100000
set_option linter.unusedSimpArgs false
set_option linter.unusedVariables false
set_option maxHeartbeats 4000000
namespace Go.Proofs.YtfmjdlahabgkpaaDoor.Nm
open Go Go.Proofs.YtfmjdlahabgkpaaDoor.Am NaFns Go.RowKit

theorem enters {f : FuncId} {fn : Func} (h : Tryd.prog.funcs[f]? = some fn) (h1 : (fn.name == "runtime.NumGoroutine") = false) (h2 : fn.body.isNone = false) : Go.Proofs.YtfmjdlahabgkpaaDoor.Am.Enters Tryd.prog f := ⟨fn, h, h1, h2⟩

def gIndex : List AVal → Option AVal
  | [.str s, .int .u8 c] => some (.int .i64 (Lib.indexByte s c.toNat.toUInt8))
  | _ => none
theorem xIndex : Go.Proofs.YtfmjdlahabgkpaaDoor.Am.Enters Tryd.prog 44 ∧ ∀ args v, gIndex args = some v → plain v = true ∧ ∀ (m : Inj) (args' : List Value) (w : World), All2 (VRel m) args args' → Calls Tryd.prog 44 args'.toArray w fun e w' => ∃ v', e = .returned v' ∧ VRel m v v' ∧ Below w.heap.size w w' := by
  refine ⟨enters Tryd.func44 (by kernel_rfl) (by kernel_rfl), fun args v h => ?_⟩
  unfold gIndex at h
  split at h
  · rename_i s c
    injection h with h
    subst h
    refine ⟨rfl, fun m args' w ha => ?_⟩
    cases ha with
    | cons h1 ha =>
      cases ha with
      | cons h2 ha =>
        cases ha
        have e1 := vrel_str h1
        have e2 := vrel_int h2
        subst e1 e2
        refine (Tryd.stringslite_IndexByte ⟨s.toArray⟩ c w).mono fun e w' ⟨h3, h4⟩ => ⟨_, h3, .int _ _, ?_⟩
        rw [h4]
        exact Below.refl _ _
  · cases h

def gCount : List AVal → Option AVal
  | [.str s, .str [c]] => some (.int .i64 (Lib.countByte s c : Nat))
  | _ => none
theorem xCount : Go.Proofs.YtfmjdlahabgkpaaDoor.Am.Enters Tryd.prog 54 ∧ ∀ args v, gCount args = some v → plain v = true ∧ ∀ (m : Inj) (args' : List Value) (w : World), All2 (VRel m) args args' → Calls Tryd.prog 54 args'.toArray w fun e w' => ∃ v', e = .returned v' ∧ VRel m v v' ∧ Below w.heap.size w w' := by
  refine ⟨enters Tryd.func54 (by kernel_rfl) (by kernel_rfl), fun args v h => ?_⟩
  unfold gCount at h
  split at h
  · rename_i s c
    injection h with h
    subst h
    refine ⟨rfl, fun m args' w ha => ?_⟩
    cases ha with
    | cons h1 ha =>
      cases ha with
      | cons h2 ha =>
        cases ha
        have e1 := vrel_str h1
        have e2 := vrel_str h2
        subst e1 e2
        refine (Tryd.strings_Count_one ⟨s.toArray⟩ c w).mono fun e w' ⟨h3, h4⟩ => ⟨_, h3, .int _ _, ?_⟩
        rw [h4]
        exact Below.refl _ _
  · cases h

/-! ### strings.Join -/
def strsOf : List AVal → Option (List (List UInt8))
  | [] => some []
  | .str s :: l => (strsOf l).map (s :: ·)
  | _ => none
theorem strsOf_map (l : List (List UInt8)) : strsOf (l.map .str) = some l := by
  induction l with
  | nil => rfl
  | cons a l ih => simp [strsOf, ih]
theorem strsOf_is : ∀ (cs : List AVal) (l : List (List UInt8)), strsOf cs = some l → cs = l.map .str
  | [], l, h => by simp [strsOf] at h; subst h; rfl
  | .str s :: cs, l, h => by
    simp only [strsOf, Option.map_eq_some_iff] at h
    obtain ⟨k, hk, rfl⟩ := h
    rw [strsOf_is cs k hk]; rfl
  | .bool _ :: _, _, h | .int .. :: _, _, h | .flt .. :: _, _, h | .nilp :: _, _, h | .ptr .. :: _, _, h | .nils :: _, _, h | .slice .. :: _, _, h | .nilm :: _, _, h | .map _ :: _, _, h | .func .. :: _, _, h | .yield _ :: _, _, h | .nilFunc :: _, _, h | .iface .. :: _, _, h | .nilIface :: _, _, h | .agg _ :: _, _, h | .tuple _ :: _, _, h | .junk :: _, _, h | .any :: _, _, h => by simp [strsOf] at h

def strsAt (H : AHeap) : AVal → Option (List (List UInt8))
  | .nils => some []
  | .slice id off n cap g => (acells H 1 n (.slice id off n cap g)).bind strsOf
  | _ => none
def gJoin : List AVal → AHeap → Option (AVal × AHeap)
  | [s, .str sep], H => (strsAt H s).bind fun xs => if (Lib.join xs sep).length ≤ 140737488355328 ∧ xs.length ≤ 140737488355328 then some (.str (Lib.join xs sep), H) else none
  | _, _ => none
theorem cell_at {w : World} {b o : Nat} {c : Array Value} {e : TypeId} {fz : Nat × Nat} {v : Value} (h : w.heap[b]? = some (.cells c e fz)) (hc : c[o]? = some v) : w.cell? ⟨b, o, none⟩ = some v := by
  simp [World.cell?, h, hc]
theorem gJoin_is {args : List AVal} {H H1 : AHeap} {v : AVal} (h : gJoin args H = some (v, H1)) : ∃ s sep xs, args = [s, .str sep] ∧ strsAt H s = some xs ∧ ((Lib.join xs sep).length ≤ 140737488355328 ∧ xs.length ≤ 140737488355328) ∧ v = .str (Lib.join xs sep) ∧ H1 = H := by
  unfold gJoin at h
  split at h
  · rename_i H' s sep
    rw [Option.bind_eq_some_iff] at h
    obtain ⟨xs, hx, h⟩ := h
    split at h
    · rename_i hlen
      simp only [Option.some.injEq, Prod.mk.injEq] at h
      exact ⟨s, sep, xs, rfl, hx, hlen, h.1.symm, h.2.symm⟩
    · cases h
  · cases h
theorem join_calls {w0 w : World} {B : Nat → Bool} {m : Inj} {H : AHeap} (hS : SRel w0 B m H w) {s : AVal} {s' : Value} (hs' : VRel m s s') {xs : List (List UInt8)} {sep : List UInt8} (hx : strsAt H s = some xs) (hlen : (Lib.join xs sep).length ≤ 140737488355328 ∧ xs.length ≤ 140737488355328) :
    Calls Tryd.prog 36 [s', .string ⟨sep.toArray⟩].toArray w fun e w' => e = .returned (.string ⟨(Lib.join xs sep).toArray⟩) ∧ Below w.heap.size w w' := by
  cases hs' with
  | nils =>
    simp only [strsAt, Option.some.injEq] at hx
    subst hx
    exact (Any.strings_Join_none Tryd.lays156 Tryd.Builder_Extra_156 none 0 ⟨sep.toArray⟩ w).mono fun e w' ⟨h3, h4⟩ => ⟨h3, h4 ▸ Below.refl _ _⟩
  | slice id off n cap g a' c' hid hlc hcc hgc hge ho =>
    simp only [strsAt, Option.bind_eq_some_iff] at hx
    obtain ⟨cs, hcs, hxs⟩ := hx
    have e := strsOf_is _ _ hxs
    have hn : cs.length = n * 1 := acells_length hcs (.inr ⟨_, _, _, _, _, rfl⟩)
    rw [e, List.length_map, Nat.mul_one] at hn
    rcases Nat.eq_zero_or_pos n with h0 | h0
    · subst h0
      have hn' : xs = [] := List.eq_nil_of_length_eq_zero hn
      subst hn'
      exact (Any.strings_Join_none Tryd.lays156 Tryd.Builder_Extra_156 (some a') c' ⟨sep.toArray⟩ w).mono fun e w' ⟨h3, h4⟩ => ⟨h3, h4 ▸ Below.refl _ _⟩
    · have ho : a' = ⟨(m.loc id).block, (m.loc id).off + off, none⟩ := by
        rcases ho with h | ⟨h, _⟩
        · exact h
        · omega
      subst ho
      simp only [acells, Nat.mul_one] at hcs
      rw [if_neg (by omega)] at hcs
      split at hcs
      · rename_i l own hobj
        split at hcs
        · rename_i hb
          simp only [Option.some.injEq] at hcs
          obtain ⟨hm, c, ty, fz, hheap, hcell, _⟩ := hS.obj id _ hobj
          have hsz : (m.loc id).block < w.heap.size := (Array.getElem?_eq_some_iff.1 hheap).1
          have := Any.strings_Join Tryd.lays156 Tryd.Builder_Extra_156 (m.loc id).block ((m.loc id).off + off) c' (xs.map fun s => ⟨s.toArray⟩) ⟨sep.toArray⟩ w (fun j x hj => by
            rw [List.getElem?_map, Option.map_eq_some_iff] at hj
            obtain ⟨y, hy, rfl⟩ := hj
            have hjn : j < n := by have := (List.getElem?_eq_some_iff.1 hy).1; omega
            have h5 : l[off + j]? = some (.str y) := by
              have h6 : cs[j]? = some (.str y) := by rw [e, List.getElem?_map, hy]; rfl
              rw [← hcs, List.getElem?_take, if_pos hjn, List.getElem?_drop] at h6
              exact h6
            obtain ⟨v, hv, hr, _⟩ := hcell _ _ h5
            have := vrel_str hr
            subst this
            rw [← Nat.add_assoc] at hv
            exact cell_at hheap hv) hsz (by rw [List.length_map]; exact hlen.2) (by rw [List.length_map]; omega) (by
              rw [List.map_map]
              have : (xs.map ((fun x : ByteArray => x.data.toList) ∘ fun s => ⟨s.toArray⟩)) = xs := by
                have : ((fun x : ByteArray => x.data.toList) ∘ fun s : List UInt8 => ⟨s.toArray⟩) = _root_.id := by funext s; rfl
                rw [this, List.map_id]
              rw [this]
              exact hlen.1)
          rw [List.length_map, hn, List.map_map] at this
          have e3 : (xs.map ((fun x : ByteArray => x.data.toList) ∘ fun s => ⟨s.toArray⟩)) = xs := by
            have : ((fun x : ByteArray => x.data.toList) ∘ fun s : List UInt8 => ⟨s.toArray⟩) = _root_.id := by funext s; rfl
            rw [this, List.map_id]
          rw [e3] at this
          exact this
        · cases hcs
      · cases hcs
  | _ => simp [strsAt] at hx
theorem join_ok (w0 : World) (B : Nat → Bool) : CallSound Tryd.prog w0 B (fun f' args H => if f' = 36 then gJoin args H else none) := by
  intro f' args H v H1 hg
  by_cases hf : f' = 36
  · subst hf
    simp only [if_true] at hg
    obtain ⟨s, sep, xs, rfl, hx, hlen, rfl, rfl⟩ := gJoin_is hg
    refine ⟨enters Tryd.func36 (by kernel_rfl) (by kernel_rfl), Up.refl _, fun m w args' _ hS hargs => ?_⟩
    cases hargs with
    | cons h1 ha =>
      cases ha with
      | cons h2 ha =>
        cases ha
        have e2 := vrel_str h2
        subst e2
        exact (join_calls hS h1 hx hlen).mono fun e w' ⟨h3, h4⟩ => ⟨_, m, h3, m.le_refl, hS.stays h4, .str _⟩
  · simp [hf] at hg

/-! ### The program -/
def mode : FuncId → Nat
  | 6 => 1
  | 7 => 1
  | 8 => 1
  | 9 => 1
  | 10 => 1
  | 11 => 1
  | 12 => 2
  | 13 => 2
  | 14 => 2
  | 15 => 2
  | 16 => 2
  | 17 => 1
  | 18 => 1
  | 19 => 1
  | 20 => 1
  | 21 => 1
  | 22 => 1
  | 23 => 1
  | 24 => 1
  | 25 => 1
  | 26 => 1
  | 27 => 1
  | 28 => 1
  | 29 => 1
  | 30 => 1
  | 31 => 1
  | 32 => 1
  | 33 => 1
  | 34 => 1
  | 35 => 2
  | 37 => 1
  | 38 => 1
  | 39 => 1
  | 40 => 1
  | 41 => 1
  | 42 => 1
  | 43 => 1
  | 45 => 2
  | 51 => 1
  | 55 => 1
  | 59 => 1
  | 63 => 1
  | _ => 0
def lib (f : FuncId) : Option (List AVal → AHeap → Option (AVal × AHeap)) :=
  if f = 44 then some (extOf gIndex) else if f = 54 then some (extOf gCount) else if f = 36 then some gJoin else none
def A : AProg := ⟨NaFns.fn, lib, mode⟩
theorem A_sound (w0 : World) (B : Nat → Bool) : Sound Tryd.prog w0 B A := by
  refine ⟨Tryd.checked.mixed, NaFns.fn_is, fun f g h => ?_⟩
  change lib f = some g at h
  unfold lib at h
  split at h
  · rename_i hf; subst hf; injection h with h; subst h; exact lib_sound (xIndex).1 (xIndex).2 w0 B
  split at h
  · rename_i hf; subst hf; injection h with h; subst h; exact lib_sound (xCount).1 (xCount).2 w0 B
  split at h
  · rename_i hf; subst hf; injection h with h; subst h; exact join_ok w0 B
  cases h

theorem U36 {H : AHeap} {s : AVal} {xs : List (List UInt8)} (h : Sl H 1 s (xs.map .str)) (sep : List UInt8) (h1 : (Lib.join xs sep).length ≤ 140737488355328) (h2 : xs.length ≤ 140737488355328) : AC A 36 [s, .str sep] H = some (.str (Lib.join xs sep), H) := by
  rw [AC_ext (A := A) (f := 36) (g := gJoin) rfl]
  have e : strsAt H s = some xs := by
    obtain ⟨_, hc⟩ := h.cells
    rcases sl_shape' h with rfl | ⟨a, b, n, c, g, rfl⟩
    · have hl := h.length
      simp [slen] at hl
      subst hl; rfl
    · show (acells H 1 n (.slice a b n c g)).bind strsOf = _
      have : slen (.slice a b n c g) = n := rfl
      rw [this] at hc
      rw [hc]; exact strsOf_map xs
  simp only [gJoin, e, Option.bind_some]
  rw [if_pos ⟨h1, h2⟩]
theorem U44 (s : List UInt8) (c : UInt8) (H : AHeap) : AC A 44 [.str s, .int .u8 (c.toNat : Int)] H = some (.int .i64 (Lib.indexByte s c), H) := AC_ext_of rfl (by
  show some (AVal.int .i64 (Lib.indexByte s ((c.toNat : Int).toNat.toUInt8))) = _
  simp) H
theorem U54 (s : List UInt8) (c : UInt8) (H : AHeap) : AC A 54 [.str s, .str [c]] H = some (.int .i64 ((s.count c : Nat) : Int), H) := AC_ext_of rfl rfl H

end Go.Proofs.YtfmjdlahabgkpaaDoor.Nm
end

section
/- Names: the closed call; functions of a byte; all bytes of a text. -/
set_option maxRecDepth 100000
set_option linter.unusedSimpArgs false
set_option linter.unusedVariables false
set_option maxHeartbeats 4000000
namespace Go.Proofs.YtfmjdlahabgkpaaDoor.Nm
open Go Go.Proofs.YtfmjdlahabgkpaaDoor.Am NaFns Go.RowKit



def digc (c : UInt8) : Bool := 48 ≤ c && c ≤ 57
def lowc (c : UInt8) : Bool := 97 ≤ c && c ≤ 122
def upc (c : UInt8) : Bool := 65 ≤ c && c ≤ 90
def plainc (c : UInt8) : Bool := digc c || lowc c || upc c || c == 45 || c == 95 || c == 46
def valc (c : UInt8) : UInt8 := if digc c then c - 48 else if 65 ≤ c && c ≤ 70 then c - 65 + 10 else 0

theorem U33_t : ((List.range 256).all fun n => tst ((arun (acall A 20) A.fn 20 (some NaFns.c33) [.int .u8 (n : Int)] noH).map (·.1)) (.bool (plainc (UInt8.ofNat n)))) = true := by kernel_rfl
theorem U33 (c : UInt8) (H : AHeap) : AC A 33 [by8 c] H = some (.bool (plainc c), H) := one_closed (k := 20) (x := NaFns.c33) rfl rfl rfl rfl rfl (by
  have := by_table (o := fun n => (arun (acall A 20) A.fn 20 (some NaFns.c33) [.int .u8 (n : Int)] noH).map (·.1)) (g := fun n => .bool (plainc (UInt8.ofNat n))) U33_t c
  simp only [u8_toNat] at this
  exact this) H
theorem U38_t : ((List.range 256).all fun n => tst ((arun (acall A 20) A.fn 20 (some NaFns.c38) [.int .u8 (n : Int)] noH).map (·.1)) (.bool (digc (UInt8.ofNat n)))) = true := by kernel_rfl
theorem U38 (c : UInt8) (H : AHeap) : AC A 38 [by8 c] H = some (.bool (digc c), H) := one_closed (k := 20) (x := NaFns.c38) rfl rfl rfl rfl rfl (by
  have := by_table (o := fun n => (arun (acall A 20) A.fn 20 (some NaFns.c38) [.int .u8 (n : Int)] noH).map (·.1)) (g := fun n => .bool (digc (UInt8.ofNat n))) U38_t c
  simp only [u8_toNat] at this
  exact this) H
/-! ### All bytes -/
theorem U50 {H : AHeap} {b : Nat} {o : Bool} {p : FuncId} {P : UInt8 → Bool} (ob : H.obj b = some (.cells [.func p [] []] o)) (hp : ∀ c H, AC A p [by8 c] H = some (.bool (P c), H)) (c : UInt8) :
    AC A 50 [by8 c, .ptr b 0] H = some (.bool (!P c), H) := by
  rw [s_fn (A := A) (f := 50) (x := NaFns.c50) rfl rfl rfl]
  have := hp c
  unfold by8 at this ⊢
  simp only [c50, ob, this, rwA, rwB, Nat.reduceAdd, Nat.reduceMul, Nat.reduceLeDiff, Int.reduceEq, Int.reduceLT, Int.reduceLE, Int.reduceAdd, Int.reduceSub, Int.reduceMul, ↓reduceIte, Nat.reduceEqDiff, reduceCtorEq, ↓cnd_true, ↓cnd_false]
def b58 : ACode := (.seq (.region [⟨(some 9), (.bin .lss (.tmp 8) (.tmp 7)), none, none⟩]) (.seq (.cond (.tmp 9) .skip (.exit 0)) (.seq (.block 1 (.seq (.region [⟨(some 10), (.mv (.tmp 8)), none, none⟩, ⟨(some 5), (.mv (.tmp 10)), none, none⟩]) (.seq (.region [⟨(some 11), (.mv (.tmp 1)), none, none⟩, ⟨(some 12), (.mv (.tmp 0)), none, none⟩, ⟨(some 13), (.mv (.tmp 5)), none, none⟩, ⟨(some 14), (.idxASl 1 (.tmp 12) (.tmp 13)), none, none⟩, ⟨(some 15), (.load false 1 (.tmp 14)), none, none⟩, ⟨(some 16), (.call (.tmp 11) [(.tmp 15)]), none, none⟩]) (.cond (.tmp 16) (.seq (.region [⟨(some 17), (.mv (.tmp 5)), none, none⟩, ⟨(some 4), (.mv (.tmp 17)), none, none⟩]) .ret) .skip)))) (.region [⟨(some 18), (.bin .add (.tmp 8) (.con (.int .i64 1))), none, none⟩, ⟨(some 8), (.mv (.tmp 18)), none, none⟩]))))
theorem loop58 {H : AHeap} {v : AVal} {b : Nat} {o : Bool} {p : FuncId} {P : UInt8 → Bool} {s : List UInt8} (hs : Sl H 1 v (s.map by8)) (ob : H.obj b = some (.cells [.func p [] []] o)) (hp : ∀ c H, AC A p [by8 c] H = some (.bool (P c), H)) (hn : s.length < 4611686018427387904) {env : Env}
    (h0 : env 0 = v) (h1 : env 1 = .func 50 [] [.ptr b 0]) (h7 : env 7 = .int .i64 (s.length : Int)) (h8 : env 8 = .int .i64 0) :
    Outs (AX A (.loop b58) env H) fun e env' K => K = H ∧ ((e = .exit 0 ∧ s.all P = true) ∨ (e = .ret ∧ s.all P = false ∧ ∃ i : Nat, env' 4 = .int .i64 (i : Int))) := by
  refine loop_ends (I := fun (i : Nat) env' K => K = H ∧ i ≤ s.length ∧ env' 0 = v ∧ env' 1 = .func 50 [] [.ptr b 0] ∧ env' 7 = .int .i64 (s.length : Int) ∧ env' 8 = .int .i64 (i : Int) ∧ (s.take i).all P = true) (fun i => s.length - i) ?_ 0 env H
    ⟨rfl, Nat.zero_le _, h0, h1, h7, h8, rfl⟩
  rintro i env1 K ⟨rfl, hi, h0, h1, h7, h8, hP⟩
  by_cases c : i < s.length
  · have c1 : decide ((i : Int) < (s.length : Int)) = true := by simp; omega
    have w1 : IntKind.i64.wrap ((i : Int) + 1) = ((i + 1 : Nat) : Int) := by rw [wrap_i64]; omega
    obtain ⟨id, off, cap, g, k, own, rfl, ho, _, a1⟩ := hs.elem1 c
    have ha : aidx s.length (.int .i64 (i : Int)) = some i := by simp [aidx]; omega
    have u50 := U50 ob hp s[i]
    have ht : (s.take (i + 1)).all P = P s[i] := by
      rw [List.take_add_one, List.getElem?_eq_getElem c, List.all_append, hP]; simp
    unfold by8 at a1 u50
    cases hc : P s[i] <;> rw [hc] at u50 ht
    · simp only [b58, h0, h1, h7, h8, c1, ha, ho, a1, u50, List.nil_append, Bool.not_false, rwA, rwB, Nat.reduceAdd, Nat.reduceMul, Nat.reduceLeDiff, Int.reduceEq, Int.reduceLT, Int.reduceLE, Int.reduceAdd, Int.reduceSub, Int.reduceMul, ↓reduceIte, Nat.reduceEqDiff, reduceCtorEq, ↓cnd_true, ↓cnd_false]
      rw [outs_some]
      refine .inr ⟨by simp, rfl, .inr ⟨rfl, ?_, i, by simp [Env.set]⟩⟩
      rw [Bool.eq_false_iff]
      intro hall
      have := List.all_eq_true.1 hall s[i] (List.getElem_mem c)
      rw [hc] at this; cases this
    · simp only [b58, h0, h1, h7, h8, c1, ha, ho, a1, u50, w1, List.nil_append, Bool.not_true, rwA, rwB, Nat.reduceAdd, Nat.reduceMul, Nat.reduceLeDiff, Int.reduceEq, Int.reduceLT, Int.reduceLE, Int.reduceAdd, Int.reduceSub, Int.reduceMul, ↓reduceIte, Nat.reduceEqDiff, reduceCtorEq, ↓cnd_true, ↓cnd_false]
      rw [outs_some]
      exact .inl ⟨rfl, i + 1, by omega, rfl, by omega, by simp [Env.set, h0], by simp [Env.set, h1], by simp [Env.set, h7], by simp [Env.set], ht⟩
  · have e : i = s.length := by omega
    subst e
    have c1 : decide ((s.length : Int) < (s.length : Int)) = false := by simp
    simp only [b58, h7, h8, c1, rwA, rwB, Nat.reduceAdd, Nat.reduceMul, Nat.reduceLeDiff, Int.reduceEq, Int.reduceLT, Int.reduceLE, Int.reduceAdd, Int.reduceSub, Int.reduceMul, ↓reduceIte, Nat.reduceEqDiff, reduceCtorEq, ↓cnd_true, ↓cnd_false]
    rw [outs_some]
    rw [List.take_length] at hP
    exact .inr ⟨by simp, rfl, .inl ⟨rfl, hP⟩⟩
theorem U58 {H : AHeap} {v : AVal} {b : Nat} {o : Bool} {p : FuncId} {P : UInt8 → Bool} {s : List UInt8} (hs : Sl H 1 v (s.map by8)) (ob : H.obj b = some (.cells [.func p [] []] o)) (hp : ∀ c H, AC A p [by8 c] H = some (.bool (P c), H)) (hn : s.length < 4611686018427387904) :
    ∃ i : Int, AC A 58 [v, .func 50 [] [.ptr b 0]] H = some (.int .i64 i, H) ∧ decide (0 ≤ i) = !s.all P := by
  have key : Rets (AC A 58 [v, .func 50 [] [.ptr b 0]] H) fun u K => K = H ∧ ∃ i : Int, u = .int .i64 i ∧ decide (0 ≤ i) = !s.all P := by
    rw [s_fn (A := A) (f := 58) (x := NaFns.c58) rfl rfl rfl]
    have l0 := hs.len1
    rw [List.length_map] at l0
    simp only [c58, l0, rwA, rwB, Nat.reduceAdd, Nat.reduceMul, Nat.reduceLeDiff, Int.reduceEq, Int.reduceLT, Int.reduceLE, Int.reduceAdd, Int.reduceSub, Int.reduceMul, ↓reduceIte, Nat.reduceEqDiff, reduceCtorEq, ↓cnd_true, ↓cnd_false]
    repeat (first | refine outs_seq ?_ | refine outs_block ?_ | refine outs_step ?_ | refine outs_stepD ?_ | refine rets_end ?_ | refine ans_end ?_)
    refine (loop58 hs ob hp hn ?_ ?_ ?_ ?_).mono ?_
    · simp [Env.set, ainit]
    · simp [Env.set, ainit]
    · simp [Env.set]
    · simp [Env.set]
    rintro e env K ⟨rfl, (⟨rfl, h⟩ | ⟨rfl, h, i, hi⟩)⟩
    · simp only [outs_some, rwA, rwB, Nat.reduceAdd, Nat.reduceMul, Nat.reduceLeDiff, Int.reduceEq, Int.reduceLT, Int.reduceLE, Int.reduceAdd, Int.reduceSub, Int.reduceMul, ↓reduceIte, Nat.reduceEqDiff, reduceCtorEq, ↓cnd_true, ↓cnd_false]
      rw [rets_some]
      exact ⟨rfl, -1, rfl, by rw [h]; rfl⟩
    · simp only [outs_some, hi, rwA, rwB, Nat.reduceAdd, Nat.reduceMul, Nat.reduceLeDiff, Int.reduceEq, Int.reduceLT, Int.reduceLE, Int.reduceAdd, Int.reduceSub, Int.reduceMul, ↓reduceIte, Nat.reduceEqDiff, reduceCtorEq, ↓cnd_true, ↓cnd_false]
      rw [rets_some]
      exact ⟨rfl, i, rfl, by rw [h]; simp⟩
  obtain ⟨u, K, e, rfl, i, rfl, h⟩ := key
  exact ⟨i, e, h⟩
theorem U37 {p : FuncId} {P : UInt8 → Bool} (hp : ∀ c H, AC A p [by8 c] H = some (.bool (P c), H)) {s : List UInt8} (hn : s.length < 4611686018427387904) (H : AHeap) :
    AC A 37 [.str s, .func p [] []] H = some (.bool (s.all P), H) := by
  refine one_val (x := NaFns.c37) rfl rfl rfl rfl rfl ?_ H
  obtain ⟨K1, eK1⟩ : ∃ K, noH.new (.cells [.func p [] []] true) = K := ⟨_, rfl⟩
  have n1 : K1.next = 1 := by rw [← eK1]; rfl
  obtain ⟨K2, eK2⟩ : ∃ K, K1.new (.cells (s.map by8) true) = K := ⟨_, rfl⟩
  have o2 : K2.obj 1 = some (.cells (s.map by8) true) := by rw [← eK2, new_obj, if_pos n1.symm]
  have o1 : K2.obj 0 = some (.cells [.func p [] []] true) := by rw [← eK2, new_obj, if_neg (by omega), ← eK1]; rfl
  have hs : Sl K2 1 (.slice 1 0 s.length s.length (some 1)) (s.map by8) := .inr ⟨1, 0, s.length, s.length, some 1, rfl, by simp, .inr ⟨_, _, o2, by simp, by simp [List.take_of_length_le]⟩⟩
  have cf : (AVal.func p [] []).cells = [.func p [] []] := hid rfl
  have tf : AVal.tup (.func p [] []) = false := hid rfl
  obtain ⟨i, e58, hi⟩ := U58 hs o1 hp hn
  have u49 : AC A 49 [.slice 1 0 s.length s.length (some 1), .func 50 [] [.ptr 0 0]] K2 = some (.bool (!s.all P), K2) := by
    rw [s_fn (A := A) (f := 49) (x := NaFns.c49) rfl rfl rfl]
    simp only [c49, e58, hi, rwA, rwB, Nat.reduceAdd, Nat.reduceMul, Nat.reduceLeDiff, Int.reduceEq, Int.reduceLT, Int.reduceLE, Int.reduceAdd, Int.reduceSub, Int.reduceMul, ↓reduceIte, Nat.reduceEqDiff, reduceCtorEq, ↓cnd_true, ↓cnd_false]
  have eK2' : K1.new (.cells (s.map fun b => .int .u8 (b.toNat : Int)) true) = K2 := eK2
  simp only [c37, cf, tf, eK1, n1, eK2', u49, Bool.not_not, noH_next, rwA, rwB, Nat.reduceAdd, Nat.reduceMul, Nat.reduceLeDiff, Int.reduceEq, Int.reduceLT, Int.reduceLE, Int.reduceAdd, Int.reduceSub, Int.reduceMul, ↓reduceIte, Nat.reduceEqDiff, reduceCtorEq, ↓cnd_true, ↓cnd_false]

end Go.Proofs.YtfmjdlahabgkpaaDoor.Nm
end

section
/- Names: what may be a bucket, a key, a prefix: the program's and the reference's. -/
set_option maxRecDepth 100000
set_option linter.unusedSimpArgs false
set_option linter.unusedVariables false
set_option maxHeartbeats 4000000
namespace Go.Proofs.YtfmjdlahabgkpaaDoor.Nm
open Go Go.Proofs.YtfmjdlahabgkpaaDoor.Am NaFns Go.RowKit

abbrev ic (c : UInt8) : Int := (c.toNat : Int)
theorem digc_is (c : UInt8) : digc c = (decide (48 ≤ ic c) && decide (ic c ≤ 57)) := by
  unfold digc ic; rw [Bool.eq_iff_iff]; simp [UInt8.le_iff_toNat_le]; omega
theorem eqc_is (c d : UInt8) : (c == d) = decide (ic c = ic d) := by8_eq.symm

end Go.Proofs.YtfmjdlahabgkpaaDoor.Nm
end

section
/- Names: words: the plain law, and the walks of Word and Unword. -/
set_option maxRecDepth 100000
set_option linter.unusedSimpArgs false
set_option linter.unusedVariables false
set_option maxHeartbeats 4000000
namespace Go.Proofs.YtfmjdlahabgkpaaDoor.Nm
open Go Go.Proofs.YtfmjdlahabgkpaaDoor.Am NaFns Go.RowKit

def hx : List UInt8 := [48, 49, 50, 51, 52, 53, 54, 55, 56, 57, 65, 66, 67, 68, 69, 70]
def hexc (n : Nat) : UInt8 := hx.getD n 0
def wordc (c : UInt8) : List UInt8 := if plainc c then [c] else [37, hexc (c.toNat / 16), hexc (c.toNat % 16)]
def word (s : List UInt8) : List UInt8 := if s = [] then [37] else s.flatMap wordc
def dec (f : UInt8 → UInt8 → UInt8) : List UInt8 → List UInt8
  | c :: h :: l :: r => if c = 37 then f h l :: dec f r else c :: dec f (h :: l :: r)
  | [c, h] => [c, h]
  | [c] => [c]
  | [] => []
termination_by s => s.length
theorem dec_skip {f : UInt8 → UInt8 → UInt8} {c : UInt8} {r : List UInt8} (h : c ≠ 37 ∨ r.length < 2) : dec f (c :: r) = c :: dec f r := by
  match r, h with
  | [], _ => rw [dec, dec]
  | [a], _ => rw [dec, dec]
  | a :: b :: r, h =>
    have : c ≠ 37 := by rcases h with h | h; exact h; simp at h; omega
    rw [dec, if_neg this]
theorem dec_hex {f : UInt8 → UInt8 → UInt8} {h l : UInt8} {r : List UInt8} : dec f (37 :: h :: l :: r) = f h l :: dec f r := by rw [dec, if_pos rfl]
theorem dec_words {f : UInt8 → UInt8 → UInt8} (hf : ∀ c : UInt8, plainc c = false → f (hexc (c.toNat / 16)) (hexc (c.toNat % 16)) = c) : ∀ s : List UInt8, dec f (s.flatMap wordc) = s
  | [] => by rw [List.flatMap_nil, dec]
  | c :: s => by
    rw [List.flatMap_cons]
    unfold wordc
    cases h : plainc c
    · simp only [Bool.false_eq_true, if_false, List.cons_append, List.nil_append]
      rw [dec_hex, hf c h]
      have := dec_words hf s
      unfold wordc at this
      rw [this]
    · simp only [if_true, List.cons_append, List.nil_append]
      have hc : c ≠ 37 := by rintro rfl; revert h; decide
      rw [dec_skip (.inl hc)]
      have := dec_words hf s
      unfold wordc at this
      rw [this]
theorem words_ne {s : List UInt8} (h : s ≠ []) : s.flatMap wordc ≠ [37] ∧ s.flatMap wordc ≠ [] := by
  match s, h with
  | c :: s, _ =>
    rw [List.flatMap_cons]
    unfold wordc
    cases h : plainc c
    · simp
    · have hc : c ≠ 37 := by rintro rfl; revert h; decide
      simp [hc]
theorem words_len (s : List UInt8) : (s.flatMap wordc).length ≤ 3 * s.length := by
  induction s with
  | nil => simp
  | cons c s ih =>
    rw [List.flatMap_cons, List.length_append, List.length_cons]
    have : (wordc c).length ≤ 3 := by unfold wordc; split <;> simp
    omega
theorem word_len (s : List UInt8) : (word s).length ≤ 3 * s.length + 1 := by
  unfold word; split
  · simp
  · have := words_len s; omega

def orv (a b : Int) : Int := match abin .or (.int .i64 a) (.int .i64 b) with
  | some (.int _ x) => x
  | _ => 0
def d1 (h l : UInt8) : UInt8 := UInt8.ofNat (IntKind.u8.wrap (orv (IntKind.i64.wrap (Lib.indexByte hx h * 16)) (Lib.indexByte hx l))).toNat
def d2 (h l : UInt8) : UInt8 := 16 * valc h + valc l
theorem d1_t : ((List.range 256).all fun n => d1 (hexc ((UInt8.ofNat n).toNat / 16)) (hexc ((UInt8.ofNat n).toNat % 16)) == UInt8.ofNat n) = true := by kernel_rfl
theorem d1_is (c : UInt8) : d1 (hexc (c.toNat / 16)) (hexc (c.toNat % 16)) = c := by
  have := all256 d1_t c
  simp only [u8_toNat] at this
  exact beq_iff_eq.1 this
theorem ix_t : ((List.range 256).all fun n => decide (-1 ≤ Lib.indexByte hx (UInt8.ofNat n)) && decide (Lib.indexByte hx (UInt8.ofNat n) ≤ 15)) = true := by kernel_rfl
theorem ix_rng (c : UInt8) : -1 ≤ Lib.indexByte hx c ∧ Lib.indexByte hx c ≤ 15 := by
  have := all256 ix_t c
  simp only [u8_toNat] at this
  simpa using this
theorem or_t : ((List.range 17).all fun i => (List.range 17).all fun j => tst (abin .or (.int .i64 (IntKind.i64.wrap (((i : Int) - 1) * 16))) (.int .i64 ((j : Int) - 1))) (.int .i64 (orv (IntKind.i64.wrap (((i : Int) - 1) * 16)) ((j : Int) - 1)))) = true := by kernel_rfl
theorem or_is {a b : Int} (h : -1 ≤ a ∧ a ≤ 15) (k : -1 ≤ b ∧ b ≤ 15) : abin .or (.int .i64 (IntKind.i64.wrap (a * 16))) (.int .i64 b) = some (.int .i64 (orv (IntKind.i64.wrap (a * 16)) b)) := by
  have h1 := List.all_eq_true.1 (List.all_eq_true.1 or_t (a + 1).toNat (List.mem_range.2 (by omega))) (b + 1).toNat (List.mem_range.2 (by omega))
  have e1 : (((a + 1).toNat : Nat) : Int) - 1 = a := by omega
  have e2 : (((b + 1).toNat : Nat) : Int) - 1 = b := by omega
  rw [e1, e2] at h1
  exact tst_eq h1

/-! ### Word -/
theorem shr4_t : ((List.range 256).all fun n => tst (abin .shr (.int .u8 (n : Int)) (.int .u64 4)) (.int .u8 ((n / 16 : Nat) : Int))) = true := by kernel_rfl
theorem shr4 (c : UInt8) : abin .shr (.int .u8 (c.toNat : Int)) (.int .u64 4) = some (.int .u8 ((c.toNat / 16 : Nat) : Int)) := tst_eq (all256 shr4_t c)
theorem and15_t : ((List.range 256).all fun n => tst (abin .and (.int .u8 (n : Int)) (.int .u8 15)) (.int .u8 ((n % 16 : Nat) : Int))) = true := by kernel_rfl
theorem and15 (c : UInt8) : abin .and (.int .u8 (c.toNat : Int)) (.int .u8 15) = some (.int .u8 ((c.toNat % 16 : Nat) : Int)) := tst_eq (all256 and15_t c)
theorem hx_at {n : Nat} (h : n < 16) : ((aidx 16 (.int .u8 (n : Int))).bind fun i => (hx[i]?).map fun b => AVal.int .u8 (b.toNat : Int)) = some (by8 (hexc n)) := by
  have := idx_str (k := .u8) hx (i := n) (by simpa [hx] using h)
  have e : hx[n]'(by simpa [hx] using h) = hexc n := by unfold hexc; rw [List.getD_eq_getElem?_getD, List.getElem?_eq_getElem (by simpa [hx] using h)]; rfl
  rw [e] at this
  exact this
def b10 : ACode := (.seq (.region [⟨(some 12), (.bin .lss (.tmp 11) (.tmp 10)), none, none⟩]) (.seq (.cond (.tmp 12) .skip (.exit 0)) (.seq (.block 1 (.seq (.region [⟨(some 13), (.idxASl 1 (.tmp 9) (.tmp 11)), none, none⟩, ⟨(some 14), (.load false 1 (.tmp 13)), none, none⟩, ⟨(some 5), (.mv (.tmp 14)), none, none⟩]) (.seq (.seq (.region [⟨(some 15), (.mv (.tmp 5)), none, none⟩, ⟨(some 16), (.call (.con (.func 33 [] [])) [(.tmp 15)]), none, none⟩]) (.cond (.tmp 16) (.seq (.region [⟨(some 17), (.mv (.tmp 3)), none, none⟩, ⟨(some 18), (.mv (.tmp 5)), none, none⟩, ⟨(some 19), (.buildS 1 [(.int .u8 0)] [(0, (1, (.tmp 18)))]), none, none⟩, ⟨(some 20), (.append 1 1 (.tmp 17) (.tmp 19)), none, none⟩, ⟨(some 3), (.mv (.tmp 20)), none, none⟩]) (.exit 1)) .skip)) (.draw [⟨(some 21), (.mv (.tmp 3)), none, none⟩, ⟨(some 22), (.mv (.tmp 5)), none, none⟩, ⟨(some 23), (.bin .shr (.tmp 22) (.con (.int .u64 4))), none, none⟩, ⟨(some 24), (.idxStr (.con (.str [48, 49, 50, 51, 52, 53, 54, 55, 56, 57, 65, 66, 67, 68, 69, 70])) (.tmp 23)), none, none⟩, ⟨(some 25), (.mv (.tmp 5)), none, none⟩, ⟨(some 26), (.bin .and (.tmp 25) (.con (.int .u8 15))), none, none⟩, ⟨(some 27), (.idxStr (.con (.str [48, 49, 50, 51, 52, 53, 54, 55, 56, 57, 65, 66, 67, 68, 69, 70])) (.tmp 26)), none, none⟩, ⟨(some 28), (.buildS 3 [(.int .u8 0), (.int .u8 0), (.int .u8 0)] [(0, (1, (.con (.int .u8 37)))), (1, (1, (.tmp 24))), (2, (1, (.tmp 27)))]), none, none⟩, ⟨(some 29), (.append 1 1 (.tmp 21) (.tmp 28)), none, none⟩, ⟨(some 3), (.mv (.tmp 29)), none, none⟩])))) (.region [⟨(some 30), (.bin .add (.tmp 11) (.con (.int .i64 1))), none, none⟩, ⟨(some 11), (.mv (.tmp 30)), none, none⟩]))))
theorem loop10 {s : List UInt8} (hn : s.length ≤ 1000000) {H : AHeap} {q : Nat} {o : Bool} (hq : H.obj q = some (.cells (s.map by8) o)) (hqn : q < H.next) {env : Env} {g : Option Nat} (h3 : env 3 = .nils) (h9 : env 9 = .slice q 0 s.length s.length g) (h10 : env 10 = .int .i64 (s.length : Int)) (h11 : env 11 = .int .i64 0) :
    Outs (AX A (.loop b10) env H) fun e env' K => e = .exit 0 ∧ ∃ v, env' 3 = v ∧ Gr K 1 v ((s.flatMap wordc).map by8) := by
  refine loop_ends (I := fun (i : Nat) env' K => i ≤ s.length ∧ env' 9 = .slice q 0 s.length s.length g ∧ env' 10 = .int .i64 (s.length : Int) ∧ env' 11 = .int .i64 (i : Int) ∧ K.obj q = some (.cells (s.map by8) o) ∧ q < K.next ∧ ∃ v, env' 3 = v ∧ Gr K 1 v (((s.take i).flatMap wordc).map by8) ∧ q ∉ v.ids) (fun i => s.length - i) ?_ 0 env H
    ⟨Nat.zero_le _, h9, h10, h11, hq, hqn, .nils, h3, by simpa using Gr.nil _ _, by simp [AVal.ids]⟩
  rintro i env1 K ⟨hi, h9, h10, h11, hq, hqn, v, h3, hg, hv⟩
  by_cases c : i < s.length
  · have c1 : decide ((i : Int) < (s.length : Int)) = true := by simp; omega
    have w1 : IntKind.i64.wrap ((i : Int) + 1) = ((i + 1 : Nat) : Int) := by rw [wrap_i64]; omega
    have ha : aidx s.length (.int .i64 (i : Int)) = some i := by simp [aidx]; omega
    have hc : (s.map by8)[i]? = some (.int .u8 (s[i].toNat : Int)) := by simp [c, by8]
    have ht : (s.take (i + 1)).flatMap wordc = (s.take i).flatMap wordc ++ wordc s[i] := by
      rw [List.take_add_one, List.getElem?_eq_getElem c, Option.toList_some, List.flatMap_append, List.flatMap_singleton]
    have sl : slen v = ((s.take i).flatMap wordc).length := by
      have := hg.sl.length
      rw [List.length_map] at this; omega
    have sb := words_len (s.take i)
    rw [List.length_take] at sb
    obtain ⟨x, ex⟩ : ∃ x, s[i] = x := ⟨_, rfl⟩
    rw [ex] at hc ht
    have u33 := fun M => U33 x M
    cases hp : plainc x <;> rw [hp] at u33
    · have e3 : wordc x = [37, hexc (x.toNat / 16), hexc (x.toNat % 16)] := by unfold wordc; rw [hp]; rfl
      have h1 := hx_at (n := x.toNat / 16) (by have := x.toNat_lt; omega)
      have h2 := hx_at (n := x.toNat % 16) (Nat.mod_lt _ (by decide))
      unfold hx at h1 h2
      obtain ⟨K1, eK1⟩ : ∃ K1, K.new (.cells ([37, hexc (x.toNat / 16), hexc (x.toNat % 16)].map by8) true) = K1 := ⟨_, rfl⟩
      have k1 : Keeps K K1 := by rw [← eK1]; exact Keeps.new _ _
      have o1 : K1.obj K.next = some (.cells ([37, hexc (x.toNat / 16), hexc (x.toNat % 16)].map by8) true) := by rw [← eK1, new_obj, if_pos rfl]
      have s1 : Sl K1 1 (.slice K.next 0 3 3 none) ([37, hexc (x.toNat / 16), hexc (x.toNat % 16)].map by8) := .inr ⟨K.next, 0, 3, 3, none, rfl, by simp, .inr ⟨_, _, o1, by simp, by simp⟩⟩
      have g1 := hg.fr (L := []) (Fr.of k1) (by simp)
      obtain ⟨v2, K2, ea, g2, i2, f2, l2⟩ := g1.add (by' := 1) (by decide) s1 (by rw [sl]; show 5 * ((_ + 3) * 1) + 2040 * 1 ≤ _ ∧ _ + 3 ≤ _; omega)
      have vlt := hg.lt
      have q2 : K2.obj q = some (.cells (s.map by8) o) := by rw [f2.2 q (by have := k1.1; omega) hv, k1.2 q hqn]; exact hq
      have hv2 : q ∉ v2.ids := fun hx => (i2 q hx).elim hv (by have := k1.1; omega)
      have shp := g2.shape
      have shv := hg.shape
      unfold by8 at u33 h1 h2 eK1
      simp only [List.map_cons, List.map_nil] at eK1
      have c37 : ((37 : UInt8).toNat : Int) = 37 := rfl
      rw [c37] at eK1
      have z3 : 0 + i * 1 = i := by omega
      rcases shv with rfl | ⟨_, _, _, rfl⟩ <;>
        (simp only [b10, h3, h9, h10, h11, c1, ha, hq, z3, Nat.zero_add, Nat.mul_one, hc, u33, shr4, and15, h1, h2, eK1, ea, w1, rwA, rwB, Nat.reduceAdd, Nat.reduceMul, Nat.reduceLeDiff, Int.reduceEq, Int.reduceLT, Int.reduceLE, Int.reduceAdd, Int.reduceSub, Int.reduceMul, ↓reduceIte, Nat.reduceEqDiff, reduceCtorEq, ↓cnd_true, ↓cnd_false]
         rw [outs_some]
         refine .inl ⟨rfl, i + 1, by omega, by omega, by simp [Env.set, h9], by simp [Env.set, h10], by simp [Env.set], q2, by have := f2.1; have := k1.1; omega, v2, by simp [Env.set], ?_, hv2⟩
         rw [ht, e3, List.map_append]; exact g2)
    · have e3 : wordc x = [x] := by unfold wordc; rw [hp]; rfl
      obtain ⟨v2, K2, ea, g2, i2, f2, s2, a2, ea2⟩ := hg.push (by' := 1) (by decide) (x := [by8 x]) rfl (by rw [sl]; omega)
      have q2 : K2.obj q = some (.cells (s.map by8) o) := by rw [f2.2 q hqn hv]; exact hq
      have hv2 : q ∉ v2.ids := fun hx => by have := i2 q hx; omega
      rw [ea2] at ea
      have shv := hg.shape
      unfold by8 at u33 ea
      rcases shv with rfl | ⟨_, _, _, rfl⟩ <;>
        (simp only [b10, h3, h9, h10, h11, c1, ha, hq, Nat.zero_add, Nat.mul_one, hc, u33, ea, w1, rwA, rwB, Nat.reduceAdd, Nat.reduceMul, Nat.reduceLeDiff, Int.reduceEq, Int.reduceLT, Int.reduceLE, Int.reduceAdd, Int.reduceSub, Int.reduceMul, ↓reduceIte, Nat.reduceEqDiff, reduceCtorEq, ↓cnd_true, ↓cnd_false]
         rw [outs_some]
         refine .inl ⟨rfl, i + 1, by omega, by omega, by simp [Env.set, h9], by simp [Env.set, h10], by simp [Env.set], q2, by have := f2.1; omega, v2, by rw [ea2]; simp [Env.set], ?_, hv2⟩
         rw [ht, e3, List.map_append]; exact g2)
  · have e : i = s.length := by omega
    subst e
    have c1 : decide ((s.length : Int) < (s.length : Int)) = false := by simp
    simp only [b10, h10, h11, c1, rwA, rwB, Nat.reduceAdd, Nat.reduceMul, Nat.reduceLeDiff, Int.reduceEq, Int.reduceLT, Int.reduceLE, Int.reduceAdd, Int.reduceSub, Int.reduceMul, ↓reduceIte, Nat.reduceEqDiff, reduceCtorEq, ↓cnd_true, ↓cnd_false]
    rw [outs_some]
    rw [List.take_length] at hg
    exact .inr ⟨by simp, rfl, v, by simp [Env.set, h3], hg⟩
theorem U10 {s : List UInt8} (hn : s.length ≤ 1000000) (H : AHeap) : AC A 10 [.str s] H = some (.str (word s), H) := by
  refine one_val (x := NaFns.c10) rfl rfl rfl rfl rfl ?_ H
  unfold word
  by_cases c : s = []
  · subst c
    simp only [c10, rwA, rwB, Nat.reduceAdd, Nat.reduceMul, Nat.reduceLeDiff, Int.reduceEq, Int.reduceLT, Int.reduceLE, Int.reduceAdd, Int.reduceSub, Int.reduceMul, ↓reduceIte, Nat.reduceEqDiff, reduceCtorEq, ↓cnd_true, ↓cnd_false]
  · have c1 : decide (s = []) = false := decide_eq_false c
    obtain ⟨K, eK⟩ : ∃ K, noH.new (.cells (s.map by8) true) = K := ⟨_, rfl⟩
    have o : K.obj 0 = some (.cells (s.map by8) true) := by rw [← eK]; rfl
    have nK : 0 < K.next := by rw [← eK]; exact Nat.succ_pos _
    have eK' : noH.new (.cells (s.map fun b => .int .u8 (b.toNat : Int)) true) = K := eK
    rw [if_neg c]
    simp only [c10, c1, eK', noH_next, rwA, rwB, Nat.reduceAdd, Nat.reduceMul, Nat.reduceLeDiff, Int.reduceEq, Int.reduceLT, Int.reduceLE, Int.reduceAdd, Int.reduceSub, Int.reduceMul, ↓reduceIte, Nat.reduceEqDiff, reduceCtorEq, ↓cnd_true, ↓cnd_false]
    repeat (first | refine outs_seq ?_ | refine outs_block ?_ | refine outs_step ?_ | refine outs_stepD ?_ | refine rets_end ?_ | refine ans_end ?_)
    refine (loop10 (q := 0) (g := some 1) hn o nK ?_ ?_ ?_ ?_).mono ?_
    · simp [Env.set]
    · simp [Env.set]
    · simp [Env.set]
    · simp [Env.set]
    rintro e env K1 ⟨rfl, v, h3, hg⟩
    have bs := bToS_sl hg.sl
    simp only [outs_some, h3, bs, rwA, rwB, Nat.reduceAdd, Nat.reduceMul, Nat.reduceLeDiff, Int.reduceEq, Int.reduceLT, Int.reduceLE, Int.reduceAdd, Int.reduceSub, Int.reduceMul, ↓reduceIte, Nat.reduceEqDiff, reduceCtorEq, ↓cnd_true, ↓cnd_false]

end Go.Proofs.YtfmjdlahabgkpaaDoor.Nm
end

section
/- Names: the walks of Unword. -/
set_option maxRecDepth 100000
set_option linter.unusedSimpArgs false
set_option linter.unusedVariables false
set_option maxHeartbeats 4000000
namespace Go.Proofs.YtfmjdlahabgkpaaDoor.Nm
open Go Go.Proofs.YtfmjdlahabgkpaaDoor.Am NaFns Go.RowKit

def uok (w : List UInt8) : Bool := decide (w = [37]) || (!decide (dec d1 w = []) && decide (word (dec d1 w) = w))
def utx (w : List UInt8) : List UInt8 := if w = [37] then [] else if uok w then dec d1 w else []
theorem uok_word (s : List UInt8) : uok (word s) = true ∧ utx (word s) = s := by
  unfold word
  by_cases c : s = []
  · subst c; exact ⟨rfl, rfl⟩
  · rw [if_neg c]
    have h := words_ne c
    have e := dec_words (f := d1) (fun c _ => d1_is c) s
    have ok : uok (s.flatMap wordc) = true := by
      unfold uok
      rw [e, decide_eq_false h.1, decide_eq_false c]
      simp [word, c]
    exact ⟨ok, by unfold utx; rw [if_neg h.1, ok, e]; rfl⟩
theorem uok_is {w : List UInt8} (h : uok w = true) : word (utx w) = w := by
  unfold utx
  by_cases c : w = [37]
  · rw [if_pos c, c]; rfl
  · rw [if_neg c, h]
    unfold uok at h
    rw [decide_eq_false c] at h
    simp at h
    simpa using h.2
theorem U28 (s : List UInt8) (c : UInt8) (H : AHeap) : AC A 28 [.str s, by8 c] H = some (.int .i64 (Lib.indexByte s c), H) := by
  refine one_val (x := NaFns.c28) rfl rfl rfl rfl rfl ?_ H
  have u := fun M => U44 s c M
  unfold by8
  simp only [c28, u, rwA, rwB, Nat.reduceAdd, Nat.reduceMul, Nat.reduceLeDiff, Int.reduceEq, Int.reduceLT, Int.reduceLE, Int.reduceAdd, Int.reduceSub, Int.reduceMul, ↓reduceIte, Nat.reduceEqDiff, reduceCtorEq, ↓cnd_true, ↓cnd_false]
theorem dec_len (f : UInt8 → UInt8 → UInt8) : ∀ (n : Nat) (w : List UInt8), w.length ≤ n → (dec f w).length ≤ w.length
  | n, [], _ => by rw [dec]; exact Nat.le_refl _
  | n, [c], _ => by rw [dec]; exact Nat.le_refl _
  | n, [c, h], _ => by rw [dec]; exact Nat.le_refl _
  | 0, c :: h :: l :: r, hn => by simp at hn
  | n + 1, c :: h :: l :: r, hn => by
    rw [dec]
    split
    · have := dec_len f n r (by simp at hn; omega)
      simp only [List.length_cons]; omega
    · have := dec_len f n (h :: l :: r) (by simp at hn ⊢; omega)
      simp only [List.length_cons] at this ⊢; omega
theorem drop_cons {w : List UInt8} {i : Nat} (h : i < w.length) : w.drop i = w[i] :: w.drop (i + 1) := List.drop_eq_getElem_cons h

def b7 : ACode := (.seq (.seq (.region [⟨(some 11), (.mv (.tmp 5)), none, none⟩, ⟨(some 12), (.mv (.tmp 0)), none, none⟩, ⟨(some 13), (.len true (.tmp 12)), none, none⟩, ⟨(some 14), (.bin .lss (.tmp 11) (.tmp 13)), none, none⟩]) (.cond (.tmp 14) .skip (.exit 0))) (.seq (.block 1 (.seq (.region [⟨(some 17), (.mv (.tmp 0)), none, none⟩, ⟨(some 18), (.mv (.tmp 5)), none, none⟩, ⟨(some 19), (.idxStr (.tmp 17) (.tmp 18)), none, none⟩, ⟨(some 6), (.mv (.tmp 19)), none, none⟩]) (.seq (.seq (.region [⟨(some 20), (.mv (.tmp 6)), none, none⟩, ⟨(some 21), (.bin .eql (.tmp 20) (.con (.int .u8 37))), none, none⟩, ⟨(some 22), (.mv (.tmp 21)), none, none⟩, ⟨(some 23), (.mv (.tmp 5)), (some (22, true)), none⟩, ⟨(some 24), (.mv (.tmp 0)), (some (22, true)), none⟩, ⟨(some 25), (.len true (.tmp 24)), (some (22, true)), none⟩, ⟨(some 26), (.bin .sub (.tmp 25) (.con (.int .i64 2))), (some (22, true)), none⟩, ⟨(some 27), (.bin .lss (.tmp 23) (.tmp 26)), (some (22, true)), none⟩, ⟨(some 28), (.pick (.tmp 22) (.tmp 27) (.con (.bool false))), none, none⟩]) (.cond (.tmp 28) (.seq (.draw [⟨(some 29), (.mv (.tmp 0)), none, none⟩, ⟨(some 30), (.mv (.tmp 5)), none, none⟩, ⟨(some 31), (.bin .add (.tmp 30) (.con (.int .i64 1))), none, none⟩, ⟨(some 32), (.idxStr (.tmp 29) (.tmp 31)), none, none⟩, ⟨(some 33), (.call (.con (.func 28 [] [])) [(.con (.str [48, 49, 50, 51, 52, 53, 54, 55, 56, 57, 65, 66, 67, 68, 69, 70])), (.tmp 32)]), none, none⟩, ⟨(some 34), (.mv (.tmp 0)), none, none⟩, ⟨(some 35), (.mv (.tmp 5)), none, none⟩, ⟨(some 36), (.bin .add (.tmp 35) (.con (.int .i64 2))), none, none⟩, ⟨(some 37), (.idxStr (.tmp 34) (.tmp 36)), none, none⟩, ⟨(some 38), (.call (.con (.func 28 [] [])) [(.con (.str [48, 49, 50, 51, 52, 53, 54, 55, 56, 57, 65, 66, 67, 68, 69, 70])), (.tmp 37)]), none, none⟩, ⟨(some 7), (.mv (.tmp 33)), none, none⟩, ⟨(some 8), (.mv (.tmp 38)), none, none⟩]) (.seq (.region [⟨(some 39), (.mv (.tmp 7)), none, none⟩, ⟨(some 40), (.bin .shl (.tmp 39) (.con (.int .u64 4))), none, none⟩, ⟨(some 41), (.mv (.tmp 8)), none, none⟩, ⟨(some 42), (.bin .or (.tmp 40) (.tmp 41)), none, none⟩, ⟨(some 43), (.toInt .u8 (.tmp 42)), none, none⟩, ⟨(some 6), (.mv (.tmp 43)), none, none⟩]) (.region [⟨(some 44), (.mv (.tmp 5)), none, none⟩, ⟨(some 45), (.bin .add (.tmp 44) (.con (.int .i64 2))), none, none⟩, ⟨(some 5), (.mv (.tmp 45)), none, none⟩]))) .skip)) (.region [⟨(some 46), (.mv (.tmp 4)), none, none⟩, ⟨(some 47), (.mv (.tmp 6)), none, none⟩, ⟨(some 48), (.buildS 1 [(.int .u8 0)] [(0, (1, (.tmp 47)))]), none, none⟩, ⟨(some 49), (.append 1 1 (.tmp 46) (.tmp 48)), none, none⟩, ⟨(some 4), (.mv (.tmp 49)), none, none⟩])))) (.region [⟨(some 15), (.mv (.tmp 5)), none, none⟩, ⟨(some 16), (.bin .add (.tmp 15) (.con (.int .i64 1))), none, none⟩, ⟨(some 5), (.mv (.tmp 16)), none, none⟩])))
theorem loop7 {w : List UInt8} (hn : w.length ≤ 1000000) {H : AHeap} {env : Env} (h0 : env 0 = .str w) (h4 : env 4 = .nils) (h5 : env 5 = .int .i64 0) :
    Outs (AX A (.loop b7) env H) fun e env' K => e = .exit 0 ∧ env' 0 = .str w ∧ ∃ v, env' 4 = v ∧ Gr K 1 v ((dec d1 w).map by8) := by
  refine loop_ends (I := fun (i : Nat) env' K => i ≤ w.length ∧ env' 0 = .str w ∧ env' 5 = .int .i64 (i : Int) ∧ ∃ v done, env' 4 = v ∧ Gr K 1 v (done.map by8) ∧ dec d1 w = done ++ dec d1 (w.drop i) ∧ done.length ≤ i) (fun i => w.length - i) ?_ 0 env H
    ⟨Nat.zero_le _, h0, h5, .nils, [], h4, Gr.nil _ _, rfl, Nat.le_refl _⟩
  rintro i env1 K ⟨hi, h0, h5, v, done, h4, hg, hd, hdl⟩
  by_cases c : i < w.length
  · have c1 : decide ((i : Int) < (w.length : Int)) = true := by simp; omega
    have ix := idx_str (k := .i64) w c
    have e0 := drop_cons c
    have ws : IntKind.i64.wrap ((w.length : Int) - 2) = (w.length : Int) - 2 := by rw [wrap_i64]; omega
    have sl : slen v = done.length := by have := hg.sl.length; rw [List.length_map] at this; omega
    obtain ⟨x, ex⟩ : ∃ x, w[i] = x := ⟨_, rfl⟩
    rw [ex] at ix e0
    have shv := hg.shape
    have e37 : decide ((x.toNat : Int) = 37) = (x == 37) := (eqc_is x 37).symm
    -- one byte put behind
    have one : (x ≠ 37 ∨ (w.drop (i + 1)).length < 2) → ∀ v' K', Gr K' 1 v' ((done ++ [x]).map by8) → (∃ done', Gr K' 1 v' (done'.map by8) ∧ dec d1 w = done' ++ dec d1 (w.drop (i + 1)) ∧ done'.length ≤ i + 1) := by
      intro h v' K' hg'
      exact ⟨done ++ [x], hg', by rw [hd, e0, dec_skip h]; simp, by simp; omega⟩
    obtain ⟨v2, K2, ea, g2, i2, f2, s2, a2, ea2⟩ := hg.push (by' := 1) (by decide) (x := [by8 x]) rfl (by rw [sl]; omega)
    rw [ea2] at ea
    have w1 : IntKind.i64.wrap ((i : Int) + 1) = ((i + 1 : Nat) : Int) := by rw [wrap_i64]; omega
    by_cases c37 : x = 37
    · have c37' : (x == 37) = true := by simp [c37]
      rw [c37'] at e37
      by_cases c2 : i + 2 < w.length
      · have c2' : decide ((i : Int) < (w.length : Int) - 2) = true := by simp; omega
        have i1 := idx_str (k := .i64) w (i := i + 1) (by omega)
        have i2' := idx_str (k := .i64) w (i := i + 2) c2
        have e1 := drop_cons (w := w) (i := i + 1) (by omega)
        have e2 := drop_cons (w := w) (i := i + 2) c2
        obtain ⟨h, eh⟩ : ∃ x, w[i + 1]'(by omega) = x := ⟨_, rfl⟩
        obtain ⟨l, el⟩ : ∃ x, w[i + 2] = x := ⟨_, rfl⟩
        rw [eh] at i1 e1
        rw [el] at i2' e2
        have hdec : dec d1 (w.drop i) = d1 h l :: dec d1 (w.drop (i + 3)) := by rw [e0, e1, e2, c37, dec_hex]
        have w2 : IntKind.i64.wrap ((i : Int) + 2) = ((i + 2 : Nat) : Int) := by rw [wrap_i64]; omega
        have w3 : IntKind.i64.wrap (((i + 2 : Nat) : Int) + 1) = ((i + 3 : Nat) : Int) := by rw [wrap_i64]; omega
        have uh := fun M => U28 hx h M
        have ul := fun M => U28 hx l M
        have rh := ix_rng h
        have rl := ix_rng l
        have sh : abin .shl (.int .i64 (Lib.indexByte hx h)) (.int .u64 4) = some (.int .i64 (IntKind.i64.wrap (Lib.indexByte hx h * 16))) := rfl
        have orr := or_is rh rl
        have d1e : AVal.int .u8 (IntKind.u8.wrap (orv (IntKind.i64.wrap (Lib.indexByte hx h * 16)) (Lib.indexByte hx l))) = by8 (d1 h l) := by
          unfold by8 d1
          congr 1
          have : 0 ≤ IntKind.u8.wrap (orv (IntKind.i64.wrap (Lib.indexByte hx h * 16)) (Lib.indexByte hx l)) ∧ IntKind.u8.wrap (orv (IntKind.i64.wrap (Lib.indexByte hx h * 16)) (Lib.indexByte hx l)) < 256 := by rw [wrapU8]; omega
          rw [UInt8.toNat_ofNat']; omega
        obtain ⟨y, ey⟩ : ∃ y, d1 h l = y := ⟨_, rfl⟩
        rw [ey] at d1e hdec
        obtain ⟨ah, eah⟩ : ∃ a, Lib.indexByte hx h = a := ⟨_, rfl⟩
        obtain ⟨al, eal⟩ : ∃ a, Lib.indexByte hx l = a := ⟨_, rfl⟩
        rw [eah] at uh sh orr d1e
        rw [eal] at ul orr d1e
        obtain ⟨o1, eo1⟩ : ∃ a, IntKind.i64.wrap (ah * 16) = a := ⟨_, rfl⟩
        rw [eo1] at sh orr d1e
        obtain ⟨o2, eo2⟩ : ∃ a, orv o1 al = a := ⟨_, rfl⟩
        rw [eo2] at orr d1e
        unfold by8 at d1e
        have d1i := (AVal.int.inj d1e).2
        obtain ⟨v3, K3, eb, g3, i3, f3, s3, a3, eb2⟩ := hg.push (by' := 1) (by decide) (x := [by8 y]) rfl (by rw [sl]; omega)
        rw [eb2] at eb
        unfold by8 hx at uh ul
        unfold by8 at ix i1 i2' eb
        rcases shv with rfl | ⟨_, _, _, rfl⟩ <;>
          (simp only [b7, h0, h4, h5, c1, ix, e37, ws, c2', w1, w2, w3, i1, i2', uh, ul, sh, orr, d1i, eb, rwA, rwB, Nat.reduceAdd, Nat.reduceMul, Nat.reduceLeDiff, Int.reduceEq, Int.reduceLT, Int.reduceLE, Int.reduceAdd, Int.reduceSub, Int.reduceMul, ↓reduceIte, Nat.reduceEqDiff, reduceCtorEq, ↓cnd_true, ↓cnd_false]
           rw [outs_some]
           refine .inl ⟨rfl, i + 3, by omega, by omega, by simp [Env.set, h0], by simp [Env.set], v3, done ++ [y], by rw [eb2]; simp [Env.set], by rw [List.map_append]; exact g3, by rw [hd, hdec]; simp, by simp; omega⟩)
      · have c2' : decide ((i : Int) < (w.length : Int) - 2) = false := by simp; omega
        obtain ⟨done', h1, h2, h3⟩ := one (.inr (by simp; omega)) v2 K2 (by rw [List.map_append]; exact g2)
        unfold by8 at ix ea
        rcases shv with rfl | ⟨_, _, _, rfl⟩ <;>
          (simp only [b7, h0, h4, h5, c1, ix, e37, ws, c2', ea, w1, rwA, rwB, Nat.reduceAdd, Nat.reduceMul, Nat.reduceLeDiff, Int.reduceEq, Int.reduceLT, Int.reduceLE, Int.reduceAdd, Int.reduceSub, Int.reduceMul, ↓reduceIte, Nat.reduceEqDiff, reduceCtorEq, ↓cnd_true, ↓cnd_false]
           rw [outs_some]
           exact .inl ⟨rfl, i + 1, by omega, by omega, by simp [Env.set, h0], by simp [Env.set], v2, done', by rw [ea2]; simp [Env.set], h1, h2, h3⟩)
    · have c37' : (x == 37) = false := by simp [c37]
      rw [c37'] at e37
      obtain ⟨done', h1, h2, h3⟩ := one (.inl c37) v2 K2 (by rw [List.map_append]; exact g2)
      unfold by8 at ix ea
      rcases shv with rfl | ⟨_, _, _, rfl⟩ <;>
        (simp only [b7, h0, h4, h5, c1, ix, e37, ea, w1, rwA, rwB, Nat.reduceAdd, Nat.reduceMul, Nat.reduceLeDiff, Int.reduceEq, Int.reduceLT, Int.reduceLE, Int.reduceAdd, Int.reduceSub, Int.reduceMul, ↓reduceIte, Nat.reduceEqDiff, reduceCtorEq, ↓cnd_true, ↓cnd_false]
         rw [outs_some]
         exact .inl ⟨rfl, i + 1, by omega, by omega, by simp [Env.set, h0], by simp [Env.set], v2, done', by rw [ea2]; simp [Env.set], h1, h2, h3⟩)
  · have e : i = w.length := by omega
    subst e
    have c1 : decide ((w.length : Int) < (w.length : Int)) = false := by simp
    simp only [b7, h0, h5, c1, rwA, rwB, Nat.reduceAdd, Nat.reduceMul, Nat.reduceLeDiff, Int.reduceEq, Int.reduceLT, Int.reduceLE, Int.reduceAdd, Int.reduceSub, Int.reduceMul, ↓reduceIte, Nat.reduceEqDiff, reduceCtorEq, ↓cnd_true, ↓cnd_false]
    rw [outs_some]
    rw [List.drop_length, dec, List.append_nil] at hd
    exact .inr ⟨by simp, rfl, by simp [Env.set, h0], v, by simp [Env.set, h4], by rw [hd]; exact hg⟩
theorem U7 {w : List UInt8} (hn : w.length ≤ 1000000) (H : AHeap) : AC A 7 [.str w] H = some (.tuple [.str (utx w), .int .i64 (if uok w then 0 else 19)], H) := by
  refine one_val (x := NaFns.c7) rfl rfl rfl rfl rfl ?_ H
  by_cases c : w = [37]
  · subst c
    have e1 : uok [37] = true := rfl
    have e2 : utx [37] = [] := rfl
    rw [e1, e2]
    simp only [c7, decide_true, if_true, rwA, rwB, Nat.reduceAdd, Nat.reduceMul, Nat.reduceLeDiff, Int.reduceEq, Int.reduceLT, Int.reduceLE, Int.reduceAdd, Int.reduceSub, Int.reduceMul, ↓reduceIte, Nat.reduceEqDiff, reduceCtorEq, ↓cnd_true, ↓cnd_false]
  · have c0 : decide (w = [37]) = false := decide_eq_false c
    have hu : uok w = (!decide (dec d1 w = []) && decide (word (dec d1 w) = w)) := by unfold uok; rw [c0, Bool.false_or]
    have ht : utx w = if uok w then dec d1 w else [] := by unfold utx; rw [if_neg c]
    have dl := dec_len d1 _ w (Nat.le_refl _)
    have u10 := fun M => U10 (s := dec d1 w) (by omega) M
    simp only [c7, c0, rwA, rwB, Nat.reduceAdd, Nat.reduceMul, Nat.reduceLeDiff, Int.reduceEq, Int.reduceLT, Int.reduceLE, Int.reduceAdd, Int.reduceSub, Int.reduceMul, ↓reduceIte, Nat.reduceEqDiff, reduceCtorEq, ↓cnd_true, ↓cnd_false]
    repeat (first | refine outs_seq ?_ | refine outs_block ?_ | refine outs_step ?_ | refine outs_stepD ?_ | refine rets_end ?_ | refine ans_end ?_)
    refine (loop7 hn ?_ ?_ ?_).mono ?_
    · simp [Env.set, ainit]
    · simp [Env.set]
    · simp [Env.set]
    rintro e env K ⟨rfl, h0, v, h4, hg⟩
    have bs := bToS_sl hg.sl
    have ll := hg.sl.len1
    rw [List.length_map] at ll
    rw [ht]
    obtain ⟨d, ed⟩ : ∃ d, dec d1 w = d := ⟨_, rfl⟩
    rw [ed] at bs ll u10 hu ⊢
    cases k1 : decide (d = []) <;> rw [k1] at hu
    · have k1' : decide ((d.length : Int) = 0) = false := by simp at k1; simp [k1]
      cases k2 : decide (word d = w) <;> rw [k2] at hu <;> rw [hu]
      · simp only [outs_some, h0, h4, ll, bs, k1', u10, k2, Bool.not_false, Bool.and_false, Bool.false_eq_true, if_false, rwA, rwB, Nat.reduceAdd, Nat.reduceMul, Nat.reduceLeDiff, Int.reduceEq, Int.reduceLT, Int.reduceLE, Int.reduceAdd, Int.reduceSub, Int.reduceMul, ↓reduceIte, Nat.reduceEqDiff, reduceCtorEq, ↓cnd_true, ↓cnd_false]
      · simp only [outs_some, h0, h4, ll, bs, k1', u10, k2, Bool.not_false, Bool.and_true, if_true, rwA, rwB, Nat.reduceAdd, Nat.reduceMul, Nat.reduceLeDiff, Int.reduceEq, Int.reduceLT, Int.reduceLE, Int.reduceAdd, Int.reduceSub, Int.reduceMul, ↓reduceIte, Nat.reduceEqDiff, reduceCtorEq, ↓cnd_true, ↓cnd_false]
    · have k1' : decide ((d.length : Int) = 0) = true := by simp at k1; simp [k1]
      rw [hu]
      simp only [outs_some, h0, h4, ll, k1', Bool.not_true, Bool.false_and, Bool.false_eq_true, if_false, rwA, rwB, Nat.reduceAdd, Nat.reduceMul, Nat.reduceLeDiff, Int.reduceEq, Int.reduceLT, Int.reduceLE, Int.reduceAdd, Int.reduceSub, Int.reduceMul, ↓reduceIte, Nat.reduceEqDiff, reduceCtorEq, ↓cnd_true, ↓cnd_false]

end Go.Proofs.YtfmjdlahabgkpaaDoor.Nm
end

section
/- Names: lines of words: the plain law, and the walks. -/
set_option maxRecDepth 100000
set_option linter.unusedSimpArgs false
set_option linter.unusedVariables false
set_option maxHeartbeats 4000000
namespace Go.Proofs.YtfmjdlahabgkpaaDoor.Nm
open Go Go.Proofs.YtfmjdlahabgkpaaDoor.Am NaFns Go.RowKit

def consw (c : UInt8) : List (List UInt8) → List (List UInt8)
  | [] => [[c]]
  | w :: ws => (c :: w) :: ws
def wds : List UInt8 → List (List UInt8)
  | [] => [[]]
  | c :: s => if c = 32 then [] :: wds s else consw c (wds s)
theorem wds_cons (c : UInt8) (s : List UInt8) : wds (c :: s) = if c = 32 then [] :: wds s else consw c (wds s) := rfl
theorem wds_ne : ∀ s, wds s ≠ []
  | [] => by simp [wds]
  | c :: s => by
    unfold wds; split
    · simp
    · cases h : wds s <;> simp [consw]
theorem wds_len : ∀ s, (wds s).length = s.count 32 + 1
  | [] => rfl
  | c :: s => by
    have ih := wds_len s
    unfold wds; split
    · rename_i h; subst h
      simp [ih]
    · rename_i h
      rw [List.count_cons_of_ne h, ← ih]
      cases hw : wds s with
      | nil => exact absurd hw (wds_ne s)
      | cons w ws => rfl
theorem wds_none : ∀ s : List UInt8, s.count 32 = 0 → wds s = [s]
  | [], _ => rfl
  | c :: s, h => by
    have hc : c ≠ 32 := by rintro rfl; simp at h
    rw [List.count_cons_of_ne hc] at h
    unfold wds
    rw [if_neg hc, wds_none s h]; rfl
theorem wds_split : ∀ (p r : List UInt8), p.count 32 = 0 → wds (p ++ 32 :: r) = p :: wds r
  | [], r, _ => by simp [wds]
  | c :: p, r, h => by
    have hc : c ≠ 32 := by rintro rfl; simp at h
    rw [List.count_cons_of_ne hc] at h
    rw [List.cons_append, wds_cons, if_neg hc, wds_split p r h]; rfl
theorem count_split : ∀ s : List UInt8, s.count 32 ≠ 0 → ∃ p r, s = p ++ 32 :: r ∧ p.count 32 = 0 ∧ Lib.indexByte s 32 = (p.length : Int)
  | [], h => by simp at h
  | c :: s, h => by
    by_cases hc : c = 32
    · subst hc
      exact ⟨[], s, rfl, rfl, by simp [Lib.indexByte]⟩
    · rw [List.count_cons_of_ne hc] at h
      obtain ⟨p, r, e, h1, h2⟩ := count_split s h
      refine ⟨c :: p, r, by rw [e]; rfl, by rw [List.count_cons_of_ne hc]; exact h1, ?_⟩
      unfold Lib.indexByte
      have : (c == 32) = false := by simp [hc]
      rw [this, h2]
      have : ((p.length : Int) == -1) = false := by simp
      simp [this]
theorem join_cons2 (x y : List UInt8) (r : List (List UInt8)) : Lib.join (x :: y :: r) [32] = x ++ 32 :: Lib.join (y :: r) [32] := by
  rw [Lib.join_cons, Lib.join_cons]; simp [Lib.joinTail]
theorem wds_join : ∀ l : List (List UInt8), l ≠ [] → (∀ x, x ∈ l → x.count 32 = 0) → wds (Lib.join l [32]) = l
  | [], h, _ => absurd rfl h
  | [x], _, h => by rw [Lib.join_one]; exact wds_none x (h x (by simp))
  | x :: y :: r, _, h => by
    rw [join_cons2, wds_split x _ (h x (by simp)), wds_join (y :: r) (by simp) (fun z hz => h z (by simp at hz ⊢; exact .inr hz))]
def tot (l : List (List UInt8)) : Nat := (l.map fun x => x.length + 1).sum
theorem join_tot : ∀ l : List (List UInt8), (Lib.join l [32]).length ≤ tot l
  | [] => Nat.zero_le _
  | [x] => by rw [Lib.join_one]; simp [tot]
  | x :: y :: r => by
    have := join_tot (y :: r)
    rw [join_cons2]
    simp [tot] at this ⊢; omega
/-! ### Split -/
theorem U55 (s : List UInt8) (c : UInt8) (h : s ≠ [c]) (H : AHeap) : AC A 55 [.str s, .str [c]] H = some (.int .i64 (Lib.indexByte s c), H) := by
  have u63 : ∀ M, AC A 63 [.str s, .str [c]] M = some (.int .i64 (Lib.indexByte s c), M) := by
    intro M
    refine one_val (x := NaFns.c63) rfl rfl rfl rfl rfl ?_ M
    have u := fun M => U44 s c M
    have ix := idx_str (k := .i64) [c] (i := 0) (by simp)
    have e : ([c] : List UInt8)[0]'(by simp) = c := rfl
    rw [e] at ix
    have ix : ((aidx 1 (.int .i64 0)).bind fun i => (([c] : List UInt8)[i]?).map fun b => AVal.int .u8 (b.toNat : Int)) = some (by8 c) := ix
    have c0 : decide (((1 : Nat) : Int) = 0) = false := rfl
    have c1 : decide (((1 : Nat) : Int) = 1) = true := rfl
    have cs : decide ([c] = s) = false := decide_eq_false (fun e => h e.symm)
    unfold by8 at ix
    simp only [c63, List.length_singleton, c0, c1, cs, ix, u, rwA, rwB, Nat.reduceAdd, Nat.reduceMul, Nat.reduceLeDiff, Int.reduceEq, Int.reduceLT, Int.reduceLE, Int.reduceAdd, Int.reduceSub, Int.reduceMul, ↓reduceIte, Nat.reduceEqDiff, reduceCtorEq, ↓cnd_true, ↓cnd_false]
  refine one_val (x := NaFns.c55) rfl rfl rfl rfl rfl ?_ H
  simp only [c55, u63, rwA, rwB, Nat.reduceAdd, Nat.reduceMul, Nat.reduceLeDiff, Int.reduceEq, Int.reduceLT, Int.reduceLE, Int.reduceAdd, Int.reduceSub, Int.reduceMul, ↓reduceIte, Nat.reduceEqDiff, reduceCtorEq, ↓cnd_true, ↓cnd_false]
theorem U63e (c : UInt8) (H : AHeap) : AC A 55 [.str [c], .str [c]] H = some (.int .i64 0, H) := by
  have u63 : ∀ M, AC A 63 [.str [c], .str [c]] M = some (.int .i64 0, M) := by
    intro M
    refine one_val (x := NaFns.c63) rfl rfl rfl rfl rfl ?_ M
    have c0 : decide (((1 : Nat) : Int) = 0) = false := rfl
    simp only [c63, List.length_singleton, c0, decide_true, rwA, rwB, Nat.reduceAdd, Nat.reduceMul, Nat.reduceLeDiff, Int.reduceEq, Int.reduceLT, Int.reduceLE, Int.reduceAdd, Int.reduceSub, Int.reduceMul, ↓reduceIte, Nat.reduceEqDiff, reduceCtorEq, ↓cnd_true, ↓cnd_false]
  refine one_val (x := NaFns.c55) rfl rfl rfl rfl rfl ?_ H
  simp only [c55, u63, rwA, rwB, Nat.reduceAdd, Nat.reduceMul, Nat.reduceLeDiff, Int.reduceEq, Int.reduceLT, Int.reduceLE, Int.reduceAdd, Int.reduceSub, Int.reduceMul, ↓reduceIte, Nat.reduceEqDiff, reduceCtorEq, ↓cnd_true, ↓cnd_false]
theorem U55' (s : List UInt8) (H : AHeap) : AC A 55 [.str s, .str [32]] H = some (.int .i64 (Lib.indexByte s 32), H) := by
  by_cases h : s = [32]
  · subst h; exact U63e 32 H
  · exact U55 s 32 h H

def arow (l : List (List UInt8)) (n : Nat) : List AVal := l.map .str ++ List.replicate n (.str [])
theorem arow_len (l : List (List UInt8)) (n : Nat) : (arow l n).length = l.length + n := by simp [arow]
theorem arow_set (l : List (List UInt8)) (n : Nat) (x : List UInt8) : (arow l (n + 1)).set l.length (.str x) = arow (l ++ [x]) n := by
  simp only [arow, List.replicate_succ, List.map_append, List.append_assoc, List.map_cons, List.map_nil]
  rw [List.set_append, if_neg (by simp)]
  simp
def b45 : ACode := (.seq (.seq (.region [⟨(some 34), (.mv (.tmp 10)), none, none⟩, ⟨(some 35), (.mv (.tmp 3)), none, none⟩, ⟨(some 36), (.bin .lss (.tmp 34) (.tmp 35)), none, none⟩]) (.cond (.tmp 36) .skip (.exit 0))) (.block 1 (.seq (.region [⟨(some 37), (.mv (.tmp 0)), none, none⟩, ⟨(some 38), (.mv (.tmp 1)), none, none⟩, ⟨(some 39), (.call (.con (.func 55 [] [])) [(.tmp 37), (.tmp 38)]), none, none⟩, ⟨(some 11), (.mv (.tmp 39)), none, none⟩]) (.seq (.seq (.region [⟨(some 40), (.mv (.tmp 11)), none, none⟩, ⟨(some 41), (.bin .lss (.tmp 40) (.con (.int .i64 0))), none, none⟩]) (.cond (.tmp 41) (.exit 0) .skip)) (.seq (.region [⟨(some 42), (.mv (.tmp 9)), none, none⟩, ⟨(some 43), (.mv (.tmp 10)), none, none⟩, ⟨(some 44), (.mv (.tmp 0)), none, none⟩, ⟨(some 45), (.mv (.tmp 11)), none, none⟩, ⟨(some 46), (.mv (.tmp 2)), none, none⟩, ⟨(some 47), (.bin .add (.tmp 45) (.tmp 46)), none, none⟩, ⟨(some 48), (.slcStr (.tmp 44) none (some (.tmp 47))), none, none⟩, ⟨(some 49), (.idxASl 1 (.tmp 42) (.tmp 43)), none, none⟩, ⟨none, (.store 1 (.tmp 49) (.tmp 48)), none, none⟩]) (.seq (.region [⟨(some 50), (.mv (.tmp 0)), none, none⟩, ⟨(some 51), (.mv (.tmp 11)), none, none⟩, ⟨(some 52), (.mv (.tmp 1)), none, none⟩, ⟨(some 53), (.len true (.tmp 52)), none, none⟩, ⟨(some 54), (.bin .add (.tmp 51) (.tmp 53)), none, none⟩, ⟨(some 55), (.slcStr (.tmp 50) (some (.tmp 54)) none), none, none⟩, ⟨(some 0), (.mv (.tmp 55)), none, none⟩]) (.region [⟨(some 56), (.mv (.tmp 10)), none, none⟩, ⟨(some 57), (.bin .add (.tmp 56) (.con (.int .i64 1))), none, none⟩, ⟨(some 10), (.mv (.tmp 57)), none, none⟩])))))))
theorem loop45 {s0 : List UInt8} (hn : s0.length ≤ 10000000) {H : AHeap} {q : Nat} (hq : H.obj q = some (.cells (arow [] (s0.count 32 + 1)) true)) {env : Env} (h0 : env 0 = .str s0) (h1 : env 1 = .str [32]) (h2 : env 2 = .int .i64 0) (h3 : env 3 = .int .i64 ((s0.count 32 : Nat) : Int)) (h9 : env 9 = .slice q 0 (s0.count 32 + 1) (s0.count 32 + 1) none) (h10 : env 10 = .int .i64 0) :
    Outs (AX A (.loop b45) env H) fun e env' K => e = .exit 0 ∧ env' 9 = .slice q 0 (s0.count 32 + 1) (s0.count 32 + 1) none ∧ env' 10 = .int .i64 ((s0.count 32 : Nat) : Int) ∧ ∃ done s, env' 0 = .str s ∧ wds s0 = done ++ [s] ∧ done.length = s0.count 32 ∧ K.obj q = some (.cells (arow done 1) true) := by
  obtain ⟨N, eN⟩ : ∃ N, s0.count 32 = N := ⟨_, rfl⟩
  rw [eN] at hq h3 h9 ⊢
  refine loop_ends (I := fun (s : List UInt8) env' K => env' 0 = .str s ∧ env' 1 = .str [32] ∧ env' 2 = .int .i64 0 ∧ env' 3 = .int .i64 (N : Int) ∧ env' 9 = .slice q 0 (N + 1) (N + 1) none ∧ s.length ≤ 10000000 ∧
    ∃ done, wds s0 = done ++ wds s ∧ env' 10 = .int .i64 (done.length : Int) ∧ done.length + s.count 32 = N ∧ K.obj q = some (.cells (arow done (s.count 32 + 1)) true)) (fun s => s.length) ?_ s0 env H
    ⟨h0, h1, h2, h3, h9, hn, [], rfl, h10, by simpa using eN, by rw [eN]; exact hq⟩
  rintro s env1 K ⟨h0, h1, h2, h3, h9, hl, done, hd, h10, hc, ho⟩
  by_cases c : s.count 32 = 0
  · have c1 : decide ((done.length : Int) < (N : Int)) = false := by simp; omega
    simp only [b45, h3, h10, c1, rwA, rwB, Nat.reduceAdd, Nat.reduceMul, Nat.reduceLeDiff, Int.reduceEq, Int.reduceLT, Int.reduceLE, Int.reduceAdd, Int.reduceSub, Int.reduceMul, ↓reduceIte, Nat.reduceEqDiff, reduceCtorEq, ↓cnd_true, ↓cnd_false]
    rw [outs_some]
    rw [wds_none s c] at hd
    refine .inr ⟨by simp, rfl, by simp [Env.set, h9], by simp [Env.set, h10]; omega, done, s, by simp [Env.set, h0], hd, by omega, by rw [c] at ho; exact ho⟩
  · have c1 : decide ((done.length : Int) < (N : Int)) = true := by simp; omega
    obtain ⟨p, r, e, hp, hx⟩ := count_split s c
    have u55 := fun M => U55' s M
    rw [hx] at u55
    have c2 : decide ((p.length : Int) < 0) = false := by simp
    have sle : p.length + 1 ≤ s.length := by rw [e]; simp
    have w0 : IntKind.i64.wrap ((p.length : Int) + 0) = (p.length : Int) := by rw [wrap_i64]; omega
    have w1 : IntKind.i64.wrap ((p.length : Int) + 1) = ((p.length + 1 : Nat) : Int) := by rw [wrap_i64]; omega
    have w1' : IntKind.i64.wrap ((p.length : Int) + ((1 : Nat) : Int)) = ((p.length + 1 : Nat) : Int) := by rw [wrap_i64]; omega
    have dl : done.length ≤ N := by omega
    have nl : N ≤ 10000000 := by rw [← eN]; exact Nat.le_trans List.count_le_length hn
    have w2 : IntKind.i64.wrap ((done.length : Int) + 1) = ((done.length + 1 : Nat) : Int) := by rw [wrap_i64]; omega
    have s1 := slc_str_hi s (n := p.length) (by omega)
    have s2 := slc_str_lo s (n := p.length + 1) (by omega)
    have e1 : s.take p.length = p := by rw [e]; simp
    have e2 : s.drop (p.length + 1) = r := by rw [e, List.drop_append]; simp
    rw [e1] at s1
    rw [e2] at s2
    have ha : aidx (N + 1) (.int .i64 (done.length : Int)) = some done.length := by simp [aidx]; omega
    have rc : s.count 32 = r.count 32 + 1 := by rw [e, List.count_append, hp, List.count_cons_self]; omega
    rw [rc] at ho
    have st := store_one K q done.length (.str p) (arow done (r.count 32 + 1 + 1)) (by rw [arow_len]; omega)
    rw [arow_set] at st
    simp only [b45, h0, h1, h2, h3, h9, h10, c1, u55, c2, w0, w1, w1', w2, s1, s2, ha, ho, st, Nat.zero_add, Nat.mul_one, List.length_singleton, rwA, rwB, Nat.reduceAdd, Nat.reduceMul, Nat.reduceLeDiff, Int.reduceEq, Int.reduceLT, Int.reduceLE, Int.reduceAdd, Int.reduceSub, Int.reduceMul, ↓reduceIte, Nat.reduceEqDiff, reduceCtorEq, ↓cnd_true, ↓cnd_false]
    rw [outs_some]
    refine .inl ⟨rfl, r, by rw [e]; simp; omega, by simp [Env.set], by simp [Env.set, h1], by simp [Env.set, h2], by simp [Env.set, h3], by simp [Env.set, h9], by rw [← e2]; simp; omega, done ++ [p], by rw [hd, e, wds_split p r hp]; simp, by simp [Env.set], by simp; omega, by rw [set_obj, if_pos rfl]⟩
theorem oldl_str' (n : Nat) (l : List (List UInt8)) : oldl n (l.map AVal.str) = true := by
  induction l with
  | nil => rfl
  | cons a l ih => simp [oldl, AVal.old, ih]
theorem U13 {s : List UInt8} (hn : s.length ≤ 10000000) (H : AHeap) : AC A 13 [.str s] H = some (.slice H.next 0 (wds s).length (wds s).length none, H.new (.cells ((wds s).map .str) true)) := by
  have u45 : ∀ M, AC A 45 [.str s, .str [32], .int .i64 0, .int .i64 (-1)] M = some (.slice M.next 0 (wds s).length (wds s).length none, M.new (.cells ((wds s).map .str) true)) := by
    intro M
    refine look_new (x := NaFns.c45) rfl rfl rfl ?_
    have u54 := fun M => U54 s 32 M
    have cl : s.count 32 ≤ s.length := List.count_le_length
    have wl := wds_len s
    obtain ⟨N, eN⟩ : ∃ N, s.count 32 = N := ⟨_, rfl⟩
    have L := fun env => loop45 hn (env := env) (H := (frz M).new (.cells (arow [] (N + 1)) true)) (q := M.next) (by rw [eN, new_obj, if_pos (frz_next M).symm])
    rw [eN] at u54 L cl wl
    have w1 : IntKind.i64.wrap ((N : Int) + 1) = ((N + 1 : Nat) : Int) := by rw [wrap_i64]; omega
    have w2 : IntKind.i64.wrap ((s.length : Int) + 1) = ((s.length + 1 : Nat) : Int) := by rw [wrap_i64]; omega
    have w3 : IntKind.i64.wrap (((N + 1 : Nat) : Int) - 1) = (N : Int) := by rw [wrap_i64]; omega
    have mn : (if ((s.length + 1 : Nat) : Int) < ((N + 1 : Nat) : Int) then ((s.length + 1 : Nat) : Int) else ((N + 1 : Nat) : Int)) = ((N + 1 : Nat) : Int) := if_neg (by omega)
    have mk : ∀ M : AHeap, amkS M 1 16 [.str []] (.int .i64 ((N + 1 : Nat) : Int)) (.int .i64 ((N + 1 : Nat) : Int)) = some (.slice M.next 0 (N + 1) (N + 1) none, M.new (.cells (arow [] (N + 1)) true)) := by
      intro M
      simp only [amkS]
      rw [if_pos ⟨by omega, by omega, by omega, by omega, rfl⟩, Int.toNat_natCast]
      have : arep [AVal.str []] (N + 1) = arow [] (N + 1) := by
        unfold arow
        rw [List.map_nil, List.nil_append]
        generalize N + 1 = k
        induction k with
        | zero => rfl
        | succ k ih => rw [List.replicate_succ, ← ih]; rfl
      rw [this]
    have d0 : decide ((-1 : Int) = 0) = false := rfl
    have d1 : decide ((-1 : Int) < 0) = true := rfl
    have ne : decide (([32] : List UInt8) = []) = false := rfl
    have fn := frz_next M
    simp only [c45, d0, d1, ne, u54, w1, w2, w3, mn, mk, fn, rwA, rwB, Nat.reduceAdd, Nat.reduceMul, Nat.reduceLeDiff, Int.reduceEq, Int.reduceLT, Int.reduceLE, Int.reduceAdd, Int.reduceSub, Int.reduceMul, ↓reduceIte, Nat.reduceEqDiff, reduceCtorEq, ↓cnd_true, ↓cnd_false]
    repeat (first | refine outs_seq ?_ | refine outs_block ?_ | refine outs_step ?_ | refine outs_stepD ?_ | refine rets_end ?_ | refine ans_end ?_)
    refine (L _ ?_ ?_ ?_ ?_ ?_ ?_).mono ?_
    · simp [Env.set, ainit]
    · simp [Env.set, ainit]
    · simp [Env.set, ainit]
    · simp [Env.set]
    · simp [Env.set]
    · simp [Env.set]
    rintro e env K ⟨rfl, h9, h10, done, t, h0, hd, hdl, ho⟩
    have ha : aidx (N + 1) (.int .i64 (N : Int)) = some N := by simp [aidx]; omega
    have st := store_one K M.next N (.str t) (arow done 1) (by rw [arow_len]; omega)
    have hset : (arow done 1).set N (.str t) = (wds s).map .str := by
      have := arow_set done 0 t
      rw [hdl] at this
      rw [this, hd]; simp [arow]
    rw [hset] at st
    have sa : aslc 1 (.slice M.next 0 (N + 1) (N + 1) none) none (some (.int .i64 ((N + 1 : Nat) : Int))) none = some (.slice M.next 0 (N + 1) (N + 1) none) := by
      simp only [aslc, abounds, abound, Option.isSome_none, Bool.false_eq_true, if_false, Option.bind_some]
      rw [if_pos ⟨by omega, by omega⟩]
      simp
    simp only [outs_some, h0, h9, h10, ha, ho, st, w1, sa, Nat.zero_add, Nat.mul_one, rwA, rwB, Nat.reduceAdd, Nat.reduceMul, Nat.reduceLeDiff, Int.reduceEq, Int.reduceLT, Int.reduceLE, Int.reduceAdd, Int.reduceSub, Int.reduceMul, ↓reduceIte, Nat.reduceEqDiff, reduceCtorEq, ↓cnd_true, ↓cnd_false]
    rw [rets_some, wl]
    exact one_slice (Nat.le_refl _) (by rw [set_obj, if_pos rfl]) (oldl_str' _ _)
  have u35 : ∀ M, AC A 35 [.str s, .str [32]] M = some (.slice M.next 0 (wds s).length (wds s).length none, M.new (.cells ((wds s).map .str) true)) := by
    intro M
    refine look_new (x := NaFns.c35) rfl rfl rfl ?_
    have fn := frz_next M
    simp only [c35, u45, fn, rwA, rwB, Nat.reduceAdd, Nat.reduceMul, Nat.reduceLeDiff, Int.reduceEq, Int.reduceLT, Int.reduceLE, Int.reduceAdd, Int.reduceSub, Int.reduceMul, ↓reduceIte, Nat.reduceEqDiff, reduceCtorEq, ↓cnd_true, ↓cnd_false]
    rw [rets_some]
    exact one_slice (Nat.le_refl _) (by rw [new_obj, if_pos fn.symm]) (oldl_str' _ _)
  refine look_new (x := NaFns.c13) rfl rfl rfl ?_
  have fn := frz_next H
  simp only [c13, u35, fn, rwA, rwB, Nat.reduceAdd, Nat.reduceMul, Nat.reduceLeDiff, Int.reduceEq, Int.reduceLT, Int.reduceLE, Int.reduceAdd, Int.reduceSub, Int.reduceMul, ↓reduceIte, Nat.reduceEqDiff, reduceCtorEq, ↓cnd_true, ↓cnd_false]
  rw [rets_some]
  exact one_slice (Nat.le_refl _) (by rw [new_obj, if_pos fn.symm]) (oldl_str' _ _)

/-! ### Two lists that are one -/
def b12 : ACode := (.seq (.seq (.region [⟨(some 11), (.mv (.tmp 5)), none, none⟩, ⟨(some 12), (.mv (.tmp 0)), none, none⟩, ⟨(some 13), (.len false (.tmp 12)), none, none⟩, ⟨(some 14), (.bin .lss (.tmp 11) (.tmp 13)), none, none⟩]) (.cond (.tmp 14) .skip (.exit 0))) (.seq (.block 1 (.seq (.draw [⟨(some 17), (.mv (.tmp 0)), none, none⟩, ⟨(some 18), (.mv (.tmp 5)), none, none⟩, ⟨(some 19), (.idxASl 1 (.tmp 17) (.tmp 18)), none, none⟩, ⟨(some 20), (.load false 1 (.tmp 19)), none, none⟩, ⟨(some 21), (.mv (.tmp 1)), none, none⟩, ⟨(some 22), (.mv (.tmp 5)), none, none⟩, ⟨(some 23), (.idxASl 1 (.tmp 21) (.tmp 22)), none, none⟩, ⟨(some 24), (.load false 1 (.tmp 23)), none, none⟩, ⟨(some 25), (.bin .neq (.tmp 20) (.tmp 24)), none, none⟩]) (.cond (.tmp 25) (.seq (.region [⟨(some 4), (.mv (.con (.bool false))), none, none⟩]) .ret) .skip))) (.region [⟨(some 15), (.mv (.tmp 5)), none, none⟩, ⟨(some 16), (.bin .add (.tmp 15) (.con (.int .i64 1))), none, none⟩, ⟨(some 5), (.mv (.tmp 16)), none, none⟩])))
theorem loop12 {H : AHeap} {s t : AVal} {l k : List (List UInt8)} (hs : Sl H 1 s (l.map .str)) (ht : Sl H 1 t (k.map .str)) (hl : l.length = k.length) (hb : l.length < 4611686018427387904) {env : Env} (h0 : env 0 = s) (h1 : env 1 = t) (h5 : env 5 = .int .i64 0) :
    Outs (AX A (.loop b12) env H) fun e env' H' => H' = H ∧ ((e = .exit 0 ∧ l = k) ∨ (e = .ret ∧ env' 4 = .bool false ∧ l ≠ k)) := by
  refine loop_ends (I := fun (j : Nat) env' H' => j ≤ l.length ∧ H' = H ∧ env' 0 = s ∧ env' 1 = t ∧ env' 5 = .int .i64 (j : Int) ∧ l.take j = k.take j) (fun j => l.length - j) ?_ 0 env H ⟨Nat.zero_le _, rfl, h0, h1, h5, by simp⟩
  rintro j env' _ ⟨hj, rfl, h0, h1, h5, hp⟩
  have e0 := hs.len1
  rw [List.length_map] at e0
  by_cases hjm : j < l.length
  · have e1 : decide ((j : Int) < (l.length : Int)) = true := by simp; omega
    obtain ⟨id, off, cap, g, c, own, rfl, ho, _, a1⟩ := hs.elem1 hjm
    obtain ⟨id2, off2, cap2, g2, c2, own2, rfl, ho2, _, a2⟩ := ht.elem1 (i := j) (by omega)
    have ha : aidx l.length (.int .i64 (j : Int)) = some j := by simp [aidx]; omega
    have w1 : IntKind.i64.wrap ((j : Int) + 1) = ((j + 1 : Nat) : Int) := by rw [wrap_i64]; omega
    have ha2 : aidx k.length (.int .i64 (j : Int)) = some j := by simp [aidx]; omega
    have ge : ∀ (l : List (List UInt8)) (h : j < l.length), l.take (j + 1) = l.take j ++ [l[j]] := fun l h => by
      rw [List.take_add_one, List.getElem?_eq_getElem h]; rfl
    cases hd : decide (l[j] = k[j])
    · simp only [b12, h0, h1, h5, e0, e1, ha, ha2, ho, ho2, a1, a2, hd, rwA, rwB, Nat.reduceAdd, Nat.reduceMul, Nat.reduceLeDiff, Int.reduceEq, Int.reduceLT, Int.reduceLE, Int.reduceAdd, Int.reduceSub, Int.reduceMul, ↓reduceIte, Nat.reduceEqDiff, reduceCtorEq, ↓cnd_true, ↓cnd_false]
      rw [outs_some]
      refine .inr ⟨by simp, rfl, .inr ⟨rfl, by simp [Env.set], ?_⟩⟩
      intro h
      subst h
      simp at hd
    · simp only [b12, h0, h1, h5, e0, e1, ha, ha2, ho, ho2, a1, a2, hd, w1, rwA, rwB, Nat.reduceAdd, Nat.reduceMul, Nat.reduceLeDiff, Int.reduceEq, Int.reduceLT, Int.reduceLE, Int.reduceAdd, Int.reduceSub, Int.reduceMul, ↓reduceIte, Nat.reduceEqDiff, reduceCtorEq, ↓cnd_true, ↓cnd_false]
      rw [outs_some]
      refine .inl ⟨rfl, j + 1, by omega, by omega, rfl, by simp [Env.set, h0], by simp [Env.set, h1], by simp [Env.set], ?_⟩
      rw [ge l hjm, ge k (by omega), hp]
      simp only [decide_eq_true_eq] at hd
      rw [hd]
  · have : j = l.length := by omega
    subst this
    have e1 : decide ((l.length : Int) < (l.length : Int)) = false := by simp
    simp only [b12, h0, h5, e0, e1, rwA, rwB, Nat.reduceAdd, Nat.reduceMul, Nat.reduceLeDiff, Int.reduceEq, Int.reduceLT, Int.reduceLE, Int.reduceAdd, Int.reduceSub, Int.reduceMul, ↓reduceIte, Nat.reduceEqDiff, reduceCtorEq, ↓cnd_true, ↓cnd_false]
    rw [outs_some]
    refine .inr ⟨by simp, rfl, .inl ⟨rfl, ?_⟩⟩
    rw [List.take_length, hl, List.take_length] at hp
    exact hp
theorem U12 {H : AHeap} {s t : AVal} {l k : List (List UInt8)} (hs : Sl H 1 s (l.map .str)) (ht : Sl H 1 t (k.map .str)) (hb : l.length < 4611686018427387904) :
    AC A 12 [s, t] H = some (.bool (decide (l = k)), H) := by
  refine look_val (x := NaFns.c12) rfl rfl rfl rfl ?_
  have hsf := hs.frz
  have htf := ht.frz
  have e0 := hsf.len1
  have e1 := htf.len1
  rw [List.length_map] at e0 e1
  by_cases c : l.length = k.length
  · have c1 : decide ((l.length : Int) = (k.length : Int)) = true := by simp; omega
    simp only [c12, e0, e1, c1, rwA, rwB, Nat.reduceAdd, Nat.reduceMul, Nat.reduceLeDiff, Int.reduceEq, Int.reduceLT, Int.reduceLE, Int.reduceAdd, Int.reduceSub, Int.reduceMul, ↓reduceIte, Nat.reduceEqDiff, reduceCtorEq, ↓cnd_true, ↓cnd_false]
    repeat (first | refine outs_seq ?_ | refine outs_block ?_ | refine outs_step ?_ | refine outs_stepD ?_ | refine rets_end ?_ | refine ans_end ?_)
    refine (loop12 hsf htf c hb ?_ ?_ ?_).mono ?_
    · simp [Env.set, ainit]
    · simp [Env.set, ainit]
    · simp [Env.set]
    rintro e env K ⟨rfl, (⟨rfl, h⟩ | ⟨rfl, h4, h⟩)⟩
    · simp only [outs_some, h, decide_true, rwA, rwB, Nat.reduceAdd, Nat.reduceMul, Nat.reduceLeDiff, Int.reduceEq, Int.reduceLT, Int.reduceLE, Int.reduceAdd, Int.reduceSub, Int.reduceMul, ↓reduceIte, Nat.reduceEqDiff, reduceCtorEq, ↓cnd_true, ↓cnd_false]
    · simp only [outs_some, h4, decide_eq_false h, rwA, rwB, Nat.reduceAdd, Nat.reduceMul, Nat.reduceLeDiff, Int.reduceEq, Int.reduceLT, Int.reduceLE, Int.reduceAdd, Int.reduceSub, Int.reduceMul, ↓reduceIte, Nat.reduceEqDiff, reduceCtorEq, ↓cnd_true, ↓cnd_false]
  · have c1 : decide ((l.length : Int) = (k.length : Int)) = false := by simp; omega
    have c2 : decide (l = k) = false := decide_eq_false fun h => c (by rw [h])
    rw [c2]
    simp only [c12, e0, e1, c1, rwA, rwB, Nat.reduceAdd, Nat.reduceMul, Nat.reduceLeDiff, Int.reduceEq, Int.reduceLT, Int.reduceLE, Int.reduceAdd, Int.reduceSub, Int.reduceMul, ↓reduceIte, Nat.reduceEqDiff, reduceCtorEq, ↓cnd_true, ↓cnd_false]

/-! ### Lines -/
theorem tot_len (l : List (List UInt8)) : l.length ≤ tot l := by
  induction l with
  | nil => simp
  | cons a l ih => simp only [tot, List.map_cons, List.sum_cons, List.length_cons] at ih ⊢; omega
theorem U15 {H : AHeap} {s : AVal} {l : List (List UInt8)} (hs : Sl H 1 s (l.map .str)) (hb : tot l ≤ 100000000) : AC A 15 [s] H = some (.str (Lib.join l [32]), H) := by
  refine look_val (x := NaFns.c15) rfl rfl rfl rfl ?_
  have hj := join_tot l
  have hl := tot_len l
  have u36 := U36 hs.frz [32] (by omega) (by omega)
  simp only [c15, u36, rwA, rwB, Nat.reduceAdd, Nat.reduceMul, Nat.reduceLeDiff, Int.reduceEq, Int.reduceLT, Int.reduceLE, Int.reduceAdd, Int.reduceSub, Int.reduceMul, ↓reduceIte, Nat.reduceEqDiff, reduceCtorEq, ↓cnd_true, ↓cnd_false]
end Go.Proofs.YtfmjdlahabgkpaaDoor.Nm
end

section
/- Names: digits and numbers: the plain law. -/
set_option maxRecDepth 100000
set_option linter.unusedSimpArgs false
set_option linter.unusedVariables false
set_option maxHeartbeats 4000000
namespace Go.Proofs.YtfmjdlahabgkpaaDoor.Nm
open Go Go.Proofs.YtfmjdlahabgkpaaDoor.Am NaFns Go.RowKit

def dc (n : Nat) : UInt8 := UInt8.ofNat (48 + n)
def dg (n : Nat) : List UInt8 := if n < 10 then [dc n] else dg (n / 10) ++ [dc (n % 10)]
termination_by n
decreasing_by omega
theorem dg_lt {n : Nat} (h : n < 10) : dg n = [dc n] := by rw [dg, if_pos h]
theorem dg_ge {n : Nat} (h : ¬ n < 10) : dg n = dg (n / 10) ++ [dc (n % 10)] := by rw [dg, if_neg h]
theorem dc_nat {n : Nat} (h : n < 10) : (dc n).toNat = 48 + n := by
  unfold dc
  rw [UInt8.toNat_ofNat']; omega
theorem dc_sub {n : Nat} (h : n < 10) : (dc n - 48).toNat = n := by
  rw [UInt8.toNat_sub_of_le _ _ (by rw [UInt8.le_iff_toNat_le, dc_nat h]; show 48 ≤ _; omega), dc_nat h]
  show 48 + n - 48 = n; omega
theorem dc_dig {n : Nat} (h : n < 10) : digc (dc n) = true := by
  rw [digc_is]; unfold ic; rw [dc_nat h]; simp; omega
theorem dg_ind {P : Nat → Prop} (h1 : ∀ n, n < 10 → P n) (h2 : ∀ n, ¬ n < 10 → P (n / 10) → P n) (n : Nat) : P n := by
  induction n using Nat.strongRecOn with
  | ind n ih =>
    by_cases h : n < 10
    · exact h1 n h
    · exact h2 n h (ih (n / 10) (by omega))
theorem dg_pos (n : Nat) : 0 < (dg n).length := by
  by_cases h : n < 10
  · rw [dg_lt h]; simp
  · rw [dg_ge h]; simp
theorem dg_ne (n : Nat) : dg n ≠ [] := fun h => by have := dg_pos n; rw [h] at this; simp at this
theorem dg_len : ∀ (k n : Nat), n < 10 ^ (k + 1) → (dg n).length ≤ k + 1
  | 0, n, h => by rw [dg_lt (by simpa using h)]; simp
  | k + 1, n, h => by
    by_cases c : n < 10
    · rw [dg_lt c]; simp
    · rw [dg_ge c, List.length_append]
      have := dg_len k (n / 10) (by rw [Nat.pow_succ] at h; omega)
      simp; omega
theorem dg_20 {n : Nat} (h : n < 18446744073709551616) : (dg n).length ≤ 20 := by
  have : (10 : Nat) ^ (19 + 1) = 100000000000000000000 := by decide
  exact dg_len 19 n (by omega)
theorem dg_19 {n : Nat} (h : n ≤ 9223372036854775808) : (dg n).length ≤ 19 := by
  have : (10 : Nat) ^ (18 + 1) = 10000000000000000000 := by decide
  exact dg_len 18 n (by omega)
theorem dg_dig (n : Nat) : (dg n).all digc = true := by
  induction n using dg_ind with
  | h1 n h => rw [dg_lt h]; simp [dc_dig h]
  | h2 n h ih => rw [dg_ge h, List.all_append, ih]; simp [dc_dig (Nat.mod_lt n (by decide : 0 < 10))]
theorem dg_head (n : Nat) : ∃ k r, dg n = dc k :: r ∧ k < 10 := by
  induction n using dg_ind with
  | h1 n h => exact ⟨n, [], dg_lt h, h⟩
  | h2 n h ih =>
    obtain ⟨k, r, e, hk⟩ := ih
    exact ⟨k, r ++ [dc (n % 10)], by rw [dg_ge h, e]; rfl, hk⟩

/-! ### The number of digits -/
def rdS (n : Nat) (c : UInt8) : Nat := (n * 10 + (c - 48).toNat) % 18446744073709551616
def rd (s : List UInt8) : Nat := s.foldl rdS 0
def rdT (n : Nat) (c : UInt8) : Nat := (10 * n + (c - 48).toNat % 10) % 18446744073709551616
def rt (s : List UInt8) : Nat := s.foldl rdT 0
theorem fold_lt (f : Nat → UInt8 → Nat) (hf : ∀ n c, f n c < 18446744073709551616) : ∀ (s : List UInt8) (n : Nat), n < 18446744073709551616 → s.foldl f n < 18446744073709551616
  | [], n, h => h
  | c :: s, n, h => fold_lt f hf s (f n c) (hf n c)
theorem rd_lt (s : List UInt8) : rd s < 18446744073709551616 := fold_lt _ (fun n c => Nat.mod_lt _ (by decide)) s 0 (by decide)
theorem rd_dg (n : Nat) : n < 18446744073709551616 → rd (dg n) = n := by
  induction n using dg_ind with
  | h1 n h =>
    intro _
    rw [dg_lt h]
    show rdS 0 (dc n) = n
    unfold rdS; rw [dc_sub h]; omega
  | h2 n h ih =>
    intro hn
    have hr : rd (dg (n / 10)) = n / 10 := ih (by omega)
    rw [dg_ge h, show rd (dg (n / 10) ++ [dc (n % 10)]) = rdS (rd (dg (n / 10))) (dc (n % 10)) by simp [rd], hr]
    unfold rdS; rw [dc_sub (Nat.mod_lt n (by decide))]; omega
theorem rt_dg (n : Nat) : n < 18446744073709551616 → rt (dg n) = n := by
  induction n using dg_ind with
  | h1 n h =>
    intro _
    rw [dg_lt h]
    show rdT 0 (dc n) = n
    unfold rdT; rw [dc_sub h]; omega
  | h2 n h ih =>
    intro hn
    have hr : rt (dg (n / 10)) = n / 10 := ih (by omega)
    rw [dg_ge h, show rt (dg (n / 10) ++ [dc (n % 10)]) = rdT (rt (dg (n / 10))) (dc (n % 10)) by simp [rt], hr]
    unfold rdT; rw [dc_sub (Nat.mod_lt n (by decide))]; omega
def nm (s : List UInt8) : Bool := decide (dg (rd s) = s)
theorem nm_dg {n : Nat} (h : n < 18446744073709551616) : nm (dg n) = true := by unfold nm; rw [rd_dg n h]; simp
theorem nm_first (s : List UInt8) : nm s = ((!decide (s = [])) && decide (s.length ≤ 20) && s.all digc && decide (dg (rd s) = s)) := by
  unfold nm
  cases h : decide (dg (rd s) = s)
  · simp
  · have e : dg (rd s) = s := by simpa using h
    have h1 : s ≠ [] := by rw [← e]; exact dg_ne _
    have h2 : s.length ≤ 20 := by rw [← e]; exact dg_20 (rd_lt s)
    have h3 : s.all digc = true := by rw [← e]; exact dg_dig _
    simp [h1, h2, h3]
/-! ### With a sign -/
def sg (x : Int) : List UInt8 := if x < 0 then 45 :: dg x.natAbs else dg x.natAbs
def cutm : List UInt8 → List UInt8 × Bool
  | [] => ([], false)
  | c :: r => if c = 45 then (r, true) else (c :: r, false)
def nb (s : List UInt8) : Nat := if nm (cutm s).1 then rd (cutm s).1 else 0
def wx (s : List UInt8) : Int := IntKind.i64.wrap (if (cutm s).2 then IntKind.u64.wrap (-(nb s : Int)) else (nb s : Int))
def wok (s : List UInt8) : Bool := nm (cutm s).1 && decide (sg (wx s) = s)
def wn (s : List UInt8) : Nat := ((s.take 20).drop (if (cutm s).2 then 1 else 0)).foldl rdT 0
def wy (s : List UInt8) : Int := IntKind.i64.wrap (if (cutm s).2 then IntKind.u64.wrap (0 - (wn s : Int)) else (wn s : Int))
theorem sg_dec {x : Int} (h0 : -9223372036854775808 ≤ x) (h1 : x ≤ 9223372036854775807) : wx (sg x) = x ∧ nm (cutm (sg x)).1 = true ∧ wy (sg x) = x := by
  by_cases c : x < 0
  · have e : sg x = 45 :: dg x.natAbs := by unfold sg; rw [if_pos c]
    have hc : cutm (45 :: dg x.natAbs) = (dg x.natAbs, true) := by simp [cutm]
    have hk : x.natAbs < 18446744073709551616 := by omega
    have hn := nm_dg hk
    have hl := dg_19 (n := x.natAbs) (by omega)
    refine ⟨?_, by rw [e, hc]; exact hn, ?_⟩
    · rw [e]; unfold wx nb; rw [hc]; simp only [hn, if_true]; rw [rd_dg _ hk, wrapU64, wrap_i64]; omega
    · rw [e]
      have : wn (45 :: dg x.natAbs) = x.natAbs := by
        unfold wn
        rw [hc, List.take_of_length_le (by simp; omega)]
        exact rt_dg _ hk
      unfold wy
      rw [this, hc]
      simp only [if_true]; rw [wrapU64, wrap_i64]; omega
  · have e : sg x = dg x.natAbs := by unfold sg; rw [if_neg c]
    have hk : x.natAbs < 18446744073709551616 := by omega
    have hc : cutm (dg x.natAbs) = (dg x.natAbs, false) := by
      obtain ⟨k, r, e, hk⟩ := dg_head x.natAbs
      rw [e]
      show (if dc k = 45 then (r, true) else (dc k :: r, false)) = _
      rw [if_neg]
      intro h
      have := congrArg UInt8.toNat h
      rw [dc_nat hk] at this
      have e45 : (45 : UInt8).toNat = 45 := rfl
      omega
    have hn := nm_dg hk
    have hl := dg_20 hk
    refine ⟨?_, by rw [e, hc]; exact hn, ?_⟩
    · rw [e]; unfold wx nb; rw [hc]; simp only [hn, if_true, Bool.false_eq_true, if_false]; rw [rd_dg _ hk, wrap_i64]; omega
    · rw [e]
      have : wn (dg x.natAbs) = x.natAbs := by
        unfold wn
        rw [hc, List.take_of_length_le hl]
        exact rt_dg _ hk
      unfold wy
      rw [this, hc]
      simp only [Bool.false_eq_true, if_false]; rw [wrap_i64]; omega
theorem wrap_rng (n : Int) : -9223372036854775808 ≤ IntKind.i64.wrap n ∧ IntKind.i64.wrap n ≤ 9223372036854775807 := by rw [wrap_i64]; omega
theorem wok_sg {x : Int} (h0 : -9223372036854775808 ≤ x) (h1 : x ≤ 9223372036854775807) : wok (sg x) = true ∧ wx (sg x) = x := by
  obtain ⟨a, b, _⟩ := sg_dec h0 h1
  refine ⟨?_, a⟩
  unfold wok; rw [b, a]; simp

end Go.Proofs.YtfmjdlahabgkpaaDoor.Nm
end

section
/- Names: digits and numbers: the walks. -/
set_option maxRecDepth 100000
set_option linter.unusedSimpArgs false
set_option linter.unusedVariables false
set_option maxHeartbeats 4000000
namespace Go.Proofs.YtfmjdlahabgkpaaDoor.Nm
open Go Go.Proofs.YtfmjdlahabgkpaaDoor.Am NaFns Go.RowKit

theorem tm10 (n : Nat) : (n : Int).tmod 10 = ((n % 10 : Nat) : Int) := rfl
theorem td10 (n : Nat) : (n : Int).tdiv 10 = ((n / 10 : Nat) : Int) := rfl
def b21 : ACode := (.block 1 (.seq (.region [⟨(some 5), (.mv (.tmp 4)), none, none⟩, ⟨(some 6), (.bin .sub (.tmp 5) (.con (.int .i64 1))), none, none⟩, ⟨(some 4), (.mv (.tmp 6)), none, none⟩]) (.seq (.region [⟨(some 7), (.mv (.tmp 4)), none, none⟩, ⟨(some 8), (.mv (.tmp 0)), none, none⟩, ⟨(some 9), (.bin .rem (.tmp 8) (.con (.int .u64 10))), none, none⟩, ⟨(some 10), (.bin .add (.con (.int .u64 48)) (.tmp 9)), none, none⟩, ⟨(some 11), (.toInt .u8 (.tmp 10)), none, none⟩, ⟨(some 12), (.idxAArr 20 1 (.tmp 3) (.tmp 7)), none, none⟩, ⟨none, (.store 1 (.tmp 12) (.tmp 11)), none, none⟩]) (.seq (.region [⟨(some 13), (.mv (.tmp 0)), none, none⟩, ⟨(some 14), (.bin .quo (.tmp 13) (.con (.int .u64 10))), none, none⟩, ⟨(some 0), (.mv (.tmp 14)), none, none⟩]) (.seq (.region [⟨(some 15), (.mv (.tmp 0)), none, none⟩, ⟨(some 16), (.bin .eql (.tmp 15) (.con (.int .u64 0))), none, none⟩]) (.cond (.tmp 16) (.seq (.region [⟨(some 17), (.mv (.tmp 4)), none, none⟩, ⟨(some 18), (.slcArr 20 1 (.tmp 3) (some (.tmp 17)) none none), none, none⟩, ⟨(some 19), (.bToS (.tmp 18)), none, none⟩, ⟨(some 2), (.mv (.tmp 19)), none, none⟩]) .ret) .skip))))))
theorem loop21 {n0 : Nat} (hn0 : n0 < 18446744073709551616) {H : AHeap} {env : Env} (h0 : env 0 = .int .u64 (n0 : Int)) (h3 : env 3 = .ptr 0 0) (h4 : env 4 = .int .i64 20) (ho : H.obj 0 = some (.cells (List.replicate 20 (by8 0)) true)) :
    Outs (AX A (.loop b21) env H) fun e env' K => e = .ret ∧ env' 2 = .str (dg n0) := by
  refine loop_ends (I := fun (n : Nat) env' K => ∃ suf : List UInt8, dg n0 = dg n ++ suf ∧ n < 18446744073709551616 ∧ env' 0 = .int .u64 (n : Int) ∧ env' 3 = .ptr 0 0 ∧ env' 4 = .int .i64 ((20 - suf.length : Nat) : Int) ∧ K.obj 0 = some (.cells (List.replicate (20 - suf.length) (by8 0) ++ suf.map by8) true)) (fun n => n) ?_ n0 env H
    ⟨[], by simp, hn0, h0, h3, h4, by simpa using ho⟩
  rintro n env1 K ⟨suf, hd, hn, h0, h3, h4, ho⟩
  have hl := dg_20 hn0
  rw [hd, List.length_append] at hl
  have hp := dg_pos n
  obtain ⟨i, ei⟩ : ∃ i, 20 - suf.length = i + 1 := ⟨20 - suf.length - 1, by omega⟩
  rw [ei] at h4 ho
  have w1 : IntKind.i64.wrap (((i + 1 : Nat) : Int) - 1) = (i : Int) := by rw [wrap_i64]; omega
  have r1 := tm10 n
  have r2 : IntKind.u64.wrap (48 + ((n % 10 : Nat) : Int)) = ((48 + n % 10 : Nat) : Int) := by rw [wrapU64]; omega
  have r3 : IntKind.u64.wrap ((n : Int).tdiv 10) = ((n / 10 : Nat) : Int) := by rw [td10, wrapU64]; omega
  have r4 : IntKind.u8.wrap ((48 + n % 10 : Nat) : Int) = ((48 + n % 10 : Nat) : Int) := by rw [wrapU8]; omega
  have ha : aidx 20 (.int .i64 (i : Int)) = some i := by simp [aidx]; omega
  have st := store_one K 0 i (.int .u8 ((48 + n % 10 : Nat) : Int)) (List.replicate (i + 1) (by8 0) ++ suf.map by8) (by simp; omega)
  have eset : (List.replicate (i + 1) (by8 0) ++ suf.map by8).set i (.int .u8 ((48 + n % 10 : Nat) : Int)) = List.replicate i (by8 0) ++ (dc (n % 10) :: suf).map by8 := by
    rw [List.replicate_succ', List.append_assoc, List.set_append, if_neg (by simp), List.length_replicate, Nat.sub_self]
    simp [by8, dc_nat (Nat.mod_lt n (by decide : 0 < 10))]
  rw [eset] at st
  obtain ⟨K1, eK⟩ : ∃ K1, K.set 0 (.cells (List.replicate i (by8 0) ++ (dc (n % 10) :: suf).map by8) true) = K1 := ⟨_, rfl⟩
  rw [eK] at st
  have o1 : K1.obj 0 = some (.cells (List.replicate i (by8 0) ++ (dc (n % 10) :: suf).map by8) true) := by rw [← eK, set_obj, if_pos rfl]
  have m1 : i * 1 = i := Nat.mul_one i
  obtain ⟨x, ex⟩ : ∃ x : Nat, 48 + n % 10 = x := ⟨_, rfl⟩
  rw [ex] at r2 r4 st
  obtain ⟨d, ed⟩ : ∃ d : Nat, n % 10 = d := ⟨_, rfl⟩
  rw [ed] at r1 r2 eK o1
  by_cases c : n < 10
  · have c1 : decide (((n / 10 : Nat) : Int) = 0) = true := by simp; omega
    have sa : aslcArr 20 1 (.ptr 0 0) (some (.int .i64 (i : Int))) none none = some (.slice 0 i (20 - i) (20 - i) none) := by
      simp only [aslcArr, abounds, abound, Option.bind_some, Option.isSome_none, Bool.false_eq_true, if_false]
      rw [if_pos ⟨by omega, by omega⟩]
      simp [show ¬ (20 = i) by omega]
    have bs := bToS_sl (H := K1) (v := .slice 0 i (20 - i) (20 - i) none) (s := dc d :: suf) (.inr ⟨0, i, 20 - i, 20 - i, none, rfl, by simp; omega, .inr ⟨_, true, o1, by simp; omega, by
      rw [List.drop_append, List.length_replicate, Nat.sub_self, List.drop_zero, List.drop_eq_nil_of_le (by simp), List.nil_append, Nat.mul_one, List.take_of_length_le (by simp; omega)]⟩⟩)
    have ed' : dg n0 = dc d :: suf := by rw [hd, dg_lt c, ← ed, Nat.mod_eq_of_lt c]; rfl
    simp only [b21, h0, h3, h4, w1, r1, r2, r3, r4, ha, m1, ho, st, c1, sa, bs, Nat.zero_add, List.length_append, List.length_replicate, rwA, rwB, Nat.reduceAdd, Nat.reduceMul, Nat.reduceLeDiff, Int.reduceEq, Int.reduceLT, Int.reduceLE, Int.reduceAdd, Int.reduceSub, Int.reduceMul, ↓reduceIte, Nat.reduceEqDiff, reduceCtorEq, ↓cnd_true, ↓cnd_false]
    rw [outs_some]
    exact .inr ⟨by simp, rfl, by simp [Env.set, ed']⟩
  · have c1 : decide (((n / 10 : Nat) : Int) = 0) = false := by simp; omega
    simp only [b21, h0, h3, h4, w1, r1, r2, r3, r4, ha, m1, ho, st, c1, Nat.zero_add, List.length_append, List.length_replicate, rwA, rwB, Nat.reduceAdd, Nat.reduceMul, Nat.reduceLeDiff, Int.reduceEq, Int.reduceLT, Int.reduceLE, Int.reduceAdd, Int.reduceSub, Int.reduceMul, ↓reduceIte, Nat.reduceEqDiff, reduceCtorEq, ↓cnd_true, ↓cnd_false]
    rw [outs_some]
    refine .inl ⟨rfl, n / 10, by omega, dc d :: suf, ?_, by omega, by simp [Env.set], by simp [Env.set, h3], ?_, ?_⟩
    · rw [hd, dg_ge c, ed]; simp
    · have : 20 - (dc d :: suf).length = i := by simp; omega
      rw [this]; simp [Env.set]
    · have : 20 - (dc d :: suf).length = i := by simp; omega
      rw [this]; exact o1
theorem U21 {n : Nat} (hn : n < 18446744073709551616) (H : AHeap) : AC A 21 [.int .u64 (n : Int)] H = some (.str (dg n), H) := by
  refine one_val (x := NaFns.c21) rfl rfl rfl rfl rfl ?_ H
  obtain ⟨K, eK⟩ : ∃ K, noH.new (.cells (List.replicate 20 (by8 0)) true) = K := ⟨_, rfl⟩
  have o : K.obj 0 = some (.cells (List.replicate 20 (by8 0)) true) := by rw [← eK]; rfl
  have eK' : noH.new (.cells [.int .u8 0, .int .u8 0, .int .u8 0, .int .u8 0, .int .u8 0, .int .u8 0, .int .u8 0, .int .u8 0, .int .u8 0, .int .u8 0, .int .u8 0, .int .u8 0, .int .u8 0, .int .u8 0, .int .u8 0, .int .u8 0, .int .u8 0, .int .u8 0, .int .u8 0, .int .u8 0] true) = K := eK
  simp only [c21, eK', noH_next, rwA, rwB, Nat.reduceAdd, Nat.reduceMul, Nat.reduceLeDiff, Int.reduceEq, Int.reduceLT, Int.reduceLE, Int.reduceAdd, Int.reduceSub, Int.reduceMul, ↓reduceIte, Nat.reduceEqDiff, reduceCtorEq, ↓cnd_true, ↓cnd_false]
  repeat (first | refine outs_seq ?_ | refine outs_block ?_ | refine outs_step ?_ | refine outs_stepD ?_ | refine rets_end ?_ | refine ans_end ?_)
  refine (loop21 hn ?_ ?_ ?_ o).mono ?_
  · simp [Env.set, ainit]
  · simp [Env.set]
  · simp [Env.set]
  rintro e env K1 ⟨rfl, h2⟩
  simp only [outs_some, h2, rwA, rwB, Nat.reduceAdd, Nat.reduceMul, Nat.reduceLeDiff, Int.reduceEq, Int.reduceLT, Int.reduceLE, Int.reduceAdd, Int.reduceSub, Int.reduceMul, ↓reduceIte, Nat.reduceEqDiff, reduceCtorEq, ↓cnd_true, ↓cnd_false]

theorem U23 {x : Int} (h0 : -9223372036854775808 ≤ x) (h1 : x ≤ 9223372036854775807) (H : AHeap) : AC A 23 [.int .i64 x] H = some (.str (sg x), H) := by
  refine one_val (x := NaFns.c23) rfl rfl rfl rfl rfl ?_ H
  have u := fun M => U21 (n := x.natAbs) (by omega) M
  unfold sg
  by_cases c : x < 0
  · have c1 : decide (x < 0) = true := decide_eq_true c
    have w : IntKind.u64.wrap (-IntKind.u64.wrap x) = (x.natAbs : Int) := by rw [wrapU64, wrapU64]; omega
    have hl := dg_20 (n := x.natAbs) (by omega)
    have cat := cat_str (a := [45]) (b := dg x.natAbs) (by simp; omega)
    rw [if_pos c]
    simp only [c23, c1, w, u, cat, List.singleton_append, rwA, rwB, Nat.reduceAdd, Nat.reduceMul, Nat.reduceLeDiff, Int.reduceEq, Int.reduceLT, Int.reduceLE, Int.reduceAdd, Int.reduceSub, Int.reduceMul, ↓reduceIte, Nat.reduceEqDiff, reduceCtorEq, ↓cnd_true, ↓cnd_false]
  · have c1 : decide (x < 0) = false := decide_eq_false c
    have w : IntKind.u64.wrap x = (x.natAbs : Int) := by rw [wrapU64]; omega
    rw [if_neg c]
    simp only [c23, c1, w, u, rwA, rwB, Nat.reduceAdd, Nat.reduceMul, Nat.reduceLeDiff, Int.reduceEq, Int.reduceLT, Int.reduceLE, Int.reduceAdd, Int.reduceSub, Int.reduceMul, ↓reduceIte, Nat.reduceEqDiff, reduceCtorEq, ↓cnd_true, ↓cnd_false]
theorem U59 (s : List UInt8) (H : AHeap) : AC A 59 [.str s, .str [45]] H = some (.bool (cutm s).2, H) := by
  refine one_val (x := NaFns.c59) rfl rfl rfl rfl rfl ?_ H
  cases s with
  | nil =>
    have d0 : decide (((1 : Nat) : Int) ≤ ((0 : Nat) : Int)) = false := rfl
    simp only [c59, List.length_nil, List.length_singleton, d0, rwA, rwB, Nat.reduceAdd, Nat.reduceMul, Nat.reduceLeDiff, Int.reduceEq, Int.reduceLT, Int.reduceLE, Int.reduceAdd, Int.reduceSub, Int.reduceMul, ↓reduceIte, Nat.reduceEqDiff, reduceCtorEq, ↓cnd_true, ↓cnd_false]; rfl
  | cons a r =>
    have d0 : decide (((1 : Nat) : Int) ≤ ((a :: r).length : Int)) = true := by simp; omega
    have sl := slc_str_hi (a :: r) (n := 1) (by simp)
    have e : (cutm (a :: r)).2 = decide ([a] = [45]) := by unfold cutm; by_cases h : a = 45 <;> simp [h]
    rw [e]
    simp only [List.take_succ_cons, List.take_zero] at sl
    generalize a :: r = s at d0 sl
    simp only [c59, List.length_singleton, d0, sl, rwA, rwB, Nat.reduceAdd, Nat.reduceMul, Nat.reduceLeDiff, Int.reduceEq, Int.reduceLT, Int.reduceLE, Int.reduceAdd, Int.reduceSub, Int.reduceMul, ↓reduceIte, Nat.reduceEqDiff, reduceCtorEq, ↓cnd_true, ↓cnd_false]
theorem U39 (s : List UInt8) (H : AHeap) : AC A 39 [.str s, .str [45]] H = some (.tuple [.str (cutm s).1, .bool (cutm s).2], H) := by
  refine one_val (x := NaFns.c39) rfl rfl rfl rfl rfl ?_ H
  have u51 : ∀ M, AC A 51 [.str s, .str [45]] M = some (.tuple [.str (cutm s).1, .bool (cutm s).2], M) := by
    intro M
    refine one_val (x := NaFns.c51) rfl rfl rfl rfl rfl ?_ M
    have u := fun M => U59 s M
    cases h : (cutm s).2
    · have e : (cutm s).1 = s := by
        unfold cutm at h ⊢; cases s with
        | nil => rfl
        | cons a r => simp only at h ⊢; split at h <;> simp_all
      rw [h] at u
      simp only [c51, u, e, rwA, rwB, Nat.reduceAdd, Nat.reduceMul, Nat.reduceLeDiff, Int.reduceEq, Int.reduceLT, Int.reduceLE, Int.reduceAdd, Int.reduceSub, Int.reduceMul, ↓reduceIte, Nat.reduceEqDiff, reduceCtorEq, ↓cnd_true, ↓cnd_false]
    · have hs : ∃ r, s = 45 :: r ∧ (cutm s).1 = r := by
        unfold cutm at h ⊢; cases s with
        | nil => simp at h
        | cons a r => simp only at h ⊢; split at h <;> simp_all
      obtain ⟨r, e, er⟩ := hs
      rw [h] at u
      rw [er]
      have sl := slc_str_lo s (n := 1) (by rw [e]; simp)
      have e1 : s.drop 1 = r := by rw [e]; rfl
      rw [e1] at sl
      simp only [c51, u, sl, List.length_singleton, rwA, rwB, Nat.reduceAdd, Nat.reduceMul, Nat.reduceLeDiff, Int.reduceEq, Int.reduceLT, Int.reduceLE, Int.reduceAdd, Int.reduceSub, Int.reduceMul, ↓reduceIte, Nat.reduceEqDiff, reduceCtorEq, ↓cnd_true, ↓cnd_false]
  simp only [c39, u51, rwA, rwB, Nat.reduceAdd, Nat.reduceMul, Nat.reduceLeDiff, Int.reduceEq, Int.reduceLT, Int.reduceLE, Int.reduceAdd, Int.reduceSub, Int.reduceMul, ↓reduceIte, Nat.reduceEqDiff, reduceCtorEq, ↓cnd_true, ↓cnd_false]

/-! ### Number -/
def b17 : ACode := (.seq (.region [⟨(some 23), (.bin .lss (.tmp 22) (.tmp 21)), none, none⟩]) (.seq (.cond (.tmp 23) .skip (.exit 0)) (.seq (.block 1 (.seq (.region [⟨(some 24), (.idxASl 1 (.tmp 20) (.tmp 22)), none, none⟩, ⟨(some 25), (.load false 1 (.tmp 24)), none, none⟩, ⟨(some 6), (.mv (.tmp 25)), none, none⟩]) (.region [⟨(some 26), (.mv (.tmp 4)), none, none⟩, ⟨(some 27), (.bin .mul (.tmp 26) (.con (.int .u64 10))), none, none⟩, ⟨(some 28), (.mv (.tmp 6)), none, none⟩, ⟨(some 29), (.bin .sub (.tmp 28) (.con (.int .u8 48))), none, none⟩, ⟨(some 30), (.toInt .u64 (.tmp 29)), none, none⟩, ⟨(some 31), (.bin .add (.tmp 27) (.tmp 30)), none, none⟩, ⟨(some 4), (.mv (.tmp 31)), none, none⟩]))) (.region [⟨(some 32), (.bin .add (.tmp 22) (.con (.int .i64 1))), none, none⟩, ⟨(some 22), (.mv (.tmp 32)), none, none⟩]))))
theorem sub48 (c : UInt8) : IntKind.u64.wrap (IntKind.u8.wrap ((c.toNat : Int) - 48)) = (((c - 48).toNat : Nat) : Int) := by
  rw [wrapU8, wrapU64, UInt8.toNat_sub]
  have := c.toNat_lt
  have e : (48 : UInt8).toNat = 48 := rfl
  rw [e]; omega
theorem loop17 {s : List UInt8} (hn : s.length < 4611686018427387904) {H : AHeap} {v : AVal} (hs : Sl H 1 v (s.map by8)) {env : Env} (h0 : env 0 = .str s) (h4 : env 4 = .int .u64 0) (h20 : env 20 = v) (h21 : env 21 = .int .i64 (s.length : Int)) (h22 : env 22 = .int .i64 0) :
    Outs (AX A (.loop b17) env H) fun e env' K => e = .exit 0 ∧ env' 0 = .str s ∧ env' 4 = .int .u64 (rd s : Int) := by
  refine loop_ends (I := fun (i : Nat) env' K => K = H ∧ i ≤ s.length ∧ env' 0 = .str s ∧ env' 4 = .int .u64 (rd (s.take i) : Int) ∧ env' 20 = v ∧ env' 21 = .int .i64 (s.length : Int) ∧ env' 22 = .int .i64 (i : Int)) (fun i => s.length - i) ?_ 0 env H ⟨rfl, Nat.zero_le _, h0, h4, h20, h21, h22⟩
  rintro i env1 K ⟨rfl, hi, h0, h4, h20, h21, h22⟩
  by_cases c : i < s.length
  · have c1 : decide ((i : Int) < (s.length : Int)) = true := by simp; omega
    have w1 : IntKind.i64.wrap ((i : Int) + 1) = ((i + 1 : Nat) : Int) := by rw [wrap_i64]; omega
    obtain ⟨id, off, cap, g, k, own, rfl, ho, _, a1⟩ := hs.elem1 c
    have ha : aidx s.length (.int .i64 (i : Int)) = some i := by simp [aidx]; omega
    have hr : rd (s.take (i + 1)) = rdS (rd (s.take i)) s[i] := by
      rw [List.take_add_one, List.getElem?_eq_getElem c, Option.toList_some]; unfold rd; rw [List.foldl_append]; rfl
    have w2 : IntKind.u64.wrap (IntKind.u64.wrap ((rd (s.take i) : Int) * 10) + (((s[i] - 48).toNat : Nat) : Int)) = (rd (s.take (i + 1)) : Int) := by
      rw [hr, wrapU64, wrapU64]; unfold rdS; omega
    have s48 := sub48 s[i]
    unfold by8 at a1
    simp only [b17, h0, h4, h20, h21, h22, c1, ha, ho, a1, s48, w1, w2, rwA, rwB, Nat.reduceAdd, Nat.reduceMul, Nat.reduceLeDiff, Int.reduceEq, Int.reduceLT, Int.reduceLE, Int.reduceAdd, Int.reduceSub, Int.reduceMul, ↓reduceIte, Nat.reduceEqDiff, reduceCtorEq, ↓cnd_true, ↓cnd_false]
    rw [outs_some]
    exact .inl ⟨rfl, i + 1, by omega, rfl, by omega, by simp [Env.set, h0], by simp [Env.set], by simp [Env.set, h20], by simp [Env.set, h21], by simp [Env.set]⟩
  · have e : i = s.length := by omega
    subst e
    have c1 : decide ((s.length : Int) < (s.length : Int)) = false := by simp
    simp only [b17, h21, h22, c1, rwA, rwB, Nat.reduceAdd, Nat.reduceMul, Nat.reduceLeDiff, Int.reduceEq, Int.reduceLT, Int.reduceLE, Int.reduceAdd, Int.reduceSub, Int.reduceMul, ↓reduceIte, Nat.reduceEqDiff, reduceCtorEq, ↓cnd_true, ↓cnd_false]
    rw [outs_some]
    rw [List.take_length] at h4
    exact .inr ⟨by simp, rfl, by simp [Env.set, h0], by simp [Env.set, h4]⟩
theorem U17 {s : List UInt8} (hn : s.length < 4611686018427387904) (H : AHeap) : AC A 17 [.str s] H = some (.tuple [.int .u64 ((if nm s then rd s else 0 : Nat) : Int), .int .i64 (if nm s then 0 else 19)], H) := by
  refine one_val (x := NaFns.c17) rfl rfl rfl rfl rfl ?_ H
  have u37 := fun M => U37 (p := 38) (fun c H => U38 c H) hn M
  have hnm := nm_first s
  cases c0 : decide (s = []) <;> rw [c0] at hnm
  rotate_left
  · rw [hnm]
    simp only [c17, c0, Bool.not_true, Bool.false_and, Bool.false_eq_true, if_false, rwA, rwB, Nat.reduceAdd, Nat.reduceMul, Nat.reduceLeDiff, Int.reduceEq, Int.reduceLT, Int.reduceLE, Int.reduceAdd, Int.reduceSub, Int.reduceMul, ↓reduceIte, Nat.reduceEqDiff, reduceCtorEq, ↓cnd_true, ↓cnd_false]; rfl
  cases c1 : decide (s.length ≤ 20) <;> rw [c1] at hnm
  · have c1' : decide ((20 : Int) < (s.length : Int)) = true := by simp at c1; simp; omega
    rw [hnm]
    simp only [c17, c0, c1', Bool.not_false, Bool.false_and, Bool.true_and, Bool.false_eq_true, if_false, rwA, rwB, Nat.reduceAdd, Nat.reduceMul, Nat.reduceLeDiff, Int.reduceEq, Int.reduceLT, Int.reduceLE, Int.reduceAdd, Int.reduceSub, Int.reduceMul, ↓reduceIte, Nat.reduceEqDiff, reduceCtorEq, ↓cnd_true, ↓cnd_false]; rfl
  have c1' : decide ((20 : Int) < (s.length : Int)) = false := by simp at c1; simp; omega
  cases c2 : s.all digc <;> rw [c2] at hnm u37
  · rw [hnm]
    simp only [c17, c0, c1', u37, Bool.not_false, Bool.false_and, Bool.true_and, Bool.false_eq_true, if_false, rwA, rwB, Nat.reduceAdd, Nat.reduceMul, Nat.reduceLeDiff, Int.reduceEq, Int.reduceLT, Int.reduceLE, Int.reduceAdd, Int.reduceSub, Int.reduceMul, ↓reduceIte, Nat.reduceEqDiff, reduceCtorEq, ↓cnd_true, ↓cnd_false]; rfl
  have u21 := fun M => U21 (n := rd s) (rd_lt s) M
  obtain ⟨K, eK⟩ : ∃ K, noH.new (.cells (s.map by8) true) = K := ⟨_, rfl⟩
  have o : K.obj 0 = some (.cells (s.map by8) true) := by rw [← eK]; rfl
  have hs : Sl K 1 (.slice 0 0 s.length s.length (some 1)) (s.map by8) := .inr ⟨0, 0, s.length, s.length, some 1, rfl, by simp, .inr ⟨_, _, o, by simp, by simp [List.take_of_length_le]⟩⟩
  have eK' : noH.new (.cells (s.map fun b => .int .u8 (b.toNat : Int)) true) = K := eK
  simp only [c17, c0, c1', u37, eK', noH_next, rwA, rwB, Nat.reduceAdd, Nat.reduceMul, Nat.reduceLeDiff, Int.reduceEq, Int.reduceLT, Int.reduceLE, Int.reduceAdd, Int.reduceSub, Int.reduceMul, ↓reduceIte, Nat.reduceEqDiff, reduceCtorEq, ↓cnd_true, ↓cnd_false]
  repeat (first | refine outs_seq ?_ | refine outs_block ?_ | refine outs_step ?_ | refine outs_stepD ?_ | refine rets_end ?_ | refine ans_end ?_)
  refine (loop17 hn hs ?_ ?_ ?_ ?_ ?_).mono ?_
  · simp [Env.set, ainit]
  · simp [Env.set]
  · simp [Env.set]
  · simp [Env.set]
  · simp [Env.set]
  rintro e env K1 ⟨rfl, h0, h4⟩
  simp only [Bool.not_false, Bool.true_and] at hnm
  rw [hnm]
  cases c3 : decide (dg (rd s) = s)
  · simp only [outs_some, h0, h4, u21, c3, Bool.false_eq_true, if_false, rwA, rwB, Nat.reduceAdd, Nat.reduceMul, Nat.reduceLeDiff, Int.reduceEq, Int.reduceLT, Int.reduceLE, Int.reduceAdd, Int.reduceSub, Int.reduceMul, ↓reduceIte, Nat.reduceEqDiff, reduceCtorEq, ↓cnd_true, ↓cnd_false]; rfl
  · simp only [outs_some, h0, h4, u21, c3, if_true, rwA, rwB, Nat.reduceAdd, Nat.reduceMul, Nat.reduceLeDiff, Int.reduceEq, Int.reduceLT, Int.reduceLE, Int.reduceAdd, Int.reduceSub, Int.reduceMul, ↓reduceIte, Nat.reduceEqDiff, reduceCtorEq, ↓cnd_true, ↓cnd_false]

theorem U19 {s : List UInt8} (hn : s.length < 4611686018427387904) (H : AHeap) : AC A 19 [.str s] H = some (.tuple [.int .i64 (if wok s then wx s else 0), .int .i64 (if wok s then 0 else 19)], H) := by
  refine one_val (x := NaFns.c19) rfl rfl rfl rfl rfl ?_ H
  have hc : (cutm s).1.length < 4611686018427387904 := by
    have : (cutm s).1.length ≤ s.length := by
      unfold cutm; cases s with
      | nil => exact Nat.le_refl _
      | cons a r => simp only; split <;> simp
    omega
  have u39 := fun M => U39 s M
  have u17 := fun M => U17 hc M
  have hw := wrap_rng (if (cutm s).2 then IntKind.u64.wrap (-(nb s : Int)) else (nb s : Int))
  have u23 := fun M => U23 hw.1 hw.2 M
  have ex : IntKind.i64.wrap (if (cutm s).2 then IntKind.u64.wrap (-(nb s : Int)) else (nb s : Int)) = wx s := rfl
  rw [ex] at u23
  have en : (if nm (cutm s).1 = true then rd (cutm s).1 else 0) = nb s := rfl
  rw [en] at u17
  have hk : wok s = (nm (cutm s).1 && decide (sg (wx s) = s)) := rfl
  obtain ⟨d, ed⟩ : ∃ d, (cutm s).1 = d := ⟨_, rfl⟩
  rw [ed] at u39 u17 hk
  obtain ⟨n, enb⟩ : ∃ n, nb s = n := ⟨_, rfl⟩
  rw [enb] at u17 ex
  obtain ⟨x, exx⟩ : ∃ x, wx s = x := ⟨_, rfl⟩
  rw [exx] at u23 hk ex ⊢
  cases cb : (cutm s).2 <;> rw [cb] at u39 ex <;> cases cn : nm d <;> rw [cn] at u17 hk <;> simp only [if_true, Bool.false_eq_true, if_false] at u17 ex <;> cases c3 : decide (sg x = s) <;> rw [c3] at hk <;> rw [hk] <;>
    simp only [c19, u39, u17, u23, ex, c3, Bool.true_and, Bool.false_and, Bool.and_true, Bool.and_false, Bool.false_eq_true, if_true, if_false, rwA, rwB, Nat.reduceAdd, Nat.reduceMul, Nat.reduceLeDiff, Int.reduceEq, Int.reduceLT, Int.reduceLE, Int.reduceAdd, Int.reduceSub, Int.reduceMul, ↓reduceIte, Nat.reduceEqDiff, reduceCtorEq, ↓cnd_true, ↓cnd_false]

end Go.Proofs.YtfmjdlahabgkpaaDoor.Nm
end

section
/- NameNumbers: the law. -/
set_option maxRecDepth 100000
set_option linter.unusedSimpArgs false
set_option linter.unusedVariables false
set_option maxHeartbeats 4000000
namespace Go.Proofs.YtfmjdlahabgkpaaDoor.Nm
open Go Go.Proofs.YtfmjdlahabgkpaaDoor.Am NaFns Go.RowKit

theorem U6_is : (arun (acall A 400) A.fn 400 (some NaFns.c6) [] noH).map (·.1) = some (.bool true) := by kernel_rfl
theorem U6 (H : AHeap) : AC A 6 [] H = some (.bool true, H) := one_closed (x := NaFns.c6) rfl rfl rfl rfl rfl U6_is H

end Go.Proofs.YtfmjdlahabgkpaaDoor.Nm
end
