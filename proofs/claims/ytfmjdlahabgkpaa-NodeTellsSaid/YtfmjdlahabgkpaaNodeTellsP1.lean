/- Texts put together by program: YtfmjdlahabgkpaaSdFns, YtfmjdlahabgkpaaShelf, YtfmjdlahabgkpaaSdAll, YtfmjdlahabgkpaaSdTwo, YtfmjdlahabgkpaaSdThree, YtfmjdlahabgkpaaNoz, YtfmjdlahabgkpaaNoa. -/
import Derived.Test.YtfmjdlahabgkpaaChecked
import Derived.Shelf.Strings.Builder1
import Derived.Shelf.Strings.Builder2
import Derived.Shelf.Strings.BuilderF
import Derived.Shelf.Strings.BuilderK
import Derived.Shelf.Utf8.RuneCount
import Derived.Shelf.Strings.Builder2Cap
import Derived.Shelf.Strings.Search1
import Derived.Shelf.Strings.Search2
import Derived.Shelf.Strings.Search3
import Derived.Shelf.Strings.Count
import Derived.Shelf.LaysM
import Derived.Shelf.Strings.Shaped
import Derived.Shelf.Strings.Prefix
import Derived.Shelf.Strings.Split
import Derived.Shelf.Strings.RuneCount
import Derived.Shelf.Bits.Mul64
import Derived.Shelf.Strings.Repeat
import Derived.Shelf.Strings.BuilderCap
import Derived.Ground.Names2Prog
import Derived.Shelf.Slices.Clone
import Derived.Ground.SlgnProg
import Derived.Shelf.SlicesE.Clone
import Derived.Test.YtfmjdlahabgkpaaProg
import Derived.Test.YtfmjdlahabgkpaaPm3
section
/- The code of the functions that are reached, resolved for the abstract machine: each is what the program's own function resolves to. Printed by program. -/
set_option maxRecDepth 100000
namespace Go.Proofs.Ytfmjdlahabgkpaa.SdFns
open Go Go.Proofs.Ytfmjdlahabgkpaa.Am
def c6 : AFn := ⟨(.seq (.region [⟨some 2, (.box (.tmp 0)), none, none⟩, ⟨some 4, (.mv (.con (.bool false))), none, none⟩]) (.seq (.seq (.region [⟨some 14, (.load true 2 (.tmp 2)), none, none⟩, ⟨some 15, (.call (.con (.func 22 [] [])) [.tmp 14]), none, none⟩, ⟨some 16, (.un .not (.tmp 15)), none, none⟩, ⟨some 17, (.mv (.tmp 16)), none, none⟩, ⟨some 18, (.mv (.tmp 1)), (some (17, false)), none⟩, ⟨some 19, (.len true (.tmp 18)), (some (17, false)), none⟩, ⟨some 20, (.bin .gtr (.tmp 19) (.con (.int .i64 4096))), (some (17, false)), none⟩, ⟨some 21, (.pick (.tmp 17) (.con (.bool true)) (.tmp 20)), none, none⟩]) (.cond (.tmp 21) (.seq (.region [⟨some 22, (.call (.con (.func 23 [] [])) []), none, none⟩, ⟨some 4, (.mv (.tmp 22)), none, none⟩]) .ret) .skip)) (.seq (.region [⟨some 24, (.load true 2 (.tmp 2)), none, none⟩, ⟨some 25, (.call (.con (.func 25 [] [])) [.tmp 24]), none, none⟩, ⟨some 26, (.call (.con (.func 24 [] [])) [.tmp 25]), none, none⟩, ⟨some 23, (.mv (.tmp 26)), none, none⟩, ⟨some 27, (.extract (.tmp 23) 0), none, none⟩, ⟨some 28, (.extract (.tmp 23) 1), none, none⟩, ⟨some 5, (.mv (.tmp 27)), none, none⟩, ⟨some 6, (.mv (.tmp 28)), none, none⟩]) (.seq (.region [⟨some 30, (.load true 2 (.tmp 2)), none, none⟩, ⟨some 31, (.call (.con (.func 26 [] [])) [.tmp 30]), none, none⟩, ⟨some 29, (.mv (.tmp 31)), none, none⟩, ⟨some 32, (.extract (.tmp 29) 0), none, none⟩, ⟨some 33, (.extract (.tmp 29) 1), none, none⟩, ⟨some 7, (.mv (.tmp 32)), none, none⟩, ⟨some 8, (.mv (.tmp 33)), none, none⟩]) (.seq (.region [⟨some 35, (.mv (.tmp 1)), none, none⟩, ⟨some 36, (.call (.con (.func 27 [] [])) [.tmp 35]), none, none⟩, ⟨some 34, (.mv (.tmp 36)), none, none⟩, ⟨some 37, (.extract (.tmp 34) 0), none, none⟩, ⟨some 38, (.extract (.tmp 34) 1), none, none⟩, ⟨some 9, (.new [.nils, .nils]), none, none⟩, ⟨none, (.store 2 (.tmp 9) (.tmp 37)), none, none⟩, ⟨some 10, (.mv (.tmp 38)), none, none⟩]) (.seq (.region [⟨some 40, (.mv (.tmp 1)), none, none⟩, ⟨some 41, (.call (.con (.func 28 [] [])) [.tmp 40]), none, none⟩, ⟨some 39, (.mv (.tmp 41)), none, none⟩, ⟨some 42, (.extract (.tmp 39) 0), none, none⟩, ⟨some 43, (.extract (.tmp 39) 1), none, none⟩, ⟨some 11, (.new [.nils, .nils]), none, none⟩, ⟨none, (.store 2 (.tmp 11) (.tmp 42)), none, none⟩, ⟨some 12, (.mv (.tmp 43)), none, none⟩]) (.seq (.region [⟨some 44, (.load true 2 (.tmp 2)), none, none⟩, ⟨some 45, (.call (.con (.func 25 [] [])) [.tmp 44]), none, none⟩, ⟨some 46, (.call (.con (.func 29 [] [])) [.tmp 45]), none, none⟩, ⟨some 13, (.mv (.tmp 46)), none, none⟩]) (.seq (.draw [⟨some 47, (.call (.con (.func 23 [] [])) []), none, none⟩, ⟨some 48, (.mv (.tmp 47)), none, none⟩, ⟨some 49, (.mv (.tmp 5)), (some (48, true)), none⟩, ⟨some 50, (.mv (.tmp 7)), (some (48, true)), none⟩, ⟨some 51, (.bin .eql (.tmp 49) (.tmp 50)), (some (48, true)), none⟩, ⟨some 52, (.pick (.tmp 48) (.tmp 51) (.con (.bool false))), none, none⟩, ⟨some 53, (.mv (.tmp 52)), none, none⟩, ⟨some 54, (.mv (.tmp 6)), (some (53, true)), none⟩, ⟨some 55, (.mv (.tmp 8)), (some (53, true)), none⟩, ⟨some 56, (.bin .eql (.tmp 54) (.tmp 55)), (some (53, true)), none⟩, ⟨some 57, (.pick (.tmp 53) (.tmp 56) (.con (.bool false))), none, none⟩, ⟨some 58, (.mv (.tmp 57)), none, none⟩, ⟨some 59, (.load true 2 (.tmp 9)), (some (58, true)), none⟩, ⟨some 60, (.load true 2 (.tmp 11)), (some (58, true)), none⟩, ⟨some 61, (.call (.con (.func 30 [] [])) [.tmp 59, .tmp 60]), (some (58, true)), none⟩, ⟨some 62, (.pick (.tmp 58) (.tmp 61) (.con (.bool false))), none, none⟩, ⟨some 63, (.mv (.tmp 62)), none, none⟩, ⟨some 64, (.mv (.tmp 10)), (some (63, true)), none⟩, ⟨some 65, (.mv (.tmp 12)), (some (63, true)), none⟩, ⟨some 66, (.bin .eql (.tmp 64) (.tmp 65)), (some (63, true)), none⟩, ⟨some 67, (.pick (.tmp 63) (.tmp 66) (.con (.bool false))), none, none⟩, ⟨some 68, (.mv (.tmp 67)), none, none⟩, ⟨some 69, (.load true 2 (.tmp 2)), (some (68, true)), none⟩, ⟨some 70, (.call (.con (.func 25 [] [])) [.tmp 69]), (some (68, true)), none⟩, ⟨some 71, (.call (.con (.func 31 [] [])) [.tmp 70]), (some (68, true)), none⟩, ⟨some 72, (.load true 2 (.tmp 2)), (some (68, true)), (some (2, 4))⟩, ⟨some 73, (.call (.con (.func 32 [] [])) [.tmp 72]), (some (68, true)), none⟩, ⟨some 74, (.bin .eql (.tmp 71) (.tmp 73)), (some (68, true)), none⟩, ⟨some 75, (.pick (.tmp 68) (.tmp 74) (.con (.bool false))), none, none⟩, ⟨some 76, (.mv (.tmp 75)), none, none⟩, ⟨some 77, (.mv (.tmp 13)), (some (76, true)), none⟩, ⟨some 78, (.bin .eql (.tmp 77) (.con (.int .i64 0))), (some (76, true)), none⟩, ⟨some 79, (.load true 2 (.tmp 2)), (some (76, true)), none⟩, ⟨some 80, (.call (.con (.func 33 [] [])) [.tmp 79]), (some (76, true)), none⟩, ⟨some 81, (.eq false .bool (.tmp 78) (.tmp 80)), (some (76, true)), none⟩, ⟨some 82, (.pick (.tmp 76) (.tmp 81) (.con (.bool false))), none, none⟩, ⟨some 83, (.mv (.tmp 82)), none, none⟩, ⟨some 84, (.mv (.tmp 13)), (some (83, true)), none⟩, ⟨some 85, (.bin .eql (.tmp 84) (.con (.int .i64 0))), (some (83, true)), none⟩, ⟨some 86, (.mv (.tmp 85)), (some (83, true)), none⟩, ⟨some 87, (.mv (.tmp 13)), (some (86, false)), none⟩, ⟨some 88, (.bin .eql (.tmp 87) (.con (.int .i64 18))), (some (86, false)), none⟩, ⟨some 89, (.pick (.tmp 86) (.con (.bool true)) (.tmp 88)), (some (83, true)), none⟩, ⟨some 90, (.pick (.tmp 83) (.tmp 89) (.con (.bool false))), none, none⟩, ⟨some 4, (.mv (.tmp 90)), none, none⟩]) .ret)))))))), [.tmp 4]⟩
theorem c6_is : cfn Try.prog 6 = some c6 := by kernel_rfl
def c7 : AFn := ⟨(.seq (.region [⟨some 4, (.box (.tmp 0)), none, none⟩, ⟨some 5, (.box (.tmp 1)), none, none⟩, ⟨some 7, (.box (.tmp 3)), none, none⟩, ⟨some 8, (.mv (.con (.bool false))), none, none⟩]) (.seq (.seq (.region [⟨some 23, (.load true 2 (.tmp 4)), none, none⟩, ⟨some 24, (.call (.con (.func 22 [] [])) [.tmp 23]), none, none⟩, ⟨some 25, (.un .not (.tmp 24)), none, none⟩, ⟨some 26, (.mv (.tmp 25)), none, none⟩, ⟨some 27, (.load true 2 (.tmp 5)), (some (26, false)), none⟩, ⟨some 28, (.call (.con (.func 22 [] [])) [.tmp 27]), (some (26, false)), none⟩, ⟨some 29, (.un .not (.tmp 28)), (some (26, false)), none⟩, ⟨some 30, (.pick (.tmp 26) (.con (.bool true)) (.tmp 29)), none, none⟩, ⟨some 31, (.mv (.tmp 30)), none, none⟩, ⟨some 32, (.fieldA 0 (.tmp 4)), (some (31, false)), none⟩, ⟨some 33, (.load false 1 (.tmp 32)), (some (31, false)), none⟩, ⟨some 34, (.call (.con (.func 34 [] [])) [.tmp 33]), (some (31, false)), none⟩, ⟨some 35, (.un .not (.tmp 34)), (some (31, false)), none⟩, ⟨some 36, (.pick (.tmp 31) (.con (.bool true)) (.tmp 35)), none, none⟩, ⟨some 37, (.mv (.tmp 36)), none, none⟩, ⟨some 38, (.fieldA 0 (.tmp 5)), (some (37, false)), none⟩, ⟨some 39, (.load false 1 (.tmp 38)), (some (37, false)), none⟩, ⟨some 40, (.call (.con (.func 34 [] [])) [.tmp 39]), (some (37, false)), none⟩, ⟨some 41, (.un .not (.tmp 40)), (some (37, false)), none⟩, ⟨some 42, (.pick (.tmp 37) (.con (.bool true)) (.tmp 41)), none, none⟩]) (.cond (.tmp 42) (.seq (.region [⟨some 43, (.call (.con (.func 23 [] [])) []), none, none⟩, ⟨some 8, (.mv (.tmp 43)), none, none⟩]) .ret) .skip)) (.seq (.region [⟨some 45, (.load true 2 (.tmp 4)), none, none⟩, ⟨some 46, (.call (.con (.func 25 [] [])) [.tmp 45]), none, none⟩, ⟨some 47, (.mv (.tmp 2)), none, none⟩, ⟨some 48, (.call (.con (.func 35 [] [])) [.tmp 46, .tmp 47]), none, none⟩, ⟨some 44, (.mv (.tmp 48)), none, none⟩, ⟨some 49, (.extract (.tmp 44) 0), none, none⟩, ⟨some 50, (.extract (.tmp 44) 1), none, none⟩, ⟨some 9, (.mv (.tmp 49)), none, none⟩, ⟨some 10, (.mv (.tmp 50)), none, none⟩]) (.seq (.region [⟨some 52, (.load true 2 (.tmp 4)), none, none⟩, ⟨some 53, (.mv (.tmp 2)), none, none⟩, ⟨some 54, (.call (.con (.func 36 [] [])) [.tmp 52, .tmp 53]), none, none⟩, ⟨some 51, (.mv (.tmp 54)), none, none⟩, ⟨some 55, (.extract (.tmp 51) 0), none, none⟩, ⟨some 56, (.extract (.tmp 51) 1), none, none⟩, ⟨some 11, (.mv (.tmp 55)), none, none⟩, ⟨some 12, (.mv (.tmp 56)), none, none⟩]) (.seq (.region [⟨some 58, (.load true 2 (.tmp 4)), none, none⟩, ⟨some 59, (.call (.con (.func 25 [] [])) [.tmp 58]), none, none⟩, ⟨some 60, (.call (.con (.func 37 [] [])) [.tmp 59]), none, none⟩, ⟨some 57, (.mv (.tmp 60)), none, none⟩, ⟨some 61, (.extract (.tmp 57) 0), none, none⟩, ⟨some 62, (.extract (.tmp 57) 1), none, none⟩, ⟨some 63, (.extract (.tmp 57) 2), none, none⟩, ⟨some 13, (.new [.nils, .nils]), none, none⟩, ⟨some 15, (.new [.nils, .nils]), none, none⟩, ⟨none, (.store 2 (.tmp 13) (.tmp 61)), none, none⟩, ⟨some 14, (.mv (.tmp 62)), none, none⟩, ⟨none, (.store 2 (.tmp 15) (.tmp 63)), none, none⟩]) (.seq (.region [⟨some 65, (.load true 2 (.tmp 4)), none, none⟩, ⟨some 66, (.call (.con (.func 38 [] [])) [.tmp 65]), none, none⟩, ⟨some 64, (.mv (.tmp 66)), none, none⟩, ⟨some 67, (.extract (.tmp 64) 0), none, none⟩, ⟨some 68, (.extract (.tmp 64) 1), none, none⟩, ⟨some 69, (.extract (.tmp 64) 2), none, none⟩, ⟨some 16, (.new [.nils, .nils]), none, none⟩, ⟨some 18, (.new [.nils, .nils]), none, none⟩, ⟨none, (.store 2 (.tmp 16) (.tmp 67)), none, none⟩, ⟨some 17, (.mv (.tmp 68)), none, none⟩, ⟨none, (.store 2 (.tmp 18) (.tmp 69)), none, none⟩]) (.seq (.draw [⟨some 71, (.load true 2 (.tmp 4)), none, none⟩, ⟨some 72, (.call (.con (.func 25 [] [])) [.tmp 71]), none, none⟩, ⟨some 73, (.mv (.tmp 2)), none, none⟩, ⟨some 74, (.load true 2 (.tmp 5)), none, (some (0, 1))⟩, ⟨some 75, (.call (.con (.func 25 [] [])) [.tmp 74]), none, none⟩, ⟨some 76, (.call (.con (.func 39 [] [])) [.tmp 72, .tmp 73, .tmp 75]), none, none⟩, ⟨some 70, (.mv (.tmp 76)), none, none⟩, ⟨some 77, (.extract (.tmp 70) 0), none, none⟩, ⟨some 78, (.extract (.tmp 70) 1), none, none⟩, ⟨some 19, (.new [.nils, .nils]), none, none⟩, ⟨none, (.store 2 (.tmp 19) (.tmp 77)), none, none⟩, ⟨some 20, (.mv (.tmp 78)), none, none⟩]) (.seq (.region [⟨some 80, (.load true 2 (.tmp 4)), none, none⟩, ⟨some 81, (.mv (.tmp 2)), none, none⟩, ⟨some 82, (.load true 2 (.tmp 5)), none, none⟩, ⟨some 83, (.call (.con (.func 40 [] [])) [.tmp 80, .tmp 81, .tmp 82]), none, none⟩, ⟨some 79, (.mv (.tmp 83)), none, none⟩, ⟨some 84, (.extract (.tmp 79) 0), none, none⟩, ⟨some 85, (.extract (.tmp 79) 1), none, none⟩, ⟨some 21, (.new [.nils, .nils]), none, none⟩, ⟨none, (.store 2 (.tmp 21) (.tmp 84)), none, none⟩, ⟨some 22, (.mv (.tmp 85)), none, none⟩]) (.seq (.draw [⟨some 86, (.call (.con (.func 23 [] [])) []), none, none⟩, ⟨some 87, (.mv (.tmp 86)), none, none⟩, ⟨some 88, (.mv (.tmp 9)), (some (87, true)), none⟩, ⟨some 89, (.mv (.tmp 11)), (some (87, true)), none⟩, ⟨some 90, (.bin .eql (.tmp 88) (.tmp 89)), (some (87, true)), none⟩, ⟨some 91, (.pick (.tmp 87) (.tmp 90) (.con (.bool false))), none, none⟩, ⟨some 92, (.mv (.tmp 91)), none, none⟩, ⟨some 93, (.mv (.tmp 10)), (some (92, true)), none⟩, ⟨some 94, (.mv (.tmp 12)), (some (92, true)), none⟩, ⟨some 95, (.eq false .bool (.tmp 93) (.tmp 94)), (some (92, true)), none⟩, ⟨some 96, (.pick (.tmp 92) (.tmp 95) (.con (.bool false))), none, none⟩, ⟨some 97, (.mv (.tmp 96)), none, none⟩, ⟨some 98, (.load true 2 (.tmp 4)), (some (97, true)), none⟩, ⟨some 99, (.call (.con (.func 25 [] [])) [.tmp 98]), (some (97, true)), none⟩, ⟨some 100, (.load true 2 (.tmp 7)), (some (97, true)), (some (1, 2))⟩, ⟨some 101, (.call (.con (.func 41 [] [])) [.tmp 99, .tmp 100]), (some (97, true)), none⟩, ⟨some 102, (.load true 2 (.tmp 4)), (some (97, true)), (some (1, 3))⟩, ⟨some 103, (.load true 2 (.tmp 7)), (some (97, true)), (some (1, 3))⟩, ⟨some 104, (.call (.con (.func 42 [] [])) [.tmp 102, .tmp 103]), (some (97, true)), none⟩, ⟨some 105, (.call (.con (.func 30 [] [])) [.tmp 101, .tmp 104]), (some (97, true)), none⟩, ⟨some 106, (.pick (.tmp 97) (.tmp 105) (.con (.bool false))), none, none⟩, ⟨some 107, (.mv (.tmp 106)), none, none⟩, ⟨some 108, (.load true 2 (.tmp 13)), (some (107, true)), none⟩, ⟨some 109, (.load true 2 (.tmp 16)), (some (107, true)), none⟩, ⟨some 110, (.call (.con (.func 30 [] [])) [.tmp 108, .tmp 109]), (some (107, true)), none⟩, ⟨some 111, (.pick (.tmp 107) (.tmp 110) (.con (.bool false))), none, none⟩, ⟨some 112, (.mv (.tmp 111)), none, none⟩, ⟨some 113, (.mv (.tmp 14)), (some (112, true)), none⟩, ⟨some 114, (.mv (.tmp 17)), (some (112, true)), none⟩, ⟨some 115, (.bin .eql (.tmp 113) (.tmp 114)), (some (112, true)), none⟩, ⟨some 116, (.pick (.tmp 112) (.tmp 115) (.con (.bool false))), none, none⟩, ⟨some 117, (.mv (.tmp 116)), none, none⟩, ⟨some 118, (.load true 2 (.tmp 15)), (some (117, true)), none⟩, ⟨some 119, (.load true 2 (.tmp 18)), (some (117, true)), none⟩, ⟨some 120, (.call (.con (.func 30 [] [])) [.tmp 118, .tmp 119]), (some (117, true)), none⟩, ⟨some 121, (.pick (.tmp 117) (.tmp 120) (.con (.bool false))), none, none⟩, ⟨some 122, (.mv (.tmp 121)), none, none⟩, ⟨some 123, (.load true 2 (.tmp 19)), (some (122, true)), none⟩, ⟨some 124, (.load true 2 (.tmp 21)), (some (122, true)), none⟩, ⟨some 125, (.call (.con (.func 30 [] [])) [.tmp 123, .tmp 124]), (some (122, true)), none⟩, ⟨some 126, (.pick (.tmp 122) (.tmp 125) (.con (.bool false))), none, none⟩, ⟨some 127, (.mv (.tmp 126)), none, none⟩, ⟨some 128, (.mv (.tmp 20)), (some (127, true)), none⟩, ⟨some 129, (.mv (.tmp 22)), (some (127, true)), none⟩, ⟨some 130, (.eq false .bool (.tmp 128) (.tmp 129)), (some (127, true)), none⟩, ⟨some 131, (.pick (.tmp 127) (.tmp 130) (.con (.bool false))), none, none⟩, ⟨some 8, (.mv (.tmp 131)), none, none⟩]) .ret))))))))), [.tmp 8]⟩
theorem c7_is : cfn Try.prog 7 = some c7 := by kernel_rfl
def c8 : AFn := ⟨(.seq (.region [⟨some 2, (.box (.tmp 0)), none, none⟩, ⟨some 3, (.box (.tmp 1)), none, none⟩, ⟨some 4, (.mv (.con (.bool false))), none, none⟩]) (.seq (.seq (.region [⟨some 18, (.call (.con (.func 23 [] [])) []), none, none⟩, ⟨some 19, (.un .not (.tmp 18)), none, none⟩]) (.cond (.tmp 19) (.seq (.region [⟨some 4, (.mv (.con (.bool false))), none, none⟩]) .ret) .skip)) (.seq (.seq (.region [⟨some 20, (.load true 2 (.tmp 2)), none, none⟩, ⟨some 21, (.call (.con (.func 22 [] [])) [.tmp 20]), none, none⟩, ⟨some 22, (.un .not (.tmp 21)), none, none⟩, ⟨some 23, (.mv (.tmp 22)), none, none⟩, ⟨some 24, (.load true 2 (.tmp 2)), (some (23, false)), none⟩, ⟨some 25, (.call (.con (.func 25 [] [])) [.tmp 24]), (some (23, false)), none⟩, ⟨some 26, (.call (.con (.func 29 [] [])) [.tmp 25]), (some (23, false)), none⟩, ⟨some 27, (.bin .neq (.tmp 26) (.con (.int .i64 0))), (some (23, false)), none⟩, ⟨some 28, (.pick (.tmp 23) (.con (.bool true)) (.tmp 27)), none, none⟩]) (.cond (.tmp 28) (.seq (.region [⟨some 4, (.mv (.con (.bool true))), none, none⟩]) .ret) .skip)) (.seq (.region [⟨some 30, (.load true 2 (.tmp 2)), none, none⟩, ⟨some 31, (.call (.con (.func 25 [] [])) [.tmp 30]), none, none⟩, ⟨some 32, (.call (.con (.func 24 [] [])) [.tmp 31]), none, none⟩, ⟨some 29, (.mv (.tmp 32)), none, none⟩, ⟨some 33, (.extract (.tmp 29) 0), none, none⟩, ⟨some 34, (.extract (.tmp 29) 1), none, none⟩, ⟨some 5, (.mv (.tmp 33)), none, none⟩, ⟨some 6, (.mv (.tmp 34)), none, none⟩]) (.seq (.region [⟨some 36, (.mv (.tmp 5)), none, none⟩, ⟨some 37, (.call (.con (.func 27 [] [])) [.tmp 36]), none, none⟩, ⟨some 35, (.mv (.tmp 37)), none, none⟩, ⟨some 38, (.extract (.tmp 35) 0), none, none⟩, ⟨some 39, (.extract (.tmp 35) 1), none, none⟩, ⟨some 7, (.new [.nils, .nils]), none, none⟩, ⟨none, (.store 2 (.tmp 7) (.tmp 38)), none, none⟩, ⟨some 8, (.mv (.tmp 39)), none, none⟩]) (.seq (.seq (.region [⟨some 40, (.mv (.tmp 6)), none, none⟩, ⟨some 41, (.bin .neq (.tmp 40) (.con (.int .i64 0))), none, none⟩, ⟨some 42, (.mv (.tmp 41)), none, none⟩, ⟨some 43, (.mv (.tmp 8)), (some (42, false)), none⟩, ⟨some 44, (.bin .neq (.tmp 43) (.con (.int .i64 0))), (some (42, false)), none⟩, ⟨some 45, (.pick (.tmp 42) (.con (.bool true)) (.tmp 44)), none, none⟩, ⟨some 46, (.mv (.tmp 45)), none, none⟩, ⟨some 47, (.load true 2 (.tmp 7)), (some (46, false)), none⟩, ⟨some 48, (.load true 2 (.tmp 2)), (some (46, false)), none⟩, ⟨some 49, (.call (.con (.func 30 [] [])) [.tmp 47, .tmp 48]), (some (46, false)), none⟩, ⟨some 50, (.un .not (.tmp 49)), (some (46, false)), none⟩, ⟨some 51, (.pick (.tmp 46) (.con (.bool true)) (.tmp 50)), none, none⟩]) (.cond (.tmp 51) (.seq (.region [⟨some 4, (.mv (.con (.bool false))), none, none⟩]) .ret) .skip)) (.seq (.region [⟨some 52, (.load true 2 (.tmp 3)), none, none⟩, ⟨some 53, (.buildT 64 1 [(.str []), (.str [])] [(0, (2, (.tmp 52)))]), none, none⟩, ⟨some 54, (.build [.nils, .nils] [(0, (1, (.tmp 53)))]), none, none⟩, ⟨some 9, (.new [.nils, .nils]), none, none⟩, ⟨none, (.store 2 (.tmp 9) (.tmp 54)), none, none⟩]) (.seq (.seq (.region [⟨some 55, (.fieldA 1 (.tmp 2)), none, none⟩, ⟨some 56, (.load false 1 (.tmp 55)), none, none⟩, ⟨some 57, (.len false (.tmp 56)), none, none⟩, ⟨some 58, (.bin .gtr (.tmp 57) (.con (.int .i64 0))), none, none⟩, ⟨some 59, (.mv (.tmp 58)), none, none⟩, ⟨some 60, (.load true 2 (.tmp 9)), (some (59, false)), none⟩, ⟨some 61, (.call (.con (.func 29 [] [])) [.tmp 60]), (some (59, false)), none⟩, ⟨some 62, (.bin .neq (.tmp 61) (.con (.int .i64 0))), (some (59, false)), none⟩, ⟨some 63, (.pick (.tmp 59) (.con (.bool true)) (.tmp 62)), none, none⟩]) (.cond (.tmp 63) (.seq (.region [⟨some 4, (.mv (.con (.bool true))), none, none⟩]) .ret) .skip)) (.seq (.draw [⟨some 64, (.load true 2 (.tmp 2)), none, none⟩, ⟨some 65, (.call (.con (.func 25 [] [])) [.tmp 64]), none, none⟩, ⟨some 66, (.load true 2 (.tmp 3)), none, (some (0, 1))⟩, ⟨some 67, (.call (.con (.func 41 [] [])) [.tmp 65, .tmp 66]), none, none⟩, ⟨some 10, (.new [.nils, .nils]), none, none⟩, ⟨none, (.store 2 (.tmp 10) (.tmp 67)), none, none⟩]) (.seq (.seq (.region [⟨some 69, (.load true 2 (.tmp 10)), none, none⟩, ⟨some 70, (.fieldA 0 (.tmp 3)), none, none⟩, ⟨some 71, (.load false 1 (.tmp 70)), none, none⟩, ⟨some 72, (.call (.con (.func 35 [] [])) [.tmp 69, .tmp 71]), none, none⟩, ⟨some 68, (.mv (.tmp 72)), none, none⟩, ⟨some 73, (.extract (.tmp 68) 0), none, none⟩, ⟨some 74, (.extract (.tmp 68) 1), none, none⟩, ⟨some 11, (.mv (.tmp 73)), none, none⟩, ⟨some 12, (.mv (.tmp 74)), none, none⟩]) (.seq (.draw [⟨some 75, (.mv (.tmp 12)), none, none⟩, ⟨some 76, (.un .not (.tmp 75)), none, none⟩, ⟨some 77, (.mv (.tmp 76)), none, none⟩, ⟨some 78, (.fieldA 0 (.tmp 10)), (some (77, false)), none⟩, ⟨some 79, (.load false 1 (.tmp 78)), (some (77, false)), none⟩, ⟨some 80, (.len false (.tmp 79)), (some (77, false)), none⟩, ⟨some 81, (.fieldA 0 (.tmp 2)), (some (77, false)), none⟩, ⟨some 82, (.load false 1 (.tmp 81)), (some (77, false)), none⟩, ⟨some 83, (.len false (.tmp 82)), (some (77, false)), none⟩, ⟨some 84, (.bin .lss (.tmp 80) (.tmp 83)), (some (77, false)), none⟩, ⟨some 85, (.pick (.tmp 77) (.con (.bool true)) (.tmp 84)), none, none⟩, ⟨some 86, (.mv (.tmp 85)), none, none⟩, ⟨some 87, (.fieldA 0 (.tmp 10)), (some (86, false)), none⟩, ⟨some 88, (.load false 1 (.tmp 87)), (some (86, false)), none⟩, ⟨some 89, (.len false (.tmp 88)), (some (86, false)), none⟩, ⟨some 90, (.fieldA 0 (.tmp 2)), (some (86, false)), none⟩, ⟨some 91, (.load false 1 (.tmp 90)), (some (86, false)), none⟩, ⟨some 92, (.len false (.tmp 91)), (some (86, false)), none⟩, ⟨some 93, (.bin .add (.tmp 92) (.con (.int .i64 1))), (some (86, false)), none⟩, ⟨some 94, (.bin .gtr (.tmp 89) (.tmp 93)), (some (86, false)), none⟩, ⟨some 95, (.pick (.tmp 86) (.con (.bool true)) (.tmp 94)), none, none⟩, ⟨some 96, (.mv (.tmp 95)), none, none⟩, ⟨some 97, (.load true 2 (.tmp 10)), (some (96, false)), none⟩, ⟨some 98, (.call (.con (.func 31 [] [])) [.tmp 97]), (some (96, false)), none⟩, ⟨some 99, (.load true 2 (.tmp 2)), (some (96, false)), (some (0, 1))⟩, ⟨some 100, (.call (.con (.func 25 [] [])) [.tmp 99]), (some (96, false)), none⟩, ⟨some 101, (.call (.con (.func 31 [] [])) [.tmp 100]), (some (96, false)), none⟩, ⟨some 102, (.load true 2 (.tmp 9)), (some (96, false)), (some (0, 3))⟩, ⟨some 103, (.call (.con (.func 31 [] [])) [.tmp 102]), (some (96, false)), none⟩, ⟨some 104, (.bin .add (.tmp 101) (.tmp 103)), (some (96, false)), none⟩, ⟨some 105, (.bin .gtr (.tmp 98) (.tmp 104)), (some (96, false)), none⟩, ⟨some 106, (.pick (.tmp 96) (.con (.bool true)) (.tmp 105)), none, none⟩]) (.cond (.tmp 106) (.seq (.region [⟨some 4, (.mv (.con (.bool false))), none, none⟩]) .ret) .skip))) (.seq (.seq (.region [⟨some 107, (.load true 2 (.tmp 10)), none, none⟩, ⟨some 108, (.call (.con (.func 29 [] [])) [.tmp 107]), none, none⟩, ⟨some 109, (.bin .neq (.tmp 108) (.con (.int .i64 0))), none, none⟩, ⟨some 110, (.mv (.tmp 109)), none, none⟩, ⟨some 111, (.load true 2 (.tmp 10)), (some (110, true)), none⟩, ⟨some 112, (.call (.con (.func 31 [] [])) [.tmp 111]), (some (110, true)), none⟩, ⟨some 113, (.bin .leq (.tmp 112) (.con (.int .i64 480))), (some (110, true)), none⟩, ⟨some 114, (.pick (.tmp 110) (.tmp 113) (.con (.bool false))), none, none⟩, ⟨some 115, (.mv (.tmp 114)), none, none⟩, ⟨some 116, (.fieldA 0 (.tmp 10)), (some (115, false)), none⟩, ⟨some 117, (.load false 1 (.tmp 116)), (some (115, false)), none⟩, ⟨some 118, (.len false (.tmp 117)), (some (115, false)), none⟩, ⟨some 119, (.bin .lss (.tmp 118) (.con (.int .i64 2))), (some (115, false)), none⟩, ⟨some 120, (.pick (.tmp 115) (.con (.bool true)) (.tmp 119)), none, none⟩]) (.cond (.tmp 120) (.seq (.region [⟨some 121, (.fieldA 0 (.tmp 10)), none, none⟩, ⟨some 122, (.load false 1 (.tmp 121)), none, none⟩, ⟨some 123, (.len false (.tmp 122)), none, none⟩, ⟨some 124, (.bin .eql (.tmp 123) (.con (.int .i64 1))), none, none⟩, ⟨some 125, (.mv (.tmp 124)), none, none⟩, ⟨some 126, (.load true 2 (.tmp 10)), (some (125, true)), none⟩, ⟨some 127, (.call (.con (.func 29 [] [])) [.tmp 126]), (some (125, true)), none⟩, ⟨some 128, (.bin .eql (.tmp 127) (.con (.int .i64 0))), (some (125, true)), none⟩, ⟨some 129, (.pick (.tmp 125) (.tmp 128) (.con (.bool false))), none, none⟩, ⟨some 4, (.mv (.tmp 129)), none, none⟩]) .ret) .skip)) (.seq (.region [⟨some 131, (.load true 2 (.tmp 10)), none, none⟩, ⟨some 132, (.call (.con (.func 37 [] [])) [.tmp 131]), none, none⟩, ⟨some 130, (.mv (.tmp 132)), none, none⟩, ⟨some 133, (.extract (.tmp 130) 0), none, none⟩, ⟨some 134, (.extract (.tmp 130) 1), none, none⟩, ⟨some 135, (.extract (.tmp 130) 2), none, none⟩, ⟨some 13, (.new [.nils, .nils]), none, none⟩, ⟨some 15, (.new [.nils, .nils]), none, none⟩, ⟨none, (.store 2 (.tmp 13) (.tmp 133)), none, none⟩, ⟨some 14, (.mv (.tmp 134)), none, none⟩, ⟨none, (.store 2 (.tmp 15) (.tmp 135)), none, none⟩]) (.seq (.region [⟨some 137, (.load true 2 (.tmp 13)), none, none⟩, ⟨some 138, (.mv (.tmp 14)), none, none⟩, ⟨some 139, (.load true 2 (.tmp 15)), none, none⟩, ⟨some 140, (.call (.con (.func 39 [] [])) [.tmp 137, .tmp 138, .tmp 139]), none, none⟩, ⟨some 136, (.mv (.tmp 140)), none, none⟩, ⟨some 141, (.extract (.tmp 136) 0), none, none⟩, ⟨some 142, (.extract (.tmp 136) 1), none, none⟩, ⟨some 16, (.new [.nils, .nils]), none, none⟩, ⟨none, (.store 2 (.tmp 16) (.tmp 141)), none, none⟩, ⟨some 17, (.mv (.tmp 142)), none, none⟩]) (.seq (.seq (.region [⟨some 143, (.load true 2 (.tmp 13)), none, none⟩, ⟨some 144, (.call (.con (.func 29 [] [])) [.tmp 143]), none, none⟩, ⟨some 145, (.bin .neq (.tmp 144) (.con (.int .i64 0))), none, none⟩, ⟨some 146, (.mv (.tmp 145)), none, none⟩, ⟨some 147, (.load true 2 (.tmp 15)), (some (146, false)), none⟩, ⟨some 148, (.call (.con (.func 29 [] [])) [.tmp 147]), (some (146, false)), none⟩, ⟨some 149, (.bin .neq (.tmp 148) (.con (.int .i64 0))), (some (146, false)), none⟩, ⟨some 150, (.pick (.tmp 146) (.con (.bool true)) (.tmp 149)), none, none⟩, ⟨some 151, (.mv (.tmp 150)), none, none⟩, ⟨some 152, (.mv (.tmp 17)), (some (151, false)), none⟩, ⟨some 153, (.load true 2 (.tmp 10)), (some (151, false)), none⟩, ⟨some 154, (.call (.con (.func 31 [] [])) [.tmp 153]), (some (151, false)), none⟩, ⟨some 155, (.bin .leq (.tmp 154) (.con (.int .i64 480))), (some (151, false)), none⟩, ⟨some 156, (.eq true .bool (.tmp 152) (.tmp 155)), (some (151, false)), none⟩, ⟨some 157, (.pick (.tmp 151) (.con (.bool true)) (.tmp 156)), none, none⟩, ⟨some 158, (.mv (.tmp 157)), none, none⟩, ⟨some 159, (.mv (.tmp 17)), (some (158, false)), none⟩, ⟨some 160, (.mv (.tmp 159)), (some (158, false)), none⟩, ⟨some 161, (.load true 2 (.tmp 16)), (some (160, true)), none⟩, ⟨some 162, (.fieldA 0 (.tmp 10)), (some (160, true)), none⟩, ⟨some 163, (.load false 1 (.tmp 162)), (some (160, true)), none⟩, ⟨some 164, (.build [.nils, .nils] [(0, (1, (.tmp 163)))]), (some (160, true)), none⟩, ⟨some 165, (.call (.con (.func 30 [] [])) [.tmp 161, .tmp 164]), (some (160, true)), none⟩, ⟨some 166, (.un .not (.tmp 165)), (some (160, true)), none⟩, ⟨some 167, (.pick (.tmp 160) (.tmp 166) (.con (.bool false))), (some (158, false)), none⟩, ⟨some 168, (.pick (.tmp 158) (.con (.bool true)) (.tmp 167)), none, none⟩, ⟨some 169, (.mv (.tmp 168)), none, none⟩, ⟨some 170, (.fieldA 0 (.tmp 13)), (some (169, false)), none⟩, ⟨some 171, (.load false 1 (.tmp 170)), (some (169, false)), none⟩, ⟨some 172, (.len false (.tmp 171)), (some (169, false)), none⟩, ⟨some 173, (.fieldA 0 (.tmp 15)), (some (169, false)), none⟩, ⟨some 174, (.load false 1 (.tmp 173)), (some (169, false)), none⟩, ⟨some 175, (.len false (.tmp 174)), (some (169, false)), none⟩, ⟨some 176, (.bin .add (.tmp 172) (.tmp 175)), (some (169, false)), none⟩, ⟨some 177, (.fieldA 0 (.tmp 10)), (some (169, false)), none⟩, ⟨some 178, (.load false 1 (.tmp 177)), (some (169, false)), none⟩, ⟨some 179, (.len false (.tmp 178)), (some (169, false)), none⟩, ⟨some 180, (.bin .neq (.tmp 176) (.tmp 179)), (some (169, false)), none⟩, ⟨some 181, (.pick (.tmp 169) (.con (.bool true)) (.tmp 180)), none, none⟩]) (.cond (.tmp 181) (.seq (.region [⟨some 4, (.mv (.con (.bool false))), none, none⟩]) .ret) .skip)) (.seq (.region [⟨some 182, (.fieldA 0 (.tmp 13)), none, none⟩, ⟨some 183, (.load false 1 (.tmp 182)), none, none⟩, ⟨some 184, (.fieldA 0 (.tmp 13)), none, none⟩, ⟨some 185, (.load false 1 (.tmp 184)), none, none⟩, ⟨some 186, (.len false (.tmp 185)), none, none⟩, ⟨some 187, (.bin .sub (.tmp 186) (.con (.int .i64 1))), none, none⟩, ⟨some 188, (.idxASl 2 (.tmp 183) (.tmp 187)), none, none⟩, ⟨some 189, (.fieldA 0 (.tmp 188)), none, none⟩, ⟨some 190, (.load false 1 (.tmp 189)), none, none⟩, ⟨some 191, (.mv (.tmp 14)), none, none⟩, ⟨some 192, (.bin .lss (.tmp 190) (.tmp 191)), none, none⟩, ⟨some 193, (.mv (.tmp 192)), none, none⟩, ⟨some 194, (.fieldA 0 (.tmp 15)), (some (193, true)), none⟩, ⟨some 195, (.load false 1 (.tmp 194)), (some (193, true)), none⟩, ⟨some 196, (.idxASl 2 (.tmp 195) (.con (.int .i64 0))), (some (193, true)), none⟩, ⟨some 197, (.fieldA 0 (.tmp 196)), (some (193, true)), none⟩, ⟨some 198, (.load false 1 (.tmp 197)), (some (193, true)), none⟩, ⟨some 199, (.mv (.tmp 14)), (some (193, true)), none⟩, ⟨some 200, (.bin .eql (.tmp 198) (.tmp 199)), (some (193, true)), none⟩, ⟨some 201, (.pick (.tmp 193) (.tmp 200) (.con (.bool false))), none, none⟩, ⟨some 202, (.mv (.tmp 201)), none, none⟩, ⟨some 203, (.load true 2 (.tmp 10)), (some (202, true)), none⟩, ⟨some 204, (.call (.con (.func 31 [] [])) [.tmp 203]), (some (202, true)), none⟩, ⟨some 205, (.bin .leq (.tmp 204) (.con (.int .i64 480))), (some (202, true)), none⟩, ⟨some 206, (.mv (.tmp 205)), (some (202, true)), none⟩, ⟨some 207, (.load true 2 (.tmp 13)), (some (206, false)), none⟩, ⟨some 208, (.call (.con (.func 31 [] [])) [.tmp 207]), (some (206, false)), none⟩, ⟨some 209, (.bin .geq (.tmp 208) (.con (.int .i64 100))), (some (206, false)), none⟩, ⟨some 210, (.mv (.tmp 209)), (some (206, false)), none⟩, ⟨some 211, (.load true 2 (.tmp 15)), (some (210, true)), none⟩, ⟨some 212, (.call (.con (.func 31 [] [])) [.tmp 211]), (some (210, true)), none⟩, ⟨some 213, (.bin .geq (.tmp 212) (.con (.int .i64 100))), (some (210, true)), none⟩, ⟨some 214, (.pick (.tmp 210) (.tmp 213) (.con (.bool false))), (some (206, false)), none⟩, ⟨some 215, (.pick (.tmp 206) (.con (.bool true)) (.tmp 214)), (some (202, true)), none⟩, ⟨some 216, (.pick (.tmp 202) (.tmp 215) (.con (.bool false))), none, none⟩, ⟨some 4, (.mv (.tmp 216)), none, none⟩]) .ret))))))))))))))), [.tmp 4]⟩
theorem c8_is : cfn Try.prog 8 = some c8 := by kernel_rfl
def c9 : AFn := ⟨(.seq (.region [⟨some 3, (.box (.tmp 0)), none, none⟩, ⟨some 6, (.mv (.con (.bool false))), none, none⟩]) (.seq (.seq (.region [⟨some 15, (.call (.con (.func 23 [] [])) []), none, none⟩, ⟨some 16, (.un .not (.tmp 15)), none, none⟩]) (.cond (.tmp 16) (.seq (.region [⟨some 6, (.mv (.con (.bool false))), none, none⟩]) .ret) .skip)) (.seq (.seq (.region [⟨some 17, (.load true 2 (.tmp 3)), none, none⟩, ⟨some 18, (.call (.con (.func 22 [] [])) [.tmp 17]), none, none⟩, ⟨some 19, (.un .not (.tmp 18)), none, none⟩, ⟨some 20, (.mv (.tmp 19)), none, none⟩, ⟨some 21, (.fieldA 1 (.tmp 3)), (some (20, false)), none⟩, ⟨some 22, (.load false 1 (.tmp 21)), (some (20, false)), none⟩, ⟨some 23, (.len false (.tmp 22)), (some (20, false)), none⟩, ⟨some 24, (.bin .eql (.tmp 23) (.con (.int .i64 0))), (some (20, false)), none⟩, ⟨some 25, (.pick (.tmp 20) (.con (.bool true)) (.tmp 24)), none, none⟩, ⟨some 26, (.mv (.tmp 25)), none, none⟩, ⟨some 27, (.load true 2 (.tmp 3)), (some (26, false)), none⟩, ⟨some 28, (.call (.con (.func 25 [] [])) [.tmp 27]), (some (26, false)), none⟩, ⟨some 29, (.call (.con (.func 29 [] [])) [.tmp 28]), (some (26, false)), none⟩, ⟨some 30, (.bin .neq (.tmp 29) (.con (.int .i64 0))), (some (26, false)), none⟩, ⟨some 31, (.pick (.tmp 26) (.con (.bool true)) (.tmp 30)), none, none⟩]) (.cond (.tmp 31) (.seq (.region [⟨some 6, (.mv (.con (.bool true))), none, none⟩]) .ret) .skip)) (.seq (.region [⟨some 33, (.load true 2 (.tmp 3)), none, none⟩, ⟨some 34, (.call (.con (.func 25 [] [])) [.tmp 33]), none, none⟩, ⟨some 35, (.mv (.tmp 1)), none, none⟩, ⟨some 36, (.call (.con (.func 35 [] [])) [.tmp 34, .tmp 35]), none, none⟩, ⟨some 32, (.mv (.tmp 36)), none, none⟩, ⟨some 37, (.extract (.tmp 32) 0), none, none⟩, ⟨some 38, (.extract (.tmp 32) 1), none, none⟩, ⟨some 7, (.mv (.tmp 37)), none, none⟩, ⟨some 8, (.mv (.tmp 38)), none, none⟩]) (.seq (.seq (.region [⟨some 39, (.mv (.tmp 8)), none, none⟩, ⟨some 40, (.mv (.tmp 39)), none, none⟩, ⟨some 41, (.mv (.tmp 1)), (some (40, false)), none⟩, ⟨some 42, (.bin .eql (.tmp 41) (.con (.str []))), (some (40, false)), none⟩, ⟨some 43, (.pick (.tmp 40) (.con (.bool true)) (.tmp 42)), none, none⟩, ⟨some 44, (.mv (.tmp 43)), none, none⟩, ⟨some 45, (.mv (.tmp 1)), (some (44, false)), none⟩, ⟨some 46, (.len true (.tmp 45)), (some (44, false)), none⟩, ⟨some 47, (.bin .gtr (.tmp 46) (.con (.int .i64 64))), (some (44, false)), none⟩, ⟨some 48, (.pick (.tmp 44) (.con (.bool true)) (.tmp 47)), none, none⟩, ⟨some 49, (.mv (.tmp 48)), none, none⟩, ⟨some 50, (.mv (.tmp 2)), (some (49, false)), none⟩, ⟨some 51, (.bin .lss (.tmp 50) (.con (.int .i64 2))), (some (49, false)), none⟩, ⟨some 52, (.pick (.tmp 49) (.con (.bool true)) (.tmp 51)), none, none⟩, ⟨some 53, (.mv (.tmp 52)), none, none⟩, ⟨some 54, (.mv (.tmp 2)), (some (53, false)), none⟩, ⟨some 55, (.bin .geq (.tmp 54) (.con (.int .i64 3840))), (some (53, false)), none⟩, ⟨some 56, (.pick (.tmp 53) (.con (.bool true)) (.tmp 55)), none, none⟩]) (.cond (.tmp 56) (.seq (.region [⟨some 6, (.mv (.con (.bool true))), none, none⟩]) .ret) .skip)) (.seq (.seq (.region [⟨some 57, (.mv (.tmp 7)), none, none⟩, ⟨some 58, (.bin .lss (.tmp 57) (.con (.int .i64 0))), none, none⟩, ⟨some 59, (.mv (.tmp 58)), none, none⟩, ⟨some 60, (.mv (.tmp 7)), (some (59, false)), none⟩, ⟨some 61, (.fieldA 0 (.tmp 3)), (some (59, false)), none⟩, ⟨some 62, (.load false 1 (.tmp 61)), (some (59, false)), none⟩, ⟨some 63, (.len false (.tmp 62)), (some (59, false)), none⟩, ⟨some 64, (.bin .gtr (.tmp 60) (.tmp 63)), (some (59, false)), none⟩, ⟨some 65, (.pick (.tmp 59) (.con (.bool true)) (.tmp 64)), none, none⟩]) (.cond (.tmp 65) (.seq (.region [⟨some 6, (.mv (.con (.bool false))), none, none⟩]) .ret) .skip)) (.seq (.region [⟨some 66, (.build [.nils, .nils] []), none, none⟩, ⟨some 9, (.new [.nils, .nils]), none, none⟩, ⟨none, (.store 2 (.tmp 9) (.tmp 66)), none, none⟩]) (.seq (.region [⟨none, .die, none, none⟩]) (.seq (.draw [⟨some 84, (.fieldA 1 (.tmp 9)), none, none⟩, ⟨some 85, (.load false 1 (.tmp 84)), none, none⟩, ⟨some 86, (.fieldA 1 (.tmp 3)), none, none⟩, ⟨some 87, (.load false 1 (.tmp 86)), none, none⟩, ⟨some 88, (.mv (.tmp 7)), none, none⟩, ⟨some 89, (.bin .add (.tmp 88) (.con (.int .i64 1))), none, none⟩, ⟨some 90, (.slc 1 (.tmp 87) none (some (.tmp 89)) none), none, none⟩, ⟨some 91, (.append 1 8 (.tmp 85) (.tmp 90)), none, none⟩, ⟨some 92, (.mv (.tmp 2)), none, none⟩, ⟨some 93, (.buildS 1 [(.int .i64 0)] [(0, (1, (.tmp 92)))]), none, none⟩, ⟨some 94, (.append 1 8 (.tmp 91) (.tmp 93)), none, none⟩, ⟨some 95, (.fieldA 1 (.tmp 3)), none, none⟩, ⟨some 96, (.load false 1 (.tmp 95)), none, (some (0, 3))⟩, ⟨some 97, (.mv (.tmp 7)), none, none⟩, ⟨some 98, (.bin .add (.tmp 97) (.con (.int .i64 1))), none, none⟩, ⟨some 99, (.slc 1 (.tmp 96) (some (.tmp 98)) none none), none, none⟩, ⟨some 100, (.append 1 8 (.tmp 94) (.tmp 99)), none, none⟩, ⟨some 101, (.fieldA 1 (.tmp 9)), none, none⟩, ⟨none, (.store 1 (.tmp 101) (.tmp 100)), none, none⟩]) (.seq (.seq (.region [⟨some 102, (.load true 2 (.tmp 9)), none, none⟩, ⟨some 103, (.call (.con (.func 31 [] [])) [.tmp 102]), none, none⟩, ⟨some 104, (.bin .leq (.tmp 103) (.con (.int .i64 480))), none, none⟩]) (.cond (.tmp 104) (.seq (.region [⟨some 105, (.load true 2 (.tmp 9)), none, none⟩, ⟨some 106, (.call (.con (.func 29 [] [])) [.tmp 105]), none, none⟩, ⟨some 107, (.bin .eql (.tmp 106) (.con (.int .i64 0))), none, none⟩, ⟨some 6, (.mv (.tmp 107)), none, none⟩]) .ret) .skip)) (.seq (.region [⟨some 109, (.load true 2 (.tmp 9)), none, none⟩, ⟨some 110, (.call (.con (.func 37 [] [])) [.tmp 109]), none, none⟩, ⟨some 108, (.mv (.tmp 110)), none, none⟩, ⟨some 111, (.extract (.tmp 108) 0), none, none⟩, ⟨some 112, (.extract (.tmp 108) 1), none, none⟩, ⟨some 113, (.extract (.tmp 108) 2), none, none⟩, ⟨some 10, (.new [.nils, .nils]), none, none⟩, ⟨some 12, (.new [.nils, .nils]), none, none⟩, ⟨none, (.store 2 (.tmp 10) (.tmp 111)), none, none⟩, ⟨some 11, (.mv (.tmp 112)), none, none⟩, ⟨none, (.store 2 (.tmp 12) (.tmp 113)), none, none⟩]) (.seq (.seq (.region [⟨some 114, (.load true 2 (.tmp 10)), none, none⟩, ⟨some 115, (.call (.con (.func 29 [] [])) [.tmp 114]), none, none⟩, ⟨some 116, (.bin .neq (.tmp 115) (.con (.int .i64 0))), none, none⟩, ⟨some 117, (.mv (.tmp 116)), none, none⟩, ⟨some 118, (.load true 2 (.tmp 12)), (some (117, false)), none⟩, ⟨some 119, (.call (.con (.func 29 [] [])) [.tmp 118]), (some (117, false)), none⟩, ⟨some 120, (.bin .neq (.tmp 119) (.con (.int .i64 0))), (some (117, false)), none⟩, ⟨some 121, (.pick (.tmp 117) (.con (.bool true)) (.tmp 120)), none, none⟩, ⟨some 122, (.mv (.tmp 121)), none, none⟩, ⟨some 123, (.fieldA 1 (.tmp 10)), (some (122, false)), none⟩, ⟨some 124, (.load false 1 (.tmp 123)), (some (122, false)), none⟩, ⟨some 125, (.len false (.tmp 124)), (some (122, false)), none⟩, ⟨some 126, (.fieldA 1 (.tmp 12)), (some (122, false)), none⟩, ⟨some 127, (.load false 1 (.tmp 126)), (some (122, false)), none⟩, ⟨some 128, (.len false (.tmp 127)), (some (122, false)), none⟩, ⟨some 129, (.bin .add (.tmp 125) (.tmp 128)), (some (122, false)), none⟩, ⟨some 130, (.fieldA 1 (.tmp 9)), (some (122, false)), none⟩, ⟨some 131, (.load false 1 (.tmp 130)), (some (122, false)), none⟩, ⟨some 132, (.len false (.tmp 131)), (some (122, false)), none⟩, ⟨some 133, (.bin .neq (.tmp 129) (.tmp 132)), (some (122, false)), none⟩, ⟨some 134, (.pick (.tmp 122) (.con (.bool true)) (.tmp 133)), none, none⟩, ⟨some 135, (.mv (.tmp 134)), none, none⟩, ⟨some 136, (.fieldA 0 (.tmp 10)), (some (135, false)), none⟩, ⟨some 137, (.load false 1 (.tmp 136)), (some (135, false)), none⟩, ⟨some 138, (.len false (.tmp 137)), (some (135, false)), none⟩, ⟨some 139, (.fieldA 0 (.tmp 9)), (some (135, false)), none⟩, ⟨some 140, (.load false 1 (.tmp 139)), (some (135, false)), none⟩, ⟨some 141, (.len false (.tmp 140)), (some (135, false)), none⟩, ⟨some 142, (.bin .geq (.tmp 138) (.tmp 141)), (some (135, false)), none⟩, ⟨some 143, (.pick (.tmp 135) (.con (.bool true)) (.tmp 142)), none, none⟩, ⟨some 144, (.mv (.tmp 143)), none, none⟩, ⟨some 145, (.fieldA 0 (.tmp 9)), (some (144, false)), none⟩, ⟨some 146, (.load false 1 (.tmp 145)), (some (144, false)), none⟩, ⟨some 147, (.fieldA 0 (.tmp 10)), (some (144, false)), none⟩, ⟨some 148, (.load false 1 (.tmp 147)), (some (144, false)), none⟩, ⟨some 149, (.len false (.tmp 148)), (some (144, false)), none⟩, ⟨some 150, (.idxASl 2 (.tmp 146) (.tmp 149)), (some (144, false)), none⟩, ⟨some 151, (.fieldA 0 (.tmp 150)), (some (144, false)), none⟩, ⟨some 152, (.load false 1 (.tmp 151)), (some (144, false)), none⟩, ⟨some 153, (.mv (.tmp 11)), (some (144, false)), none⟩, ⟨some 154, (.bin .neq (.tmp 152) (.tmp 153)), (some (144, false)), none⟩, ⟨some 155, (.pick (.tmp 144) (.con (.bool true)) (.tmp 154)), none, none⟩]) (.cond (.tmp 155) (.seq (.region [⟨some 6, (.mv (.con (.bool false))), none, none⟩]) .ret) .skip)) (.seq (.seq (.draw [⟨some 156, (.buildS 0 [] []), none, none⟩, ⟨some 157, (.fieldA 1 (.tmp 10)), none, none⟩, ⟨some 158, (.load false 1 (.tmp 157)), none, (some (0, 1))⟩, ⟨some 159, (.append 1 8 (.tmp 156) (.tmp 158)), none, none⟩, ⟨some 160, (.fieldA 1 (.tmp 12)), none, none⟩, ⟨some 161, (.load false 1 (.tmp 160)), none, (some (0, 2))⟩, ⟨some 162, (.append 1 8 (.tmp 159) (.tmp 161)), none, none⟩, ⟨some 163, (.len false (.tmp 162)), none, none⟩, ⟨some 164, (.mv (.con (.int .i64 0))), none, none⟩]) (.block 0 (.loop (.seq (.region [⟨some 165, (.bin .lss (.tmp 164) (.tmp 163)), none, none⟩]) (.seq (.cond (.tmp 165) .skip (.exit 0)) (.seq (.block 1 (.seq (.region [⟨some 166, (.mv (.tmp 164)), none, none⟩, ⟨some 167, (.idxASl 1 (.tmp 162) (.tmp 164)), none, none⟩, ⟨some 168, (.load false 1 (.tmp 167)), none, none⟩, ⟨some 13, (.mv (.tmp 166)), none, none⟩, ⟨some 14, (.mv (.tmp 168)), none, none⟩]) (.seq (.region [⟨some 169, (.fieldA 1 (.tmp 9)), none, none⟩, ⟨some 170, (.load false 1 (.tmp 169)), none, none⟩, ⟨some 171, (.mv (.tmp 13)), none, none⟩, ⟨some 172, (.idxASl 1 (.tmp 170) (.tmp 171)), none, none⟩, ⟨some 173, (.load false 1 (.tmp 172)), none, none⟩, ⟨some 174, (.mv (.tmp 14)), none, none⟩, ⟨some 175, (.bin .neq (.tmp 173) (.tmp 174)), none, none⟩]) (.cond (.tmp 175) (.seq (.region [⟨some 6, (.mv (.con (.bool false))), none, none⟩]) .ret) .skip)))) (.region [⟨some 176, (.bin .add (.tmp 164) (.con (.int .i64 1))), none, none⟩, ⟨some 164, (.mv (.tmp 176)), none, none⟩]))))))) (.seq (.region [⟨some 6, (.mv (.con (.bool true))), none, none⟩]) .ret)))))))))))))), [.tmp 6]⟩
theorem c9_is : cfn Try.prog 9 = some c9 := by kernel_rfl
def c22 : AFn := ⟨(.seq (.region [⟨some 1, (.box (.tmp 0)), none, none⟩, ⟨some 2, (.mv (.con (.bool false))), none, none⟩]) (.seq (.seq (.region [⟨some 5, (.fieldA 0 (.tmp 1)), none, none⟩, ⟨some 6, (.load false 1 (.tmp 5)), none, none⟩, ⟨some 7, (.len false (.tmp 6)), none, none⟩, ⟨some 8, (.mv (.con (.int .i64 0))), none, none⟩]) (.block 0 (.loop (.seq (.region [⟨some 9, (.bin .lss (.tmp 8) (.tmp 7)), none, none⟩]) (.seq (.cond (.tmp 9) .skip (.exit 0)) (.seq (.block 1 (.seq (.region [⟨some 10, (.idxASl 2 (.tmp 6) (.tmp 8)), none, none⟩, ⟨some 11, (.load true 2 (.tmp 10)), none, none⟩, ⟨some 4, (.new [(.str []), (.str [])]), none, none⟩, ⟨none, (.store 2 (.tmp 4) (.tmp 11)), none, none⟩]) (.seq (.region [⟨some 12, (.fieldA 0 (.tmp 4)), none, none⟩, ⟨some 13, (.load false 1 (.tmp 12)), none, none⟩, ⟨some 14, (.len true (.tmp 13)), none, none⟩, ⟨some 15, (.bin .gtr (.tmp 14) (.con (.int .i64 300))), none, none⟩, ⟨some 16, (.mv (.tmp 15)), none, none⟩, ⟨some 17, (.fieldA 1 (.tmp 4)), (some (16, false)), none⟩, ⟨some 18, (.load false 1 (.tmp 17)), (some (16, false)), none⟩, ⟨some 19, (.len true (.tmp 18)), (some (16, false)), none⟩, ⟨some 20, (.bin .gtr (.tmp 19) (.con (.int .i64 300))), (some (16, false)), none⟩, ⟨some 21, (.pick (.tmp 16) (.con (.bool true)) (.tmp 20)), none, none⟩]) (.cond (.tmp 21) (.seq (.region [⟨some 2, (.mv (.con (.bool false))), none, none⟩]) .ret) .skip)))) (.region [⟨some 22, (.bin .add (.tmp 8) (.con (.int .i64 1))), none, none⟩, ⟨some 8, (.mv (.tmp 22)), none, none⟩]))))))) (.seq (.region [⟨some 23, (.fieldA 0 (.tmp 1)), none, none⟩, ⟨some 24, (.load false 1 (.tmp 23)), none, none⟩, ⟨some 25, (.len false (.tmp 24)), none, none⟩, ⟨some 26, (.bin .leq (.tmp 25) (.con (.int .i64 200))), none, none⟩, ⟨some 27, (.mv (.tmp 26)), none, none⟩, ⟨some 28, (.fieldA 1 (.tmp 1)), (some (27, true)), none⟩, ⟨some 29, (.load false 1 (.tmp 28)), (some (27, true)), none⟩, ⟨some 30, (.len false (.tmp 29)), (some (27, true)), none⟩, ⟨some 31, (.bin .leq (.tmp 30) (.con (.int .i64 200))), (some (27, true)), none⟩, ⟨some 32, (.pick (.tmp 27) (.tmp 31) (.con (.bool false))), none, none⟩, ⟨some 2, (.mv (.tmp 32)), none, none⟩]) .ret))), [.tmp 2]⟩
theorem c22_is : cfn Try.prog 22 = some c22 := by kernel_rfl
def c23 : AFn := ⟨(.seq (.region [⟨some 0, (.mv (.con (.bool false))), none, none⟩]) (.seq (.region [⟨some 21, (.build [(.str []), (.str [])] [(0, (1, (.con (.str [97])))), (1, (1, (.con (.str [120, 121]))))]), none, none⟩, ⟨some 22, (.build [(.str []), (.str [])] [(0, (1, (.con (.str [99]))))]), none, none⟩, ⟨some 23, (.buildT 64 2 [(.str []), (.str []), (.str []), (.str [])] [(0, (2, (.tmp 21))), (2, (2, (.tmp 22)))]), none, none⟩, ⟨some 24, (.build [.nils, .nils] [(0, (1, (.tmp 23)))]), none, none⟩, ⟨some 1, (.new [.nils, .nils]), none, none⟩, ⟨none, (.store 2 (.tmp 1) (.tmp 24)), none, none⟩]) (.seq (.region [⟨some 26, (.load true 2 (.tmp 1)), none, none⟩, ⟨some 27, (.call (.con (.func 24 [] [])) [.tmp 26]), none, none⟩, ⟨some 25, (.mv (.tmp 27)), none, none⟩, ⟨some 28, (.extract (.tmp 25) 0), none, none⟩, ⟨some 29, (.extract (.tmp 25) 1), none, none⟩, ⟨some 2, (.mv (.tmp 28)), none, none⟩, ⟨some 3, (.mv (.tmp 29)), none, none⟩]) (.seq (.region [⟨some 31, (.mv (.tmp 2)), none, none⟩, ⟨some 32, (.call (.con (.func 27 [] [])) [.tmp 31]), none, none⟩, ⟨some 30, (.mv (.tmp 32)), none, none⟩, ⟨some 33, (.extract (.tmp 30) 0), none, none⟩, ⟨some 34, (.extract (.tmp 30) 1), none, none⟩, ⟨some 4, (.new [.nils, .nils]), none, none⟩, ⟨none, (.store 2 (.tmp 4) (.tmp 33)), none, none⟩, ⟨some 5, (.mv (.tmp 34)), none, none⟩]) (.seq (.region [⟨some 35, (.build [(.str []), (.str [])] [(0, (1, (.con (.str [109]))))]), none, none⟩, ⟨some 36, (.buildT 64 1 [(.str []), (.str [])] [(0, (2, (.tmp 35)))]), none, none⟩, ⟨some 37, (.buildS 2 [(.int .i64 0), (.int .i64 0)] [(0, (1, (.con (.int .i64 2)))), (1, (1, (.con (.int .i64 258))))]), none, none⟩, ⟨some 38, (.build [.nils, .nils] [(0, (1, (.tmp 36))), (1, (1, (.tmp 37)))]), none, none⟩, ⟨some 6, (.new [.nils, .nils]), none, none⟩, ⟨none, (.store 2 (.tmp 6) (.tmp 38)), none, none⟩]) (.seq (.region [⟨some 40, (.load true 2 (.tmp 6)), none, none⟩, ⟨some 41, (.call (.con (.func 24 [] [])) [.tmp 40]), none, none⟩, ⟨some 39, (.mv (.tmp 41)), none, none⟩, ⟨some 42, (.extract (.tmp 39) 0), none, none⟩, ⟨some 43, (.extract (.tmp 39) 1), none, none⟩, ⟨some 7, (.mv (.tmp 42)), none, none⟩, ⟨some 8, (.mv (.tmp 43)), none, none⟩]) (.seq (.region [⟨some 45, (.load true 2 (.tmp 1)), none, none⟩, ⟨some 46, (.call (.con (.func 35 [] [])) [.tmp 45, (.con (.str [98]))]), none, none⟩, ⟨some 44, (.mv (.tmp 46)), none, none⟩, ⟨some 47, (.extract (.tmp 44) 0), none, none⟩, ⟨some 48, (.extract (.tmp 44) 1), none, none⟩, ⟨some 9, (.mv (.tmp 47)), none, none⟩, ⟨some 10, (.mv (.tmp 48)), none, none⟩]) (.seq (.region [⟨some 50, (.load true 2 (.tmp 6)), none, none⟩, ⟨some 51, (.call (.con (.func 35 [] [])) [.tmp 50, (.con (.str [109]))]), none, none⟩, ⟨some 49, (.mv (.tmp 51)), none, none⟩, ⟨some 52, (.extract (.tmp 49) 0), none, none⟩, ⟨some 53, (.extract (.tmp 49) 1), none, none⟩, ⟨some 11, (.mv (.tmp 52)), none, none⟩, ⟨some 12, (.mv (.tmp 53)), none, none⟩]) (.seq (.region [⟨some 54, (.load true 2 (.tmp 1)), none, none⟩, ⟨some 55, (.build [(.str []), (.str [])] [(0, (1, (.con (.str [98])))), (1, (1, (.con (.str [49]))))]), none, none⟩, ⟨some 56, (.call (.con (.func 41 [] [])) [.tmp 54, .tmp 55]), none, none⟩, ⟨some 13, (.new [.nils, .nils]), none, none⟩, ⟨none, (.store 2 (.tmp 13) (.tmp 56)), none, none⟩]) (.seq (.region [⟨some 58, (.load true 2 (.tmp 13)), none, none⟩, ⟨some 59, (.call (.con (.func 37 [] [])) [.tmp 58]), none, none⟩, ⟨some 57, (.mv (.tmp 59)), none, none⟩, ⟨some 60, (.extract (.tmp 57) 0), none, none⟩, ⟨some 61, (.extract (.tmp 57) 1), none, none⟩, ⟨some 62, (.extract (.tmp 57) 2), none, none⟩, ⟨some 14, (.new [.nils, .nils]), none, none⟩, ⟨some 16, (.new [.nils, .nils]), none, none⟩, ⟨none, (.store 2 (.tmp 14) (.tmp 60)), none, none⟩, ⟨some 15, (.mv (.tmp 61)), none, none⟩, ⟨none, (.store 2 (.tmp 16) (.tmp 62)), none, none⟩]) (.seq (.region [⟨some 64, (.load true 2 (.tmp 14)), none, none⟩, ⟨some 65, (.mv (.tmp 15)), none, none⟩, ⟨some 66, (.load true 2 (.tmp 16)), none, none⟩, ⟨some 67, (.call (.con (.func 39 [] [])) [.tmp 64, .tmp 65, .tmp 66]), none, none⟩, ⟨some 63, (.mv (.tmp 67)), none, none⟩, ⟨some 68, (.extract (.tmp 63) 0), none, none⟩, ⟨some 69, (.extract (.tmp 63) 1), none, none⟩, ⟨some 17, (.new [.nils, .nils]), none, none⟩, ⟨none, (.store 2 (.tmp 17) (.tmp 68)), none, none⟩, ⟨some 18, (.mv (.tmp 69)), none, none⟩]) (.seq (.region [⟨some 71, (.build [.nils, .nils] []), none, none⟩, ⟨some 72, (.call (.con (.func 24 [] [])) [.tmp 71]), none, none⟩, ⟨some 70, (.mv (.tmp 72)), none, none⟩, ⟨some 73, (.extract (.tmp 70) 0), none, none⟩, ⟨some 74, (.extract (.tmp 70) 1), none, none⟩, ⟨some 19, (.mv (.tmp 73)), none, none⟩, ⟨some 20, (.mv (.tmp 74)), none, none⟩]) (.seq (.seq (.region [⟨some 75, (.mv (.tmp 3)), none, none⟩, ⟨some 76, (.bin .neq (.tmp 75) (.con (.int .i64 0))), none, none⟩, ⟨some 77, (.mv (.tmp 76)), none, none⟩, ⟨some 78, (.mv (.tmp 8)), (some (77, false)), none⟩, ⟨some 79, (.bin .neq (.tmp 78) (.con (.int .i64 0))), (some (77, false)), none⟩, ⟨some 80, (.pick (.tmp 77) (.con (.bool true)) (.tmp 79)), none, none⟩, ⟨some 81, (.mv (.tmp 80)), none, none⟩, ⟨some 82, (.mv (.tmp 2)), (some (81, false)), none⟩, ⟨some 83, (.len true (.tmp 82)), (some (81, false)), none⟩, ⟨some 84, (.bin .neq (.tmp 83) (.con (.int .i64 480))), (some (81, false)), none⟩, ⟨some 85, (.pick (.tmp 81) (.con (.bool true)) (.tmp 84)), none, none⟩, ⟨some 86, (.mv (.tmp 85)), none, none⟩, ⟨some 87, (.mv (.tmp 7)), (some (86, false)), none⟩, ⟨some 88, (.len true (.tmp 87)), (some (86, false)), none⟩, ⟨some 89, (.bin .neq (.tmp 88) (.con (.int .i64 480))), (some (86, false)), none⟩, ⟨some 90, (.pick (.tmp 86) (.con (.bool true)) (.tmp 89)), none, none⟩]) (.cond (.tmp 90) (.seq (.region [⟨some 0, (.mv (.con (.bool false))), none, none⟩]) .ret) .skip)) (.seq (.region [⟨some 91, (.mv (.tmp 2)), none, none⟩, ⟨some 92, (.slcStr (.tmp 91) none (some (.con (.int .i64 11)))), none, none⟩, ⟨some 93, (.bin .eql (.tmp 92) (.con (.str [1, 2, 1, 97, 2, 120, 121, 1, 99, 0, 0]))), none, none⟩, ⟨some 94, (.mv (.tmp 93)), none, none⟩, ⟨some 95, (.load true 2 (.tmp 4)), (some (94, true)), none⟩, ⟨some 96, (.fieldA 0 (.tmp 1)), (some (94, true)), none⟩, ⟨some 97, (.load false 1 (.tmp 96)), (some (94, true)), none⟩, ⟨some 98, (.build [.nils, .nils] [(0, (1, (.tmp 97)))]), (some (94, true)), none⟩, ⟨some 99, (.call (.con (.func 30 [] [])) [.tmp 95, .tmp 98]), (some (94, true)), none⟩, ⟨some 100, (.pick (.tmp 94) (.tmp 99) (.con (.bool false))), none, none⟩, ⟨some 101, (.mv (.tmp 100)), none, none⟩, ⟨some 102, (.mv (.tmp 5)), (some (101, true)), none⟩, ⟨some 103, (.bin .eql (.tmp 102) (.con (.int .i64 0))), (some (101, true)), none⟩, ⟨some 104, (.pick (.tmp 101) (.tmp 103) (.con (.bool false))), none, none⟩, ⟨some 105, (.mv (.tmp 104)), none, none⟩, ⟨some 106, (.mv (.tmp 7)), (some (105, true)), none⟩, ⟨some 107, (.slcStr (.tmp 106) none (some (.con (.int .i64 9)))), (some (105, true)), none⟩, ⟨some 108, (.bin .eql (.tmp 107) (.con (.str [2, 2, 0, 2, 1, 109, 1, 2, 0]))), (some (105, true)), none⟩, ⟨some 109, (.pick (.tmp 105) (.tmp 108) (.con (.bool false))), none, none⟩, ⟨some 110, (.mv (.tmp 109)), none, none⟩, ⟨some 111, (.mv (.tmp 9)), (some (110, true)), none⟩, ⟨some 112, (.bin .eql (.tmp 111) (.con (.int .i64 1))), (some (110, true)), none⟩, ⟨some 113, (.pick (.tmp 110) (.tmp 112) (.con (.bool false))), none, none⟩, ⟨some 114, (.mv (.tmp 113)), none, none⟩, ⟨some 115, (.mv (.tmp 10)), (some (114, true)), none⟩, ⟨some 116, (.un .not (.tmp 115)), (some (114, true)), none⟩, ⟨some 117, (.pick (.tmp 114) (.tmp 116) (.con (.bool false))), none, none⟩, ⟨some 118, (.mv (.tmp 117)), none, none⟩, ⟨some 119, (.mv (.tmp 11)), (some (118, true)), none⟩, ⟨some 120, (.bin .eql (.tmp 119) (.con (.int .i64 1))), (some (118, true)), none⟩, ⟨some 121, (.pick (.tmp 118) (.tmp 120) (.con (.bool false))), none, none⟩, ⟨some 122, (.mv (.tmp 121)), none, none⟩, ⟨some 123, (.mv (.tmp 12)), (some (122, true)), none⟩, ⟨some 124, (.pick (.tmp 122) (.tmp 123) (.con (.bool false))), none, none⟩, ⟨some 125, (.mv (.tmp 124)), none, none⟩, ⟨some 126, (.fieldA 0 (.tmp 13)), (some (125, true)), none⟩, ⟨some 127, (.load false 1 (.tmp 126)), (some (125, true)), none⟩, ⟨some 128, (.len false (.tmp 127)), (some (125, true)), none⟩, ⟨some 129, (.bin .eql (.tmp 128) (.con (.int .i64 3))), (some (125, true)), none⟩, ⟨some 130, (.pick (.tmp 125) (.tmp 129) (.con (.bool false))), none, none⟩, ⟨some 131, (.mv (.tmp 130)), none, none⟩, ⟨some 132, (.mv (.tmp 15)), (some (131, true)), none⟩, ⟨some 133, (.bin .neq (.tmp 132) (.con (.str []))), (some (131, true)), none⟩, ⟨some 134, (.pick (.tmp 131) (.tmp 133) (.con (.bool false))), none, none⟩, ⟨some 135, (.mv (.tmp 134)), none, none⟩, ⟨some 136, (.mv (.tmp 18)), (some (135, true)), none⟩, ⟨some 137, (.pick (.tmp 135) (.tmp 136) (.con (.bool false))), none, none⟩, ⟨some 138, (.mv (.tmp 137)), none, none⟩, ⟨some 139, (.load true 2 (.tmp 17)), (some (138, true)), none⟩, ⟨some 140, (.fieldA 0 (.tmp 13)), (some (138, true)), none⟩, ⟨some 141, (.load false 1 (.tmp 140)), (some (138, true)), none⟩, ⟨some 142, (.build [.nils, .nils] [(0, (1, (.tmp 141)))]), (some (138, true)), none⟩, ⟨some 143, (.call (.con (.func 30 [] [])) [.tmp 139, .tmp 142]), (some (138, true)), none⟩, ⟨some 144, (.pick (.tmp 138) (.tmp 143) (.con (.bool false))), none, none⟩, ⟨some 145, (.mv (.tmp 144)), none, none⟩, ⟨some 146, (.load true 2 (.tmp 1)), (some (145, true)), none⟩, ⟨some 147, (.call (.con (.func 31 [] [])) [.tmp 146]), (some (145, true)), none⟩, ⟨some 148, (.bin .eql (.tmp 147) (.con (.int .i64 10))), (some (145, true)), none⟩, ⟨some 149, (.pick (.tmp 145) (.tmp 148) (.con (.bool false))), none, none⟩, ⟨some 150, (.mv (.tmp 149)), none, none⟩, ⟨some 151, (.load true 2 (.tmp 6)), (some (150, true)), none⟩, ⟨some 152, (.call (.con (.func 31 [] [])) [.tmp 151]), (some (150, true)), none⟩, ⟨some 153, (.bin .eql (.tmp 152) (.con (.int .i64 8))), (some (150, true)), none⟩, ⟨some 154, (.pick (.tmp 150) (.tmp 153) (.con (.bool false))), none, none⟩, ⟨some 155, (.mv (.tmp 154)), none, none⟩, ⟨some 156, (.mv (.tmp 20)), (some (155, true)), none⟩, ⟨some 157, (.bin .eql (.tmp 156) (.con (.int .i64 18))), (some (155, true)), none⟩, ⟨some 158, (.pick (.tmp 155) (.tmp 157) (.con (.bool false))), none, none⟩, ⟨some 159, (.mv (.tmp 158)), none, none⟩, ⟨some 160, (.load true 2 (.tmp 1)), (some (159, true)), none⟩, ⟨some 161, (.call (.con (.func 29 [] [])) [.tmp 160]), (some (159, true)), none⟩, ⟨some 162, (.bin .eql (.tmp 161) (.con (.int .i64 0))), (some (159, true)), none⟩, ⟨some 163, (.pick (.tmp 159) (.tmp 162) (.con (.bool false))), none, none⟩, ⟨some 0, (.mv (.tmp 163)), none, none⟩]) .ret)))))))))))))), [.tmp 0]⟩
theorem c23_is : cfn Try.prog 23 = some c23 := by kernel_rfl
def c24 : AFn := ⟨(.seq (.region [⟨some 1, (.box (.tmp 0)), none, none⟩, ⟨some 2, (.mv (.con (.str []))), none, none⟩, ⟨some 3, (.mv (.con (.int .i64 0))), none, none⟩]) (.seq (.seq (.region [⟨some 11, (.load true 2 (.tmp 1)), none, none⟩, ⟨some 12, (.call (.con (.func 29 [] [])) [.tmp 11]), none, none⟩, ⟨some 4, (.mv (.tmp 12)), none, none⟩]) (.seq (.region [⟨some 13, (.mv (.tmp 4)), none, none⟩, ⟨some 14, (.bin .neq (.tmp 13) (.con (.int .i64 0))), none, none⟩]) (.cond (.tmp 14) (.seq (.region [⟨some 15, (.mv (.tmp 4)), none, none⟩, ⟨some 2, (.mv (.con (.str []))), none, none⟩, ⟨some 3, (.mv (.tmp 15)), none, none⟩]) .ret) .skip))) (.seq (.seq (.region [⟨some 16, (.load true 2 (.tmp 1)), none, none⟩, ⟨some 17, (.call (.con (.func 58 [] [])) [.tmp 16]), none, none⟩]) (.cond (.tmp 17) (.seq (.draw [⟨some 18, (.call (.con (.func 45 [] [])) [(.con (.int .i64 1)), (.con (.int .u64 1))]), none, none⟩, ⟨some 19, (.fieldA 0 (.tmp 1)), none, none⟩, ⟨some 20, (.load false 1 (.tmp 19)), none, (some (0, 1))⟩, ⟨some 21, (.len false (.tmp 20)), none, none⟩, ⟨some 22, (.toInt .u64 (.tmp 21)), none, none⟩, ⟨some 23, (.call (.con (.func 45 [] [])) [(.con (.int .i64 1)), .tmp 22]), none, none⟩, ⟨some 24, (.bin .add (.tmp 18) (.tmp 23)), none, none⟩, ⟨some 5, (.mv (.tmp 24)), none, none⟩]) (.seq (.seq (.region [⟨some 25, (.fieldA 0 (.tmp 1)), none, none⟩, ⟨some 26, (.load false 1 (.tmp 25)), none, none⟩, ⟨some 27, (.len false (.tmp 26)), none, none⟩, ⟨some 28, (.mv (.con (.int .i64 0))), none, none⟩]) (.block 0 (.loop (.seq (.region [⟨some 29, (.bin .lss (.tmp 28) (.tmp 27)), none, none⟩]) (.seq (.cond (.tmp 29) .skip (.exit 0)) (.seq (.block 1 (.seq (.region [⟨some 30, (.idxASl 2 (.tmp 26) (.tmp 28)), none, none⟩, ⟨some 31, (.load true 2 (.tmp 30)), none, none⟩, ⟨some 7, (.new [(.str []), (.str [])]), none, none⟩, ⟨none, (.store 2 (.tmp 7) (.tmp 31)), none, none⟩]) (.draw [⟨some 32, (.mv (.tmp 5)), none, none⟩, ⟨some 33, (.fieldA 0 (.tmp 7)), none, none⟩, ⟨some 34, (.load false 1 (.tmp 33)), none, none⟩, ⟨some 35, (.call (.con (.func 59 [] [])) [.tmp 34]), none, none⟩, ⟨some 36, (.fieldA 1 (.tmp 7)), none, none⟩, ⟨some 37, (.load false 1 (.tmp 36)), none, (some (0, 1))⟩, ⟨some 38, (.call (.con (.func 59 [] [])) [.tmp 37]), none, none⟩, ⟨some 39, (.bin .add (.tmp 35) (.tmp 38)), none, none⟩, ⟨some 40, (.bin .add (.tmp 32) (.tmp 39)), none, none⟩, ⟨some 5, (.mv (.tmp 40)), none, none⟩]))) (.region [⟨some 41, (.bin .add (.tmp 28) (.con (.int .i64 1))), none, none⟩, ⟨some 28, (.mv (.tmp 41)), none, none⟩]))))))) (.seq (.region [⟨some 42, (.mv (.tmp 5)), none, none⟩, ⟨some 43, (.call (.con (.func 57 [] [])) [.tmp 42, (.con (.int .i64 480))]), none, none⟩, ⟨some 2, (.mv (.tmp 43)), none, none⟩, ⟨some 3, (.mv (.con (.int .i64 0))), none, none⟩]) .ret))) .skip)) (.seq (.draw [⟨some 44, (.call (.con (.func 45 [] [])) [(.con (.int .i64 1)), (.con (.int .u64 2))]), none, none⟩, ⟨some 45, (.fieldA 1 (.tmp 1)), none, none⟩, ⟨some 46, (.load false 1 (.tmp 45)), none, (some (0, 1))⟩, ⟨some 47, (.len false (.tmp 46)), none, none⟩, ⟨some 48, (.toInt .u64 (.tmp 47)), none, none⟩, ⟨some 49, (.call (.con (.func 45 [] [])) [(.con (.int .i64 1)), .tmp 48]), none, none⟩, ⟨some 50, (.bin .add (.tmp 44) (.tmp 49)), none, none⟩, ⟨some 51, (.fieldA 1 (.tmp 1)), none, none⟩, ⟨some 52, (.load false 1 (.tmp 51)), none, (some (0, 2))⟩, ⟨some 53, (.idxASl 1 (.tmp 52) (.con (.int .i64 0))), none, none⟩, ⟨some 54, (.load false 1 (.tmp 53)), none, (some (0, 2))⟩, ⟨some 55, (.toInt .u64 (.tmp 54)), none, none⟩, ⟨some 56, (.call (.con (.func 45 [] [])) [(.con (.int .i64 2)), .tmp 55]), none, none⟩, ⟨some 57, (.bin .add (.tmp 50) (.tmp 56)), none, none⟩, ⟨some 8, (.mv (.tmp 57)), none, none⟩]) (.seq (.seq (.region [⟨some 58, (.fieldA 0 (.tmp 1)), none, none⟩, ⟨some 59, (.load false 1 (.tmp 58)), none, none⟩, ⟨some 60, (.len false (.tmp 59)), none, none⟩, ⟨some 61, (.mv (.con (.int .i64 0))), none, none⟩]) (.block 2 (.loop (.seq (.region [⟨some 62, (.bin .lss (.tmp 61) (.tmp 60)), none, none⟩]) (.seq (.cond (.tmp 62) .skip (.exit 2)) (.seq (.block 3 (.seq (.region [⟨some 63, (.mv (.tmp 61)), none, none⟩, ⟨some 64, (.idxASl 2 (.tmp 59) (.tmp 61)), none, none⟩, ⟨some 65, (.load true 2 (.tmp 64)), none, none⟩, ⟨some 10, (.new [(.str []), (.str [])]), none, none⟩, ⟨some 9, (.mv (.tmp 63)), none, none⟩, ⟨none, (.store 2 (.tmp 10) (.tmp 65)), none, none⟩]) (.draw [⟨some 66, (.mv (.tmp 8)), none, none⟩, ⟨some 67, (.fieldA 0 (.tmp 10)), none, none⟩, ⟨some 68, (.load false 1 (.tmp 67)), none, none⟩, ⟨some 69, (.call (.con (.func 59 [] [])) [.tmp 68]), none, none⟩, ⟨some 70, (.fieldA 1 (.tmp 1)), none, none⟩, ⟨some 71, (.load false 1 (.tmp 70)), none, (some (0, 1))⟩, ⟨some 72, (.mv (.tmp 9)), none, none⟩, ⟨some 73, (.bin .add (.tmp 72) (.con (.int .i64 1))), none, none⟩, ⟨some 74, (.idxASl 1 (.tmp 71) (.tmp 73)), none, none⟩, ⟨some 75, (.load false 1 (.tmp 74)), none, (some (0, 1))⟩, ⟨some 76, (.toInt .u64 (.tmp 75)), none, none⟩, ⟨some 77, (.call (.con (.func 45 [] [])) [(.con (.int .i64 2)), .tmp 76]), none, none⟩, ⟨some 78, (.bin .add (.tmp 69) (.tmp 77)), none, none⟩, ⟨some 79, (.bin .add (.tmp 66) (.tmp 78)), none, none⟩, ⟨some 8, (.mv (.tmp 79)), none, none⟩]))) (.region [⟨some 80, (.bin .add (.tmp 61) (.con (.int .i64 1))), none, none⟩, ⟨some 61, (.mv (.tmp 80)), none, none⟩]))))))) (.seq (.region [⟨some 81, (.mv (.tmp 8)), none, none⟩, ⟨some 82, (.call (.con (.func 57 [] [])) [.tmp 81, (.con (.int .i64 480))]), none, none⟩, ⟨some 2, (.mv (.tmp 82)), none, none⟩, ⟨some 3, (.mv (.con (.int .i64 0))), none, none⟩]) .ret)))))), [.tmp 2, .tmp 3]⟩
theorem c24_is : cfn Try.prog 24 = some c24 := by kernel_rfl
def c25 : AFn := ⟨(.seq (.region [⟨some 1, (.box (.tmp 0)), none, none⟩, ⟨some 2, (.new [.nils, .nils]), none, none⟩]) (.seq (.region [⟨some 3, (.fieldA 0 (.tmp 1)), none, none⟩, ⟨some 4, (.load false 1 (.tmp 3)), none, none⟩, ⟨some 5, (.fieldA 1 (.tmp 1)), none, none⟩, ⟨some 6, (.load false 1 (.tmp 5)), none, none⟩, ⟨some 7, (.build [.nils, .nils] [(0, (1, (.tmp 4))), (1, (1, (.tmp 6)))]), none, none⟩, ⟨none, (.store 2 (.tmp 2) (.tmp 7)), none, none⟩]) .ret)), [(.cell 2 true 2)]⟩
theorem c25_is : cfn Try.prog 25 = some c25 := by kernel_rfl
def c26 : AFn := ⟨(.seq (.region [⟨some 1, (.box (.tmp 0)), none, none⟩, ⟨some 2, (.mv (.con (.str []))), none, none⟩, ⟨some 3, (.mv (.con (.int .i64 0))), none, none⟩]) (.seq (.seq (.region [⟨some 9, (.load true 2 (.tmp 1)), none, none⟩, ⟨some 10, (.call (.con (.func 33 [] [])) [.tmp 9]), none, none⟩, ⟨some 11, (.un .not (.tmp 10)), none, none⟩]) (.cond (.tmp 11) (.seq (.region [⟨some 2, (.mv (.con (.str []))), none, none⟩, ⟨some 3, (.mv (.con (.int .i64 18))), none, none⟩]) .ret) .skip)) (.seq (.region [⟨some 4, (.mv (.con (.str []))), none, none⟩]) (.seq (.seq (.region [⟨some 12, (.fieldA 1 (.tmp 1)), none, none⟩, ⟨some 13, (.load false 1 (.tmp 12)), none, none⟩, ⟨some 14, (.len false (.tmp 13)), none, none⟩, ⟨some 15, (.bin .eql (.tmp 14) (.con (.int .i64 0))), none, none⟩]) (.cond (.tmp 15) (.seq (.region [⟨some 16, (.fieldA 0 (.tmp 1)), none, none⟩, ⟨some 17, (.load false 1 (.tmp 16)), none, none⟩, ⟨some 18, (.len false (.tmp 17)), none, none⟩, ⟨some 19, (.toInt .u64 (.tmp 18)), none, none⟩, ⟨some 20, (.call (.con (.func 48 [] [])) [(.con (.int .i64 1)), .tmp 19]), none, none⟩, ⟨some 21, (.bin .add (.con (.str [1])) (.tmp 20)), none, none⟩, ⟨some 4, (.mv (.tmp 21)), none, none⟩]) (.seq (.region [⟨some 5, (.mv (.con (.int .i64 0))), none, none⟩]) (.block 0 (.loop (.seq (.seq (.region [⟨some 22, (.mv (.tmp 5)), none, none⟩, ⟨some 23, (.fieldA 0 (.tmp 1)), none, none⟩, ⟨some 24, (.load false 1 (.tmp 23)), none, none⟩, ⟨some 25, (.len false (.tmp 24)), none, none⟩, ⟨some 26, (.bin .lss (.tmp 22) (.tmp 25)), none, none⟩]) (.cond (.tmp 26) .skip (.exit 0))) (.seq (.block 1 (.seq (.region [⟨some 29, (.fieldA 0 (.tmp 1)), none, none⟩, ⟨some 30, (.load false 1 (.tmp 29)), none, none⟩, ⟨some 31, (.mv (.tmp 5)), none, none⟩, ⟨some 32, (.idxASl 2 (.tmp 30) (.tmp 31)), none, none⟩, ⟨some 33, (.load true 2 (.tmp 32)), none, none⟩, ⟨some 6, (.new [(.str []), (.str [])]), none, none⟩, ⟨none, (.store 2 (.tmp 6) (.tmp 33)), none, none⟩]) (.draw [⟨some 34, (.mv (.tmp 4)), none, none⟩, ⟨some 35, (.fieldA 0 (.tmp 6)), none, none⟩, ⟨some 36, (.load false 1 (.tmp 35)), none, none⟩, ⟨some 37, (.len true (.tmp 36)), none, none⟩, ⟨some 38, (.toInt .u64 (.tmp 37)), none, none⟩, ⟨some 39, (.call (.con (.func 48 [] [])) [(.con (.int .i64 1)), .tmp 38]), none, none⟩, ⟨some 40, (.bin .add (.tmp 34) (.tmp 39)), none, none⟩, ⟨some 41, (.fieldA 0 (.tmp 6)), none, none⟩, ⟨some 42, (.load false 1 (.tmp 41)), none, (some (0, 2))⟩, ⟨some 43, (.bin .add (.tmp 40) (.tmp 42)), none, none⟩, ⟨some 44, (.fieldA 1 (.tmp 6)), none, none⟩, ⟨some 45, (.load false 1 (.tmp 44)), none, (some (0, 1))⟩, ⟨some 46, (.len true (.tmp 45)), none, none⟩, ⟨some 47, (.toInt .u64 (.tmp 46)), none, none⟩, ⟨some 48, (.call (.con (.func 48 [] [])) [(.con (.int .i64 1)), .tmp 47]), none, none⟩, ⟨some 49, (.bin .add (.tmp 43) (.tmp 48)), none, none⟩, ⟨some 50, (.fieldA 1 (.tmp 6)), none, none⟩, ⟨some 51, (.load false 1 (.tmp 50)), none, (some (0, 2))⟩, ⟨some 52, (.bin .add (.tmp 49) (.tmp 51)), none, none⟩, ⟨some 4, (.mv (.tmp 52)), none, none⟩]))) (.region [⟨some 27, (.mv (.tmp 5)), none, none⟩, ⟨some 28, (.bin .add (.tmp 27) (.con (.int .i64 1))), none, none⟩, ⟨some 5, (.mv (.tmp 28)), none, none⟩]))))))) (.seq (.draw [⟨some 53, (.fieldA 1 (.tmp 1)), none, none⟩, ⟨some 54, (.load false 1 (.tmp 53)), none, none⟩, ⟨some 55, (.len false (.tmp 54)), none, none⟩, ⟨some 56, (.toInt .u64 (.tmp 55)), none, none⟩, ⟨some 57, (.call (.con (.func 48 [] [])) [(.con (.int .i64 1)), .tmp 56]), none, none⟩, ⟨some 58, (.bin .add (.con (.str [2])) (.tmp 57)), none, none⟩, ⟨some 59, (.fieldA 1 (.tmp 1)), none, none⟩, ⟨some 60, (.load false 1 (.tmp 59)), none, (some (0, 1))⟩, ⟨some 61, (.idxASl 1 (.tmp 60) (.con (.int .i64 0))), none, none⟩, ⟨some 62, (.load false 1 (.tmp 61)), none, (some (0, 1))⟩, ⟨some 63, (.toInt .u64 (.tmp 62)), none, none⟩, ⟨some 64, (.call (.con (.func 48 [] [])) [(.con (.int .i64 2)), .tmp 63]), none, none⟩, ⟨some 65, (.bin .add (.tmp 58) (.tmp 64)), none, none⟩, ⟨some 4, (.mv (.tmp 65)), none, none⟩]) (.seq (.region [⟨some 7, (.mv (.con (.int .i64 0))), none, none⟩]) (.block 2 (.loop (.seq (.seq (.region [⟨some 66, (.mv (.tmp 7)), none, none⟩, ⟨some 67, (.fieldA 0 (.tmp 1)), none, none⟩, ⟨some 68, (.load false 1 (.tmp 67)), none, none⟩, ⟨some 69, (.len false (.tmp 68)), none, none⟩, ⟨some 70, (.bin .lss (.tmp 66) (.tmp 69)), none, none⟩]) (.cond (.tmp 70) .skip (.exit 2))) (.seq (.block 3 (.seq (.region [⟨some 73, (.fieldA 0 (.tmp 1)), none, none⟩, ⟨some 74, (.load false 1 (.tmp 73)), none, none⟩, ⟨some 75, (.mv (.tmp 7)), none, none⟩, ⟨some 76, (.idxASl 2 (.tmp 74) (.tmp 75)), none, none⟩, ⟨some 77, (.load true 2 (.tmp 76)), none, none⟩, ⟨some 8, (.new [(.str []), (.str [])]), none, none⟩, ⟨none, (.store 2 (.tmp 8) (.tmp 77)), none, none⟩]) (.draw [⟨some 78, (.mv (.tmp 4)), none, none⟩, ⟨some 79, (.fieldA 0 (.tmp 8)), none, none⟩, ⟨some 80, (.load false 1 (.tmp 79)), none, none⟩, ⟨some 81, (.len true (.tmp 80)), none, none⟩, ⟨some 82, (.toInt .u64 (.tmp 81)), none, none⟩, ⟨some 83, (.call (.con (.func 48 [] [])) [(.con (.int .i64 1)), .tmp 82]), none, none⟩, ⟨some 84, (.bin .add (.tmp 78) (.tmp 83)), none, none⟩, ⟨some 85, (.fieldA 0 (.tmp 8)), none, none⟩, ⟨some 86, (.load false 1 (.tmp 85)), none, (some (0, 2))⟩, ⟨some 87, (.bin .add (.tmp 84) (.tmp 86)), none, none⟩, ⟨some 88, (.fieldA 1 (.tmp 1)), none, none⟩, ⟨some 89, (.load false 1 (.tmp 88)), none, (some (0, 1))⟩, ⟨some 90, (.mv (.tmp 7)), none, none⟩, ⟨some 91, (.bin .add (.tmp 90) (.con (.int .i64 1))), none, none⟩, ⟨some 92, (.idxASl 1 (.tmp 89) (.tmp 91)), none, none⟩, ⟨some 93, (.load false 1 (.tmp 92)), none, (some (0, 1))⟩, ⟨some 94, (.toInt .u64 (.tmp 93)), none, none⟩, ⟨some 95, (.call (.con (.func 48 [] [])) [(.con (.int .i64 2)), .tmp 94]), none, none⟩, ⟨some 96, (.bin .add (.tmp 87) (.tmp 95)), none, none⟩, ⟨some 4, (.mv (.tmp 96)), none, none⟩]))) (.region [⟨some 71, (.mv (.tmp 7)), none, none⟩, ⟨some 72, (.bin .add (.tmp 71) (.con (.int .i64 1))), none, none⟩, ⟨some 7, (.mv (.tmp 72)), none, none⟩]))))))))) (.seq (.region [⟨some 97, (.mv (.tmp 4)), none, none⟩, ⟨some 98, (.mv (.tmp 4)), none, none⟩, ⟨some 99, (.len true (.tmp 98)), none, none⟩, ⟨some 100, (.bin .sub (.con (.int .i64 480)) (.tmp 99)), none, none⟩, ⟨some 101, (.call (.con (.func 56 [] [])) [.tmp 100]), none, none⟩, ⟨some 102, (.bin .add (.tmp 97) (.tmp 101)), none, none⟩, ⟨some 2, (.mv (.tmp 102)), none, none⟩, ⟨some 3, (.mv (.con (.int .i64 0))), none, none⟩]) .ret))))), [.tmp 2, .tmp 3]⟩
theorem c26_is : cfn Try.prog 26 = some c26 := by kernel_rfl
def c27 : AFn := ⟨(.seq (.region [⟨some 2, (.new [.nils, .nils]), none, none⟩, ⟨some 3, (.mv (.con (.int .i64 0))), none, none⟩]) (.seq (.region [⟨some 4, (.new [.nils, .nils]), none, none⟩]) (.seq (.region [⟨some 11, (.mv (.tmp 0)), none, none⟩, ⟨some 12, (.call (.con (.func 50 [] [])) [.tmp 11]), none, none⟩, ⟨some 5, (.mv (.tmp 12)), none, none⟩]) (.seq (.region [⟨some 13, (.mv (.tmp 5)), none, none⟩, ⟨some 14, (.call (.con (.func 51 [] [])) [.tmp 13, (.con (.int .i64 1))]), none, none⟩, ⟨some 15, (.mv (.tmp 5)), none, none⟩, ⟨some 16, (.call (.con (.func 51 [] [])) [.tmp 15, (.con (.int .i64 1))]), none, none⟩, ⟨some 17, (.toInt .i64 (.tmp 16)), none, none⟩, ⟨some 6, (.mv (.tmp 14)), none, none⟩, ⟨some 7, (.mv (.tmp 17)), none, none⟩]) (.seq (.seq (.region [⟨some 18, (.mv (.tmp 6)), none, none⟩, ⟨some 19, (.bin .eql (.tmp 18) (.con (.int .u64 2))), none, none⟩]) (.cond (.tmp 19) (.seq (.draw [⟨some 20, (.fieldA 1 (.tmp 4)), none, none⟩, ⟨some 21, (.load false 1 (.tmp 20)), none, (some (0, 2))⟩, ⟨some 22, (.mv (.tmp 5)), none, none⟩, ⟨some 23, (.call (.con (.func 51 [] [])) [.tmp 22, (.con (.int .i64 2))]), none, none⟩, ⟨some 24, (.toInt .i64 (.tmp 23)), none, none⟩, ⟨some 25, (.buildS 1 [(.int .i64 0)] [(0, (1, (.tmp 24)))]), none, none⟩, ⟨some 26, (.append 1 8 (.tmp 21) (.tmp 25)), none, none⟩, ⟨some 27, (.fieldA 1 (.tmp 4)), none, none⟩, ⟨none, (.store 1 (.tmp 27) (.tmp 26)), none, none⟩]) (.region [⟨some 28, (.mv (.tmp 7)), none, none⟩, ⟨some 29, (.bin .sub (.tmp 28) (.con (.int .i64 1))), none, none⟩, ⟨some 7, (.mv (.tmp 29)), none, none⟩])) .skip)) (.seq (.seq (.region [⟨some 30, (.mv (.tmp 7)), none, none⟩, ⟨some 31, (.mv (.con (.int .i64 0))), none, none⟩]) (.block 0 (.loop (.seq (.region [⟨some 32, (.bin .lss (.tmp 31) (.tmp 30)), none, none⟩]) (.seq (.cond (.tmp 32) .skip (.exit 0)) (.seq (.block 1 (.seq (.region [⟨some 33, (.mv (.tmp 5)), none, none⟩, ⟨some 34, (.call (.con (.func 60 [] [])) [.tmp 33]), none, none⟩, ⟨some 35, (.build [(.str []), (.str [])] [(0, (1, (.tmp 34)))]), none, none⟩, ⟨some 8, (.new [(.str []), (.str [])]), none, none⟩, ⟨none, (.store 2 (.tmp 8) (.tmp 35)), none, none⟩]) (.seq (.seq (.region [⟨some 36, (.mv (.tmp 6)), none, none⟩, ⟨some 37, (.bin .eql (.tmp 36) (.con (.int .u64 2))), none, none⟩]) (.cond (.tmp 37) (.draw [⟨some 38, (.fieldA 1 (.tmp 4)), none, none⟩, ⟨some 39, (.load false 1 (.tmp 38)), none, (some (0, 2))⟩, ⟨some 40, (.mv (.tmp 5)), none, none⟩, ⟨some 41, (.call (.con (.func 51 [] [])) [.tmp 40, (.con (.int .i64 2))]), none, none⟩, ⟨some 42, (.toInt .i64 (.tmp 41)), none, none⟩, ⟨some 43, (.buildS 1 [(.int .i64 0)] [(0, (1, (.tmp 42)))]), none, none⟩, ⟨some 44, (.append 1 8 (.tmp 39) (.tmp 43)), none, none⟩, ⟨some 45, (.fieldA 1 (.tmp 4)), none, none⟩, ⟨none, (.store 1 (.tmp 45) (.tmp 44)), none, none⟩]) (.region [⟨some 46, (.mv (.tmp 5)), none, none⟩, ⟨some 47, (.call (.con (.func 60 [] [])) [.tmp 46]), none, none⟩, ⟨some 48, (.fieldA 1 (.tmp 8)), none, none⟩, ⟨none, (.store 1 (.tmp 48) (.tmp 47)), none, none⟩]))) (.region [⟨some 49, (.fieldA 0 (.tmp 4)), none, none⟩, ⟨some 50, (.load false 1 (.tmp 49)), none, none⟩, ⟨some 51, (.load true 2 (.tmp 8)), none, none⟩, ⟨some 52, (.buildT 64 1 [(.str []), (.str [])] [(0, (2, (.tmp 51)))]), none, none⟩, ⟨some 53, (.append 2 32 (.tmp 50) (.tmp 52)), none, none⟩, ⟨some 54, (.fieldA 0 (.tmp 4)), none, none⟩, ⟨none, (.store 1 (.tmp 54) (.tmp 53)), none, none⟩])))) (.region [⟨some 55, (.bin .add (.tmp 31) (.con (.int .i64 1))), none, none⟩, ⟨some 31, (.mv (.tmp 55)), none, none⟩]))))))) (.seq (.seq (.region [⟨some 57, (.load true 2 (.tmp 4)), none, none⟩, ⟨some 58, (.call (.con (.func 24 [] [])) [.tmp 57]), none, none⟩, ⟨some 56, (.mv (.tmp 58)), none, none⟩, ⟨some 59, (.extract (.tmp 56) 0), none, none⟩, ⟨some 60, (.extract (.tmp 56) 1), none, none⟩, ⟨some 9, (.mv (.tmp 59)), none, none⟩, ⟨some 10, (.mv (.tmp 60)), none, none⟩]) (.seq (.region [⟨some 61, (.mv (.tmp 10)), none, none⟩, ⟨some 62, (.bin .neq (.tmp 61) (.con (.int .i64 0))), none, none⟩, ⟨some 63, (.mv (.tmp 62)), none, none⟩, ⟨some 64, (.mv (.tmp 9)), (some (63, false)), none⟩, ⟨some 65, (.mv (.tmp 0)), (some (63, false)), none⟩, ⟨some 66, (.bin .neq (.tmp 64) (.tmp 65)), (some (63, false)), none⟩, ⟨some 67, (.pick (.tmp 63) (.con (.bool true)) (.tmp 66)), none, none⟩]) (.cond (.tmp 67) (.seq (.region [⟨some 68, (.build [.nils, .nils] []), none, none⟩, ⟨none, (.store 2 (.tmp 2) (.tmp 68)), none, none⟩, ⟨some 3, (.mv (.con (.int .i64 19))), none, none⟩]) .ret) .skip))) (.seq (.region [⟨some 69, (.load true 2 (.tmp 4)), none, none⟩, ⟨none, (.store 2 (.tmp 2) (.tmp 69)), none, none⟩, ⟨some 3, (.mv (.con (.int .i64 0))), none, none⟩]) .ret)))))))), [(.cell 2 true 2), .tmp 3]⟩
theorem c27_is : cfn Try.prog 27 = some c27 := by kernel_rfl
def c28 : AFn := ⟨(.seq (.region [⟨some 2, (.new [.nils, .nils]), none, none⟩, ⟨some 3, (.mv (.con (.int .i64 0))), none, none⟩]) (.seq (.region [⟨some 16, (.mv (.tmp 0)), none, none⟩, ⟨some 17, (.build [(.str []), (.int .i64 0)] [(0, (1, (.tmp 16)))]), none, none⟩, ⟨some 18, (.call (.con (.func 53 [] [])) [.tmp 17, (.con (.int .i64 1))]), none, none⟩, ⟨some 15, (.mv (.tmp 18)), none, none⟩, ⟨some 19, (.extract (.tmp 15) 0), none, none⟩, ⟨some 20, (.extract (.tmp 15) 1), none, none⟩, ⟨some 4, (.new [(.str []), (.int .i64 0)]), none, none⟩, ⟨none, (.store 2 (.tmp 4) (.tmp 19)), none, none⟩, ⟨some 5, (.mv (.tmp 20)), none, none⟩]) (.seq (.region [⟨some 22, (.load true 2 (.tmp 4)), none, none⟩, ⟨some 23, (.call (.con (.func 53 [] [])) [.tmp 22, (.con (.int .i64 1))]), none, none⟩, ⟨some 21, (.mv (.tmp 23)), none, none⟩, ⟨some 24, (.extract (.tmp 21) 0), none, none⟩, ⟨some 25, (.extract (.tmp 21) 1), none, none⟩, ⟨none, (.store 2 (.tmp 4) (.tmp 24)), none, none⟩, ⟨some 6, (.mv (.tmp 25)), none, none⟩]) (.seq (.region [⟨some 26, (.build [.nils, .nils] []), none, none⟩, ⟨some 7, (.new [.nils, .nils]), none, none⟩, ⟨none, (.store 2 (.tmp 7) (.tmp 26)), none, none⟩]) (.seq (.seq (.region [⟨some 27, (.mv (.tmp 5)), none, none⟩, ⟨some 28, (.bin .eql (.tmp 27) (.con (.int .u64 2))), none, none⟩]) (.cond (.tmp 28) (.seq (.region [⟨some 8, (.mv (.con (.int .u64 0))), none, none⟩]) (.block 0 (.loop (.seq (.seq (.region [⟨some 29, (.mv (.tmp 8)), none, none⟩, ⟨some 30, (.mv (.tmp 6)), none, none⟩, ⟨some 31, (.bin .lss (.tmp 29) (.tmp 30)), none, none⟩]) (.cond (.tmp 31) .skip (.exit 0))) (.seq (.block 1 (.seq (.seq (.region [⟨some 34, (.mv (.tmp 8)), none, none⟩, ⟨some 35, (.bin .gtr (.tmp 34) (.con (.int .u64 0))), none, none⟩]) (.cond (.tmp 35) (.seq (.region [⟨some 36, (.build [(.str []), (.str [])] []), none, none⟩, ⟨some 9, (.new [(.str []), (.str [])]), none, none⟩, ⟨none, (.store 2 (.tmp 9) (.tmp 36)), none, none⟩]) (.seq (.region [⟨some 38, (.load true 2 (.tmp 4)), none, none⟩, ⟨some 39, (.call (.con (.func 61 [] [])) [.tmp 38]), none, none⟩, ⟨some 37, (.mv (.tmp 39)), none, none⟩, ⟨some 40, (.extract (.tmp 37) 0), none, none⟩, ⟨some 41, (.extract (.tmp 37) 1), none, none⟩, ⟨none, (.store 2 (.tmp 4) (.tmp 40)), none, none⟩, ⟨some 42, (.fieldA 0 (.tmp 9)), none, none⟩, ⟨none, (.store 1 (.tmp 42) (.tmp 41)), none, none⟩]) (.region [⟨some 43, (.fieldA 0 (.tmp 7)), none, none⟩, ⟨some 44, (.load false 1 (.tmp 43)), none, none⟩, ⟨some 45, (.load true 2 (.tmp 9)), none, none⟩, ⟨some 46, (.buildT 64 1 [(.str []), (.str [])] [(0, (2, (.tmp 45)))]), none, none⟩, ⟨some 47, (.append 2 32 (.tmp 44) (.tmp 46)), none, none⟩, ⟨some 48, (.fieldA 0 (.tmp 7)), none, none⟩, ⟨none, (.store 1 (.tmp 48) (.tmp 47)), none, none⟩]))) .skip)) (.seq (.region [⟨some 10, (.mv (.con (.int .u64 0))), none, none⟩]) (.seq (.region [⟨some 50, (.load true 2 (.tmp 4)), none, none⟩, ⟨some 51, (.call (.con (.func 53 [] [])) [.tmp 50, (.con (.int .i64 2))]), none, none⟩, ⟨some 49, (.mv (.tmp 51)), none, none⟩, ⟨some 52, (.extract (.tmp 49) 0), none, none⟩, ⟨some 53, (.extract (.tmp 49) 1), none, none⟩, ⟨none, (.store 2 (.tmp 4) (.tmp 52)), none, none⟩, ⟨some 10, (.mv (.tmp 53)), none, none⟩]) (.region [⟨some 54, (.fieldA 1 (.tmp 7)), none, none⟩, ⟨some 55, (.load false 1 (.tmp 54)), none, none⟩, ⟨some 56, (.mv (.tmp 10)), none, none⟩, ⟨some 57, (.toInt .i64 (.tmp 56)), none, none⟩, ⟨some 58, (.buildS 1 [(.int .i64 0)] [(0, (1, (.tmp 57)))]), none, none⟩, ⟨some 59, (.append 1 8 (.tmp 55) (.tmp 58)), none, none⟩, ⟨some 60, (.fieldA 1 (.tmp 7)), none, none⟩, ⟨none, (.store 1 (.tmp 60) (.tmp 59)), none, none⟩]))))) (.region [⟨some 32, (.mv (.tmp 8)), none, none⟩, ⟨some 33, (.bin .add (.tmp 32) (.con (.int .u64 1))), none, none⟩, ⟨some 8, (.mv (.tmp 33)), none, none⟩])))))) (.seq (.region [⟨some 11, (.mv (.con (.int .u64 0))), none, none⟩]) (.block 2 (.loop (.seq (.seq (.region [⟨some 61, (.mv (.tmp 11)), none, none⟩, ⟨some 62, (.mv (.tmp 6)), none, none⟩, ⟨some 63, (.bin .lss (.tmp 61) (.tmp 62)), none, none⟩]) (.cond (.tmp 63) .skip (.exit 2))) (.seq (.block 3 (.seq (.region [⟨some 66, (.build [(.str []), (.str [])] []), none, none⟩, ⟨some 12, (.new [(.str []), (.str [])]), none, none⟩, ⟨none, (.store 2 (.tmp 12) (.tmp 66)), none, none⟩]) (.seq (.region [⟨some 68, (.load true 2 (.tmp 4)), none, none⟩, ⟨some 69, (.call (.con (.func 61 [] [])) [.tmp 68]), none, none⟩, ⟨some 67, (.mv (.tmp 69)), none, none⟩, ⟨some 70, (.extract (.tmp 67) 0), none, none⟩, ⟨some 71, (.extract (.tmp 67) 1), none, none⟩, ⟨none, (.store 2 (.tmp 4) (.tmp 70)), none, none⟩, ⟨some 72, (.fieldA 0 (.tmp 12)), none, none⟩, ⟨none, (.store 1 (.tmp 72) (.tmp 71)), none, none⟩]) (.seq (.region [⟨some 74, (.load true 2 (.tmp 4)), none, none⟩, ⟨some 75, (.call (.con (.func 61 [] [])) [.tmp 74]), none, none⟩, ⟨some 73, (.mv (.tmp 75)), none, none⟩, ⟨some 76, (.extract (.tmp 73) 0), none, none⟩, ⟨some 77, (.extract (.tmp 73) 1), none, none⟩, ⟨none, (.store 2 (.tmp 4) (.tmp 76)), none, none⟩, ⟨some 78, (.fieldA 1 (.tmp 12)), none, none⟩, ⟨none, (.store 1 (.tmp 78) (.tmp 77)), none, none⟩]) (.region [⟨some 79, (.fieldA 0 (.tmp 7)), none, none⟩, ⟨some 80, (.load false 1 (.tmp 79)), none, none⟩, ⟨some 81, (.load true 2 (.tmp 12)), none, none⟩, ⟨some 82, (.buildT 64 1 [(.str []), (.str [])] [(0, (2, (.tmp 81)))]), none, none⟩, ⟨some 83, (.append 2 32 (.tmp 80) (.tmp 82)), none, none⟩, ⟨some 84, (.fieldA 0 (.tmp 7)), none, none⟩, ⟨none, (.store 1 (.tmp 84) (.tmp 83)), none, none⟩]))))) (.region [⟨some 64, (.mv (.tmp 11)), none, none⟩, ⟨some 65, (.bin .add (.tmp 64) (.con (.int .u64 1))), none, none⟩, ⟨some 11, (.mv (.tmp 65)), none, none⟩])))))))) (.seq (.region [⟨some 86, (.load true 2 (.tmp 7)), none, none⟩, ⟨some 87, (.call (.con (.func 26 [] [])) [.tmp 86]), none, none⟩, ⟨some 85, (.mv (.tmp 87)), none, none⟩, ⟨some 88, (.extract (.tmp 85) 0), none, none⟩, ⟨some 89, (.extract (.tmp 85) 1), none, none⟩, ⟨some 13, (.mv (.tmp 88)), none, none⟩, ⟨some 14, (.mv (.tmp 89)), none, none⟩]) (.seq (.seq (.region [⟨some 90, (.mv (.tmp 14)), none, none⟩, ⟨some 91, (.bin .neq (.tmp 90) (.con (.int .i64 0))), none, none⟩, ⟨some 92, (.mv (.tmp 91)), none, none⟩, ⟨some 93, (.mv (.tmp 13)), (some (92, false)), none⟩, ⟨some 94, (.mv (.tmp 0)), (some (92, false)), none⟩, ⟨some 95, (.bin .neq (.tmp 93) (.tmp 94)), (some (92, false)), none⟩, ⟨some 96, (.pick (.tmp 92) (.con (.bool true)) (.tmp 95)), none, none⟩]) (.cond (.tmp 96) (.seq (.region [⟨some 97, (.build [.nils, .nils] []), none, none⟩, ⟨none, (.store 2 (.tmp 2) (.tmp 97)), none, none⟩, ⟨some 3, (.mv (.con (.int .i64 19))), none, none⟩]) .ret) .skip)) (.seq (.region [⟨some 98, (.load true 2 (.tmp 7)), none, none⟩, ⟨none, (.store 2 (.tmp 2) (.tmp 98)), none, none⟩, ⟨some 3, (.mv (.con (.int .i64 0))), none, none⟩]) .ret)))))))), [(.cell 2 true 2), .tmp 3]⟩
theorem c28_is : cfn Try.prog 28 = some c28 := by kernel_rfl
def c29 : AFn := ⟨(.seq (.region [⟨some 1, (.box (.tmp 0)), none, none⟩, ⟨some 2, (.mv (.con (.int .i64 0))), none, none⟩]) (.seq (.region [⟨some 8, (.load true 2 (.tmp 1)), none, none⟩, ⟨some 9, (.call (.con (.func 58 [] [])) [.tmp 8]), none, none⟩, ⟨some 10, (.mv (.tmp 9)), none, none⟩, ⟨some 11, (.fieldA 0 (.tmp 1)), (some (10, true)), none⟩, ⟨some 12, (.load false 1 (.tmp 11)), (some (10, true)), none⟩, ⟨some 13, (.len false (.tmp 12)), (some (10, true)), none⟩, ⟨some 14, (.bin .gtr (.tmp 13) (.con (.int .i64 0))), (some (10, true)), none⟩, ⟨some 15, (.pick (.tmp 10) (.tmp 14) (.con (.bool false))), none, none⟩, ⟨some 16, (.mv (.tmp 15)), none, none⟩, ⟨some 17, (.load true 2 (.tmp 1)), (some (16, false)), none⟩, ⟨some 18, (.call (.con (.func 58 [] [])) [.tmp 17]), (some (16, false)), none⟩, ⟨some 19, (.un .not (.tmp 18)), (some (16, false)), none⟩, ⟨some 20, (.mv (.tmp 19)), (some (16, false)), none⟩, ⟨some 21, (.fieldA 0 (.tmp 1)), (some (20, true)), none⟩, ⟨some 22, (.load false 1 (.tmp 21)), (some (20, true)), none⟩, ⟨some 23, (.len false (.tmp 22)), (some (20, true)), none⟩, ⟨some 24, (.fieldA 1 (.tmp 1)), (some (20, true)), none⟩, ⟨some 25, (.load false 1 (.tmp 24)), (some (20, true)), none⟩, ⟨some 26, (.len false (.tmp 25)), (some (20, true)), none⟩, ⟨some 27, (.bin .sub (.tmp 26) (.con (.int .i64 1))), (some (20, true)), none⟩, ⟨some 28, (.bin .eql (.tmp 23) (.tmp 27)), (some (20, true)), none⟩, ⟨some 29, (.pick (.tmp 20) (.tmp 28) (.con (.bool false))), (some (16, false)), none⟩, ⟨some 30, (.pick (.tmp 16) (.con (.bool true)) (.tmp 29)), none, none⟩, ⟨some 3, (.mv (.tmp 30)), none, none⟩]) (.seq (.seq (.region [⟨some 31, (.fieldA 0 (.tmp 1)), none, none⟩, ⟨some 32, (.load false 1 (.tmp 31)), none, none⟩, ⟨some 33, (.len false (.tmp 32)), none, none⟩, ⟨some 34, (.mv (.con (.int .i64 0))), none, none⟩]) (.block 0 (.loop (.seq (.region [⟨some 35, (.bin .lss (.tmp 34) (.tmp 33)), none, none⟩]) (.seq (.cond (.tmp 35) .skip (.exit 0)) (.seq (.block 1 (.seq (.region [⟨some 36, (.mv (.tmp 34)), none, none⟩, ⟨some 37, (.idxASl 2 (.tmp 32) (.tmp 34)), none, none⟩, ⟨some 38, (.load true 2 (.tmp 37)), none, none⟩, ⟨some 5, (.new [(.str []), (.str [])]), none, none⟩, ⟨some 4, (.mv (.tmp 36)), none, none⟩, ⟨none, (.store 2 (.tmp 5) (.tmp 38)), none, none⟩]) (.draw [⟨some 39, (.mv (.tmp 3)), none, none⟩, ⟨some 40, (.mv (.tmp 39)), none, none⟩, ⟨some 41, (.load true 2 (.tmp 1)), (some (40, true)), none⟩, ⟨some 42, (.load true 2 (.tmp 5)), (some (40, true)), none⟩, ⟨some 43, (.call (.con (.func 62 [] [])) [.tmp 41, .tmp 42]), (some (40, true)), none⟩, ⟨some 44, (.pick (.tmp 40) (.tmp 43) (.con (.bool false))), none, none⟩, ⟨some 45, (.mv (.tmp 44)), none, none⟩, ⟨some 46, (.mv (.tmp 4)), (some (45, true)), none⟩, ⟨some 47, (.bin .eql (.tmp 46) (.con (.int .i64 0))), (some (45, true)), none⟩, ⟨some 48, (.mv (.tmp 47)), (some (45, true)), none⟩, ⟨some 49, (.fieldA 0 (.tmp 1)), (some (48, false)), none⟩, ⟨some 50, (.load false 1 (.tmp 49)), (some (48, false)), none⟩, ⟨some 51, (.mv (.tmp 4)), (some (48, false)), none⟩, ⟨some 52, (.bin .sub (.tmp 51) (.con (.int .i64 1))), (some (48, false)), none⟩, ⟨some 53, (.idxASl 2 (.tmp 50) (.tmp 52)), (some (48, false)), none⟩, ⟨some 54, (.fieldA 0 (.tmp 53)), (some (48, false)), none⟩, ⟨some 55, (.load false 1 (.tmp 54)), (some (48, false)), none⟩, ⟨some 56, (.fieldA 0 (.tmp 5)), (some (48, false)), none⟩, ⟨some 57, (.load false 1 (.tmp 56)), (some (48, false)), none⟩, ⟨some 58, (.bin .lss (.tmp 55) (.tmp 57)), (some (48, false)), none⟩, ⟨some 59, (.pick (.tmp 48) (.con (.bool true)) (.tmp 58)), (some (45, true)), none⟩, ⟨some 60, (.pick (.tmp 45) (.tmp 59) (.con (.bool false))), none, none⟩, ⟨some 3, (.mv (.tmp 60)), none, none⟩]))) (.region [⟨some 61, (.bin .add (.tmp 34) (.con (.int .i64 1))), none, none⟩, ⟨some 34, (.mv (.tmp 61)), none, none⟩]))))))) (.seq (.seq (.region [⟨some 62, (.fieldA 1 (.tmp 1)), none, none⟩, ⟨some 63, (.load false 1 (.tmp 62)), none, none⟩, ⟨some 64, (.len false (.tmp 63)), none, none⟩, ⟨some 65, (.mv (.con (.int .i64 0))), none, none⟩]) (.block 2 (.loop (.seq (.region [⟨some 66, (.bin .lss (.tmp 65) (.tmp 64)), none, none⟩]) (.seq (.cond (.tmp 66) .skip (.exit 2)) (.seq (.block 3 (.seq (.region [⟨some 67, (.idxASl 1 (.tmp 63) (.tmp 65)), none, none⟩, ⟨some 68, (.load false 1 (.tmp 67)), none, none⟩, ⟨some 7, (.mv (.tmp 68)), none, none⟩]) (.region [⟨some 69, (.mv (.tmp 3)), none, none⟩, ⟨some 70, (.mv (.tmp 69)), none, none⟩, ⟨some 71, (.mv (.tmp 7)), (some (70, true)), none⟩, ⟨some 72, (.bin .geq (.tmp 71) (.con (.int .i64 2))), (some (70, true)), none⟩, ⟨some 73, (.pick (.tmp 70) (.tmp 72) (.con (.bool false))), none, none⟩, ⟨some 74, (.mv (.tmp 73)), none, none⟩, ⟨some 75, (.mv (.tmp 7)), (some (74, true)), none⟩, ⟨some 76, (.bin .lss (.tmp 75) (.con (.int .i64 3840))), (some (74, true)), none⟩, ⟨some 77, (.pick (.tmp 74) (.tmp 76) (.con (.bool false))), none, none⟩, ⟨some 3, (.mv (.tmp 77)), none, none⟩]))) (.region [⟨some 78, (.bin .add (.tmp 65) (.con (.int .i64 1))), none, none⟩, ⟨some 65, (.mv (.tmp 78)), none, none⟩]))))))) (.seq (.seq (.region [⟨some 79, (.mv (.tmp 3)), none, none⟩, ⟨some 80, (.un .not (.tmp 79)), none, none⟩, ⟨some 81, (.mv (.tmp 80)), none, none⟩, ⟨some 82, (.load true 2 (.tmp 1)), (some (81, false)), none⟩, ⟨some 83, (.call (.con (.func 31 [] [])) [.tmp 82]), (some (81, false)), none⟩, ⟨some 84, (.bin .gtr (.tmp 83) (.con (.int .i64 480))), (some (81, false)), none⟩, ⟨some 85, (.pick (.tmp 81) (.con (.bool true)) (.tmp 84)), none, none⟩]) (.cond (.tmp 85) (.seq (.region [⟨some 2, (.mv (.con (.int .i64 18))), none, none⟩]) .ret) .skip)) (.seq (.region [⟨some 2, (.mv (.con (.int .i64 0))), none, none⟩]) .ret)))))), [.tmp 2]⟩
theorem c29_is : cfn Try.prog 29 = some c29 := by kernel_rfl
def c30 : AFn := ⟨(.seq (.region [⟨some 2, (.box (.tmp 0)), none, none⟩, ⟨some 3, (.box (.tmp 1)), none, none⟩, ⟨some 4, (.mv (.con (.bool false))), none, none⟩]) (.seq (.region [⟨some 5, (.fieldA 0 (.tmp 2)), none, none⟩, ⟨some 6, (.load false 1 (.tmp 5)), none, none⟩, ⟨some 7, (.fieldA 1 (.tmp 2)), none, none⟩, ⟨some 8, (.load false 1 (.tmp 7)), none, none⟩, ⟨some 9, (.build [.nils, .nils] [(0, (1, (.tmp 6))), (1, (1, (.tmp 8)))]), none, none⟩, ⟨some 10, (.load true 2 (.tmp 3)), none, none⟩, ⟨some 11, (.call (.con (.func 63 [] [])) [.tmp 9, .tmp 10]), none, none⟩, ⟨some 4, (.mv (.tmp 11)), none, none⟩]) .ret)), [.tmp 4]⟩
theorem c30_is : cfn Try.prog 30 = some c30 := by kernel_rfl
def c31 : AFn := ⟨(.seq (.region [⟨some 1, (.box (.tmp 0)), none, none⟩, ⟨some 2, (.mv (.con (.int .i64 0))), none, none⟩]) (.seq (.seq (.region [⟨some 3, (.load true 2 (.tmp 1)), none, none⟩, ⟨some 4, (.call (.con (.func 58 [] [])) [.tmp 3]), none, none⟩]) (.cond (.tmp 4) (.seq (.region [⟨some 5, (.load true 2 (.tmp 1)), none, none⟩, ⟨some 6, (.fieldA 0 (.tmp 1)), none, none⟩, ⟨some 7, (.load false 1 (.tmp 6)), none, none⟩, ⟨some 8, (.call (.con (.func 64 [] [])) [.tmp 5, .tmp 7]), none, none⟩, ⟨some 9, (.bin .add (.con (.int .i64 2)) (.tmp 8)), none, none⟩, ⟨some 2, (.mv (.tmp 9)), none, none⟩]) .ret) .skip)) (.seq (.region [⟨some 10, (.load true 2 (.tmp 1)), none, none⟩, ⟨some 11, (.fieldA 0 (.tmp 1)), none, none⟩, ⟨some 12, (.load false 1 (.tmp 11)), none, none⟩, ⟨some 13, (.call (.con (.func 64 [] [])) [.tmp 10, .tmp 12]), none, none⟩, ⟨some 14, (.bin .add (.con (.int .i64 4)) (.tmp 13)), none, none⟩, ⟨some 2, (.mv (.tmp 14)), none, none⟩]) .ret))), [.tmp 2]⟩
theorem c31_is : cfn Try.prog 31 = some c31 := by kernel_rfl
def c32 : AFn := ⟨(.seq (.region [⟨some 1, (.box (.tmp 0)), none, none⟩, ⟨some 2, (.mv (.con (.int .i64 0))), none, none⟩]) (.seq (.seq (.region [⟨some 3, (.fieldA 1 (.tmp 1)), none, none⟩, ⟨some 4, (.load false 1 (.tmp 3)), none, none⟩, ⟨some 5, (.len false (.tmp 4)), none, none⟩, ⟨some 6, (.bin .eql (.tmp 5) (.con (.int .i64 0))), none, none⟩]) (.cond (.tmp 6) (.seq (.region [⟨some 7, (.load true 2 (.tmp 1)), none, none⟩, ⟨some 8, (.fieldA 0 (.tmp 1)), none, none⟩, ⟨some 9, (.load false 1 (.tmp 8)), none, none⟩, ⟨some 10, (.len false (.tmp 9)), none, none⟩, ⟨some 11, (.call (.con (.func 65 [] [])) [.tmp 7, .tmp 10]), none, none⟩, ⟨some 12, (.bin .add (.con (.int .i64 2)) (.tmp 11)), none, none⟩, ⟨some 2, (.mv (.tmp 12)), none, none⟩]) .ret) .skip)) (.seq (.region [⟨some 13, (.load true 2 (.tmp 1)), none, none⟩, ⟨some 14, (.fieldA 0 (.tmp 1)), none, none⟩, ⟨some 15, (.load false 1 (.tmp 14)), none, none⟩, ⟨some 16, (.len false (.tmp 15)), none, none⟩, ⟨some 17, (.call (.con (.func 65 [] [])) [.tmp 13, .tmp 16]), none, none⟩, ⟨some 18, (.bin .add (.con (.int .i64 4)) (.tmp 17)), none, none⟩, ⟨some 2, (.mv (.tmp 18)), none, none⟩]) .ret))), [.tmp 2]⟩
theorem c32_is : cfn Try.prog 32 = some c32 := by kernel_rfl
def c33 : AFn := ⟨(.seq (.region [⟨some 1, (.box (.tmp 0)), none, none⟩, ⟨some 2, (.mv (.con (.bool false))), none, none⟩]) (.seq (.seq (.region [⟨some 6, (.fieldA 0 (.tmp 1)), none, none⟩, ⟨some 7, (.load false 1 (.tmp 6)), none, none⟩, ⟨some 8, (.call (.con (.func 34 [] [])) [.tmp 7]), none, none⟩, ⟨some 9, (.un .not (.tmp 8)), none, none⟩, ⟨some 10, (.mv (.tmp 9)), none, none⟩, ⟨some 11, (.load true 2 (.tmp 1)), (some (10, false)), none⟩, ⟨some 12, (.call (.con (.func 32 [] [])) [.tmp 11]), (some (10, false)), none⟩, ⟨some 13, (.bin .gtr (.tmp 12) (.con (.int .i64 480))), (some (10, false)), none⟩, ⟨some 14, (.pick (.tmp 10) (.con (.bool true)) (.tmp 13)), none, none⟩]) (.cond (.tmp 14) (.seq (.region [⟨some 2, (.mv (.con (.bool false))), none, none⟩]) .ret) .skip)) (.seq (.seq (.region [⟨some 3, (.mv (.con (.int .i64 0))), none, none⟩]) (.block 0 (.loop (.seq (.seq (.region [⟨some 15, (.mv (.tmp 3)), none, none⟩, ⟨some 16, (.fieldA 0 (.tmp 1)), none, none⟩, ⟨some 17, (.load false 1 (.tmp 16)), none, none⟩, ⟨some 18, (.len false (.tmp 17)), none, none⟩, ⟨some 19, (.bin .lss (.tmp 15) (.tmp 18)), none, none⟩]) (.cond (.tmp 19) .skip (.exit 0))) (.seq (.block 1 (.seq (.region [⟨some 22, (.fieldA 0 (.tmp 1)), none, none⟩, ⟨some 23, (.load false 1 (.tmp 22)), none, none⟩, ⟨some 24, (.mv (.tmp 3)), none, none⟩, ⟨some 25, (.idxASl 2 (.tmp 23) (.tmp 24)), none, none⟩, ⟨some 26, (.load true 2 (.tmp 25)), none, none⟩, ⟨some 4, (.new [(.str []), (.str [])]), none, none⟩, ⟨none, (.store 2 (.tmp 4) (.tmp 26)), none, none⟩]) (.seq (.region [⟨some 27, (.fieldA 0 (.tmp 4)), none, none⟩, ⟨some 28, (.load false 1 (.tmp 27)), none, none⟩, ⟨some 29, (.len true (.tmp 28)), none, none⟩, ⟨some 30, (.bin .lss (.tmp 29) (.con (.int .i64 1))), none, none⟩, ⟨some 31, (.mv (.tmp 30)), none, none⟩, ⟨some 32, (.fieldA 0 (.tmp 4)), (some (31, false)), none⟩, ⟨some 33, (.load false 1 (.tmp 32)), (some (31, false)), none⟩, ⟨some 34, (.len true (.tmp 33)), (some (31, false)), none⟩, ⟨some 35, (.bin .gtr (.tmp 34) (.con (.int .i64 64))), (some (31, false)), none⟩, ⟨some 36, (.pick (.tmp 31) (.con (.bool true)) (.tmp 35)), none, none⟩, ⟨some 37, (.mv (.tmp 36)), none, none⟩, ⟨some 38, (.fieldA 1 (.tmp 4)), (some (37, false)), none⟩, ⟨some 39, (.load false 1 (.tmp 38)), (some (37, false)), none⟩, ⟨some 40, (.len true (.tmp 39)), (some (37, false)), none⟩, ⟨some 41, (.bin .gtr (.tmp 40) (.con (.int .i64 64))), (some (37, false)), none⟩, ⟨some 42, (.pick (.tmp 37) (.con (.bool true)) (.tmp 41)), none, none⟩, ⟨some 43, (.mv (.tmp 42)), none, none⟩, ⟨some 44, (.fieldA 1 (.tmp 1)), (some (43, false)), none⟩, ⟨some 45, (.load false 1 (.tmp 44)), (some (43, false)), none⟩, ⟨some 46, (.len false (.tmp 45)), (some (43, false)), none⟩, ⟨some 47, (.bin .gtr (.tmp 46) (.con (.int .i64 0))), (some (43, false)), none⟩, ⟨some 48, (.mv (.tmp 47)), (some (43, false)), none⟩, ⟨some 49, (.fieldA 1 (.tmp 4)), (some (48, true)), none⟩, ⟨some 50, (.load false 1 (.tmp 49)), (some (48, true)), none⟩, ⟨some 51, (.len true (.tmp 50)), (some (48, true)), none⟩, ⟨some 52, (.bin .gtr (.tmp 51) (.con (.int .i64 0))), (some (48, true)), none⟩, ⟨some 53, (.pick (.tmp 48) (.tmp 52) (.con (.bool false))), (some (43, false)), none⟩, ⟨some 54, (.pick (.tmp 43) (.con (.bool true)) (.tmp 53)), none, none⟩]) (.cond (.tmp 54) (.seq (.region [⟨some 2, (.mv (.con (.bool false))), none, none⟩]) .ret) .skip)))) (.region [⟨some 20, (.mv (.tmp 3)), none, none⟩, ⟨some 21, (.bin .add (.tmp 20) (.con (.int .i64 1))), none, none⟩, ⟨some 3, (.mv (.tmp 21)), none, none⟩])))))) (.seq (.seq (.region [⟨some 5, (.mv (.con (.int .i64 0))), none, none⟩]) (.block 2 (.loop (.seq (.seq (.region [⟨some 55, (.mv (.tmp 5)), none, none⟩, ⟨some 56, (.fieldA 1 (.tmp 1)), none, none⟩, ⟨some 57, (.load false 1 (.tmp 56)), none, none⟩, ⟨some 58, (.len false (.tmp 57)), none, none⟩, ⟨some 59, (.bin .lss (.tmp 55) (.tmp 58)), none, none⟩]) (.cond (.tmp 59) .skip (.exit 2))) (.seq (.block 3 (.seq (.region [⟨some 62, (.fieldA 1 (.tmp 1)), none, none⟩, ⟨some 63, (.load false 1 (.tmp 62)), none, none⟩, ⟨some 64, (.mv (.tmp 5)), none, none⟩, ⟨some 65, (.idxASl 1 (.tmp 63) (.tmp 64)), none, none⟩, ⟨some 66, (.load false 1 (.tmp 65)), none, none⟩, ⟨some 67, (.bin .lss (.tmp 66) (.con (.int .i64 2))), none, none⟩, ⟨some 68, (.mv (.tmp 67)), none, none⟩, ⟨some 69, (.fieldA 1 (.tmp 1)), (some (68, false)), none⟩, ⟨some 70, (.load false 1 (.tmp 69)), (some (68, false)), none⟩, ⟨some 71, (.mv (.tmp 5)), (some (68, false)), none⟩, ⟨some 72, (.idxASl 1 (.tmp 70) (.tmp 71)), (some (68, false)), none⟩, ⟨some 73, (.load false 1 (.tmp 72)), (some (68, false)), none⟩, ⟨some 74, (.bin .gtr (.tmp 73) (.con (.int .i64 3839))), (some (68, false)), none⟩, ⟨some 75, (.pick (.tmp 68) (.con (.bool true)) (.tmp 74)), none, none⟩]) (.cond (.tmp 75) (.seq (.region [⟨some 2, (.mv (.con (.bool false))), none, none⟩]) .ret) .skip))) (.region [⟨some 60, (.mv (.tmp 5)), none, none⟩, ⟨some 61, (.bin .add (.tmp 60) (.con (.int .i64 1))), none, none⟩, ⟨some 5, (.mv (.tmp 61)), none, none⟩])))))) (.seq (.seq (.region [⟨some 76, (.fieldA 1 (.tmp 1)), none, none⟩, ⟨some 77, (.load false 1 (.tmp 76)), none, none⟩, ⟨some 78, (.len false (.tmp 77)), none, none⟩, ⟨some 79, (.bin .eql (.tmp 78) (.con (.int .i64 0))), none, none⟩]) (.cond (.tmp 79) (.seq (.region [⟨some 80, (.fieldA 0 (.tmp 1)), none, none⟩, ⟨some 81, (.load false 1 (.tmp 80)), none, none⟩, ⟨some 82, (.len false (.tmp 81)), none, none⟩, ⟨some 83, (.bin .gtr (.tmp 82) (.con (.int .i64 0))), none, none⟩, ⟨some 2, (.mv (.tmp 83)), none, none⟩]) .ret) .skip)) (.seq (.region [⟨some 84, (.fieldA 0 (.tmp 1)), none, none⟩, ⟨some 85, (.load false 1 (.tmp 84)), none, none⟩, ⟨some 86, (.len false (.tmp 85)), none, none⟩, ⟨some 87, (.fieldA 1 (.tmp 1)), none, none⟩, ⟨some 88, (.load false 1 (.tmp 87)), none, none⟩, ⟨some 89, (.len false (.tmp 88)), none, none⟩, ⟨some 90, (.bin .sub (.tmp 89) (.con (.int .i64 1))), none, none⟩, ⟨some 91, (.bin .eql (.tmp 86) (.tmp 90)), none, none⟩, ⟨some 2, (.mv (.tmp 91)), none, none⟩]) .ret)))))), [.tmp 2]⟩
theorem c33_is : cfn Try.prog 33 = some c33 := by kernel_rfl
def c34 : AFn := ⟨(.seq (.region [⟨some 2, (.mv (.con (.bool false))), none, none⟩]) (.seq (.seq (.region [⟨some 3, (.mv (.con (.int .i64 1))), none, none⟩]) (.block 0 (.loop (.seq (.seq (.region [⟨some 4, (.mv (.tmp 3)), none, none⟩, ⟨some 5, (.mv (.tmp 0)), none, none⟩, ⟨some 6, (.len false (.tmp 5)), none, none⟩, ⟨some 7, (.bin .lss (.tmp 4) (.tmp 6)), none, none⟩]) (.cond (.tmp 7) .skip (.exit 0))) (.seq (.block 1 (.seq (.draw [⟨some 10, (.mv (.tmp 0)), none, none⟩, ⟨some 11, (.mv (.tmp 3)), none, none⟩, ⟨some 12, (.bin .sub (.tmp 11) (.con (.int .i64 1))), none, none⟩, ⟨some 13, (.idxASl 2 (.tmp 10) (.tmp 12)), none, none⟩, ⟨some 14, (.fieldA 0 (.tmp 13)), none, none⟩, ⟨some 15, (.load false 1 (.tmp 14)), none, none⟩, ⟨some 16, (.mv (.tmp 0)), none, none⟩, ⟨some 17, (.mv (.tmp 3)), none, none⟩, ⟨some 18, (.idxASl 2 (.tmp 16) (.tmp 17)), none, none⟩, ⟨some 19, (.fieldA 0 (.tmp 18)), none, none⟩, ⟨some 20, (.load false 1 (.tmp 19)), none, none⟩, ⟨some 21, (.bin .geq (.tmp 15) (.tmp 20)), none, none⟩]) (.cond (.tmp 21) (.seq (.region [⟨some 2, (.mv (.con (.bool false))), none, none⟩]) .ret) .skip))) (.region [⟨some 8, (.mv (.tmp 3)), none, none⟩, ⟨some 9, (.bin .add (.tmp 8) (.con (.int .i64 1))), none, none⟩, ⟨some 3, (.mv (.tmp 9)), none, none⟩])))))) (.seq (.region [⟨some 2, (.mv (.con (.bool true))), none, none⟩]) .ret))), [.tmp 2]⟩
theorem c34_is : cfn Try.prog 34 = some c34 := by kernel_rfl
def c35 : AFn := ⟨(.seq (.region [⟨some 2, (.box (.tmp 0)), none, none⟩, ⟨some 3, (.box (.tmp 1)), none, none⟩, ⟨some 4, (.mv (.con (.int .i64 0))), none, none⟩, ⟨some 5, (.mv (.con (.bool false))), none, none⟩]) (.seq (.region [⟨some 8, (.fieldA 0 (.tmp 2)), none, none⟩, ⟨some 9, (.load false 1 (.tmp 8)), none, none⟩, ⟨some 10, (.len false (.tmp 9)), none, none⟩, ⟨some 11, (.mkFn 67 [] [.tmp 2, .tmp 3]), none, none⟩, ⟨some 12, (.call (.con (.func 66 [] [])) [.tmp 10, .tmp 11]), none, none⟩, ⟨some 6, (.mv (.tmp 12)), none, none⟩]) (.seq (.draw [⟨some 13, (.mv (.tmp 6)), none, none⟩, ⟨some 14, (.fieldA 0 (.tmp 2)), none, none⟩, ⟨some 15, (.load false 1 (.tmp 14)), none, none⟩, ⟨some 16, (.len false (.tmp 15)), none, none⟩, ⟨some 17, (.bin .lss (.tmp 13) (.tmp 16)), none, none⟩, ⟨some 18, (.mv (.tmp 17)), none, none⟩, ⟨some 19, (.fieldA 0 (.tmp 2)), (some (18, true)), none⟩, ⟨some 20, (.load false 1 (.tmp 19)), (some (18, true)), none⟩, ⟨some 21, (.mv (.tmp 6)), (some (18, true)), none⟩, ⟨some 22, (.idxASl 2 (.tmp 20) (.tmp 21)), (some (18, true)), none⟩, ⟨some 23, (.fieldA 0 (.tmp 22)), (some (18, true)), none⟩, ⟨some 24, (.load false 1 (.tmp 23)), (some (18, true)), none⟩, ⟨some 25, (.load false 1 (.tmp 3)), (some (18, true)), none⟩, ⟨some 26, (.bin .eql (.tmp 24) (.tmp 25)), (some (18, true)), none⟩, ⟨some 27, (.pick (.tmp 18) (.tmp 26) (.con (.bool false))), none, none⟩, ⟨some 7, (.mv (.tmp 27)), none, none⟩]) (.seq (.seq (.region [⟨some 28, (.mv (.tmp 7)), none, none⟩, ⟨some 29, (.mv (.tmp 28)), none, none⟩, ⟨some 30, (.load true 2 (.tmp 2)), (some (29, true)), none⟩, ⟨some 31, (.call (.con (.func 58 [] [])) [.tmp 30]), (some (29, true)), none⟩, ⟨some 32, (.un .not (.tmp 31)), (some (29, true)), none⟩, ⟨some 33, (.pick (.tmp 29) (.tmp 32) (.con (.bool false))), none, none⟩]) (.cond (.tmp 33) (.seq (.region [⟨some 34, (.mv (.tmp 6)), none, none⟩, ⟨some 35, (.bin .add (.tmp 34) (.con (.int .i64 1))), none, none⟩, ⟨some 4, (.mv (.tmp 35)), none, none⟩, ⟨some 5, (.mv (.con (.bool true))), none, none⟩]) .ret) .skip)) (.seq (.region [⟨some 36, (.mv (.tmp 6)), none, none⟩, ⟨some 37, (.mv (.tmp 7)), none, none⟩, ⟨some 4, (.mv (.tmp 36)), none, none⟩, ⟨some 5, (.mv (.tmp 37)), none, none⟩]) .ret))))), [.tmp 4, .tmp 5]⟩
theorem c35_is : cfn Try.prog 35 = some c35 := by kernel_rfl
def c36 : AFn := ⟨(.seq (.region [⟨some 2, (.box (.tmp 0)), none, none⟩, ⟨some 4, (.mv (.con (.int .i64 0))), none, none⟩, ⟨some 5, (.mv (.con (.bool false))), none, none⟩]) (.seq (.region [⟨some 6, (.mv (.con (.int .i64 0))), none, none⟩, ⟨some 7, (.mv (.con (.bool false))), none, none⟩]) (.seq (.seq (.region [⟨some 8, (.mv (.con (.int .i64 0))), none, none⟩]) (.block 0 (.loop (.seq (.seq (.region [⟨some 9, (.mv (.tmp 8)), none, none⟩, ⟨some 10, (.fieldA 0 (.tmp 2)), none, none⟩, ⟨some 11, (.load false 1 (.tmp 10)), none, none⟩, ⟨some 12, (.len false (.tmp 11)), none, none⟩, ⟨some 13, (.bin .lss (.tmp 9) (.tmp 12)), none, none⟩]) (.cond (.tmp 13) .skip (.exit 0))) (.seq (.block 1 (.seq (.seq (.region [⟨some 16, (.fieldA 0 (.tmp 2)), none, none⟩, ⟨some 17, (.load false 1 (.tmp 16)), none, none⟩, ⟨some 18, (.mv (.tmp 8)), none, none⟩, ⟨some 19, (.idxASl 2 (.tmp 17) (.tmp 18)), none, none⟩, ⟨some 20, (.fieldA 0 (.tmp 19)), none, none⟩, ⟨some 21, (.load false 1 (.tmp 20)), none, none⟩, ⟨some 22, (.mv (.tmp 1)), none, none⟩, ⟨some 23, (.bin .eql (.tmp 21) (.tmp 22)), none, none⟩]) (.cond (.tmp 23) (.region [⟨some 7, (.mv (.con (.bool true))), none, none⟩]) .skip)) (.seq (.region [⟨some 24, (.fieldA 0 (.tmp 2)), none, none⟩, ⟨some 25, (.load false 1 (.tmp 24)), none, none⟩, ⟨some 26, (.mv (.tmp 8)), none, none⟩, ⟨some 27, (.idxASl 2 (.tmp 25) (.tmp 26)), none, none⟩, ⟨some 28, (.fieldA 0 (.tmp 27)), none, none⟩, ⟨some 29, (.load false 1 (.tmp 28)), none, none⟩, ⟨some 30, (.mv (.tmp 1)), none, none⟩, ⟨some 31, (.bin .lss (.tmp 29) (.tmp 30)), none, none⟩, ⟨some 32, (.mv (.tmp 31)), none, none⟩, ⟨some 33, (.fieldA 1 (.tmp 2)), (some (32, false)), none⟩, ⟨some 34, (.load false 1 (.tmp 33)), (some (32, false)), none⟩, ⟨some 35, (.len false (.tmp 34)), (some (32, false)), none⟩, ⟨some 36, (.bin .gtr (.tmp 35) (.con (.int .i64 0))), (some (32, false)), none⟩, ⟨some 37, (.mv (.tmp 36)), (some (32, false)), none⟩, ⟨some 38, (.fieldA 0 (.tmp 2)), (some (37, true)), none⟩, ⟨some 39, (.load false 1 (.tmp 38)), (some (37, true)), none⟩, ⟨some 40, (.mv (.tmp 8)), (some (37, true)), none⟩, ⟨some 41, (.idxASl 2 (.tmp 39) (.tmp 40)), (some (37, true)), none⟩, ⟨some 42, (.fieldA 0 (.tmp 41)), (some (37, true)), none⟩, ⟨some 43, (.load false 1 (.tmp 42)), (some (37, true)), none⟩, ⟨some 44, (.mv (.tmp 1)), (some (37, true)), none⟩, ⟨some 45, (.bin .eql (.tmp 43) (.tmp 44)), (some (37, true)), none⟩, ⟨some 46, (.pick (.tmp 37) (.tmp 45) (.con (.bool false))), (some (32, false)), none⟩, ⟨some 47, (.pick (.tmp 32) (.con (.bool true)) (.tmp 46)), none, none⟩]) (.cond (.tmp 47) (.region [⟨some 48, (.mv (.tmp 6)), none, none⟩, ⟨some 49, (.bin .add (.tmp 48) (.con (.int .i64 1))), none, none⟩, ⟨some 6, (.mv (.tmp 49)), none, none⟩]) .skip)))) (.region [⟨some 14, (.mv (.tmp 8)), none, none⟩, ⟨some 15, (.bin .add (.tmp 14) (.con (.int .i64 1))), none, none⟩, ⟨some 8, (.mv (.tmp 15)), none, none⟩])))))) (.seq (.region [⟨some 50, (.mv (.tmp 6)), none, none⟩, ⟨some 51, (.mv (.tmp 7)), none, none⟩, ⟨some 4, (.mv (.tmp 50)), none, none⟩, ⟨some 5, (.mv (.tmp 51)), none, none⟩]) .ret)))), [.tmp 4, .tmp 5]⟩
theorem c36_is : cfn Try.prog 36 = some c36 := by kernel_rfl
def c37 : AFn := ⟨(.seq (.region [⟨some 1, (.box (.tmp 0)), none, none⟩, ⟨some 2, (.new [.nils, .nils]), none, none⟩, ⟨some 3, (.mv (.con (.str []))), none, none⟩, ⟨some 4, (.new [.nils, .nils]), none, none⟩]) (.seq (.region [⟨some 9, (.fieldA 0 (.tmp 1)), none, none⟩, ⟨some 10, (.load false 1 (.tmp 9)), none, none⟩, ⟨some 5, (.mv (.tmp 10)), none, none⟩]) (.seq (.block 0 (.seq (.region [⟨some 12, (.load true 2 (.tmp 1)), none, none⟩, ⟨some 13, (.call (.con (.func 58 [] [])) [.tmp 12]), none, none⟩, ⟨some 14, (.mv (.tmp 13)), none, none⟩, ⟨some 15, (.mv (.tmp 5)), (some (14, true)), none⟩, ⟨some 16, (.len false (.tmp 15)), (some (14, true)), none⟩, ⟨some 17, (.bin .gtr (.tmp 16) (.con (.int .i64 1))), (some (14, true)), none⟩, ⟨some 18, (.pick (.tmp 14) (.tmp 17) (.con (.bool false))), none, none⟩, ⟨some 11, (.mv (.tmp 18)), none, none⟩]) (.cond (.tmp 11) (.seq (.region [⟨some 19, (.load true 2 (.tmp 1)), none, none⟩, ⟨some 20, (.mv (.tmp 5)), none, none⟩, ⟨some 21, (.len false (.tmp 20)), none, none⟩, ⟨some 22, (.bin .sub (.tmp 21) (.con (.int .i64 1))), none, none⟩, ⟨some 23, (.call (.con (.func 68 [] [])) [.tmp 19, (.con (.int .i64 1)), .tmp 22]), none, none⟩, ⟨some 6, (.mv (.tmp 23)), none, none⟩]) (.seq (.draw [⟨some 24, (.mv (.tmp 5)), none, none⟩, ⟨some 25, (.mv (.tmp 6)), none, none⟩, ⟨some 26, (.slc 2 (.tmp 24) none (some (.tmp 25)) none), none, none⟩, ⟨some 27, (.call (.con (.func 69 [] [])) [.tmp 26]), none, none⟩, ⟨some 28, (.build [.nils, .nils] [(0, (1, (.tmp 27)))]), none, none⟩, ⟨some 29, (.mv (.tmp 5)), none, none⟩, ⟨some 30, (.mv (.tmp 6)), none, none⟩, ⟨some 31, (.idxASl 2 (.tmp 29) (.tmp 30)), none, none⟩, ⟨some 32, (.fieldA 0 (.tmp 31)), none, none⟩, ⟨some 33, (.load false 1 (.tmp 32)), none, (some (0, 3))⟩, ⟨some 34, (.mv (.tmp 5)), none, none⟩, ⟨some 35, (.mv (.tmp 6)), none, none⟩, ⟨some 36, (.slc 2 (.tmp 34) (some (.tmp 35)) none none), none, none⟩, ⟨some 37, (.call (.con (.func 69 [] [])) [.tmp 36]), none, none⟩, ⟨some 38, (.build [.nils, .nils] [(0, (1, (.tmp 37)))]), none, none⟩, ⟨none, (.store 2 (.tmp 2) (.tmp 28)), none, none⟩, ⟨some 3, (.mv (.tmp 33)), none, none⟩, ⟨none, (.store 2 (.tmp 4) (.tmp 38)), none, none⟩]) .ret)) (.seq (.region [⟨some 40, (.fieldA 1 (.tmp 1)), none, none⟩, ⟨some 41, (.load false 1 (.tmp 40)), none, none⟩, ⟨some 42, (.len false (.tmp 41)), none, none⟩, ⟨some 43, (.bin .gtr (.tmp 42) (.con (.int .i64 2))), none, none⟩, ⟨some 44, (.mv (.tmp 43)), none, none⟩, ⟨some 45, (.mv (.tmp 5)), (some (44, true)), none⟩, ⟨some 46, (.len false (.tmp 45)), (some (44, true)), none⟩, ⟨some 47, (.fieldA 1 (.tmp 1)), (some (44, true)), none⟩, ⟨some 48, (.load false 1 (.tmp 47)), (some (44, true)), none⟩, ⟨some 49, (.len false (.tmp 48)), (some (44, true)), none⟩, ⟨some 50, (.bin .sub (.tmp 49) (.con (.int .i64 1))), (some (44, true)), none⟩, ⟨some 51, (.bin .eql (.tmp 46) (.tmp 50)), (some (44, true)), none⟩, ⟨some 52, (.pick (.tmp 44) (.tmp 51) (.con (.bool false))), none, none⟩, ⟨some 39, (.mv (.tmp 52)), none, none⟩]) (.cond (.tmp 39) (.seq (.region [⟨some 53, (.load true 2 (.tmp 1)), none, none⟩, ⟨some 54, (.fieldA 1 (.tmp 1)), none, none⟩, ⟨some 55, (.load false 1 (.tmp 54)), none, none⟩, ⟨some 56, (.len false (.tmp 55)), none, none⟩, ⟨some 57, (.bin .sub (.tmp 56) (.con (.int .i64 2))), none, none⟩, ⟨some 58, (.call (.con (.func 68 [] [])) [.tmp 53, (.con (.int .i64 0)), .tmp 57]), none, none⟩, ⟨some 7, (.mv (.tmp 58)), none, none⟩]) (.seq (.draw [⟨some 59, (.mv (.tmp 5)), none, none⟩, ⟨some 60, (.mv (.tmp 7)), none, none⟩, ⟨some 61, (.slc 2 (.tmp 59) none (some (.tmp 60)) none), none, none⟩, ⟨some 62, (.call (.con (.func 69 [] [])) [.tmp 61]), none, none⟩, ⟨some 63, (.fieldA 1 (.tmp 1)), none, none⟩, ⟨some 64, (.load false 1 (.tmp 63)), none, (some (0, 1))⟩, ⟨some 65, (.mv (.tmp 7)), none, none⟩, ⟨some 66, (.bin .add (.tmp 65) (.con (.int .i64 1))), none, none⟩, ⟨some 67, (.slc 1 (.tmp 64) none (some (.tmp 66)) none), none, none⟩, ⟨some 68, (.call (.con (.func 70 [] [])) [.tmp 67]), none, none⟩, ⟨some 69, (.build [.nils, .nils] [(0, (1, (.tmp 62))), (1, (1, (.tmp 68)))]), none, none⟩, ⟨some 8, (.new [.nils, .nils]), none, none⟩, ⟨none, (.store 2 (.tmp 8) (.tmp 69)), none, none⟩]) (.seq (.draw [⟨some 70, (.load true 2 (.tmp 8)), none, (some (0, 2))⟩, ⟨some 71, (.mv (.tmp 5)), none, none⟩, ⟨some 72, (.mv (.tmp 7)), none, none⟩, ⟨some 73, (.idxASl 2 (.tmp 71) (.tmp 72)), none, none⟩, ⟨some 74, (.fieldA 0 (.tmp 73)), none, none⟩, ⟨some 75, (.load false 1 (.tmp 74)), none, (some (0, 3))⟩, ⟨some 76, (.mv (.tmp 5)), none, none⟩, ⟨some 77, (.mv (.tmp 7)), none, none⟩, ⟨some 78, (.bin .add (.tmp 77) (.con (.int .i64 1))), none, none⟩, ⟨some 79, (.slc 2 (.tmp 76) (some (.tmp 78)) none none), none, none⟩, ⟨some 80, (.call (.con (.func 69 [] [])) [.tmp 79]), none, none⟩, ⟨some 81, (.fieldA 1 (.tmp 1)), none, none⟩, ⟨some 82, (.load false 1 (.tmp 81)), none, (some (0, 1))⟩, ⟨some 83, (.mv (.tmp 7)), none, none⟩, ⟨some 84, (.bin .add (.tmp 83) (.con (.int .i64 1))), none, none⟩, ⟨some 85, (.slc 1 (.tmp 82) (some (.tmp 84)) none none), none, none⟩, ⟨some 86, (.call (.con (.func 70 [] [])) [.tmp 85]), none, none⟩, ⟨some 87, (.build [.nils, .nils] [(0, (1, (.tmp 80))), (1, (1, (.tmp 86)))]), none, none⟩, ⟨none, (.store 2 (.tmp 2) (.tmp 70)), none, none⟩, ⟨some 3, (.mv (.tmp 75)), none, none⟩, ⟨none, (.store 2 (.tmp 4) (.tmp 87)), none, none⟩]) .ret))) .skip))))) (.seq (.region [⟨some 88, (.load true 2 (.tmp 1)), none, none⟩, ⟨some 89, (.build [.nils, .nils] []), none, none⟩, ⟨none, (.store 2 (.tmp 2) (.tmp 88)), none, none⟩, ⟨some 3, (.mv (.con (.str []))), none, none⟩, ⟨none, (.store 2 (.tmp 4) (.tmp 89)), none, none⟩]) .ret)))), [(.cell 2 true 2), .tmp 3, (.cell 4 true 2)]⟩
theorem c37_is : cfn Try.prog 37 = some c37 := by kernel_rfl
def c38 : AFn := ⟨(.seq (.region [⟨some 1, (.box (.tmp 0)), none, none⟩, ⟨some 2, (.new [.nils, .nils]), none, none⟩, ⟨some 3, (.mv (.con (.str []))), none, none⟩, ⟨some 4, (.new [.nils, .nils]), none, none⟩]) (.seq (.region [⟨some 8, (.fieldA 0 (.tmp 1)), none, none⟩, ⟨some 9, (.load false 1 (.tmp 8)), none, none⟩, ⟨some 10, (.len false (.tmp 9)), none, none⟩, ⟨some 5, (.mv (.tmp 10)), none, none⟩]) (.seq (.seq (.region [⟨some 11, (.fieldA 1 (.tmp 1)), none, none⟩, ⟨some 12, (.load false 1 (.tmp 11)), none, none⟩, ⟨some 13, (.len false (.tmp 12)), none, none⟩, ⟨some 14, (.bin .eql (.tmp 13) (.con (.int .i64 0))), none, none⟩, ⟨some 15, (.mv (.tmp 14)), none, none⟩, ⟨some 16, (.mv (.tmp 5)), (some (15, true)), none⟩, ⟨some 17, (.bin .gtr (.tmp 16) (.con (.int .i64 1))), (some (15, true)), none⟩, ⟨some 18, (.pick (.tmp 15) (.tmp 17) (.con (.bool false))), none, none⟩]) (.cond (.tmp 18) (.seq (.region [⟨some 19, (.load true 2 (.tmp 1)), none, none⟩, ⟨some 20, (.mv (.tmp 5)), none, none⟩, ⟨some 21, (.bin .sub (.tmp 20) (.con (.int .i64 1))), none, none⟩, ⟨some 22, (.call (.con (.func 71 [] [])) [.tmp 19, (.con (.int .i64 1)), .tmp 21]), none, none⟩, ⟨some 6, (.mv (.tmp 22)), none, none⟩]) (.seq (.draw [⟨some 23, (.fieldA 0 (.tmp 1)), none, none⟩, ⟨some 24, (.load false 1 (.tmp 23)), none, none⟩, ⟨some 25, (.mv (.tmp 6)), none, none⟩, ⟨some 26, (.slc 2 (.tmp 24) none (some (.tmp 25)) none), none, none⟩, ⟨some 27, (.build [.nils, .nils] [(0, (1, (.tmp 26)))]), none, none⟩, ⟨some 28, (.fieldA 0 (.tmp 1)), none, none⟩, ⟨some 29, (.load false 1 (.tmp 28)), none, (some (0, 1))⟩, ⟨some 30, (.mv (.tmp 6)), none, none⟩, ⟨some 31, (.idxASl 2 (.tmp 29) (.tmp 30)), none, none⟩, ⟨some 32, (.fieldA 0 (.tmp 31)), none, none⟩, ⟨some 33, (.load false 1 (.tmp 32)), none, (some (0, 1))⟩, ⟨some 34, (.fieldA 0 (.tmp 1)), none, none⟩, ⟨some 35, (.load false 1 (.tmp 34)), none, (some (0, 1))⟩, ⟨some 36, (.mv (.tmp 6)), none, none⟩, ⟨some 37, (.slc 2 (.tmp 35) (some (.tmp 36)) none none), none, none⟩, ⟨some 38, (.build [.nils, .nils] [(0, (1, (.tmp 37)))]), none, none⟩, ⟨none, (.store 2 (.tmp 2) (.tmp 27)), none, none⟩, ⟨some 3, (.mv (.tmp 33)), none, none⟩, ⟨none, (.store 2 (.tmp 4) (.tmp 38)), none, none⟩]) .ret)) .skip)) (.seq (.seq (.region [⟨some 39, (.fieldA 1 (.tmp 1)), none, none⟩, ⟨some 40, (.load false 1 (.tmp 39)), none, none⟩, ⟨some 41, (.len false (.tmp 40)), none, none⟩, ⟨some 42, (.bin .gtr (.tmp 41) (.con (.int .i64 2))), none, none⟩, ⟨some 43, (.mv (.tmp 42)), none, none⟩, ⟨some 44, (.mv (.tmp 5)), (some (43, true)), none⟩, ⟨some 45, (.fieldA 1 (.tmp 1)), (some (43, true)), none⟩, ⟨some 46, (.load false 1 (.tmp 45)), (some (43, true)), none⟩, ⟨some 47, (.len false (.tmp 46)), (some (43, true)), none⟩, ⟨some 48, (.bin .sub (.tmp 47) (.con (.int .i64 1))), (some (43, true)), none⟩, ⟨some 49, (.bin .eql (.tmp 44) (.tmp 48)), (some (43, true)), none⟩, ⟨some 50, (.pick (.tmp 43) (.tmp 49) (.con (.bool false))), none, none⟩]) (.cond (.tmp 50) (.seq (.region [⟨some 51, (.load true 2 (.tmp 1)), none, none⟩, ⟨some 52, (.mv (.tmp 5)), none, none⟩, ⟨some 53, (.bin .sub (.tmp 52) (.con (.int .i64 1))), none, none⟩, ⟨some 54, (.call (.con (.func 71 [] [])) [.tmp 51, (.con (.int .i64 0)), .tmp 53]), none, none⟩, ⟨some 7, (.mv (.tmp 54)), none, none⟩]) (.seq (.draw [⟨some 55, (.fieldA 0 (.tmp 1)), none, none⟩, ⟨some 56, (.load false 1 (.tmp 55)), none, none⟩, ⟨some 57, (.mv (.tmp 7)), none, none⟩, ⟨some 58, (.slc 2 (.tmp 56) none (some (.tmp 57)) none), none, none⟩, ⟨some 59, (.fieldA 1 (.tmp 1)), none, none⟩, ⟨some 60, (.load false 1 (.tmp 59)), none, none⟩, ⟨some 61, (.mv (.tmp 7)), none, none⟩, ⟨some 62, (.bin .add (.tmp 61) (.con (.int .i64 1))), none, none⟩, ⟨some 63, (.slc 1 (.tmp 60) none (some (.tmp 62)) none), none, none⟩, ⟨some 64, (.build [.nils, .nils] [(0, (1, (.tmp 58))), (1, (1, (.tmp 63)))]), none, none⟩, ⟨some 65, (.fieldA 0 (.tmp 1)), none, none⟩, ⟨some 66, (.load false 1 (.tmp 65)), none, (some (0, 1))⟩, ⟨some 67, (.mv (.tmp 7)), none, none⟩, ⟨some 68, (.idxASl 2 (.tmp 66) (.tmp 67)), none, none⟩, ⟨some 69, (.fieldA 0 (.tmp 68)), none, none⟩, ⟨some 70, (.load false 1 (.tmp 69)), none, (some (0, 1))⟩, ⟨some 71, (.fieldA 0 (.tmp 1)), none, none⟩, ⟨some 72, (.load false 1 (.tmp 71)), none, (some (0, 1))⟩, ⟨some 73, (.mv (.tmp 7)), none, none⟩, ⟨some 74, (.bin .add (.tmp 73) (.con (.int .i64 1))), none, none⟩, ⟨some 75, (.slc 2 (.tmp 72) (some (.tmp 74)) none none), none, none⟩, ⟨some 76, (.fieldA 1 (.tmp 1)), none, none⟩, ⟨some 77, (.load false 1 (.tmp 76)), none, (some (0, 1))⟩, ⟨some 78, (.mv (.tmp 7)), none, none⟩, ⟨some 79, (.bin .add (.tmp 78) (.con (.int .i64 1))), none, none⟩, ⟨some 80, (.slc 1 (.tmp 77) (some (.tmp 79)) none none), none, none⟩, ⟨some 81, (.build [.nils, .nils] [(0, (1, (.tmp 75))), (1, (1, (.tmp 80)))]), none, none⟩, ⟨none, (.store 2 (.tmp 2) (.tmp 64)), none, none⟩, ⟨some 3, (.mv (.tmp 70)), none, none⟩, ⟨none, (.store 2 (.tmp 4) (.tmp 81)), none, none⟩]) .ret)) .skip)) (.seq (.region [⟨some 82, (.load true 2 (.tmp 1)), none, none⟩, ⟨some 83, (.build [.nils, .nils] []), none, none⟩, ⟨none, (.store 2 (.tmp 2) (.tmp 82)), none, none⟩, ⟨some 3, (.mv (.con (.str []))), none, none⟩, ⟨none, (.store 2 (.tmp 4) (.tmp 83)), none, none⟩]) .ret))))), [(.cell 2 true 2), .tmp 3, (.cell 4 true 2)]⟩
theorem c38_is : cfn Try.prog 38 = some c38 := by kernel_rfl
def c39 : AFn := ⟨(.seq (.region [⟨some 3, (.box (.tmp 0)), none, none⟩, ⟨some 5, (.box (.tmp 2)), none, none⟩, ⟨some 6, (.new [.nils, .nils]), none, none⟩, ⟨some 7, (.mv (.con (.bool false))), none, none⟩]) (.seq (.region [⟨some 9, (.fieldA 0 (.tmp 3)), none, none⟩, ⟨some 10, (.load false 1 (.tmp 9)), none, none⟩, ⟨some 11, (.fieldA 0 (.tmp 5)), none, none⟩, ⟨some 12, (.load false 1 (.tmp 11)), none, none⟩, ⟨some 13, (.buildS 2 [.nils, .nils] [(0, (1, (.tmp 10))), (1, (1, (.tmp 12)))]), none, none⟩, ⟨some 14, (.call (.con (.func 72 [] [])) [.tmp 13]), none, none⟩, ⟨some 15, (.build [.nils, .nils] [(0, (1, (.tmp 14)))]), none, none⟩, ⟨some 8, (.new [.nils, .nils]), none, none⟩, ⟨none, (.store 2 (.tmp 8) (.tmp 15)), none, none⟩]) (.seq (.seq (.region [⟨some 16, (.load true 2 (.tmp 3)), none, none⟩, ⟨some 17, (.call (.con (.func 58 [] [])) [.tmp 16]), none, none⟩, ⟨some 18, (.un .not (.tmp 17)), none, none⟩]) (.cond (.tmp 18) (.draw [⟨some 19, (.fieldA 0 (.tmp 3)), none, none⟩, ⟨some 20, (.load false 1 (.tmp 19)), none, (some (0, 1))⟩, ⟨some 21, (.mv (.tmp 1)), none, none⟩, ⟨some 22, (.build [(.str []), (.str [])] [(0, (1, (.tmp 21)))]), none, none⟩, ⟨some 23, (.buildT 64 1 [(.str []), (.str [])] [(0, (2, (.tmp 22)))]), none, none⟩, ⟨some 24, (.fieldA 0 (.tmp 5)), none, none⟩, ⟨some 25, (.load false 1 (.tmp 24)), none, (some (0, 1))⟩, ⟨some 26, (.buildS 3 [.nils, .nils, .nils] [(0, (1, (.tmp 20))), (1, (1, (.tmp 23))), (2, (1, (.tmp 25)))]), none, none⟩, ⟨some 27, (.call (.con (.func 72 [] [])) [.tmp 26]), none, none⟩, ⟨some 28, (.fieldA 1 (.tmp 3)), none, none⟩, ⟨some 29, (.load false 1 (.tmp 28)), none, (some (0, 3))⟩, ⟨some 30, (.fieldA 1 (.tmp 5)), none, none⟩, ⟨some 31, (.load false 1 (.tmp 30)), none, (some (0, 3))⟩, ⟨some 32, (.buildS 2 [.nils, .nils] [(0, (1, (.tmp 29))), (1, (1, (.tmp 31)))]), none, none⟩, ⟨some 33, (.call (.con (.func 73 [] [])) [.tmp 32]), none, none⟩, ⟨some 34, (.build [.nils, .nils] [(0, (1, (.tmp 27))), (1, (1, (.tmp 33)))]), none, none⟩, ⟨none, (.store 2 (.tmp 8) (.tmp 34)), none, none⟩]) .skip)) (.seq (.seq (.draw [⟨some 35, (.load true 2 (.tmp 3)), none, none⟩, ⟨some 36, (.call (.con (.func 58 [] [])) [.tmp 35]), none, none⟩, ⟨some 37, (.load true 2 (.tmp 5)), none, (some (0, 1))⟩, ⟨some 38, (.call (.con (.func 58 [] [])) [.tmp 37]), none, none⟩, ⟨some 39, (.eq true .bool (.tmp 36) (.tmp 38)), none, none⟩, ⟨some 40, (.mv (.tmp 39)), none, none⟩, ⟨some 41, (.load true 2 (.tmp 8)), (some (40, false)), none⟩, ⟨some 42, (.call (.con (.func 29 [] [])) [.tmp 41]), (some (40, false)), none⟩, ⟨some 43, (.bin .neq (.tmp 42) (.con (.int .i64 0))), (some (40, false)), none⟩, ⟨some 44, (.pick (.tmp 40) (.con (.bool true)) (.tmp 43)), none, none⟩]) (.cond (.tmp 44) (.seq (.region [⟨some 45, (.build [.nils, .nils] []), none, none⟩, ⟨none, (.store 2 (.tmp 6) (.tmp 45)), none, none⟩, ⟨some 7, (.mv (.con (.bool false))), none, none⟩]) .ret) .skip)) (.seq (.region [⟨some 46, (.load true 2 (.tmp 8)), none, none⟩, ⟨none, (.store 2 (.tmp 6) (.tmp 46)), none, none⟩, ⟨some 7, (.mv (.con (.bool true))), none, none⟩]) .ret))))), [(.cell 6 true 2), .tmp 7]⟩
theorem c39_is : cfn Try.prog 39 = some c39 := by kernel_rfl
def c40 : AFn := ⟨(.seq (.region [⟨some 3, (.box (.tmp 0)), none, none⟩, ⟨some 5, (.box (.tmp 2)), none, none⟩, ⟨some 6, (.new [.nils, .nils]), none, none⟩, ⟨some 7, (.mv (.con (.bool false))), none, none⟩]) (.seq (.seq (.region [⟨some 9, (.fieldA 1 (.tmp 3)), none, none⟩, ⟨some 10, (.load false 1 (.tmp 9)), none, none⟩, ⟨some 11, (.len false (.tmp 10)), none, none⟩, ⟨some 12, (.bin .eql (.tmp 11) (.con (.int .i64 0))), none, none⟩, ⟨some 13, (.fieldA 1 (.tmp 5)), none, none⟩, ⟨some 14, (.load false 1 (.tmp 13)), none, none⟩, ⟨some 15, (.len false (.tmp 14)), none, none⟩, ⟨some 16, (.bin .eql (.tmp 15) (.con (.int .i64 0))), none, none⟩, ⟨some 17, (.eq true .bool (.tmp 12) (.tmp 16)), none, none⟩]) (.cond (.tmp 17) (.seq (.region [⟨some 18, (.build [.nils, .nils] []), none, none⟩, ⟨none, (.store 2 (.tmp 6) (.tmp 18)), none, none⟩, ⟨some 7, (.mv (.con (.bool false))), none, none⟩]) .ret) .skip)) (.seq (.region [⟨some 19, (.build [.nils, .nils] []), none, none⟩, ⟨some 8, (.new [.nils, .nils]), none, none⟩, ⟨none, (.store 2 (.tmp 8) (.tmp 19)), none, none⟩]) (.seq (.region [⟨some 20, (.fieldA 0 (.tmp 8)), none, none⟩, ⟨some 21, (.load false 1 (.tmp 20)), none, none⟩, ⟨some 22, (.fieldA 0 (.tmp 3)), none, none⟩, ⟨some 23, (.load false 1 (.tmp 22)), none, none⟩, ⟨some 24, (.append 2 32 (.tmp 21) (.tmp 23)), none, none⟩, ⟨some 25, (.fieldA 0 (.tmp 8)), none, none⟩, ⟨none, (.store 1 (.tmp 25) (.tmp 24)), none, none⟩]) (.seq (.seq (.region [⟨some 26, (.fieldA 1 (.tmp 3)), none, none⟩, ⟨some 27, (.load false 1 (.tmp 26)), none, none⟩, ⟨some 28, (.len false (.tmp 27)), none, none⟩, ⟨some 29, (.bin .gtr (.tmp 28) (.con (.int .i64 0))), none, none⟩]) (.cond (.tmp 29) (.region [⟨some 30, (.fieldA 0 (.tmp 8)), none, none⟩, ⟨some 31, (.load false 1 (.tmp 30)), none, none⟩, ⟨some 32, (.mv (.tmp 1)), none, none⟩, ⟨some 33, (.build [(.str []), (.str [])] [(0, (1, (.tmp 32)))]), none, none⟩, ⟨some 34, (.buildT 64 1 [(.str []), (.str [])] [(0, (2, (.tmp 33)))]), none, none⟩, ⟨some 35, (.append 2 32 (.tmp 31) (.tmp 34)), none, none⟩, ⟨some 36, (.fieldA 0 (.tmp 8)), none, none⟩, ⟨none, (.store 1 (.tmp 36) (.tmp 35)), none, none⟩]) .skip)) (.seq (.region [⟨some 37, (.fieldA 0 (.tmp 8)), none, none⟩, ⟨some 38, (.load false 1 (.tmp 37)), none, none⟩, ⟨some 39, (.fieldA 0 (.tmp 5)), none, none⟩, ⟨some 40, (.load false 1 (.tmp 39)), none, none⟩, ⟨some 41, (.append 2 32 (.tmp 38) (.tmp 40)), none, none⟩, ⟨some 42, (.fieldA 0 (.tmp 8)), none, none⟩, ⟨none, (.store 1 (.tmp 42) (.tmp 41)), none, none⟩]) (.seq (.region [⟨some 43, (.fieldA 1 (.tmp 8)), none, none⟩, ⟨some 44, (.load false 1 (.tmp 43)), none, none⟩, ⟨some 45, (.fieldA 1 (.tmp 3)), none, none⟩, ⟨some 46, (.load false 1 (.tmp 45)), none, none⟩, ⟨some 47, (.append 1 8 (.tmp 44) (.tmp 46)), none, none⟩, ⟨some 48, (.fieldA 1 (.tmp 8)), none, none⟩, ⟨none, (.store 1 (.tmp 48) (.tmp 47)), none, none⟩]) (.seq (.region [⟨some 49, (.fieldA 1 (.tmp 8)), none, none⟩, ⟨some 50, (.load false 1 (.tmp 49)), none, none⟩, ⟨some 51, (.fieldA 1 (.tmp 5)), none, none⟩, ⟨some 52, (.load false 1 (.tmp 51)), none, none⟩, ⟨some 53, (.append 1 8 (.tmp 50) (.tmp 52)), none, none⟩, ⟨some 54, (.fieldA 1 (.tmp 8)), none, none⟩, ⟨none, (.store 1 (.tmp 54) (.tmp 53)), none, none⟩]) (.seq (.seq (.region [⟨some 55, (.load true 2 (.tmp 8)), none, none⟩, ⟨some 56, (.call (.con (.func 33 [] [])) [.tmp 55]), none, none⟩, ⟨some 57, (.un .not (.tmp 56)), none, none⟩]) (.cond (.tmp 57) (.seq (.region [⟨some 58, (.build [.nils, .nils] []), none, none⟩, ⟨none, (.store 2 (.tmp 6) (.tmp 58)), none, none⟩, ⟨some 7, (.mv (.con (.bool false))), none, none⟩]) .ret) .skip)) (.seq (.region [⟨some 59, (.load true 2 (.tmp 8)), none, none⟩, ⟨none, (.store 2 (.tmp 6) (.tmp 59)), none, none⟩, ⟨some 7, (.mv (.con (.bool true))), none, none⟩]) .ret)))))))))), [(.cell 6 true 2), .tmp 7]⟩
theorem c40_is : cfn Try.prog 40 = some c40 := by kernel_rfl
def c41 : AFn := ⟨(.seq (.region [⟨some 2, (.box (.tmp 0)), none, none⟩, ⟨some 3, (.box (.tmp 1)), none, none⟩, ⟨some 4, (.new [.nils, .nils]), none, none⟩]) (.seq (.seq (.region [⟨some 8, (.load true 2 (.tmp 2)), none, none⟩, ⟨some 9, (.call (.con (.func 58 [] [])) [.tmp 8]), none, none⟩, ⟨some 10, (.un .not (.tmp 9)), none, none⟩]) (.cond (.tmp 10) (.seq (.region [⟨some 11, (.load true 2 (.tmp 2)), none, none⟩, ⟨none, (.store 2 (.tmp 4) (.tmp 11)), none, none⟩]) .ret) .skip)) (.seq (.region [⟨some 13, (.load true 2 (.tmp 2)), none, none⟩, ⟨some 14, (.fieldA 0 (.tmp 3)), none, none⟩, ⟨some 15, (.load false 1 (.tmp 14)), none, none⟩, ⟨some 16, (.call (.con (.func 35 [] [])) [.tmp 13, .tmp 15]), none, none⟩, ⟨some 12, (.mv (.tmp 16)), none, none⟩, ⟨some 17, (.extract (.tmp 12) 0), none, none⟩, ⟨some 18, (.extract (.tmp 12) 1), none, none⟩, ⟨some 5, (.mv (.tmp 17)), none, none⟩, ⟨some 6, (.mv (.tmp 18)), none, none⟩]) (.seq (.region [⟨some 19, (.fieldA 0 (.tmp 2)), none, none⟩, ⟨some 20, (.load false 1 (.tmp 19)), none, none⟩, ⟨some 21, (.len false (.tmp 20)), none, none⟩, ⟨some 22, (.fieldA 0 (.tmp 2)), none, none⟩, ⟨some 23, (.load false 1 (.tmp 22)), none, none⟩, ⟨some 24, (.len false (.tmp 23)), none, none⟩, ⟨some 25, (.bin .add (.tmp 24) (.con (.int .i64 1))), none, none⟩, ⟨some 26, (.mkS 2 32 [(.str []), (.str [])] (.tmp 21) (.tmp 25)), none, none⟩, ⟨some 7, (.mv (.tmp 26)), none, none⟩]) (.seq (.region [⟨some 27, (.mv (.tmp 7)), none, none⟩, ⟨some 28, (.fieldA 0 (.tmp 2)), none, none⟩, ⟨some 29, (.load false 1 (.tmp 28)), none, none⟩, ⟨some 30, (.copy 2 (.tmp 27) (.tmp 29)), none, none⟩]) (.seq (.seq (.region [⟨some 31, (.mv (.tmp 6)), none, none⟩]) (.cond (.tmp 31) (.seq (.region [⟨some 32, (.mv (.tmp 7)), none, none⟩, ⟨some 33, (.mv (.tmp 5)), none, none⟩, ⟨some 34, (.load true 2 (.tmp 3)), none, none⟩, ⟨some 35, (.idxASl 2 (.tmp 32) (.tmp 33)), none, none⟩, ⟨none, (.store 2 (.tmp 35) (.tmp 34)), none, none⟩]) (.seq (.region [⟨some 36, (.mv (.tmp 7)), none, none⟩, ⟨some 37, (.build [.nils, .nils] [(0, (1, (.tmp 36)))]), none, none⟩, ⟨none, (.store 2 (.tmp 4) (.tmp 37)), none, none⟩]) .ret)) .skip)) (.seq (.region [⟨some 38, (.mv (.tmp 7)), none, none⟩, ⟨some 39, (.mv (.tmp 5)), none, none⟩, ⟨some 40, (.load true 2 (.tmp 3)), none, none⟩, ⟨some 41, (.buildT 64 1 [(.str []), (.str [])] [(0, (2, (.tmp 40)))]), none, none⟩, ⟨some 42, (.call (.con (.func 74 [] [])) [.tmp 38, .tmp 39, .tmp 41]), none, none⟩, ⟨some 43, (.build [.nils, .nils] [(0, (1, (.tmp 42)))]), none, none⟩, ⟨none, (.store 2 (.tmp 4) (.tmp 43)), none, none⟩]) .ret))))))), [(.cell 4 true 2)]⟩
theorem c41_is : cfn Try.prog 41 = some c41 := by kernel_rfl
def c42 : AFn := ⟨(.seq (.region [⟨some 2, (.box (.tmp 0)), none, none⟩, ⟨some 3, (.box (.tmp 1)), none, none⟩, ⟨some 4, (.new [.nils, .nils]), none, none⟩]) (.seq (.seq (.region [⟨some 8, (.fieldA 1 (.tmp 2)), none, none⟩, ⟨some 9, (.load false 1 (.tmp 8)), none, none⟩, ⟨some 10, (.len false (.tmp 9)), none, none⟩, ⟨some 11, (.bin .gtr (.tmp 10) (.con (.int .i64 0))), none, none⟩]) (.cond (.tmp 11) (.seq (.region [⟨some 12, (.load true 2 (.tmp 2)), none, none⟩, ⟨none, (.store 2 (.tmp 4) (.tmp 12)), none, none⟩]) .ret) .skip)) (.seq (.region [⟨some 13, (.buildT 64 0 [] []), none, none⟩, ⟨some 5, (.mv (.tmp 13)), none, none⟩]) (.seq (.seq (.region [⟨some 6, (.mv (.con (.int .i64 0))), none, none⟩]) (.block 0 (.loop (.seq (.seq (.region [⟨some 14, (.mv (.tmp 6)), none, none⟩, ⟨some 15, (.fieldA 0 (.tmp 2)), none, none⟩, ⟨some 16, (.load false 1 (.tmp 15)), none, none⟩, ⟨some 17, (.len false (.tmp 16)), none, none⟩, ⟨some 18, (.bin .lss (.tmp 14) (.tmp 17)), none, none⟩]) (.cond (.tmp 18) .skip (.exit 0))) (.seq (.block 1 (.seq (.draw [⟨some 21, (.fieldA 0 (.tmp 2)), none, none⟩, ⟨some 22, (.load false 1 (.tmp 21)), none, none⟩, ⟨some 23, (.mv (.tmp 6)), none, none⟩, ⟨some 24, (.idxASl 2 (.tmp 22) (.tmp 23)), none, none⟩, ⟨some 25, (.fieldA 0 (.tmp 24)), none, none⟩, ⟨some 26, (.load false 1 (.tmp 25)), none, none⟩, ⟨some 27, (.fieldA 0 (.tmp 3)), none, none⟩, ⟨some 28, (.load false 1 (.tmp 27)), none, none⟩, ⟨some 29, (.bin .lss (.tmp 26) (.tmp 28)), none, none⟩]) (.cond (.tmp 29) (.region [⟨some 30, (.mv (.tmp 5)), none, none⟩, ⟨some 31, (.fieldA 0 (.tmp 2)), none, none⟩, ⟨some 32, (.load false 1 (.tmp 31)), none, none⟩, ⟨some 33, (.mv (.tmp 6)), none, none⟩, ⟨some 34, (.idxASl 2 (.tmp 32) (.tmp 33)), none, none⟩, ⟨some 35, (.load true 2 (.tmp 34)), none, none⟩, ⟨some 36, (.buildT 64 1 [(.str []), (.str [])] [(0, (2, (.tmp 35)))]), none, none⟩, ⟨some 37, (.append 2 32 (.tmp 30) (.tmp 36)), none, none⟩, ⟨some 5, (.mv (.tmp 37)), none, none⟩]) .skip))) (.region [⟨some 19, (.mv (.tmp 6)), none, none⟩, ⟨some 20, (.bin .add (.tmp 19) (.con (.int .i64 1))), none, none⟩, ⟨some 6, (.mv (.tmp 20)), none, none⟩])))))) (.seq (.region [⟨some 38, (.mv (.tmp 5)), none, none⟩, ⟨some 39, (.load true 2 (.tmp 3)), none, none⟩, ⟨some 40, (.buildT 64 1 [(.str []), (.str [])] [(0, (2, (.tmp 39)))]), none, none⟩, ⟨some 41, (.append 2 32 (.tmp 38) (.tmp 40)), none, none⟩, ⟨some 5, (.mv (.tmp 41)), none, none⟩]) (.seq (.seq (.region [⟨some 7, (.mv (.con (.int .i64 0))), none, none⟩]) (.block 2 (.loop (.seq (.seq (.region [⟨some 42, (.mv (.tmp 7)), none, none⟩, ⟨some 43, (.fieldA 0 (.tmp 2)), none, none⟩, ⟨some 44, (.load false 1 (.tmp 43)), none, none⟩, ⟨some 45, (.len false (.tmp 44)), none, none⟩, ⟨some 46, (.bin .lss (.tmp 42) (.tmp 45)), none, none⟩]) (.cond (.tmp 46) .skip (.exit 2))) (.seq (.block 3 (.seq (.draw [⟨some 49, (.fieldA 0 (.tmp 2)), none, none⟩, ⟨some 50, (.load false 1 (.tmp 49)), none, none⟩, ⟨some 51, (.mv (.tmp 7)), none, none⟩, ⟨some 52, (.idxASl 2 (.tmp 50) (.tmp 51)), none, none⟩, ⟨some 53, (.fieldA 0 (.tmp 52)), none, none⟩, ⟨some 54, (.load false 1 (.tmp 53)), none, none⟩, ⟨some 55, (.fieldA 0 (.tmp 3)), none, none⟩, ⟨some 56, (.load false 1 (.tmp 55)), none, none⟩, ⟨some 57, (.bin .gtr (.tmp 54) (.tmp 56)), none, none⟩]) (.cond (.tmp 57) (.region [⟨some 58, (.mv (.tmp 5)), none, none⟩, ⟨some 59, (.fieldA 0 (.tmp 2)), none, none⟩, ⟨some 60, (.load false 1 (.tmp 59)), none, none⟩, ⟨some 61, (.mv (.tmp 7)), none, none⟩, ⟨some 62, (.idxASl 2 (.tmp 60) (.tmp 61)), none, none⟩, ⟨some 63, (.load true 2 (.tmp 62)), none, none⟩, ⟨some 64, (.buildT 64 1 [(.str []), (.str [])] [(0, (2, (.tmp 63)))]), none, none⟩, ⟨some 65, (.append 2 32 (.tmp 58) (.tmp 64)), none, none⟩, ⟨some 5, (.mv (.tmp 65)), none, none⟩]) .skip))) (.region [⟨some 47, (.mv (.tmp 7)), none, none⟩, ⟨some 48, (.bin .add (.tmp 47) (.con (.int .i64 1))), none, none⟩, ⟨some 7, (.mv (.tmp 48)), none, none⟩])))))) (.seq (.region [⟨some 66, (.mv (.tmp 5)), none, none⟩, ⟨some 67, (.build [.nils, .nils] [(0, (1, (.tmp 66)))]), none, none⟩, ⟨none, (.store 2 (.tmp 4) (.tmp 67)), none, none⟩]) .ret))))))), [(.cell 4 true 2)]⟩
theorem c42_is : cfn Try.prog 42 = some c42 := by kernel_rfl
def c45 : AFn := ⟨(.seq (.region [⟨some 4, (.mv (.con (.str []))), none, none⟩]) (.seq (.seq (.region [⟨some 7, (.mv (.tmp 0)), none, none⟩, ⟨some 8, (.call (.con (.func 75 [] [])) [.tmp 7]), none, none⟩, ⟨some 9, (.un .not (.tmp 8)), none, none⟩]) (.cond (.tmp 9) (.seq (.region [⟨some 4, (.mv (.con (.str []))), none, none⟩]) .ret) .skip)) (.seq (.region [⟨some 5, (.new [(.int .u8 0), (.int .u8 0), (.int .u8 0), (.int .u8 0), (.int .u8 0), (.int .u8 0), (.int .u8 0), (.int .u8 0)]), none, none⟩]) (.seq (.seq (.region [⟨some 10, (.mv (.tmp 0)), none, none⟩, ⟨some 11, (.mv (.con (.int .i64 0))), none, none⟩]) (.block 0 (.loop (.seq (.region [⟨some 12, (.bin .lss (.tmp 11) (.tmp 10)), none, none⟩]) (.seq (.cond (.tmp 12) .skip (.exit 0)) (.seq (.block 1 (.seq (.region [⟨some 13, (.mv (.tmp 11)), none, none⟩, ⟨some 6, (.mv (.tmp 13)), none, none⟩]) (.region [⟨some 14, (.mv (.tmp 0)), none, none⟩, ⟨some 15, (.bin .sub (.tmp 14) (.con (.int .i64 1))), none, none⟩, ⟨some 16, (.mv (.tmp 6)), none, none⟩, ⟨some 17, (.bin .sub (.tmp 15) (.tmp 16)), none, none⟩, ⟨some 18, (.mv (.tmp 1)), none, none⟩, ⟨some 19, (.mv (.tmp 6)), none, none⟩, ⟨some 20, (.bin .mul (.con (.int .i64 8)) (.tmp 19)), none, none⟩, ⟨some 21, (.bin .shr (.tmp 18) (.tmp 20)), none, none⟩, ⟨some 22, (.toInt .u8 (.tmp 21)), none, none⟩, ⟨some 23, (.idxAArr 8 1 (.tmp 5) (.tmp 17)), none, none⟩, ⟨none, (.store 1 (.tmp 23) (.tmp 22)), none, none⟩]))) (.region [⟨some 24, (.bin .add (.tmp 11) (.con (.int .i64 1))), none, none⟩, ⟨some 11, (.mv (.tmp 24)), none, none⟩]))))))) (.seq (.region [⟨some 25, (.mv (.tmp 0)), none, none⟩, ⟨some 26, (.slcArr 8 1 (.tmp 5) none (some (.tmp 25)) none), none, none⟩, ⟨some 27, (.bToS (.tmp 26)), none, none⟩, ⟨some 4, (.mv (.tmp 27)), none, none⟩]) .ret))))), [.tmp 4]⟩
theorem c45_is : cfn Try.prog 45 = some c45 := by kernel_rfl
def c48 : AFn := ⟨(.seq (.region [⟨some 4, (.mv (.con (.str []))), none, none⟩]) (.seq (.seq (.region [⟨some 7, (.mv (.tmp 0)), none, none⟩, ⟨some 8, (.bin .lss (.tmp 7) (.con (.int .i64 1))), none, none⟩, ⟨some 9, (.mv (.tmp 8)), none, none⟩, ⟨some 10, (.mv (.tmp 0)), (some (9, false)), none⟩, ⟨some 11, (.bin .gtr (.tmp 10) (.con (.int .i64 8))), (some (9, false)), none⟩, ⟨some 12, (.pick (.tmp 9) (.con (.bool true)) (.tmp 11)), none, none⟩]) (.cond (.tmp 12) (.seq (.region [⟨some 4, (.mv (.con (.str []))), none, none⟩]) .ret) .skip)) (.seq (.region [⟨some 13, (.mv (.tmp 0)), none, none⟩, ⟨some 14, (.mkS 1 1 [(.int .u8 0)] (.tmp 13) (.tmp 13)), none, none⟩, ⟨some 5, (.mv (.tmp 14)), none, none⟩]) (.seq (.seq (.region [⟨some 15, (.mv (.tmp 0)), none, none⟩, ⟨some 16, (.bin .sub (.tmp 15) (.con (.int .i64 1))), none, none⟩, ⟨some 6, (.mv (.tmp 16)), none, none⟩]) (.block 0 (.loop (.seq (.seq (.region [⟨some 17, (.mv (.tmp 6)), none, none⟩, ⟨some 18, (.bin .geq (.tmp 17) (.con (.int .i64 0))), none, none⟩]) (.cond (.tmp 18) .skip (.exit 0))) (.seq (.block 1 (.seq (.region [⟨some 21, (.mv (.tmp 5)), none, none⟩, ⟨some 22, (.mv (.tmp 6)), none, none⟩, ⟨some 23, (.mv (.tmp 1)), none, none⟩, ⟨some 24, (.bin .rem (.tmp 23) (.con (.int .u64 256))), none, none⟩, ⟨some 25, (.toInt .u8 (.tmp 24)), none, none⟩, ⟨some 26, (.idxASl 1 (.tmp 21) (.tmp 22)), none, none⟩, ⟨none, (.store 1 (.tmp 26) (.tmp 25)), none, none⟩]) (.region [⟨some 27, (.mv (.tmp 1)), none, none⟩, ⟨some 28, (.bin .quo (.tmp 27) (.con (.int .u64 256))), none, none⟩, ⟨some 1, (.mv (.tmp 28)), none, none⟩]))) (.region [⟨some 19, (.mv (.tmp 6)), none, none⟩, ⟨some 20, (.bin .sub (.tmp 19) (.con (.int .i64 1))), none, none⟩, ⟨some 6, (.mv (.tmp 20)), none, none⟩])))))) (.seq (.region [⟨some 29, (.mv (.tmp 5)), none, none⟩, ⟨some 30, (.bToS (.tmp 29)), none, none⟩, ⟨some 4, (.mv (.tmp 30)), none, none⟩]) .ret))))), [.tmp 4]⟩
theorem c48_is : cfn Try.prog 48 = some c48 := by kernel_rfl
def c50 : AFn := ⟨(.seq (.region [⟨some 2, (.mv (.con .nilp)), none, none⟩]) (.seq (.region [⟨some 3, (.mv (.tmp 0)), none, none⟩, ⟨some 4, (.build [(.str []), (.int .i64 0)] [(0, (1, (.tmp 3)))]), none, none⟩, ⟨some 5, (.box (.tmp 4)), none, none⟩, ⟨some 2, (.mv (.tmp 5)), none, none⟩]) .ret)), [.tmp 2]⟩
theorem c50_is : cfn Try.prog 50 = some c50 := by kernel_rfl
def c51 : AFn := ⟨(.seq (.region [⟨some 4, (.mv (.con (.int .u64 0))), none, none⟩]) (.seq (.seq (.region [⟨some 8, (.mv (.tmp 1)), none, none⟩, ⟨some 9, (.call (.con (.func 75 [] [])) [.tmp 8]), none, none⟩, ⟨some 10, (.un .not (.tmp 9)), none, none⟩]) (.cond (.tmp 10) (.region [⟨some 1, (.mv (.con (.int .i64 (-1)))), none, none⟩]) .skip)) (.seq (.region [⟨some 5, (.mv (.con (.int .u64 0))), none, none⟩]) (.seq (.seq (.region [⟨some 11, (.mv (.tmp 0)), none, none⟩, ⟨some 12, (.mv (.tmp 1)), none, none⟩, ⟨some 13, (.call (.con (.func 52 [] [])) [.tmp 11, .tmp 12]), none, none⟩, ⟨some 14, (.sToB (.tmp 13)), none, none⟩, ⟨some 15, (.len false (.tmp 14)), none, none⟩, ⟨some 16, (.mv (.con (.int .i64 0))), none, none⟩]) (.block 0 (.loop (.seq (.region [⟨some 17, (.bin .lss (.tmp 16) (.tmp 15)), none, none⟩]) (.seq (.cond (.tmp 17) .skip (.exit 0)) (.seq (.block 1 (.seq (.region [⟨some 18, (.idxASl 1 (.tmp 14) (.tmp 16)), none, none⟩, ⟨some 19, (.load false 1 (.tmp 18)), none, none⟩, ⟨some 7, (.mv (.tmp 19)), none, none⟩]) (.region [⟨some 20, (.mv (.tmp 5)), none, none⟩, ⟨some 21, (.bin .shl (.tmp 20) (.con (.int .u64 8))), none, none⟩, ⟨some 22, (.mv (.tmp 7)), none, none⟩, ⟨some 23, (.toInt .u64 (.tmp 22)), none, none⟩, ⟨some 24, (.bin .or (.tmp 21) (.tmp 23)), none, none⟩, ⟨some 5, (.mv (.tmp 24)), none, none⟩]))) (.region [⟨some 25, (.bin .add (.tmp 16) (.con (.int .i64 1))), none, none⟩, ⟨some 16, (.mv (.tmp 25)), none, none⟩]))))))) (.seq (.region [⟨some 26, (.mv (.tmp 5)), none, none⟩, ⟨some 4, (.mv (.tmp 26)), none, none⟩]) .ret))))), [.tmp 4]⟩
theorem c51_is : cfn Try.prog 51 = some c51 := by kernel_rfl
def c52 : AFn := ⟨(.seq (.region [⟨some 4, (.mv (.con (.str []))), none, none⟩]) (.seq (.block 0 (.seq (.region [⟨some 7, (.mv (.tmp 0)), none, none⟩, ⟨some 8, (.eq false (.nil .p) (.tmp 7) (.con .nilp)), none, none⟩, ⟨some 9, (.mv (.tmp 8)), none, none⟩, ⟨some 10, (.mv (.tmp 0)), (some (9, false)), none⟩, ⟨some 11, (.nilck (.tmp 10)), (some (9, false)), none⟩, ⟨some 12, (.fieldA 1 (.tmp 11)), (some (9, false)), none⟩, ⟨some 13, (.load false 1 (.tmp 12)), (some (9, false)), none⟩, ⟨some 14, (.bin .neq (.tmp 13) (.con (.int .i64 0))), (some (9, false)), none⟩, ⟨some 15, (.pick (.tmp 9) (.con (.bool true)) (.tmp 14)), none, none⟩, ⟨some 6, (.mv (.tmp 15)), none, none⟩]) (.cond (.tmp 6) (.seq (.region [⟨some 4, (.mv (.con (.str []))), none, none⟩]) .ret) (.seq (.region [⟨some 17, (.mv (.tmp 1)), none, none⟩, ⟨some 18, (.bin .lss (.tmp 17) (.con (.int .i64 0))), none, none⟩, ⟨some 16, (.mv (.tmp 18)), none, none⟩]) (.cond (.tmp 16) (.seq (.region [⟨some 19, (.mv (.tmp 0)), none, none⟩, ⟨some 20, (.call (.con (.func 78 [] [])) [.tmp 19, (.con (.int .i64 18))]), none, none⟩, ⟨some 4, (.mv (.tmp 20)), none, none⟩]) .ret) (.seq (.region [⟨some 22, (.mv (.tmp 1)), none, none⟩, ⟨some 23, (.mv (.tmp 0)), none, none⟩, ⟨some 24, (.nilck (.tmp 23)), none, none⟩, ⟨some 25, (.fieldA 0 (.tmp 24)), none, none⟩, ⟨some 26, (.load false 1 (.tmp 25)), none, none⟩, ⟨some 27, (.len true (.tmp 26)), none, none⟩, ⟨some 28, (.bin .gtr (.tmp 22) (.tmp 27)), none, none⟩, ⟨some 21, (.mv (.tmp 28)), none, none⟩]) (.cond (.tmp 21) (.seq (.region [⟨some 29, (.mv (.tmp 0)), none, none⟩, ⟨some 30, (.call (.con (.func 78 [] [])) [.tmp 29, (.con (.int .i64 20))]), none, none⟩, ⟨some 4, (.mv (.tmp 30)), none, none⟩]) .ret) .skip))))))) (.seq (.region [⟨some 31, (.mv (.tmp 0)), none, none⟩, ⟨some 32, (.nilck (.tmp 31)), none, none⟩, ⟨some 33, (.fieldA 0 (.tmp 32)), none, none⟩, ⟨some 34, (.load false 1 (.tmp 33)), none, none⟩, ⟨some 35, (.mv (.tmp 1)), none, none⟩, ⟨some 36, (.slcStr (.tmp 34) none (some (.tmp 35))), none, none⟩, ⟨some 5, (.mv (.tmp 36)), none, none⟩]) (.seq (.region [⟨some 37, (.mv (.tmp 0)), none, none⟩, ⟨some 38, (.mv (.tmp 0)), none, none⟩, ⟨some 39, (.nilck (.tmp 38)), none, none⟩, ⟨some 40, (.fieldA 0 (.tmp 39)), none, none⟩, ⟨some 41, (.load false 1 (.tmp 40)), none, none⟩, ⟨some 42, (.mv (.tmp 1)), none, none⟩, ⟨some 43, (.slcStr (.tmp 41) (some (.tmp 42)) none), none, none⟩, ⟨some 44, (.nilck (.tmp 37)), none, none⟩, ⟨some 45, (.fieldA 0 (.tmp 44)), none, none⟩, ⟨none, (.store 1 (.tmp 45) (.tmp 43)), none, none⟩]) (.seq (.region [⟨some 46, (.mv (.tmp 5)), none, none⟩, ⟨some 4, (.mv (.tmp 46)), none, none⟩]) .ret))))), [.tmp 4]⟩
theorem c52_is : cfn Try.prog 52 = some c52 := by kernel_rfl
def c53 : AFn := ⟨(.seq (.region [⟨some 2, (.box (.tmp 0)), none, none⟩, ⟨some 4, (.new [(.str []), (.int .i64 0)]), none, none⟩, ⟨some 5, (.mv (.con (.int .u64 0))), none, none⟩]) (.seq (.seq (.region [⟨some 9, (.fieldA 1 (.tmp 2)), none, none⟩, ⟨some 10, (.load false 1 (.tmp 9)), none, none⟩, ⟨some 11, (.bin .eql (.tmp 10) (.con (.int .i64 0))), none, none⟩, ⟨some 12, (.mv (.tmp 11)), none, none⟩, ⟨some 13, (.mv (.tmp 1)), (some (12, true)), none⟩, ⟨some 14, (.bin .lss (.tmp 13) (.con (.int .i64 1))), (some (12, true)), none⟩, ⟨some 15, (.mv (.tmp 14)), (some (12, true)), none⟩, ⟨some 16, (.mv (.tmp 1)), (some (15, false)), none⟩, ⟨some 17, (.bin .gtr (.tmp 16) (.con (.int .i64 8))), (some (15, false)), none⟩, ⟨some 18, (.pick (.tmp 15) (.con (.bool true)) (.tmp 17)), (some (12, true)), none⟩, ⟨some 19, (.pick (.tmp 12) (.tmp 18) (.con (.bool false))), none, none⟩]) (.cond (.tmp 19) (.seq (.region [⟨some 20, (.call (.con (.func 79 [] [])) [(.con (.int .i64 18))]), none, none⟩, ⟨none, (.store 2 (.tmp 4) (.tmp 20)), none, none⟩, ⟨some 5, (.mv (.con (.int .u64 0))), none, none⟩]) .ret) .skip)) (.seq (.region [⟨some 22, (.load true 2 (.tmp 2)), none, none⟩, ⟨some 23, (.mv (.tmp 1)), none, none⟩, ⟨some 24, (.call (.con (.func 80 [] [])) [.tmp 22, .tmp 23]), none, none⟩, ⟨some 21, (.mv (.tmp 24)), none, none⟩, ⟨some 25, (.extract (.tmp 21) 0), none, none⟩, ⟨some 26, (.extract (.tmp 21) 1), none, none⟩, ⟨none, (.store 2 (.tmp 2) (.tmp 25)), none, none⟩, ⟨some 6, (.mv (.tmp 26)), none, none⟩]) (.seq (.region [⟨some 7, (.mv (.con (.int .u64 0))), none, none⟩]) (.seq (.seq (.region [⟨some 8, (.mv (.con (.int .i64 0))), none, none⟩]) (.block 0 (.loop (.seq (.seq (.region [⟨some 27, (.mv (.tmp 8)), none, none⟩, ⟨some 28, (.mv (.tmp 6)), none, none⟩, ⟨some 29, (.len true (.tmp 28)), none, none⟩, ⟨some 30, (.bin .lss (.tmp 27) (.tmp 29)), none, none⟩]) (.cond (.tmp 30) .skip (.exit 0))) (.seq (.block 1 (.region [⟨some 33, (.mv (.tmp 7)), none, none⟩, ⟨some 34, (.bin .mul (.con (.int .u64 256)) (.tmp 33)), none, none⟩, ⟨some 35, (.mv (.tmp 6)), none, none⟩, ⟨some 36, (.mv (.tmp 8)), none, none⟩, ⟨some 37, (.idxStr (.tmp 35) (.tmp 36)), none, none⟩, ⟨some 38, (.toInt .u64 (.tmp 37)), none, none⟩, ⟨some 39, (.bin .add (.tmp 34) (.tmp 38)), none, none⟩, ⟨some 7, (.mv (.tmp 39)), none, none⟩])) (.region [⟨some 31, (.mv (.tmp 8)), none, none⟩, ⟨some 32, (.bin .add (.tmp 31) (.con (.int .i64 1))), none, none⟩, ⟨some 8, (.mv (.tmp 32)), none, none⟩])))))) (.seq (.region [⟨some 40, (.load true 2 (.tmp 2)), none, none⟩, ⟨some 41, (.mv (.tmp 7)), none, none⟩, ⟨none, (.store 2 (.tmp 4) (.tmp 40)), none, none⟩, ⟨some 5, (.mv (.tmp 41)), none, none⟩]) .ret)))))), [(.cell 4 true 2), .tmp 5]⟩
theorem c53_is : cfn Try.prog 53 = some c53 := by kernel_rfl
def c55 : AFn := ⟨(.seq (.region [⟨some 2, (.mv (.con (.bool false))), none, none⟩]) (.seq (.region [⟨some 3, (.mv (.tmp 0)), none, none⟩, ⟨some 4, (.call (.con (.func 81 [] [])) [.tmp 3, (.con (.str [0]))]), none, none⟩, ⟨some 5, (.mv (.tmp 0)), none, none⟩, ⟨some 6, (.len true (.tmp 5)), none, none⟩, ⟨some 7, (.bin .eql (.tmp 4) (.tmp 6)), none, none⟩, ⟨some 2, (.mv (.tmp 7)), none, none⟩]) .ret)), [.tmp 2]⟩
theorem c55_is : cfn Try.prog 55 = some c55 := by kernel_rfl
def c56 : AFn := ⟨(.seq (.region [⟨some 2, (.mv (.con (.str []))), none, none⟩]) (.seq (.region [⟨some 3, (.mv (.tmp 0)), none, none⟩, ⟨some 4, (.call (.con (.func 82 [] [])) [(.con (.str [])), .tmp 3]), none, none⟩, ⟨some 2, (.mv (.tmp 4)), none, none⟩]) .ret)), [.tmp 2]⟩
theorem c56_is : cfn Try.prog 56 = some c56 := by kernel_rfl
def c57 : AFn := ⟨(.seq (.region [⟨some 4, (.mv (.con (.str []))), none, none⟩]) (.seq (.seq (.region [⟨some 5, (.mv (.tmp 1)), none, none⟩, ⟨some 6, (.bin .gtr (.tmp 5) (.con (.int .i64 65536))), none, none⟩, ⟨some 7, (.mv (.tmp 6)), none, none⟩, ⟨some 8, (.mv (.tmp 1)), (some (7, false)), none⟩, ⟨some 9, (.mv (.tmp 0)), (some (7, false)), none⟩, ⟨some 10, (.len true (.tmp 9)), (some (7, false)), none⟩, ⟨some 11, (.bin .leq (.tmp 8) (.tmp 10)), (some (7, false)), none⟩, ⟨some 12, (.pick (.tmp 7) (.con (.bool true)) (.tmp 11)), none, none⟩]) (.cond (.tmp 12) (.seq (.region [⟨some 13, (.mv (.tmp 0)), none, none⟩, ⟨some 4, (.mv (.tmp 13)), none, none⟩]) .ret) .skip)) (.seq (.region [⟨some 14, (.mv (.tmp 0)), none, none⟩, ⟨some 15, (.mv (.tmp 1)), none, none⟩, ⟨some 16, (.mv (.tmp 0)), none, none⟩, ⟨some 17, (.len true (.tmp 16)), none, none⟩, ⟨some 18, (.bin .sub (.tmp 15) (.tmp 17)), none, none⟩, ⟨some 19, (.call (.con (.func 83 [] [])) [(.con (.str [0])), .tmp 18]), none, none⟩, ⟨some 20, (.bin .add (.tmp 14) (.tmp 19)), none, none⟩, ⟨some 4, (.mv (.tmp 20)), none, none⟩]) .ret))), [.tmp 4]⟩
theorem c57_is : cfn Try.prog 57 = some c57 := by kernel_rfl
def c58 : AFn := ⟨(.seq (.region [⟨some 1, (.box (.tmp 0)), none, none⟩, ⟨some 2, (.mv (.con (.bool false))), none, none⟩]) (.seq (.region [⟨some 3, (.fieldA 1 (.tmp 1)), none, none⟩, ⟨some 4, (.load false 1 (.tmp 3)), none, none⟩, ⟨some 5, (.len false (.tmp 4)), none, none⟩, ⟨some 6, (.bin .eql (.tmp 5) (.con (.int .i64 0))), none, none⟩, ⟨some 2, (.mv (.tmp 6)), none, none⟩]) .ret)), [.tmp 2]⟩
theorem c58_is : cfn Try.prog 58 = some c58 := by kernel_rfl
def c59 : AFn := ⟨(.seq (.region [⟨some 2, (.mv (.con (.str []))), none, none⟩]) (.seq (.region [⟨some 3, (.mv (.tmp 0)), none, none⟩, ⟨some 4, (.len true (.tmp 3)), none, none⟩, ⟨some 5, (.toInt .u64 (.tmp 4)), none, none⟩, ⟨some 6, (.call (.con (.func 45 [] [])) [(.con (.int .i64 1)), .tmp 5]), none, none⟩, ⟨some 7, (.mv (.tmp 0)), none, none⟩, ⟨some 8, (.bin .add (.tmp 6) (.tmp 7)), none, none⟩, ⟨some 2, (.mv (.tmp 8)), none, none⟩]) .ret)), [.tmp 2]⟩
theorem c59_is : cfn Try.prog 59 = some c59 := by kernel_rfl
def c60 : AFn := ⟨(.seq (.region [⟨some 2, (.mv (.con (.str []))), none, none⟩]) (.seq (.region [⟨some 3, (.mv (.tmp 0)), none, none⟩, ⟨some 4, (.mv (.tmp 0)), none, none⟩, ⟨some 5, (.call (.con (.func 51 [] [])) [.tmp 4, (.con (.int .i64 1))]), none, none⟩, ⟨some 6, (.toInt .i64 (.tmp 5)), none, none⟩, ⟨some 7, (.call (.con (.func 52 [] [])) [.tmp 3, .tmp 6]), none, none⟩, ⟨some 2, (.mv (.tmp 7)), none, none⟩]) .ret)), [.tmp 2]⟩
theorem c60_is : cfn Try.prog 60 = some c60 := by kernel_rfl
def c61 : AFn := ⟨(.seq (.region [⟨some 1, (.box (.tmp 0)), none, none⟩, ⟨some 2, (.new [(.str []), (.int .i64 0)]), none, none⟩, ⟨some 3, (.mv (.con (.str []))), none, none⟩]) (.seq (.region [⟨some 6, (.load true 2 (.tmp 1)), none, none⟩, ⟨some 7, (.call (.con (.func 53 [] [])) [.tmp 6, (.con (.int .i64 1))]), none, none⟩, ⟨some 5, (.mv (.tmp 7)), none, none⟩, ⟨some 8, (.extract (.tmp 5) 0), none, none⟩, ⟨some 9, (.extract (.tmp 5) 1), none, none⟩, ⟨none, (.store 2 (.tmp 1) (.tmp 8)), none, none⟩, ⟨some 4, (.mv (.tmp 9)), none, none⟩]) (.seq (.region [⟨some 10, (.load true 2 (.tmp 1)), none, none⟩, ⟨some 11, (.mv (.tmp 4)), none, none⟩, ⟨some 12, (.toInt .i64 (.tmp 11)), none, none⟩, ⟨some 13, (.call (.con (.func 80 [] [])) [.tmp 10, .tmp 12]), none, none⟩, ⟨some 14, (.extract (.tmp 13) 0), none, none⟩, ⟨some 15, (.extract (.tmp 13) 1), none, none⟩, ⟨none, (.store 2 (.tmp 2) (.tmp 14)), none, none⟩, ⟨some 3, (.mv (.tmp 15)), none, none⟩]) .ret))), [(.cell 2 true 2), .tmp 3]⟩
theorem c61_is : cfn Try.prog 61 = some c61 := by kernel_rfl
def c62 : AFn := ⟨(.seq (.region [⟨some 2, (.box (.tmp 0)), none, none⟩, ⟨some 3, (.box (.tmp 1)), none, none⟩, ⟨some 4, (.mv (.con (.bool false))), none, none⟩]) (.seq (.seq (.region [⟨some 5, (.load true 2 (.tmp 2)), none, none⟩, ⟨some 6, (.call (.con (.func 58 [] [])) [.tmp 5]), none, none⟩]) (.cond (.tmp 6) (.seq (.region [⟨some 7, (.fieldA 0 (.tmp 3)), none, none⟩, ⟨some 8, (.load false 1 (.tmp 7)), none, none⟩, ⟨some 9, (.call (.con (.func 84 [] [])) [.tmp 8]), none, none⟩, ⟨some 10, (.mv (.tmp 9)), none, none⟩, ⟨some 11, (.fieldA 1 (.tmp 3)), (some (10, true)), none⟩, ⟨some 12, (.load false 1 (.tmp 11)), (some (10, true)), none⟩, ⟨some 13, (.len true (.tmp 12)), (some (10, true)), none⟩, ⟨some 14, (.bin .leq (.tmp 13) (.con (.int .i64 64))), (some (10, true)), none⟩, ⟨some 15, (.pick (.tmp 10) (.tmp 14) (.con (.bool false))), none, none⟩, ⟨some 4, (.mv (.tmp 15)), none, none⟩]) .ret) .skip)) (.seq (.region [⟨some 16, (.fieldA 0 (.tmp 3)), none, none⟩, ⟨some 17, (.load false 1 (.tmp 16)), none, none⟩, ⟨some 18, (.call (.con (.func 84 [] [])) [.tmp 17]), none, none⟩, ⟨some 19, (.mv (.tmp 18)), none, none⟩, ⟨some 20, (.fieldA 1 (.tmp 3)), (some (19, true)), none⟩, ⟨some 21, (.load false 1 (.tmp 20)), (some (19, true)), none⟩, ⟨some 22, (.bin .eql (.tmp 21) (.con (.str []))), (some (19, true)), none⟩, ⟨some 23, (.pick (.tmp 19) (.tmp 22) (.con (.bool false))), none, none⟩, ⟨some 4, (.mv (.tmp 23)), none, none⟩]) .ret))), [.tmp 4]⟩
theorem c62_is : cfn Try.prog 62 = some c62 := by kernel_rfl
def c63 : AFn := ⟨(.seq (.region [⟨some 2, (.box (.tmp 0)), none, none⟩, ⟨some 3, (.box (.tmp 1)), none, none⟩, ⟨some 4, (.mv (.con (.bool false))), none, none⟩]) (.seq (.seq (.region [⟨some 6, (.fieldA 1 (.tmp 2)), none, none⟩, ⟨some 7, (.load false 1 (.tmp 6)), none, none⟩, ⟨some 8, (.len false (.tmp 7)), none, none⟩, ⟨some 9, (.fieldA 1 (.tmp 3)), none, none⟩, ⟨some 10, (.load false 1 (.tmp 9)), none, none⟩, ⟨some 11, (.len false (.tmp 10)), none, none⟩, ⟨some 12, (.bin .neq (.tmp 8) (.tmp 11)), none, none⟩]) (.cond (.tmp 12) (.seq (.region [⟨some 4, (.mv (.con (.bool false))), none, none⟩]) .ret) .skip)) (.seq (.seq (.region [⟨some 5, (.mv (.con (.int .i64 0))), none, none⟩]) (.block 0 (.loop (.seq (.seq (.region [⟨some 13, (.mv (.tmp 5)), none, none⟩, ⟨some 14, (.fieldA 1 (.tmp 2)), none, none⟩, ⟨some 15, (.load false 1 (.tmp 14)), none, none⟩, ⟨some 16, (.len false (.tmp 15)), none, none⟩, ⟨some 17, (.bin .lss (.tmp 13) (.tmp 16)), none, none⟩]) (.cond (.tmp 17) .skip (.exit 0))) (.seq (.block 1 (.seq (.draw [⟨some 20, (.fieldA 1 (.tmp 2)), none, none⟩, ⟨some 21, (.load false 1 (.tmp 20)), none, none⟩, ⟨some 22, (.mv (.tmp 5)), none, none⟩, ⟨some 23, (.idxASl 1 (.tmp 21) (.tmp 22)), none, none⟩, ⟨some 24, (.load false 1 (.tmp 23)), none, none⟩, ⟨some 25, (.fieldA 1 (.tmp 3)), none, none⟩, ⟨some 26, (.load false 1 (.tmp 25)), none, none⟩, ⟨some 27, (.mv (.tmp 5)), none, none⟩, ⟨some 28, (.idxASl 1 (.tmp 26) (.tmp 27)), none, none⟩, ⟨some 29, (.load false 1 (.tmp 28)), none, none⟩, ⟨some 30, (.bin .neq (.tmp 24) (.tmp 29)), none, none⟩]) (.cond (.tmp 30) (.seq (.region [⟨some 4, (.mv (.con (.bool false))), none, none⟩]) .ret) .skip))) (.region [⟨some 18, (.mv (.tmp 5)), none, none⟩, ⟨some 19, (.bin .add (.tmp 18) (.con (.int .i64 1))), none, none⟩, ⟨some 5, (.mv (.tmp 19)), none, none⟩])))))) (.seq (.region [⟨some 31, (.fieldA 0 (.tmp 2)), none, none⟩, ⟨some 32, (.load false 1 (.tmp 31)), none, none⟩, ⟨some 33, (.fieldA 0 (.tmp 3)), none, none⟩, ⟨some 34, (.load false 1 (.tmp 33)), none, none⟩, ⟨some 35, (.call (.con (.func 85 [] [])) [.tmp 32, .tmp 34]), none, none⟩, ⟨some 4, (.mv (.tmp 35)), none, none⟩]) .ret)))), [.tmp 4]⟩
theorem c63_is : cfn Try.prog 63 = some c63 := by kernel_rfl
def c64 : AFn := ⟨(.seq (.region [⟨some 2, (.box (.tmp 0)), none, none⟩, ⟨some 4, (.mv (.con (.int .i64 0))), none, none⟩]) (.seq (.region [⟨some 5, (.mv (.con (.int .i64 0))), none, none⟩]) (.seq (.seq (.region [⟨some 8, (.mv (.tmp 1)), none, none⟩, ⟨some 9, (.len false (.tmp 8)), none, none⟩, ⟨some 10, (.mv (.con (.int .i64 0))), none, none⟩]) (.block 0 (.loop (.seq (.region [⟨some 11, (.bin .lss (.tmp 10) (.tmp 9)), none, none⟩]) (.seq (.cond (.tmp 11) .skip (.exit 0)) (.seq (.block 1 (.seq (.region [⟨some 12, (.idxASl 2 (.tmp 8) (.tmp 10)), none, none⟩, ⟨some 13, (.load true 2 (.tmp 12)), none, none⟩, ⟨some 7, (.new [(.str []), (.str [])]), none, none⟩, ⟨none, (.store 2 (.tmp 7) (.tmp 13)), none, none⟩]) (.region [⟨some 14, (.mv (.tmp 5)), none, none⟩, ⟨some 15, (.load true 2 (.tmp 2)), none, none⟩, ⟨some 16, (.load true 2 (.tmp 7)), none, none⟩, ⟨some 17, (.call (.con (.func 86 [] [])) [.tmp 15, .tmp 16]), none, none⟩, ⟨some 18, (.bin .add (.tmp 14) (.tmp 17)), none, none⟩, ⟨some 5, (.mv (.tmp 18)), none, none⟩]))) (.region [⟨some 19, (.bin .add (.tmp 10) (.con (.int .i64 1))), none, none⟩, ⟨some 10, (.mv (.tmp 19)), none, none⟩]))))))) (.seq (.region [⟨some 20, (.mv (.tmp 5)), none, none⟩, ⟨some 4, (.mv (.tmp 20)), none, none⟩]) .ret)))), [.tmp 4]⟩
theorem c64_is : cfn Try.prog 64 = some c64 := by kernel_rfl
def c65 : AFn := ⟨(.seq (.region [⟨some 2, (.box (.tmp 0)), none, none⟩, ⟨some 4, (.mv (.con (.int .i64 0))), none, none⟩]) (.seq (.region [⟨some 5, (.mv (.con (.int .i64 0))), none, none⟩]) (.seq (.seq (.region [⟨some 6, (.mv (.con (.int .i64 0))), none, none⟩]) (.block 0 (.loop (.seq (.seq (.region [⟨some 7, (.mv (.tmp 6)), none, none⟩, ⟨some 8, (.mv (.tmp 1)), none, none⟩, ⟨some 9, (.bin .lss (.tmp 7) (.tmp 8)), none, none⟩]) (.cond (.tmp 9) .skip (.exit 0))) (.seq (.block 1 (.draw [⟨some 12, (.mv (.tmp 5)), none, none⟩, ⟨some 13, (.load true 2 (.tmp 2)), none, none⟩, ⟨some 14, (.fieldA 0 (.tmp 2)), none, none⟩, ⟨some 15, (.load false 1 (.tmp 14)), none, none⟩, ⟨some 16, (.mv (.tmp 6)), none, none⟩, ⟨some 17, (.idxASl 2 (.tmp 15) (.tmp 16)), none, none⟩, ⟨some 18, (.load true 2 (.tmp 17)), none, none⟩, ⟨some 19, (.call (.con (.func 87 [] [])) [.tmp 13, .tmp 18]), none, none⟩, ⟨some 20, (.bin .add (.tmp 12) (.tmp 19)), none, none⟩, ⟨some 5, (.mv (.tmp 20)), none, none⟩])) (.region [⟨some 10, (.mv (.tmp 6)), none, none⟩, ⟨some 11, (.bin .add (.tmp 10) (.con (.int .i64 1))), none, none⟩, ⟨some 6, (.mv (.tmp 11)), none, none⟩])))))) (.seq (.region [⟨some 21, (.mv (.tmp 5)), none, none⟩, ⟨some 4, (.mv (.tmp 21)), none, none⟩]) .ret)))), [.tmp 4]⟩
theorem c65_is : cfn Try.prog 65 = some c65 := by kernel_rfl
def c66 : AFn := ⟨(.seq (.region [⟨some 4, (.mv (.con (.int .i64 0))), none, none⟩]) (.seq (.region [⟨some 8, (.mv (.tmp 0)), none, none⟩, ⟨some 5, (.mv (.con (.int .i64 0))), none, none⟩, ⟨some 6, (.mv (.tmp 8)), none, none⟩]) (.seq (.block 0 (.loop (.seq (.seq (.region [⟨some 9, (.mv (.tmp 5)), none, none⟩, ⟨some 10, (.mv (.tmp 6)), none, none⟩, ⟨some 11, (.bin .lss (.tmp 9) (.tmp 10)), none, none⟩]) (.cond (.tmp 11) .skip (.exit 0))) (.block 1 (.seq (.region [⟨some 12, (.mv (.tmp 5)), none, none⟩, ⟨some 13, (.mv (.tmp 6)), none, none⟩, ⟨some 14, (.bin .add (.tmp 12) (.tmp 13)), none, none⟩, ⟨some 15, (.toInt .u64 (.tmp 14)), none, none⟩, ⟨some 16, (.bin .shr (.tmp 15) (.con (.int .u64 1))), none, none⟩, ⟨some 17, (.toInt .i64 (.tmp 16)), none, none⟩, ⟨some 7, (.mv (.tmp 17)), none, none⟩]) (.seq (.region [⟨some 18, (.mv (.tmp 1)), none, none⟩, ⟨some 19, (.mv (.tmp 7)), none, none⟩, ⟨some 20, (.call (.tmp 18) [.tmp 19]), none, none⟩, ⟨some 21, (.un .not (.tmp 20)), none, none⟩]) (.cond (.tmp 21) (.region [⟨some 22, (.mv (.tmp 7)), none, none⟩, ⟨some 23, (.bin .add (.tmp 22) (.con (.int .i64 1))), none, none⟩, ⟨some 5, (.mv (.tmp 23)), none, none⟩]) (.region [⟨some 24, (.mv (.tmp 7)), none, none⟩, ⟨some 6, (.mv (.tmp 24)), none, none⟩])))))))) (.seq (.region [⟨some 25, (.mv (.tmp 5)), none, none⟩, ⟨some 4, (.mv (.tmp 25)), none, none⟩]) .ret)))), [.tmp 4]⟩
theorem c66_is : cfn Try.prog 66 = some c66 := by kernel_rfl
def c67 : AFn := ⟨(.seq (.region [⟨some 4, (.mv (.con (.bool false))), none, none⟩]) (.seq (.draw [⟨some 5, (.fieldA 0 (.tmp 1)), none, none⟩, ⟨some 6, (.load false 1 (.tmp 5)), none, none⟩, ⟨some 7, (.mv (.tmp 0)), none, none⟩, ⟨some 8, (.idxASl 2 (.tmp 6) (.tmp 7)), none, none⟩, ⟨some 9, (.fieldA 0 (.tmp 8)), none, none⟩, ⟨some 10, (.load false 1 (.tmp 9)), none, none⟩, ⟨some 11, (.load false 1 (.tmp 2)), none, none⟩, ⟨some 12, (.bin .geq (.tmp 10) (.tmp 11)), none, none⟩, ⟨some 4, (.mv (.tmp 12)), none, none⟩]) .ret)), [.tmp 4]⟩
theorem c67_is : cfn Try.prog 67 = some c67 := by kernel_rfl
def c68 : AFn := ⟨(.seq (.region [⟨some 3, (.box (.tmp 0)), none, none⟩, ⟨some 6, (.mv (.con (.int .i64 0))), none, none⟩]) (.seq (.region [⟨some 9, (.load true 2 (.tmp 3)), none, none⟩, ⟨some 10, (.fieldA 0 (.tmp 3)), none, none⟩, ⟨some 11, (.load false 1 (.tmp 10)), none, none⟩, ⟨some 12, (.call (.con (.func 64 [] [])) [.tmp 9, .tmp 11]), none, none⟩, ⟨some 7, (.mv (.tmp 12)), none, none⟩]) (.seq (.seq (.region [⟨some 13, (.mv (.tmp 1)), none, none⟩, ⟨some 8, (.mv (.tmp 13)), none, none⟩]) (.block 0 (.loop (.seq (.seq (.region [⟨some 14, (.mv (.tmp 8)), none, none⟩, ⟨some 15, (.mv (.tmp 2)), none, none⟩, ⟨some 16, (.bin .lss (.tmp 14) (.tmp 15)), none, none⟩]) (.cond (.tmp 16) .skip (.exit 0))) (.seq (.block 1 (.seq (.draw [⟨some 19, (.load true 2 (.tmp 3)), none, none⟩, ⟨some 20, (.fieldA 0 (.tmp 3)), none, none⟩, ⟨some 21, (.load false 1 (.tmp 20)), none, none⟩, ⟨some 22, (.mv (.tmp 8)), none, none⟩, ⟨some 23, (.slc 2 (.tmp 21) none (some (.tmp 22)) none), none, none⟩, ⟨some 24, (.call (.con (.func 64 [] [])) [.tmp 19, .tmp 23]), none, none⟩, ⟨some 25, (.bin .mul (.con (.int .i64 2)) (.tmp 24)), none, none⟩, ⟨some 26, (.mv (.tmp 7)), none, none⟩, ⟨some 27, (.bin .geq (.tmp 25) (.tmp 26)), none, none⟩]) (.cond (.tmp 27) (.seq (.region [⟨some 28, (.mv (.tmp 8)), none, none⟩, ⟨some 6, (.mv (.tmp 28)), none, none⟩]) .ret) .skip))) (.region [⟨some 17, (.mv (.tmp 8)), none, none⟩, ⟨some 18, (.bin .add (.tmp 17) (.con (.int .i64 1))), none, none⟩, ⟨some 8, (.mv (.tmp 18)), none, none⟩])))))) (.seq (.region [⟨some 29, (.mv (.tmp 2)), none, none⟩, ⟨some 6, (.mv (.tmp 29)), none, none⟩]) .ret)))), [.tmp 6]⟩
theorem c68_is : cfn Try.prog 68 = some c68 := by kernel_rfl
def c69 : AFn := ⟨(.seq (.region [⟨some 2, (.mv (.con .nils)), none, none⟩]) (.seq (.seq (.region [⟨some 3, (.mv (.tmp 0)), none, none⟩, ⟨some 4, (.eq false (.nil .s) (.tmp 3) (.con .nils)), none, none⟩]) (.cond (.tmp 4) (.seq (.region [⟨some 2, (.mv (.con .nils)), none, none⟩]) .ret) .skip)) (.seq (.region [⟨some 5, (.buildT 64 0 [] []), none, none⟩, ⟨some 6, (.mv (.tmp 0)), none, none⟩, ⟨some 7, (.append 2 32 (.tmp 5) (.tmp 6)), none, none⟩, ⟨some 2, (.mv (.tmp 7)), none, none⟩]) .ret))), [.tmp 2]⟩
theorem c69_is : cfn Try.prog 69 = some c69 := by kernel_rfl
def c70 : AFn := ⟨(.seq (.region [⟨some 2, (.mv (.con .nils)), none, none⟩]) (.seq (.seq (.region [⟨some 3, (.mv (.tmp 0)), none, none⟩, ⟨some 4, (.eq false (.nil .s) (.tmp 3) (.con .nils)), none, none⟩]) (.cond (.tmp 4) (.seq (.region [⟨some 2, (.mv (.con .nils)), none, none⟩]) .ret) .skip)) (.seq (.region [⟨some 5, (.buildS 0 [] []), none, none⟩, ⟨some 6, (.mv (.tmp 0)), none, none⟩, ⟨some 7, (.append 1 8 (.tmp 5) (.tmp 6)), none, none⟩, ⟨some 2, (.mv (.tmp 7)), none, none⟩]) .ret))), [.tmp 2]⟩
theorem c70_is : cfn Try.prog 70 = some c70 := by kernel_rfl
def c71 : AFn := ⟨(.seq (.region [⟨some 3, (.box (.tmp 0)), none, none⟩, ⟨some 6, (.mv (.con (.int .i64 0))), none, none⟩]) (.seq (.seq (.region [⟨some 8, (.mv (.tmp 1)), none, none⟩, ⟨some 7, (.mv (.tmp 8)), none, none⟩]) (.block 0 (.loop (.seq (.seq (.region [⟨some 9, (.mv (.tmp 7)), none, none⟩, ⟨some 10, (.mv (.tmp 2)), none, none⟩, ⟨some 11, (.bin .lss (.tmp 9) (.tmp 10)), none, none⟩]) (.cond (.tmp 11) .skip (.exit 0))) (.seq (.block 1 (.seq (.draw [⟨some 14, (.load true 2 (.tmp 3)), none, none⟩, ⟨some 15, (.mv (.tmp 7)), none, none⟩, ⟨some 16, (.call (.con (.func 65 [] [])) [.tmp 14, .tmp 15]), none, none⟩, ⟨some 17, (.load true 2 (.tmp 3)), none, (some (0, 1))⟩, ⟨some 18, (.mv (.tmp 7)), none, none⟩, ⟨some 19, (.call (.con (.func 65 [] [])) [.tmp 17, .tmp 18]), none, none⟩, ⟨some 20, (.bin .add (.tmp 16) (.tmp 19)), none, none⟩, ⟨some 21, (.load true 2 (.tmp 3)), none, (some (0, 2))⟩, ⟨some 22, (.fieldA 0 (.tmp 3)), none, none⟩, ⟨some 23, (.load false 1 (.tmp 22)), none, (some (0, 2))⟩, ⟨some 24, (.len false (.tmp 23)), none, none⟩, ⟨some 25, (.call (.con (.func 65 [] [])) [.tmp 21, .tmp 24]), none, none⟩, ⟨some 26, (.bin .geq (.tmp 20) (.tmp 25)), none, none⟩]) (.cond (.tmp 26) (.seq (.region [⟨some 27, (.mv (.tmp 7)), none, none⟩, ⟨some 6, (.mv (.tmp 27)), none, none⟩]) .ret) .skip))) (.region [⟨some 12, (.mv (.tmp 7)), none, none⟩, ⟨some 13, (.bin .add (.tmp 12) (.con (.int .i64 1))), none, none⟩, ⟨some 7, (.mv (.tmp 13)), none, none⟩])))))) (.seq (.region [⟨some 28, (.mv (.tmp 2)), none, none⟩, ⟨some 6, (.mv (.tmp 28)), none, none⟩]) .ret))), [.tmp 6]⟩
theorem c71_is : cfn Try.prog 71 = some c71 := by kernel_rfl
def c72 : AFn := ⟨(.seq (.region [⟨some 2, (.mv (.con .nils)), none, none⟩]) (.seq (.region [⟨some 3, (.mv (.con (.int .i64 0))), none, none⟩]) (.seq (.seq (.region [⟨some 9, (.mv (.tmp 0)), none, none⟩, ⟨some 10, (.len false (.tmp 9)), none, none⟩, ⟨some 11, (.mv (.con (.int .i64 0))), none, none⟩]) (.block 0 (.loop (.seq (.region [⟨some 12, (.bin .lss (.tmp 11) (.tmp 10)), none, none⟩]) (.seq (.cond (.tmp 12) .skip (.exit 0)) (.seq (.block 1 (.seq (.region [⟨some 13, (.idxASl 1 (.tmp 9) (.tmp 11)), none, none⟩, ⟨some 14, (.load false 1 (.tmp 13)), none, none⟩, ⟨some 5, (.mv (.tmp 14)), none, none⟩]) (.seq (.region [⟨some 15, (.mv (.tmp 3)), none, none⟩, ⟨some 16, (.mv (.tmp 5)), none, none⟩, ⟨some 17, (.len false (.tmp 16)), none, none⟩, ⟨some 18, (.bin .add (.tmp 15) (.tmp 17)), none, none⟩, ⟨some 3, (.mv (.tmp 18)), none, none⟩]) (.seq (.region [⟨some 19, (.mv (.tmp 3)), none, none⟩, ⟨some 20, (.bin .lss (.tmp 19) (.con (.int .i64 0))), none, none⟩]) (.cond (.tmp 20) (.region [⟨some 21, (.mkIface 9 (.con (.str [108, 101, 110, 32, 111, 117, 116, 32, 111, 102, 32, 114, 97, 110, 103, 101]))), none, none⟩, ⟨none, .die, none, none⟩]) .skip))))) (.region [⟨some 22, (.bin .add (.tmp 11) (.con (.int .i64 1))), none, none⟩, ⟨some 11, (.mv (.tmp 22)), none, none⟩]))))))) (.seq (.region [⟨some 23, (.mv (.tmp 3)), none, none⟩, ⟨some 24, (.call (.con (.func 88 [] [])) [(.con .nils), .tmp 23]), none, none⟩, ⟨some 6, (.mv (.tmp 24)), none, none⟩]) (.seq (.seq (.region [⟨some 25, (.mv (.tmp 0)), none, none⟩, ⟨some 26, (.len false (.tmp 25)), none, none⟩, ⟨some 27, (.mv (.con (.int .i64 0))), none, none⟩]) (.block 2 (.loop (.seq (.region [⟨some 28, (.bin .lss (.tmp 27) (.tmp 26)), none, none⟩]) (.seq (.cond (.tmp 28) .skip (.exit 2)) (.seq (.block 3 (.seq (.region [⟨some 29, (.idxASl 1 (.tmp 25) (.tmp 27)), none, none⟩, ⟨some 30, (.load false 1 (.tmp 29)), none, none⟩, ⟨some 8, (.mv (.tmp 30)), none, none⟩]) (.region [⟨some 31, (.mv (.tmp 6)), none, none⟩, ⟨some 32, (.mv (.tmp 8)), none, none⟩, ⟨some 33, (.append 2 32 (.tmp 31) (.tmp 32)), none, none⟩, ⟨some 6, (.mv (.tmp 33)), none, none⟩]))) (.region [⟨some 34, (.bin .add (.tmp 27) (.con (.int .i64 1))), none, none⟩, ⟨some 27, (.mv (.tmp 34)), none, none⟩]))))))) (.seq (.region [⟨some 35, (.mv (.tmp 6)), none, none⟩, ⟨some 2, (.mv (.tmp 35)), none, none⟩]) .ret)))))), [.tmp 2]⟩
theorem c72_is : cfn Try.prog 72 = some c72 := by kernel_rfl
def c73 : AFn := ⟨(.seq (.region [⟨some 2, (.mv (.con .nils)), none, none⟩]) (.seq (.region [⟨some 3, (.mv (.con (.int .i64 0))), none, none⟩]) (.seq (.seq (.region [⟨some 9, (.mv (.tmp 0)), none, none⟩, ⟨some 10, (.len false (.tmp 9)), none, none⟩, ⟨some 11, (.mv (.con (.int .i64 0))), none, none⟩]) (.block 0 (.loop (.seq (.region [⟨some 12, (.bin .lss (.tmp 11) (.tmp 10)), none, none⟩]) (.seq (.cond (.tmp 12) .skip (.exit 0)) (.seq (.block 1 (.seq (.region [⟨some 13, (.idxASl 1 (.tmp 9) (.tmp 11)), none, none⟩, ⟨some 14, (.load false 1 (.tmp 13)), none, none⟩, ⟨some 5, (.mv (.tmp 14)), none, none⟩]) (.seq (.region [⟨some 15, (.mv (.tmp 3)), none, none⟩, ⟨some 16, (.mv (.tmp 5)), none, none⟩, ⟨some 17, (.len false (.tmp 16)), none, none⟩, ⟨some 18, (.bin .add (.tmp 15) (.tmp 17)), none, none⟩, ⟨some 3, (.mv (.tmp 18)), none, none⟩]) (.seq (.region [⟨some 19, (.mv (.tmp 3)), none, none⟩, ⟨some 20, (.bin .lss (.tmp 19) (.con (.int .i64 0))), none, none⟩]) (.cond (.tmp 20) (.region [⟨some 21, (.mkIface 9 (.con (.str [108, 101, 110, 32, 111, 117, 116, 32, 111, 102, 32, 114, 97, 110, 103, 101]))), none, none⟩, ⟨none, .die, none, none⟩]) .skip))))) (.region [⟨some 22, (.bin .add (.tmp 11) (.con (.int .i64 1))), none, none⟩, ⟨some 11, (.mv (.tmp 22)), none, none⟩]))))))) (.seq (.region [⟨some 23, (.mv (.tmp 3)), none, none⟩, ⟨some 24, (.call (.con (.func 89 [] [])) [(.con .nils), .tmp 23]), none, none⟩, ⟨some 6, (.mv (.tmp 24)), none, none⟩]) (.seq (.seq (.region [⟨some 25, (.mv (.tmp 0)), none, none⟩, ⟨some 26, (.len false (.tmp 25)), none, none⟩, ⟨some 27, (.mv (.con (.int .i64 0))), none, none⟩]) (.block 2 (.loop (.seq (.region [⟨some 28, (.bin .lss (.tmp 27) (.tmp 26)), none, none⟩]) (.seq (.cond (.tmp 28) .skip (.exit 2)) (.seq (.block 3 (.seq (.region [⟨some 29, (.idxASl 1 (.tmp 25) (.tmp 27)), none, none⟩, ⟨some 30, (.load false 1 (.tmp 29)), none, none⟩, ⟨some 8, (.mv (.tmp 30)), none, none⟩]) (.region [⟨some 31, (.mv (.tmp 6)), none, none⟩, ⟨some 32, (.mv (.tmp 8)), none, none⟩, ⟨some 33, (.append 1 8 (.tmp 31) (.tmp 32)), none, none⟩, ⟨some 6, (.mv (.tmp 33)), none, none⟩]))) (.region [⟨some 34, (.bin .add (.tmp 27) (.con (.int .i64 1))), none, none⟩, ⟨some 27, (.mv (.tmp 34)), none, none⟩]))))))) (.seq (.region [⟨some 35, (.mv (.tmp 6)), none, none⟩, ⟨some 2, (.mv (.tmp 35)), none, none⟩]) .ret)))))), [.tmp 2]⟩
theorem c73_is : cfn Try.prog 73 = some c73 := by kernel_rfl
def c74 : AFn := ⟨(.seq (.region [⟨some 6, (.mv (.con .nils)), none, none⟩]) (.seq (.region [⟨some 10, (.mv (.tmp 0)), none, none⟩, ⟨some 11, (.mv (.tmp 1)), none, none⟩, ⟨some 12, (.slc 2 (.tmp 10) (some (.tmp 11)) none none), none, none⟩]) (.seq (.region [⟨some 13, (.mv (.tmp 2)), none, none⟩, ⟨some 14, (.len false (.tmp 13)), none, none⟩, ⟨some 7, (.mv (.tmp 14)), none, none⟩]) (.seq (.seq (.region [⟨some 15, (.mv (.tmp 7)), none, none⟩, ⟨some 16, (.bin .eql (.tmp 15) (.con (.int .i64 0))), none, none⟩]) (.cond (.tmp 16) (.seq (.region [⟨some 17, (.mv (.tmp 0)), none, none⟩, ⟨some 6, (.mv (.tmp 17)), none, none⟩]) .ret) .skip)) (.seq (.region [⟨some 18, (.mv (.tmp 0)), none, none⟩, ⟨some 19, (.len false (.tmp 18)), none, none⟩, ⟨some 8, (.mv (.tmp 19)), none, none⟩]) (.seq (.seq (.region [⟨some 20, (.mv (.tmp 1)), none, none⟩, ⟨some 21, (.mv (.tmp 8)), none, none⟩, ⟨some 22, (.bin .eql (.tmp 20) (.tmp 21)), none, none⟩]) (.cond (.tmp 22) (.seq (.region [⟨some 23, (.mv (.tmp 0)), none, none⟩, ⟨some 24, (.mv (.tmp 2)), none, none⟩, ⟨some 25, (.append 2 32 (.tmp 23) (.tmp 24)), none, none⟩, ⟨some 6, (.mv (.tmp 25)), none, none⟩]) .ret) .skip)) (.seq (.seq (.region [⟨some 26, (.mv (.tmp 8)), none, none⟩, ⟨some 27, (.mv (.tmp 7)), none, none⟩, ⟨some 28, (.bin .add (.tmp 26) (.tmp 27)), none, none⟩, ⟨some 29, (.mv (.tmp 0)), none, none⟩, ⟨some 30, (.cap (.tmp 29)), none, none⟩, ⟨some 31, (.bin .gtr (.tmp 28) (.tmp 30)), none, none⟩]) (.cond (.tmp 31) (.seq (.region [⟨some 32, (.mv (.tmp 0)), none, none⟩, ⟨some 33, (.mv (.tmp 1)), none, none⟩, ⟨some 34, (.slc 2 (.tmp 32) none (some (.tmp 33)) none), none, none⟩, ⟨some 35, (.mv (.tmp 8)), none, none⟩, ⟨some 36, (.mv (.tmp 7)), none, none⟩, ⟨some 37, (.bin .add (.tmp 35) (.tmp 36)), none, none⟩, ⟨some 38, (.mv (.tmp 1)), none, none⟩, ⟨some 39, (.bin .sub (.tmp 37) (.tmp 38)), none, none⟩, ⟨some 40, (.appendZ 2 32 [(.str []), (.str [])] (.tmp 34) (.tmp 39)), none, none⟩, ⟨some 9, (.mv (.tmp 40)), none, none⟩]) (.seq (.region [⟨some 41, (.mv (.tmp 9)), none, none⟩, ⟨some 42, (.mv (.tmp 1)), none, none⟩, ⟨some 43, (.slc 2 (.tmp 41) (some (.tmp 42)) none none), none, none⟩, ⟨some 44, (.mv (.tmp 2)), none, none⟩, ⟨some 45, (.copy 2 (.tmp 43) (.tmp 44)), none, none⟩]) (.seq (.draw [⟨some 46, (.mv (.tmp 9)), none, none⟩, ⟨some 47, (.mv (.tmp 1)), none, none⟩, ⟨some 48, (.mv (.tmp 7)), none, none⟩, ⟨some 49, (.bin .add (.tmp 47) (.tmp 48)), none, none⟩, ⟨some 50, (.slc 2 (.tmp 46) (some (.tmp 49)) none none), none, none⟩, ⟨some 51, (.mv (.tmp 0)), none, none⟩, ⟨some 52, (.mv (.tmp 1)), none, none⟩, ⟨some 53, (.slc 2 (.tmp 51) (some (.tmp 52)) none none), none, none⟩, ⟨some 54, (.copy 2 (.tmp 50) (.tmp 53)), none, none⟩]) (.seq (.region [⟨some 55, (.mv (.tmp 9)), none, none⟩, ⟨some 6, (.mv (.tmp 55)), none, none⟩]) .ret)))) .skip)) (.seq (.region [⟨some 56, (.mv (.tmp 0)), none, none⟩, ⟨some 57, (.mv (.tmp 8)), none, none⟩, ⟨some 58, (.mv (.tmp 7)), none, none⟩, ⟨some 59, (.bin .add (.tmp 57) (.tmp 58)), none, none⟩, ⟨some 60, (.slc 2 (.tmp 56) none (some (.tmp 59)) none), none, none⟩, ⟨some 0, (.mv (.tmp 60)), none, none⟩]) (.seq (.seq (.region [⟨some 61, (.mv (.tmp 2)), none, none⟩, ⟨some 62, (.mv (.tmp 0)), none, none⟩, ⟨some 63, (.mv (.tmp 1)), none, none⟩, ⟨some 64, (.mv (.tmp 7)), none, none⟩, ⟨some 65, (.bin .add (.tmp 63) (.tmp 64)), none, none⟩, ⟨some 66, (.slc 2 (.tmp 62) (some (.tmp 65)) none none), none, none⟩, ⟨some 67, (.ovl (.tmp 61) (.tmp 66)), none, none⟩, ⟨some 68, (.un .not (.tmp 67)), none, none⟩]) (.cond (.tmp 68) (.seq (.draw [⟨some 69, (.mv (.tmp 0)), none, none⟩, ⟨some 70, (.mv (.tmp 1)), none, none⟩, ⟨some 71, (.mv (.tmp 7)), none, none⟩, ⟨some 72, (.bin .add (.tmp 70) (.tmp 71)), none, none⟩, ⟨some 73, (.slc 2 (.tmp 69) (some (.tmp 72)) none none), none, none⟩, ⟨some 74, (.mv (.tmp 0)), none, none⟩, ⟨some 75, (.mv (.tmp 1)), none, none⟩, ⟨some 76, (.slc 2 (.tmp 74) (some (.tmp 75)) none none), none, none⟩, ⟨some 77, (.copy 2 (.tmp 73) (.tmp 76)), none, none⟩]) (.seq (.region [⟨some 78, (.mv (.tmp 0)), none, none⟩, ⟨some 79, (.mv (.tmp 1)), none, none⟩, ⟨some 80, (.slc 2 (.tmp 78) (some (.tmp 79)) none none), none, none⟩, ⟨some 81, (.mv (.tmp 2)), none, none⟩, ⟨some 82, (.copy 2 (.tmp 80) (.tmp 81)), none, none⟩]) (.seq (.region [⟨some 83, (.mv (.tmp 0)), none, none⟩, ⟨some 6, (.mv (.tmp 83)), none, none⟩]) .ret))) .skip)) (.seq (.region [⟨some 84, (.mv (.tmp 0)), none, none⟩, ⟨some 85, (.mv (.tmp 8)), none, none⟩, ⟨some 86, (.slc 2 (.tmp 84) (some (.tmp 85)) none none), none, none⟩, ⟨some 87, (.mv (.tmp 2)), none, none⟩, ⟨some 88, (.copy 2 (.tmp 86) (.tmp 87)), none, none⟩]) (.seq (.region [⟨some 89, (.mv (.tmp 0)), none, none⟩, ⟨some 90, (.mv (.tmp 1)), none, none⟩, ⟨some 91, (.slc 2 (.tmp 89) (some (.tmp 90)) none none), none, none⟩, ⟨some 92, (.mv (.tmp 7)), none, none⟩, ⟨some 93, (.call (.con (.func 91 [] [])) [.tmp 91, .tmp 92]), none, none⟩]) (.seq (.region [⟨some 94, (.mv (.tmp 0)), none, none⟩, ⟨some 6, (.mv (.tmp 94)), none, none⟩]) .ret)))))))))))), [.tmp 6]⟩
theorem c74_is : cfn Try.prog 74 = some c74 := by kernel_rfl
def c75 : AFn := ⟨(.seq (.region [⟨some 2, (.mv (.con (.bool false))), none, none⟩]) (.seq (.region [⟨some 3, (.mv (.tmp 0)), none, none⟩, ⟨some 4, (.bin .geq (.tmp 3) (.con (.int .i64 1))), none, none⟩, ⟨some 5, (.mv (.tmp 4)), none, none⟩, ⟨some 6, (.mv (.tmp 0)), (some (5, true)), none⟩, ⟨some 7, (.bin .leq (.tmp 6) (.con (.int .i64 8))), (some (5, true)), none⟩, ⟨some 8, (.pick (.tmp 5) (.tmp 7) (.con (.bool false))), none, none⟩, ⟨some 2, (.mv (.tmp 8)), none, none⟩]) .ret)), [.tmp 2]⟩
theorem c75_is : cfn Try.prog 75 = some c75 := by kernel_rfl
def c78 : AFn := ⟨(.seq (.region [⟨some 4, (.mv (.con (.str []))), none, none⟩]) (.seq (.region [⟨some 5, (.mv (.tmp 0)), none, none⟩, ⟨some 6, (.mv (.tmp 0)), none, none⟩, ⟨some 7, (.mv (.tmp 1)), none, none⟩, ⟨some 8, (.nilck (.tmp 5)), none, none⟩, ⟨some 9, (.fieldA 0 (.tmp 8)), none, none⟩, ⟨none, (.store 1 (.tmp 9) (.con (.str []))), none, none⟩, ⟨some 10, (.nilck (.tmp 6)), none, none⟩, ⟨some 11, (.fieldA 1 (.tmp 10)), none, none⟩, ⟨none, (.store 1 (.tmp 11) (.tmp 7)), none, none⟩]) (.seq (.region [⟨some 4, (.mv (.con (.str []))), none, none⟩]) .ret))), [.tmp 4]⟩
theorem c78_is : cfn Try.prog 78 = some c78 := by kernel_rfl
def c79 : AFn := ⟨(.seq (.region [⟨some 2, (.new [(.str []), (.int .i64 0)]), none, none⟩]) (.seq (.region [⟨some 3, (.mv (.tmp 0)), none, none⟩, ⟨some 4, (.build [(.str []), (.int .i64 0)] [(1, (1, (.tmp 3)))]), none, none⟩, ⟨none, (.store 2 (.tmp 2) (.tmp 4)), none, none⟩]) .ret)), [(.cell 2 true 2)]⟩
theorem c79_is : cfn Try.prog 79 = some c79 := by kernel_rfl
def c80 : AFn := ⟨(.seq (.region [⟨some 2, (.box (.tmp 0)), none, none⟩, ⟨some 4, (.new [(.str []), (.int .i64 0)]), none, none⟩, ⟨some 5, (.mv (.con (.str []))), none, none⟩]) (.seq (.seq (.region [⟨some 6, (.fieldA 1 (.tmp 2)), none, none⟩, ⟨some 7, (.load false 1 (.tmp 6)), none, none⟩, ⟨some 8, (.bin .neq (.tmp 7) (.con (.int .i64 0))), none, none⟩]) (.cond (.tmp 8) (.seq (.region [⟨some 9, (.load true 2 (.tmp 2)), none, none⟩, ⟨none, (.store 2 (.tmp 4) (.tmp 9)), none, none⟩, ⟨some 5, (.mv (.con (.str []))), none, none⟩]) .ret) .skip)) (.seq (.seq (.region [⟨some 10, (.mv (.tmp 1)), none, none⟩, ⟨some 11, (.bin .lss (.tmp 10) (.con (.int .i64 0))), none, none⟩]) (.cond (.tmp 11) (.seq (.region [⟨some 12, (.call (.con (.func 79 [] [])) [(.con (.int .i64 18))]), none, none⟩, ⟨none, (.store 2 (.tmp 4) (.tmp 12)), none, none⟩, ⟨some 5, (.mv (.con (.str []))), none, none⟩]) .ret) .skip)) (.seq (.seq (.region [⟨some 13, (.mv (.tmp 1)), none, none⟩, ⟨some 14, (.fieldA 0 (.tmp 2)), none, none⟩, ⟨some 15, (.load false 1 (.tmp 14)), none, none⟩, ⟨some 16, (.len true (.tmp 15)), none, none⟩, ⟨some 17, (.bin .gtr (.tmp 13) (.tmp 16)), none, none⟩]) (.cond (.tmp 17) (.seq (.region [⟨some 18, (.call (.con (.func 79 [] [])) [(.con (.int .i64 20))]), none, none⟩, ⟨none, (.store 2 (.tmp 4) (.tmp 18)), none, none⟩, ⟨some 5, (.mv (.con (.str []))), none, none⟩]) .ret) .skip)) (.seq (.draw [⟨some 19, (.fieldA 0 (.tmp 2)), none, none⟩, ⟨some 20, (.load false 1 (.tmp 19)), none, none⟩, ⟨some 21, (.mv (.tmp 1)), none, none⟩, ⟨some 22, (.slcStr (.tmp 20) (some (.tmp 21)) none), none, none⟩, ⟨some 23, (.build [(.str []), (.int .i64 0)] [(0, (1, (.tmp 22)))]), none, none⟩, ⟨some 24, (.fieldA 0 (.tmp 2)), none, none⟩, ⟨some 25, (.load false 1 (.tmp 24)), none, (some (0, 1))⟩, ⟨some 26, (.mv (.tmp 1)), none, none⟩, ⟨some 27, (.slcStr (.tmp 25) none (some (.tmp 26))), none, none⟩, ⟨none, (.store 2 (.tmp 4) (.tmp 23)), none, none⟩, ⟨some 5, (.mv (.tmp 27)), none, none⟩]) .ret))))), [(.cell 4 true 2), .tmp 5]⟩
theorem c80_is : cfn Try.prog 80 = some c80 := by kernel_rfl
def c82 : AFn := ⟨(.seq (.region [⟨some 4, (.mv (.con (.str []))), none, none⟩]) (.seq (.seq (.region [⟨some 6, (.mv (.tmp 1)), none, none⟩, ⟨some 7, (.bin .gtr (.tmp 6) (.con (.int .i64 65536))), none, none⟩, ⟨some 8, (.mv (.tmp 7)), none, none⟩, ⟨some 9, (.mv (.tmp 1)), (some (8, false)), none⟩, ⟨some 10, (.mv (.tmp 0)), (some (8, false)), none⟩, ⟨some 11, (.len true (.tmp 10)), (some (8, false)), none⟩, ⟨some 12, (.bin .leq (.tmp 9) (.tmp 11)), (some (8, false)), none⟩, ⟨some 13, (.pick (.tmp 8) (.con (.bool true)) (.tmp 12)), none, none⟩]) (.cond (.tmp 13) (.seq (.region [⟨some 14, (.mv (.tmp 0)), none, none⟩, ⟨some 4, (.mv (.tmp 14)), none, none⟩]) .ret) .skip)) (.seq (.region [⟨some 15, (.mv (.tmp 1)), none, none⟩, ⟨some 16, (.mkS 1 1 [(.int .u8 0)] (.tmp 15) (.tmp 15)), none, none⟩, ⟨some 5, (.mv (.tmp 16)), none, none⟩]) (.seq (.region [⟨some 17, (.mv (.tmp 5)), none, none⟩, ⟨some 18, (.mv (.tmp 0)), none, none⟩, ⟨some 19, (.copy 1 (.tmp 17) (.tmp 18)), none, none⟩]) (.seq (.region [⟨some 20, (.mv (.tmp 5)), none, none⟩, ⟨some 21, (.bToS (.tmp 20)), none, none⟩, ⟨some 4, (.mv (.tmp 21)), none, none⟩]) .ret))))), [.tmp 4]⟩
theorem c82_is : cfn Try.prog 82 = some c82 := by kernel_rfl
def c84 : AFn := ⟨(.seq (.region [⟨some 2, (.mv (.con (.bool false))), none, none⟩]) (.seq (.region [⟨some 3, (.mv (.tmp 0)), none, none⟩, ⟨some 4, (.bin .neq (.tmp 3) (.con (.str []))), none, none⟩, ⟨some 5, (.mv (.tmp 4)), none, none⟩, ⟨some 6, (.mv (.tmp 0)), (some (5, true)), none⟩, ⟨some 7, (.len true (.tmp 6)), (some (5, true)), none⟩, ⟨some 8, (.bin .leq (.tmp 7) (.con (.int .i64 64))), (some (5, true)), none⟩, ⟨some 9, (.pick (.tmp 5) (.tmp 8) (.con (.bool false))), none, none⟩, ⟨some 2, (.mv (.tmp 9)), none, none⟩]) .ret)), [.tmp 2]⟩
theorem c84_is : cfn Try.prog 84 = some c84 := by kernel_rfl
def c85 : AFn := ⟨(.seq (.region [⟨some 4, (.mv (.con (.bool false))), none, none⟩]) (.seq (.seq (.region [⟨some 6, (.mv (.tmp 0)), none, none⟩, ⟨some 7, (.len false (.tmp 6)), none, none⟩, ⟨some 8, (.mv (.tmp 1)), none, none⟩, ⟨some 9, (.len false (.tmp 8)), none, none⟩, ⟨some 10, (.bin .neq (.tmp 7) (.tmp 9)), none, none⟩]) (.cond (.tmp 10) (.seq (.region [⟨some 4, (.mv (.con (.bool false))), none, none⟩]) .ret) .skip)) (.seq (.seq (.region [⟨some 5, (.mv (.con (.int .i64 0))), none, none⟩]) (.block 0 (.loop (.seq (.seq (.region [⟨some 11, (.mv (.tmp 5)), none, none⟩, ⟨some 12, (.mv (.tmp 0)), none, none⟩, ⟨some 13, (.len false (.tmp 12)), none, none⟩, ⟨some 14, (.bin .lss (.tmp 11) (.tmp 13)), none, none⟩]) (.cond (.tmp 14) .skip (.exit 0))) (.seq (.block 1 (.seq (.draw [⟨some 17, (.mv (.tmp 0)), none, none⟩, ⟨some 18, (.mv (.tmp 5)), none, none⟩, ⟨some 19, (.idxASl 2 (.tmp 17) (.tmp 18)), none, none⟩, ⟨some 20, (.load true 2 (.tmp 19)), none, none⟩, ⟨some 21, (.mv (.tmp 1)), none, none⟩, ⟨some 22, (.mv (.tmp 5)), none, none⟩, ⟨some 23, (.idxASl 2 (.tmp 21) (.tmp 22)), none, none⟩, ⟨some 24, (.load true 2 (.tmp 23)), none, none⟩, ⟨some 25, (.eq true (.fld 0 1 false .str (.fld 1 1 false .str .fend)) (.tmp 20) (.tmp 24)), none, none⟩]) (.cond (.tmp 25) (.seq (.region [⟨some 4, (.mv (.con (.bool false))), none, none⟩]) .ret) .skip))) (.region [⟨some 15, (.mv (.tmp 5)), none, none⟩, ⟨some 16, (.bin .add (.tmp 15) (.con (.int .i64 1))), none, none⟩, ⟨some 5, (.mv (.tmp 16)), none, none⟩])))))) (.seq (.region [⟨some 4, (.mv (.con (.bool true))), none, none⟩]) .ret)))), [.tmp 4]⟩
theorem c85_is : cfn Try.prog 85 = some c85 := by kernel_rfl
def c86 : AFn := ⟨(.seq (.region [⟨some 2, (.box (.tmp 0)), none, none⟩, ⟨some 3, (.box (.tmp 1)), none, none⟩, ⟨some 4, (.mv (.con (.int .i64 0))), none, none⟩]) (.seq (.seq (.region [⟨some 5, (.load true 2 (.tmp 2)), none, none⟩, ⟨some 6, (.call (.con (.func 58 [] [])) [.tmp 5]), none, none⟩]) (.cond (.tmp 6) (.seq (.region [⟨some 7, (.fieldA 0 (.tmp 3)), none, none⟩, ⟨some 8, (.load false 1 (.tmp 7)), none, none⟩, ⟨some 9, (.len true (.tmp 8)), none, none⟩, ⟨some 10, (.bin .add (.con (.int .i64 2)) (.tmp 9)), none, none⟩, ⟨some 11, (.fieldA 1 (.tmp 3)), none, none⟩, ⟨some 12, (.load false 1 (.tmp 11)), none, none⟩, ⟨some 13, (.len true (.tmp 12)), none, none⟩, ⟨some 14, (.bin .add (.tmp 10) (.tmp 13)), none, none⟩, ⟨some 4, (.mv (.tmp 14)), none, none⟩]) .ret) .skip)) (.seq (.region [⟨some 15, (.fieldA 0 (.tmp 3)), none, none⟩, ⟨some 16, (.load false 1 (.tmp 15)), none, none⟩, ⟨some 17, (.len true (.tmp 16)), none, none⟩, ⟨some 18, (.bin .add (.con (.int .i64 1)) (.tmp 17)), none, none⟩, ⟨some 19, (.bin .add (.tmp 18) (.con (.int .i64 2))), none, none⟩, ⟨some 4, (.mv (.tmp 19)), none, none⟩]) .ret))), [.tmp 4]⟩
theorem c86_is : cfn Try.prog 86 = some c86 := by kernel_rfl
def c87 : AFn := ⟨(.seq (.region [⟨some 2, (.box (.tmp 0)), none, none⟩, ⟨some 3, (.box (.tmp 1)), none, none⟩, ⟨some 4, (.mv (.con (.int .i64 0))), none, none⟩]) (.seq (.seq (.region [⟨some 5, (.fieldA 1 (.tmp 2)), none, none⟩, ⟨some 6, (.load false 1 (.tmp 5)), none, none⟩, ⟨some 7, (.len false (.tmp 6)), none, none⟩, ⟨some 8, (.bin .eql (.tmp 7) (.con (.int .i64 0))), none, none⟩]) (.cond (.tmp 8) (.seq (.region [⟨some 9, (.fieldA 0 (.tmp 3)), none, none⟩, ⟨some 10, (.load false 1 (.tmp 9)), none, none⟩, ⟨some 11, (.len true (.tmp 10)), none, none⟩, ⟨some 12, (.bin .add (.con (.int .i64 2)) (.tmp 11)), none, none⟩, ⟨some 13, (.fieldA 1 (.tmp 3)), none, none⟩, ⟨some 14, (.load false 1 (.tmp 13)), none, none⟩, ⟨some 15, (.len true (.tmp 14)), none, none⟩, ⟨some 16, (.bin .add (.tmp 12) (.tmp 15)), none, none⟩, ⟨some 4, (.mv (.tmp 16)), none, none⟩]) .ret) .skip)) (.seq (.region [⟨some 17, (.fieldA 0 (.tmp 3)), none, none⟩, ⟨some 18, (.load false 1 (.tmp 17)), none, none⟩, ⟨some 19, (.len true (.tmp 18)), none, none⟩, ⟨some 20, (.bin .add (.con (.int .i64 3)) (.tmp 19)), none, none⟩, ⟨some 4, (.mv (.tmp 20)), none, none⟩]) .ret))), [.tmp 4]⟩
theorem c87_is : cfn Try.prog 87 = some c87 := by kernel_rfl
def c88 : AFn := ⟨(.seq (.region [⟨some 4, (.mv (.con .nils)), none, none⟩]) (.seq (.seq (.region [⟨some 5, (.mv (.tmp 1)), none, none⟩, ⟨some 6, (.bin .lss (.tmp 5) (.con (.int .i64 0))), none, none⟩]) (.cond (.tmp 6) (.region [⟨some 7, (.mkIface 9 (.con (.str [99, 97, 110, 110, 111, 116, 32, 98, 101, 32, 110, 101, 103, 97, 116, 105, 118, 101]))), none, none⟩, ⟨none, .die, none, none⟩]) .skip)) (.seq (.seq (.region [⟨some 8, (.mv (.tmp 1)), none, none⟩, ⟨some 9, (.mv (.tmp 0)), none, none⟩, ⟨some 10, (.cap (.tmp 9)), none, none⟩, ⟨some 11, (.mv (.tmp 0)), none, none⟩, ⟨some 12, (.len false (.tmp 11)), none, none⟩, ⟨some 13, (.bin .sub (.tmp 10) (.tmp 12)), none, none⟩, ⟨some 14, (.bin .sub (.tmp 8) (.tmp 13)), none, none⟩, ⟨some 1, (.mv (.tmp 14)), none, none⟩]) (.seq (.region [⟨some 15, (.mv (.tmp 1)), none, none⟩, ⟨some 16, (.bin .gtr (.tmp 15) (.con (.int .i64 0))), none, none⟩]) (.cond (.tmp 16) (.region [⟨some 17, (.mv (.tmp 0)), none, none⟩, ⟨some 18, (.mv (.tmp 0)), none, none⟩, ⟨some 19, (.cap (.tmp 18)), none, none⟩, ⟨some 20, (.slc 2 (.tmp 17) none (some (.tmp 19)) none), none, none⟩, ⟨some 21, (.mv (.tmp 1)), none, none⟩, ⟨some 22, (.appendZ 2 32 [(.str []), (.str [])] (.tmp 20) (.tmp 21)), none, none⟩, ⟨some 23, (.mv (.tmp 0)), none, none⟩, ⟨some 24, (.len false (.tmp 23)), none, none⟩, ⟨some 25, (.slc 2 (.tmp 22) none (some (.tmp 24)) none), none, none⟩, ⟨some 0, (.mv (.tmp 25)), none, none⟩]) .skip))) (.seq (.region [⟨some 26, (.mv (.tmp 0)), none, none⟩, ⟨some 4, (.mv (.tmp 26)), none, none⟩]) .ret)))), [.tmp 4]⟩
theorem c88_is : cfn Try.prog 88 = some c88 := by kernel_rfl
def c89 : AFn := ⟨(.seq (.region [⟨some 4, (.mv (.con .nils)), none, none⟩]) (.seq (.seq (.region [⟨some 5, (.mv (.tmp 1)), none, none⟩, ⟨some 6, (.bin .lss (.tmp 5) (.con (.int .i64 0))), none, none⟩]) (.cond (.tmp 6) (.region [⟨some 7, (.mkIface 9 (.con (.str [99, 97, 110, 110, 111, 116, 32, 98, 101, 32, 110, 101, 103, 97, 116, 105, 118, 101]))), none, none⟩, ⟨none, .die, none, none⟩]) .skip)) (.seq (.seq (.region [⟨some 8, (.mv (.tmp 1)), none, none⟩, ⟨some 9, (.mv (.tmp 0)), none, none⟩, ⟨some 10, (.cap (.tmp 9)), none, none⟩, ⟨some 11, (.mv (.tmp 0)), none, none⟩, ⟨some 12, (.len false (.tmp 11)), none, none⟩, ⟨some 13, (.bin .sub (.tmp 10) (.tmp 12)), none, none⟩, ⟨some 14, (.bin .sub (.tmp 8) (.tmp 13)), none, none⟩, ⟨some 1, (.mv (.tmp 14)), none, none⟩]) (.seq (.region [⟨some 15, (.mv (.tmp 1)), none, none⟩, ⟨some 16, (.bin .gtr (.tmp 15) (.con (.int .i64 0))), none, none⟩]) (.cond (.tmp 16) (.region [⟨some 17, (.mv (.tmp 0)), none, none⟩, ⟨some 18, (.mv (.tmp 0)), none, none⟩, ⟨some 19, (.cap (.tmp 18)), none, none⟩, ⟨some 20, (.slc 1 (.tmp 17) none (some (.tmp 19)) none), none, none⟩, ⟨some 21, (.mv (.tmp 1)), none, none⟩, ⟨some 22, (.appendZ 1 8 [(.int .i64 0)] (.tmp 20) (.tmp 21)), none, none⟩, ⟨some 23, (.mv (.tmp 0)), none, none⟩, ⟨some 24, (.len false (.tmp 23)), none, none⟩, ⟨some 25, (.slc 1 (.tmp 22) none (some (.tmp 24)) none), none, none⟩, ⟨some 0, (.mv (.tmp 25)), none, none⟩]) .skip))) (.seq (.region [⟨some 26, (.mv (.tmp 0)), none, none⟩, ⟨some 4, (.mv (.tmp 26)), none, none⟩]) .ret)))), [.tmp 4]⟩
theorem c89_is : cfn Try.prog 89 = some c89 := by kernel_rfl
def c91 : AFn := ⟨(.region [⟨some 4, (.mv (.tmp 0)), none, none⟩, ⟨some 5, (.mv (.tmp 0)), none, none⟩, ⟨some 6, (.len false (.tmp 5)), none, none⟩, ⟨some 7, (.mv (.tmp 1)), none, none⟩, ⟨some 8, (.bin .sub (.tmp 6) (.tmp 7)), none, none⟩, ⟨some 9, (.call (.con (.func 103 [] [])) [.tmp 4, .tmp 8]), none, none⟩]), []⟩
theorem c91_is : cfn Try.prog 91 = some c91 := by kernel_rfl
def c103 : AFn := ⟨(.seq (.region [⟨some 4, (.mv (.tmp 0)), none, none⟩, ⟨some 5, (.mv (.tmp 1)), none, none⟩, ⟨some 6, (.slc 2 (.tmp 4) none (some (.tmp 5)) none), none, none⟩, ⟨some 7, (.call (.con (.func 110 [] [])) [.tmp 6]), none, none⟩]) (.seq (.region [⟨some 8, (.mv (.tmp 0)), none, none⟩, ⟨some 9, (.mv (.tmp 1)), none, none⟩, ⟨some 10, (.slc 2 (.tmp 8) (some (.tmp 9)) none none), none, none⟩, ⟨some 11, (.call (.con (.func 110 [] [])) [.tmp 10]), none, none⟩]) (.region [⟨some 12, (.mv (.tmp 0)), none, none⟩, ⟨some 13, (.call (.con (.func 110 [] [])) [.tmp 12]), none, none⟩]))), []⟩
theorem c103_is : cfn Try.prog 103 = some c103 := by kernel_rfl
def c110 : AFn := ⟨(.seq (.region [⟨some 4, (.mv (.tmp 0)), none, none⟩, ⟨some 5, (.len false (.tmp 4)), none, none⟩, ⟨some 6, (.bin .sub (.tmp 5) (.con (.int .i64 1))), none, none⟩, ⟨some 2, (.mv (.con (.int .i64 0))), none, none⟩, ⟨some 3, (.mv (.tmp 6)), none, none⟩]) (.block 0 (.loop (.seq (.seq (.region [⟨some 7, (.mv (.tmp 2)), none, none⟩, ⟨some 8, (.mv (.tmp 3)), none, none⟩, ⟨some 9, (.bin .lss (.tmp 7) (.tmp 8)), none, none⟩]) (.cond (.tmp 9) .skip (.exit 0))) (.seq (.block 1 (.draw [⟨some 14, (.mv (.tmp 0)), none, none⟩, ⟨some 15, (.mv (.tmp 2)), none, none⟩, ⟨some 16, (.mv (.tmp 0)), none, none⟩, ⟨some 17, (.mv (.tmp 3)), none, none⟩, ⟨some 18, (.mv (.tmp 0)), none, none⟩, ⟨some 19, (.mv (.tmp 3)), none, none⟩, ⟨some 20, (.idxASl 2 (.tmp 18) (.tmp 19)), none, none⟩, ⟨some 21, (.load true 2 (.tmp 20)), none, none⟩, ⟨some 22, (.mv (.tmp 0)), none, none⟩, ⟨some 23, (.mv (.tmp 2)), none, none⟩, ⟨some 24, (.idxASl 2 (.tmp 22) (.tmp 23)), none, none⟩, ⟨some 25, (.load true 2 (.tmp 24)), none, none⟩, ⟨some 26, (.idxASl 2 (.tmp 14) (.tmp 15)), none, none⟩, ⟨none, (.store 2 (.tmp 26) (.tmp 21)), none, none⟩, ⟨some 27, (.idxASl 2 (.tmp 16) (.tmp 17)), none, none⟩, ⟨none, (.store 2 (.tmp 27) (.tmp 25)), none, none⟩])) (.region [⟨some 10, (.mv (.tmp 2)), none, none⟩, ⟨some 11, (.bin .add (.tmp 10) (.con (.int .i64 1))), none, none⟩, ⟨some 12, (.mv (.tmp 3)), none, none⟩, ⟨some 13, (.bin .sub (.tmp 12) (.con (.int .i64 1))), none, none⟩, ⟨some 2, (.mv (.tmp 11)), none, none⟩, ⟨some 3, (.mv (.tmp 13)), none, none⟩])))))), []⟩
theorem c110_is : cfn Try.prog 110 = some c110 := by kernel_rfl
def fn : FuncId → Option AFn
  | 6 => some c6
  | 7 => some c7
  | 8 => some c8
  | 9 => some c9
  | 22 => some c22
  | 23 => some c23
  | 24 => some c24
  | 25 => some c25
  | 26 => some c26
  | 27 => some c27
  | 28 => some c28
  | 29 => some c29
  | 30 => some c30
  | 31 => some c31
  | 32 => some c32
  | 33 => some c33
  | 34 => some c34
  | 35 => some c35
  | 36 => some c36
  | 37 => some c37
  | 38 => some c38
  | 39 => some c39
  | 40 => some c40
  | 41 => some c41
  | 42 => some c42
  | 45 => some c45
  | 48 => some c48
  | 50 => some c50
  | 51 => some c51
  | 52 => some c52
  | 53 => some c53
  | 55 => some c55
  | 56 => some c56
  | 57 => some c57
  | 58 => some c58
  | 59 => some c59
  | 60 => some c60
  | 61 => some c61
  | 62 => some c62
  | 63 => some c63
  | 64 => some c64
  | 65 => some c65
  | 66 => some c66
  | 67 => some c67
  | 68 => some c68
  | 69 => some c69
  | 70 => some c70
  | 71 => some c71
  | 72 => some c72
  | 73 => some c73
  | 74 => some c74
  | 75 => some c75
  | 78 => some c78
  | 79 => some c79
  | 80 => some c80
  | 82 => some c82
  | 84 => some c84
  | 85 => some c85
  | 86 => some c86
  | 87 => some c87
  | 88 => some c88
  | 89 => some c89
  | 91 => some c91
  | 103 => some c103
  | 110 => some c110
  | _ => none
theorem fn_is : ∀ f x, fn f = some x → cfn Try.prog f = some x := by
  intro f x h
  unfold fn at h
  split at h
  · injection h with h; subst h; exact c6_is
  · injection h with h; subst h; exact c7_is
  · injection h with h; subst h; exact c8_is
  · injection h with h; subst h; exact c9_is
  · injection h with h; subst h; exact c22_is
  · injection h with h; subst h; exact c23_is
  · injection h with h; subst h; exact c24_is
  · injection h with h; subst h; exact c25_is
  · injection h with h; subst h; exact c26_is
  · injection h with h; subst h; exact c27_is
  · injection h with h; subst h; exact c28_is
  · injection h with h; subst h; exact c29_is
  · injection h with h; subst h; exact c30_is
  · injection h with h; subst h; exact c31_is
  · injection h with h; subst h; exact c32_is
  · injection h with h; subst h; exact c33_is
  · injection h with h; subst h; exact c34_is
  · injection h with h; subst h; exact c35_is
  · injection h with h; subst h; exact c36_is
  · injection h with h; subst h; exact c37_is
  · injection h with h; subst h; exact c38_is
  · injection h with h; subst h; exact c39_is
  · injection h with h; subst h; exact c40_is
  · injection h with h; subst h; exact c41_is
  · injection h with h; subst h; exact c42_is
  · injection h with h; subst h; exact c45_is
  · injection h with h; subst h; exact c48_is
  · injection h with h; subst h; exact c50_is
  · injection h with h; subst h; exact c51_is
  · injection h with h; subst h; exact c52_is
  · injection h with h; subst h; exact c53_is
  · injection h with h; subst h; exact c55_is
  · injection h with h; subst h; exact c56_is
  · injection h with h; subst h; exact c57_is
  · injection h with h; subst h; exact c58_is
  · injection h with h; subst h; exact c59_is
  · injection h with h; subst h; exact c60_is
  · injection h with h; subst h; exact c61_is
  · injection h with h; subst h; exact c62_is
  · injection h with h; subst h; exact c63_is
  · injection h with h; subst h; exact c64_is
  · injection h with h; subst h; exact c65_is
  · injection h with h; subst h; exact c66_is
  · injection h with h; subst h; exact c67_is
  · injection h with h; subst h; exact c68_is
  · injection h with h; subst h; exact c69_is
  · injection h with h; subst h; exact c70_is
  · injection h with h; subst h; exact c71_is
  · injection h with h; subst h; exact c72_is
  · injection h with h; subst h; exact c73_is
  · injection h with h; subst h; exact c74_is
  · injection h with h; subst h; exact c75_is
  · injection h with h; subst h; exact c78_is
  · injection h with h; subst h; exact c79_is
  · injection h with h; subst h; exact c80_is
  · injection h with h; subst h; exact c82_is
  · injection h with h; subst h; exact c84_is
  · injection h with h; subst h; exact c85_is
  · injection h with h; subst h; exact c86_is
  · injection h with h; subst h; exact c87_is
  · injection h with h; subst h; exact c88_is
  · injection h with h; subst h; exact c89_is
  · injection h with h; subst h; exact c91_is
  · injection h with h; subst h; exact c103_is
  · injection h with h; subst h; exact c110_is
  · simp at h
end Go.Proofs.Ytfmjdlahabgkpaa.SdFns
end

section
/- Contracts of Go's library at this program, as the kit's own tool prints them. -/
namespace Go.Proofs
open Go.Shelf
def Try.lays138_ren : Go.Shelf.Ren := ⟨fun | 138 => 81 | 195 => 94 | 218 => 95 | 143 => 96 | 219 => 104 | 217 => 111 | 225 => 112 | 224 => 113 | 267 => 114 | 266 => 117 | 314 => 118 | n => n, fun | 9 => 9 | 3 => 3 | 4 => 4 | 5 => 5 | 0 => 0 | 46 => 117 | 146 => 148 | 51 => 42 | n => n, fun | 1 => 0 | n => n⟩
theorem Try.lays138 : Go.Proofs.Lays.n138 Try.prog Try.lays138_ren := {
  mixed := by kernel_rfl
  f138 := Try.func81.trans (congrArg some (by kernel_rfl))
  f143 := Try.func96.trans (congrArg some (by kernel_rfl))
  f195 := Try.func94.trans (congrArg some (by kernel_rfl))
  f217 := Try.func111.trans (congrArg some (by kernel_rfl))
  f218 := Try.func95.trans (congrArg some (by kernel_rfl))
  f219 := Try.func104.trans (congrArg some (by kernel_rfl))
  f224 := Try.func113.trans (congrArg some (by kernel_rfl))
  f225 := Try.func112.trans (congrArg some (by kernel_rfl))
  f266 := Try.func117.trans (congrArg some (by kernel_rfl))
  f267 := Try.func114.trans (congrArg some (by kernel_rfl))
  f314 := Try.func118.trans (congrArg some (by kernel_rfl))
  t0 := Try.underlying0
  a0 := Try.isAgg0
  z0 := Try.sizeOf0
  v0 := Try.zeroValue0
  t3 := Try.underlying3
  a3 := Try.isAgg3
  z3 := Try.sizeOf3
  v3 := Try.zeroValue3
  t4 := Try.underlying4
  a4 := Try.isAgg4
  z4 := Try.sizeOf4
  v4 := Try.zeroValue4
  t5 := Try.underlying5
  a5 := Try.isAgg5
  z5 := Try.sizeOf5
  v5 := Try.zeroValue5
  t9 := Try.underlying9
  a9 := Try.isAgg9
  z9 := Try.sizeOf9
  v9 := Try.zeroValue9
  t46 := Try.underlying117
  a46 := Try.isAgg117
  z46 := Try.sizeOf117
  v46 := Try.zeroValue117
  t51 := Try.underlying42
  a51 := Try.isAgg42
  z51 := Try.sizeOf42
  v51 := Try.zeroValue42
  t146 := Try.underlying148
  a146 := Try.isAgg148
  z146 := Try.sizeOf148
  v146 := Try.zeroValue148
  g1 := by kernel_rfl }
open Go.RowKit Go.Lib in
theorem Try.strings_Count_one (s : ByteArray) (c : UInt8) (w : World) :
    Calls Try.prog 81 #[.string s, .string ⟨#[c]⟩] w fun e w' => e = .returned (.int .i64 (Lib.countByte s.data.toList c)) ∧ w' = w := Any.strings_Count_one Try.lays138 s c w
def Try.lays105_ren : Go.Shelf.Ren := ⟨fun | 105 => 83 | 212 => 97 | 99 => 98 | 165 => 99 | 166 => 100 | 170 => 101 | 169 => 102 | 263 => 105 | 264 => 106 | 206 => 107 | 240 => 108 | 241 => 109 | 276 => 115 | 277 => 116 | n => n, fun | 9 => 9 | 3 => 3 | 4 => 4 | 20 => 20 | 0 => 0 | 46 => 117 | 109 => 136 | 5 => 5 | 72 => 141 | 76 => 145 | 51 => 42 | 146 => 148 | 53 => 22 | 148 => 150 | 70 => 139 | 37 => 43 | 75 => 144 | 127 => 152 | 164 => 155 | 80 => 83 | n => n, fun | n => n⟩
theorem Try.lays105 : Go.Proofs.Lays.n105 Try.prog Try.lays105_ren := {
  mixed := by kernel_rfl
  f99 := Try.func98.trans (congrArg some (by kernel_rfl))
  f105 := Try.func83.trans (congrArg some (by kernel_rfl))
  f165 := Try.func99.trans (congrArg some (by kernel_rfl))
  f166 := Try.func100.trans (congrArg some (by kernel_rfl))
  f169 := Try.func102.trans (congrArg some (by kernel_rfl))
  f170 := Try.func101.trans (congrArg some (by kernel_rfl))
  f206 := Try.func107.trans (congrArg some (by kernel_rfl))
  f212 := Try.func97.trans (congrArg some (by kernel_rfl))
  f240 := Try.func108.trans (congrArg some (by kernel_rfl))
  f241 := Try.func109.trans (congrArg some (by kernel_rfl))
  f263 := Try.func105.trans (congrArg some (by kernel_rfl))
  f264 := Try.func106.trans (congrArg some (by kernel_rfl))
  f276 := Try.func115.trans (congrArg some (by kernel_rfl))
  f277 := Try.func116.trans (congrArg some (by kernel_rfl))
  t0 := Try.underlying0
  a0 := Try.isAgg0
  z0 := Try.sizeOf0
  v0 := Try.zeroValue0
  t3 := Try.underlying3
  a3 := Try.isAgg3
  z3 := Try.sizeOf3
  v3 := Try.zeroValue3
  t4 := Try.underlying4
  a4 := Try.isAgg4
  z4 := Try.sizeOf4
  v4 := Try.zeroValue4
  t5 := Try.underlying5
  a5 := Try.isAgg5
  z5 := Try.sizeOf5
  v5 := Try.zeroValue5
  t9 := Try.underlying9
  a9 := Try.isAgg9
  z9 := Try.sizeOf9
  v9 := Try.zeroValue9
  t20 := Try.underlying20
  a20 := Try.isAgg20
  z20 := Try.sizeOf20
  v20 := Try.zeroValue20
  t37 := Try.underlying43
  a37 := Try.isAgg43
  z37 := Try.sizeOf43
  v37 := Try.zeroValue43
  t46 := Try.underlying117
  a46 := Try.isAgg117
  z46 := Try.sizeOf117
  v46 := Try.zeroValue117
  t51 := Try.underlying42
  a51 := Try.isAgg42
  z51 := Try.sizeOf42
  v51 := Try.zeroValue42
  t53 := Try.underlying22
  a53 := Try.isAgg22
  z53 := Try.sizeOf22
  v53 := Try.zeroValue22
  t70 := Try.underlying139
  a70 := Try.isAgg139
  z70 := Try.sizeOf139
  v70 := Try.zeroValue139
  t72 := Try.underlying141
  a72 := Try.isAgg141
  z72 := Try.sizeOf141
  v72 := Try.zeroValue141
  t75 := Try.underlying144
  a75 := Try.isAgg144
  z75 := Try.sizeOf144
  v75 := Try.zeroValue144
  t76 := Try.underlying145
  a76 := Try.isAgg145
  z76 := Try.sizeOf145
  v76 := Try.zeroValue145
  t109 := Try.underlying136
  a109 := Try.isAgg136
  z109 := Try.sizeOf136
  v109 := Try.zeroValue136
  t127 := Try.underlying152
  a127 := Try.isAgg152
  z127 := Try.sizeOf152
  v127 := Try.zeroValue152
  t146 := Try.underlying148
  a146 := Try.isAgg148
  z146 := Try.sizeOf148
  v146 := Try.zeroValue148
  t148 := Try.underlying150
  a148 := Try.isAgg150
  z148 := Try.sizeOf150
  v148 := Try.zeroValue150
  t164 := Try.underlying155
  a164 := Try.isAgg155
  z164 := Try.sizeOf155
  v164 := Try.zeroValue155 }
theorem Try.Builder_Extra_105 : Builder.Extra Try.prog Try.lays105_ren := {
  sizeBuilder := by kernel_rfl
  liesBuilder := by kernel_rfl
  t5 := Try.underlying5
  a5 := Try.isAgg5
  z5 := Try.sizeOf5
  v5 := Try.zeroValue5
  infoByte := by kernel_rfl
  cellsByte := by kernel_rfl
  sizeByte := by kernel_rfl
  neB5 := by decide }
open Go.RowKit Go.Lib in
theorem Try.strings_Repeat (s : ByteArray) (c : Nat) (w : World) (hc : c ≤ 9223372036854775807) (hlen : s.size * c ≤ 140737488355328) :
    Calls Try.prog 83 #[.string s, .int .i64 c] w fun e w' => e = .returned (.string ⟨(Lib.repeatL s.data.toList c).toArray⟩) ∧ Below w.heap.size w w' := Any.strings_Repeat Try.lays105 Try.Builder_Extra_105 s c w hc hlen
end Go.Proofs
end

section
/- The walk of the octets' chapter: what each function answers. -/
set_option maxRecDepth 100000
set_option linter.unusedSimpArgs false
set_option linter.unusedVariables false
set_option maxHeartbeats 2000000
namespace Go.Proofs.Ytfmjdlahabgkpaa.Sd
open Go Go.Proofs.Ytfmjdlahabgkpaa.Am SdFns Go.RowKit

/-! ### Go's library, by its contracts -/
def gRep : List AVal → Option AVal
  | [.str s, .int .i64 n] => if 0 ≤ n ∧ n ≤ 9223372036854775807 ∧ s.length * n.toNat ≤ 140737488355328 then some (.str (Lib.repeatL s n.toNat)) else none
  | _ => none
def gCount : List AVal → Option AVal
  | [.str s, .str [c]] => some (.int .i64 (Lib.countByte s c : Nat))
  | _ => none

theorem enters {f : FuncId} {fn : Func} (h : Try.prog.funcs[f]? = some fn) (h1 : (fn.name == "runtime.NumGoroutine") = false) (h2 : fn.body.isNone = false) : Go.Proofs.Ytfmjdlahabgkpaa.Am.Enters Try.prog f := ⟨fn, h, h1, h2⟩

theorem xRep : Go.Proofs.Ytfmjdlahabgkpaa.Am.Enters Try.prog 83 ∧ ∀ args v, gRep args = some v → plain v = true ∧ ∀ (m : Inj) (args' : List Value) (w : World), All2 (VRel m) args args' → Calls Try.prog 83 args'.toArray w fun e w' => ∃ v', e = .returned v' ∧ VRel m v v' ∧ Below w.heap.size w w' := by
  refine ⟨enters Try.func83 (by kernel_rfl) (by kernel_rfl), fun args v h => ?_⟩
  unfold gRep at h
  split at h
  · rename_i s n
    split at h
    · rename_i hc
      injection h with h
      subst h
      refine ⟨rfl, fun m args' w ha => ?_⟩
      cases ha with
      | cons h1 ha =>
        cases ha with
        | cons h2 ha =>
          cases ha
          have e1 := vrel_str h1
          have e2 := vrel_int h2
          subst e1 e2
          have := Try.strings_Repeat ⟨s.toArray⟩ n.toNat w (by omega) (by show s.toArray.size * n.toNat ≤ _; rw [List.size_toArray]; exact hc.2.2)
          rw [Int.toNat_of_nonneg hc.1] at this
          refine this.mono fun e w' ⟨h3, h4⟩ => ⟨_, h3, ?_, h4⟩
          exact .str _
    · cases h
  · cases h

theorem xCount : Go.Proofs.Ytfmjdlahabgkpaa.Am.Enters Try.prog 81 ∧ ∀ args v, gCount args = some v → plain v = true ∧ ∀ (m : Inj) (args' : List Value) (w : World), All2 (VRel m) args args' → Calls Try.prog 81 args'.toArray w fun e w' => ∃ v', e = .returned v' ∧ VRel m v v' ∧ Below w.heap.size w w' := by
  refine ⟨enters Try.func81 (by kernel_rfl) (by kernel_rfl), fun args v h => ?_⟩
  unfold gCount at h
  split at h
  · rename_i s c
    injection h with h
    subst h
    refine ⟨rfl, fun m args' w ha => ?_⟩
    cases ha with
    | cons h1 ha =>
      cases ha with
      | cons h2 ha =>
        cases ha
        have e1 := vrel_str h1
        have e2 := vrel_str h2
        subst e1 e2
        refine (Try.strings_Count_one ⟨s.toArray⟩ c w).mono fun e w' ⟨h3, h4⟩ => ⟨_, h3, .int _ _, ?_⟩
        rw [h4]
        exact Below.refl _ _
  · cases h

def mode : FuncId → Nat
  | 10 => 1
  | 11 => 1
  | 12 => 1
  | 13 => 1
  | 14 => 1
  | 15 => 1
  | 16 => 1
  | 17 => 1
  | 18 => 1
  | 19 => 1
  | 20 => 1
  | 21 => 1
  | 22 => 2
  | 23 => 1
  | 24 => 2
  | 25 => 2
  | 26 => 2
  | 27 => 0
  | 28 => 0
  | 29 => 2
  | 30 => 2
  | 31 => 2
  | 32 => 2
  | 33 => 2
  | 34 => 2
  | 35 => 2
  | 36 => 2
  | 37 => 2
  | 38 => 2
  | 39 => 2
  | 40 => 2
  | 41 => 2
  | 42 => 2
  | 43 => 1
  | 44 => 1
  | 45 => 1
  | 46 => 1
  | 47 => 1
  | 48 => 1
  | 49 => 1
  | 50 => 0
  | 51 => 0
  | 52 => 0
  | 53 => 1
  | 54 => 1
  | 55 => 1
  | 56 => 1
  | 57 => 1
  | 58 => 2
  | 59 => 1
  | 60 => 0
  | 61 => 1
  | 62 => 2
  | 63 => 2
  | 64 => 2
  | 65 => 2
  | 66 => 0
  | 67 => 0
  | 68 => 2
  | 69 => 0
  | 70 => 0
  | 71 => 2
  | 72 => 0
  | 73 => 0
  | 74 => 0
  | 75 => 1
  | 76 => 1
  | 77 => 1
  | 78 => 0
  | 79 => 1
  | 80 => 1
  | 82 => 1
  | 84 => 1
  | 85 => 2
  | 86 => 2
  | 87 => 2
  | 88 => 0
  | 89 => 0
  | 92 => 1
  | 93 => 1
  | 135 => 1
  | _ => 0
def lib (f : FuncId) : Option (List AVal → AHeap → Option (AVal × AHeap)) :=
  if f = 83 then some (extOf gRep) else if f = 81 then some (extOf gCount) else none
def A : AProg := ⟨SdFns.fn, lib, mode⟩
theorem A_sound (w0 : World) (B : Nat → Bool) : Sound Try.prog w0 B A := by
  refine ⟨Try.checked.mixed, SdFns.fn_is, fun f g h => ?_⟩
  change lib f = some g at h
  unfold lib at h
  split at h
  · rename_i hf; subst hf; injection h with h; subst h; exact lib_sound (xRep).1 (xRep).2 w0 B
  split at h
  · rename_i hf; subst hf; injection h with h; subst h; exact lib_sound (xCount).1 (xCount).2 w0 B
  cases h
theorem U75 (w : Int) (H : AHeap) : AC A 75 [.int .i64 w] H = some (.bool (decide (1 ≤ w) && decide (w ≤ 8)), H) := by
  refine one_val (x := SdFns.c75) rfl rfl rfl rfl rfl ?_ H
  cases h : decide (1 ≤ w) <;> simp only [c75, h, rwA, rwB, Nat.reduceAdd, Nat.reduceMul, Nat.reduceLeDiff, Int.reduceEq, Int.reduceLT, Int.reduceLE, Int.reduceAdd, Int.reduceSub, Int.reduceMul, ↓reduceIte, Nat.reduceEqDiff, reduceCtorEq, ↓cnd_true, ↓cnd_false] <;> simp

/-! ### A number's bytes -/
def u64 (n : Nat) : AVal := .int .u64 (n : Int)
def encl (w n : Nat) : List UInt8 := (List.range w).map fun j => UInt8.ofNat (n / 256 ^ (w - 1 - j))
def num (w : Int) (n : Nat) : List UInt8 := if 1 ≤ w ∧ w ≤ 8 then encl w.toNat n else []
theorem encl_len (w n : Nat) : (encl w n).length = w := by simp [encl]
theorem encl_get (w n j : Nat) (h : j < w) : (encl w n)[j]? = some (UInt8.ofNat (n / 256 ^ (w - 1 - j))) := by simp [encl, h]

theorem w_8 (n : Nat) : AVal.int .u8 (IntKind.u8.wrap (n : Int)) = by8 (UInt8.ofNat n) := by
  simp only [by8]
  congr 1
theorem c_8 (c : UInt8) : AVal.cells (by8 c) = [by8 c] := hid rfl
theorem t_8 (c : UInt8) : AVal.tup (by8 c) = false := hid rfl
theorem shr_u64 (n i : Nat) (hi : i ≤ 7) (w : Int) (hw : w = ((8 * i : Nat) : Int)) : abin .shr (.int .u64 (n : Int)) (.int .i64 w) = some (.int .u64 ((n / 256 ^ i : Nat) : Int)) := by
  subst hw
  simp only [abin, ashift]
  rw [if_neg (by omega)]
  simp only [IntKind.bits, Int.toNat_natCast, Nat.min_eq_left (show 8 * i ≤ 64 by omega)]
  congr 2
  rw [Int.fdiv_eq_ediv_of_nonneg _ (by exact Int.le_of_lt (by exact_mod_cast Nat.pow_pos (n := 8 * i) (show 0 < 2 by decide)))]
  have h : (2 : Int) ^ (8 * i) = ((2 ^ (8 * i) : Nat) : Int) := by norm_cast
  rw [h, Nat.pow_mul, ← Int.natCast_ediv]

def b45 : ACode := (.seq (.region [⟨(some 12), (.bin .lss (.tmp 11) (.tmp 10)), none, none⟩]) (.seq (.cond (.tmp 12) .skip (.exit 0)) (.seq (.block 1 (.seq (.region [⟨(some 13), (.mv (.tmp 11)), none, none⟩, ⟨(some 6), (.mv (.tmp 13)), none, none⟩]) (.region [⟨(some 14), (.mv (.tmp 0)), none, none⟩, ⟨(some 15), (.bin .sub (.tmp 14) (.con (.int .i64 1))), none, none⟩, ⟨(some 16), (.mv (.tmp 6)), none, none⟩, ⟨(some 17), (.bin .sub (.tmp 15) (.tmp 16)), none, none⟩, ⟨(some 18), (.mv (.tmp 1)), none, none⟩, ⟨(some 19), (.mv (.tmp 6)), none, none⟩, ⟨(some 20), (.bin .mul (.con (.int .i64 8)) (.tmp 19)), none, none⟩, ⟨(some 21), (.bin .shr (.tmp 18) (.tmp 20)), none, none⟩, ⟨(some 22), (.toInt .u8 (.tmp 21)), none, none⟩, ⟨(some 23), (.idxAArr 8 1 (.tmp 5) (.tmp 17)), none, none⟩, ⟨none, (.store 1 (.tmp 23) (.tmp 22)), none, none⟩]))) (.region [⟨(some 24), (.bin .add (.tmp 11) (.con (.int .i64 1))), none, none⟩, ⟨(some 11), (.mv (.tmp 24)), none, none⟩]))))

theorem loop45 {w n : Nat} (hw : 1 ≤ w ∧ w ≤ 8) {env : Env} {H : AHeap} {q : Nat} {c : List AVal} (h0 : env 0 = .int .i64 (w : Int)) (h1 : env 1 = .int .u64 (n : Int)) (h5 : env 5 = .ptr q 0) (h10 : env 10 = .int .i64 (w : Int)) (h11 : env 11 = .int .i64 0) (ho : H.obj q = some (.cells c true)) (hc : c.length = 8) :
    Outs (AX A (.loop b45) env H) fun e env' H' => e = .exit 0 ∧ env' 0 = .int .i64 (w : Int) ∧ env' 5 = .ptr q 0 ∧ ∃ c, H'.obj q = some (.cells c true) ∧ c.length = 8 ∧ c.take w = (encl w n).map by8 := by
  refine loop_ends (I := fun (j : Nat) env' H' => j ≤ w ∧ env' 0 = .int .i64 (w : Int) ∧ env' 1 = .int .u64 (n : Int) ∧ env' 5 = .ptr q 0 ∧ env' 10 = .int .i64 (w : Int) ∧ env' 11 = .int .i64 (j : Int) ∧ ∃ c, H'.obj q = some (.cells c true) ∧ c.length = 8 ∧ ∀ k, k < j → c[w - 1 - k]? = some (by8 (UInt8.ofNat (n / 256 ^ k)))) (fun j => w - j) ?_ 0 env H
    ⟨Nat.zero_le _, h0, h1, h5, h10, h11, c, ho, hc, by intro k hk; omega⟩
  rintro j env' H' ⟨hj, h0, h1, h5, h10, h11, c, ho, hc, hk⟩
  by_cases hlt : j < w
  · have e1 : decide ((j : Int) < (w : Int)) = true := by simp; omega
    have w1 : IntKind.i64.wrap ((j : Int) + 1) = ((j + 1 : Nat) : Int) := by rw [wrap_i64]; omega
    have w2 : IntKind.i64.wrap ((w : Int) - 1) = ((w - 1 : Nat) : Int) := by rw [wrap_i64]; omega
    have w3 : IntKind.i64.wrap (((w - 1 : Nat) : Int) - (j : Int)) = ((w - 1 - j : Nat) : Int) := by rw [wrap_i64]; omega
    have w4 : IntKind.i64.wrap (8 * (j : Int)) = ((8 * j : Nat) : Int) := by rw [wrap_i64]; omega
    have ha : aidx 8 (.int .i64 ((w - 1 - j : Nat) : Int)) = some (w - 1 - j) := by simp only [aidx]; rw [if_pos ⟨by omega, by omega⟩]; rfl
    have st := store_one H' q (w - 1 - j) (by8 (UInt8.ofNat (n / 256 ^ j))) c (by omega)
    simp only [b45, h0, h1, h5, h10, h11, e1, w1, w2, w3, w4, ha, ho, shr_u64 n j (by omega) _ rfl, w_8, c_8, t_8, st, rwA, rwB, Nat.reduceAdd, Nat.reduceMul, Nat.reduceLeDiff, Int.reduceEq, Int.reduceLT, Int.reduceLE, Int.reduceAdd, Int.reduceSub, Int.reduceMul, ↓reduceIte, Nat.reduceEqDiff, reduceCtorEq, ↓cnd_true, ↓cnd_false]
    rw [outs_some]
    refine .inl ⟨rfl, j + 1, by omega, by omega, by simp [Env.set, h0], by simp [Env.set, h1], by simp [Env.set, h5], by simp [Env.set, h10], by simp [Env.set], c.set (w - 1 - j) (by8 (UInt8.ofNat (n / 256 ^ j))), by simp [AHeap.set], by simp [hc], ?_⟩
    intro k hk'
    by_cases h : k = j
    · subst h
      rw [List.getElem?_set_self (by omega)]
    · rw [List.getElem?_set_ne (by omega)]
      exact hk k (by omega)
  · have e1 : decide ((j : Int) < (w : Int)) = false := by simp; omega
    have : j = w := by omega
    subst this
    simp only [b45, h10, h11, e1, rwA, rwB, Nat.reduceAdd, Nat.reduceMul, Nat.reduceLeDiff, Int.reduceEq, Int.reduceLT, Int.reduceLE, Int.reduceAdd, Int.reduceSub, Int.reduceMul, ↓reduceIte, Nat.reduceEqDiff, reduceCtorEq, ↓cnd_true, ↓cnd_false]
    rw [outs_some]
    refine .inr ⟨by simp, rfl, by simp [Env.set, h0], by simp [Env.set, h5], c, ho, hc, ?_⟩
    apply List.ext_getElem?
    intro i
    by_cases hi : i < j
    · rw [List.getElem?_take, if_pos hi, List.getElem?_map, encl_get _ _ _ hi]
      have := hk (j - 1 - i) (by omega)
      rw [show j - 1 - (j - 1 - i) = i by omega] at this
      exact this
    · rw [List.getElem?_eq_none (by rw [List.length_take]; omega), List.getElem?_eq_none (by rw [List.length_map, encl_len]; omega)]

theorem U45 (w : Int) (n : Nat) (H : AHeap) : AC A 45 [.int .i64 w, .int .u64 (n : Int)] H = some (.str (num w n), H) := by
  refine one_val (x := SdFns.c45) rfl rfl rfl rfl rfl ?_ H
  cases h1 : (decide (1 ≤ w) && decide (w ≤ 8))
  · have : num w n = [] := by
      simp only [num]
      rw [if_neg]
      simpa using h1
    simp only [c45, U75, h1, this, rwA, rwB, Nat.reduceAdd, Nat.reduceMul, Nat.reduceLeDiff, Int.reduceEq, Int.reduceLT, Int.reduceLE, Int.reduceAdd, Int.reduceSub, Int.reduceMul, ↓reduceIte, Nat.reduceEqDiff, reduceCtorEq, ↓cnd_true, ↓cnd_false]
  · have hw : 1 ≤ w ∧ w ≤ 8 := by simpa using h1
    obtain ⟨k, rfl⟩ : ∃ k : Nat, w = (k : Int) := ⟨w.toNat, by omega⟩
    have e : num (k : Int) n = encl k n := by
      simp only [num]
      rw [if_pos hw, Int.toNat_natCast]
    simp only [c45, U75, h1, rwA, rwB, Nat.reduceAdd, Nat.reduceMul, Nat.reduceLeDiff, Int.reduceEq, Int.reduceLT, Int.reduceLE, Int.reduceAdd, Int.reduceSub, Int.reduceMul, ↓reduceIte, Nat.reduceEqDiff, reduceCtorEq, ↓cnd_true, ↓cnd_false]
    repeat (first | refine outs_seq ?_ | refine outs_block ?_ | refine outs_step ?_ | refine outs_stepD ?_ | refine rets_end ?_ | refine ans_end ?_)
    refine (loop45 (w := k) (n := n) (q := 0) (c := [by8 0, by8 0, by8 0, by8 0, by8 0, by8 0, by8 0, by8 0]) (by omega) ?_ ?_ ?_ ?_ ?_ ?_ rfl).mono ?_
    · simp [Env.set, ainit]
    · simp [Env.set, ainit]
    · simp [Env.set]
    · simp [Env.set, ainit]
    · simp [Env.set]
    · simp only [new_obj, noH_next, if_true]; rfl
    · rintro e' env H ⟨rfl, h0, h5, c, ho, hc, ht⟩
      have sl : aslcArr 8 1 (.ptr 0 0) none (some (.int .i64 (k : Int))) none = some (.slice 0 0 k 8 none) := by
        simp only [aslcArr, abounds, abound, Option.bind_some, Option.isSome_none, Bool.false_eq_true, if_false]
        rw [if_pos ⟨by omega, by omega⟩]
        simp
      have hb := bToS_sl (H := H) (v := .slice 0 0 k 8 none) (s := encl k n) (.inr ⟨0, 0, k, 8, none, rfl, by simp [encl_len], .inr ⟨c, true, ho, by omega, by rw [List.drop_zero, Nat.mul_one, ht]⟩⟩)
      simp only [outs_some, h0, h5, sl, hb, e, rwA, rwB, Nat.reduceAdd, Nat.reduceMul, Nat.reduceLeDiff, Int.reduceEq, Int.reduceLT, Int.reduceLE, Int.reduceAdd, Int.reduceSub, Int.reduceMul, ↓reduceIte, Nat.reduceEqDiff, reduceCtorEq, ↓cnd_true, ↓cnd_false]

theorem wrap_u64 (n : Nat) (h : n < 18446744073709551616) : IntKind.u64.wrap (n : Int) = n := by
  simp [IntKind.wrap, IntKind.signed, IntKind.bits]
  omega
/-! ### A reader -/
def raw (s : List UInt8) (e n : Int) : List UInt8 × Int × List UInt8 :=
  if e ≠ 0 then (s, e, []) else if n < 0 then ([], 18, []) else if (s.length : Int) < n then ([], 20, []) else (s.drop n.toNat, 0, s.take n.toNat)

def Rd (H : AHeap) (p : Nat) (s : List UInt8) (e : Int) : Prop := H.obj p = some (.cells [.str s, .int .i64 e] true)
def rd (s : List UInt8) (e : Int) : AObj := .cells [.str s, .int .i64 e] true

theorem U50 (s : List UInt8) (H : AHeap) : AC A 50 [.str s] H = some (.ptr H.next 0, H.new (rd s 0)) := by
  rw [s_fn (A := A) (f := 50) (x := SdFns.c50) rfl rfl rfl]
  simp only [c50, rwA, rwB, Nat.reduceAdd, Nat.reduceMul, Nat.reduceLeDiff, Int.reduceEq, Int.reduceLT, Int.reduceLE, Int.reduceAdd, Int.reduceSub, Int.reduceMul, ↓reduceIte, Nat.reduceEqDiff, reduceCtorEq, ↓cnd_true, ↓cnd_false]
  rfl

theorem U78 {H : AHeap} {p : Nat} {s : List UInt8} {e : Int} (h : Rd H p s e) (n : Int) : AC A 78 [.ptr p 0, .int .i64 n] H = some (.str [], H.set p (rd [] n)) := by
  unfold Rd at h
  rw [s_fn (A := A) (f := 78) (x := SdFns.c78) rfl rfl rfl]
  simp only [c78, h, AHeap.set_set, rwA, rwB, Nat.reduceAdd, Nat.reduceMul, Nat.reduceLeDiff, Int.reduceEq, Int.reduceLT, Int.reduceLE, Int.reduceAdd, Int.reduceSub, Int.reduceMul, ↓reduceIte, Nat.reduceEqDiff, reduceCtorEq, ↓cnd_true, ↓cnd_false]
  rfl

theorem slc_lo (s : List UInt8) (n : Int) (h0 : 0 ≤ n) (h1 : n ≤ s.length) : abounds s.length s.length (some (.int .i64 n)) none none = some (n.toNat, s.length, s.length) := by
  simp only [abounds, abound, Option.bind_some, Option.isSome_none, Bool.false_eq_true, if_false]
  rw [if_pos ⟨h0, by omega⟩]
  simp
theorem slc_hi (s : List UInt8) (n : Int) (h0 : 0 ≤ n) (h1 : n ≤ s.length) : abounds s.length s.length none (some (.int .i64 n)) none = some (0, n.toNat, s.length) := by
  simp only [abounds, abound, Option.bind_some, Option.isSome_none, Bool.false_eq_true, if_false]
  rw [if_pos ⟨h0, by omega⟩]
  simp

theorem U52 {H : AHeap} {p : Nat} {s : List UInt8} {e : Int} (h : Rd H p s e) (n : Int) : AC A 52 [.ptr p 0, .int .i64 n] H = some (.str (raw s e n).2.2, H.set p (rd (raw s e n).1 (raw s e n).2.1)) := by
  have h' := h
  unfold Rd at h'
  rw [s_fn (A := A) (f := 52) (x := SdFns.c52) rfl rfl rfl]
  unfold raw
  cases c1 : decide (e = 0)
  · have hne : e ≠ 0 := by simpa using c1
    rw [if_pos hne]
    have hs : H.set p (rd s e) = H := AHeap.set_same h'
    simp only [c52, h', c1, hs, rwA, rwB, Nat.reduceAdd, Nat.reduceMul, Nat.reduceLeDiff, Int.reduceEq, Int.reduceLT, Int.reduceLE, Int.reduceAdd, Int.reduceSub, Int.reduceMul, ↓reduceIte, Nat.reduceEqDiff, reduceCtorEq, ↓cnd_true, ↓cnd_false]
  · have he : e = 0 := by simpa using c1
    subst he
    rw [if_neg (by simp)]
    cases c2 : decide (n < 0)
    · have hn : ¬ n < 0 := by simpa using c2
      rw [if_neg hn]
      cases c3 : decide ((s.length : Int) < n)
      · have hl : ¬ (s.length : Int) < n := by simpa using c3
        rw [if_neg hl]
        simp only [c52, h', c2, c3, slc_lo s n (by omega) (by omega), slc_hi s n (by omega) (by omega), List.take_length, rwA, rwB, Nat.reduceAdd, Nat.reduceMul, Nat.reduceLeDiff, Int.reduceEq, Int.reduceLT, Int.reduceLE, Int.reduceAdd, Int.reduceSub, Int.reduceMul, ↓reduceIte, Nat.reduceEqDiff, reduceCtorEq, ↓cnd_true, ↓cnd_false]
        rfl
      · have hl : (s.length : Int) < n := by simpa using c3
        rw [if_pos hl]
        simp only [c52, h', c2, c3, U78 h, rwA, rwB, Nat.reduceAdd, Nat.reduceMul, Nat.reduceLeDiff, Int.reduceEq, Int.reduceLT, Int.reduceLE, Int.reduceAdd, Int.reduceSub, Int.reduceMul, ↓reduceIte, Nat.reduceEqDiff, reduceCtorEq, ↓cnd_true, ↓cnd_false]
    · have hn : n < 0 := by simpa using c2
      rw [if_pos hn]
      simp only [c52, h', c2, U78 h, rwA, rwB, Nat.reduceAdd, Nat.reduceMul, Nat.reduceLeDiff, Int.reduceEq, Int.reduceLT, Int.reduceLE, Int.reduceAdd, Int.reduceSub, Int.reduceMul, ↓reduceIte, Nat.reduceEqDiff, reduceCtorEq, ↓cnd_true, ↓cnd_false]

end Go.Proofs.Ytfmjdlahabgkpaa.Sd
end

section
/- The readers of the octets' chapter: numbers and texts read; the law of the readers. -/
set_option maxRecDepth 100000
set_option linter.unusedSimpArgs false
set_option linter.unusedVariables false
set_option maxHeartbeats 2000000
namespace Go.Proofs.Ytfmjdlahabgkpaa.Sd
open Go Go.Proofs.Ytfmjdlahabgkpaa.Am SdFns Go.RowKit

def be (s : List UInt8) : Nat := s.foldl (fun n c => n * 256 + c.toNat) 0

theorem be_lt_from : ∀ (s : List UInt8) (n : Nat), s.foldl (fun n c => n * 256 + c.toNat) n < (n + 1) * 256 ^ s.length
  | [], n => by simp
  | c :: s, n => by
    simp only [List.foldl_cons, List.length_cons]
    have h := be_lt_from s (n * 256 + c.toNat)
    have hc := c.toNat_lt
    have h2 : (n * 256 + c.toNat + 1) * 256 ^ s.length ≤ ((n + 1) * 256) * 256 ^ s.length := Nat.mul_le_mul_right _ (by omega)
    rw [Nat.pow_succ, Nat.mul_comm (256 ^ s.length), ← Nat.mul_assoc]
    omega
theorem be_lt (s : List UInt8) : be s < 256 ^ s.length := by
  have := be_lt_from s 0
  simpa [be] using this
theorem be_lt2 (s : List UInt8) (h : s.length ≤ 2) : be s < 65536 :=
  Nat.lt_of_lt_of_le (be_lt s) (Nat.le_trans (Nat.pow_le_pow_right (by decide) h) (by decide))
theorem be_snoc (s : List UInt8) (c : UInt8) : be (s ++ [c]) = be s * 256 + c.toNat := by simp [be, List.foldl_append]

theorem shl_u64 (n : Nat) (h : n * 256 < 18446744073709551616) : abin .shl (.int .u64 (n : Int)) (.int .u64 8) = some (.int .u64 ((n * 256 : Nat) : Int)) := by
  simp only [abin, ashift]
  rw [if_neg (by decide)]
  simp only [show min (Int.toNat 8) IntKind.u64.bits = 8 from rfl]
  have e : (n : Int) * 2 ^ 8 = ((n * 256 : Nat) : Int) := by
    rw [show ((2 : Int) ^ 8) = 256 from rfl]
    omega
  rw [e, wrap_u64 _ h]
theorem or_u64 (n : Nat) (c : UInt8) (h : n * 256 < 18446744073709551616) : abin .or (.int .u64 ((n * 256 : Nat) : Int)) (.int .u64 (c.toNat : Int)) = some (.int .u64 ((n * 256 + c.toNat : Nat) : Int)) := by
  have hc := c.toNat_lt
  have e0 : abin .or (.int .u64 ((n * 256 : Nat) : Int)) (.int .u64 (c.toNat : Int)) = some (.int .u64 (IntKind.u64.wrap ((BitVec.ofInt 64 ((n * 256 : Nat) : Int) ||| BitVec.ofInt 64 (c.toNat : Int)).toNat : Int))) := by
    rw [b_int .or _ _ _ (by decide) (by decide)]; rfl
  have e1 : ∀ m : Nat, BitVec.ofInt 64 (m : Int) = BitVec.ofNat 64 m := fun m => by simp
  have e2 : (BitVec.ofNat 64 (n * 256) ||| BitVec.ofNat 64 c.toNat).toNat = n * 256 + c.toNat := by
    rw [BitVec.toNat_or, BitVec.toNat_ofNat, BitVec.toNat_ofNat, Nat.mod_eq_of_lt (by omega), Nat.mod_eq_of_lt (by omega)]
    rw [Nat.mul_comm, show 256 = 2 ^ 8 from rfl]
    exact (Nat.two_pow_add_eq_or_of_lt (i := 8) hc n).symm
  rw [e0, e1, e1, e2, wrap_u64 _ (by omega)]
theorem wrap_c (c : UInt8) : IntKind.u64.wrap (c.toNat : Int) = (c.toNat : Int) := wrap_u64 _ (by have := c.toNat_lt; omega)

def wid (w : Int) : Int := if 1 ≤ w ∧ w ≤ 8 then w else -1
theorem raw_len (s : List UInt8) (e w : Int) : (raw s e (wid w)).2.2.length ≤ 8 := by
  unfold raw wid
  split
  · simp
  · split
    · split
      · simp
      · split
        · simp
        · rw [List.length_take]; omega
    · simp

def b51 : ACode := (.seq (.region [⟨(some 17), (.bin .lss (.tmp 16) (.tmp 15)), none, none⟩]) (.seq (.cond (.tmp 17) .skip (.exit 0)) (.seq (.block 1 (.seq (.region [⟨(some 18), (.idxASl 1 (.tmp 14) (.tmp 16)), none, none⟩, ⟨(some 19), (.load false 1 (.tmp 18)), none, none⟩, ⟨(some 7), (.mv (.tmp 19)), none, none⟩]) (.region [⟨(some 20), (.mv (.tmp 5)), none, none⟩, ⟨(some 21), (.bin .shl (.tmp 20) (.con (.int .u64 8))), none, none⟩, ⟨(some 22), (.mv (.tmp 7)), none, none⟩, ⟨(some 23), (.toInt .u64 (.tmp 22)), none, none⟩, ⟨(some 24), (.bin .or (.tmp 21) (.tmp 23)), none, none⟩, ⟨(some 5), (.mv (.tmp 24)), none, none⟩]))) (.region [⟨(some 25), (.bin .add (.tmp 16) (.con (.int .i64 1))), none, none⟩, ⟨(some 16), (.mv (.tmp 25)), none, none⟩]))))

theorem loop51 {s : List UInt8} (hs : s.length ≤ 8) {env : Env} {H : AHeap} {q : Nat} (h5 : env 5 = .int .u64 0) (h14 : env 14 = .slice q 0 s.length s.length (some 1)) (h15 : env 15 = .int .i64 (s.length : Int)) (h16 : env 16 = .int .i64 0) (ho : H.obj q = some (.cells (s.map by8) true)) :
    Outs (AX A (.loop b51) env H) fun e env' H' => e = .exit 0 ∧ H' = H ∧ env' 5 = .int .u64 (be s : Int) := by
  refine loop_ends (I := fun (j : Nat) env' H' => j ≤ s.length ∧ H' = H ∧ env' 5 = .int .u64 (be (s.take j) : Int) ∧ env' 14 = .slice q 0 s.length s.length (some 1) ∧ env' 15 = .int .i64 (s.length : Int) ∧ env' 16 = .int .i64 (j : Int)) (fun j => s.length - j) ?_ 0 env H ⟨Nat.zero_le _, rfl, h5, h14, h15, h16⟩
  rintro j env' _ ⟨hj, rfl, h5, h14, h15, h16⟩
  by_cases hlt : j < s.length
  · have e1 : decide ((j : Int) < (s.length : Int)) = true := by simp; omega
    have w1 : IntKind.i64.wrap ((j : Int) + 1) = ((j + 1 : Nat) : Int) := by rw [wrap_i64]; omega
    have ha : aidx s.length (.int .i64 (j : Int)) = some j := by simp [aidx]; omega
    have hg : (s.map by8)[j]? = some (.int .u8 (s[j].toNat : Int)) := by simp [hlt, by8]
    have hb : be (s.take j) * 256 < 18446744073709551616 := by
      have h1 := be_lt (s.take j)
      rw [List.length_take, Nat.min_eq_left hj] at h1
      have h2 : 256 ^ j ≤ 256 ^ 7 := Nat.pow_le_pow_right (by decide) (by omega)
      have h3 : (256 : Nat) ^ 7 * 256 = 18446744073709551616 := by decide
      omega
    simp only [b51, h5, h14, h15, h16, e1, w1, ha, ho, hg, shl_u64 _ hb, or_u64 _ _ hb, wrap_c, rwA, rwB, Nat.reduceAdd, Nat.reduceMul, Nat.reduceLeDiff, Int.reduceEq, Int.reduceLT, Int.reduceLE, Int.reduceAdd, Int.reduceSub, Int.reduceMul, ↓reduceIte, Nat.reduceEqDiff, reduceCtorEq, ↓cnd_true, ↓cnd_false]
    rw [outs_some]
    refine .inl ⟨rfl, j + 1, by omega, by omega, rfl, ?_, by simp [Env.set, h14], by simp [Env.set, h15], by simp [Env.set]⟩
    rw [List.take_add_one, List.getElem?_eq_getElem hlt, Option.toList_some, be_snoc]
    simp only [set_get, Nat.reduceEqDiff, reduceIte]
  · have e1 : decide ((j : Int) < (s.length : Int)) = false := by simp; omega
    simp only [b51, h15, h16, e1, rwA, rwB, Nat.reduceAdd, Nat.reduceMul, Nat.reduceLeDiff, Int.reduceEq, Int.reduceLT, Int.reduceLE, Int.reduceAdd, Int.reduceSub, Int.reduceMul, ↓reduceIte, Nat.reduceEqDiff, reduceCtorEq, ↓cnd_true, ↓cnd_false]
    rw [outs_some]
    rw [List.take_of_length_le (by omega)] at h5
    exact .inr ⟨by simp, rfl, rfl, by simp [Env.set, h5]⟩

theorem U51 {H : AHeap} {p : Nat} {s : List UInt8} {e : Int} (h : Rd H p s e) (w : Int) :
    AC A 51 [.ptr p 0, .int .i64 w] H = some (.int .u64 (be (raw s e (wid w)).2.2 : Int), (H.set p (rd (raw s e (wid w)).1 (raw s e (wid w)).2.1)).new (.cells ((raw s e (wid w)).2.2.map by8) true)) := by
  have hl := raw_len s e w
  have key : Rets (AC A 51 [.ptr p 0, .int .i64 w] H) fun v K => v = .int .u64 (be (raw s e (wid w)).2.2 : Int) ∧ K = (H.set p (rd (raw s e (wid w)).1 (raw s e (wid w)).2.1)).new (.cells ((raw s e (wid w)).2.2.map by8) true) := by
    rw [s_fn (A := A) (f := 51) (x := SdFns.c51) rfl rfl rfl]
    cases c1 : (decide (1 ≤ w) && decide (w ≤ 8))
    · have hw : wid w = -1 := by
        unfold wid
        rw [if_neg]
        simpa using c1
      rw [hw] at hl ⊢
      simp only [c51, U75, c1, U52 h, by8_fun, rwA, rwB, Nat.reduceAdd, Nat.reduceMul, Nat.reduceLeDiff, Int.reduceEq, Int.reduceLT, Int.reduceLE, Int.reduceAdd, Int.reduceSub, Int.reduceMul, ↓reduceIte, Nat.reduceEqDiff, reduceCtorEq, ↓cnd_true, ↓cnd_false]
      repeat (first | refine outs_seq ?_ | refine outs_block ?_ | refine outs_step ?_ | refine outs_stepD ?_ | refine rets_end ?_ | refine ans_end ?_)
      refine (loop51 hl (q := H.next) ?_ ?_ ?_ ?_ ?_).mono ?_
      · simp [Env.set]
      · simp [Env.set, set_next]
      · simp [Env.set]
      · simp [Env.set]
      · simp [AHeap.new, set_next]
      · rintro e' env K ⟨rfl, rfl, h5⟩
        simp only [outs_some, h5, rwA, rwB, Nat.reduceAdd, Nat.reduceMul, Nat.reduceLeDiff, Int.reduceEq, Int.reduceLT, Int.reduceLE, Int.reduceAdd, Int.reduceSub, Int.reduceMul, ↓reduceIte, Nat.reduceEqDiff, reduceCtorEq, ↓cnd_true, ↓cnd_false]
        rw [rets_some]
        exact ⟨rfl, rfl⟩
    · have hw : wid w = w := by
        unfold wid
        rw [if_pos]
        simpa using c1
      rw [hw] at hl ⊢
      simp only [c51, U75, c1, U52 h, by8_fun, rwA, rwB, Nat.reduceAdd, Nat.reduceMul, Nat.reduceLeDiff, Int.reduceEq, Int.reduceLT, Int.reduceLE, Int.reduceAdd, Int.reduceSub, Int.reduceMul, ↓reduceIte, Nat.reduceEqDiff, reduceCtorEq, ↓cnd_true, ↓cnd_false]
      repeat (first | refine outs_seq ?_ | refine outs_block ?_ | refine outs_step ?_ | refine outs_stepD ?_ | refine rets_end ?_ | refine ans_end ?_)
      refine (loop51 hl (q := H.next) ?_ ?_ ?_ ?_ ?_).mono ?_
      · simp [Env.set]
      · simp [Env.set, set_next]
      · simp [Env.set]
      · simp [Env.set]
      · simp [AHeap.new, set_next]
      · rintro e' env K ⟨rfl, rfl, h5⟩
        simp only [outs_some, h5, rwA, rwB, Nat.reduceAdd, Nat.reduceMul, Nat.reduceLeDiff, Int.reduceEq, Int.reduceLT, Int.reduceLE, Int.reduceAdd, Int.reduceSub, Int.reduceMul, ↓reduceIte, Nat.reduceEqDiff, reduceCtorEq, ↓cnd_true, ↓cnd_false]
        rw [rets_some]
        exact ⟨rfl, rfl⟩
  obtain ⟨v, K, h1, rfl, rfl⟩ := key
  exact h1

def text (s : List UInt8) (e most : Int) : List UInt8 × Int × List UInt8 :=
  if (raw s e 2).2.1 = 0 ∧ most < (be (raw s e 2).2.2 : Int) then ([], 11, []) else raw (raw s e 2).1 (raw s e 2).2.1 (be (raw s e 2).2.2)

theorem U79 (e : Int) (H : AHeap) : AC A 79 [.int .i64 e] H = some (.agg [.str [], .int .i64 e], H) := by
  refine one_val (x := SdFns.c79) rfl rfl rfl rfl rfl ?_ H
  simp only [c79, rwA, rwB, Nat.reduceAdd, Nat.reduceMul, Nat.reduceLeDiff, Int.reduceEq, Int.reduceLT, Int.reduceLE, Int.reduceAdd, Int.reduceSub, Int.reduceMul, ↓reduceIte, Nat.reduceEqDiff, reduceCtorEq, ↓cnd_true, ↓cnd_false]

theorem U80 (s : List UInt8) (e : Int) (n : Int) (H : AHeap) : AC A 80 [.agg [.str s, .int .i64 e], .int .i64 n] H = some (.tuple [.agg [.str (raw s e n).1, .int .i64 (raw s e n).2.1], .str (raw s e n).2.2], H) := by
  refine one_val (x := SdFns.c80) rfl rfl rfl rfl rfl ?_ H
  unfold raw
  cases c1 : decide (e = 0)
  · have hne : e ≠ 0 := by simpa using c1
    rw [if_pos hne]
    simp only [c80, c1, rwA, rwB, Nat.reduceAdd, Nat.reduceMul, Nat.reduceLeDiff, Int.reduceEq, Int.reduceLT, Int.reduceLE, Int.reduceAdd, Int.reduceSub, Int.reduceMul, ↓reduceIte, Nat.reduceEqDiff, reduceCtorEq, ↓cnd_true, ↓cnd_false]
  · have he : e = 0 := by simpa using c1
    subst he
    rw [if_neg (by simp)]
    cases c2 : decide (n < 0)
    · have hn : ¬ n < 0 := by simpa using c2
      rw [if_neg hn]
      cases c3 : decide ((s.length : Int) < n)
      · have hl : ¬ (s.length : Int) < n := by simpa using c3
        rw [if_neg hl]
        simp only [c80, c2, c3, slc_lo s n (by omega) (by omega), slc_hi s n (by omega) (by omega), List.take_length, rwA, rwB, Nat.reduceAdd, Nat.reduceMul, Nat.reduceLeDiff, Int.reduceEq, Int.reduceLT, Int.reduceLE, Int.reduceAdd, Int.reduceSub, Int.reduceMul, ↓reduceIte, Nat.reduceEqDiff, reduceCtorEq, ↓cnd_true, ↓cnd_false]
      · have hl : (s.length : Int) < n := by simpa using c3
        rw [if_pos hl]
        simp only [c80, c2, c3, U79, rwA, rwB, Nat.reduceAdd, Nat.reduceMul, Nat.reduceLeDiff, Int.reduceEq, Int.reduceLT, Int.reduceLE, Int.reduceAdd, Int.reduceSub, Int.reduceMul, ↓reduceIte, Nat.reduceEqDiff, reduceCtorEq, ↓cnd_true, ↓cnd_false]
    · have hn : n < 0 := by simpa using c2
      rw [if_pos hn]
      simp only [c80, c2, U79, rwA, rwB, Nat.reduceAdd, Nat.reduceMul, Nat.reduceLeDiff, Int.reduceEq, Int.reduceLT, Int.reduceLE, Int.reduceAdd, Int.reduceSub, Int.reduceMul, ↓reduceIte, Nat.reduceEqDiff, reduceCtorEq, ↓cnd_true, ↓cnd_false]

def b53 : ACode := (.seq (.seq (.region [⟨(some 27), (.mv (.tmp 8)), none, none⟩, ⟨(some 28), (.mv (.tmp 6)), none, none⟩, ⟨(some 29), (.len true (.tmp 28)), none, none⟩, ⟨(some 30), (.bin .lss (.tmp 27) (.tmp 29)), none, none⟩]) (.cond (.tmp 30) .skip (.exit 0))) (.seq (.block 1 (.region [⟨(some 33), (.mv (.tmp 7)), none, none⟩, ⟨(some 34), (.bin .mul (.con (.int .u64 256)) (.tmp 33)), none, none⟩, ⟨(some 35), (.mv (.tmp 6)), none, none⟩, ⟨(some 36), (.mv (.tmp 8)), none, none⟩, ⟨(some 37), (.idxStr (.tmp 35) (.tmp 36)), none, none⟩, ⟨(some 38), (.toInt .u64 (.tmp 37)), none, none⟩, ⟨(some 39), (.bin .add (.tmp 34) (.tmp 38)), none, none⟩, ⟨(some 7), (.mv (.tmp 39)), none, none⟩])) (.region [⟨(some 31), (.mv (.tmp 8)), none, none⟩, ⟨(some 32), (.bin .add (.tmp 31) (.con (.int .i64 1))), none, none⟩, ⟨(some 8), (.mv (.tmp 32)), none, none⟩])))

theorem loop53 {s : List UInt8} (hs : s.length ≤ 8) {env : Env} {H : AHeap} (h6 : env 6 = .str s) (h7 : env 7 = .int .u64 0) (h8 : env 8 = .int .i64 0) :
    Outs (AX A (.loop b53) env H) fun e env' H' => e = .exit 0 ∧ H' = H ∧ env' 2 = env 2 ∧ env' 4 = env 4 ∧ env' 7 = .int .u64 (be s : Int) := by
  refine loop_ends (I := fun (j : Nat) env' H' => j ≤ s.length ∧ H' = H ∧ env' 2 = env 2 ∧ env' 4 = env 4 ∧ env' 6 = .str s ∧ env' 7 = .int .u64 (be (s.take j) : Int) ∧ env' 8 = .int .i64 (j : Int)) (fun j => s.length - j) ?_ 0 env H ⟨Nat.zero_le _, rfl, rfl, rfl, h6, h7, h8⟩
  rintro j env' _ ⟨hj, rfl, h2, h4, h6, h7, h8⟩
  by_cases hlt : j < s.length
  · have e1 : decide ((j : Int) < (s.length : Int)) = true := by simp; omega
    have w1 : IntKind.i64.wrap ((j : Int) + 1) = ((j + 1 : Nat) : Int) := by rw [wrap_i64]; omega
    have ha : aidx s.length (.int .i64 (j : Int)) = some j := by simp [aidx]; omega
    have hg : s[j]? = some s[j] := List.getElem?_eq_getElem hlt
    have hc := s[j].toNat_lt
    have hb : be (s.take j) * 256 < 18446744073709551616 := by
      have h1 := be_lt (s.take j)
      rw [List.length_take, Nat.min_eq_left hj] at h1
      have h2 : 256 ^ j ≤ 256 ^ 7 := Nat.pow_le_pow_right (by decide) (by omega)
      have h3 : (256 : Nat) ^ 7 * 256 = 18446744073709551616 := by decide
      omega
    have hb2 : be (s.take j) * 256 + s[j].toNat < 18446744073709551616 := by omega
    have w2 : IntKind.u64.wrap (256 * (be (s.take j) : Int)) = ((be (s.take j) * 256 : Nat) : Int) := by
      rw [show 256 * (be (s.take j) : Int) = ((be (s.take j) * 256 : Nat) : Int) by omega, wrap_u64 _ hb]
    have w3 : IntKind.u64.wrap (((be (s.take j) * 256 : Nat) : Int) + (s[j].toNat : Int)) = ((be (s.take j) * 256 + s[j].toNat : Nat) : Int) := by
      rw [show ((be (s.take j) * 256 : Nat) : Int) + (s[j].toNat : Int) = ((be (s.take j) * 256 + s[j].toNat : Nat) : Int) by omega, wrap_u64 _ hb2]
    simp only [b53, h6, h7, h8, e1, w1, ha, hg, w2, w3, wrap_c, rwA, rwB, Nat.reduceAdd, Nat.reduceMul, Nat.reduceLeDiff, Int.reduceEq, Int.reduceLT, Int.reduceLE, Int.reduceAdd, Int.reduceSub, Int.reduceMul, ↓reduceIte, Nat.reduceEqDiff, reduceCtorEq, ↓cnd_true, ↓cnd_false]
    rw [outs_some]
    refine .inl ⟨rfl, j + 1, by omega, by omega, rfl, by simp [Env.set, h2], by simp [Env.set, h4], by simp [Env.set, h6], ?_, by simp [Env.set]⟩
    rw [List.take_add_one, List.getElem?_eq_getElem hlt, Option.toList_some, be_snoc]
    simp only [set_get, Nat.reduceEqDiff, reduceIte]
  · have e1 : decide ((j : Int) < (s.length : Int)) = false := by simp; omega
    simp only [b53, h6, h8, e1, rwA, rwB, Nat.reduceAdd, Nat.reduceMul, Nat.reduceLeDiff, Int.reduceEq, Int.reduceLT, Int.reduceLE, Int.reduceAdd, Int.reduceSub, Int.reduceMul, ↓reduceIte, Nat.reduceEqDiff, reduceCtorEq, ↓cnd_true, ↓cnd_false]
    rw [outs_some]
    rw [List.take_of_length_le (by omega)] at h7
    exact .inr ⟨by simp, rfl, rfl, by simp [Env.set, h2], by simp [Env.set, h4], by simp [Env.set, h7]⟩

theorem U53 (s : List UInt8) (e : Int) (w : Int) (H : AHeap) : AC A 53 [.agg [.str s, .int .i64 e], .int .i64 w] H = some (.tuple [.agg [.str (raw s e (wid w)).1, .int .i64 (raw s e (wid w)).2.1], .int .u64 (be (raw s e (wid w)).2.2 : Int)], H) := by
  refine one_val (x := SdFns.c53) rfl rfl rfl rfl rfl ?_ H
  have hl := raw_len s e w
  by_cases hok : e ≠ 0 ∨ (1 ≤ w ∧ w ≤ 8)
  · have hraw : raw s e w = raw s e (wid w) := by
      rcases hok with he | hw
      · unfold raw
        rw [if_pos he, if_pos he]
      · unfold wid
        rw [if_pos hw]
    have u37 := U80 s e w
    rw [hraw] at u37
    cases c1 : decide (e = 0)
    · simp only [c53, c1, u37, rwA, rwB, Nat.reduceAdd, Nat.reduceMul, Nat.reduceLeDiff, Int.reduceEq, Int.reduceLT, Int.reduceLE, Int.reduceAdd, Int.reduceSub, Int.reduceMul, ↓reduceIte, Nat.reduceEqDiff, reduceCtorEq, ↓cnd_true, ↓cnd_false]
      repeat (first | refine outs_seq ?_ | refine outs_block ?_ | refine outs_step ?_ | refine outs_stepD ?_ | refine rets_end ?_ | refine ans_end ?_)
      refine (loop53 hl ?_ ?_ ?_).mono ?_
      · simp [Env.set]
      · simp [Env.set]
      · simp [Env.set]
      · rintro e' env K ⟨rfl, rfl, h2, h4, h7⟩
        simp only [outs_some, h2, h4, h7, rwA, rwB, Nat.reduceAdd, Nat.reduceMul, Nat.reduceLeDiff, Int.reduceEq, Int.reduceLT, Int.reduceLE, Int.reduceAdd, Int.reduceSub, Int.reduceMul, ↓reduceIte, Nat.reduceEqDiff, reduceCtorEq, ↓cnd_true, ↓cnd_false]
    · have he : e = 0 := by simpa using c1
      have hw : 1 ≤ w ∧ w ≤ 8 := by rcases hok with h | h; exact absurd he h; exact h
      have c2 : decide (w < 1) = false := by simp; omega
      have c3 : decide (8 < w) = false := by simp; omega
      simp only [c53, c1, c2, c3, u37, rwA, rwB, Nat.reduceAdd, Nat.reduceMul, Nat.reduceLeDiff, Int.reduceEq, Int.reduceLT, Int.reduceLE, Int.reduceAdd, Int.reduceSub, Int.reduceMul, ↓reduceIte, Nat.reduceEqDiff, reduceCtorEq, ↓cnd_true, ↓cnd_false]
      repeat (first | refine outs_seq ?_ | refine outs_block ?_ | refine outs_step ?_ | refine outs_stepD ?_ | refine rets_end ?_ | refine ans_end ?_)
      refine (loop53 hl ?_ ?_ ?_).mono ?_
      · simp [Env.set]
      · simp [Env.set]
      · simp [Env.set]
      · rintro e' env K ⟨rfl, rfl, h2, h4, h7⟩
        simp only [outs_some, h2, h4, h7, rwA, rwB, Nat.reduceAdd, Nat.reduceMul, Nat.reduceLeDiff, Int.reduceEq, Int.reduceLT, Int.reduceLE, Int.reduceAdd, Int.reduceSub, Int.reduceMul, ↓reduceIte, Nat.reduceEqDiff, reduceCtorEq, ↓cnd_true, ↓cnd_false]
  · have he : e = 0 := by omega
    subst he
    have hw : wid w = -1 := by
      unfold wid
      rw [if_neg (by omega)]
    have hraw : raw s 0 (wid w) = ([], 18, []) := by
      rw [hw]; unfold raw
      rw [if_neg (by simp), if_pos (by decide)]
    rw [hraw]
    cases c2 : decide (w < 1)
    · have c3 : decide (8 < w) = true := by simp at c2 ⊢; omega
      simp only [c53, c2, c3, U79, rwA, rwB, Nat.reduceAdd, Nat.reduceMul, Nat.reduceLeDiff, Int.reduceEq, Int.reduceLT, Int.reduceLE, Int.reduceAdd, Int.reduceSub, Int.reduceMul, ↓reduceIte, Nat.reduceEqDiff, reduceCtorEq, ↓cnd_true, ↓cnd_false]
      rfl
    · simp only [c53, c2, U79, rwA, rwB, Nat.reduceAdd, Nat.reduceMul, Nat.reduceLeDiff, Int.reduceEq, Int.reduceLT, Int.reduceLE, Int.reduceAdd, Int.reduceSub, Int.reduceMul, ↓reduceIte, Nat.reduceEqDiff, reduceCtorEq, ↓cnd_true, ↓cnd_false]
      rfl

end Go.Proofs.Ytfmjdlahabgkpaa.Sd
end

section
/- The writers of the octets' chapter, and the law of them. -/
set_option maxRecDepth 100000
set_option linter.unusedSimpArgs false
set_option linter.unusedVariables false
set_option maxHeartbeats 4000000
namespace Go.Proofs.Ytfmjdlahabgkpaa.Sd
open Go Go.Proofs.Ytfmjdlahabgkpaa.Am SdFns Go.RowKit

/-! ### The reference's number -/
theorem t_256 (m : Nat) : ((m : Nat) : Int).tmod 256 = ((m % 256 : Nat) : Int) := by rw [Int.tmod_eq_emod_of_nonneg (by omega)]; rfl
theorem q_256 (m : Nat) : ((m : Nat) : Int).tdiv 256 = ((m / 256 : Nat) : Int) := by rw [Int.tdiv_eq_ediv_of_nonneg (by omega)]; rfl
theorem by_256 (m : Nat) : by8 (UInt8.ofNat (m % 256)) = by8 (UInt8.ofNat m) := by
  simp only [by8, AVal.int.injEq, true_and]
  have a : (UInt8.ofNat (m % 256)).toNat = (UInt8.ofNat m).toNat := by simp
  rw [a]

def b48 : ACode := (.seq (.seq (.region [⟨(some 17), (.mv (.tmp 6)), none, none⟩, ⟨(some 18), (.bin .geq (.tmp 17) (.con (.int .i64 0))), none, none⟩]) (.cond (.tmp 18) .skip (.exit 0))) (.seq (.block 1 (.seq (.region [⟨(some 21), (.mv (.tmp 5)), none, none⟩, ⟨(some 22), (.mv (.tmp 6)), none, none⟩, ⟨(some 23), (.mv (.tmp 1)), none, none⟩, ⟨(some 24), (.bin .rem (.tmp 23) (.con (.int .u64 256))), none, none⟩, ⟨(some 25), (.toInt .u8 (.tmp 24)), none, none⟩, ⟨(some 26), (.idxASl 1 (.tmp 21) (.tmp 22)), none, none⟩, ⟨none, (.store 1 (.tmp 26) (.tmp 25)), none, none⟩]) (.region [⟨(some 27), (.mv (.tmp 1)), none, none⟩, ⟨(some 28), (.bin .quo (.tmp 27) (.con (.int .u64 256))), none, none⟩, ⟨(some 1), (.mv (.tmp 28)), none, none⟩]))) (.region [⟨(some 19), (.mv (.tmp 6)), none, none⟩, ⟨(some 20), (.bin .sub (.tmp 19) (.con (.int .i64 1))), none, none⟩, ⟨(some 6), (.mv (.tmp 20)), none, none⟩])))

theorem loop48 {w n : Nat} (hn : n < 18446744073709551616) {env : Env} {H : AHeap} {q : Nat} {c : List AVal} (h1 : env 1 = .int .u64 (n : Int)) (h5 : env 5 = .slice q 0 w w none) (h6 : env 6 = .int .i64 ((w : Int) - 1)) (ho : H.obj q = some (.cells c true)) (hc : c.length = w) (hw : w ≤ 8) :
    Outs (AX A (.loop b48) env H) fun e env' H' => e = .exit 0 ∧ env' 5 = .slice q 0 w w none ∧ H'.obj q = some (.cells ((encl w n).map by8) true) := by
  refine loop_ends (I := fun (j : Nat) env' H' => j ≤ w ∧ env' 1 = .int .u64 ((n / 256 ^ j : Nat) : Int) ∧ env' 5 = .slice q 0 w w none ∧ env' 6 = .int .i64 ((w : Int) - 1 - (j : Int)) ∧ ∃ c, H'.obj q = some (.cells c true) ∧ c.length = w ∧ ∀ k, k < j → c[w - 1 - k]? = some (by8 (UInt8.ofNat (n / 256 ^ k)))) (fun j => w - j) ?_ 0 env H
    ⟨Nat.zero_le _, by rw [h1, Nat.pow_zero, Nat.div_one], h5, by rw [h6]; simp, c, ho, hc, by intro k hk; omega⟩
  rintro j env' H' ⟨hj, h1, h5, h6, c, ho, hc, hk⟩
  by_cases hlt : j < w
  · have e1 : decide ((0 : Int) ≤ (w : Int) - 1 - (j : Int)) = true := by simp; omega
    have w1 : IntKind.i64.wrap ((w : Int) - 1 - (j : Int) - 1) = (w : Int) - 1 - ((j + 1 : Nat) : Int) := by rw [wrap_i64]; omega
    have hd : n / 256 ^ j ≤ n := Nat.div_le_self _ _
    have w2 : IntKind.u64.wrap ((n / 256 ^ j / 256 : Nat) : Int) = ((n / 256 ^ (j + 1) : Nat) : Int) := by
      rw [wrap_u64 _ (by omega), Nat.div_div_eq_div_mul, Nat.pow_succ]
    have ha : aidx w (.int .i64 ((w : Int) - 1 - (j : Int))) = some (w - 1 - j) := by simp only [aidx]; rw [if_pos ⟨by omega, by omega⟩]; congr 1; omega
    have st := store_one H' q (w - 1 - j) (by8 (UInt8.ofNat (n / 256 ^ j))) c (by omega)
    simp only [b48, h1, h5, h6, e1, w1, w2, ha, ho, t_256, q_256, w_8, by_256, c_8, t_8, st, rwA, rwB, Nat.reduceAdd, Nat.reduceMul, Nat.reduceLeDiff, Int.reduceEq, Int.reduceLT, Int.reduceLE, Int.reduceAdd, Int.reduceSub, Int.reduceMul, ↓reduceIte, Nat.reduceEqDiff, reduceCtorEq, ↓cnd_true, ↓cnd_false]
    rw [outs_some]
    refine .inl ⟨rfl, j + 1, by omega, by omega, by simp [Env.set], by simp [Env.set, h5], by simp [Env.set], c.set (w - 1 - j) (by8 (UInt8.ofNat (n / 256 ^ j))), by simp [AHeap.set], by simp [hc], ?_⟩
    intro k hk'
    by_cases h : k = j
    · subst h
      rw [List.getElem?_set_self (by omega)]
    · rw [List.getElem?_set_ne (by omega)]
      exact hk k (by omega)
  · have : j = w := by omega
    subst this
    have e1 : decide ((0 : Int) ≤ (j : Int) - 1 - (j : Int)) = false := by simp; omega
    simp only [b48, h6, e1, rwA, rwB, Nat.reduceAdd, Nat.reduceMul, Nat.reduceLeDiff, Int.reduceEq, Int.reduceLT, Int.reduceLE, Int.reduceAdd, Int.reduceSub, Int.reduceMul, ↓reduceIte, Nat.reduceEqDiff, reduceCtorEq, ↓cnd_true, ↓cnd_false]
    rw [outs_some]
    refine .inr ⟨by simp, rfl, by simp [Env.set, h5], ?_⟩
    rw [ho]
    congr 2
    apply List.ext_getElem?
    intro i
    by_cases hi : i < j
    · rw [List.getElem?_map, encl_get _ _ _ hi]
      have := hk (j - 1 - i) (by omega)
      rw [show j - 1 - (j - 1 - i) = i by omega] at this
      exact this
    · rw [List.getElem?_eq_none (by omega), List.getElem?_eq_none (by rw [List.length_map, encl_len]; omega)]

theorem arep_one (v : AVal) : ∀ n, arep [v] n = List.replicate n v
  | 0 => rfl
  | n + 1 => by simp [arep, arep_one v n, List.replicate_succ]

theorem mk8 (n : Nat) (hn : n ≤ 281474976710656) (H : AHeap) : amkS H 1 1 [.int .u8 0] (.int .i64 (n : Int)) (.int .i64 (n : Int)) = some (.slice H.next 0 n n none, H.new (.cells (List.replicate n (by8 0)) true)) := by
  simp only [amkS]
  rw [if_pos ⟨by omega, by omega, by omega, by omega, rfl⟩, Int.toNat_natCast, arep_one]
  rfl

theorem U48 (w : Int) (n : Nat) (hn : n < 18446744073709551616) (H : AHeap) : AC A 48 [.int .i64 w, .int .u64 (n : Int)] H = some (.str (num w n), H) := by
  refine one_val (x := SdFns.c48) rfl rfl rfl rfl rfl ?_ H
  by_cases hw : 1 ≤ w ∧ w ≤ 8
  · obtain ⟨k, rfl⟩ : ∃ k : Nat, w = (k : Int) := ⟨w.toNat, by omega⟩
    have e : num (k : Int) n = encl k n := by
      simp only [num]
      rw [if_pos hw, Int.toNat_natCast]
    have c1 : decide ((k : Int) < 1) = false := by simp; omega
    have c2 : decide ((8 : Int) < (k : Int)) = false := by simp; omega
    have w1 : IntKind.i64.wrap ((k : Int) - 1) = (k : Int) - 1 := by rw [wrap_i64]; omega
    simp only [c48, c1, c2, mk8 k (by omega), w1, e, rwA, rwB, Nat.reduceAdd, Nat.reduceMul, Nat.reduceLeDiff, Int.reduceEq, Int.reduceLT, Int.reduceLE, Int.reduceAdd, Int.reduceSub, Int.reduceMul, ↓reduceIte, Nat.reduceEqDiff, reduceCtorEq, ↓cnd_true, ↓cnd_false]
    repeat (first | refine outs_seq ?_ | refine outs_block ?_ | refine outs_step ?_ | refine outs_stepD ?_ | refine rets_end ?_ | refine ans_end ?_)
    refine (loop48 (w := k) (q := 0) (c := List.replicate k (by8 0)) hn ?_ ?_ ?_ ?_ ?_ (by omega)).mono ?_
    · simp [Env.set, ainit]
    · simp [Env.set]
    · simp [Env.set]
    · simp [AHeap.new, noH]
    · simp
    · rintro e' env H ⟨rfl, h5, ho⟩
      have hb := bToS_sl (H := H) (v := .slice 0 0 k k none) (s := encl k n) (.inr ⟨0, 0, k, k, none, rfl, by simp [encl_len], .inr ⟨_, true, ho, by simp [encl_len], by simp [encl_len, List.take_of_length_le]⟩⟩)
      simp only [outs_some, h5, hb, rwA, rwB, Nat.reduceAdd, Nat.reduceMul, Nat.reduceLeDiff, Int.reduceEq, Int.reduceLT, Int.reduceLE, Int.reduceAdd, Int.reduceSub, Int.reduceMul, ↓reduceIte, Nat.reduceEqDiff, reduceCtorEq, ↓cnd_true, ↓cnd_false]
  · have e : num w n = [] := by
      simp only [num]
      rw [if_neg hw]
    cases c1 : decide (w < 1)
    · have c2 : decide (8 < w) = true := by simp at c1 ⊢; omega
      simp only [c48, c1, c2, e, rwA, rwB, Nat.reduceAdd, Nat.reduceMul, Nat.reduceLeDiff, Int.reduceEq, Int.reduceLT, Int.reduceLE, Int.reduceAdd, Int.reduceSub, Int.reduceMul, ↓reduceIte, Nat.reduceEqDiff, reduceCtorEq, ↓cnd_true, ↓cnd_false]
    · simp only [c48, c1, e, rwA, rwB, Nat.reduceAdd, Nat.reduceMul, Nat.reduceLeDiff, Int.reduceEq, Int.reduceLT, Int.reduceLE, Int.reduceAdd, Int.reduceSub, Int.reduceMul, ↓reduceIte, Nat.reduceEqDiff, reduceCtorEq, ↓cnd_true, ↓cnd_false]

/-! ### A number read off eight bytes -/
def of (s : List UInt8) : Nat := if s.length = 8 then be s else 0
def off (s : List UInt8) : Nat := if s.length = 8 then 18446744073709551615 - be s else 0

/-! ### Padded -/
def pad (s : List UInt8) (m : Int) : List UInt8 := if 65536 < m ∨ m ≤ s.length then s else s ++ List.replicate (m.toNat - s.length) 0
theorem rep_one (n : Nat) : Lib.repeatL [0] n = List.replicate n 0 := by
  induction n with
  | zero => rfl
  | succ n ih => rw [Lib.repeatL, ih]; rfl

theorem U57 (s : List UInt8) (m : Int) (H : AHeap) : AC A 57 [.str s, .int .i64 m] H = some (.str (pad s m), H) := by
  refine one_val (x := SdFns.c57) rfl rfl rfl rfl rfl ?_ H
  unfold pad
  cases c1 : decide ((65536 : Int) < m)
  · have h1 : ¬ 65536 < m := by simpa using c1
    cases c2 : decide (m ≤ (s.length : Int))
    · have h2 : ¬ m ≤ (s.length : Int) := by simpa using c2
      rw [if_neg (by omega)]
      have w1 : IntKind.i64.wrap (m - (s.length : Int)) = ((m.toNat - s.length : Nat) : Int) := by rw [wrap_i64]; omega
      have u82 : ∀ H, AC A 83 [.str [0], .int .i64 ((m.toNat - s.length : Nat) : Int)] H = some (.str (List.replicate (m.toNat - s.length) 0), H) := fun H => by
        refine AC_ext_of (g := gRep) rfl ?_ H
        simp only [gRep]
        rw [if_pos ⟨by omega, by omega, by simp; omega⟩, Int.toNat_natCast, rep_one]
      simp only [c57, c1, c2, w1, u82, b_cat _ _ (show s.length + (List.replicate (m.toNat - s.length) (0 : UInt8)).length ≤ _ by rw [List.length_replicate]; omega), rwA, rwB, Nat.reduceAdd, Nat.reduceMul, Nat.reduceLeDiff, Int.reduceEq, Int.reduceLT, Int.reduceLE, Int.reduceAdd, Int.reduceSub, Int.reduceMul, ↓reduceIte, Nat.reduceEqDiff, reduceCtorEq, ↓cnd_true, ↓cnd_false]
    · have h2 : m ≤ (s.length : Int) := by simpa using c2
      rw [if_pos (.inr h2)]
      simp only [c57, c1, c2, rwA, rwB, Nat.reduceAdd, Nat.reduceMul, Nat.reduceLeDiff, Int.reduceEq, Int.reduceLT, Int.reduceLE, Int.reduceAdd, Int.reduceSub, Int.reduceMul, ↓reduceIte, Nat.reduceEqDiff, reduceCtorEq, ↓cnd_true, ↓cnd_false]
  · have h1 : 65536 < m := by simpa using c1
    rw [if_pos (.inl h1)]
    simp only [c57, c1, rwA, rwB, Nat.reduceAdd, Nat.reduceMul, Nat.reduceLeDiff, Int.reduceEq, Int.reduceLT, Int.reduceLE, Int.reduceAdd, Int.reduceSub, Int.reduceMul, ↓reduceIte, Nat.reduceEqDiff, reduceCtorEq, ↓cnd_true, ↓cnd_false]

theorem lput_app : ∀ (l a b : List AVal), l.length = a.length → lput (a ++ b) 0 l = l ++ b := by
  have key : ∀ (l a pre b : List AVal), l.length = a.length → lput (pre ++ (a ++ b)) pre.length l = pre ++ (l ++ b) := by
    intro l
    induction l with
    | nil => intro a pre b h; cases a with
      | nil => exact put_nil _ _
      | cons x a => simp at h
    | cons x l ih => intro a pre b h; cases a with
      | nil => simp at h
      | cons y a =>
        rw [put_cons]
        have e : (pre ++ (y :: a ++ b)).set pre.length x = (pre ++ [x]) ++ (a ++ b) := by simp
        rw [e]
        have := ih a (pre ++ [x]) b (by simpa using h)
        simp only [List.length_append, List.length_singleton] at this
        rw [this]; simp
  intro l a b h
  simpa using key l a [] b h
theorem copy_str (H : AHeap) (s : List UInt8) (m q : Nat) (hm : s.length ≤ m) (ho : H.obj q = some (.cells (List.replicate m (by8 0)) true)) :
    ∃ K, acopy H 1 (.slice q 0 m m none) (.str s) = some (.int .i64 (s.length : Int), K) ∧ K.obj q = some (.cells ((s ++ List.replicate (m - s.length) 0).map by8) true) := by
  simp only [acopy, alen, Option.bind_some, Nat.min_eq_left hm]
  have hc : acells H 1 s.length (.str s) = some (s.map by8) := by
    simp only [acells]
    rw [if_pos ⟨Nat.le_refl _, trivial⟩, List.take_of_length_le (Nat.le_refl _)]
    rfl
  simp only [hc, Option.bind_some]
  by_cases h0 : s.length = 0
  · have : s = [] := List.eq_nil_of_length_eq_zero h0
    subst this
    refine ⟨H, by simp, ?_⟩
    rw [ho]; simp
  · rw [if_neg h0]
    simp only [ho]
    rw [if_pos (by simp; omega)]
    refine ⟨_, rfl, ?_⟩
    have e : List.replicate m (by8 0) = List.replicate s.length (by8 0) ++ List.replicate (m - s.length) (by8 0) := by
      rw [List.replicate_append_replicate]; congr 1; omega
    simp only [AHeap.set, if_true]
    congr 2
    rw [e, lput_app _ _ _ (by simp)]
    simp

theorem U82 (s : List UInt8) (m : Int) (H : AHeap) : AC A 82 [.str s, .int .i64 m] H = some (.str (pad s m), H) := by
  refine one_val (x := SdFns.c82) rfl rfl rfl rfl rfl ?_ H
  unfold pad
  cases c1 : decide ((65536 : Int) < m)
  · have h1 : ¬ 65536 < m := by simpa using c1
    cases c2 : decide (m ≤ (s.length : Int))
    · have h2 : ¬ m ≤ (s.length : Int) := by simpa using c2
      rw [if_neg (by omega)]
      obtain ⟨k, rfl⟩ : ∃ k : Nat, m = (k : Int) := ⟨m.toNat, by omega⟩
      rw [Int.toNat_natCast]
      obtain ⟨K, cp, oK⟩ := copy_str (noH.new (.cells (List.replicate k (by8 0)) true)) s k 0 (by omega) (by simp [AHeap.new, noH])
      have hb := bToS_sl (H := K) (v := .slice 0 0 k k none) (s := s ++ List.replicate (k - s.length) 0) (.inr ⟨0, 0, k, k, none, rfl, by simp; omega, .inr ⟨_, true, oK, by simp; omega, by simp only [Nat.mul_one, List.drop_zero]; rw [List.take_of_length_le (by simp; omega)]⟩⟩)
      simp only [c82, c1, c2, mk8 k (by omega), cp, hb, rwA, rwB, Nat.reduceAdd, Nat.reduceMul, Nat.reduceLeDiff, Int.reduceEq, Int.reduceLT, Int.reduceLE, Int.reduceAdd, Int.reduceSub, Int.reduceMul, ↓reduceIte, Nat.reduceEqDiff, reduceCtorEq, ↓cnd_true, ↓cnd_false]
    · have h2 : m ≤ (s.length : Int) := by simpa using c2
      rw [if_pos (.inr h2)]
      simp only [c82, c1, c2, rwA, rwB, Nat.reduceAdd, Nat.reduceMul, Nat.reduceLeDiff, Int.reduceEq, Int.reduceLT, Int.reduceLE, Int.reduceAdd, Int.reduceSub, Int.reduceMul, ↓reduceIte, Nat.reduceEqDiff, reduceCtorEq, ↓cnd_true, ↓cnd_false]
  · have h1 : 65536 < m := by simpa using c1
    rw [if_pos (.inl h1)]
    simp only [c82, c1, rwA, rwB, Nat.reduceAdd, Nat.reduceMul, Nat.reduceLeDiff, Int.reduceEq, Int.reduceLT, Int.reduceLE, Int.reduceAdd, Int.reduceSub, Int.reduceMul, ↓reduceIte, Nat.reduceEqDiff, reduceCtorEq, ↓cnd_true, ↓cnd_false]

def Bt (K : AHeap) (v : AVal) (cs : List AVal) : Prop := Ow K 1 v cs ∨ (cs = [] ∧ ∃ id, v = .slice id 0 0 0 none ∧ id < K.next ∧ K.obj id = some (.cells [] true))
theorem Bt.lt {K : AHeap} {v : AVal} {cs : List AVal} (h : Bt K v cs) : ∀ i, i ∈ v.ids → i < K.next := by
  rcases h with h | ⟨_, id, rfl, h, _⟩
  · exact h.lt
  · intro i hi
    simp [AVal.ids] at hi
    omega
/-! ### The law of the writers -/
end Go.Proofs.Ytfmjdlahabgkpaa.Sd
end

section
/- Nodes: what the law's own text asks. -/
set_option maxRecDepth 100000
namespace Go.Proofs.Ytfmjdlahabgkpaa.Sd
open Go Go.Proofs.Ytfmjdlahabgkpaa.Am SdFns Go.RowKit

theorem U23_is : (arun (acall A 4000) A.fn 4000 (some SdFns.c23) [] noH).map (·.1) = some (.bool true) := by kernel_rfl
theorem U23 (H : AHeap) : AC A 23 [] H = some (.bool true, H) := one_closed (x := SdFns.c23) rfl rfl rfl rfl rfl U23_is H

end Go.Proofs.Ytfmjdlahabgkpaa.Sd
end

section
/- Nodes: how great they are. -/
set_option maxRecDepth 100000
set_option linter.unusedSimpArgs false
set_option linter.unusedVariables false
set_option maxHeartbeats 4000000
namespace Go.Proofs.Ytfmjdlahabgkpaa.Sd
open Go Go.Proofs.Ytfmjdlahabgkpaa.Am SdFns Go.RowKit

abbrev It := List UInt8 × List UInt8
def ic (x : It) : List AVal := [.str x.1, .str x.2]
theorem ic_len (x : It) : (ic x).length = 2 := rfl
def i64 (n : Int) : AVal := .int .i64 n
structure Li (H : AHeap) (s : AVal) (l : List It) : Prop where
  sl : Sl H 2 s (l.flatMap ic)
  old : ∀ i, i ∈ s.ids → i < H.next
structure Ki (H : AHeap) (s : AVal) (l : List Int) : Prop where
  sl : Sl H 1 s (l.map i64)
  old : ∀ i, i ∈ s.ids → i < H.next
theorem Li.keeps {H K : AHeap} {s : AVal} {l : List It} (h : Li H s l) (k : Keeps H K) : Li K s l := ⟨h.sl.keep h.old k, fun i hi => Nat.lt_of_lt_of_le (h.old i hi) k.1⟩
theorem Ki.keeps {H K : AHeap} {s : AVal} {l : List Int} (h : Ki H s l) (k : Keeps H K) : Ki K s l := ⟨h.sl.keep h.old k, fun i hi => Nat.lt_of_lt_of_le (h.old i hi) k.1⟩
theorem Li.frz {H : AHeap} {s : AVal} {l : List It} (h : Li H s l) : Li (frz H) s l := ⟨h.sl.frz, h.old⟩
theorem Ki.frz {H : AHeap} {s : AVal} {l : List Int} (h : Ki H s l) : Ki (frz H) s l := ⟨h.sl.frz, h.old⟩
theorem Li.len {H : AHeap} {s : AVal} {l : List It} (h : Li H s l) : alenT false s = some l.length := by rw [h.sl.alen, slen_fm ic_len (by decide) h.sl]
theorem Ki.len {H : AHeap} {s : AVal} {l : List Int} (h : Ki H s l) : alenT false s = some l.length := by rw [h.sl.len1, List.length_map]
theorem Li.at {H : AHeap} {s : AVal} {l : List It} (h : Li H s l) {i : Nat} (hi : i < l.length) :
    ∃ id off cap g k own, s = .slice id off l.length cap g ∧ H.obj id = some (.cells k own) ∧ apart true (off + i * 2) 2 k = some (.agg [.str l[i].1, .str l[i].2]) ∧ k[off + i * 2]? = some (.str l[i].1) ∧ k[off + (i * 2 + 1)]? = some (.str l[i].2) := by
  obtain ⟨id, off, cp, g, k, own, e, ho, hk, hall, h2⟩ := h.sl.elem ic_len (by decide) hi
  refine ⟨id, off, cp, g, k, own, e, ho, by rw [apart_agg _ _ _ (elem_room (es := 2) hi hk), hall]; rfl, ?_, ?_⟩
  · have := h2 0 (by decide); simpa [ic] using this
  · have := h2 1 (by decide); simpa [ic] using this
theorem Ki.at {H : AHeap} {s : AVal} {l : List Int} (h : Ki H s l) {i : Nat} (hi : i < l.length) :
    ∃ id off cap g k own, s = .slice id off l.length cap g ∧ H.obj id = some (.cells k own) ∧ k[off + i]? = some (.int .i64 l[i]) := by
  obtain ⟨id, off, cp, g, k, own, e, ho, _, h2⟩ := h.sl.elem1 hi
  exact ⟨id, off, cp, g, k, own, e, ho, h2⟩
theorem aidx_in {n i : Nat} (h : i < n) : aidx n (.int .i64 (i : Int)) = some i := by simp [aidx]; omega

def lf (k : List Int) : Bool := decide ((k.length : Int) = 0)
def wt (b : Bool) (x : It) : Nat := if b then 2 + x.1.length + x.2.length else 3 + x.1.length
def wts (b : Bool) (l : List It) : Nat := (l.map (wt b)).sum
theorem wts_take (b : Bool) (l : List It) {i : Nat} (h : i < l.length) : wts b (l.take (i + 1)) = wts b (l.take i) + wt b l[i] := by
  unfold wts
  rw [List.take_add_one, List.getElem?_eq_getElem h, Option.toList_some, List.map_append, List.sum_append]
  simp
theorem wts_le (b : Bool) (l : List It) (i : Nat) : wts b (l.take i) ≤ wts b l := by
  unfold wts
  conv => rhs; rw [← List.take_append_drop i l, List.map_append, List.sum_append]
  omega
theorem wt_t {x : It} {b : Bool} (h : b = true) : wt b x = 2 + x.1.length + x.2.length := by unfold wt; rw [h]; rfl
theorem wt_f {x : It} {b : Bool} (h : b = false) : wt b x = 3 + x.1.length := by unfold wt; rw [h]; rfl

theorem U58 {H : AHeap} {s q : AVal} {k : List Int} (hq : Ki H q k) : AC A 58 [.agg [s, q]] H = some (.bool (lf k), H) := by
  refine look_val (x := SdFns.c58) rfl rfl rfl rfl ?_
  have o := hq.frz.len
  simp only [c58, o, lf, rwA, rwB, Nat.reduceAdd, Nat.reduceMul, Nat.reduceLeDiff, Int.reduceEq, Int.reduceLT, Int.reduceLE, Int.reduceAdd, Int.reduceSub, Int.reduceMul, ↓reduceIte, Nat.reduceEqDiff, reduceCtorEq, ↓cnd_true, ↓cnd_false]

def b64 : ACode := (.seq (.region [⟨(some 11), (.bin .lss (.tmp 10) (.tmp 9)), none, none⟩]) (.seq (.cond (.tmp 11) .skip (.exit 0)) (.seq (.block 1 (.seq (.region [⟨(some 12), (.idxASl 2 (.tmp 8) (.tmp 10)), none, none⟩, ⟨(some 13), (.load true 2 (.tmp 12)), none, none⟩, ⟨(some 7), (.new [(.str []), (.str [])]), none, none⟩, ⟨none, (.store 2 (.tmp 7) (.tmp 13)), none, none⟩]) (.region [⟨(some 14), (.mv (.tmp 5)), none, none⟩, ⟨(some 15), (.load true 2 (.tmp 2)), none, none⟩, ⟨(some 16), (.load true 2 (.tmp 7)), none, none⟩, ⟨(some 17), (.call (.con (.func 86 [] [])) [(.tmp 15), (.tmp 16)]), none, none⟩, ⟨(some 18), (.bin .add (.tmp 14) (.tmp 17)), none, none⟩, ⟨(some 5), (.mv (.tmp 18)), none, none⟩]))) (.region [⟨(some 19), (.bin .add (.tmp 10) (.con (.int .i64 1))), none, none⟩, ⟨(some 10), (.mv (.tmp 19)), none, none⟩]))))
theorem U86 {H : AHeap} {s q : AVal} {k : List Int} {x : It} (hq : Ki H q k) (hx : wt (lf k) x < 1000000000) : AC A 86 [.agg [s, q], .agg [.str x.1, .str x.2]] H = some (.int .i64 ((wt (lf k) x : Nat) : Int), H) := by
  refine look_val (x := SdFns.c86) rfl rfl rfl rfl ?_
  obtain ⟨K, eK⟩ : ∃ K, ((frz H).new (.cells [s, q] true)).new (.cells [.str x.1, .str x.2] true) = K := ⟨_, rfl⟩
  have kK : Keeps (frz H) K := by rw [← eK]; exact Keeps.new' (Keeps.new' (Keeps.refl _))
  have u := U58 (s := s) (hq.frz.keeps kK)
  have o0 : K.obj H.next = some (.cells [s, q] true) := by rw [← eK]; simp [AHeap.new, frz]
  have o1 : K.obj (H.next + 1) = some (.cells [.str x.1, .str x.2] true) := by rw [← eK]; simp [AHeap.new, frz]
  cases hl : lf k
  · have e := wt_f (x := x) hl
    rw [hl] at hx e
    have w1 : IntKind.i64.wrap (1 + (x.1.length : Int)) = ((1 + x.1.length : Nat) : Int) := by rw [wrap_i64]; omega
    have w2 : IntKind.i64.wrap (((1 + x.1.length : Nat) : Int) + 2) = ((3 + x.1.length : Nat) : Int) := by rw [wrap_i64]; omega
    simp only [c86, frz_next, eK, u, hl, o0, o1, w1, w2, e, rwA, rwB, Nat.reduceAdd, Nat.reduceMul, Nat.reduceLeDiff, Int.reduceEq, Int.reduceLT, Int.reduceLE, Int.reduceAdd, Int.reduceSub, Int.reduceMul, ↓reduceIte, Nat.reduceEqDiff, reduceCtorEq, ↓cnd_true, ↓cnd_false]
  · have e := wt_t (x := x) hl
    rw [hl] at hx e
    have w1 : IntKind.i64.wrap (2 + (x.1.length : Int)) = ((2 + x.1.length : Nat) : Int) := by rw [wrap_i64]; omega
    have w2 : IntKind.i64.wrap (((2 + x.1.length : Nat) : Int) + (x.2.length : Int)) = ((2 + x.1.length + x.2.length : Nat) : Int) := by rw [wrap_i64]; omega
    simp only [c86, frz_next, eK, u, hl, o0, o1, w1, w2, e, rwA, rwB, Nat.reduceAdd, Nat.reduceMul, Nat.reduceLeDiff, Int.reduceEq, Int.reduceLT, Int.reduceLE, Int.reduceAdd, Int.reduceSub, Int.reduceMul, ↓reduceIte, Nat.reduceEqDiff, reduceCtorEq, ↓cnd_true, ↓cnd_false]

theorem loop64 {H : AHeap} {s q lv : AVal} {k : List Int} {l : List It} (hq : Ki H q k) (hl : Li H lv l) (hn : l.length < 1000000000) (hb : wts (lf k) l < 1000000000) {p : Nat} (ho : H.obj p = some (.cells [s, q] true)) (hp : p < H.next) {env : Env}
    (h2 : env 2 = .ptr p 0) (h5 : env 5 = .int .i64 0) (h8 : env 8 = lv) (h9 : env 9 = .int .i64 (l.length : Int)) (h10 : env 10 = .int .i64 0) :
    Outs (AX A (.loop b64) env H) fun e env' K => e = .exit 0 ∧ env' 5 = .int .i64 ((wts (lf k) l : Nat) : Int) := by
  refine loop_ends (I := fun (i : Nat) env' K => i ≤ l.length ∧ env' 2 = .ptr p 0 ∧ env' 8 = lv ∧ env' 9 = .int .i64 (l.length : Int) ∧ env' 10 = .int .i64 (i : Int) ∧ env' 5 = .int .i64 ((wts (lf k) (l.take i) : Nat) : Int) ∧ Keeps H K) (fun i => l.length - i) ?_ 0 env H
    ⟨Nat.zero_le _, h2, h8, h9, h10, by simpa [wts] using h5, Keeps.refl _⟩
  rintro i env1 K ⟨hi, h2, h8, h9, h10, h5, hK⟩
  by_cases c : i < l.length
  · have c1 : decide ((i : Int) < (l.length : Int)) = true := by simp; omega
    have w1 : IntKind.i64.wrap ((i : Int) + 1) = ((i + 1 : Nat) : Int) := by rw [wrap_i64]; omega
    obtain ⟨id, off, cp, g, kk, own, rfl, hob, ld, _, _⟩ := (hl.keeps hK).at c
    have ha := aidx_in c
    have ht := wts_take (lf k) l c
    have hle := wts_le (lf k) l (i + 1)
    have hwt : wt (lf k) l[i] < 1000000000 := by omega
    have w2 : IntKind.i64.wrap (((wts (lf k) (l.take i) : Nat) : Int) + ((wt (lf k) l[i] : Nat) : Int)) = ((wts (lf k) (l.take (i + 1)) : Nat) : Int) := by rw [wrap_i64]; omega
    obtain ⟨x, ex⟩ : ∃ x, l[i] = x := ⟨_, rfl⟩
    rw [ex] at ld hwt w2
    obtain ⟨K1, eK1⟩ : ∃ K1, (K.new (.cells [.str [], .str []] true)).set K.next (.cells [.str x.1, .str x.2] true) = K1 := ⟨_, rfl⟩
    have k1 : Keeps K K1 := by rw [← eK1]; exact Keeps.set' (Nat.le_refl _) (Keeps.new' (Keeps.refl _))
    have oN : K1.obj K.next = some (.cells [.str x.1, .str x.2] true) := by rw [← eK1, set_obj, if_pos rfl]
    have oP : K1.obj p = some (.cells [s, q] true) := by rw [(hK.trans k1).2 p hp]; exact ho
    have u := U86 (s := s) (x := x) (hq.keeps (hK.trans k1)) hwt
    simp only [b64, h2, h5, h8, h9, h10, c1, ha, hob, ld, eK1, oN, oP, u, w1, w2, rwA, rwB, Nat.reduceAdd, Nat.reduceMul, Nat.reduceLeDiff, Int.reduceEq, Int.reduceLT, Int.reduceLE, Int.reduceAdd, Int.reduceSub, Int.reduceMul, ↓reduceIte, Nat.reduceEqDiff, reduceCtorEq, ↓cnd_true, ↓cnd_false]
    rw [outs_some]
    exact .inl ⟨rfl, i + 1, by omega, by omega, by simp [Env.set, h2], by simp [Env.set, h8], by simp [Env.set, h9], by simp [Env.set], by simp [Env.set], hK.trans k1⟩
  · have e : i = l.length := by omega
    subst e
    have c1 : decide ((l.length : Int) < (l.length : Int)) = false := by simp
    simp only [b64, h9, h10, c1, rwA, rwB, Nat.reduceAdd, Nat.reduceMul, Nat.reduceLeDiff, Int.reduceEq, Int.reduceLT, Int.reduceLE, Int.reduceAdd, Int.reduceSub, Int.reduceMul, ↓reduceIte, Nat.reduceEqDiff, reduceCtorEq, ↓cnd_true, ↓cnd_false]
    rw [outs_some]
    rw [List.take_length] at h5
    exact .inr ⟨by simp, rfl, h5⟩

theorem U64 {H : AHeap} {s q lv : AVal} {k : List Int} {l : List It} (hq : Ki H q k) (hl : Li H lv l) (hn : l.length < 1000000000) (hb : wts (lf k) l < 1000000000) : AC A 64 [.agg [s, q], lv] H = some (.int .i64 ((wts (lf k) l : Nat) : Int), H) := by
  refine look_val (x := SdFns.c64) rfl rfl rfl rfl ?_
  have ll := hl.frz.len
  obtain ⟨K, eK⟩ : ∃ K, (frz H).new (.cells [s, q] true) = K := ⟨_, rfl⟩
  have kK : Keeps (frz H) K := by rw [← eK]; exact Keeps.new' (Keeps.refl _)
  have o0 : K.obj H.next = some (.cells [s, q] true) := by rw [← eK]; simp [AHeap.new, frz]
  have nK : H.next < K.next := by rw [← eK]; simp [AHeap.new, frz]
  simp only [c64, frz_next, eK, ll, rwA, rwB, Nat.reduceAdd, Nat.reduceMul, Nat.reduceLeDiff, Int.reduceEq, Int.reduceLT, Int.reduceLE, Int.reduceAdd, Int.reduceSub, Int.reduceMul, ↓reduceIte, Nat.reduceEqDiff, reduceCtorEq, ↓cnd_true, ↓cnd_false]
  repeat (first | refine outs_seq ?_ | refine outs_block ?_ | refine outs_step ?_ | refine outs_stepD ?_ | refine rets_end ?_ | refine ans_end ?_)
  refine (loop64 (hq.frz.keeps kK) (hl.frz.keeps kK) hn hb o0 nK ?_ ?_ ?_ ?_ ?_).mono ?_
  · simp [Env.set]
  · simp [Env.set]
  · simp [Env.set, ainit]
  · simp [Env.set]
  · simp [Env.set]
  rintro e env K' ⟨rfl, h5⟩
  simp only [outs_some, h5, rwA, rwB, Nat.reduceAdd, Nat.reduceMul, Nat.reduceLeDiff, Int.reduceEq, Int.reduceLT, Int.reduceLE, Int.reduceAdd, Int.reduceSub, Int.reduceMul, ↓reduceIte, Nat.reduceEqDiff, reduceCtorEq, ↓cnd_true, ↓cnd_false]

def sz (k : List Int) (l : List It) : Nat := if lf k then 2 + wts (lf k) l else 4 + wts (lf k) l
theorem U31 {H : AHeap} {s q : AVal} {k : List Int} {l : List It} (hq : Ki H q k) (hl : Li H s l) (hn : l.length < 1000000000) (hb : wts (lf k) l < 1000000000) : AC A 31 [.agg [s, q]] H = some (.int .i64 ((sz k l : Nat) : Int), H) := by
  refine look_val (x := SdFns.c31) rfl rfl rfl rfl ?_
  obtain ⟨K, eK⟩ : ∃ K, (frz H).new (.cells [s, q] true) = K := ⟨_, rfl⟩
  have kK : Keeps (frz H) K := by rw [← eK]; exact Keeps.new' (Keeps.refl _)
  have u := U58 (s := s) (hq.frz.keeps kK)
  have u2 := U64 (s := s) (hq.frz.keeps kK) (hl.frz.keeps kK) hn hb
  have o0 : K.obj H.next = some (.cells [s, q] true) := by rw [← eK]; simp [AHeap.new, frz]
  have w1 : IntKind.i64.wrap (2 + ((wts (lf k) l : Nat) : Int)) = ((2 + wts (lf k) l : Nat) : Int) := by rw [wrap_i64]; omega
  have w2 : IntKind.i64.wrap (4 + ((wts (lf k) l : Nat) : Int)) = ((4 + wts (lf k) l : Nat) : Int) := by rw [wrap_i64]; omega
  unfold sz
  cases hl : lf k <;> rw [hl] at u u2 w1 w2 <;> simp only [c31, frz_next, eK, u, u2, hl, o0, w1, w2, rwA, rwB, Nat.reduceAdd, Nat.reduceMul, Nat.reduceLeDiff, Int.reduceEq, Int.reduceLT, Int.reduceLE, Int.reduceAdd, Int.reduceSub, Int.reduceMul, ↓reduceIte, Nat.reduceEqDiff, reduceCtorEq, ↓cnd_true, ↓cnd_false] <;> try simp

theorem U84 (s : List UInt8) (H : AHeap) : AC A 84 [.str s] H = some (.bool (decide (1 ≤ s.length) && decide (s.length ≤ 64)), H) := by
  refine one_val (x := SdFns.c84) rfl rfl rfl rfl rfl ?_ H
  cases s with
  | nil => simp only [c84, rwA, rwB, Nat.reduceAdd, Nat.reduceMul, Nat.reduceLeDiff, Int.reduceEq, Int.reduceLT, Int.reduceLE, Int.reduceAdd, Int.reduceSub, Int.reduceMul, ↓reduceIte, Nat.reduceEqDiff, reduceCtorEq, ↓cnd_true, ↓cnd_false] <;> try simp
  | cons a l =>
    have c : decide (a :: l = []) = false := by simp
    simp only [c84, c, rwA, rwB, Nat.reduceAdd, Nat.reduceMul, Nat.reduceLeDiff, Int.reduceEq, Int.reduceLT, Int.reduceLE, Int.reduceAdd, Int.reduceSub, Int.reduceMul, ↓reduceIte, Nat.reduceEqDiff, reduceCtorEq, ↓cnd_true, ↓cnd_false]
    try simp
    try omega

def okx (b : Bool) (x : It) : Bool := (decide (1 ≤ x.1.length) && decide (x.1.length ≤ 64)) && (if b then decide (x.2.length ≤ 64) else decide (x.2 = []))
theorem U62 {H : AHeap} {s q : AVal} {k : List Int} {x : It} (hq : Ki H q k) : AC A 62 [.agg [s, q], .agg [.str x.1, .str x.2]] H = some (.bool (okx (lf k) x), H) := by
  refine look_val (x := SdFns.c62) rfl rfl rfl rfl ?_
  obtain ⟨K, eK⟩ : ∃ K, ((frz H).new (.cells [s, q] true)).new (.cells [.str x.1, .str x.2] true) = K := ⟨_, rfl⟩
  have kK : Keeps (frz H) K := by rw [← eK]; exact Keeps.new' (Keeps.new' (Keeps.refl _))
  have u := U58 (s := s) (hq.frz.keeps kK)
  have u2 := U84 x.1 K
  have o0 : K.obj H.next = some (.cells [s, q] true) := by rw [← eK]; simp [AHeap.new, frz]
  have o1 : K.obj (H.next + 1) = some (.cells [.str x.1, .str x.2] true) := by rw [← eK]; simp [AHeap.new, frz]
  unfold okx
  obtain ⟨ky, ek⟩ : ∃ b, (decide (1 ≤ x.1.length) && decide (x.1.length ≤ 64)) = b := ⟨_, rfl⟩
  rw [ek] at u2 ⊢
  cases hl : lf k <;> rw [hl] at u <;> cases ky <;> simp only [c62, frz_next, eK, u, u2, hl, o0, o1, rwA, rwB, Nat.reduceAdd, Nat.reduceMul, Nat.reduceLeDiff, Int.reduceEq, Int.reduceLT, Int.reduceLE, Int.reduceAdd, Int.reduceSub, Int.reduceMul, ↓reduceIte, Nat.reduceEqDiff, reduceCtorEq, ↓cnd_true, ↓cnd_false] <;> (try simp) <;> (try omega)

end Go.Proofs.Ytfmjdlahabgkpaa.Sd
end
