/- TopAgain: the runs for arguments that it does not take. -/
import Derived.Test.YtpmgggfjmkpleaaGreatDoorAg2
namespace Go.Proofs.YtpmgggfjmkpleaaGreatDoor.E
open Go Go.RowKit
set_option linter.unusedVariables false

abbrev sSer : V := .sp 0 0 7
abbrev sPort : V := .sp 0 1 4
abbrev sLba : V := .sp 0 0 8
abbrev lo64 : Int := -9223372036854775808
abbrev hi64 : Int := 9223372036854775807
theorem out1 : again [.sp 0 lo64 (-1), .unk, .unk, .unk, .unk] = true := by kernel_rfl
theorem out2 : again [.sp 0 8 hi64, .unk, .unk, .unk, .unk] = true := by kernel_rfl
theorem out3 : again [sSer, .sp 0 lo64 0, .unk, .unk, .unk] = true := by kernel_rfl
theorem out4 : again [sSer, .sp 0 5 hi64, .unk, .unk, .unk] = true := by kernel_rfl
theorem out5 : again [sSer, sPort, .sp 0 lo64 0, .unk, .unk] = true := by kernel_rfl
theorem out6 : again [sSer, sPort, .sp 0 5 hi64, .unk, .unk] = true := by kernel_rfl
theorem out7 : again [sSer, sPort, sPort, .sp 0 lo64 (-1), .unk] = true := by kernel_rfl
theorem out8 : again [sSer, sPort, sPort, .sp 0 9 hi64, .unk] = true := by kernel_rfl
theorem out9 : again [sSer, sPort, sPort, sLba, .sp 3 0 0] = true := by kernel_rfl
theorem long0 : again [sSer, sPort, sPort, .int .i64 0, .sp 1 9 0] = true := by kernel_rfl
theorem long1 : again [sSer, sPort, sPort, .int .i64 1, .sp 1 8 0] = true := by kernel_rfl
theorem long2 : again [sSer, sPort, sPort, .int .i64 2, .sp 1 7 0] = true := by kernel_rfl
theorem long3 : again [sSer, sPort, sPort, .int .i64 3, .sp 1 6 0] = true := by kernel_rfl
theorem long4 : again [sSer, sPort, sPort, .int .i64 4, .sp 1 5 0] = true := by kernel_rfl
theorem long5 : again [sSer, sPort, sPort, .int .i64 5, .sp 1 4 0] = true := by kernel_rfl
theorem long6 : again [sSer, sPort, sPort, .int .i64 6, .sp 1 3 0] = true := by kernel_rfl
theorem long7 : again [sSer, sPort, sPort, .int .i64 7, .sp 1 2 0] = true := by kernel_rfl
theorem long8 : again [sSer, sPort, sPort, .int .i64 8, .sp 1 1 0] = true := by kernel_rfl
end Go.Proofs.YtpmgggfjmkpleaaGreatDoor.E
