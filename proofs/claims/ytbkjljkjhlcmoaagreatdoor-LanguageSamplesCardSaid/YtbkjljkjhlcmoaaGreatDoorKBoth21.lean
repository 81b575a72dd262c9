/- Part 21. -/
import Derived.Test.YtbkjljkjhlcmoaaGreatDoorKBoth20
set_option linter.unusedVariables false
set_option linter.unusedSimpArgs false
namespace Go.Proofs.YtbkjljkjhlcmoaaGreatDoor
open Go.Lx
theorem HC (k z:Int):rS 0 3 k z=.val (.int .i64 (zT 3 z)):=by kernel_rfl
theorem HB (k z:Int):rS 1 6 k z=.val (.int .i64 (zT 6 z)):=by kernel_rfl
theorem HA (k z:Int):rS 2 6 k z=.val (.int .i64 (zT 6 z)):=by kernel_rfl
theorem Hz (k z:Int):rS 3 3 k z=.val (.int .i64 (zT 3 z)):=by kernel_rfl
theorem Hy (k z:Int):rS 4 4 k z=.val (.int .i64 (zT 4 z)):=by kernel_rfl
theorem Hx (k z:Int):rS 5 3 k z=.val (.int .i64 (zT 3 z)):=by kernel_rfl
end Go.Proofs.YtbkjljkjhlcmoaaGreatDoor
