/-
  Small laws for the walks' ends.
-/
import Derived.Test.YtpfpgkopbokfgaaDoorIdlS
namespace Go.Idl
set_option linter.all false

theorem wrap64 {n : Int} (h1 : -9223372036854775808 ≤ n) (h2 : n < 9223372036854775808) : IntKind.i64.wrap n = n := by
  simp [IntKind.wrap, IntKind.bits, IntKind.signed]
  omega
theorem wrap64i {n : Int} (h1 : -9223372036854775808 ≤ n) (h2 : n < 9223372036854775808) : IntKind.wrap .i64 n = n := wrap64 h1 h2
end Go.Idl
