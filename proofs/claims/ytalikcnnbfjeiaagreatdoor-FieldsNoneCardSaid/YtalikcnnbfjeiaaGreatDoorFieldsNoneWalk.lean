/-
  FieldsNone: the statement's function tells true, whatever the place, the text and the cell, and leaves memory as it was. No conditions.
-/
import Derived.Test.YtalikcnnbfjeiaaGreatDoorEngR
import Derived.Test.YtalikcnnbfjeiaaGreatDoorProg
import Derived.KernelRfl
import Derived.WalkKit
import Derived.ProofKit
import Derived.Lib.SmallJoins
namespace Go.Proofs.YtalikcnnbfjeiaaGreatDoor.fieldsNone
open Go.Eng Go.RowKit
set_option linter.unusedVariables false

set_option maxRecDepth 100000 in
/-- the engine's answer, whatever the place, the text and the cell -/
theorem told (i : Int) (l : List UInt8) (k n : Int) (m : List UInt8) : isTrue (callAt Tryz.prog none_ 100000 3 [.i .i64 i, .s l, .agg [.i .u8 k, .i .u64 n, .s m]] St.nil) = true := by kernel_rfl

theorem walk (i : Int) (s : ByteArray) (k n : Int) (m : ByteArray) (w : World) : Calls Tryz.prog 3 #[.int .i64 i, .string s, .agg #[.int .u8 k, .int .u64 n, .string m]] w fun e w' => e = .returned (.bool true) ∧ Below w.heap.size w w' :=
  callAt_true (none_ok _) (by kernel_rfl) (told i s.data.toList k n m.data.toList) (.cons (.i _ _) (.cons (.s _) (.cons (.agg (.cons (.i _ _) (.cons (.i _ _) (.cons (.s _) .nil)))) .nil))) w


end Go.Proofs.YtalikcnnbfjeiaaGreatDoor.fieldsNone
