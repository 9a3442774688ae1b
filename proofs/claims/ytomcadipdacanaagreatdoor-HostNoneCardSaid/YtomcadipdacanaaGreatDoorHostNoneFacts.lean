/-
  HostNone: closed facts that its card asks. No conditions.
-/
import Derived.Test.YtomcadipdacanaaGreatDoorCards
import Derived.SevenTiedAt
import Derived.KernelRfl
namespace Go.Proofs.YtomcadipdacanaaGreatDoor.hostNone
set_option linter.unusedVariables false

set_option maxRecDepth 100000 in
theorem wfT : Rows.hostNoneRow.wfByText (OpenSpec.ofChange Rows.hostNoneSpec) = true := by kernel_rfl
set_option maxRecDepth 100000 in
theorem mainT : Tryz.pinned.checked.prog.mainIs = some (Rows.hostNoneCard.stood.harness.1, Rows.hostNoneCard.stood.harness.2.toList) := by kernel_rfl
set_option maxRecDepth 100000 in
theorem goesT : false = Rows.hostNoneRow.goesBy Tryz.pinned.checked.prog := by kernel_rfl
set_option maxRecDepth 100000 in
theorem looksT : true = Tryz.pinned.checked.prog.looks [] := by kernel_rfl

end Go.Proofs.YtomcadipdacanaaGreatDoor.hostNone
