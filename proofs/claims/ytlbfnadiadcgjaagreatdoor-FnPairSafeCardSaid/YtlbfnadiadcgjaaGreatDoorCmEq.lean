/-
  Contracts: equality of contents and commands.
-/
import Derived.Test.YtlbfnadiadcgjaaGreatDoorCmds
namespace Go.Proofs.YtlbfnadiadcgjaaGreatDoor
open Go Go.RowKit
set_option linter.unusedVariables false
set_option linter.unusedSimpArgs false

end Go.Proofs.YtlbfnadiadcgjaaGreatDoor
