/-
  Contracts: equality of contents and commands.
-/
import Derived.Test.YtjobbcdolbhadaaGreatDoorCmds
namespace Go.Proofs.YtjobbcdolbhadaaGreatDoor
open Go Go.RowKit
set_option linter.unusedVariables false
set_option linter.unusedSimpArgs false

end Go.Proofs.YtjobbcdolbhadaaGreatDoor
