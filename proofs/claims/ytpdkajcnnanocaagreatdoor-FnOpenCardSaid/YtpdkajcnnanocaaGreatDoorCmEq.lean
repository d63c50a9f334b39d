/-
  Contracts: equality of contents and commands.
-/
import Derived.Test.YtpdkajcnnanocaaGreatDoorCmds
namespace Go.Proofs.YtpdkajcnnanocaaGreatDoor
open Go Go.RowKit
set_option linter.unusedVariables false
set_option linter.unusedSimpArgs false

end Go.Proofs.YtpdkajcnnanocaaGreatDoor
