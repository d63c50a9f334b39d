/-
  Contracts of the draws: a drawn log, drawn bytes of a log.
-/
import Derived.Test.YtpdkajcnnanocaaGreatDoorDrawLog
import Derived.Test.YtpdkajcnnanocaaGreatDoorDrawDam
namespace Go.Proofs.YtpdkajcnnanocaaGreatDoor
open Go Go.RowKit
set_option linter.unusedVariables false
set_option linter.unusedSimpArgs false

theorem logBytes_short (l : List Cm) : (logBytes l).length ≤ 360 := by
  unfold logBytes
  split
  · have := cmFrames_len l
    have := log_len (by assumption : logOk l = true)
    omega
  · simp
end Go.Proofs.YtpdkajcnnanocaaGreatDoor
