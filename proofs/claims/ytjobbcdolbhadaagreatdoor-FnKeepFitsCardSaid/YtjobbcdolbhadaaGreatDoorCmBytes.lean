/-
  Contracts: the bytes of a command, by the program's function and by the reference's.
-/
import Derived.Test.YtjobbcdolbhadaaGreatDoorCmds
namespace Go.Proofs.YtjobbcdolbhadaaGreatDoor
open Go Go.RowKit
set_option linter.unusedVariables false
set_option linter.unusedSimpArgs false

def nums (s : Str) : List Int := s.map (fun b => (b.toNat : Int))
def cmBytes (c : Cm) : List Int := if cmOk c then [c.fr.kind, c.fr.value, c.to.kind, c.to.value] ++ nums c.path else []
theorem nums_step {s : Str} {k : Nat} {b : UInt8} (h : s[k]? = some b) : nums (s.take (k + 1)) = nums (s.take k) ++ [(b.toNat : Int)] := by
  unfold nums; rw [List.take_add_one, h]; simp
theorem nums_len (s : Str) : (nums s).length = s.length := by simp [nums]

/-! ### Commands in an exact law -/
end Go.Proofs.YtjobbcdolbhadaaGreatDoor
