/-
  Contracts: filters by the program's functions.
-/
import Derived.Test.YtjncnmokafgigaaGreatDoorPlA
import Derived.Test.YtjncnmokafgigaaGreatDoorNdList
import Derived.Test.YtjncnmokafgigaaGreatDoorSpecFilt
import Derived.Test.YtjncnmokafgigaaGreatDoorUnder
namespace Go.Proofs.YtjncnmokafgigaaGreatDoor
open Go Go.RowKit
set_option linter.unusedVariables false
set_option linter.unusedSimpArgs false

theorem own_nil0 {α : Type} {T : Ty α} {w : World} {b e : Nat} : OwL T w b e (.slice none 0 0) [] := ⟨by simp, .inl ⟨rfl, rfl⟩⟩
theorem ign_sm {ig : List Str} (h : ignOk ig = true) : Short ig := fun s hs => by have := isPath_len (igs_path h hs).1; omega
end Go.Proofs.YtjncnmokafgigaaGreatDoor
