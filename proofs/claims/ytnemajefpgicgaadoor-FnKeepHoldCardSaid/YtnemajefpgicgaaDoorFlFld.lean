/-
  A field of one cell of a struct value.
-/
import Derived.Test.YtnemajefpgicgaaDoorFlPair
namespace Go.Proofs.YtnemajefpgicgaaDoor
open Go Go.RowKit
set_option linter.unusedVariables false
set_option linter.unusedSimpArgs false
section
variable {P : Program} {n : Nat} {fr : Fr} {w : World} {d : Nat} {ty : TypeId} {pos : String} {af : Array Edge}
theorem do_field1 {s f off ft : Nat} [hF : TField P s f off ft 1] [hT : TOne P ft] {x : Operand} {cs : Array Value} {u : Value} (hx : fr.ev x = some (.agg cs)) (hu : cs[off]? = some u) :
    Does P ⟨some d, .field s x f, ty, pos, af, none⟩ fr w u := ⟨fun ρ h => by
  obtain ⟨fs, hs, fd, hfd, rfl, rfl⟩ := hF.und
  have h1 : ∀ w, (isAgg fd.type).run P w = .ok false w := fun w => run_isAgg_one hT
  simp [execOp, h x _ hx, Instr.field, run_underlying hs, hfd, h1, hu, asAgg, Sem.run_bind, go_sem]⟩
end
end Go.Proofs.YtnemajefpgicgaaDoor
