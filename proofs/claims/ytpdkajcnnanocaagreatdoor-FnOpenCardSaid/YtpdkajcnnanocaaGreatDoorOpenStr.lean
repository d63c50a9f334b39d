/-
  Arguments as they are read: lists of texts; bytes.
-/
import Derived.Test.YtpdkajcnnanocaaGreatDoorOpen
namespace Go.Proofs.YtpdkajcnnanocaaGreatDoor
open Go Go.RowKit Go.ChangeShapes Go.WideShapes Go.ChangeAt
set_option linter.unusedVariables false
section
variable {H : Type} {enc : TypeId × Value → H} {P : Program} {w : World} {base : Nat} {spare : Nat → Bool} {held : Bool}
theorem open_u8_rdl' {t e fuel : Nat} {v : Value} {x : DataW H × List MemPlace} (ht : P.underlying t = some (.slice e)) (he : P.underlying e = some (.int .u8)) (hC : P.cellsOf e = 1)
    (h : DataW.trod enc P w base spare held fuel t [v] = some x) : ∃ xs : List UInt8, RdL tU8 w v xs := by
  obtain ⟨xs, hx, _⟩ := rdl_open tU8 (fun _ => True) ht hC (by decide) h (fun cs n y hy => by
    obtain ⟨k, hk, _, hw⟩ := DataW.trod_int he hy
    have h2 : IntKind.u8.min = 0 := rfl
    have h3 : IntKind.u8.max = 255 := rfl
    simp only [Lit.wf, Bool.and_eq_true, decide_eq_true_eq] at hw
    refine ⟨UInt8.ofNat k.toNat, ?_, trivial⟩
    have : ((UInt8.ofNat k.toNat).toNat : Int) = k := by
      rw [UInt8.toNat_ofNat_of_lt' (by simp only [UInt8.size]; omega)]
      omega
    rw [hk]
    show [Value.int .u8 k] = [Value.int .u8 ((UInt8.ofNat k.toNat).toNat : Int)]
    rw [this])
  exact ⟨xs, hx⟩
theorem open_strs_rdl {t e fuel : Nat} {v : Value} {x : DataW H × List MemPlace} (ht : P.underlying t = some (.slice e)) (he : P.underlying e = some .string) (hC : P.cellsOf e = 1)
    (h : DataW.trod enc P w base spare held fuel t [v] = some x) : ∃ xs : List Str, RdL tStr w v xs ∧ ∀ s ∈ xs, s.length ≤ 9223372036854775807 := by
  obtain ⟨xs, hx, hp⟩ := rdl_open tStr (fun s => s.length ≤ 9223372036854775807) ht hC (by decide) h (fun cs n y hy => by
    obtain ⟨s, hk, _, hw⟩ := DataW.trod_string he hy
    have e : s = mk s.data.toList := by cases s; rfl
    refine ⟨s.data.toList, ?_, ?_⟩
    · rw [hk]; show [Value.string s] = [Value.string (mk s.data.toList)]; rw [← e]
    · have : s.data.toList.length = s.size := by rw [Array.length_toList]; rfl
      unfold maxLen at hw; omega)
  refine ⟨xs, hx, fun s hs => ?_⟩
  obtain ⟨i, hi, rfl⟩ := List.getElem_of_mem hs
  exact hp i _ (List.getElem?_eq_getElem hi)
end
end Go.Proofs.YtpdkajcnnanocaaGreatDoor
