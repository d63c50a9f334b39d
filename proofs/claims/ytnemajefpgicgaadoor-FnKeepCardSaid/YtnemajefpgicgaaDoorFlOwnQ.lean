/-
  A beginning of a slice that the call owns, in a drawn region.
-/
import Derived.Test.YtnemajefpgicgaaDoorFlSl2
namespace Go.Proofs.YtnemajefpgicgaaDoor
open Go Go.RowKit
set_option linter.unusedVariables false
set_option linter.unusedSimpArgs false
section
variable {P : Program} {ops : Array Oper} {Q : Exit → Act → World → Prop} {n : Nat} {fr : Fr} {w : World} {rest : List Oper}
variable {d : Nat} {ty : TypeId} {pos : String} {af : Array Edge} {QQ : Act → Prop}
variable {α : Type} {T : Ty α} {C : World → Prop}
theorem LQ_sliceOwnH {t e size bytes : Nat} {z : Value} [hT : TSlice P t e size bytes z] {x y : Operand} {v : Value} {xs : List α} {base e' : Nat} {k : IntKind} {i : Int} (hx : fr.ev x = some v) (hy : fr.ev y = some (.int k i)) (hO : OwL T w base e' v xs) (hs : T.size = size)
    (h0 : 0 ≤ i) (h1 : i ≤ xs.length) (hdn : Nat.blt d n = true) (kk : ∀ v', OwL T w base e' v' (xs.take i.toNat) → v'.ownBlock = v.ownBlock → LQ P ops C QQ n rest ((d, v') :: fr)) :
    LQ P ops C QQ n (⟨some d, .slice t x none (some y) none, ty, pos, af, none⟩ :: rest) fr := by
  subst hs
  have hlen : (xs.take i.toNat).length = i.toNat := by simp; omega
  obtain ⟨hol, ho⟩ := hO.own
  rcases ho with ⟨rfl, hn⟩ | ⟨g, cap, cur, rfl, hbase, hcell, hnc, hcm, hcs, htake⟩
  · have hz : xs = [] := List.eq_nil_of_length_eq_zero hn
    subst hz
    have hi0 : i.toNat = 0 := by simp at h1; omega
    refine LQ_do rfl rfl hdn (fun _ _ => do_sliceH hx hy h0 (by simp at h1; omega)) (kk _ ⟨?_⟩ ?_)
    · have : (sliced none 0 i.toNat 0 T.size) = .slice none 0 0 := by rw [hi0]; rfl
      rw [this, List.take_nil]
      exact ⟨by simp, .inl ⟨rfl, rfl⟩⟩
    · rw [hi0]; rfl
  · have hv : sliced (some ⟨g, 0, none⟩) 0 i.toNat cap T.size = .slice (some ⟨g, 0, none⟩) i.toNat cap := by
      unfold sliced
      by_cases hc : cap = 0
      · subst hc; simp
      · rw [if_neg hc]; simp [Addr.add]
    refine LQ_do rfl rfl hdn (fun _ _ => do_sliceH hx hy h0 (by omega)) (kk _ ⟨⟨by rw [flat_len], .inr ⟨g, cap, cur, by rw [hv, hlen], hbase, hcell, by rw [hlen]; omega, hcm, hcs, ?_⟩⟩⟩ (by rw [hv]; rfl))
    rw [hlen, ← flat_take, ← htake, List.take_take]
    congr 1
    have : i.toNat * T.size ≤ xs.length * T.size := Nat.mul_le_mul_right _ (by omega)
    omega
end
end Go.Proofs.YtnemajefpgicgaaDoor
