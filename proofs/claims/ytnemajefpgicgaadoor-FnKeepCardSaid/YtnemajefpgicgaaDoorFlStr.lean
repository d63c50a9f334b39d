/-
  Operations on strings: a byte, a part, length; over lists of bytes.
-/
import Derived.Test.YtnemajefpgicgaaDoorFlSl2
import Derived.Laws.Strings2
import Derived.Laws.Slices
namespace Go.Proofs.YtnemajefpgicgaaDoor
open Go Go.RowKit
set_option linter.unusedVariables false

theorem mk_extract (s : List UInt8) (i j : Nat) : (mk s).extract i j = mk ((s.take j).drop i) := by
  have : ((mk s).extract i j).data.toList = (s.take j).drop i := by
    simp [mk, ByteArray.data_extract, List.extract_eq_take_drop, List.drop_take]
  have e : ∀ b : ByteArray, b = mk b.data.toList := fun b => by cases b; simp [mk]
  rw [e ((mk s).extract i j), this]
theorem mk_get (s : List UInt8) (i : Nat) (h : i < (mk s).size) : (mk s)[i]'h = s[i]'(by simpa [mk_size] using h) := by
  simp [mk, ByteArray.getElem_eq_getElem_data]

section
variable {P : Program} {ops : Array Oper} {Q : Exit → Act → World → Prop} {n : Nat} {fr : Fr} {w w0 : World} {rest : List Oper}
variable {d : Nat} {ty : TypeId} {pos : String} {af : Array Edge} {QQ : Act → Prop} {C : World → Prop}

theorem do_index {t : TypeId} [hT : TStr P t] {x ix : Operand} {s : List UInt8} {k : IntKind} {i : Int} {b : UInt8} (hx : fr.ev x = some (.string (mk s))) (hi : fr.ev ix = some (.int k i)) (h0 : 0 ≤ i) (hb : s[i.toNat]? = some b) :
    Does P ⟨some d, .index t x ix, ty, pos, af, none⟩ fr w (.int .u8 b.toNat) := ⟨fun ρ h => by
  obtain ⟨hlt, he⟩ := List.getElem?_eq_some_iff.1 hb
  have h1 : 0 ≤ i ∧ i < ((mk s).size : Int) := ⟨h0, by rw [mk_size]; omega⟩
  have h2 := run_index_string (P := P) w t (mk s) k i hT.und
  rw [dif_pos h1] at h2
  unfold execOp
  simp only [h x _ hx, h ix _ hi]
  rw [Sem.run_bind, h2]
  simp [mk_get, he]⟩
theorem L_indexStr {t : TypeId} [hT : TStr P t] {x ix : Operand} {s : List UInt8} {k : IntKind} {i : Int} (hx : fr.ev x = some (.string (mk s))) (hi : fr.ev ix = some (.int k i)) (h0 : 0 ≤ i) (h1 : i < s.length) (hdn : Nat.blt d n = true)
    (kk : ∀ b : UInt8, s[i.toNat]? = some b → L P ops Q n rest ((d, .int .u8 b.toNat) :: fr) w) : L P ops Q n (⟨some d, .index t x ix, ty, pos, af, none⟩ :: rest) fr w := by
  have hlt : i.toNat < s.length := by omega
  exact L_do rfl rfl hdn (do_index hx hi h0 (List.getElem?_eq_getElem hlt)) (kk _ (List.getElem?_eq_getElem hlt))
theorem LQ_indexStr {t : TypeId} [hT : TStr P t] {x ix : Operand} {s : List UInt8} {k : IntKind} {i : Int} (hx : fr.ev x = some (.string (mk s))) (hi : fr.ev ix = some (.int k i)) (h0 : 0 ≤ i) (h1 : i < s.length) (hdn : Nat.blt d n = true)
    (kk : ∀ b : UInt8, s[i.toNat]? = some b → LQ P ops C QQ n rest ((d, .int .u8 b.toNat) :: fr)) : LQ P ops C QQ n (⟨some d, .index t x ix, ty, pos, af, none⟩ :: rest) fr := by
  have hlt : i.toNat < s.length := by omega
  exact LQ_do rfl rfl hdn (fun _ _ => do_index hx hi h0 (List.getElem?_eq_getElem hlt)) (kk _ (List.getElem?_eq_getElem hlt))

theorem do_sliceSLH {t : TypeId} [hT : TStr P t] {x y z : Operand} {s : List UInt8} {k k' : IntKind} {i j : Int} (hx : fr.ev x = some (.string (mk s))) (hy : fr.ev y = some (.int k i)) (hz : fr.ev z = some (.int k' j)) (h0 : 0 ≤ i) (h1 : i ≤ j) (h2 : j ≤ s.length) :
    Does P ⟨some d, .slice t x (some y) (some z) none, ty, pos, af, none⟩ fr w (.string (mk ((s.take j.toNat).drop i.toNat))) := ⟨fun ρ h => by
  show (do pure (Next.value (← Instr.sliceAt t (ρ x) (some (ρ y)) (some (ρ z)) none)) : Sem Next).run P w = _
  rw [h x _ hx, h y _ hy, h z _ hz]
  simp [run_sliceAt_string w t _ _ _ _ hT.und, run_slice_string w t (mk s) k k' i j hT.und h0 h1 (by rw [mk_size]; exact h2), mk_extract]⟩
theorem do_sliceSL {t : TypeId} [hT : TStr P t] {x y : Operand} {s : List UInt8} {k : IntKind} {i : Int} (hx : fr.ev x = some (.string (mk s))) (hy : fr.ev y = some (.int k i)) (h0 : 0 ≤ i) (h1 : i ≤ s.length) :
    Does P ⟨some d, .slice t x (some y) none none, ty, pos, af, none⟩ fr w (.string (mk (s.drop i.toNat))) := ⟨fun ρ h => by
  show (do pure (Next.value (← Instr.sliceAt t (ρ x) (some (ρ y)) none none)) : Sem Next).run P w = _
  rw [h x _ hx, h y _ hy]
  simp [run_sliceAt_string w t _ _ _ _ hT.und, run_slice_string_l w t (mk s) hT.und k i h0 (by rw [mk_size]; exact h1), mk_extract, mk_size]⟩
theorem do_sliceSH {t : TypeId} [hT : TStr P t] {x y : Operand} {s : List UInt8} {k : IntKind} {i : Int} (hx : fr.ev x = some (.string (mk s))) (hy : fr.ev y = some (.int k i)) (h0 : 0 ≤ i) (h1 : i ≤ s.length) :
    Does P ⟨some d, .slice t x none (some y) none, ty, pos, af, none⟩ fr w (.string (mk (s.take i.toNat))) := ⟨fun ρ h => by
  show (do pure (Next.value (← Instr.sliceAt t (ρ x) none (some (ρ y)) none)) : Sem Next).run P w = _
  rw [h x _ hx, h y _ hy]
  simp [run_sliceAt_string w t _ _ _ _ hT.und, run_slice_string_h w t (mk s) hT.und k i h0 (by rw [mk_size]; exact h1), mk_extract]⟩
/-- The length of a string, as its list's. -/
theorem do_lenS {t : TypeId} [hT : TStr P t] {x : Operand} {s : List UInt8} (hx : fr.ev x = some (.string (mk s))) :
    Does P ⟨some d, .call ⟨.builtin .len, #[x], #[t]⟩, ty, pos, af, none⟩ fr w (.int .i64 s.length) := by
  have := do_lenStr (P := P) (d := d) (ty := ty) (pos := pos) (af := af) (w := w) (t := t) hx
  rwa [mk_size] at this
end
end Go.Proofs.YtnemajefpgicgaaDoor
