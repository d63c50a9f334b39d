/-
  Conversions between numbers, bytes and strings; results of which the first is a struct in a cell.
-/
import Derived.Test.YtnemajefpgicgaaDoorFlPair
import Derived.Laws.IdiomStrings
import Derived.Laws.ResultCell
import Derived.Laws.Rows
namespace Go.Proofs.YtnemajefpgicgaaDoor
open Go Go.RowKit
set_option linter.unusedVariables false
set_option linter.unusedSimpArgs false

theorem flat_u8 : ∀ bs : List UInt8, bs.flatMap tU8.enc = bs.map (fun x => Value.int .u8 x.toNat)
  | [] => rfl
  | x :: r => by simp only [List.flatMap_cons, List.map_cons, flat_u8 r]; rfl
section
variable {P : Program} {ops : Array Oper} {Q : Exit → Act → World → Prop} {n : Nat} {fr : Fr} {w w0 : World} {rest : List Oper}
variable {d : Nat} {ty : TypeId} {pos : String} {af : Array Edge} {QQ : Act → Prop} {C : World → Prop}

theorem wrap_u8 {i : Int} (h0 : 0 ≤ i) (h1 : i ≤ 255) : IntKind.u8.wrap i = i := by
  unfold IntKind.wrap
  simp [IntKind.signed, IntKind.bits]
  omega
theorem do_convU8 {t t' : TypeId} {ds : TypeDesc} {x : Operand} {k : IntKind} {i : Int} (hs : P.underlying t = some ds) (hd : P.underlying t' = some (.int .u8)) (hx : fr.ev x = some (.int k i))
    (h0 : 0 ≤ i) (h1 : i ≤ 255) : Does P ⟨some d, .convert t t' x, ty, pos, af, none⟩ fr w (.int .u8 i) := ⟨fun ρ h => by
  have := wrap_u8 h0 h1
  simp [execOp, h x _ hx, convert, run_underlying hs, run_underlying hd, Conv.intToInt, this, go_sem]⟩

theorem do_bytesStr {t t' e : TypeId} {x : Operand} {v : Value} {bs : List UInt8} (hs : P.underlying t = some (.slice e)) (he : P.underlying e = some (.int .u8)) (hd : P.underlying t' = some .string) (hx : fr.ev x = some v) (hR : RdL tU8 w v bs) :
    Does P ⟨some d, .convert t t' x, ty, pos, af, none⟩ fr w (.string (mk bs)) := ⟨fun ρ h => by
  obtain ⟨hl, a, cap, rfl, _, _, h4⟩ := hR.rd
  have hrun : (convert t t' (.slice a bs.length cap)).run P w = .ok (.string (mk bs)) w := by
    rcases h4 with ⟨rfl, rfl⟩ | ⟨b, rfl, hp⟩
    · have hl0 : bs.length = 0 := by
        obtain ⟨a', cap', e1, hc, _⟩ := hR.slice
        injection e1 with _ _ e3
        omega
      have hb : bs = [] := List.eq_nil_of_length_eq_zero hl0
      subst hb
      rw [show ([] : List UInt8).length = 0 from rfl, run_convert_bytes_string w t t' e none 0 0 hs he hd]
      simp [Conv.bytesToString]
      rfl
    · refine run_convert_bytes_back w t t' e b cap bs hs he hd (fun j hj => ?_)
      refine hp j _ ?_
      have hf := flat_u8 bs
      rw [hf, List.getElem?_map, List.getElem?_eq_getElem hj]; rfl
  show (do pure (Next.value (← convert t t' (ρ x))) : Sem Next).run P w = _
  rw [h x _ hx]
  simp [hrun]⟩
/-- In a drawn region. -/
theorem LQ_bytesStr {t t' e : TypeId} {x : Operand} {v : Value} {bs : List UInt8} (hs : P.underlying t = some (.slice e)) (he : P.underlying e = some (.int .u8)) (hd : P.underlying t' = some .string) (hx : fr.ev x = some v) (hR : ∀ w', C w' → RdL tU8 w' v bs) (hdn : Nat.blt d n = true)
    (kk : LQ P ops C QQ n rest ((d, .string (mk bs)) :: fr)) : LQ P ops C QQ n (⟨some d, .convert t t' x, ty, pos, af, none⟩ :: rest) fr :=
  LQ_do rfl rfl hdn (fun w' hw' => do_bytesStr hs he hd hx (hR w' hw')) kk

theorem At_endCell2 {fn : Func} {R : Value → World → Prop} {t u b ty : Nat} {size : Nat} {z x : Value} {cs : Array Value} {e : TypeId} {f : Nat × Nat} [hT : TStruct P ty size z] (hres : fn.results = #[.cell t ty, .tmp u]) (hv : fr.get t = some (.pointer (some ⟨b, 0, none⟩)))
    (hx : fr.get u = some x) (hg : w.heap[b]? = some (.cells cs e f)) (hs : cs.size = size) (hR : R (.tuple #[.agg cs, x]) w) : At (bodyPost P fn (Ret R)) .ret n fr w := ⟨fun a s => by
  obtain ⟨fs, hu⟩ := hT.und
  have hi : (P.info? ty).map (·.size) = some cs.size := by
    have h0 := hT.info
    cases hi : P.info? ty with
    | none => simp [hi] at h0
    | some i => simp [hi] at h0 ⊢; rw [hs]; exact h0.2
  refine ⟨s.defers, .tuple #[.agg cs, x], ?_, _, rfl, hR⟩
  rw [results_cell_tmp hres, s.getD hv, s.getD hx]
  have hl := run_loadVar_row (P := P) w b e ty cs f _ hg hu rfl hi
  simp [asAddr, hl, Result.andThen]⟩
end
end Go.Proofs.YtnemajefpgicgaaDoor
