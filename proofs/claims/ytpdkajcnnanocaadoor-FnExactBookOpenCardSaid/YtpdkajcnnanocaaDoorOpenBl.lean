/-
  Arguments as they are read: files; bytes of a code.
-/
import Derived.Test.YtpdkajcnnanocaaDoorBlob
import Derived.Test.YtpdkajcnnanocaaDoorOpen
namespace Go.Proofs.YtpdkajcnnanocaaDoor
open Go Go.RowKit Go.ChangeShapes Go.WideShapes Go.ChangeAt
set_option linter.unusedVariables false

set_option maxRecDepth 100000 in
theorem open_blobs {H : Type} {enc : TypeId × Value → H} {w : World} {base : Nat} {spare : Nat → Bool} {held : Bool} {fuel : Nat} {v : Value} {x : DataW H × List MemPlace}
    (h : DataW.trod enc Tryd.prog w base spare held fuel 22 [v] = some x) : ∃ rows bs, RdBl w v rows bs := by
  obtain ⟨rows, hr, hall⟩ := rdl_open (P := Tryd.prog) tRow3 (fun r => ∃ s f, RdL tInt w r.safe s ∧ RdL tInt w r.fresh f) Tryd.underlying22 (by kernel_rfl) (by decide) h (fun cs n y hy => by
    obtain ⟨xs, n', _, _, hl, hxl, hg⟩ := DataW.trod_struct Tryd.underlying43 hy
    have hc3 : Tryd.prog.cellsOf 43 = 3 := by kernel_rfl
    have hci : Tryd.prog.cellsOf 3 = 1 := by kernel_rfl
    have hcs : Tryd.prog.cellsOf 38 = 1 := by kernel_rfl
    rw [hc3] at hl
    match cs, hl with
    | [c0, c1, c2], _ =>
      match xs, hxl with
      | [y0, y1, y2], _ =>
        have g0 := hg 0 _ rfl
        have g1 := hg 1 _ rfl
        have g2 := hg 2 _ rfl
        have g0' : DataW.trod enc Tryd.prog w base spare held n' 3 [c0] = some y0 := g0
        have g1' : DataW.trod enc Tryd.prog w base spare held n' 38 [c1] = some y1 := g1
        have g2' : DataW.trod enc Tryd.prog w base spare held n' 38 [c2] = some y2 := g2
        obtain ⟨nm, h0, _, _⟩ := DataW.trod_int Tryd.underlying3 g0'
        obtain ⟨s, hs⟩ := open_ints_rdl Tryd.underlying38 Tryd.underlying3 (by kernel_rfl) g1'
        obtain ⟨f, hf⟩ := open_ints_rdl Tryd.underlying38 Tryd.underlying3 (by kernel_rfl) g2'
        have o1 : c1.oneCell' = true := by obtain ⟨a, c, rfl, _⟩ := hs.slice; rfl
        have o2 : c2.oneCell' = true := by obtain ⟨a, c, rfl, _⟩ := hf.slice; rfl
        refine ⟨⟨nm, c1, c2, o1, o2⟩, ?_, s, f, hs, hf⟩
        simp only [List.cons.injEq, and_true] at h0
        subst h0
        rfl)
  obtain ⟨bs, hbl, hb⟩ := list_of_choice (α := Bl) rows.length (fun i b => ∀ r, rows[i]? = some r → BlOf w r b) (fun i hi => by
    obtain ⟨s, f, hs, hf⟩ := hall i _ (List.getElem?_eq_getElem hi)
    exact ⟨⟨rows[i].name, s, f⟩, fun r hr => by
      rw [List.getElem?_eq_getElem hi] at hr
      cases hr
      exact ⟨rfl, hs, hf⟩⟩)
  refine ⟨rows, bs, ⟨hr, hbl.symm, fun i r hi => ?_⟩⟩
  have hlt : i < bs.length := by rw [hbl]; exact (List.getElem?_eq_some_iff.1 hi).1
  exact ⟨bs[i], List.getElem?_eq_getElem hlt, hb i _ (List.getElem?_eq_getElem hlt) r hi⟩

theorem open_u8_rdl {H : Type} {enc : TypeId × Value → H} {P : Program} {w : World} {base : Nat} {spare : Nat → Bool} {held : Bool} {t e fuel : Nat} {v : Value} {x : DataW H × List MemPlace} (ht : P.underlying t = some (.slice e)) (he : P.underlying e = some (.int .u8)) (hC : P.cellsOf e = 1)
    (h : DataW.trod enc P w base spare held fuel t [v] = some x) : ∃ xs : List UInt8, RdL tU8 w v xs := by
  obtain ⟨xs, hx, _⟩ := rdl_open tU8 (fun _ => True) ht hC (by decide) h (fun cs n y hy => by
    obtain ⟨k, hk, _, hw⟩ := DataW.trod_int he hy
    have h2 : IntKind.u8.min = 0 := rfl
    have h3 : IntKind.u8.max = 255 := rfl
    simp only [Lit.wf, Bool.and_eq_true, decide_eq_true_eq] at hw
    refine ⟨UInt8.ofNat k.toNat, ?_, trivial⟩
    have : ((UInt8.ofNat k.toNat).toNat : Int) = k := by
      rw [UInt8.toNat_ofNat_of_lt' (by simp only [UInt8.size]; omega)]
      omega
    rw [hk]
    show [Value.int .u8 k] = [Value.int .u8 ((UInt8.ofNat k.toNat).toNat : Int)]
    rw [this])
  exact ⟨xs, hx⟩
end Go.Proofs.YtpdkajcnnanocaaDoor
