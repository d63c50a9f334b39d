/-
  The statement of the law FnExactDiskValid: for every input the call returns true, and the argument reads as it did. No condition.
-/
import Derived.Test.YtkdlcnkjjkmonaaLawValid
import Derived.Test.YtkdlcnkjjkmonaaOpen
import Derived.Test.YtkdlcnkjjkmonaaRows
namespace Go.Proofs.Ytkdlcnkjjkmonaa.exactDiskValid
open Go Go.RowKit Go.ChangeShapes Go.WideShapes Go.ChangeAt
set_option linter.unusedVariables false

theorem own : ownKnob Try.prog.godebug = none := by kernel_rfl
theorem laidOut : laidOutB Try.prog = true := by kernel_rfl

theorem open_blobs {H : Type} {enc : TypeId × Value → H} {w : World} {base : Nat} {spare : Nat → Bool} {held : Bool} {fuel : Nat} {v : Value} {x : DataW H × List MemPlace}
    (h : DataW.trod enc Try.prog w base spare held fuel 27 [v] = some x) : ∃ rows bs, RdBl w v rows bs := by
  obtain ⟨rows, hr, hall⟩ := rdl_open (P := Try.prog) tRow3 (fun r => ∃ s f, RdL tInt w r.safe s ∧ RdL tInt w r.fresh f) Try.underlying27 (by kernel_rfl) (by decide) h (fun cs n y hy => by
    obtain ⟨xs, n', _, _, hl, hxl, hg⟩ := DataW.trod_struct Try.underlying52 hy
    have hc3 : Try.prog.cellsOf 52 = 3 := by kernel_rfl
    have hci : Try.prog.cellsOf 3 = 1 := by kernel_rfl
    have hcs : Try.prog.cellsOf 32 = 1 := by kernel_rfl
    rw [hc3] at hl
    match cs, hl with
    | [c0, c1, c2], _ =>
      match xs, hxl with
      | [y0, y1, y2], _ =>
        have g0 := hg 0 _ rfl
        have g1 := hg 1 _ rfl
        have g2 := hg 2 _ rfl
        have g0' : DataW.trod enc Try.prog w base spare held n' 3 [c0] = some y0 := g0
        have g1' : DataW.trod enc Try.prog w base spare held n' 32 [c1] = some y1 := g1
        have g2' : DataW.trod enc Try.prog w base spare held n' 32 [c2] = some y2 := g2
        obtain ⟨nm, h0, _, _⟩ := DataW.trod_int Try.underlying3 g0'
        obtain ⟨s, hs⟩ := open_ints_rdl Try.underlying32 Try.underlying3 (by kernel_rfl) g1'
        obtain ⟨f, hf⟩ := open_ints_rdl Try.underlying32 Try.underlying3 (by kernel_rfl) g2'
        have o1 : c1.oneCell' = true := by obtain ⟨a, c, rfl, _⟩ := hs.slice; rfl
        have o2 : c2.oneCell' = true := by obtain ⟨a, c, rfl, _⟩ := hf.slice; rfl
        refine ⟨⟨nm, c1, c2, o1, o2⟩, ?_, s, f, hs, hf⟩
        simp only [List.cons.injEq, and_true] at h0
        subst h0
        rfl)
  obtain ⟨bs, hbl, hb⟩ := list_of_choice (α := Bl) rows.length (fun i b => ∀ r, rows[i]? = some r → BlOf w r b) (fun i hi => by
    obtain ⟨s, f, hs, hf⟩ := hall i _ (List.getElem?_eq_getElem hi)
    exact ⟨⟨rows[i].name, s, f⟩, fun r hr => by
      rw [List.getElem?_eq_getElem hi] at hr
      cases hr
      exact ⟨rfl, hs, hf⟩⟩)
  refine ⟨rows, bs, ⟨hr, hbl.symm, fun i r hi => ?_⟩⟩
  have hlt : i < bs.length := by rw [hbl]; exact (List.getElem?_eq_some_iff.1 hi).1
  exact ⟨bs[i], List.getElem?_eq_getElem hlt, hb i _ (List.getElem?_eq_getElem hlt) r hi⟩

theorem walk (v : Value) (rows : List Row3) (bs : List Bl) (w : World) (h : RdBl w v rows bs) :
    Calls Try.prog 4 #[v] w fun e w' => e = .returned (.bool true) ∧ Below w.heap.size w w' :=
  (c_FnExactDiskValid h).run.mono fun e w' ⟨u, he, hu, hB⟩ => by subst hu; exact ⟨he, hB⟩

set_option maxRecDepth 100000 in
theorem lifted (os : Os) (started : os.Started) (H : Type) (enc : TypeId × Value → H) :
    ReturnsInHanded {} Try.checked os 4 .any (Rows.fnExactDiskValidSpec.pre6 enc Try.prog Try.f4 Rows.fnExactDiskValidRow.domain false) (Rows.fnExactDiskValidSpec.post enc Try.prog Try.f4 false true false false) := by
  refine returnsInHanded_of_change (C := Try.checked) own started (by kernel_rfl) Try.func4
    (ChangeSpec.witness6 (enc := enc) (C := Try.checked) false ⟨#[], #[.slice none 0 0], []⟩ 8 (by kernel_rfl) (by kernel_rfl) (by kernel_rfl) (by kernel_rfl)) ?_
  intro W base args ds gs before hval0 hW hcnd _
  have hval : ∀ (j : Nat) t v, Try.f4.params[j]? = some t → args[j]? = some v → Value.okWide Try.prog W .any base t v := hval0
  have hW' := hW
  obtain ⟨p, q, hA0, hV, rfl, hfz, hnd⟩ := hW
  have hA : DataW.TrodAll enc Try.prog W 0 (fun _ => true) true Try.f4.params.toList args.toList ds p := hA0
  rw [Try.params4] at hA hval
  obtain ⟨v0, vs0, d0, ds0, p0, q0, hargs, rfl, rfl, h0, r0⟩ := trodAll_cons hA
  obtain ⟨rfl, rfl, rfl⟩ := trodAll_nil r0
  obtain rfl : args = #[v0] := by cases args; simp_all
  obtain ⟨rfl, rfl⟩ := trodVars_none hV
  obtain ⟨a0, len0, cap0, rfl⟩ := okWide_slice Try.underlying27 (hval 0 27 v0 rfl rfl)
  have k0 := h0
  have lt0 : ∀ x ∈ p0, x.block < W.heap.size := by obtain ⟨m, hm⟩ := k0; exact DataW.trod_lt m _ _ _ hm
  obtain ⟨rows, bs, w0⟩ : ∃ rows bs, RdBl W (.slice a0 len0 cap0) rows bs := by
    obtain ⟨fuel, hf⟩ := h0
    exact open_blobs (by simpa [Value.cells] using hf)
  clear hA0 hval0
  refine (walk _ rows bs W w0).mono fun e W' ⟨he, bel⟩ => ?_
  subst he
  exact ⟨_, rfl, _, _, _, [], _, [], hW', trodAll_mk1 (shut_bool Try.underlying4 _), (trodAll_cons_mk (Below.trod laidOut (by kernel_rfl) (of_decide_eq_true (by kernel_rfl)) k0 bel lt0) trodAll_mk0), rfl, bel.frame _, fun h => by cases h⟩

theorem over : Rows.fnExactDiskValidRow.holds Try.pinned (OpenSpec.ofChange Rows.fnExactDiskValidSpec) :=
  OpenClaim.holds_of_wide 4 Try.f4 rfl rfl rfl rfl rfl rfl rfl ⟨rfl, rfl, rfl, rfl, rfl⟩ rfl rfl rfl rfl rfl (by kernel_rfl) Try.func4 (by kernel_rfl)
    (of_decide_eq_true (by kernel_rfl)) (by unfold Func.isWrapper; first | (rw [if_pos (by decide +kernel)]; kernel_rfl) | (rw [if_neg (by decide +kernel)]; exact ⟨rfl, rfl⟩))
    (fun os started H enc _ => lifted os started H enc)

theorem proved : Rows.FnExactDiskValidSaid := over
end Go.Proofs.Ytkdlcnkjjkmonaa.exactDiskValid
