/-
  A slice between two bounds; slices whose elements are slices.
-/
import Derived.Test.YtnemajefpgicgaaDoorFlConv
namespace Go.Proofs.YtnemajefpgicgaaDoor
open Go Go.RowKit
set_option linter.unusedVariables false
set_option linter.unusedSimpArgs false
section
variable {α : Type} {T : Ty α}
variable {P : Program} {ops : Array Oper} {Q : Exit → Act → World → Prop} {n : Nat} {fr : Fr} {w w0 : World} {rest : List Oper}
variable {d : Nat} {ty : TypeId} {pos : String} {af : Array Edge} {QQ : Act → Prop} {C : World → Prop}
theorem do_sliceLH {t e size bytes : Nat} {z : Value} [hT : TSlice P t e size bytes z] {x y y2 : Operand} {a : Option Addr} {len cap : Nat} {k k2 : IntKind} {i j : Int} (hx : fr.ev x = some (.slice a len cap)) (hy : fr.ev y = some (.int k i)) (hy2 : fr.ev y2 = some (.int k2 j))
    (h0 : 0 ≤ i) (h1 : i ≤ j) (h2 : j ≤ cap) : Does P ⟨some d, .slice t x (some y) (some y2) none, ty, pos, af, none⟩ fr w (sliced a i.toNat j.toNat cap size) := ⟨fun ρ h => by
  obtain ⟨inf, hinf, hz, hiz, hib⟩ := hT.parts
  have hel : P.elem t = e := by have := elem_of hT.und; rw [hT.und] at this; injection this with this; injection this with this; exact this.symm
  show (do pure (Next.value (← Instr.sliceAt t (ρ x) (some (ρ y)) (some (ρ y2)) none)) : Sem Next).run P w = _
  rw [h x _ hx, h y _ hy, h y2 _ hy2]
  have := run_slice_lh (P := P) w t a len cap (elem_of hT.und) k k2 i j h0 h1 h2
  simp [run_sliceAt_slice w t _ (some (.int k i)) (some (.int k2 j)) none (elem_of hT.und), this, sizeOf, typeInfo, hel, hinf, hiz, Result.andThen]⟩
theorem L_sliceLH {t e size bytes : Nat} {z : Value} [hT : TSlice P t e size bytes z] {x y y2 : Operand} {v : Value} {xs : List α} {k k2 : IntKind} {i j : Int} (hx : fr.ev x = some v) (hy : fr.ev y = some (.int k i)) (hy2 : fr.ev y2 = some (.int k2 j)) (hR : RdL T w v xs) (hs : T.size = size)
    (h0 : 0 ≤ i) (h1 : i ≤ j) (h2 : j ≤ xs.length) (hdn : Nat.blt d n = true) (kk : ∀ v', RdL T w v' ((xs.take j.toNat).drop i.toNat) → v'.ownBlock = v.ownBlock → L P ops Q n rest ((d, v') :: fr) w) :
    L P ops Q n (⟨some d, .slice t x (some y) (some y2) none, ty, pos, af, none⟩ :: rest) fr w := by
  subst hs
  obtain ⟨a, cap, rfl, hc, hr, hb⟩ := sliced_rd hR (lo := i.toNat) (hi := j.toNat) (by omega) (by omega)
  exact L_do rfl rfl hdn (do_sliceLH hx hy hy2 h0 h1 (by omega)) (kk _ hr hb)
theorem LQ_sliceLH {t e size bytes : Nat} {z : Value} [hT : TSlice P t e size bytes z] {x y y2 : Operand} {v : Value} {xs : List α} {k k2 : IntKind} {i j : Int} (hx : fr.ev x = some v) (hy : fr.ev y = some (.int k i)) (hy2 : fr.ev y2 = some (.int k2 j)) (hR : RdL T w v xs) (hs : T.size = size)
    (h0 : 0 ≤ i) (h1 : i ≤ j) (h2 : j ≤ xs.length) (hdn : Nat.blt d n = true) (kk : ∀ v', RdL T w v' ((xs.take j.toNat).drop i.toNat) → v'.ownBlock = v.ownBlock → LQ P ops C QQ n rest ((d, v') :: fr)) :
    LQ P ops C QQ n (⟨some d, .slice t x (some y) (some y2) none, ty, pos, af, none⟩ :: rest) fr := by
  subst hs
  obtain ⟨a, cap, rfl, hc, hr, hb⟩ := sliced_rd hR (lo := i.toNat) (hi := j.toNat) (by omega) (by omega)
  exact LQ_do rfl rfl hdn (fun _ _ => do_sliceLH hx hy hy2 h0 h1 (by omega)) (kk _ hr hb)
end

/-- An element that is itself one slice value. -/
structure Sl1 where
  v : Value
  s : v.oneCell' = true
def tSl : Ty Sl1 := ⟨1, fun b => [b.v], fun _ => rfl, fun b u h => by simp at h; subst h; exact b.s⟩
section
variable {α β : Type} {T : Ty α} {U : Ty β} {w w' : World} {base e e2 : Nat} {v : Value} {xs : List α}
theorem RdL.one (h : RdL T w v xs) : v.oneCell' = true := by obtain ⟨a, c, rfl, _⟩ := h.slice; rfl
theorem RdL.cells1 (h : RdL T w v xs) : v.cells = #[v] := by obtain ⟨a, c, rfl, _⟩ := h.slice; rfl
theorem RdL.some_ (h : RdL T w v xs) (hne : xs ≠ []) : ∃ a cap, v = .slice (some a) xs.length cap := by
  obtain ⟨_, a, cap, rfl, h1, h2, h3⟩ := h.rd
  rcases h3 with ⟨rfl, rfl⟩ | ⟨b, rfl, _⟩
  · exact absurd (List.eq_nil_of_length_eq_zero (by omega)) hne
  · exact ⟨b, cap, rfl⟩
/-- The slice value v reads as lists. -/
structure RdLL (U : Ty β) (w : World) (v : Value) (rows : List Sl1) (bs : List (List β)) : Prop where
  rd : RdL tSl w v rows
  len : rows.length = bs.length
  at_ : ∀ (i : Nat) r, rows[i]? = some r → ∃ b, bs[i]? = some b ∧ RdL U w r.v b
theorem RdLL.ext {rows : List Sl1} {bs : List (List β)} (h : RdLL U w v rows bs) (hB : Below w.heap.size w w') : RdLL U w' v rows bs :=
  ⟨h.rd.ext hB, h.len, fun i r hr => let ⟨b, hb, hr'⟩ := h.at_ i r hr; ⟨b, hb, hr'.ext hB⟩⟩
/-- The call owns the slice v of slices, and these. -/
structure OwLL (U : Ty β) (w : World) (base e e2 : Nat) (v : Value) (rows : List Sl1) (bs : List (List β)) : Prop where
  own : OwL tSl w base e v rows
  len : rows.length = bs.length
  at_ : ∀ (i : Nat) r, rows[i]? = some r → ∃ b, bs[i]? = some b ∧ OwL U w base e2 r.v b
variable {rows : List Sl1} {bs : List (List β)}
theorem OwLL.ext (h : OwLL U w base e e2 v rows bs) (hB : Below w.heap.size w w') : OwLL U w' base e e2 v rows bs :=
  ⟨h.own.ext hB, h.len, fun i r hr => let ⟨b, hb, hr'⟩ := h.at_ i r hr; ⟨b, hb, hr'.ext hB⟩⟩
theorem OwLL.rd (h : OwLL U w base e e2 v rows bs) : RdLL U w v rows bs :=
  ⟨h.own.rd, h.len, fun i r hr => let ⟨b, hb, hr'⟩ := h.at_ i r hr; ⟨b, hb, hr'.rd⟩⟩
/-- One more row. -/
theorem OwLL.push {v2 : Value} {r : Sl1} {b : List β} (h : OwLL U w base e e2 v rows bs) (hb : OwL U w base e2 r.v b) (he : e2 ≠ e) (ho : OwL tSl w' base e v2 (rows ++ [r])) (hg : w.grownBy w' v.ownBlock) : OwLL U w' base e e2 v2 (rows ++ [r]) (bs ++ [b]) := by
  refine ⟨ho, by simp [h.len], fun i r' hr' => ?_⟩
  by_cases hi : i < rows.length
  · rw [List.getElem?_append_left hi] at hr'
    obtain ⟨b', hb', ho'⟩ := h.at_ i r' hr'
    exact ⟨b', by rw [List.getElem?_append_left (by rw [← h.len]; exact hi)]; exact hb', ho'.kept hg (ho'.ne_ty h.own he)⟩
  · have hi2 := (List.getElem?_eq_some_iff.1 hr').1
    simp at hi2
    have hi3 : i = rows.length := by omega
    subst hi3
    rw [List.getElem?_append_right (Nat.le_refl _), Nat.sub_self] at hr'
    obtain rfl : r = r' := by simpa using hr'
    exact ⟨b, by rw [List.getElem?_append_right (by rw [h.len]; exact Nat.le_refl _), h.len, Nat.sub_self]; rfl, hb.kept hg (hb.ne_ty h.own he)⟩
/-- A slice of another element type is written. -/
theorem OwLL.kept {γ : Type} {V : Ty γ} {b' e' : Nat} {v2 : Value} {ys : List γ} (h : OwLL U w base e e2 v rows bs) (h2 : OwL V w b' e' v2 ys) (he : e ≠ e') (he2 : e2 ≠ e') (hg : w.grownBy w' v2.ownBlock) : OwLL U w' base e e2 v rows bs :=
  ⟨h.own.kept hg (h.own.ne_ty h2 he), h.len, fun i r hr => let ⟨b, hb, hr'⟩ := h.at_ i r hr; ⟨b, hb, hr'.kept hg (hr'.ne_ty h2 he2)⟩⟩
end
end Go.Proofs.YtnemajefpgicgaaDoor
