/-
  Rows of the call's own, written in pieces: copy, clear, a rest of a row, zeros behind a beginning.
-/
import Derived.Test.YtjobbcdolbhadaaGreatDoorFlB
import Derived.Laws.CopyRow
import Derived.Lib.Overlaps
namespace Go.Proofs.YtjobbcdolbhadaaGreatDoor
open Go Go.RowKit
set_option linter.unusedVariables false
set_option linter.unusedSimpArgs false

section
variable {P : Program} {ops : Array Oper} {Q : Exit → Act → World → Prop} {n : Nat} {fr : Fr} {w w0 : World} {rest : List Oper}
variable {d : Nat} {ty : TypeId} {pos : String} {af : Array Edge} {QQ : Act → Prop} {α : Type} {T : Ty α} {C : World → Prop}

theorem L_run0 {o : Oper} (hg : o.guard = none) (hd : o.dst = none) {v : Value} {w' : World}
    (hrun : ∀ ρ : Operand → Value, (∀ x u, fr.ev x = some u → ρ x = u) → (execOp ρ o).run P w = .ok (.value v) w')
    (k : L P ops Q n rest fr w') : L P ops Q n (o :: rest) fr w := by
  refine ⟨fun a s => ?_⟩
  unfold wpList
  rw [if_pos (by simp [Region.wanted, hg])]
  refine .inl ?_
  unfold Oper.wp
  rw [hrun a.eval (fun x u e => s.ev e)]
  simp only [Oper.upon, hd]
  exact k.run _ s

/-- The cells of a row, some of them overwritten. -/
def laid (cur : Array Value) (o : Nat) (us : List Value) : Array Value := (cur.toList.take o ++ us ++ cur.toList.drop (o + us.length)).toArray
theorem laid_size (cur : Array Value) (o : Nat) (us : List Value) (h : o + us.length ≤ cur.size) : (laid cur o us).size = cur.size := by
  unfold laid; simp; omega
theorem heap_setRow {w : World} {g e : Nat} {cur cs : Array Value} (hg : w.heap[g]? = some (.cells cur e (0, 0))) : (w.setRow g cs).heap[g]? = some (.cells cs e (0, 0)) ∧ w.grownBy (w.setRow g cs) (some g) ∧ (w.setRow g cs).heap.size = w.heap.size := by
  refine ⟨?_, ⟨rfl, rfl, rfl, by simp, fun k hk hne => ?_⟩, by simp⟩
  · simp only [World.setRow, Array.getElem?_modify, if_pos, hg, Option.map_some]
  · simp only [World.setRow, Array.getElem?_modify]
    rw [if_neg (fun e => hne (by rw [e]))]

theorem run_copy_rowK {t t' ty e s : Nat} {g o dl dc : Nat} {a : Addr} {sl sc e' : Nat} {cur : Array Value} {us : List Value}
    (hu : P.underlying t = some (.slice e)) (hs : (P.info? e).map (·.size) = some s) (hg : w.heap[g]? = some (.cells cur e' (0, 0))) (hn : us.length = Nat.min sl dl * s)
    (hp : Pt w a us) (hfit : o + us.length ≤ cur.size) (h1 : ∀ v ∈ us, v.oneCell' = true) :
    (Builtin.copy_ #[t, t'] ty #[.slice (some ⟨g, o, none⟩) dl dc, .slice (some a) sl sc]).run P w = .ok (goInt (Nat.min sl dl)) (w.setRow g (laid cur o us)) := by
  have hl := run_loadCells_list (P := P) w a us hp
  have hst := run_storeCells_at P g o e' us 0 cur w hg (by simpa using hfit) h1
  simp only [Nat.add_zero] at hst
  cases hq : P.info? e with
  | none => simp [hq] at hs
  | some i =>
    have hi : i.size = s := by simpa [hq] using hs
    simp [Builtin.copy_, run_underlying hu, Builtin.lenOf, Builtin.firstCells, sizeOf, typeInfo, hq, hi, ← hn, hl, hst, laid]

theorem L_copyRow {t t' e size bytes : Nat} {z : Value} [hT : TSlice P t e size bytes z] {x y : Operand} {g o dl dc : Nat} {a : Addr} {sl sc e' : Nat} {cur : Array Value} {us : List Value}
    (hx : fr.ev x = some (.slice (some ⟨g, o, none⟩) dl dc)) (hy : fr.ev y = some (.slice (some a) sl sc)) (hg : w.heap[g]? = some (.cells cur e' (0, 0))) (hn : us.length = Nat.min sl dl * size)
    (hp : Pt w a us) (hfit : o + us.length ≤ cur.size) (h1 : ∀ v ∈ us, v.oneCell' = true) (hdn : Nat.blt d n = true)
    (kk : ∀ w', w'.heap[g]? = some (.cells (laid cur o us) e' (0, 0)) → w.grownBy w' (some g) → w'.heap.size = w.heap.size → L P ops Q n rest ((d, .int .i64 (Nat.min sl dl : Nat)) :: fr) w') :
    L P ops Q n (⟨some d, .call ⟨.builtin .copy, #[x, y], #[t, t']⟩, ty, pos, af, none⟩ :: rest) fr w := by
  obtain ⟨inf, hinf, _, hsz, _⟩ := hT.parts
  obtain ⟨h2, h3, h4⟩ := heap_setRow (cs := laid cur o us) hg
  refine L_run rfl rfl hdn (fun ρ h => ?_) (kk _ h2 h3 h4)
  have e1 := h x _ hx
  have e2 := h y _ hy
  rw [BigFrame.execOp_builtin, BigFrame.builtin_copy]
  have e3 : Array.map ρ #[x, y] = #[.slice (some ⟨g, o, none⟩) dl dc, .slice (some a) sl sc] := by simp [e1, e2]
  rw [e3]
  simp [run_copy_rowK (P := P) (t' := t') (ty := ty) hT.und (by rw [hinf]; simp [hsz]) hg hn hp hfit h1, goInt]

/-- The rest of a slice of the call's own. -/
theorem do_sliceRowL {t e size bytes : Nat} {z : Value} [hT : TSlice P t e size bytes z] {x y : Operand} {g o len cap : Nat} {k : IntKind} {i : Nat} (hx : fr.ev x = some (.slice (some ⟨g, o, none⟩) len cap)) (hy : fr.ev y = some (.int k i)) (h1 : i ≤ len) (h2 : i < cap) :
    Does P ⟨some d, .slice t x (some y) none none, ty, pos, af, none⟩ fr w (.slice (some ⟨g, o + i * size, none⟩) (len - i) (cap - i)) := by
  have h := do_sliceL (P := P) (d := d) (ty := ty) (pos := pos) (af := af) (w := w) (t := t) hx hy (by omega) (by omega)
  have hv : sliced (some ⟨g, o, none⟩) (i : Int).toNat len cap size = .slice (some ⟨g, o + i * size, none⟩) (len - i) (cap - i) := by
    unfold sliced
    have : ¬ cap - (i : Int).toNat = 0 := by omega
    rw [if_neg (by omega)]
    simp [Int.toNat_natCast, addr_add0]
  rw [hv] at h; exact h
/-- A beginning of a slice of the call's own, as far as its cells go. -/
theorem do_sliceRowH {t e size bytes : Nat} {z : Value} [hT : TSlice P t e size bytes z] {x y : Operand} {g o len cap : Nat} {k : IntKind} {i : Nat} (hx : fr.ev x = some (.slice (some ⟨g, o, none⟩) len cap)) (hy : fr.ev y = some (.int k i)) (h1 : i ≤ cap) :
    Does P ⟨some d, .slice t x none (some y) none, ty, pos, af, none⟩ fr w (.slice (some ⟨g, o, none⟩) i cap) := by
  have h := do_sliceH (P := P) (d := d) (ty := ty) (pos := pos) (af := af) (w := w) (t := t) hx hy (by omega) (by omega)
  have hv : sliced (some ⟨g, o, none⟩) 0 (i : Int).toNat cap size = .slice (some ⟨g, o, none⟩) i cap := by
    unfold sliced
    by_cases hc : cap = 0
    · have h0 : i = 0 := by omega
      subst hc; subst h0; rfl
    · rw [if_neg (by omega)]; simp [Addr.add]
  rw [hv] at h; exact h

/-- What a slice of the call's own is, written out. -/
theorem OwL.row {base e : Nat} {v : Value} {xs : List α} (h : OwL T w base e v xs) (hne : xs ≠ []) : ∃ g cap cur, v = .slice (some ⟨g, 0, none⟩) xs.length cap ∧ base ≤ g ∧ w.heap[g]? = some (.cells cur e (0, 0)) ∧ xs.length ≤ cap ∧ cap ≤ maxLen ∧ cur.size = cap * T.size ∧ cur.toList.take (xs.length * T.size) = xs.flatMap T.enc := by
  obtain ⟨_, ho⟩ := h.own
  rcases ho with ⟨rfl, hn⟩ | ⟨g, cap, cur, h1, h2, h3, h4, h5, h6, h7⟩
  · exact absurd (List.eq_nil_of_length_eq_zero hn) hne
  · exact ⟨g, cap, cur, h1, h2, h3, h4, h5, h6, h7⟩
theorem OwL.of_row {base e g cap : Nat} {cur : Array Value} {ys : List α} (hb : base ≤ g) (hg : w.heap[g]? = some (.cells cur e (0, 0))) (hc : ys.length ≤ cap) (hm : cap ≤ maxLen) (hs : cur.size = cap * T.size) (ht : cur.toList.take (ys.length * T.size) = ys.flatMap T.enc) : OwL T w base e (.slice (some ⟨g, 0, none⟩) ys.length cap) ys :=
  ⟨⟨by rw [flat_len], .inr ⟨g, cap, cur, rfl, hb, hg, hc, hm, hs, ht⟩⟩⟩

theorem zeroCells_flat {z : Value} {y0 : α} (hp : 0 < T.size) (hz0 : z.cells.toList = T.enc y0) (m : Nat) : (Builtin.zeroCells z.cells m).toList = (List.replicate m y0).flatMap T.enc := by
  have hlen : (T.enc y0).length = T.size := T.len y0
  have hzs : z.cells = (T.enc y0).toArray := by apply Array.toList_inj.1; simpa using hz0
  have hzl : z.cells.size = T.size := by rw [hzs]; simpa using hlen
  apply List.ext_getElem?
  intro i
  by_cases hi : i < m * T.size
  · have h1 : (List.replicate m y0)[i / T.size]? = some y0 := by
      rw [List.getElem?_replicate, if_pos]; exact Nat.div_lt_of_lt_mul (by rw [Nat.mul_comm]; exact hi)
    have h2 := flat_at T (List.replicate m y0) (i / T.size) y0 h1
    have hm : i % T.size < T.size := Nat.mod_lt _ hp
    have h3 : ((List.replicate m y0).flatMap T.enc)[i]? = (T.enc y0)[i % T.size]? := by
      rw [← h2, List.getElem?_take, if_pos hm, List.getElem?_drop]
      congr 1
      rw [Nat.mul_comm]; exact (Nat.div_add_mod i T.size).symm
    rw [h3]
    simp [Builtin.zeroCells, hzs, hi, hlen]
    rw [List.getElem?_eq_getElem (by rw [hlen]; exact hm)]
    simp
  · rw [List.getElem?_eq_none (by simp [Builtin.zeroCells, hzl]; omega), List.getElem?_eq_none (by rw [flat_len]; simp; omega)]

theorem flat_laid (xs ys : List α) (o : Nat) (h : o + ys.length ≤ xs.length) : (xs.flatMap T.enc).take (o * T.size) ++ ys.flatMap T.enc ++ (xs.flatMap T.enc).drop (o * T.size + (ys.flatMap T.enc).length) = (xs.take o ++ ys ++ xs.drop (o + ys.length)).flatMap T.enc := by
  rw [flat_take, flat_len, ← Nat.add_mul, flat_drop]
  simp

/-- clear of a rest of a slice of the call's own. -/
theorem L_clearOwn {t e size bytes : Nat} {z : Value} [hT : TSlice P t e size bytes z] {x : Operand} {v : Value} {xs : List α} {base : Nat} {g i len cap : Nat} {y0 : α} (hx : fr.ev x = some (.slice (some ⟨g, 0 + i * size, none⟩) len cap)) (hO : OwL T w base e v xs) (hs : T.size = size)
    (hg : v.ownBlock = some g) (hi : i < xs.length) (hlen : len = xs.length - i) (hz0 : z.cells.toList = T.enc y0)
    (kk : ∀ w', OwL T w' base e v (xs.take i ++ List.replicate (xs.length - i) y0) → w.grownBy w' (some g) → w'.heap.size = w.heap.size → L P ops Q n rest fr w') :
    L P ops Q n (⟨none, .call ⟨.builtin .clear, #[x], #[t]⟩, ty, pos, af, none⟩ :: rest) fr w := by
  obtain ⟨inf, hinf, hz, hsz, _⟩ := hT.parts
  subst hs hlen
  have hp := hT.pos
  obtain ⟨g', cap', cur, rfl, hb, hcell, hnc, hcm, hcs, htake⟩ := hO.row (fun e => by subst e; simp at hi)
  obtain rfl : g' = g := by simpa [Value.ownBlock] using hg
  have hzc := zeroCells_flat (T := T) hp hz0 (xs.length - i)
  have hus : (Builtin.zeroCells z.cells (xs.length - i)).toList.length = (xs.length - i) * T.size := by rw [hzc, flat_len]; simp
  have hsum : i * T.size + (xs.length - i) * T.size = xs.length * T.size := by rw [← Nat.add_mul]; congr 1; omega
  have hle : xs.length * T.size ≤ cap' * T.size := Nat.mul_le_mul_right _ hnc
  have hst := run_storeCells_at P g' (0 + i * T.size) e (Builtin.zeroCells z.cells (xs.length - i)).toList 0 cur w hcell (by rw [hus]; omega) (by rw [hzc]; exact flat_one T _)
  simp only [Nat.add_zero, Nat.zero_add] at hst
  obtain ⟨h2, h3, h4⟩ := heap_setRow (cs := laid cur (i * T.size) (Builtin.zeroCells z.cells (xs.length - i)).toList) hcell
  refine L_run0 rfl rfl (v := .tuple #[]) (w' := w.setRow g' (laid cur (i * T.size) (Builtin.zeroCells z.cells (xs.length - i)).toList)) (fun ρ h => ?_) (kk _ ?_ h3 h4)
  · have e1 := h x _ hx
    rw [BigFrame.execOp_builtin, BigFrame.builtin_clear]
    have e3 : Array.map ρ #[x] = #[.slice (some ⟨g', 0 + i * T.size, none⟩) (xs.length - i) cap] := by simp [e1]
    rw [e3]
    obtain ⟨m, hm⟩ : ∃ m, xs.length - i = m + 1 := ⟨xs.length - i - 1, by omega⟩
    rw [hm] at hst ⊢
    simp [Builtin.clear_, run_underlying hT.und, zeroValue, typeInfo, hinf, hz, hst, laid, Result.andThen]
  · have hlen2 : (xs.take i ++ List.replicate (xs.length - i) y0).length = xs.length := by simp; omega
    have := OwL.of_row (T := T) (w := w.setRow g' (laid cur (i * T.size) (Builtin.zeroCells z.cells (xs.length - i)).toList)) (ys := xs.take i ++ List.replicate (xs.length - i) y0) hb h2 (by rw [hlen2]; exact hnc) hcm (by rw [laid_size _ _ _ (by rw [hus]; omega)]; exact hcs) (by
      rw [hlen2]
      have h5 : (cur.toList.take (i * T.size)) = (xs.take i).flatMap T.enc := by
        rw [← flat_take, ← htake, List.take_take, Nat.min_eq_left (by omega)]
      unfold laid
      rw [hzc, h5, ← List.flatMap_append, List.toList_toArray, List.take_left']
      rw [flat_len, hlen2])
    rw [hlen2] at this; exact this

/-- Zeros are appended behind a beginning that has no room for them. -/
theorem L_appendZG {t tn e size bytes : Nat} {z : Value} [hT : TSlice P t e size bytes z] {s x : Operand} {k : Nat} {kI : Int} {y0 : α} {a : Addr} {len cap : Nat} {xs : List α} (hs : fr.ev s = some (.slice (some a) len cap)) (hx : fr.ev x = some (.int .i64 kI)) (hkI : kI = k) (htn : P.underlying tn = some (.int .i64))
    (hp2 : Pt w a (xs.flatMap T.enc)) (hl : xs.length = len) (hg : cap < len + k) (hk : 0 < k) (hsz : T.size = size) (hz0 : z.cells.toList = T.enc y0) (hb : (len + k) * bytes ≤ 140737488355328) (h63 : len + k ≤ 4611686018427387904) (hcl : len ≤ cap) (hdn : Nat.blt d n = true)
    (kk : ∀ v' w', OwL T w' w.heap.size e v' (xs ++ List.replicate k y0) → Below w.heap.size w w' → L P ops Q n rest ((d, v') :: fr) w') :
    L P ops Q n (⟨some d, .call ⟨.builtin .append, #[s, x], #[t, tn]⟩, ty, pos, af, none⟩ :: rest) fr w := by
  obtain ⟨inf, hinf, hz, hiz, hib⟩ := hT.parts
  subst hsz hl hkI
  have hp := hT.pos
  have hold : (Builtin.firstCells inf.size xs.length (.slice (some a) xs.length cap)).run P w.drew = .ok (xs.flatMap T.enc).toArray w.drew := by
    rw [hiz]
    exact run_firstCells_some (P := P) w.drew T.size xs.length a xs.length cap (xs.flatMap T.enc) (flat_len T xs) (fun j v hj => by
      have := hp2 j v hj
      rw [← this]; rfl)
  have hkb : k * bytes ≤ (xs.length + k) * bytes := Nat.mul_le_mul_right _ (by omega)
  have hrun := Lib.run_append_grow_zeros (P := P) w t tn ty e inf z .i64 .i64 hT.und htn hinf hz (some a) xs.length cap _ hold k hk (by omega) hg (by omega) (by rw [hib]; omega) (by rw [hib]; exact growslice_fits (by omega) (by simpa using hb))
  have hG := grownCap_ge w (xs.length + k) cap e
  have hGm := grownCap_le_maxLen w (xs.length + k) cap e (by unfold maxLen; omega)
  generalize grownCap w (xs.length + k) cap e = G at hrun hG hGm
  have hrep := fun m => zeroCells_flat (T := T) (z := z) (y0 := y0) hp hz0 m
  generalize hcur : ((xs.flatMap T.enc).toArray ++ Builtin.zeroCells z.cells k ++ Builtin.zeroCells z.cells (G - (xs.length + k))) = cur at hrun
  have hcl2 : cur.toList = (xs ++ List.replicate k y0).flatMap T.enc ++ (List.replicate (G - (xs.length + k)) y0).flatMap T.enc := by
    rw [← hcur]; simp [hrep]
  have hyl : (xs ++ List.replicate k y0).length = xs.length + k := by simp
  have hO := OwL.of_row (T := T) (w := w.drew.alloc (.cells cur e)) (g := w.heap.size) (cap := G) (base := w.heap.size) (ys := xs ++ List.replicate k y0) (Nat.le_refl _) (heap_alloc_new w.drew _) (by rw [hyl]; omega) hGm (by
    have := congrArg List.length hcl2
    rw [List.length_append, flat_len, flat_len, hyl, List.length_replicate, ← Nat.add_mul, show xs.length + k + (G - (xs.length + k)) = G by omega] at this
    simpa using this) (by
    rw [hcl2, List.take_left']
    rw [flat_len])
  rw [hyl] at hO
  refine L_run (w' := w.drew.alloc (.cells cur e)) rfl rfl hdn (fun ρ h => ?_) (kk _ _ hO ((Below.drew (Below.refl _ _)).alloc (Nat.le_refl _) _))
  have e1 := h s _ hs
  have e2 := h x _ hx
  rw [BigFrame.execOp_builtin, BigFrame.builtin_append]
  have e3 : Array.map ρ #[s, x] = #[.slice (some a) xs.length cap, .int .i64 k] := by simp [e1, e2]
  rw [e3]
  simp [hrun]
end
end Go.Proofs.YtjobbcdolbhadaaGreatDoor
