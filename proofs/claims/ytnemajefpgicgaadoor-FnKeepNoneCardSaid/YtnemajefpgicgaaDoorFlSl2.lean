/-
  More operations: cap, min, a slice compared with nil, a beginning of a slice of the call's own, append of zeros to the nil slice.
-/
import Derived.Test.YtnemajefpgicgaaDoorFlSl
import Derived.Lib.AppendZerosOnto
namespace Go.Proofs.YtnemajefpgicgaaDoor
open Go Go.RowKit
set_option linter.unusedVariables false

section
variable {P : Program} {ops : Array Oper} {Q : Exit → Act → World → Prop} {n : Nat} {fr : Fr} {w w0 : World} {rest : List Oper}
variable {d : Nat} {ty : TypeId} {pos : String} {af : Array Edge} {QQ : Act → Prop} {α : Type} {T : Ty α} {C : World → Prop}

theorem run_equalIn_nilS {t e : TypeId} (dp : Nat) (ht : P.underlying t = some (.slice e)) (a : Option Addr) (l c : Nat) : (Op.equalIn (dp + 1) t (.slice a l c) (.slice none 0 0)).run P w = .ok a.isNone w := by
  cases a <;> simp [Op.equalIn, run_underlying ht]
theorem do_cap {t e size bytes : Nat} {z : Value} [hT : TSlice P t e size bytes z] {x : Operand} {a : Option Addr} {l c : Nat} (hx : fr.ev x = some (.slice a l c)) :
    Does P ⟨some d, .call ⟨.builtin .cap, #[x], #[t]⟩, ty, pos, af, none⟩ fr w (.int .i64 c) := ⟨fun ρ h => by
  simp [h x _ hx, Builtin.cap_, run_underlying hT.und, goInt, go_sem]⟩
theorem do_eqNil {t t' e size bytes : Nat} {z : Value} [hT : TSlice P t e size bytes z] {x y : Operand} {a : Option Addr} {l c : Nat} (hx : fr.ev x = some (.slice a l c)) (hy : fr.ev y = some (.slice none 0 0)) :
    Does P ⟨some d, .binOp .eql t x y t', ty, pos, af, none⟩ fr w (.bool a.isNone) := ⟨fun ρ h => by
  have h0 : (Op.equal t (.slice a l c) (.slice none 0 0)).run P w = .ok a.isNone w := by
    show (Op.equalIn (9999 + 1) t (.slice a l c) (.slice none 0 0)).run P w = _
    exact run_equalIn_nilS 9999 hT.und a l c
  have h1 : (binOp .eql t (.slice a l c) (.slice none 0 0)) = (do pure (.bool (← Op.equal t (.slice a l c) (.slice none 0 0)))) := rfl
  have h2 : (binOp .eql t (.slice a l c) (.slice none 0 0)).run P w = .ok (.bool a.isNone) w := by rw [h1]; simp [h0]
  unfold execOp
  simp [h x _ hx, h y _ hy, eqGuard_at_slice, h2]⟩
theorem do_min2 {t1 t2 : TypeId} {x y : Operand} {i j : Int} (hx : fr.ev x = some (.int .i64 i)) (hy : fr.ev y = some (.int .i64 j)) :
    Does P ⟨some d, .call ⟨.builtin .min, #[x, y], #[t1, t2]⟩, ty, pos, af, none⟩ fr w (.int .i64 (min i j)) := ⟨fun ρ h => by
  simp [h x _ hx, h y _ hy, Builtin.min_, Builtin.min2, go_sem]
  omega⟩

theorem do_subE {t t' : TypeId} {x y : Operand} {i j r : Int} (hx : fr.ev x = some (.int .i64 i)) (hy : fr.ev y = some (.int .i64 j)) (he : i - j = r)
    (hr : -9223372036854775808 ≤ r ∧ r ≤ 9223372036854775807) : Does P ⟨some d, .binOp .sub t x y t', ty, pos, af, none⟩ fr w (.int .i64 r) := by
  subst he; exact do_sub hx hy hr
theorem evs_map {fr : Fr} {ρ : Operand → Value} (h : ∀ x u, fr.ev x = some u → ρ x = u) : ∀ (xs : List Operand) (vs : List Value), fr.evs xs = some vs → xs.map ρ = vs
  | [], vs, e => by simpa [Fr.evs] using e
  | x :: r, vs, e => by
    simp only [Fr.evs] at e
    split at e
    · rename_i v vs' h1 h2
      obtain rfl : v :: vs' = vs := by simpa using e
      simp [h x v h1, evs_map h r vs' h2]
    · simp at e
theorem do_makeFunc {fn : Fn} {caps : List Operand} {vs : List Value} (hx : fr.evs caps = some vs) : Does P ⟨some d, .makeFunc fn #[] caps.toArray, ty, pos, af, none⟩ fr w (.func fn #[] vs.toArray) := ⟨fun ρ h => by
  have := evs_map h caps vs hx
  simp [execOp, Instr.makeFunc, this, go_sem]⟩

/-- A beginning of a slice of the call's own is the call's own. -/
theorem L_sliceOwnH {t e size bytes : Nat} {z : Value} [hT : TSlice P t e size bytes z] {x y : Operand} {v : Value} {xs : List α} {base e' : Nat} {k : IntKind} {i : Int} (hx : fr.ev x = some v) (hy : fr.ev y = some (.int k i)) (hO : OwL T w base e' v xs) (hs : T.size = size)
    (h0 : 0 ≤ i) (h1 : i ≤ xs.length) (hdn : Nat.blt d n = true) (kk : ∀ v', OwL T w base e' v' (xs.take i.toNat) → v'.ownBlock = v.ownBlock → L P ops Q n rest ((d, v') :: fr) w) :
    L P ops Q n (⟨some d, .slice t x none (some y) none, ty, pos, af, none⟩ :: rest) fr w := by
  subst hs
  have hlen : (xs.take i.toNat).length = i.toNat := by simp; omega
  obtain ⟨hol, ho⟩ := hO.own
  rcases ho with ⟨rfl, hn⟩ | ⟨g, cap, cur, rfl, hbase, hcell, hnc, hcm, hcs, htake⟩
  · have hz : xs = [] := List.eq_nil_of_length_eq_zero hn
    subst hz
    have hi0 : i.toNat = 0 := by simp at h1; omega
    refine L_do rfl rfl hdn (do_sliceH hx hy h0 (by simp at h1; omega)) (kk _ ⟨?_⟩ ?_)
    · have : (sliced none 0 i.toNat 0 T.size) = .slice none 0 0 := by rw [hi0]; rfl
      rw [this, List.take_nil]
      exact ⟨by simp, .inl ⟨rfl, rfl⟩⟩
    · rw [hi0]; rfl
  · have hv : sliced (some ⟨g, 0, none⟩) 0 i.toNat cap T.size = .slice (some ⟨g, 0, none⟩) i.toNat cap := by
      unfold sliced
      by_cases hc : cap = 0
      · subst hc; simp
      · rw [if_neg hc]; simp [Addr.add]
    refine L_do rfl rfl hdn (do_sliceH hx hy h0 (by omega)) (kk _ ⟨⟨by rw [flat_len], .inr ⟨g, cap, cur, by rw [hv, hlen], hbase, hcell, by rw [hlen]; omega, hcm, hcs, ?_⟩⟩⟩ (by rw [hv]; rfl))
    rw [hlen, ← flat_take, ← htake, List.take_take]
    congr 1
    have : i.toNat * T.size ≤ xs.length * T.size := Nat.mul_le_mul_right _ (by omega)
    omega

/-- Zeros are appended to the nil slice. -/
theorem L_appendZ0 {t tn e size bytes : Nat} {z : Value} [hT : TSlice P t e size bytes z] {s x : Operand} {k : Nat} {y0 : α} (hs : fr.ev s = some (.slice none 0 0)) (hx : fr.ev x = some (.int .i64 k)) (htn : P.underlying tn = some (.int .i64))
    (hk : 0 < k) (hsz : T.size = size) (hz0 : z.cells.toList = T.enc y0) (hb : k * bytes ≤ 140737488355328) (h63 : k ≤ 4611686018427387904) (hdn : Nat.blt d n = true)
    (kk : ∀ v' w', OwL T w' w.heap.size e v' (List.replicate k y0) → Below w.heap.size w w' → L P ops Q n rest ((d, v') :: fr) w') :
    L P ops Q n (⟨some d, .call ⟨.builtin .append, #[s, x], #[t, tn]⟩, ty, pos, af, none⟩ :: rest) fr w := by
  obtain ⟨inf, hinf, hz, hiz, hib⟩ := hT.parts
  subst hsz
  have hold : (Builtin.firstCells inf.size 0 (.slice none 0 0)).run P w.drew = .ok ([] : List Value).toArray w.drew := run_firstCells_none w.drew inf.size 0 0 0
  have hp := hT.pos
  have hrun := Lib.run_append_grow_zeros (P := P) w t tn ty e inf z .i64 .i64 hT.und htn hinf hz none 0 0 [] hold k hk (by omega) (by omega) (by omega) (by rw [hib]; omega) (by rw [hib]; exact growslice_fits (by omega) (by simpa using hb))
  have hG := grownCap_ge w (0 + k) 0 e
  have hGm := grownCap_le_maxLen w (0 + k) 0 e (by unfold maxLen; omega)
  generalize grownCap w (0 + k) 0 e = G at hrun hG hGm
  have hzl : z.cells.size = T.size := hT.zs
  have hzs : z.cells = (T.enc y0).toArray := by apply Array.toList_inj.1; simpa using hz0
  have hrep : ∀ m, (Builtin.zeroCells z.cells m).toList = (List.replicate m y0).flatMap T.enc := by
    intro m
    have hlen : (T.enc y0).length = T.size := T.len y0
    apply List.ext_getElem?
    intro i
    by_cases hi : i < m * T.size
    · have h1 : (List.replicate m y0)[i / T.size]? = some y0 := by
        rw [List.getElem?_replicate, if_pos]; exact Nat.div_lt_of_lt_mul (by rw [Nat.mul_comm]; exact hi)
      have h2 := flat_at T (List.replicate m y0) (i / T.size) y0 h1
      have hm : i % T.size < T.size := Nat.mod_lt _ hp
      have h3 : ((List.replicate m y0).flatMap T.enc)[i]? = (T.enc y0)[i % T.size]? := by
        rw [← h2, List.getElem?_take, if_pos hm, List.getElem?_drop]
        congr 1
        rw [Nat.mul_comm]; exact (Nat.div_add_mod i T.size).symm
      rw [h3]
      simp [Builtin.zeroCells, hzs, hi, hlen]
      rw [List.getElem?_eq_getElem (by rw [hlen]; exact hm)]
      simp
    · rw [List.getElem?_eq_none (by simp [Builtin.zeroCells, hzl]; omega), List.getElem?_eq_none (by rw [flat_len]; simp; omega)]
  generalize hcur : (([] : List Value).toArray ++ Builtin.zeroCells z.cells k ++ Builtin.zeroCells z.cells (G - (0 + k))) = cur at hrun
  have hcl : cur.toList = (List.replicate k y0).flatMap T.enc ++ (List.replicate (G - k) y0).flatMap T.enc := by
    rw [← hcur]; simp [hrep]
  refine L_run (w' := w.drew.alloc (.cells cur e)) rfl rfl hdn (fun ρ h => ?_) (kk (.slice (some ⟨w.heap.size, 0, none⟩) k G) _ ⟨⟨by rw [flat_len], .inr ⟨w.heap.size, G, cur, by simp, Nat.le_refl _, heap_alloc_new w.drew _, by simp; omega, hGm, ?_, ?_⟩⟩⟩ ?_)
  · have e1 := h s _ hs
    have e2 := h x _ hx
    rw [BigFrame.execOp_builtin, BigFrame.builtin_append]
    have e3 : Array.map ρ #[s, x] = #[.slice none 0 0, .int .i64 k] := by simp [e1, e2]
    rw [e3]
    simp [hrun]
  · have := congrArg List.length hcl
    rw [List.length_append, flat_len, flat_len, List.length_replicate, List.length_replicate, ← Nat.add_mul, show k + (G - k) = G by omega] at this
    simpa using this
  · rw [hcl, List.length_replicate, List.take_left']
    rw [flat_len]; simp
  · exact (Below.drew (Below.refl _ _)).alloc (Nat.le_refl _) _
end

/-! ### Small lemmas on worlds, rows, literals -/
theorem kp_own {w w1 w2 : World} {r row : Option Nat} (h : w.grownBy w1 r) (k : w1.grownBy w2 row) (hr : ∀ b, row = some b → w.heap.size ≤ b) : w.grownBy w2 r :=
  ⟨k.os.trans h.os, k.tape.trans h.tape, k.output.trans h.output, Nat.le_trans h.size k.size, fun i hi hne => (k.block i (Nat.lt_of_lt_of_le hi h.size) (fun e => by have := hr i e.symm; omega)).trans (h.block i hi hne)⟩
theorem addr_add0 (g n k : Nat) : (⟨g, n, none⟩ : Addr).add k = ⟨g, n + k, none⟩ := by unfold Addr.add; split <;> simp_all
theorem fill2 (x y : Int) : Instr.fill (fun i => some (i * 1, 1)) ((Array.range (2 * 1)).map (fun j => (Value.int .i64 0).cells[j % (Value.int .i64 0).cells.size]!)) [(0, .int .i64 x), (1, .int .i64 y)] = some #[.int .i64 x, .int .i64 y] := by
  have : (Array.range (2 * 1)).map (fun j => (Value.int .i64 0).cells[j % (Value.int .i64 0).cells.size]!) = #[.int .i64 0, .int .i64 0] := by
    apply Array.toList_inj.1
    simp [Value.cells, List.range_succ]
  rw [this]; rfl
theorem fill1 (x : Int) : Instr.fill (fun i => some (i * 1, 1)) ((Array.range (1 * 1)).map (fun j => (Value.int .i64 0).cells[j % (Value.int .i64 0).cells.size]!)) [(0, .int .i64 x)] = some #[.int .i64 x] := by
  have : (Array.range (1 * 1)).map (fun j => (Value.int .i64 0).cells[j % (Value.int .i64 0).cells.size]!) = #[.int .i64 0] := by apply Array.toList_inj.1; simp [Value.cells]
  rw [this]; rfl

theorem OwL.ne_ty {α β : Type} {T : Ty α} {U : Ty β} {w : World} {b1 b2 e1 e2 : Nat} {v1 v2 : Value} {xs : List α} {ys : List β} (h1 : OwL T w b1 e1 v1 xs) (h2 : OwL U w b2 e2 v2 ys) (he : e1 ≠ e2) : v1.ownBlock = none ∨ v1.ownBlock ≠ v2.ownBlock := by
  obtain ⟨_, k1⟩ := h1.own
  obtain ⟨_, k2⟩ := h2.own
  rcases k1 with ⟨rfl, _⟩ | ⟨g1, c1, u1, rfl, _, hg1, _⟩
  · exact .inl rfl
  · refine .inr (fun e => ?_)
    rcases k2 with ⟨rfl, _⟩ | ⟨g2, c2, u2, rfl, _, hg2, _⟩
    · cases e
    · simp only [Value.ownBlock, Option.some.injEq] at e
      have e' : g1 = g2 := by simpa using e
      subst e'
      rw [hg1] at hg2
      injection hg2 with hg2
      injection hg2 with _ hg2 _
      exact he hg2
theorem fillR (a b c : Value) : Instr.fill (fun i => some (i * 3, 3)) ((Array.range (1 * 3)).map (fun j => (Value.agg #[.int .i64 0, .slice none 0 0, .slice none 0 0]).cells[j % (Value.agg #[.int .i64 0, .slice none 0 0, .slice none 0 0]).cells.size]!)) [(0, .agg #[a, b, c])] = some #[a, b, c] := by
  have : (Array.range (1 * 3)).map (fun j => (Value.agg #[.int .i64 0, .slice none 0 0, .slice none 0 0]).cells[j % (Value.agg #[.int .i64 0, .slice none 0 0, .slice none 0 0]).cells.size]!) = #[.int .i64 0, .slice none 0 0, .slice none 0 0] := by
    apply Array.toList_inj.1
    simp [Value.cells, List.range_succ]
  rw [this]; rfl
theorem fill3 (x y z : Int) : Instr.fill (fun i => some (i * 1, 1)) ((Array.range (3 * 1)).map (fun j => (Value.int .i64 0).cells[j % (Value.int .i64 0).cells.size]!)) [(0, .int .i64 x), (1, .int .i64 y), (2, .int .i64 z)] = some #[.int .i64 x, .int .i64 y, .int .i64 z] := by
  have : (Array.range (3 * 1)).map (fun j => (Value.int .i64 0).cells[j % (Value.int .i64 0).cells.size]!) = #[.int .i64 0, .int .i64 0, .int .i64 0] := by
    apply Array.toList_inj.1
    simp [Value.cells, List.range_succ]
  rw [this]; rfl

theorem rdl_empty {α : Type} {T : Ty α} {w w' : World} {v : Value} {xs : List α} (h : RdL T w v xs) (he : xs = []) : RdL T w' v xs := by
  subst he
  obtain ⟨h1, a, cap, h2, h3, h4, h5⟩ := h.rd
  refine ⟨⟨h1, a, cap, h2, h3, h4, ?_⟩⟩
  rcases h5 with h5 | ⟨b, h5, _⟩
  · exact .inl h5
  · exact .inr ⟨b, h5, Pt.nil _ _⟩


/-! ### Slice literals -/
theorem foldl_set (vs : List Value) : ∀ (off j0 : Nat) (cells : Array Value), off + j0 + vs.length ≤ cells.size →
    ((vs.zipIdx j0).foldl (fun (cs : Array Value) (p : Value × Nat) => cs.setIfInBounds (off + p.2) p.1) cells).toList = cells.toList.take (off + j0) ++ vs ++ cells.toList.drop (off + j0 + vs.length) := by
  induction vs with
  | nil => intro off j0 cells h; simp
  | cons v r ih =>
    intro off j0 cells h
    simp only [List.length_cons] at h
    simp only [List.zipIdx_cons, List.foldl_cons]
    rw [ih off (j0 + 1) _ (by simp; omega)]
    have hlt : off + j0 < cells.toList.length := by simp; omega
    rw [Array.toList_setIfInBounds, show off + (j0 + 1) = (off + j0) + 1 by omega, List.take_add_one, List.take_set_of_le (Nat.le_refl _), List.getElem?_set_self hlt, List.drop_set_of_lt (by omega)]
    simp [List.length_cons, show off + j0 + 1 + r.length = off + j0 + (r.length + 1) by omega]
theorem fold_cells (vs : Array Value) (off : Nat) (cells : Array Value) (h : off + vs.size ≤ cells.size) :
    (vs.zipIdx.foldl (fun cs (c, j) => cs.setIfInBounds (off + j) c) cells).toList = cells.toList.take off ++ vs.toList ++ cells.toList.drop (off + vs.size) := by
  have := foldl_set vs.toList off 0 cells (by simpa using h)
  rw [← Array.foldl_toList, Array.toList_zipIdx]
  simpa using this
theorem fill_from {α : Type} (T : Ty α) (hp : 0 < T.size) : ∀ (ys : List α) (ps : List (Nat × Value)) (j : Nat) (cells : Array Value), ps.map (·.1) = List.range' j ys.length → ps.map (fun p => p.2.cells.toList) = ys.map T.enc → (j + ys.length) * T.size ≤ cells.size →
    ∃ cs', Instr.fill (fun i => some (i * T.size, T.size)) cells ps = some cs' ∧ cs'.toList = cells.toList.take (j * T.size) ++ ys.flatMap T.enc ++ cells.toList.drop ((j + ys.length) * T.size)
  | [], ps, j, cells, h1, h2, h3 => by
    have : ps = [] := by cases ps <;> simp_all
    subst this
    exact ⟨cells, rfl, by simp⟩
  | y :: r, [], j, cells, h1, h2, h3 => by simp at h2
  | y :: r, (i, v) :: ps, j, cells, h1, h2, h3 => by
    simp only [List.map_cons, List.length_cons, List.range'_succ, List.cons.injEq] at h1 h2
    obtain ⟨rfl, h1⟩ := h1
    have hvs : v.cells.size = T.size := by have := congrArg List.length h2.1; rw [T.len] at this; simpa using this
    have hle : i * T.size + T.size ≤ cells.size := by
      have : (i + 1) * T.size ≤ (i + (r.length + 1)) * T.size := Nat.mul_le_mul_right _ (by omega)
      rw [Nat.add_mul, Nat.one_mul] at this
      simp only [List.length_cons] at h3
      omega
    have hf := fold_cells v.cells (i * T.size) cells (by omega)
    generalize hc : (v.cells.zipIdx.foldl (fun cs (c, j) => cs.setIfInBounds (i * T.size + j) c) cells) = c1 at hf
    have hc1 : c1.size = cells.size := by
      have := congrArg List.length hf
      simp at this
      omega
    obtain ⟨cs', e1, e2⟩ := fill_from T hp r ps (i + 1) c1 h1 h2.2 (by rw [hc1]; simp only [List.length_cons] at h3; rw [show i + 1 + r.length = i + (r.length + 1) by omega]; exact h3)
    refine ⟨cs', ?_, ?_⟩
    · simp only [Instr.fill]
      rw [if_neg (by simp; omega), hc]
      exact e1
    · rw [e2, hf]
      have hl : (cells.toList.take (i * T.size) ++ v.cells.toList).length = (i + 1) * T.size := by simp [Nat.add_mul]; omega
      rw [List.take_left' hl, List.flatMap_cons, ← h2.1]
      have hd : (i + 1 + r.length) * T.size = (i + 1) * T.size + r.length * T.size := by rw [Nat.add_mul]
      rw [hd, ← List.drop_drop, List.drop_left' hl, List.drop_drop]
      simp only [List.append_assoc, List.length_cons]
      congr 4
      rw [hvs, show i + (r.length + 1) = i + 1 + r.length by omega, Nat.add_mul (i + 1), Nat.add_mul i]
      omega

section
variable {P : Program} {ops : Array Oper} {Q : Exit → Act → World → Prop} {n : Nat} {fr : Fr} {w w0 : World} {rest : List Oper}
variable {d : Nat} {ty : TypeId} {pos : String} {af : Array Edge} {QQ : Act → Prop} {α : Type} {T : Ty α} {C : World → Prop}
/-- A slice literal: its parts in their order; what each part's cells are. -/
theorem L_buildSliceL {t e size bytes : Nat} {z : Value} [hT : TSlice P t e size bytes z] (T : Ty α) (ys : List α) {k : Nat} {parts : List (Nat × Operand)} {ps : List (Nat × Value)}
    (hp : fr.evp parts = some ps) (hs : T.size = size) (hk : ys.length = k) (hsmall : Nat.ble (k * size) 16777216 = true) (hpos : Nat.beq (k * size) 0 = false)
    (h1 : ps.map (·.1) = List.range' 0 ys.length) (h2 : ps.map (fun p => p.2.cells.toList) = ys.map T.enc) (hdn : Nat.blt d n = true)
    (kk : ∀ w', OwL T w' w.heap.size e (.slice (some ⟨w.heap.size, 0, none⟩) k k) ys → Below w.heap.size w w' → L P ops Q n rest ((d, .slice (some ⟨w.heap.size, 0, none⟩) k k) :: fr) w') :
    L P ops Q n (⟨some d, .buildSlice t k parts.toArray, ty, pos, af, none⟩ :: rest) fr w := by
  subst hs
  obtain ⟨cs', e1, e2⟩ := fill_from T hT.pos ys ps 0 ((Array.range (k * T.size)).map (fun j => z.cells[j % z.cells.size]!)) h1 h2 (by simp [hk])
  refine L_buildSliceKG T ys w.heap.size (Nat.le_refl _) hp rfl hk hsmall hpos e1 ?_ hdn kk
  rw [e2]
  simp [hk]
theorem LQ_indexOwn {t e size bytes : Nat} {z : Value} [hT : TSlice P t e size bytes z] {x ix : Operand} {v : Value} {xs : List α} {base : Nat} {kd : IntKind} {i : Int} (hx : fr.ev x = some v) (hi : fr.ev ix = some (.int kd i))
    (hO : OwL T w base e v xs) (hs : T.size = size) (h0 : 0 ≤ i) (h1 : i < xs.length) (hdn : Nat.blt d n = true)
    (kk : ∀ (g : Nat) (y : α), xs[i.toNat]? = some y → v.ownBlock = some g → LQ P ops C QQ n rest ((d, .pointer (some ⟨g, i.toNat * T.size, none⟩)) :: fr)) :
    LQ P ops C QQ n (⟨some d, .indexAddr t x ix, ty, pos, af, none⟩ :: rest) fr := by
  subst hs
  have hlt : i.toNat < xs.length := by omega
  rcases hO.own.2 with ⟨rfl, hn⟩ | ⟨g, cap, cur, rfl, _⟩
  · omega
  · have ha : (⟨g, 0, none⟩ : Addr).add (i.toNat * T.size) = ⟨g, i.toNat * T.size, none⟩ := by unfold Addr.add; split <;> simp_all
    refine LQ_do rfl rfl hdn (fun w' _ => do_indexAt hx hi h0 (by exact h1)) ?_
    rw [ha]
    exact kk g _ (List.getElem?_eq_getElem hlt) rfl

/-- A stop for the walk: what stands here is left as it is. -/
structure Held (p : Prop) : Prop where
  run : p
theorem W_hold {id : Nat} {l : Array Oper} {b : Bool} (h : Held (W P (.region id l b) Q n fr w)) : W P (.region id l b) Q n fr w := h.run
end

end Go.Proofs.YtnemajefpgicgaaDoor
