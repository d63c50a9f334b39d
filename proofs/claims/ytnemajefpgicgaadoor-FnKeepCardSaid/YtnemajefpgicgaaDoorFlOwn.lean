/-
  Memory that the call makes: variables, slices of its own, append, make, stores.
-/
import Derived.Test.YtnemajefpgicgaaDoorFlTy
namespace Go.Proofs.YtnemajefpgicgaaDoor
open Go Go.RowKit

theorem below_grow0 {w0 w w' : World} {row : Option Nat} (h : Below w0.heap.size w0 w) (hg : w.grownBy w' row) (hr : ∀ k, row = some k → w0.heap.size ≤ k) : Below w0.heap.size w0 w' :=
  h.grown hg h.size hr
theorem below_of_grown {w w' : World} (hg : w.grownBy w' none) : Below w.heap.size w w' := (Below.refl _ w).grown hg (Nat.le_refl _) (fun _ h => by cases h)

section
variable {α : Type} {T : Ty α} {w w' w0 : World} {v : Value} {xs : List α} {base e : Nat}
theorem OwL.lt (h : OwL T w base e v xs) : ∀ k, v.ownBlock = some k → base ≤ k ∧ k < w.heap.size := h.own.lt
theorem OwL.kept {row : Option Nat} (h : OwL T w base e v xs) (hg : w.grownBy w' row) (hne : v.ownBlock = none ∨ v.ownBlock ≠ row) : OwL T w' base e v xs := ⟨h.own.kept hg hne⟩
theorem OwL.ext (h : OwL T w base e v xs) (hB : Below w.heap.size w w') : OwL T w' base e v xs :=
  h.kept (row := none) ⟨hB.os, hB.tape, hB.output, hB.size, fun k hk _ => hB.block k hk⟩ (by cases v.ownBlock <;> simp)
theorem OwL.ne_ {g : Nat} (h : OwL T w base e v xs) (hg : g < base) : v.ownBlock = none ∨ v.ownBlock ≠ some g := by
  cases hv : v.ownBlock with
  | none => exact .inl rfl
  | some k => exact .inr (fun e => by cases e; have := (h.lt _ hv).1; omega)
theorem RdL.grown {row : Option Nat} (h : RdL T w v xs) (hg : w.grownBy w' row) (hne : ∀ b, v.ownBlock = some b → some b ≠ row) : RdL T w' v xs :=
  h.kept fun b hb hlt => hg.block b hlt (hne b hb)
theorem OwL.rebase {base' : Nat} (h : OwL T w base e v xs) (hb : base' ≤ base) : OwL T w base' e v xs := by
  obtain ⟨⟨h1, h2⟩⟩ := h
  refine ⟨h1, ?_⟩
  rcases h2 with h2 | ⟨g, cap, cur, h3, h4, h5⟩
  · exact .inl h2
  · exact .inr ⟨g, cap, cur, h3, Nat.le_trans hb h4, h5⟩
end

class TSize (P : Program) (t : TypeId) (size : outParam Nat) : Prop where
  info : (P.info? t).map (·.size) = some size

section ops
variable {P : Program} {ops : Array Oper} {Q : Exit → Act → World → Prop} {n : Nat} {fr : Fr} {w w0 : World} {rest : List Oper}
variable {d : Nat} {ty : TypeId} {pos : String} {af : Array Edge} {QQ : Act → Prop}
variable {α : Type} {T : Ty α}

/-- A variable of its own: a struct parameter, a captured one. -/
theorem L_boxV {e : TypeId} {x : Operand} {v : Value} (hB : Below w0.heap.size w0 w) (hx : fr.ev x = some v) (hdn : Nat.blt d n = true)
    (kk : ∀ w', w'.heap.size = w.heap.size + 1 → Below w0.heap.size w0 w' → Below w.heap.size w w' → w'.heap[w.heap.size]? = some (.cells v.cells e (0, 0)) → L P ops Q n rest ((d, .pointer (some ⟨w.heap.size, 0, none⟩)) :: fr) w') :
    L P ops Q n (⟨some d, .box e x, ty, pos, af, none⟩ :: rest) fr w :=
  L_box hx hdn (kk _ (by simp) (hB.alloc hB.size _) ((Below.refl _ _).alloc (Nat.le_refl _) _) (heap_alloc_new w _))

theorem pt_of_block {b : Nat} {cs : Array Value} {e : TypeId} {f : Nat × Nat} (hg : w.heap[b]? = some (.cells cs e f)) : Pt w ⟨b, 0, none⟩ cs.toList := fun j u hu => by
  have hadd : (⟨b, 0, none⟩ : Addr).add j = ⟨b, j, none⟩ := by unfold Addr.add; split <;> simp_all
  rw [hadd, cell_of_row w b j cs e f hg]
  simpa using hu

theorem L_allocStoreV {e ty' : TypeId} {size : Nat} {z v : Value} [hZ : TZero P e z] [hT : TStruct P e size z] {x : Operand} {cs : List Value} {pos' : String} {af' : Array Edge} (hB : Below w0.heap.size w0 w) (hdn : Nat.blt d n = true)
    (hx : Fr.ev ((d, .pointer (some ⟨w.heap.size, 0, none⟩)) :: fr) x = some v) (hv : v = .agg cs.toArray) (hl : cs.length = size) (h1 : ∀ u ∈ cs, u.oneCell' = true) (hz : z.cells.size = size)
    (kk : ∀ w', w'.heap.size = w.heap.size + 1 → Below w0.heap.size w0 w' → Below w.heap.size w w' → w'.heap[w.heap.size]? = some (.cells cs.toArray e (0, 0)) → L P ops Q n rest ((d, .pointer (some ⟨w.heap.size, 0, none⟩)) :: fr) w') :
    L P ops Q n (⟨some d, .alloc e, ty, pos, af, none⟩ :: ⟨none, .store e (.tmp d) x, ty', pos', af', none⟩ :: rest) fr w :=
  L_allocStore hdn hx hv hl h1 hz fun w' hw => by
    subst hw
    exact kk _ (by simp) (hB.alloc hB.size _) ((Below.refl _ _).alloc (Nat.le_refl _) _) (heap_alloc_new w _)

theorem L_allocV {e : TypeId} {z : Value} [hZ : TZero P e z] (hB : Below w0.heap.size w0 w) (hdn : Nat.blt d n = true)
    (kk : ∀ w', w'.heap.size = w.heap.size + 1 → Below w0.heap.size w0 w' → Below w.heap.size w w' → w'.heap[w.heap.size]? = some (.cells z.cells e (0, 0)) → L P ops Q n rest ((d, .pointer (some ⟨w.heap.size, 0, none⟩)) :: fr) w') :
    L P ops Q n (⟨some d, .alloc e, ty, pos, af, none⟩ :: rest) fr w :=
  L_alloc hdn (kk _ (by simp) (hB.alloc hB.size _) ((Below.refl _ _).alloc (Nat.le_refl _) _) (heap_alloc_new w _))

/-- A store into a block that is known whole. -/
theorem L_storeAt {t e : TypeId} {size : Nat} [hS : TSize P t size] {x y : Operand} {b off : Nat} {v : Value} {cs : List Value} {cur : Array Value} {cur' : List Value} (hx : fr.ev x = some (.pointer (some ⟨b, off, none⟩))) (hy : fr.ev y = some v)
    (hv : v.cells = cs.toArray) (hl : cs.length = size) (h1 : ∀ u ∈ cs, u.oneCell' = true) (hg : w.heap[b]? = some (.cells cur e (0, 0))) (hoff : off + cs.length ≤ cur.size)
    (hc : cur.toList.take off ++ cs ++ cur.toList.drop (off + cs.length) = cur')
    (kk : ∀ w', w'.heap[b]? = some (.cells cur'.toArray e (0, 0)) → w.grownBy w' (some b) → w'.heap.size = w.heap.size → L P ops Q n rest fr w') :
    L P ops Q n (⟨none, .store t x y, ty, pos, af, none⟩ :: rest) fr w := by
  subst hc
  have hlt : b < w.heap.size := (Array.getElem?_eq_some_iff.1 hg).1
  have hst := run_storeCells_at P b off e cs 0 cur w hg (by omega) h1
  simp only [Nat.add_zero] at hst
  refine L_run_skip (w' := w.setRow b (cur.toList.take off ++ cs ++ cur.toList.drop (off + cs.length)).toArray) rfl rfl (fun ρ h => ?_) (kk _ ?_ ⟨rfl, rfl, rfl, by simp, fun k hk hne => ?_⟩ (by simp))
  · have hsz : ∀ w, (sizeOf t).run P w = .ok size w := fun w => run_sizeOf' hS.info
    unfold execOp Instr.storeAt storeVar
    simp only [h x _ hx, h y _ hy]
    simp [Instr.sureAddr, hsz, hl, hv, hst]
  · simp only [World.setRow, Array.getElem?_modify, if_pos, hg, Option.map_some]
  · simp only [World.setRow, Array.getElem?_modify]
    rw [if_neg (fun e => hne (by rw [e]))]

theorem L_buildSlice0 {t e size bytes : Nat} {z : Value} [hT : TSlice P t e size bytes z] (T : Ty α) (hB : Below w0.heap.size w0 w) (hdn : Nat.blt d n = true)
    (kk : ∀ w', OwL T w' w0.heap.size e (.slice (some ⟨w.heap.size, 0, none⟩) 0 0) [] → Below w0.heap.size w0 w' → Below w.heap.size w w' → L P ops Q n rest ((d, .slice (some ⟨w.heap.size, 0, none⟩) 0 0) :: fr) w') :
    L P ops Q n (⟨some d, .buildSlice t 0 #[], ty, pos, af, none⟩ :: rest) fr w := by
  obtain ⟨inf, hinf, _, hsz, _⟩ := hT.parts
  refine L_run (w' := w.alloc (.cells #[] e)) rfl rfl hdn (fun ρ h => ?_) (kk _ ⟨?_⟩ (hB.alloc hB.size _) ((Below.refl _ _).alloc (Nat.le_refl _) _))
  · simp [execOp, Instr.buildSlice, run_underlying hT.und, sizeOf, typeInfo, hinf, Instr.fill, go_sem]
  · exact World.ownsRow_made w #[] 0 hB.size (Nat.zero_le _) (by simp)

def Fr.evp (fr : Fr) : List (Nat × Operand) → Option (List (Nat × Value))
  | [] => some []
  | (i, x) :: r => match fr.ev x, Fr.evp fr r with
    | some v, some vs => some ((i, v) :: vs)
    | _, _ => none
theorem evp_map {fr : Fr} {ρ : Operand → Value} (h : ∀ x u, fr.ev x = some u → ρ x = u) : ∀ (l : List (Nat × Operand)) (ps : List (Nat × Value)), fr.evp l = some ps → l.map (fun (i, x) => (i, ρ x)) = ps := by
  intro l
  induction l with
  | nil => intro ps e; simpa [Fr.evp] using e
  | cons a r ih =>
    intro ps e
    obtain ⟨i, x⟩ := a
    simp only [Fr.evp] at e
    split at e
    · rename_i v vs h1 h2
      obtain rfl := Option.some.inj e
      simp [h x v h1, ih _ h2]
    · cases e

theorem L_buildSliceK {t e size bytes : Nat} {z : Value} [hT : TSlice P t e size bytes z] (T : Ty α) (ys : List α) {k : Nat} {parts : List (Nat × Operand)} {ps : List (Nat × Value)} {cells : Array Value} (hB : Below w0.heap.size w0 w)
    (hp : fr.evp parts = some ps) (hs : T.size = size) (hk : ys.length = k) (hsmall : Nat.ble (k * size) 16777216 = true) (hpos : Nat.beq (k * size) 0 = false)
    (hf : Instr.fill (fun i => some (i * size, size)) ((Array.range (k * size)).map (fun j => z.cells[j % z.cells.size]!)) ps = some cells) (hc : cells.toList = ys.flatMap T.enc) (hdn : Nat.blt d n = true)
    (kk : ∀ w', OwL T w' w0.heap.size e (.slice (some ⟨w.heap.size, 0, none⟩) k k) ys → Below w0.heap.size w0 w' → Below w.heap.size w w' → L P ops Q n rest ((d, .slice (some ⟨w.heap.size, 0, none⟩) k k) :: fr) w') :
    L P ops Q n (⟨some d, .buildSlice t k parts.toArray, ty, pos, af, none⟩ :: rest) fr w := by
  obtain ⟨inf, hinf, hz, hsz, _⟩ := hT.parts
  have h1 : k * size ≤ 16777216 := Nat.le_of_ble_eq_true hsmall
  have h2 : ¬ k * size = 0 := fun e => by simp [e] at hpos
  have h3 : ¬ 16777216 < k * size := by omega
  refine L_run (w' := w.alloc (.cells cells e)) rfl rfl hdn (fun ρ h => ?_) (kk _ ⟨?_⟩ (hB.alloc hB.size _) ((Below.refl _ _).alloc (Nat.le_refl _) _))
  · have hm := evp_map h parts ps hp
    have hm' : (parts.toArray.map fun (x : Nat × Operand) => (x.1, ρ x.2)).toList = ps := by simpa using hm
    simp only [execOp, Instr.buildSlice]
    simp [run_underlying hT.und, sizeOf, typeInfo, zeroValue, hinf, hz, hsz, h2, h3, hf, hm, newRow]
  · have hlen : cells.size = k * T.size := by
      have := congrArg List.length hc
      rw [flat_len, hk] at this
      simpa using this
    have := World.ownsRow_lit (e := e) w cells k hB.size (by
      have := hT.pos
      have : k ≤ k * size := Nat.le_mul_of_pos_right k this
      unfold maxLen; omega) hlen
    rw [hc] at this
    rw [hk]; exact this

theorem L_append {t e size bytes : Nat} {z : Value} [hT : TSlice P t e size bytes z] {s x : Operand} {v v2 : Value} {xs ys : List α} (hs : fr.ev s = some v) (hx : fr.ev x = some v2) (hB : Below w0.heap.size w0 w)
    (hO : OwL T w w0.heap.size e v xs) (hR : RdL T w v2 ys) (hsz : T.size = size) (hb : (xs.length + ys.length) * bytes ≤ 140737488355328) (h63 : xs.length + ys.length ≤ 9223372036854775807) (hdn : Nat.blt d n = true)
    (kk : ∀ v' w', OwL T w' w0.heap.size e v' (xs ++ ys) → Below w0.heap.size w0 w' → w.grownBy w' v.ownBlock → L P ops Q n rest ((d, v') :: fr) w') :
    L P ops Q n (⟨some d, .call ⟨.builtin .append, #[s, x], #[t, t]⟩, ty, pos, af, none⟩ :: rest) fr w := by
  obtain ⟨inf, hinf, hz, hiz, hib⟩ := hT.parts
  subst hsz
  obtain ⟨hl, a, cap, rfl, _, _, h4⟩ := hR.rd
  have go : ∀ v' w', (Builtin.append_ #[t, t] ty #[v, .slice a ys.length cap]).run P w = .ok v' w' → OwL T w' w0.heap.size e v' (xs ++ ys) → w.grownBy w' v.ownBlock →
      L P ops Q n (⟨some d, .call ⟨.builtin .append, #[s, x], #[t, t]⟩, ty, pos, af, none⟩ :: rest) fr w := by
    intro v' w' hr hO' hg
    refine L_run rfl rfl hdn (fun ρ h => ?_) (kk v' w' hO' (below_grow0 hB hg (fun k hk => (hO.lt k hk).1)) hg)
    have e1 := h s _ hs
    have e2 := h x _ hx
    rw [BigFrame.execOp_builtin, BigFrame.builtin_append]
    have e3 : Array.map ρ #[s, x] = #[v, .slice a ys.length cap] := by simp [e1, e2]
    rw [e3]
    simp [hr]
  rcases h4 with ⟨rfl, rfl⟩ | ⟨b, rfl, hp⟩
  · have hl0 : ys.length = 0 := by
      obtain ⟨a', cap', he, hc, _⟩ := hR.slice
      injection he with _ _ hcc
      omega
    have hy : ys = [] := List.eq_nil_of_length_eq_zero hl0
    subst hy
    refine go v w (run_append_owned_none w w0.heap.size t ty e inf T.size hT.und hinf v xs.length _ hO.own) (by simpa using hO) ⟨rfl, rfl, rfl, Nat.le_refl _, fun _ _ _ => rfl⟩
  · obtain ⟨v', w', hr, ho, hg, _⟩ := run_append_own (P := P) w w0.heap.size t ty e inf z T.size bytes hT.und hinf hz hiz hib hT.zs hT.pos v xs.length _ hO.own b ys.length cap _ hl hp (flat_one T ys) (by unfold maxLen; omega) hb hB.size
    exact go v' w' hr ⟨by rw [List.length_append, List.flatMap_append]; exact ho⟩ hg

/-- make([]T, k) -/
theorem L_makeSlice {t e size bytes : Nat} {z : Value} [hT : TSlice P t e size bytes z] (T : Ty α) (y0 : α) {x y : Operand} {kl kc : IntKind} {k : Nat} (hx : fr.ev x = some (.int kl k)) (hy : fr.ev y = some (.int kc k)) (hB : Below w0.heap.size w0 w)
    (hs : T.size = size) (hz0 : z.cells.toList = T.enc y0) (hb : bytes * k ≤ 281474976710656) (h63 : k ≤ 9223372036854775807) (hdn : Nat.blt d n = true)
    (kk : ∀ w', OwL T w' w0.heap.size e (.slice (some ⟨w.heap.size, 0, none⟩) k k) (List.replicate k y0) → Below w0.heap.size w0 w' → Below w.heap.size w w' → L P ops Q n rest ((d, .slice (some ⟨w.heap.size, 0, none⟩) k k) :: fr) w') :
    L P ops Q n (⟨some d, .makeSlice t x y, ty, pos, af, none⟩ :: rest) fr w := by
  obtain ⟨inf, hinf, hz, hiz, hib⟩ := hT.parts
  subst hs
  obtain ⟨w', hr, ho, hg⟩ := run_make_full (P := P) w w0.heap.size t e inf z T.size hT.und hinf hz hiz kl kc k (by rw [hib]; exact hb) (by unfold maxLen; omega) hB.size
  have hzs : z.cells = (T.enc y0).toArray := by apply Array.toList_inj.1; simpa using hz0
  have hcells : (madeCells z.cells (k * T.size)).toList = (List.replicate k y0).flatMap T.enc := by
    have hlen : (T.enc y0).length = T.size := T.len y0
    have hpos := hT.pos
    apply List.ext_getElem?
    intro i
    by_cases hi : i < k * T.size
    · have h1 : (List.replicate k y0)[i / T.size]? = some y0 := by
        rw [List.getElem?_replicate, if_pos]; exact Nat.div_lt_of_lt_mul (by rw [Nat.mul_comm]; exact hi)
      have h2 := flat_at T (List.replicate k y0) (i / T.size) y0 h1
      have hm : i % T.size < T.size := Nat.mod_lt _ hpos
      have h3 : ((List.replicate k y0).flatMap T.enc)[i]? = (T.enc y0)[i % T.size]? := by
        rw [← h2, List.getElem?_take, if_pos hm, List.getElem?_drop]
        congr 1
        rw [Nat.mul_comm]; exact (Nat.div_add_mod i T.size).symm
      rw [h3]
      simp [madeCells, hzs, hi, hlen]
      rw [List.getElem?_eq_getElem (by rw [hlen]; exact hm)]
      simp
    · rw [List.getElem?_eq_none (by simp [madeCells]; omega), List.getElem?_eq_none (by rw [flat_len]; simp; omega)]
  refine L_run rfl rfl hdn (fun ρ h => ?_) (kk w' ⟨by rw [List.length_replicate, ← hcells]; exact ho⟩ (below_grow0 hB hg (fun _ h => by cases h)) (below_of_grown hg))
  show (do pure (Next.value (← Instr.makeSlice t (ρ x) (ρ y))) : Sem Next).run P w = _
  rw [h x _ hx, h y _ hy]
  simp [hr]

/-- The address of element i of a slice of the call's own. -/
theorem L_indexOwn {t e size bytes : Nat} {z : Value} [hT : TSlice P t e size bytes z] {x ix : Operand} {v : Value} {xs : List α} {base : Nat} {kd : IntKind} {i : Int} (hx : fr.ev x = some v) (hi : fr.ev ix = some (.int kd i))
    (hO : OwL T w base e v xs) (hs : T.size = size) (h0 : 0 ≤ i) (h1 : i < xs.length) (hdn : Nat.blt d n = true)
    (kk : ∀ (g : Nat) (y : α), xs[i.toNat]? = some y → v.ownBlock = some g → L P ops Q n rest ((d, .pointer (some ⟨g, i.toNat * T.size, none⟩)) :: fr) w) :
    L P ops Q n (⟨some d, .indexAddr t x ix, ty, pos, af, none⟩ :: rest) fr w := by
  subst hs
  have hlt : i.toNat < xs.length := by omega
  rcases hO.own.2 with ⟨rfl, hn⟩ | ⟨g, cap, cur, rfl, _⟩
  · omega
  · have ha : (⟨g, 0, none⟩ : Addr).add (i.toNat * T.size) = ⟨g, i.toNat * T.size, none⟩ := by unfold Addr.add; split <;> simp_all
    refine L_do rfl rfl hdn (do_indexAt hx hi h0 (by exact h1)) ?_
    rw [ha]
    exact kk g _ (List.getElem?_eq_getElem hlt) rfl

theorem flat_set {α : Type} (T : Ty α) (xs : List α) (k : Nat) (y : α) (hk : k < xs.length) :
    (xs.set k y).flatMap T.enc = (xs.flatMap T.enc).take (k * T.size) ++ T.enc y ++ (xs.flatMap T.enc).drop (k * T.size + T.size) := by
  have h1 : k * T.size + T.size = (k + 1) * T.size := by rw [Nat.add_mul]; simp
  rw [h1, flat_take, flat_drop]
  conv => lhs; rw [List.set_eq_take_append_cons_drop, if_pos hk]
  rw [List.flatMap_append, List.flatMap_cons, List.append_assoc]

theorem splice_take {β : Type} (L cs : List β) (N p s off : Nat) (hN : N ≤ L.length) (hp : p + s ≤ N) (ho : off + cs.length ≤ s) :
    (L.take (p + off) ++ cs ++ L.drop (p + off + cs.length)).take N = (L.take N).take p ++ ((L.drop p).take off ++ cs ++ ((L.drop p).take s).drop (off + cs.length)) ++ (L.take N).drop (p + s) := by
  apply List.ext_getElem?
  intro i
  simp only [List.getElem?_take, List.getElem?_append, List.length_take, List.length_append, List.length_drop, List.getElem?_drop]
  by_cases h1 : i < p
  · rw [if_pos (by omega), if_pos (by omega), if_pos (by omega), if_pos (by omega), if_pos (by omega), if_pos (by omega), if_pos (by omega)]
    simp [show i < p + off from by omega, h1, show i < N from by omega]
  · by_cases h2 : i < p + off
    · simp (disch := omega) only [if_pos, if_neg]
      repeat' split
      all_goals first | omega | (congr 1; omega) | rfl
    · by_cases h3 : i < p + off + cs.length
      · repeat' split
        all_goals first | omega | (congr 1; omega) | rfl
      · repeat' split
        all_goals first | omega | (congr 1; omega) | rfl

/-- A store into an element, or a part of it, of a slice of the call's own. -/
theorem L_storeElem {t e k off : Nat} {size : Nat} [hS : TSize P t size] {x y : Operand} {v u : Value} {xs : List α} {p : Addr} {g : Nat} {cs : List Value} {y0 y1 : α} (hx : fr.ev x = some (.pointer (some p))) (hy : fr.ev y = some u)
    (hO : OwL T w w0.heap.size e v xs) (hp : p = ⟨g, k * T.size + off, none⟩) (hg : v.ownBlock = some g) (hy0 : xs[k]? = some y0) (hu : u.cells = cs.toArray) (hl : cs.length = size)
    (h1 : ∀ u ∈ cs, u.oneCell' = true) (hoff : off + cs.length ≤ T.size) (he : (T.enc y0).take off ++ cs ++ (T.enc y0).drop (off + cs.length) = T.enc y1) (hB : Below w0.heap.size w0 w)
    (kk : ∀ w', OwL T w' w0.heap.size e v (xs.set k y1) → Below w0.heap.size w0 w' → w.grownBy w' (some g) → w'.heap.size = w.heap.size → L P ops Q n rest fr w') :
    L P ops Q n (⟨none, .store t x y, ty, pos, af, none⟩ :: rest) fr w := by
  subst hp
  obtain ⟨hk, hy0'⟩ := List.getElem?_eq_some_iff.1 hy0
  obtain ⟨hol, ho⟩ := hO.own
  rcases ho with ⟨rfl, hn⟩ | ⟨g', cap, cur, rfl, hbase, hcell, hnc, hcm, hcs, htake⟩
  · cases hg
  · have hg' : g' = g := by simpa [Value.ownBlock] using hg
    subst hg'
    have hks : k * T.size + T.size ≤ xs.length * T.size := by
      have : (k + 1) * T.size ≤ xs.length * T.size := Nat.mul_le_mul_right _ hk
      rwa [Nat.add_mul, Nat.one_mul] at this
    have hns : xs.length * T.size ≤ cap * T.size := Nat.mul_le_mul_right _ hnc
    refine L_storeAt hx hy hu hl h1 hcell (by omega) rfl (fun w' hc' hg2 hz => ?_)
    refine kk w' ⟨⟨by rw [flat_len], .inr ⟨g', cap, _, by rw [List.length_set], hbase, hc', by simpa using hnc, hcm, ?_, ?_⟩⟩⟩ (below_grow0 hB hg2 (fun j hj => by cases hj; exact hbase)) hg2 hz
    · simp; omega
    · rw [List.length_set, flat_set T xs k y1 hk, ← he, ← htake]
      have hkl : (T.enc y0).length = T.size := T.len y0
      have hE : T.enc y0 = ((cur.toList.take (xs.length * T.size)).drop (k * T.size)).take T.size := by
        rw [htake, flat_at T xs k y0 hy0]
      have hE' : T.enc y0 = (cur.toList.drop (k * T.size)).take T.size := by rw [hE, List.drop_take, List.take_take, Nat.min_eq_left (by omega)]
      have hE1 : (T.enc y0).take off = (cur.toList.drop (k * T.size)).take off := by rw [hE', List.take_take, Nat.min_eq_left (by omega)]
      have hE2 : (T.enc y0).drop (off + cs.length) = ((cur.toList.drop (k * T.size)).take T.size).drop (off + cs.length) := by rw [hE']
      rw [hE1, hE2]
      have hL : cur.toList.length = cap * T.size := by simpa using hcs
      rw [splice_take cur.toList cs _ _ _ _ (by rw [hL]; exact hns) hks hoff]

/-- The result lies in a variable. -/
theorem At_endCell {fn : Func} {R : Value → World → Prop} {t b ty : Nat} {size : Nat} {z : Value} {cs : Array Value} {e : TypeId} {f : Nat × Nat} [hT : TStruct P ty size z] (hres : fn.results = #[.cell t ty]) (hv : fr.get t = some (.pointer (some ⟨b, 0, none⟩)))
    (hg : w.heap[b]? = some (.cells cs e f)) (hs : cs.size = size) (hR : R (.agg cs) w) : At (bodyPost P fn (Ret R)) .ret n fr w := ⟨fun a s => by
  obtain ⟨fs, hu⟩ := hT.und
  refine ⟨s.defers, _, results_cell_row hres a.tmps w b e cs f _ (s.getD hv) hg hu rfl ?_, _, rfl, hR⟩
  have h0 := hT.info
  cases hi : P.info? ty with
  | none => simp [hi] at h0
  | some i => simp [hi] at h0 ⊢; rw [hs]; exact h0.2⟩

end ops
end Go.Proofs.YtnemajefpgicgaaDoor
