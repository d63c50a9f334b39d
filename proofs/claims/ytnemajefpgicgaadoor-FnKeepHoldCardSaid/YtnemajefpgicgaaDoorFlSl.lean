/-
  More operations: nil checks, conversions of integers, exclusive or, slices of slices.
-/
import Derived.Test.YtnemajefpgicgaaDoorFlMix
import Derived.Laws.Tables
namespace Go.Proofs.YtnemajefpgicgaaDoor
open Go Go.RowKit

section
variable {P : Program} {ops : Array Oper} {Q : Exit → Act → World → Prop} {n : Nat} {fr : Fr} {w w0 : World} {rest : List Oper}
variable {d : Nat} {ty : TypeId} {pos : String} {af : Array Edge} {QQ : Act → Prop}
variable {α : Type} {T : Ty α} {C : World → Prop}

theorem do_nilCheck {x : Operand} {a : Addr} (hx : fr.ev x = some (.pointer (some a))) : Does P ⟨some d, .nilCheck x, ty, pos, af, none⟩ fr w (.pointer (some a)) :=
  ⟨fun ρ h => by unfold execOp; simp only [h x _ hx]; rfl⟩

theorem do_convInt {t t' : TypeId} {ds : TypeDesc} {x : Operand} {k : IntKind} {i : Int} (hs : P.underlying t = some ds) (hd : P.underlying t' = some (.int .i64)) (hx : fr.ev x = some (.int k i))
    (hr : -9223372036854775808 ≤ i ∧ i ≤ 9223372036854775807) : Does P ⟨some d, .convert t t' x, ty, pos, af, none⟩ fr w (.int .i64 i) := ⟨fun ρ h => by
  have := IntWalk.i64_in i hr
  simp [execOp, h x _ hx, convert, run_underlying hs, run_underlying hd, Conv.intToInt, this, go_sem]⟩

theorem do_xor {t t' : TypeId} {x y : Operand} {i j : Int} (hx : fr.ev x = some (.int .i64 i)) (hy : fr.ev y = some (.int .i64 j)) (hi : 0 ≤ i ∧ i < 4611686018427387904) (hj : 0 ≤ j ∧ j < 4611686018427387904) :
    Does P ⟨some d, .binOp .xor t x y t', ty, pos, af, none⟩ fr w (.int .i64 ((i.toNat ^^^ j.toNat : Nat) : Int)) := ⟨fun ρ h => by
  obtain ⟨a, rfl⟩ := Int.eq_ofNat_of_zero_le hi.1
  obtain ⟨b, rfl⟩ := Int.eq_ofNat_of_zero_le hj.1
  have ha : a < 2 ^ 62 := by omega
  have hb : b < 2 ^ 62 := by omega
  have hx' : a ^^^ b < 2 ^ 62 := Nat.xor_lt_two_pow ha hb
  have h1 : (BitVec.ofInt 64 (a : Int)).toNat = a := by simp [BitVec.toNat_ofInt]; omega
  have h2 : (BitVec.ofInt 64 (b : Int)).toNat = b := by simp [BitVec.toNat_ofInt]; omega
  have h3 : IntKind.i64.wrap (((BitVec.ofInt 64 (a : Int) ^^^ BitVec.ofInt 64 (b : Int)).toNat : Nat) : Int) = ((a ^^^ b : Nat) : Int) := by
    rw [BitVec.toNat_xor, h1, h2]; exact IntWalk.i64_in _ ⟨by omega, by omega⟩
  unfold execOp
  simp [h x _ hx, h y _ hy, binOp, Op.intArith, Op.intBits, go_sem]
  exact h3⟩

/-! ### Slices of slices -/
theorem sliced_rd {v : Value} {xs : List α} (h : RdL T w v xs) {lo hi : Nat} (h1 : lo ≤ hi) (h2 : hi ≤ xs.length) :
    ∃ a cap, v = .slice a xs.length cap ∧ xs.length ≤ cap ∧ RdL T w (sliced a lo hi cap T.size) ((xs.take hi).drop lo) ∧ ((sliced a lo hi cap T.size).ownBlock = v.ownBlock) := by
  obtain ⟨hl, a, cap, rfl, h3, h4, h5⟩ := h.rd
  have hlen : ((xs.take hi).drop lo).length = hi - lo := by simp; omega
  refine ⟨a, cap, rfl, h3, ⟨⟨by rw [flat_len], (if cap = lo then a else a.map (·.add (lo * T.size))), cap - lo, by rw [hlen]; rfl, by omega, by omega, ?_⟩⟩, ?_⟩
  · rcases h5 with ⟨rfl, rfl⟩ | ⟨b, rfl, hp⟩
    · exact .inl ⟨by simp, by omega⟩
    · by_cases hc : cap = lo
      · refine .inr ⟨b, by rw [if_pos hc], ?_⟩
        have : (xs.take hi).drop lo = [] := List.eq_nil_of_length_eq_zero (by omega)
        rw [this]; exact Pt.nil _ _
      · refine .inr ⟨b.add (lo * T.size), by rw [if_neg hc]; rfl, ?_⟩
        have := (hp.take (hi * T.size)).drop (lo * T.size)
        rwa [flat_take, flat_drop] at this
  · unfold sliced
    rcases h5 with ⟨rfl, rfl⟩ | ⟨b, rfl, hp⟩
    · split <;> rfl
    · have hb : (b.add (lo * T.size)).block = b.block := by unfold Addr.add; split <;> rfl
      split
      · rfl
      · show some (b.add (lo * T.size)).block = some b.block
        rw [hb]

theorem elem_of {t e : Nat} (h : P.underlying t = some (.slice e)) : P.underlying t = some (.slice (P.elem t)) := by
  rw [h]; simp [Program.elem, h]

theorem do_sliceH {t e size bytes : Nat} {z : Value} [hT : TSlice P t e size bytes z] {x y : Operand} {a : Option Addr} {len cap : Nat} {k : IntKind} {i : Int} (hx : fr.ev x = some (.slice a len cap)) (hy : fr.ev y = some (.int k i))
    (h0 : 0 ≤ i) (h1 : i ≤ cap) : Does P ⟨some d, .slice t x none (some y) none, ty, pos, af, none⟩ fr w (sliced a 0 i.toNat cap size) := ⟨fun ρ h => by
  obtain ⟨inf, hinf, hz, hiz, hib⟩ := hT.parts
  have hel : P.elem t = e := by have := elem_of hT.und; rw [hT.und] at this; injection this with this; injection this with this; exact this.symm
  show (do pure (Next.value (← Instr.sliceAt t (ρ x) none (some (ρ y)) none)) : Sem Next).run P w = _
  rw [h x _ hx, h y _ hy]
  have := run_slice_h (P := P) w t a len cap (elem_of hT.und) k i h0 h1
  simp [run_sliceAt_slice w t _ none (some (.int k i)) none (elem_of hT.und), this, sizeOf, typeInfo, hel, hinf, hiz, Result.andThen]⟩
theorem do_sliceL {t e size bytes : Nat} {z : Value} [hT : TSlice P t e size bytes z] {x y : Operand} {a : Option Addr} {len cap : Nat} {k : IntKind} {i : Int} (hx : fr.ev x = some (.slice a len cap)) (hy : fr.ev y = some (.int k i))
    (h0 : 0 ≤ i) (h1 : i ≤ len) : Does P ⟨some d, .slice t x (some y) none none, ty, pos, af, none⟩ fr w (sliced a i.toNat len cap size) := ⟨fun ρ h => by
  obtain ⟨inf, hinf, hz, hiz, hib⟩ := hT.parts
  have hel : P.elem t = e := by have := elem_of hT.und; rw [hT.und] at this; injection this with this; injection this with this; exact this.symm
  show (do pure (Next.value (← Instr.sliceAt t (ρ x) (some (ρ y)) none none)) : Sem Next).run P w = _
  rw [h x _ hx, h y _ hy]
  have := run_slice_l (P := P) w t a len cap (elem_of hT.und) k i h0 h1
  simp [run_sliceAt_slice w t _ (some (.int k i)) none none (elem_of hT.und), this, sizeOf, typeInfo, hel, hinf, hiz, Result.andThen]⟩

theorem L_sliceH {t e size bytes : Nat} {z : Value} [hT : TSlice P t e size bytes z] {x y : Operand} {v : Value} {xs : List α} {k : IntKind} {i : Int} (hx : fr.ev x = some v) (hy : fr.ev y = some (.int k i)) (hR : RdL T w v xs) (hs : T.size = size)
    (h0 : 0 ≤ i) (h1 : i ≤ xs.length) (hdn : Nat.blt d n = true) (kk : ∀ v', RdL T w v' (xs.take i.toNat) → v'.ownBlock = v.ownBlock → L P ops Q n rest ((d, v') :: fr) w) :
    L P ops Q n (⟨some d, .slice t x none (some y) none, ty, pos, af, none⟩ :: rest) fr w := by
  subst hs
  obtain ⟨a, cap, rfl, hc, hr, hb⟩ := sliced_rd hR (lo := 0) (hi := i.toNat) (by omega) (by omega)
  exact L_do rfl rfl hdn (do_sliceH hx hy h0 (by omega)) (kk _ hr hb)
theorem L_sliceL {t e size bytes : Nat} {z : Value} [hT : TSlice P t e size bytes z] {x y : Operand} {v : Value} {xs : List α} {k : IntKind} {i : Int} (hx : fr.ev x = some v) (hy : fr.ev y = some (.int k i)) (hR : RdL T w v xs) (hs : T.size = size)
    (h0 : 0 ≤ i) (h1 : i ≤ xs.length) (hdn : Nat.blt d n = true) (kk : ∀ v', RdL T w v' (xs.drop i.toNat) → v'.ownBlock = v.ownBlock → L P ops Q n rest ((d, v') :: fr) w) :
    L P ops Q n (⟨some d, .slice t x (some y) none none, ty, pos, af, none⟩ :: rest) fr w := by
  subst hs
  obtain ⟨a, cap, rfl, hc, hr, hb⟩ := sliced_rd hR (lo := i.toNat) (hi := xs.length) (by omega) (by omega)
  rw [List.take_length] at hr
  exact L_do rfl rfl hdn (do_sliceL hx hy h0 h1) (kk _ hr hb)
theorem LQ_sliceH {t e size bytes : Nat} {z : Value} [hT : TSlice P t e size bytes z] {x y : Operand} {v : Value} {xs : List α} {k : IntKind} {i : Int} (hx : fr.ev x = some v) (hy : fr.ev y = some (.int k i)) (hR : RdL T w v xs) (hs : T.size = size)
    (h0 : 0 ≤ i) (h1 : i ≤ xs.length) (hdn : Nat.blt d n = true) (kk : ∀ v', RdL T w v' (xs.take i.toNat) → v'.ownBlock = v.ownBlock → LQ P ops C QQ n rest ((d, v') :: fr)) :
    LQ P ops C QQ n (⟨some d, .slice t x none (some y) none, ty, pos, af, none⟩ :: rest) fr := by
  subst hs
  obtain ⟨a, cap, rfl, hc, hr, hb⟩ := sliced_rd hR (lo := 0) (hi := i.toNat) (by omega) (by omega)
  exact LQ_do rfl rfl hdn (fun _ _ => do_sliceH hx hy h0 (by omega)) (kk _ hr hb)
theorem LQ_sliceL {t e size bytes : Nat} {z : Value} [hT : TSlice P t e size bytes z] {x y : Operand} {v : Value} {xs : List α} {k : IntKind} {i : Int} (hx : fr.ev x = some v) (hy : fr.ev y = some (.int k i)) (hR : RdL T w v xs) (hs : T.size = size)
    (h0 : 0 ≤ i) (h1 : i ≤ xs.length) (hdn : Nat.blt d n = true) (kk : ∀ v', RdL T w v' (xs.drop i.toNat) → v'.ownBlock = v.ownBlock → LQ P ops C QQ n rest ((d, v') :: fr)) :
    LQ P ops C QQ n (⟨some d, .slice t x (some y) none none, ty, pos, af, none⟩ :: rest) fr := by
  subst hs
  obtain ⟨a, cap, rfl, hc, hr, hb⟩ := sliced_rd hR (lo := i.toNat) (hi := xs.length) (by omega) (by omega)
  rw [List.take_length] at hr
  exact LQ_do rfl rfl hdn (fun _ _ => do_sliceL hx hy h0 h1) (kk _ hr hb)

/-- A struct value is made of its parts. -/
theorem do_build {t : TypeId} {parts : List (Nat × Operand)} {ps : List (Nat × Value)} {cells : Array Value} (hp : fr.evp parts = some ps) (hb : P.built t ps = some cells) : Does P ⟨some d, .build t parts.toArray, ty, pos, af, none⟩ fr w (.agg cells) := ⟨fun ρ h => by
  have hm := evp_map h parts ps hp
  have hm' : (parts.toArray.map fun (x : Nat × Operand) => (x.1, ρ x.2)).toList = ps := by simpa using hm
  show (do pure (Next.value (← Instr.build t (parts.toArray.map fun (i, x) => (i, ρ x)))) : Sem Next).run P w = _
  have := run_build (P := P) w t (parts.toArray.map fun (x : Nat × Operand) => (x.1, ρ x.2)) cells (by rw [hm']; exact hb)
  rw [List.map_toArray] at this
  simp [this, Result.andThen]⟩

/-- The cells of a struct whose fields are one cell each. -/
def over (z : List Value) (ps : List (Nat × Value)) : List Value := ps.foldl (fun acc p => acc.set p.1 p.2) z
theorem do_buildS {t size : Nat} {z : Value} [hT : TStruct P t size z] {parts : List (Nat × Operand)} {ps : List (Nat × Value)} (hp : fr.evp parts = some ps) (hb : P.built t ps = some (over z.cells.toList ps).toArray) :
    Does P ⟨some d, .build t parts.toArray, ty, pos, af, none⟩ fr w (.agg (over z.cells.toList ps).toArray) := do_build hp hb

/-! ### Slices of the call's own where an older block changes -/
theorem L_appendG {t e size bytes : Nat} {z : Value} [hT : TSlice P t e size bytes z] {s x : Operand} {v v2 : Value} {xs ys : List α} (hs : fr.ev s = some v) (hx : fr.ev x = some v2) {base : Nat} (hbs : base ≤ w.heap.size)
    (hO : OwL T w base e v xs) (hR : RdL T w v2 ys) (hsz : T.size = size) (hb : (xs.length + ys.length) * bytes ≤ 140737488355328) (h63 : xs.length + ys.length ≤ 9223372036854775807) (hdn : Nat.blt d n = true)
    (kk : ∀ v' w', OwL T w' base e v' (xs ++ ys) → w.grownBy w' v.ownBlock → L P ops Q n rest ((d, v') :: fr) w') :
    L P ops Q n (⟨some d, .call ⟨.builtin .append, #[s, x], #[t, t]⟩, ty, pos, af, none⟩ :: rest) fr w := by
  obtain ⟨inf, hinf, hz, hiz, hib⟩ := hT.parts
  subst hsz
  obtain ⟨hl, a, cap, rfl, _, _, h4⟩ := hR.rd
  have go : ∀ v' w', (Builtin.append_ #[t, t] ty #[v, .slice a ys.length cap]).run P w = .ok v' w' → OwL T w' base e v' (xs ++ ys) → w.grownBy w' v.ownBlock →
      L P ops Q n (⟨some d, .call ⟨.builtin .append, #[s, x], #[t, t]⟩, ty, pos, af, none⟩ :: rest) fr w := by
    intro v' w' hr hO' hg
    refine L_run rfl rfl hdn (fun ρ h => ?_) (kk v' w' hO' hg)
    have e1 := h s _ hs
    have e2 := h x _ hx
    rw [BigFrame.execOp_builtin, BigFrame.builtin_append]
    have e3 : Array.map ρ #[s, x] = #[v, .slice a ys.length cap] := by simp [e1, e2]
    rw [e3]
    simp [hr]
  rcases h4 with ⟨rfl, rfl⟩ | ⟨b, rfl, hp⟩
  · have hl0 : ys.length = 0 := by
      obtain ⟨a', cap', he, hc, _⟩ := hR.slice
      injection he with _ _ hcc
      omega
    have hy : ys = [] := List.eq_nil_of_length_eq_zero hl0
    subst hy
    refine go v w (run_append_owned_none w base t ty e inf T.size hT.und hinf v xs.length _ hO.own) (by simpa using hO) ⟨rfl, rfl, rfl, Nat.le_refl _, fun _ _ _ => rfl⟩
  · obtain ⟨v', w', hr, ho, hg, _⟩ := run_append_own (P := P) w base t ty e inf z T.size bytes hT.und hinf hz hiz hib hT.zs hT.pos v xs.length _ hO.own b ys.length cap _ hl hp (flat_one T ys) (by unfold maxLen; omega) hb hbs
    exact go v' w' hr ⟨by rw [List.length_append, List.flatMap_append]; exact ho⟩ hg

theorem L_buildSlice0G {t e size bytes : Nat} {z : Value} [hT : TSlice P t e size bytes z] (T : Ty α) (base : Nat) (hbs : base ≤ w.heap.size) (hdn : Nat.blt d n = true)
    (kk : ∀ w', OwL T w' base e (.slice (some ⟨w.heap.size, 0, none⟩) 0 0) [] → Below w.heap.size w w' → L P ops Q n rest ((d, .slice (some ⟨w.heap.size, 0, none⟩) 0 0) :: fr) w') :
    L P ops Q n (⟨some d, .buildSlice t 0 #[], ty, pos, af, none⟩ :: rest) fr w := by
  obtain ⟨inf, hinf, _, hsz, _⟩ := hT.parts
  refine L_run (w' := w.alloc (.cells #[] e)) rfl rfl hdn (fun ρ h => ?_) (kk _ ⟨?_⟩ ((Below.refl _ _).alloc (Nat.le_refl _) _))
  · simp [execOp, Instr.buildSlice, run_underlying hT.und, sizeOf, typeInfo, hinf, Instr.fill, go_sem]
  · exact World.ownsRow_made w #[] 0 hbs (Nat.zero_le _) (by simp)


theorem L_buildSliceKG {t e size bytes : Nat} {z : Value} [hT : TSlice P t e size bytes z] (T : Ty α) (ys : List α) {k : Nat} {parts : List (Nat × Operand)} {ps : List (Nat × Value)} {cells : Array Value} (base : Nat) (hbs : base ≤ w.heap.size)
    (hp : fr.evp parts = some ps) (hs : T.size = size) (hk : ys.length = k) (hsmall : Nat.ble (k * size) 16777216 = true) (hpos : Nat.beq (k * size) 0 = false)
    (hf : Instr.fill (fun i => some (i * size, size)) ((Array.range (k * size)).map (fun j => z.cells[j % z.cells.size]!)) ps = some cells) (hc : cells.toList = ys.flatMap T.enc) (hdn : Nat.blt d n = true)
    (kk : ∀ w', OwL T w' base e (.slice (some ⟨w.heap.size, 0, none⟩) k k) ys → Below w.heap.size w w' → L P ops Q n rest ((d, .slice (some ⟨w.heap.size, 0, none⟩) k k) :: fr) w') :
    L P ops Q n (⟨some d, .buildSlice t k parts.toArray, ty, pos, af, none⟩ :: rest) fr w := by
  obtain ⟨inf, hinf, hz, hsz, _⟩ := hT.parts
  have h1 : k * size ≤ 16777216 := Nat.le_of_ble_eq_true hsmall
  have h2 : ¬ k * size = 0 := fun e => by simp [e] at hpos
  have h3 : ¬ 16777216 < k * size := by omega
  refine L_run (w' := w.alloc (.cells cells e)) rfl rfl hdn (fun ρ h => ?_) (kk _ ⟨?_⟩ ((Below.refl _ _).alloc (Nat.le_refl _) _))
  · have hm := evp_map h parts ps hp
    have hm' : (parts.toArray.map fun (x : Nat × Operand) => (x.1, ρ x.2)).toList = ps := by simpa using hm
    simp only [execOp, Instr.buildSlice]
    simp [run_underlying hT.und, sizeOf, typeInfo, zeroValue, hinf, hz, hsz, h2, h3, hf, hm, newRow]
  · have hlen : cells.size = k * T.size := by
      have := congrArg List.length hc
      rw [flat_len, hk] at this
      simpa using this
    have := World.ownsRow_lit (e := e) w cells k hbs (by
      have := hT.pos
      have : k ≤ k * size := Nat.le_mul_of_pos_right k this
      unfold maxLen; omega) hlen
    rw [hc] at this
    rw [hk]; exact this

theorem L_storeElemG {base : Nat} {t e k off : Nat} {size : Nat} [hS : TSize P t size] {x y : Operand} {v u : Value} {xs : List α} {p : Addr} {g : Nat} {cs : List Value} {y0 y1 : α} (hx : fr.ev x = some (.pointer (some p))) (hy : fr.ev y = some u)
    (hO : OwL T w base e v xs) (hp : p = ⟨g, k * T.size + off, none⟩) (hg : v.ownBlock = some g) (hy0 : xs[k]? = some y0) (hu : u.cells = cs.toArray) (hl : cs.length = size)
    (h1 : ∀ u ∈ cs, u.oneCell' = true) (hoff : off + cs.length ≤ T.size) (he : (T.enc y0).take off ++ cs ++ (T.enc y0).drop (off + cs.length) = T.enc y1) 
    (kk : ∀ w', OwL T w' base e v (xs.set k y1) → w.grownBy w' (some g) → w'.heap.size = w.heap.size → L P ops Q n rest fr w') :
    L P ops Q n (⟨none, .store t x y, ty, pos, af, none⟩ :: rest) fr w := by
  subst hp
  obtain ⟨hk, hy0'⟩ := List.getElem?_eq_some_iff.1 hy0
  obtain ⟨hol, ho⟩ := hO.own
  rcases ho with ⟨rfl, hn⟩ | ⟨g', cap, cur, rfl, hbase, hcell, hnc, hcm, hcs, htake⟩
  · cases hg
  · have hg' : g' = g := by simpa [Value.ownBlock] using hg
    subst hg'
    have hks : k * T.size + T.size ≤ xs.length * T.size := by
      have : (k + 1) * T.size ≤ xs.length * T.size := Nat.mul_le_mul_right _ hk
      rwa [Nat.add_mul, Nat.one_mul] at this
    have hns : xs.length * T.size ≤ cap * T.size := Nat.mul_le_mul_right _ hnc
    refine L_storeAt hx hy hu hl h1 hcell (by omega) rfl (fun w' hc' hg2 hz => ?_)
    refine kk w' ⟨⟨by rw [flat_len], .inr ⟨g', cap, _, by rw [List.length_set], hbase, hc', by simpa using hnc, hcm, ?_, ?_⟩⟩⟩ hg2 hz
    · simp; omega
    · rw [List.length_set, flat_set T xs k y1 hk, ← he, ← htake]
      have hkl : (T.enc y0).length = T.size := T.len y0
      have hE : T.enc y0 = ((cur.toList.take (xs.length * T.size)).drop (k * T.size)).take T.size := by
        rw [htake, flat_at T xs k y0 hy0]
      have hE' : T.enc y0 = (cur.toList.drop (k * T.size)).take T.size := by rw [hE, List.drop_take, List.take_take, Nat.min_eq_left (by omega)]
      have hE1 : (T.enc y0).take off = (cur.toList.drop (k * T.size)).take off := by rw [hE', List.take_take, Nat.min_eq_left (by omega)]
      have hE2 : (T.enc y0).drop (off + cs.length) = ((cur.toList.drop (k * T.size)).take T.size).drop (off + cs.length) := by rw [hE']
      rw [hE1, hE2]
      have hL : cur.toList.length = cap * T.size := by simpa using hcs
      rw [splice_take cur.toList cs _ _ _ _ (by rw [hL]; exact hns) hks hoff]


/-! ### Division, with bounds handed on -/
theorem mod_bd {i j : Int} (hj : 0 < j) : 0 ≤ i % j ∧ i % j < j := ⟨Int.emod_nonneg _ (by omega), Int.emod_lt_of_pos _ hj⟩
theorem div_bd {i j : Int} (hi : 0 ≤ i) : 0 ≤ j → 0 ≤ i / j ∧ i / j ≤ i := fun hj => ⟨Int.ediv_nonneg hi hj, Int.ediv_le_self _ hi⟩
theorem L_rem {t t' : TypeId} {x y : Operand} {i j : Int} (hx : fr.ev x = some (.int .i64 i)) (hy : fr.ev y = some (.int .i64 j)) (hi : 0 ≤ i) (hj : 0 < j) (hdn : Nat.blt d n = true)
    (kk : 0 ≤ i % j ∧ i % j < j → L P ops Q n rest ((d, .int .i64 (i % j)) :: fr) w) : L P ops Q n (⟨some d, .binOp .rem t x y t', ty, pos, af, none⟩ :: rest) fr w :=
  L_do rfl rfl hdn (do_rem hx hy hi hj) (kk (mod_bd hj))
theorem LQ_rem {t t' : TypeId} {x y : Operand} {i j : Int} (hx : fr.ev x = some (.int .i64 i)) (hy : fr.ev y = some (.int .i64 j)) (hi : 0 ≤ i) (hj : 0 < j) (hdn : Nat.blt d n = true)
    (kk : 0 ≤ i % j ∧ i % j < j → LQ P ops C QQ n rest ((d, .int .i64 (i % j)) :: fr)) : LQ P ops C QQ n (⟨some d, .binOp .rem t x y t', ty, pos, af, none⟩ :: rest) fr :=
  LQ_do rfl rfl hdn (fun _ _ => do_rem hx hy hi hj) (kk (mod_bd hj))
theorem LQ_quo {t t' : TypeId} {x y : Operand} {i j : Int} (hx : fr.ev x = some (.int .i64 i)) (hy : fr.ev y = some (.int .i64 j)) (hi : 0 ≤ i ∧ i ≤ 9223372036854775807) (hj : 0 < j) (hdn : Nat.blt d n = true)
    (kk : 0 ≤ i / j ∧ i / j ≤ i → LQ P ops C QQ n rest ((d, .int .i64 (i / j)) :: fr)) : LQ P ops C QQ n (⟨some d, .binOp .quo t x y t', ty, pos, af, none⟩ :: rest) fr :=
  LQ_do rfl rfl hdn (fun _ _ => do_quo hx hy hi hj) (kk (div_bd hi.1 (by omega)))
theorem L_xor {t t' : TypeId} {x y : Operand} {i j : Int} (hx : fr.ev x = some (.int .i64 i)) (hy : fr.ev y = some (.int .i64 j)) (hi : 0 ≤ i ∧ i < 4611686018427387904) (hj : 0 ≤ j ∧ j < 4611686018427387904) (hdn : Nat.blt d n = true)
    (kk : ∀ z : Int, 0 ≤ z → z < 4611686018427387904 → L P ops Q n rest ((d, .int .i64 z) :: fr) w) : L P ops Q n (⟨some d, .binOp .xor t x y t', ty, pos, af, none⟩ :: rest) fr w :=
  L_do rfl rfl hdn (do_xor hx hy hi hj) (kk _ (by omega) (by
    have : i.toNat ^^^ j.toNat < 2 ^ 62 := Nat.xor_lt_two_pow (by omega) (by omega)
    omega))
end
end Go.Proofs.YtnemajefpgicgaaDoor
