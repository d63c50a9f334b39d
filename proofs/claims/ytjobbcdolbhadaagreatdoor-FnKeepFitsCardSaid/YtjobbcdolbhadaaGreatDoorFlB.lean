/-
  More operations: nil checks, conversions of integers, exclusive or, slices of slices.
  More operations: cap, min, a slice compared with nil, a beginning of a slice of the call's own, append of zeros to the nil slice.
  Operations on strings: a byte, a part, length; over lists of bytes.
  Values of structs of two numbers: equality, fields.
  Conversions between numbers, bytes and strings; results of which the first is a struct in a cell.
  Equality of commands: a struct of a string and two structs of two numbers.
  A field of one cell of a struct value.
  A beginning of a slice that the call owns, in a drawn region.
  A slice between two bounds; slices whose elements are slices.
  Maps from texts to 'true': made, asked, grown by one key.
-/
import Derived.Test.YtjobbcdolbhadaaGreatDoorFlA
import Derived.Laws.Tables
import Derived.Lib.AppendZerosOnto
import Derived.Laws.Strings2
import Derived.Laws.Slices
import Derived.Laws.StructEq
import Derived.Laws.IdiomStrings
import Derived.Laws.ResultCell
import Derived.Laws.Rows
import Derived.MapKept

namespace Go.Proofs.YtjobbcdolbhadaaGreatDoor
set_option linter.unusedVariables false
set_option linter.unusedSimpArgs false
open Go Go.RowKit

section
variable {P : Program} {ops : Array Oper} {Q : Exit → Act → World → Prop} {n : Nat} {fr : Fr} {w w0 : World} {rest : List Oper}
variable {d : Nat} {ty : TypeId} {pos : String} {af : Array Edge} {QQ : Act → Prop}
variable {α : Type} {T : Ty α} {C : World → Prop}

theorem do_nilCheck {x : Operand} {a : Addr} (hx : fr.ev x = some (.pointer (some a))) : Does P ⟨some d, .nilCheck x, ty, pos, af, none⟩ fr w (.pointer (some a)) :=
  ⟨fun ρ h => by unfold execOp; simp only [h x _ hx]; rfl⟩

theorem do_convInt {t t' : TypeId} {ds : TypeDesc} {x : Operand} {k : IntKind} {i : Int} (hs : P.underlying t = some ds) (hd : P.underlying t' = some (.int .i64)) (hx : fr.ev x = some (.int k i))
    (hr : -9223372036854775808 ≤ i ∧ i ≤ 9223372036854775807) : Does P ⟨some d, .convert t t' x, ty, pos, af, none⟩ fr w (.int .i64 i) := ⟨fun ρ h => by
  have := IntWalk.i64_in i hr
  simp [execOp, h x _ hx, convert, run_underlying hs, run_underlying hd, Conv.intToInt, this, go_sem]⟩

theorem do_xor {t t' : TypeId} {x y : Operand} {i j : Int} (hx : fr.ev x = some (.int .i64 i)) (hy : fr.ev y = some (.int .i64 j)) (hi : 0 ≤ i ∧ i < 4611686018427387904) (hj : 0 ≤ j ∧ j < 4611686018427387904) :
    Does P ⟨some d, .binOp .xor t x y t', ty, pos, af, none⟩ fr w (.int .i64 ((i.toNat ^^^ j.toNat : Nat) : Int)) := ⟨fun ρ h => by
  obtain ⟨a, rfl⟩ := Int.eq_ofNat_of_zero_le hi.1
  obtain ⟨b, rfl⟩ := Int.eq_ofNat_of_zero_le hj.1
  have ha : a < 2 ^ 62 := by omega
  have hb : b < 2 ^ 62 := by omega
  have hx' : a ^^^ b < 2 ^ 62 := Nat.xor_lt_two_pow ha hb
  have h1 : (BitVec.ofInt 64 (a : Int)).toNat = a := by simp [BitVec.toNat_ofInt]; omega
  have h2 : (BitVec.ofInt 64 (b : Int)).toNat = b := by simp [BitVec.toNat_ofInt]; omega
  have h3 : IntKind.i64.wrap (((BitVec.ofInt 64 (a : Int) ^^^ BitVec.ofInt 64 (b : Int)).toNat : Nat) : Int) = ((a ^^^ b : Nat) : Int) := by
    rw [BitVec.toNat_xor, h1, h2]; exact IntWalk.i64_in _ ⟨by omega, by omega⟩
  unfold execOp
  simp [h x _ hx, h y _ hy, binOp, Op.intArith, Op.intBits, go_sem]
  exact h3⟩

/-! ### Slices of slices -/
theorem sliced_rd {v : Value} {xs : List α} (h : RdL T w v xs) {lo hi : Nat} (h1 : lo ≤ hi) (h2 : hi ≤ xs.length) :
    ∃ a cap, v = .slice a xs.length cap ∧ xs.length ≤ cap ∧ RdL T w (sliced a lo hi cap T.size) ((xs.take hi).drop lo) ∧ ((sliced a lo hi cap T.size).ownBlock = v.ownBlock) := by
  obtain ⟨hl, a, cap, rfl, h3, h4, h5⟩ := h.rd
  have hlen : ((xs.take hi).drop lo).length = hi - lo := by simp; omega
  refine ⟨a, cap, rfl, h3, ⟨⟨by rw [flat_len], (if cap = lo then a else a.map (·.add (lo * T.size))), cap - lo, by rw [hlen]; rfl, by omega, by omega, ?_⟩⟩, ?_⟩
  · rcases h5 with ⟨rfl, rfl⟩ | ⟨b, rfl, hp⟩
    · exact .inl ⟨by simp, by omega⟩
    · by_cases hc : cap = lo
      · refine .inr ⟨b, by rw [if_pos hc], ?_⟩
        have : (xs.take hi).drop lo = [] := List.eq_nil_of_length_eq_zero (by omega)
        rw [this]; exact Pt.nil _ _
      · refine .inr ⟨b.add (lo * T.size), by rw [if_neg hc]; rfl, ?_⟩
        have := (hp.take (hi * T.size)).drop (lo * T.size)
        rwa [flat_take, flat_drop] at this
  · unfold sliced
    rcases h5 with ⟨rfl, rfl⟩ | ⟨b, rfl, hp⟩
    · split <;> rfl
    · have hb : (b.add (lo * T.size)).block = b.block := by unfold Addr.add; split <;> rfl
      split
      · rfl
      · show some (b.add (lo * T.size)).block = some b.block
        rw [hb]

theorem elem_of {t e : Nat} (h : P.underlying t = some (.slice e)) : P.underlying t = some (.slice (P.elem t)) := by
  rw [h]; simp [Program.elem, h]

theorem do_sliceH {t e size bytes : Nat} {z : Value} [hT : TSlice P t e size bytes z] {x y : Operand} {a : Option Addr} {len cap : Nat} {k : IntKind} {i : Int} (hx : fr.ev x = some (.slice a len cap)) (hy : fr.ev y = some (.int k i))
    (h0 : 0 ≤ i) (h1 : i ≤ cap) : Does P ⟨some d, .slice t x none (some y) none, ty, pos, af, none⟩ fr w (sliced a 0 i.toNat cap size) := ⟨fun ρ h => by
  obtain ⟨inf, hinf, hz, hiz, hib⟩ := hT.parts
  have hel : P.elem t = e := by have := elem_of hT.und; rw [hT.und] at this; injection this with this; injection this with this; exact this.symm
  show (do pure (Next.value (← Instr.sliceAt t (ρ x) none (some (ρ y)) none)) : Sem Next).run P w = _
  rw [h x _ hx, h y _ hy]
  have := run_slice_h (P := P) w t a len cap (elem_of hT.und) k i h0 h1
  simp [run_sliceAt_slice w t _ none (some (.int k i)) none (elem_of hT.und), this, sizeOf, typeInfo, hel, hinf, hiz, Result.andThen]⟩
theorem do_sliceL {t e size bytes : Nat} {z : Value} [hT : TSlice P t e size bytes z] {x y : Operand} {a : Option Addr} {len cap : Nat} {k : IntKind} {i : Int} (hx : fr.ev x = some (.slice a len cap)) (hy : fr.ev y = some (.int k i))
    (h0 : 0 ≤ i) (h1 : i ≤ len) : Does P ⟨some d, .slice t x (some y) none none, ty, pos, af, none⟩ fr w (sliced a i.toNat len cap size) := ⟨fun ρ h => by
  obtain ⟨inf, hinf, hz, hiz, hib⟩ := hT.parts
  have hel : P.elem t = e := by have := elem_of hT.und; rw [hT.und] at this; injection this with this; injection this with this; exact this.symm
  show (do pure (Next.value (← Instr.sliceAt t (ρ x) (some (ρ y)) none none)) : Sem Next).run P w = _
  rw [h x _ hx, h y _ hy]
  have := run_slice_l (P := P) w t a len cap (elem_of hT.und) k i h0 h1
  simp [run_sliceAt_slice w t _ (some (.int k i)) none none (elem_of hT.und), this, sizeOf, typeInfo, hel, hinf, hiz, Result.andThen]⟩

theorem L_sliceH {t e size bytes : Nat} {z : Value} [hT : TSlice P t e size bytes z] {x y : Operand} {v : Value} {xs : List α} {k : IntKind} {i : Int} (hx : fr.ev x = some v) (hy : fr.ev y = some (.int k i)) (hR : RdL T w v xs) (hs : T.size = size)
    (h0 : 0 ≤ i) (h1 : i ≤ xs.length) (hdn : Nat.blt d n = true) (kk : ∀ v', RdL T w v' (xs.take i.toNat) → v'.ownBlock = v.ownBlock → L P ops Q n rest ((d, v') :: fr) w) :
    L P ops Q n (⟨some d, .slice t x none (some y) none, ty, pos, af, none⟩ :: rest) fr w := by
  subst hs
  obtain ⟨a, cap, rfl, hc, hr, hb⟩ := sliced_rd hR (lo := 0) (hi := i.toNat) (by omega) (by omega)
  exact L_do rfl rfl hdn (do_sliceH hx hy h0 (by omega)) (kk _ hr hb)
theorem L_sliceL {t e size bytes : Nat} {z : Value} [hT : TSlice P t e size bytes z] {x y : Operand} {v : Value} {xs : List α} {k : IntKind} {i : Int} (hx : fr.ev x = some v) (hy : fr.ev y = some (.int k i)) (hR : RdL T w v xs) (hs : T.size = size)
    (h0 : 0 ≤ i) (h1 : i ≤ xs.length) (hdn : Nat.blt d n = true) (kk : ∀ v', RdL T w v' (xs.drop i.toNat) → v'.ownBlock = v.ownBlock → L P ops Q n rest ((d, v') :: fr) w) :
    L P ops Q n (⟨some d, .slice t x (some y) none none, ty, pos, af, none⟩ :: rest) fr w := by
  subst hs
  obtain ⟨a, cap, rfl, hc, hr, hb⟩ := sliced_rd hR (lo := i.toNat) (hi := xs.length) (by omega) (by omega)
  rw [List.take_length] at hr
  exact L_do rfl rfl hdn (do_sliceL hx hy h0 h1) (kk _ hr hb)
theorem LQ_sliceH {t e size bytes : Nat} {z : Value} [hT : TSlice P t e size bytes z] {x y : Operand} {v : Value} {xs : List α} {k : IntKind} {i : Int} (hx : fr.ev x = some v) (hy : fr.ev y = some (.int k i)) (hR : RdL T w v xs) (hs : T.size = size)
    (h0 : 0 ≤ i) (h1 : i ≤ xs.length) (hdn : Nat.blt d n = true) (kk : ∀ v', RdL T w v' (xs.take i.toNat) → v'.ownBlock = v.ownBlock → LQ P ops C QQ n rest ((d, v') :: fr)) :
    LQ P ops C QQ n (⟨some d, .slice t x none (some y) none, ty, pos, af, none⟩ :: rest) fr := by
  subst hs
  obtain ⟨a, cap, rfl, hc, hr, hb⟩ := sliced_rd hR (lo := 0) (hi := i.toNat) (by omega) (by omega)
  exact LQ_do rfl rfl hdn (fun _ _ => do_sliceH hx hy h0 (by omega)) (kk _ hr hb)
theorem LQ_sliceL {t e size bytes : Nat} {z : Value} [hT : TSlice P t e size bytes z] {x y : Operand} {v : Value} {xs : List α} {k : IntKind} {i : Int} (hx : fr.ev x = some v) (hy : fr.ev y = some (.int k i)) (hR : RdL T w v xs) (hs : T.size = size)
    (h0 : 0 ≤ i) (h1 : i ≤ xs.length) (hdn : Nat.blt d n = true) (kk : ∀ v', RdL T w v' (xs.drop i.toNat) → v'.ownBlock = v.ownBlock → LQ P ops C QQ n rest ((d, v') :: fr)) :
    LQ P ops C QQ n (⟨some d, .slice t x (some y) none none, ty, pos, af, none⟩ :: rest) fr := by
  subst hs
  obtain ⟨a, cap, rfl, hc, hr, hb⟩ := sliced_rd hR (lo := i.toNat) (hi := xs.length) (by omega) (by omega)
  rw [List.take_length] at hr
  exact LQ_do rfl rfl hdn (fun _ _ => do_sliceL hx hy h0 h1) (kk _ hr hb)

/-- A struct value is made of its parts. -/
theorem do_build {t : TypeId} {parts : List (Nat × Operand)} {ps : List (Nat × Value)} {cells : Array Value} (hp : fr.evp parts = some ps) (hb : P.built t ps = some cells) : Does P ⟨some d, .build t parts.toArray, ty, pos, af, none⟩ fr w (.agg cells) := ⟨fun ρ h => by
  have hm := evp_map h parts ps hp
  have hm' : (parts.toArray.map fun (x : Nat × Operand) => (x.1, ρ x.2)).toList = ps := by simpa using hm
  show (do pure (Next.value (← Instr.build t (parts.toArray.map fun (i, x) => (i, ρ x)))) : Sem Next).run P w = _
  have := run_build (P := P) w t (parts.toArray.map fun (x : Nat × Operand) => (x.1, ρ x.2)) cells (by rw [hm']; exact hb)
  rw [List.map_toArray] at this
  simp [this, Result.andThen]⟩

/-- The cells of a struct whose fields are one cell each. -/
def over (z : List Value) (ps : List (Nat × Value)) : List Value := ps.foldl (fun acc p => acc.set p.1 p.2) z
theorem do_buildS {t size : Nat} {z : Value} [hT : TStruct P t size z] {parts : List (Nat × Operand)} {ps : List (Nat × Value)} (hp : fr.evp parts = some ps) (hb : P.built t ps = some (over z.cells.toList ps).toArray) :
    Does P ⟨some d, .build t parts.toArray, ty, pos, af, none⟩ fr w (.agg (over z.cells.toList ps).toArray) := do_build hp hb

/-! ### Slices of the call's own where an older block changes -/
theorem L_appendG {t e size bytes : Nat} {z : Value} [hT : TSlice P t e size bytes z] {s x : Operand} {v v2 : Value} {xs ys : List α} (hs : fr.ev s = some v) (hx : fr.ev x = some v2) {base : Nat} (hbs : base ≤ w.heap.size)
    (hO : OwL T w base e v xs) (hR : RdL T w v2 ys) (hsz : T.size = size) (hb : (xs.length + ys.length) * bytes ≤ 140737488355328) (h63 : xs.length + ys.length ≤ 9223372036854775807) (hdn : Nat.blt d n = true)
    (kk : ∀ v' w', OwL T w' base e v' (xs ++ ys) → w.grownBy w' v.ownBlock → L P ops Q n rest ((d, v') :: fr) w') :
    L P ops Q n (⟨some d, .call ⟨.builtin .append, #[s, x], #[t, t]⟩, ty, pos, af, none⟩ :: rest) fr w := by
  obtain ⟨inf, hinf, hz, hiz, hib⟩ := hT.parts
  subst hsz
  obtain ⟨hl, a, cap, rfl, _, _, h4⟩ := hR.rd
  have go : ∀ v' w', (Builtin.append_ #[t, t] ty #[v, .slice a ys.length cap]).run P w = .ok v' w' → OwL T w' base e v' (xs ++ ys) → w.grownBy w' v.ownBlock →
      L P ops Q n (⟨some d, .call ⟨.builtin .append, #[s, x], #[t, t]⟩, ty, pos, af, none⟩ :: rest) fr w := by
    intro v' w' hr hO' hg
    refine L_run rfl rfl hdn (fun ρ h => ?_) (kk v' w' hO' hg)
    have e1 := h s _ hs
    have e2 := h x _ hx
    rw [BigFrame.execOp_builtin, BigFrame.builtin_append]
    have e3 : Array.map ρ #[s, x] = #[v, .slice a ys.length cap] := by simp [e1, e2]
    rw [e3]
    simp [hr]
  rcases h4 with ⟨rfl, rfl⟩ | ⟨b, rfl, hp⟩
  · have hl0 : ys.length = 0 := by
      obtain ⟨a', cap', he, hc, _⟩ := hR.slice
      injection he with _ _ hcc
      omega
    have hy : ys = [] := List.eq_nil_of_length_eq_zero hl0
    subst hy
    refine go v w (run_append_owned_none w base t ty e inf T.size hT.und hinf v xs.length _ hO.own) (by simpa using hO) ⟨rfl, rfl, rfl, Nat.le_refl _, fun _ _ _ => rfl⟩
  · obtain ⟨v', w', hr, ho, hg, _⟩ := run_append_own (P := P) w base t ty e inf z T.size bytes hT.und hinf hz hiz hib hT.zs hT.pos v xs.length _ hO.own b ys.length cap _ hl hp (flat_one T ys) (by unfold maxLen; omega) hb hbs
    exact go v' w' hr ⟨by rw [List.length_append, List.flatMap_append]; exact ho⟩ hg

theorem L_buildSlice0G {t e size bytes : Nat} {z : Value} [hT : TSlice P t e size bytes z] (T : Ty α) (base : Nat) (hbs : base ≤ w.heap.size) (hdn : Nat.blt d n = true)
    (kk : ∀ w', OwL T w' base e (.slice (some ⟨w.heap.size, 0, none⟩) 0 0) [] → Below w.heap.size w w' → L P ops Q n rest ((d, .slice (some ⟨w.heap.size, 0, none⟩) 0 0) :: fr) w') :
    L P ops Q n (⟨some d, .buildSlice t 0 #[], ty, pos, af, none⟩ :: rest) fr w := by
  obtain ⟨inf, hinf, _, hsz, _⟩ := hT.parts
  refine L_run (w' := w.alloc (.cells #[] e)) rfl rfl hdn (fun ρ h => ?_) (kk _ ⟨?_⟩ ((Below.refl _ _).alloc (Nat.le_refl _) _))
  · simp [execOp, Instr.buildSlice, run_underlying hT.und, sizeOf, typeInfo, hinf, Instr.fill, go_sem]
  · exact World.ownsRow_made w #[] 0 hbs (Nat.zero_le _) (by simp)


theorem L_buildSliceKG {t e size bytes : Nat} {z : Value} [hT : TSlice P t e size bytes z] (T : Ty α) (ys : List α) {k : Nat} {parts : List (Nat × Operand)} {ps : List (Nat × Value)} {cells : Array Value} (base : Nat) (hbs : base ≤ w.heap.size)
    (hp : fr.evp parts = some ps) (hs : T.size = size) (hk : ys.length = k) (hsmall : Nat.ble (k * size) 16777216 = true) (hpos : Nat.beq (k * size) 0 = false)
    (hf : Instr.fill (fun i => some (i * size, size)) ((Array.range (k * size)).map (fun j => z.cells[j % z.cells.size]!)) ps = some cells) (hc : cells.toList = ys.flatMap T.enc) (hdn : Nat.blt d n = true)
    (kk : ∀ w', OwL T w' base e (.slice (some ⟨w.heap.size, 0, none⟩) k k) ys → Below w.heap.size w w' → L P ops Q n rest ((d, .slice (some ⟨w.heap.size, 0, none⟩) k k) :: fr) w') :
    L P ops Q n (⟨some d, .buildSlice t k parts.toArray, ty, pos, af, none⟩ :: rest) fr w := by
  obtain ⟨inf, hinf, hz, hsz, _⟩ := hT.parts
  have h1 : k * size ≤ 16777216 := Nat.le_of_ble_eq_true hsmall
  have h2 : ¬ k * size = 0 := fun e => by simp [e] at hpos
  have h3 : ¬ 16777216 < k * size := by omega
  refine L_run (w' := w.alloc (.cells cells e)) rfl rfl hdn (fun ρ h => ?_) (kk _ ⟨?_⟩ ((Below.refl _ _).alloc (Nat.le_refl _) _))
  · have hm := evp_map h parts ps hp
    have hm' : (parts.toArray.map fun (x : Nat × Operand) => (x.1, ρ x.2)).toList = ps := by simpa using hm
    simp only [execOp, Instr.buildSlice]
    simp [run_underlying hT.und, sizeOf, typeInfo, zeroValue, hinf, hz, hsz, h2, h3, hf, hm, newRow]
  · have hlen : cells.size = k * T.size := by
      have := congrArg List.length hc
      rw [flat_len, hk] at this
      simpa using this
    have := World.ownsRow_lit (e := e) w cells k hbs (by
      have := hT.pos
      have : k ≤ k * size := Nat.le_mul_of_pos_right k this
      unfold maxLen; omega) hlen
    rw [hc] at this
    rw [hk]; exact this

theorem L_storeElemG {base : Nat} {t e k off : Nat} {size : Nat} [hS : TSize P t size] {x y : Operand} {v u : Value} {xs : List α} {p : Addr} {g : Nat} {cs : List Value} {y0 y1 : α} (hx : fr.ev x = some (.pointer (some p))) (hy : fr.ev y = some u)
    (hO : OwL T w base e v xs) (hp : p = ⟨g, k * T.size + off, none⟩) (hg : v.ownBlock = some g) (hy0 : xs[k]? = some y0) (hu : u.cells = cs.toArray) (hl : cs.length = size)
    (h1 : ∀ u ∈ cs, u.oneCell' = true) (hoff : off + cs.length ≤ T.size) (he : (T.enc y0).take off ++ cs ++ (T.enc y0).drop (off + cs.length) = T.enc y1) 
    (kk : ∀ w', OwL T w' base e v (xs.set k y1) → w.grownBy w' (some g) → w'.heap.size = w.heap.size → L P ops Q n rest fr w') :
    L P ops Q n (⟨none, .store t x y, ty, pos, af, none⟩ :: rest) fr w := by
  subst hp
  obtain ⟨hk, hy0'⟩ := List.getElem?_eq_some_iff.1 hy0
  obtain ⟨hol, ho⟩ := hO.own
  rcases ho with ⟨rfl, hn⟩ | ⟨g', cap, cur, rfl, hbase, hcell, hnc, hcm, hcs, htake⟩
  · cases hg
  · have hg' : g' = g := by simpa [Value.ownBlock] using hg
    subst hg'
    have hks : k * T.size + T.size ≤ xs.length * T.size := by
      have : (k + 1) * T.size ≤ xs.length * T.size := Nat.mul_le_mul_right _ hk
      rwa [Nat.add_mul, Nat.one_mul] at this
    have hns : xs.length * T.size ≤ cap * T.size := Nat.mul_le_mul_right _ hnc
    refine L_storeAt hx hy hu hl h1 hcell (by omega) rfl (fun w' hc' hg2 hz => ?_)
    refine kk w' ⟨⟨by rw [flat_len], .inr ⟨g', cap, _, by rw [List.length_set], hbase, hc', by simpa using hnc, hcm, ?_, ?_⟩⟩⟩ hg2 hz
    · simp; omega
    · rw [List.length_set, flat_set T xs k y1 hk, ← he, ← htake]
      have hkl : (T.enc y0).length = T.size := T.len y0
      have hE : T.enc y0 = ((cur.toList.take (xs.length * T.size)).drop (k * T.size)).take T.size := by
        rw [htake, flat_at T xs k y0 hy0]
      have hE' : T.enc y0 = (cur.toList.drop (k * T.size)).take T.size := by rw [hE, List.drop_take, List.take_take, Nat.min_eq_left (by omega)]
      have hE1 : (T.enc y0).take off = (cur.toList.drop (k * T.size)).take off := by rw [hE', List.take_take, Nat.min_eq_left (by omega)]
      have hE2 : (T.enc y0).drop (off + cs.length) = ((cur.toList.drop (k * T.size)).take T.size).drop (off + cs.length) := by rw [hE']
      rw [hE1, hE2]
      have hL : cur.toList.length = cap * T.size := by simpa using hcs
      rw [splice_take cur.toList cs _ _ _ _ (by rw [hL]; exact hns) hks hoff]


/-! ### Division, with bounds handed on -/
theorem mod_bd {i j : Int} (hj : 0 < j) : 0 ≤ i % j ∧ i % j < j := ⟨Int.emod_nonneg _ (by omega), Int.emod_lt_of_pos _ hj⟩
theorem div_bd {i j : Int} (hi : 0 ≤ i) : 0 ≤ j → 0 ≤ i / j ∧ i / j ≤ i := fun hj => ⟨Int.ediv_nonneg hi hj, Int.ediv_le_self _ hi⟩
theorem L_rem {t t' : TypeId} {x y : Operand} {i j : Int} (hx : fr.ev x = some (.int .i64 i)) (hy : fr.ev y = some (.int .i64 j)) (hi : 0 ≤ i) (hj : 0 < j) (hdn : Nat.blt d n = true)
    (kk : 0 ≤ i % j ∧ i % j < j → L P ops Q n rest ((d, .int .i64 (i % j)) :: fr) w) : L P ops Q n (⟨some d, .binOp .rem t x y t', ty, pos, af, none⟩ :: rest) fr w :=
  L_do rfl rfl hdn (do_rem hx hy hi hj) (kk (mod_bd hj))
theorem LQ_rem {t t' : TypeId} {x y : Operand} {i j : Int} (hx : fr.ev x = some (.int .i64 i)) (hy : fr.ev y = some (.int .i64 j)) (hi : 0 ≤ i) (hj : 0 < j) (hdn : Nat.blt d n = true)
    (kk : 0 ≤ i % j ∧ i % j < j → LQ P ops C QQ n rest ((d, .int .i64 (i % j)) :: fr)) : LQ P ops C QQ n (⟨some d, .binOp .rem t x y t', ty, pos, af, none⟩ :: rest) fr :=
  LQ_do rfl rfl hdn (fun _ _ => do_rem hx hy hi hj) (kk (mod_bd hj))
theorem LQ_quo {t t' : TypeId} {x y : Operand} {i j : Int} (hx : fr.ev x = some (.int .i64 i)) (hy : fr.ev y = some (.int .i64 j)) (hi : 0 ≤ i ∧ i ≤ 9223372036854775807) (hj : 0 < j) (hdn : Nat.blt d n = true)
    (kk : 0 ≤ i / j ∧ i / j ≤ i → LQ P ops C QQ n rest ((d, .int .i64 (i / j)) :: fr)) : LQ P ops C QQ n (⟨some d, .binOp .quo t x y t', ty, pos, af, none⟩ :: rest) fr :=
  LQ_do rfl rfl hdn (fun _ _ => do_quo hx hy hi hj) (kk (div_bd hi.1 (by omega)))
theorem L_xor {t t' : TypeId} {x y : Operand} {i j : Int} (hx : fr.ev x = some (.int .i64 i)) (hy : fr.ev y = some (.int .i64 j)) (hi : 0 ≤ i ∧ i < 4611686018427387904) (hj : 0 ≤ j ∧ j < 4611686018427387904) (hdn : Nat.blt d n = true)
    (kk : ∀ z : Int, 0 ≤ z → z < 4611686018427387904 → L P ops Q n rest ((d, .int .i64 z) :: fr) w) : L P ops Q n (⟨some d, .binOp .xor t x y t', ty, pos, af, none⟩ :: rest) fr w :=
  L_do rfl rfl hdn (do_xor hx hy hi hj) (kk _ (by omega) (by
    have : i.toNat ^^^ j.toNat < 2 ^ 62 := Nat.xor_lt_two_pow (by omega) (by omega)
    omega))
end
end Go.Proofs.YtjobbcdolbhadaaGreatDoor


namespace Go.Proofs.YtjobbcdolbhadaaGreatDoor
set_option linter.unusedVariables false
set_option linter.unusedSimpArgs false
open Go Go.RowKit
set_option linter.unusedVariables false

section
variable {P : Program} {ops : Array Oper} {Q : Exit → Act → World → Prop} {n : Nat} {fr : Fr} {w w0 : World} {rest : List Oper}
variable {d : Nat} {ty : TypeId} {pos : String} {af : Array Edge} {QQ : Act → Prop} {α : Type} {T : Ty α} {C : World → Prop}

theorem run_equalIn_nilS {t e : TypeId} (dp : Nat) (ht : P.underlying t = some (.slice e)) (a : Option Addr) (l c : Nat) : (Op.equalIn (dp + 1) t (.slice a l c) (.slice none 0 0)).run P w = .ok a.isNone w := by
  cases a <;> simp [Op.equalIn, run_underlying ht]
theorem do_cap {t e size bytes : Nat} {z : Value} [hT : TSlice P t e size bytes z] {x : Operand} {a : Option Addr} {l c : Nat} (hx : fr.ev x = some (.slice a l c)) :
    Does P ⟨some d, .call ⟨.builtin .cap, #[x], #[t]⟩, ty, pos, af, none⟩ fr w (.int .i64 c) := ⟨fun ρ h => by
  simp [h x _ hx, Builtin.cap_, run_underlying hT.und, goInt, go_sem]⟩
theorem do_eqNil {t t' e size bytes : Nat} {z : Value} [hT : TSlice P t e size bytes z] {x y : Operand} {a : Option Addr} {l c : Nat} (hx : fr.ev x = some (.slice a l c)) (hy : fr.ev y = some (.slice none 0 0)) :
    Does P ⟨some d, .binOp .eql t x y t', ty, pos, af, none⟩ fr w (.bool a.isNone) := ⟨fun ρ h => by
  have h0 : (Op.equal t (.slice a l c) (.slice none 0 0)).run P w = .ok a.isNone w := by
    show (Op.equalIn (9999 + 1) t (.slice a l c) (.slice none 0 0)).run P w = _
    exact run_equalIn_nilS 9999 hT.und a l c
  have h1 : (binOp .eql t (.slice a l c) (.slice none 0 0)) = (do pure (.bool (← Op.equal t (.slice a l c) (.slice none 0 0)))) := rfl
  have h2 : (binOp .eql t (.slice a l c) (.slice none 0 0)).run P w = .ok (.bool a.isNone) w := by rw [h1]; simp [h0]
  unfold execOp
  simp [h x _ hx, h y _ hy, eqGuard_at_slice, h2]⟩
theorem do_min2 {t1 t2 : TypeId} {x y : Operand} {i j : Int} (hx : fr.ev x = some (.int .i64 i)) (hy : fr.ev y = some (.int .i64 j)) :
    Does P ⟨some d, .call ⟨.builtin .min, #[x, y], #[t1, t2]⟩, ty, pos, af, none⟩ fr w (.int .i64 (min i j)) := ⟨fun ρ h => by
  simp [h x _ hx, h y _ hy, Builtin.min_, Builtin.min2, go_sem]
  omega⟩

theorem do_subE {t t' : TypeId} {x y : Operand} {i j r : Int} (hx : fr.ev x = some (.int .i64 i)) (hy : fr.ev y = some (.int .i64 j)) (he : i - j = r)
    (hr : -9223372036854775808 ≤ r ∧ r ≤ 9223372036854775807) : Does P ⟨some d, .binOp .sub t x y t', ty, pos, af, none⟩ fr w (.int .i64 r) := by
  subst he; exact do_sub hx hy hr
theorem evs_map {fr : Fr} {ρ : Operand → Value} (h : ∀ x u, fr.ev x = some u → ρ x = u) : ∀ (xs : List Operand) (vs : List Value), fr.evs xs = some vs → xs.map ρ = vs
  | [], vs, e => by simpa [Fr.evs] using e
  | x :: r, vs, e => by
    simp only [Fr.evs] at e
    split at e
    · rename_i v vs' h1 h2
      obtain rfl : v :: vs' = vs := by simpa using e
      simp [h x v h1, evs_map h r vs' h2]
    · simp at e
theorem do_makeFunc {fn : Fn} {caps : List Operand} {vs : List Value} (hx : fr.evs caps = some vs) : Does P ⟨some d, .makeFunc fn #[] caps.toArray, ty, pos, af, none⟩ fr w (.func fn #[] vs.toArray) := ⟨fun ρ h => by
  have := evs_map h caps vs hx
  simp [execOp, Instr.makeFunc, this, go_sem]⟩

/-- A beginning of a slice of the call's own is the call's own. -/
theorem L_sliceOwnH {t e size bytes : Nat} {z : Value} [hT : TSlice P t e size bytes z] {x y : Operand} {v : Value} {xs : List α} {base e' : Nat} {k : IntKind} {i : Int} (hx : fr.ev x = some v) (hy : fr.ev y = some (.int k i)) (hO : OwL T w base e' v xs) (hs : T.size = size)
    (h0 : 0 ≤ i) (h1 : i ≤ xs.length) (hdn : Nat.blt d n = true) (kk : ∀ v', OwL T w base e' v' (xs.take i.toNat) → v'.ownBlock = v.ownBlock → L P ops Q n rest ((d, v') :: fr) w) :
    L P ops Q n (⟨some d, .slice t x none (some y) none, ty, pos, af, none⟩ :: rest) fr w := by
  subst hs
  have hlen : (xs.take i.toNat).length = i.toNat := by simp; omega
  obtain ⟨hol, ho⟩ := hO.own
  rcases ho with ⟨rfl, hn⟩ | ⟨g, cap, cur, rfl, hbase, hcell, hnc, hcm, hcs, htake⟩
  · have hz : xs = [] := List.eq_nil_of_length_eq_zero hn
    subst hz
    have hi0 : i.toNat = 0 := by simp at h1; omega
    refine L_do rfl rfl hdn (do_sliceH hx hy h0 (by simp at h1; omega)) (kk _ ⟨?_⟩ ?_)
    · have : (sliced none 0 i.toNat 0 T.size) = .slice none 0 0 := by rw [hi0]; rfl
      rw [this, List.take_nil]
      exact ⟨by simp, .inl ⟨rfl, rfl⟩⟩
    · rw [hi0]; rfl
  · have hv : sliced (some ⟨g, 0, none⟩) 0 i.toNat cap T.size = .slice (some ⟨g, 0, none⟩) i.toNat cap := by
      unfold sliced
      by_cases hc : cap = 0
      · subst hc; simp
      · rw [if_neg hc]; simp [Addr.add]
    refine L_do rfl rfl hdn (do_sliceH hx hy h0 (by omega)) (kk _ ⟨⟨by rw [flat_len], .inr ⟨g, cap, cur, by rw [hv, hlen], hbase, hcell, by rw [hlen]; omega, hcm, hcs, ?_⟩⟩⟩ (by rw [hv]; rfl))
    rw [hlen, ← flat_take, ← htake, List.take_take]
    congr 1
    have : i.toNat * T.size ≤ xs.length * T.size := Nat.mul_le_mul_right _ (by omega)
    omega

/-- Zeros are appended to the nil slice. -/
theorem L_appendZ0 {t tn e size bytes : Nat} {z : Value} [hT : TSlice P t e size bytes z] {s x : Operand} {k : Nat} {y0 : α} (hs : fr.ev s = some (.slice none 0 0)) (hx : fr.ev x = some (.int .i64 k)) (htn : P.underlying tn = some (.int .i64))
    (hk : 0 < k) (hsz : T.size = size) (hz0 : z.cells.toList = T.enc y0) (hb : k * bytes ≤ 140737488355328) (h63 : k ≤ 4611686018427387904) (hdn : Nat.blt d n = true)
    (kk : ∀ v' w', OwL T w' w.heap.size e v' (List.replicate k y0) → Below w.heap.size w w' → L P ops Q n rest ((d, v') :: fr) w') :
    L P ops Q n (⟨some d, .call ⟨.builtin .append, #[s, x], #[t, tn]⟩, ty, pos, af, none⟩ :: rest) fr w := by
  obtain ⟨inf, hinf, hz, hiz, hib⟩ := hT.parts
  subst hsz
  have hold : (Builtin.firstCells inf.size 0 (.slice none 0 0)).run P w.drew = .ok ([] : List Value).toArray w.drew := run_firstCells_none w.drew inf.size 0 0 0
  have hp := hT.pos
  have hrun := Lib.run_append_grow_zeros (P := P) w t tn ty e inf z .i64 .i64 hT.und htn hinf hz none 0 0 [] hold k hk (by omega) (by omega) (by omega) (by rw [hib]; omega) (by rw [hib]; exact growslice_fits (by omega) (by simpa using hb))
  have hG := grownCap_ge w (0 + k) 0 e
  have hGm := grownCap_le_maxLen w (0 + k) 0 e (by unfold maxLen; omega)
  generalize grownCap w (0 + k) 0 e = G at hrun hG hGm
  have hzl : z.cells.size = T.size := hT.zs
  have hzs : z.cells = (T.enc y0).toArray := by apply Array.toList_inj.1; simpa using hz0
  have hrep : ∀ m, (Builtin.zeroCells z.cells m).toList = (List.replicate m y0).flatMap T.enc := by
    intro m
    have hlen : (T.enc y0).length = T.size := T.len y0
    apply List.ext_getElem?
    intro i
    by_cases hi : i < m * T.size
    · have h1 : (List.replicate m y0)[i / T.size]? = some y0 := by
        rw [List.getElem?_replicate, if_pos]; exact Nat.div_lt_of_lt_mul (by rw [Nat.mul_comm]; exact hi)
      have h2 := flat_at T (List.replicate m y0) (i / T.size) y0 h1
      have hm : i % T.size < T.size := Nat.mod_lt _ hp
      have h3 : ((List.replicate m y0).flatMap T.enc)[i]? = (T.enc y0)[i % T.size]? := by
        rw [← h2, List.getElem?_take, if_pos hm, List.getElem?_drop]
        congr 1
        rw [Nat.mul_comm]; exact (Nat.div_add_mod i T.size).symm
      rw [h3]
      simp [Builtin.zeroCells, hzs, hi, hlen]
      rw [List.getElem?_eq_getElem (by rw [hlen]; exact hm)]
      simp
    · rw [List.getElem?_eq_none (by simp [Builtin.zeroCells, hzl]; omega), List.getElem?_eq_none (by rw [flat_len]; simp; omega)]
  generalize hcur : (([] : List Value).toArray ++ Builtin.zeroCells z.cells k ++ Builtin.zeroCells z.cells (G - (0 + k))) = cur at hrun
  have hcl : cur.toList = (List.replicate k y0).flatMap T.enc ++ (List.replicate (G - k) y0).flatMap T.enc := by
    rw [← hcur]; simp [hrep]
  refine L_run (w' := w.drew.alloc (.cells cur e)) rfl rfl hdn (fun ρ h => ?_) (kk (.slice (some ⟨w.heap.size, 0, none⟩) k G) _ ⟨⟨by rw [flat_len], .inr ⟨w.heap.size, G, cur, by simp, Nat.le_refl _, heap_alloc_new w.drew _, by simp; omega, hGm, ?_, ?_⟩⟩⟩ ?_)
  · have e1 := h s _ hs
    have e2 := h x _ hx
    rw [BigFrame.execOp_builtin, BigFrame.builtin_append]
    have e3 : Array.map ρ #[s, x] = #[.slice none 0 0, .int .i64 k] := by simp [e1, e2]
    rw [e3]
    simp [hrun]
  · have := congrArg List.length hcl
    rw [List.length_append, flat_len, flat_len, List.length_replicate, List.length_replicate, ← Nat.add_mul, show k + (G - k) = G by omega] at this
    simpa using this
  · rw [hcl, List.length_replicate, List.take_left']
    rw [flat_len]; simp
  · exact (Below.drew (Below.refl _ _)).alloc (Nat.le_refl _) _
end

/-! ### Small lemmas on worlds, rows, literals -/
theorem kp_own {w w1 w2 : World} {r row : Option Nat} (h : w.grownBy w1 r) (k : w1.grownBy w2 row) (hr : ∀ b, row = some b → w.heap.size ≤ b) : w.grownBy w2 r :=
  ⟨k.os.trans h.os, k.tape.trans h.tape, k.output.trans h.output, Nat.le_trans h.size k.size, fun i hi hne => (k.block i (Nat.lt_of_lt_of_le hi h.size) (fun e => by have := hr i e.symm; omega)).trans (h.block i hi hne)⟩
theorem addr_add0 (g n k : Nat) : (⟨g, n, none⟩ : Addr).add k = ⟨g, n + k, none⟩ := by unfold Addr.add; split <;> simp_all
theorem fill2 (x y : Int) : Instr.fill (fun i => some (i * 1, 1)) ((Array.range (2 * 1)).map (fun j => (Value.int .i64 0).cells[j % (Value.int .i64 0).cells.size]!)) [(0, .int .i64 x), (1, .int .i64 y)] = some #[.int .i64 x, .int .i64 y] := by
  have : (Array.range (2 * 1)).map (fun j => (Value.int .i64 0).cells[j % (Value.int .i64 0).cells.size]!) = #[.int .i64 0, .int .i64 0] := by
    apply Array.toList_inj.1
    simp [Value.cells, List.range_succ]
  rw [this]; rfl
theorem fill1 (x : Int) : Instr.fill (fun i => some (i * 1, 1)) ((Array.range (1 * 1)).map (fun j => (Value.int .i64 0).cells[j % (Value.int .i64 0).cells.size]!)) [(0, .int .i64 x)] = some #[.int .i64 x] := by
  have : (Array.range (1 * 1)).map (fun j => (Value.int .i64 0).cells[j % (Value.int .i64 0).cells.size]!) = #[.int .i64 0] := by apply Array.toList_inj.1; simp [Value.cells]
  rw [this]; rfl

theorem OwL.ne_ty {α β : Type} {T : Ty α} {U : Ty β} {w : World} {b1 b2 e1 e2 : Nat} {v1 v2 : Value} {xs : List α} {ys : List β} (h1 : OwL T w b1 e1 v1 xs) (h2 : OwL U w b2 e2 v2 ys) (he : e1 ≠ e2) : v1.ownBlock = none ∨ v1.ownBlock ≠ v2.ownBlock := by
  obtain ⟨_, k1⟩ := h1.own
  obtain ⟨_, k2⟩ := h2.own
  rcases k1 with ⟨rfl, _⟩ | ⟨g1, c1, u1, rfl, _, hg1, _⟩
  · exact .inl rfl
  · refine .inr (fun e => ?_)
    rcases k2 with ⟨rfl, _⟩ | ⟨g2, c2, u2, rfl, _, hg2, _⟩
    · cases e
    · simp only [Value.ownBlock, Option.some.injEq] at e
      have e' : g1 = g2 := by simpa using e
      subst e'
      rw [hg1] at hg2
      injection hg2 with hg2
      injection hg2 with _ hg2 _
      exact he hg2
theorem fillR (a b c : Value) : Instr.fill (fun i => some (i * 3, 3)) ((Array.range (1 * 3)).map (fun j => (Value.agg #[.int .i64 0, .slice none 0 0, .slice none 0 0]).cells[j % (Value.agg #[.int .i64 0, .slice none 0 0, .slice none 0 0]).cells.size]!)) [(0, .agg #[a, b, c])] = some #[a, b, c] := by
  have : (Array.range (1 * 3)).map (fun j => (Value.agg #[.int .i64 0, .slice none 0 0, .slice none 0 0]).cells[j % (Value.agg #[.int .i64 0, .slice none 0 0, .slice none 0 0]).cells.size]!) = #[.int .i64 0, .slice none 0 0, .slice none 0 0] := by
    apply Array.toList_inj.1
    simp [Value.cells, List.range_succ]
  rw [this]; rfl
theorem fill3 (x y z : Int) : Instr.fill (fun i => some (i * 1, 1)) ((Array.range (3 * 1)).map (fun j => (Value.int .i64 0).cells[j % (Value.int .i64 0).cells.size]!)) [(0, .int .i64 x), (1, .int .i64 y), (2, .int .i64 z)] = some #[.int .i64 x, .int .i64 y, .int .i64 z] := by
  have : (Array.range (3 * 1)).map (fun j => (Value.int .i64 0).cells[j % (Value.int .i64 0).cells.size]!) = #[.int .i64 0, .int .i64 0, .int .i64 0] := by
    apply Array.toList_inj.1
    simp [Value.cells, List.range_succ]
  rw [this]; rfl

theorem rdl_empty {α : Type} {T : Ty α} {w w' : World} {v : Value} {xs : List α} (h : RdL T w v xs) (he : xs = []) : RdL T w' v xs := by
  subst he
  obtain ⟨h1, a, cap, h2, h3, h4, h5⟩ := h.rd
  refine ⟨⟨h1, a, cap, h2, h3, h4, ?_⟩⟩
  rcases h5 with h5 | ⟨b, h5, _⟩
  · exact .inl h5
  · exact .inr ⟨b, h5, Pt.nil _ _⟩


/-! ### Slice literals -/
theorem foldl_set (vs : List Value) : ∀ (off j0 : Nat) (cells : Array Value), off + j0 + vs.length ≤ cells.size →
    ((vs.zipIdx j0).foldl (fun (cs : Array Value) (p : Value × Nat) => cs.setIfInBounds (off + p.2) p.1) cells).toList = cells.toList.take (off + j0) ++ vs ++ cells.toList.drop (off + j0 + vs.length) := by
  induction vs with
  | nil => intro off j0 cells h; simp
  | cons v r ih =>
    intro off j0 cells h
    simp only [List.length_cons] at h
    simp only [List.zipIdx_cons, List.foldl_cons]
    rw [ih off (j0 + 1) _ (by simp; omega)]
    have hlt : off + j0 < cells.toList.length := by simp; omega
    rw [Array.toList_setIfInBounds, show off + (j0 + 1) = (off + j0) + 1 by omega, List.take_add_one, List.take_set_of_le (Nat.le_refl _), List.getElem?_set_self hlt, List.drop_set_of_lt (by omega)]
    simp [List.length_cons, show off + j0 + 1 + r.length = off + j0 + (r.length + 1) by omega]
theorem fold_cells (vs : Array Value) (off : Nat) (cells : Array Value) (h : off + vs.size ≤ cells.size) :
    (vs.zipIdx.foldl (fun cs (c, j) => cs.setIfInBounds (off + j) c) cells).toList = cells.toList.take off ++ vs.toList ++ cells.toList.drop (off + vs.size) := by
  have := foldl_set vs.toList off 0 cells (by simpa using h)
  rw [← Array.foldl_toList, Array.toList_zipIdx]
  simpa using this
theorem fill_from {α : Type} (T : Ty α) (hp : 0 < T.size) : ∀ (ys : List α) (ps : List (Nat × Value)) (j : Nat) (cells : Array Value), ps.map (·.1) = List.range' j ys.length → ps.map (fun p => p.2.cells.toList) = ys.map T.enc → (j + ys.length) * T.size ≤ cells.size →
    ∃ cs', Instr.fill (fun i => some (i * T.size, T.size)) cells ps = some cs' ∧ cs'.toList = cells.toList.take (j * T.size) ++ ys.flatMap T.enc ++ cells.toList.drop ((j + ys.length) * T.size)
  | [], ps, j, cells, h1, h2, h3 => by
    have : ps = [] := by cases ps <;> simp_all
    subst this
    exact ⟨cells, rfl, by simp⟩
  | y :: r, [], j, cells, h1, h2, h3 => by simp at h2
  | y :: r, (i, v) :: ps, j, cells, h1, h2, h3 => by
    simp only [List.map_cons, List.length_cons, List.range'_succ, List.cons.injEq] at h1 h2
    obtain ⟨rfl, h1⟩ := h1
    have hvs : v.cells.size = T.size := by have := congrArg List.length h2.1; rw [T.len] at this; simpa using this
    have hle : i * T.size + T.size ≤ cells.size := by
      have : (i + 1) * T.size ≤ (i + (r.length + 1)) * T.size := Nat.mul_le_mul_right _ (by omega)
      rw [Nat.add_mul, Nat.one_mul] at this
      simp only [List.length_cons] at h3
      omega
    have hf := fold_cells v.cells (i * T.size) cells (by omega)
    generalize hc : (v.cells.zipIdx.foldl (fun cs (c, j) => cs.setIfInBounds (i * T.size + j) c) cells) = c1 at hf
    have hc1 : c1.size = cells.size := by
      have := congrArg List.length hf
      simp at this
      omega
    obtain ⟨cs', e1, e2⟩ := fill_from T hp r ps (i + 1) c1 h1 h2.2 (by rw [hc1]; simp only [List.length_cons] at h3; rw [show i + 1 + r.length = i + (r.length + 1) by omega]; exact h3)
    refine ⟨cs', ?_, ?_⟩
    · simp only [Instr.fill]
      rw [if_neg (by simp; omega), hc]
      exact e1
    · rw [e2, hf]
      have hl : (cells.toList.take (i * T.size) ++ v.cells.toList).length = (i + 1) * T.size := by simp [Nat.add_mul]; omega
      rw [List.take_left' hl, List.flatMap_cons, ← h2.1]
      have hd : (i + 1 + r.length) * T.size = (i + 1) * T.size + r.length * T.size := by rw [Nat.add_mul]
      rw [hd, ← List.drop_drop, List.drop_left' hl, List.drop_drop]
      simp only [List.append_assoc, List.length_cons]
      congr 4
      rw [hvs, show i + (r.length + 1) = i + 1 + r.length by omega, Nat.add_mul (i + 1), Nat.add_mul i]
      omega

section
variable {P : Program} {ops : Array Oper} {Q : Exit → Act → World → Prop} {n : Nat} {fr : Fr} {w w0 : World} {rest : List Oper}
variable {d : Nat} {ty : TypeId} {pos : String} {af : Array Edge} {QQ : Act → Prop} {α : Type} {T : Ty α} {C : World → Prop}
/-- A slice literal: its parts in their order; what each part's cells are. -/
theorem L_buildSliceL {t e size bytes : Nat} {z : Value} [hT : TSlice P t e size bytes z] (T : Ty α) (ys : List α) {k : Nat} {parts : List (Nat × Operand)} {ps : List (Nat × Value)}
    (hp : fr.evp parts = some ps) (hs : T.size = size) (hk : ys.length = k) (hsmall : Nat.ble (k * size) 16777216 = true) (hpos : Nat.beq (k * size) 0 = false)
    (h1 : ps.map (·.1) = List.range' 0 ys.length) (h2 : ps.map (fun p => p.2.cells.toList) = ys.map T.enc) (hdn : Nat.blt d n = true)
    (kk : ∀ w', OwL T w' w.heap.size e (.slice (some ⟨w.heap.size, 0, none⟩) k k) ys → Below w.heap.size w w' → L P ops Q n rest ((d, .slice (some ⟨w.heap.size, 0, none⟩) k k) :: fr) w') :
    L P ops Q n (⟨some d, .buildSlice t k parts.toArray, ty, pos, af, none⟩ :: rest) fr w := by
  subst hs
  obtain ⟨cs', e1, e2⟩ := fill_from T hT.pos ys ps 0 ((Array.range (k * T.size)).map (fun j => z.cells[j % z.cells.size]!)) h1 h2 (by simp [hk])
  refine L_buildSliceKG T ys w.heap.size (Nat.le_refl _) hp rfl hk hsmall hpos e1 ?_ hdn kk
  rw [e2]
  simp [hk]
theorem LQ_indexOwn {t e size bytes : Nat} {z : Value} [hT : TSlice P t e size bytes z] {x ix : Operand} {v : Value} {xs : List α} {base : Nat} {kd : IntKind} {i : Int} (hx : fr.ev x = some v) (hi : fr.ev ix = some (.int kd i))
    (hO : OwL T w base e v xs) (hs : T.size = size) (h0 : 0 ≤ i) (h1 : i < xs.length) (hdn : Nat.blt d n = true)
    (kk : ∀ (g : Nat) (y : α), xs[i.toNat]? = some y → v.ownBlock = some g → LQ P ops C QQ n rest ((d, .pointer (some ⟨g, i.toNat * T.size, none⟩)) :: fr)) :
    LQ P ops C QQ n (⟨some d, .indexAddr t x ix, ty, pos, af, none⟩ :: rest) fr := by
  subst hs
  have hlt : i.toNat < xs.length := by omega
  rcases hO.own.2 with ⟨rfl, hn⟩ | ⟨g, cap, cur, rfl, _⟩
  · omega
  · have ha : (⟨g, 0, none⟩ : Addr).add (i.toNat * T.size) = ⟨g, i.toNat * T.size, none⟩ := by unfold Addr.add; split <;> simp_all
    refine LQ_do rfl rfl hdn (fun w' _ => do_indexAt hx hi h0 (by exact h1)) ?_
    rw [ha]
    exact kk g _ (List.getElem?_eq_getElem hlt) rfl

/-- A stop for the walk: what stands here is left as it is. -/
structure Held (p : Prop) : Prop where
  run : p
theorem W_hold {id : Nat} {l : Array Oper} {b : Bool} (h : Held (W P (.region id l b) Q n fr w)) : W P (.region id l b) Q n fr w := h.run
end

end Go.Proofs.YtjobbcdolbhadaaGreatDoor


namespace Go.Proofs.YtjobbcdolbhadaaGreatDoor
set_option linter.unusedVariables false
set_option linter.unusedSimpArgs false
open Go Go.RowKit
set_option linter.unusedVariables false

theorem mk_extract (s : List UInt8) (i j : Nat) : (mk s).extract i j = mk ((s.take j).drop i) := by
  have : ((mk s).extract i j).data.toList = (s.take j).drop i := by
    simp [mk, ByteArray.data_extract, List.extract_eq_take_drop, List.drop_take]
  have e : ∀ b : ByteArray, b = mk b.data.toList := fun b => by cases b; simp [mk]
  rw [e ((mk s).extract i j), this]
theorem mk_get (s : List UInt8) (i : Nat) (h : i < (mk s).size) : (mk s)[i]'h = s[i]'(by simpa [mk_size] using h) := by
  simp [mk, ByteArray.getElem_eq_getElem_data]

section
variable {P : Program} {ops : Array Oper} {Q : Exit → Act → World → Prop} {n : Nat} {fr : Fr} {w w0 : World} {rest : List Oper}
variable {d : Nat} {ty : TypeId} {pos : String} {af : Array Edge} {QQ : Act → Prop} {C : World → Prop}

theorem do_index {t : TypeId} [hT : TStr P t] {x ix : Operand} {s : List UInt8} {k : IntKind} {i : Int} {b : UInt8} (hx : fr.ev x = some (.string (mk s))) (hi : fr.ev ix = some (.int k i)) (h0 : 0 ≤ i) (hb : s[i.toNat]? = some b) :
    Does P ⟨some d, .index t x ix, ty, pos, af, none⟩ fr w (.int .u8 b.toNat) := ⟨fun ρ h => by
  obtain ⟨hlt, he⟩ := List.getElem?_eq_some_iff.1 hb
  have h1 : 0 ≤ i ∧ i < ((mk s).size : Int) := ⟨h0, by rw [mk_size]; omega⟩
  have h2 := run_index_string (P := P) w t (mk s) k i hT.und
  rw [dif_pos h1] at h2
  unfold execOp
  simp only [h x _ hx, h ix _ hi]
  rw [Sem.run_bind, h2]
  simp [mk_get, he]⟩
theorem L_indexStr {t : TypeId} [hT : TStr P t] {x ix : Operand} {s : List UInt8} {k : IntKind} {i : Int} (hx : fr.ev x = some (.string (mk s))) (hi : fr.ev ix = some (.int k i)) (h0 : 0 ≤ i) (h1 : i < s.length) (hdn : Nat.blt d n = true)
    (kk : ∀ b : UInt8, s[i.toNat]? = some b → L P ops Q n rest ((d, .int .u8 b.toNat) :: fr) w) : L P ops Q n (⟨some d, .index t x ix, ty, pos, af, none⟩ :: rest) fr w := by
  have hlt : i.toNat < s.length := by omega
  exact L_do rfl rfl hdn (do_index hx hi h0 (List.getElem?_eq_getElem hlt)) (kk _ (List.getElem?_eq_getElem hlt))
theorem LQ_indexStr {t : TypeId} [hT : TStr P t] {x ix : Operand} {s : List UInt8} {k : IntKind} {i : Int} (hx : fr.ev x = some (.string (mk s))) (hi : fr.ev ix = some (.int k i)) (h0 : 0 ≤ i) (h1 : i < s.length) (hdn : Nat.blt d n = true)
    (kk : ∀ b : UInt8, s[i.toNat]? = some b → LQ P ops C QQ n rest ((d, .int .u8 b.toNat) :: fr)) : LQ P ops C QQ n (⟨some d, .index t x ix, ty, pos, af, none⟩ :: rest) fr := by
  have hlt : i.toNat < s.length := by omega
  exact LQ_do rfl rfl hdn (fun _ _ => do_index hx hi h0 (List.getElem?_eq_getElem hlt)) (kk _ (List.getElem?_eq_getElem hlt))

theorem do_sliceSLH {t : TypeId} [hT : TStr P t] {x y z : Operand} {s : List UInt8} {k k' : IntKind} {i j : Int} (hx : fr.ev x = some (.string (mk s))) (hy : fr.ev y = some (.int k i)) (hz : fr.ev z = some (.int k' j)) (h0 : 0 ≤ i) (h1 : i ≤ j) (h2 : j ≤ s.length) :
    Does P ⟨some d, .slice t x (some y) (some z) none, ty, pos, af, none⟩ fr w (.string (mk ((s.take j.toNat).drop i.toNat))) := ⟨fun ρ h => by
  show (do pure (Next.value (← Instr.sliceAt t (ρ x) (some (ρ y)) (some (ρ z)) none)) : Sem Next).run P w = _
  rw [h x _ hx, h y _ hy, h z _ hz]
  simp [run_sliceAt_string w t _ _ _ _ hT.und, run_slice_string w t (mk s) k k' i j hT.und h0 h1 (by rw [mk_size]; exact h2), mk_extract]⟩
theorem do_sliceSL {t : TypeId} [hT : TStr P t] {x y : Operand} {s : List UInt8} {k : IntKind} {i : Int} (hx : fr.ev x = some (.string (mk s))) (hy : fr.ev y = some (.int k i)) (h0 : 0 ≤ i) (h1 : i ≤ s.length) :
    Does P ⟨some d, .slice t x (some y) none none, ty, pos, af, none⟩ fr w (.string (mk (s.drop i.toNat))) := ⟨fun ρ h => by
  show (do pure (Next.value (← Instr.sliceAt t (ρ x) (some (ρ y)) none none)) : Sem Next).run P w = _
  rw [h x _ hx, h y _ hy]
  simp [run_sliceAt_string w t _ _ _ _ hT.und, run_slice_string_l w t (mk s) hT.und k i h0 (by rw [mk_size]; exact h1), mk_extract, mk_size]⟩
theorem do_sliceSH {t : TypeId} [hT : TStr P t] {x y : Operand} {s : List UInt8} {k : IntKind} {i : Int} (hx : fr.ev x = some (.string (mk s))) (hy : fr.ev y = some (.int k i)) (h0 : 0 ≤ i) (h1 : i ≤ s.length) :
    Does P ⟨some d, .slice t x none (some y) none, ty, pos, af, none⟩ fr w (.string (mk (s.take i.toNat))) := ⟨fun ρ h => by
  show (do pure (Next.value (← Instr.sliceAt t (ρ x) none (some (ρ y)) none)) : Sem Next).run P w = _
  rw [h x _ hx, h y _ hy]
  simp [run_sliceAt_string w t _ _ _ _ hT.und, run_slice_string_h w t (mk s) hT.und k i h0 (by rw [mk_size]; exact h1), mk_extract]⟩
/-- The length of a string, as its list's. -/
theorem do_lenS {t : TypeId} [hT : TStr P t] {x : Operand} {s : List UInt8} (hx : fr.ev x = some (.string (mk s))) :
    Does P ⟨some d, .call ⟨.builtin .len, #[x], #[t]⟩, ty, pos, af, none⟩ fr w (.int .i64 s.length) := by
  have := do_lenStr (P := P) (d := d) (ty := ty) (pos := pos) (af := af) (w := w) (t := t) hx
  rwa [mk_size] at this
end
end Go.Proofs.YtjobbcdolbhadaaGreatDoor


namespace Go.Proofs.YtjobbcdolbhadaaGreatDoor
set_option linter.unusedVariables false
set_option linter.unusedSimpArgs false
open Go Go.RowKit
set_option linter.unusedVariables false
set_option linter.unusedSimpArgs false

/-- A struct type of two fields of type int. -/
class TPair (P : Program) (t : TypeId) : Prop where
  und : P.underlying t = some (.struct (P.fieldsOf t))
  held : P.stoodInHeld t = false
  guard : P.eqGuardType P.depth t = false
  fields : ((P.fieldsOf t).toList.map fun f => (f.name == "_", f.offset, P.underlying f.type)) = [(false, 0, some (.int .i64)), (false, 1, some (.int .i64))]

section
variable {P : Program} {ops : Array Oper} {Q : Exit → Act → World → Prop} {n : Nat} {fr : Fr} {w w0 : World} {rest : List Oper}
variable {d : Nat} {ty : TypeId} {pos : String} {af : Array Edge}

theorem run_part_int {t : TypeId} {cs : Array Value} {off : Nat} {v : Value} {k : IntKind} (ht : P.underlying t = some (.int k)) (hv : cs[off]? = some v) : (part t cs off).run P w = .ok v w := by
  have h1 : (isAgg t).run P w = .ok false w := by simp [isAgg, run_underlying ht]
  unfold part
  rw [Sem.run_bind, h1]
  simp [hv]
theorem run_eqPair {t : TypeId} [hT : TPair P t] (a b a2 b2 : Int) (w : World) : (Op.equalIn 10000 t (.agg #[.int .i64 a, .int .i64 b]) (.agg #[.int .i64 a2, .int .i64 b2])).run P w = .ok (decide (a = a2 ∧ b = b2)) w := by
  rw [run_equalIn_struct w 9999 t _ _ hT.und hT.held]
  have hf := hT.fields
  generalize (P.fieldsOf t).toList = fs at hf
  have hl : fs.length = 2 := by have := congrArg List.length hf; simpa using this
  obtain ⟨f1, f2, rfl⟩ : ∃ a b, fs = [a, b] := by
    cases fs with
    | nil => simp at hl
    | cons a r =>
      cases r with
      | nil => simp at hl
      | cons b r =>
        cases r with
        | nil => exact ⟨a, b, rfl⟩
        | cons _ _ => simp at hl
  simp only [List.map_cons, List.map_nil, List.cons.injEq, Prod.mk.injEq, and_true] at hf
  obtain ⟨⟨n1, o1, u1⟩, n2, o2, u2⟩ := hf
  have m1 : ¬ f1.name = "_" := by simpa using n1
  have m2 : ¬ f2.name = "_" := by simpa using n2
  have p1 : ∀ x y : Int, (part f1.type #[.int .i64 x, .int .i64 y] f1.offset).run P w = .ok (.int .i64 x) w := fun x y => run_part_int u1 (by rw [o1]; rfl)
  have p2 : ∀ x y : Int, (part f2.type #[.int .i64 x, .int .i64 y] f2.offset).run P w = .ok (.int .i64 y) w := fun x y => run_part_int u2 (by rw [o2]; rfl)
  have e1 : ∀ x y : Int, (Op.equalIn 9999 f1.type (.int .i64 x) (.int .i64 y)).run P w = .ok (x == y) w := fun x y => run_equalIn_int w 9998 f1.type .i64 .i64 x y u1
  have e2 : ∀ x y : Int, (Op.equalIn 9999 f2.type (.int .i64 x) (.int .i64 y)).run P w = .ok (x == y) w := fun x y => run_equalIn_int w 9998 f2.type .i64 .i64 x y u2
  by_cases ha : a = a2
  · by_cases hb : b = b2
    · simp [Op.eqFields, Sem.run_bind, m1, m2, p1, p2, e1, e2, ha, hb]
    · have hb' : (b == b2) = false := beq_eq_false_iff_ne.2 hb
      simp [Op.eqFields, Sem.run_bind, m1, m2, p1, p2, e1, e2, ha, hb, hb']
  · have ha' : (a == a2) = false := beq_eq_false_iff_ne.2 ha
    simp [Op.eqFields, Sem.run_bind, m1, m2, p1, p2, e1, e2, ha, ha']
theorem do_nePair {t t' : TypeId} [hT : TPair P t] {x y : Operand} {a b a2 b2 : Int} (hx : fr.ev x = some (.agg #[.int .i64 a, .int .i64 b])) (hy : fr.ev y = some (.agg #[.int .i64 a2, .int .i64 b2])) :
    Does P ⟨some d, .binOp .neq t x y t', ty, pos, af, none⟩ fr w (.bool (!decide (a = a2 ∧ b = b2))) := ⟨fun ρ h => by
  unfold execOp
  simp only [h x _ hx, h y _ hy]
  simp [Sem.run_bind, run_eqGuard_agg w .neq t x y _ _ hT.guard, run_neq_struct w t, run_eqPair, Result.andThen]⟩
theorem do_eqPair {t t' : TypeId} [hT : TPair P t] {x y : Operand} {a b a2 b2 : Int} (hx : fr.ev x = some (.agg #[.int .i64 a, .int .i64 b])) (hy : fr.ev y = some (.agg #[.int .i64 a2, .int .i64 b2])) :
    Does P ⟨some d, .binOp .eql t x y t', ty, pos, af, none⟩ fr w (.bool (decide (a = a2 ∧ b = b2))) := ⟨fun ρ h => by
  unfold execOp
  simp only [h x _ hx, h y _ hy]
  simp [Sem.run_bind, run_eqGuard_agg w .eql t x y _ _ hT.guard, run_eql_struct w t, run_eqPair, Result.andThen]⟩

variable {QQ : Act → Prop} {C : World → Prop}
theorem L_loadPt2 {t : TypeId} [hT : TOne P t] {x : Operand} {a b : Addr} {us : List Value} {o1 o2 : Nat} {u : Value} (hx : fr.ev x = some (.pointer (some b))) (hb : b = (a.add o1).add o2) (hp : Pt w a us) (hu : us[o1 + o2]? = some u) (hdn : Nat.blt d n = true)
    (kk : L P ops Q n rest ((d, u) :: fr) w) : L P ops Q n (⟨some d, .load t x, ty, pos, af, none⟩ :: rest) fr w :=
  L_loadPt hx (by rw [hb, Addr.add_add']) hp hu hdn kk
theorem LQ_loadPt2 {t : TypeId} [hT : TOne P t] {x : Operand} {a b : Addr} {us : List Value} {o1 o2 : Nat} {u : Value} (hx : fr.ev x = some (.pointer (some b))) (hb : b = (a.add o1).add o2) (hp : Pt w a us) (hu : us[o1 + o2]? = some u) (hdn : Nat.blt d n = true)
    (kk : LQ P ops (Below w.heap.size w) QQ n rest ((d, u) :: fr)) : LQ P ops (Below w.heap.size w) QQ n (⟨some d, .load t x, ty, pos, af, none⟩ :: rest) fr :=
  LQ_loadPt hx (by rw [hb, Addr.add_add']) hp hu hdn kk
theorem RLQ_loadPt2 {t : TypeId} [hT : TOne P t] {x : Operand} {a b : Addr} {us : List Value} {o1 o2 : Nat} {u : Value} (hx : fr.ev x = some (.pointer (some b))) (hb : b = (a.add o1).add o2) (hp : Pt w a us) (hu : us[o1 + o2]? = some u) {row : Option Nat} (hne : some a.block ≠ row) (hdn : Nat.blt d n = true)
    (kk : LQ P ops (fun w' => w.grownBy w' row) QQ n rest ((d, u) :: fr)) : LQ P ops (fun w' => w.grownBy w' row) QQ n (⟨some d, .load t x, ty, pos, af, none⟩ :: rest) fr :=
  RLQ_loadPt hx (by rw [hb, Addr.add_add']) hp hu hne hdn kk
/-- A part of the cells at an address. -/
theorem Pt.sub {w : World} {a : Addr} {us : List Value} (h : Pt w a us) (off k : Nat) : Pt w (a.add off) ((us.drop off).take k) := (h.drop off).take k
theorem L_loadSub {t : TypeId} {size : Nat} {z : Value} [hT : TStruct P t size z] {x : Operand} {a b : Addr} {us : List Value} {off : Nat} (hx : fr.ev x = some (.pointer (some b))) (hb : b = a.add off) (hp : Pt w a us) (hl : Nat.ble (off + size) us.length = true) (hdn : Nat.blt d n = true)
    (kk : L P ops Q n rest ((d, .agg ((us.drop off).take size).toArray) :: fr) w) : L P ops Q n (⟨some d, .load t x, ty, pos, af, none⟩ :: rest) fr w := by
  subst hb
  have := Nat.le_of_ble_eq_true hl
  exact L_do rfl rfl hdn (do_loadAgg hx (hp.sub off size) (by simp; omega)) kk
theorem GLQ_loadSub {t : TypeId} {size : Nat} {z : Value} [hT : TStruct P t size z] {x : Operand} {a b : Addr} {us : List Value} {off : Nat} (hx : fr.ev x = some (.pointer (some b))) (hb : b = a.add off) (hp : Pt w a us) (hl : Nat.ble (off + size) us.length = true) (hC : ∀ w', C w' → a.block < w.heap.size → w'.heap[a.block]? = w.heap[a.block]?) (hdn : Nat.blt d n = true)
    (kk : LQ P ops C QQ n rest ((d, .agg ((us.drop off).take size).toArray) :: fr)) : LQ P ops C QQ n (⟨some d, .load t x, ty, pos, af, none⟩ :: rest) fr := by
  subst hb
  have := Nat.le_of_ble_eq_true hl
  exact LQ_do rfl rfl hdn (fun w' hw' => do_loadAgg hx ((hp.keptC (hC w' hw')).sub off size) (by simp; omega)) kk
theorem LQ_loadSub {t : TypeId} {size : Nat} {z : Value} [hT : TStruct P t size z] {x : Operand} {a b : Addr} {us : List Value} {off : Nat} (hx : fr.ev x = some (.pointer (some b))) (hb : b = a.add off) (hp : Pt w a us) (hl : Nat.ble (off + size) us.length = true) (hdn : Nat.blt d n = true)
    (kk : LQ P ops (Below w.heap.size w) QQ n rest ((d, .agg ((us.drop off).take size).toArray) :: fr)) : LQ P ops (Below w.heap.size w) QQ n (⟨some d, .load t x, ty, pos, af, none⟩ :: rest) fr :=
  GLQ_loadSub hx hb hp hl (fun _ h hlt => h.block _ hlt) hdn kk
theorem RLQ_loadSub {t : TypeId} {size : Nat} {z : Value} [hT : TStruct P t size z] {x : Operand} {a b : Addr} {us : List Value} {off : Nat} (hx : fr.ev x = some (.pointer (some b))) (hb : b = a.add off) (hp : Pt w a us) (hl : Nat.ble (off + size) us.length = true) {row : Option Nat} (hne : some a.block ≠ row) (hdn : Nat.blt d n = true)
    (kk : LQ P ops (fun w' => w.grownBy w' row) QQ n rest ((d, .agg ((us.drop off).take size).toArray) :: fr)) : LQ P ops (fun w' => w.grownBy w' row) QQ n (⟨some d, .load t x, ty, pos, af, none⟩ :: rest) fr :=
  GLQ_loadSub hx hb hp hl (fun _ h hlt => h.block _ hlt hne) hdn kk
end
end Go.Proofs.YtjobbcdolbhadaaGreatDoor


namespace Go.Proofs.YtjobbcdolbhadaaGreatDoor
set_option linter.unusedVariables false
set_option linter.unusedSimpArgs false
open Go Go.RowKit
set_option linter.unusedVariables false
set_option linter.unusedSimpArgs false

theorem flat_u8 : ∀ bs : List UInt8, bs.flatMap tU8.enc = bs.map (fun x => Value.int .u8 x.toNat)
  | [] => rfl
  | x :: r => by simp only [List.flatMap_cons, List.map_cons, flat_u8 r]; rfl
section
variable {P : Program} {ops : Array Oper} {Q : Exit → Act → World → Prop} {n : Nat} {fr : Fr} {w w0 : World} {rest : List Oper}
variable {d : Nat} {ty : TypeId} {pos : String} {af : Array Edge} {QQ : Act → Prop} {C : World → Prop}

theorem wrap_u8 {i : Int} (h0 : 0 ≤ i) (h1 : i ≤ 255) : IntKind.u8.wrap i = i := by
  unfold IntKind.wrap
  simp [IntKind.signed, IntKind.bits]
  omega
theorem do_convU8 {t t' : TypeId} {ds : TypeDesc} {x : Operand} {k : IntKind} {i : Int} (hs : P.underlying t = some ds) (hd : P.underlying t' = some (.int .u8)) (hx : fr.ev x = some (.int k i))
    (h0 : 0 ≤ i) (h1 : i ≤ 255) : Does P ⟨some d, .convert t t' x, ty, pos, af, none⟩ fr w (.int .u8 i) := ⟨fun ρ h => by
  have := wrap_u8 h0 h1
  simp [execOp, h x _ hx, convert, run_underlying hs, run_underlying hd, Conv.intToInt, this, go_sem]⟩

theorem do_bytesStr {t t' e : TypeId} {x : Operand} {v : Value} {bs : List UInt8} (hs : P.underlying t = some (.slice e)) (he : P.underlying e = some (.int .u8)) (hd : P.underlying t' = some .string) (hx : fr.ev x = some v) (hR : RdL tU8 w v bs) :
    Does P ⟨some d, .convert t t' x, ty, pos, af, none⟩ fr w (.string (mk bs)) := ⟨fun ρ h => by
  obtain ⟨hl, a, cap, rfl, _, _, h4⟩ := hR.rd
  have hrun : (convert t t' (.slice a bs.length cap)).run P w = .ok (.string (mk bs)) w := by
    rcases h4 with ⟨rfl, rfl⟩ | ⟨b, rfl, hp⟩
    · have hl0 : bs.length = 0 := by
        obtain ⟨a', cap', e1, hc, _⟩ := hR.slice
        injection e1 with _ _ e3
        omega
      have hb : bs = [] := List.eq_nil_of_length_eq_zero hl0
      subst hb
      rw [show ([] : List UInt8).length = 0 from rfl, run_convert_bytes_string w t t' e none 0 0 hs he hd]
      simp [Conv.bytesToString]
      rfl
    · refine run_convert_bytes_back w t t' e b cap bs hs he hd (fun j hj => ?_)
      refine hp j _ ?_
      have hf := flat_u8 bs
      rw [hf, List.getElem?_map, List.getElem?_eq_getElem hj]; rfl
  show (do pure (Next.value (← convert t t' (ρ x))) : Sem Next).run P w = _
  rw [h x _ hx]
  simp [hrun]⟩
/-- In a drawn region. -/
theorem LQ_bytesStr {t t' e : TypeId} {x : Operand} {v : Value} {bs : List UInt8} (hs : P.underlying t = some (.slice e)) (he : P.underlying e = some (.int .u8)) (hd : P.underlying t' = some .string) (hx : fr.ev x = some v) (hR : ∀ w', C w' → RdL tU8 w' v bs) (hdn : Nat.blt d n = true)
    (kk : LQ P ops C QQ n rest ((d, .string (mk bs)) :: fr)) : LQ P ops C QQ n (⟨some d, .convert t t' x, ty, pos, af, none⟩ :: rest) fr :=
  LQ_do rfl rfl hdn (fun w' hw' => do_bytesStr hs he hd hx (hR w' hw')) kk

theorem At_endCell2 {fn : Func} {R : Value → World → Prop} {t u b ty : Nat} {size : Nat} {z x : Value} {cs : Array Value} {e : TypeId} {f : Nat × Nat} [hT : TStruct P ty size z] (hres : fn.results = #[.cell t ty, .tmp u]) (hv : fr.get t = some (.pointer (some ⟨b, 0, none⟩)))
    (hx : fr.get u = some x) (hg : w.heap[b]? = some (.cells cs e f)) (hs : cs.size = size) (hR : R (.tuple #[.agg cs, x]) w) : At (bodyPost P fn (Ret R)) .ret n fr w := ⟨fun a s => by
  obtain ⟨fs, hu⟩ := hT.und
  have hi : (P.info? ty).map (·.size) = some cs.size := by
    have h0 := hT.info
    cases hi : P.info? ty with
    | none => simp [hi] at h0
    | some i => simp [hi] at h0 ⊢; rw [hs]; exact h0.2
  refine ⟨s.defers, .tuple #[.agg cs, x], ?_, _, rfl, hR⟩
  rw [results_cell_tmp hres, s.getD hv, s.getD hx]
  have hl := run_loadVar_row (P := P) w b e ty cs f _ hg hu rfl hi
  simp [asAddr, hl, Result.andThen]⟩
end
end Go.Proofs.YtjobbcdolbhadaaGreatDoor


namespace Go.Proofs.YtjobbcdolbhadaaGreatDoor
set_option linter.unusedVariables false
set_option linter.unusedSimpArgs false
open Go Go.RowKit
set_option linter.unusedVariables false
set_option linter.unusedSimpArgs false

/-- The struct type of a command; p is the type of its two contents. -/
class TCmd (P : Program) (t : TypeId) (p : outParam TypeId) : Prop where
  und : P.underlying t = some (.struct (P.fieldsOf t))
  held : P.stoodInHeld t = false
  guard : P.eqGuardType P.depth t = false
  fields : ((P.fieldsOf t).toList.map fun f => (f.name == "_", f.offset, f.type)) = [(false, 0, (P.fieldsOf t).toList.head!.type), (false, 1, p), (false, 3, p)]
  str : P.underlying (P.fieldsOf t).toList.head!.type = some .string
  pair : TPair P p
  size : (P.info? p).map (·.size) = some 2

/-- The struct type of a node; p is the type of its content. -/
class TNode (P : Program) (t : TypeId) (p : outParam TypeId) : Prop where
  und : P.underlying t = some (.struct (P.fieldsOf t))
  held : P.stoodInHeld t = false
  guard : P.eqGuardType P.depth t = false
  fields : ((P.fieldsOf t).toList.map fun f => (f.name == "_", f.offset, f.type)) = [(false, 0, (P.fieldsOf t).toList.head!.type), (false, 1, p)]
  str : P.underlying (P.fieldsOf t).toList.head!.type = some .string
  pair : TPair P p
  size : (P.info? p).map (·.size) = some 2

section
variable {P : Program} {n : Nat} {fr : Fr} {w : World} {d : Nat} {ty : TypeId} {pos : String} {af : Array Edge}
theorem run_eqPairN (k : Nat) {t : TypeId} [hT : TPair P t] (a b a2 b2 : Int) (w : World) : (Op.equalIn (k + 2) t (.agg #[.int .i64 a, .int .i64 b]) (.agg #[.int .i64 a2, .int .i64 b2])).run P w = .ok (decide (a = a2 ∧ b = b2)) w := by
  rw [run_equalIn_struct w (k + 1) t _ _ hT.und hT.held]
  have hf := hT.fields
  generalize (P.fieldsOf t).toList = fs at hf
  have hl : fs.length = 2 := by have := congrArg List.length hf; simpa using this
  obtain ⟨f1, f2, rfl⟩ : ∃ a b, fs = [a, b] := by
    cases fs with
    | nil => simp at hl
    | cons a r =>
      cases r with
      | nil => simp at hl
      | cons b r =>
        cases r with
        | nil => exact ⟨a, b, rfl⟩
        | cons _ _ => simp at hl
  simp only [List.map_cons, List.map_nil, List.cons.injEq, Prod.mk.injEq, and_true] at hf
  obtain ⟨⟨n1, o1, u1⟩, n2, o2, u2⟩ := hf
  have m1 : ¬ f1.name = "_" := by simpa using n1
  have m2 : ¬ f2.name = "_" := by simpa using n2
  have p1 : ∀ x y : Int, (part f1.type #[.int .i64 x, .int .i64 y] f1.offset).run P w = .ok (.int .i64 x) w := fun x y => run_part_int u1 (by rw [o1]; rfl)
  have p2 : ∀ x y : Int, (part f2.type #[.int .i64 x, .int .i64 y] f2.offset).run P w = .ok (.int .i64 y) w := fun x y => run_part_int u2 (by rw [o2]; rfl)
  have e1 : ∀ x y : Int, (Op.equalIn (k + 1) f1.type (.int .i64 x) (.int .i64 y)).run P w = .ok (x == y) w := fun x y => run_equalIn_int w k f1.type .i64 .i64 x y u1
  have e2 : ∀ x y : Int, (Op.equalIn (k + 1) f2.type (.int .i64 x) (.int .i64 y)).run P w = .ok (x == y) w := fun x y => run_equalIn_int w k f2.type .i64 .i64 x y u2
  by_cases ha : a = a2
  · by_cases hb : b = b2
    · simp [Op.eqFields, Sem.run_bind, m1, m2, p1, p2, e1, e2, ha, hb]
    · have hb' : (b == b2) = false := beq_eq_false_iff_ne.2 hb
      simp [Op.eqFields, Sem.run_bind, m1, m2, p1, p2, e1, e2, ha, hb, hb']
  · have ha' : (a == a2) = false := beq_eq_false_iff_ne.2 ha
    simp [Op.eqFields, Sem.run_bind, m1, m2, p1, p2, e1, e2, ha, ha']
theorem run_part_str {t : TypeId} {cs : Array Value} {off : Nat} {v : Value} (ht : P.underlying t = some .string) (hv : cs[off]? = some v) : (part t cs off).run P w = .ok v w := by
  have h1 : (isAgg t).run P w = .ok false w := by simp [isAgg, run_underlying ht]
  unfold part
  rw [Sem.run_bind, h1]
  simp [hv]
theorem run_part_agg {t : TypeId} {cs : Array Value} {off s : Nat} {fs : Array Field} (ht : P.underlying t = some (.struct fs)) (hs : (P.info? t).map (·.size) = some s) : (part t cs off).run P w = .ok (.agg (cs.extract off (off + s))) w := by
  have h1 : (isAgg t).run P w = .ok true w := run_isAgg_struct ht
  have h2 : (sizeOf t).run P w = .ok s w := run_sizeOf' hs
  unfold part
  rw [Sem.run_bind, h1]
  simp [h2]
/-- The cells of a command. -/
abbrev cmCells (s : List UInt8) (a b a' b' : Int) : Array Value := #[.string (mk s), .int .i64 a, .int .i64 b, .int .i64 a', .int .i64 b']
theorem run_eqCmd {t p : TypeId} [hT : TCmd P t p] (s s2 : List UInt8) (a b a' b' c e c' e' : Int) (w : World) :
    (Op.equalIn 10000 t (.agg (cmCells s a b a' b')) (.agg (cmCells s2 c e c' e'))).run P w = .ok (decide (s = s2 ∧ (a = c ∧ b = e) ∧ a' = c' ∧ b' = e')) w := by
  rw [run_equalIn_struct w 9999 t _ _ hT.und hT.held]
  have hf := hT.fields
  have hstr := hT.str
  generalize hL : (P.fieldsOf t).toList = fs at hf hstr
  have hl : fs.length = 3 := by have := congrArg List.length hf; simpa using this
  obtain ⟨f1, f2, f3, rfl⟩ : ∃ a b c, fs = [a, b, c] := by
    match fs, hl with
    | [a, b, c], _ => exact ⟨a, b, c, rfl⟩
  simp only [List.map_cons, List.map_nil, List.cons.injEq, Prod.mk.injEq, and_true] at hf
  obtain ⟨⟨n1, o1, u1⟩, ⟨n2, o2, u2⟩, n3, o3, u3⟩ := hf
  simp only [List.head!] at hstr
  have m1 : ¬ f1.name = "_" := by simpa using n1
  have m2 : ¬ f2.name = "_" := by simpa using n2
  have m3 : ¬ f3.name = "_" := by simpa using n3
  have hp := hT.pair
  have q1 : ∀ s a b c e, (part f1.type (cmCells s a b c e) f1.offset).run P w = .ok (.string (mk s)) w := fun s a b c e => run_part_str hstr (by rw [o1]; rfl)
  have q2 : ∀ s a b c e, (part f2.type (cmCells s a b c e) f2.offset).run P w = .ok (.agg #[.int .i64 a, .int .i64 b]) w := fun s a b c e => by
    rw [u2, run_part_agg hp.und hT.size, o2]; rfl
  have q3 : ∀ s a b c e, (part f3.type (cmCells s a b c e) f3.offset).run P w = .ok (.agg #[.int .i64 c, .int .i64 e]) w := fun s a b c e => by
    rw [u3, run_part_agg hp.und hT.size, o3]; rfl
  have e1 : ∀ x y : List UInt8, (Op.equalIn 9999 f1.type (.string (mk x)) (.string (mk y))).run P w = .ok (decide (x = y)) w := fun x y => by
    rw [run_equalIn_string w 9998 f1.type _ _ hstr, mk_toList, mk_toList]; congr 1; rw [Bool.eq_iff_iff]; simp
  have e2 : ∀ a b c e : Int, (Op.equalIn 9999 f2.type (.agg #[.int .i64 a, .int .i64 b]) (.agg #[.int .i64 c, .int .i64 e])).run P w = .ok (decide (a = c ∧ b = e)) w := fun a b c e => by rw [u2]; exact run_eqPairN 9997 a b c e w
  have e3 : ∀ a b c e : Int, (Op.equalIn 9999 f3.type (.agg #[.int .i64 a, .int .i64 b]) (.agg #[.int .i64 c, .int .i64 e])).run P w = .ok (decide (a = c ∧ b = e)) w := fun a b c e => by rw [u3]; exact run_eqPairN 9997 a b c e w
  by_cases h1 : s = s2
  · by_cases h2 : a = c ∧ b = e
    · by_cases h3 : a' = c' ∧ b' = e'
      · simp [Op.eqFields, Sem.run_bind, m1, m2, m3, q1, q2, q3, e1, e2, e3, h1, h2, h3]
      · simp [Op.eqFields, Sem.run_bind, m1, m2, m3, q1, q2, q3, e1, e2, e3, h1, h2, h3]
    · simp [Op.eqFields, Sem.run_bind, m1, m2, m3, q1, q2, q3, e1, e2, e3, h1, h2]
  · simp [Op.eqFields, Sem.run_bind, m1, m2, m3, q1, q2, q3, e1, e2, e3, h1]
theorem do_neCmd {t t' p : TypeId} [hT : TCmd P t p] {x y : Operand} {s s2 : List UInt8} {a b a' b' c e c' e' : Int} (hx : fr.ev x = some (.agg (cmCells s a b a' b'))) (hy : fr.ev y = some (.agg (cmCells s2 c e c' e'))) :
    Does P ⟨some d, .binOp .neq t x y t', ty, pos, af, none⟩ fr w (.bool (!decide (s = s2 ∧ (a = c ∧ b = e) ∧ a' = c' ∧ b' = e'))) := ⟨fun ρ h => by
  unfold execOp
  simp only [h x _ hx, h y _ hy]
  simp [Sem.run_bind, run_eqGuard_agg w .neq t x y _ _ hT.guard, run_neq_struct w t, run_eqCmd, Result.andThen]⟩
theorem do_eqCmd {t t' p : TypeId} [hT : TCmd P t p] {x y : Operand} {s s2 : List UInt8} {a b a' b' c e c' e' : Int} (hx : fr.ev x = some (.agg (cmCells s a b a' b'))) (hy : fr.ev y = some (.agg (cmCells s2 c e c' e'))) :
    Does P ⟨some d, .binOp .eql t x y t', ty, pos, af, none⟩ fr w (.bool (decide (s = s2 ∧ (a = c ∧ b = e) ∧ a' = c' ∧ b' = e'))) := ⟨fun ρ h => by
  unfold execOp
  simp only [h x _ hx, h y _ hy]
  simp [Sem.run_bind, run_eqGuard_agg w .eql t x y _ _ hT.guard, run_eql_struct w t, run_eqCmd, Result.andThen]⟩

/-- The cells of a node. -/
abbrev ndCells (s : List UInt8) (a b : Int) : Array Value := #[.string (mk s), .int .i64 a, .int .i64 b]
theorem run_eqNd {t p : TypeId} [hT : TNode P t p] (s s2 : List UInt8) (a b c e : Int) (w : World) :
    (Op.equalIn 10000 t (.agg (ndCells s a b)) (.agg (ndCells s2 c e))).run P w = .ok (decide (s = s2 ∧ (a = c ∧ b = e))) w := by
  rw [run_equalIn_struct w 9999 t _ _ hT.und hT.held]
  have hf := hT.fields
  have hstr := hT.str
  generalize hL : (P.fieldsOf t).toList = fs at hf hstr
  have hl : fs.length = 2 := by have := congrArg List.length hf; simpa using this
  obtain ⟨f1, f2, rfl⟩ : ∃ a b, fs = [a, b] := by
    match fs, hl with
    | [a, b], _ => exact ⟨a, b, rfl⟩
  simp only [List.map_cons, List.map_nil, List.cons.injEq, Prod.mk.injEq, and_true] at hf
  obtain ⟨⟨n1, o1, u1⟩, n2, o2, u2⟩ := hf
  simp only [List.head!] at hstr
  have m1 : ¬ f1.name = "_" := by simpa using n1
  have m2 : ¬ f2.name = "_" := by simpa using n2
  have hp := hT.pair
  have q1 : ∀ s a b, (part f1.type (ndCells s a b) f1.offset).run P w = .ok (.string (mk s)) w := fun s a b => run_part_str hstr (by rw [o1]; rfl)
  have q2 : ∀ s a b, (part f2.type (ndCells s a b) f2.offset).run P w = .ok (.agg #[.int .i64 a, .int .i64 b]) w := fun s a b => by
    rw [u2, run_part_agg hp.und hT.size, o2]; rfl
  have e1 : ∀ x y : List UInt8, (Op.equalIn 9999 f1.type (.string (mk x)) (.string (mk y))).run P w = .ok (decide (x = y)) w := fun x y => by
    rw [run_equalIn_string w 9998 f1.type _ _ hstr, mk_toList, mk_toList]; congr 1; rw [Bool.eq_iff_iff]; simp
  have e2 : ∀ a b c e : Int, (Op.equalIn 9999 f2.type (.agg #[.int .i64 a, .int .i64 b]) (.agg #[.int .i64 c, .int .i64 e])).run P w = .ok (decide (a = c ∧ b = e)) w := fun a b c e => by rw [u2]; exact run_eqPairN 9997 a b c e w
  by_cases h1 : s = s2
  · by_cases h2 : a = c ∧ b = e
    · simp [Op.eqFields, Sem.run_bind, m1, m2, q1, q2, e1, e2, h1, h2]
    · simp [Op.eqFields, Sem.run_bind, m1, m2, q1, q2, e1, e2, h1, h2]
  · simp [Op.eqFields, Sem.run_bind, m1, m2, q1, q2, e1, e2, h1]
theorem do_neNd {t t' p : TypeId} [hT : TNode P t p] {x y : Operand} {s s2 : List UInt8} {a b c e : Int} (hx : fr.ev x = some (.agg (ndCells s a b))) (hy : fr.ev y = some (.agg (ndCells s2 c e))) :
    Does P ⟨some d, .binOp .neq t x y t', ty, pos, af, none⟩ fr w (.bool (!decide (s = s2 ∧ (a = c ∧ b = e)))) := ⟨fun ρ h => by
  unfold execOp
  simp only [h x _ hx, h y _ hy]
  simp [Sem.run_bind, run_eqGuard_agg w .neq t x y _ _ hT.guard, run_neq_struct w t, run_eqNd, Result.andThen]⟩
end
end Go.Proofs.YtjobbcdolbhadaaGreatDoor


namespace Go.Proofs.YtjobbcdolbhadaaGreatDoor
set_option linter.unusedVariables false
set_option linter.unusedSimpArgs false
open Go Go.RowKit
set_option linter.unusedVariables false
set_option linter.unusedSimpArgs false
section
variable {P : Program} {n : Nat} {fr : Fr} {w : World} {d : Nat} {ty : TypeId} {pos : String} {af : Array Edge}
theorem do_field1 {s f off ft : Nat} [hF : TField P s f off ft 1] [hT : TOne P ft] {x : Operand} {cs : Array Value} {u : Value} (hx : fr.ev x = some (.agg cs)) (hu : cs[off]? = some u) :
    Does P ⟨some d, .field s x f, ty, pos, af, none⟩ fr w u := ⟨fun ρ h => by
  obtain ⟨fs, hs, fd, hfd, rfl, rfl⟩ := hF.und
  have h1 : ∀ w, (isAgg fd.type).run P w = .ok false w := fun w => run_isAgg_one hT
  simp [execOp, h x _ hx, Instr.field, run_underlying hs, hfd, h1, hu, asAgg, Sem.run_bind, go_sem]⟩
end
end Go.Proofs.YtjobbcdolbhadaaGreatDoor


namespace Go.Proofs.YtjobbcdolbhadaaGreatDoor
set_option linter.unusedVariables false
set_option linter.unusedSimpArgs false
open Go Go.RowKit
set_option linter.unusedVariables false
set_option linter.unusedSimpArgs false
section
variable {P : Program} {ops : Array Oper} {Q : Exit → Act → World → Prop} {n : Nat} {fr : Fr} {w : World} {rest : List Oper}
variable {d : Nat} {ty : TypeId} {pos : String} {af : Array Edge} {QQ : Act → Prop}
variable {α : Type} {T : Ty α} {C : World → Prop}
theorem LQ_sliceOwnH {t e size bytes : Nat} {z : Value} [hT : TSlice P t e size bytes z] {x y : Operand} {v : Value} {xs : List α} {base e' : Nat} {k : IntKind} {i : Int} (hx : fr.ev x = some v) (hy : fr.ev y = some (.int k i)) (hO : OwL T w base e' v xs) (hs : T.size = size)
    (h0 : 0 ≤ i) (h1 : i ≤ xs.length) (hdn : Nat.blt d n = true) (kk : ∀ v', OwL T w base e' v' (xs.take i.toNat) → v'.ownBlock = v.ownBlock → LQ P ops C QQ n rest ((d, v') :: fr)) :
    LQ P ops C QQ n (⟨some d, .slice t x none (some y) none, ty, pos, af, none⟩ :: rest) fr := by
  subst hs
  have hlen : (xs.take i.toNat).length = i.toNat := by simp; omega
  obtain ⟨hol, ho⟩ := hO.own
  rcases ho with ⟨rfl, hn⟩ | ⟨g, cap, cur, rfl, hbase, hcell, hnc, hcm, hcs, htake⟩
  · have hz : xs = [] := List.eq_nil_of_length_eq_zero hn
    subst hz
    have hi0 : i.toNat = 0 := by simp at h1; omega
    refine LQ_do rfl rfl hdn (fun _ _ => do_sliceH hx hy h0 (by simp at h1; omega)) (kk _ ⟨?_⟩ ?_)
    · have : (sliced none 0 i.toNat 0 T.size) = .slice none 0 0 := by rw [hi0]; rfl
      rw [this, List.take_nil]
      exact ⟨by simp, .inl ⟨rfl, rfl⟩⟩
    · rw [hi0]; rfl
  · have hv : sliced (some ⟨g, 0, none⟩) 0 i.toNat cap T.size = .slice (some ⟨g, 0, none⟩) i.toNat cap := by
      unfold sliced
      by_cases hc : cap = 0
      · subst hc; simp
      · rw [if_neg hc]; simp [Addr.add]
    refine LQ_do rfl rfl hdn (fun _ _ => do_sliceH hx hy h0 (by omega)) (kk _ ⟨⟨by rw [flat_len], .inr ⟨g, cap, cur, by rw [hv, hlen], hbase, hcell, by rw [hlen]; omega, hcm, hcs, ?_⟩⟩⟩ (by rw [hv]; rfl))
    rw [hlen, ← flat_take, ← htake, List.take_take]
    congr 1
    have : i.toNat * T.size ≤ xs.length * T.size := Nat.mul_le_mul_right _ (by omega)
    omega
end
end Go.Proofs.YtjobbcdolbhadaaGreatDoor


namespace Go.Proofs.YtjobbcdolbhadaaGreatDoor
set_option linter.unusedVariables false
set_option linter.unusedSimpArgs false
open Go Go.RowKit
set_option linter.unusedVariables false
set_option linter.unusedSimpArgs false
section
variable {α : Type} {T : Ty α}
variable {P : Program} {ops : Array Oper} {Q : Exit → Act → World → Prop} {n : Nat} {fr : Fr} {w w0 : World} {rest : List Oper}
variable {d : Nat} {ty : TypeId} {pos : String} {af : Array Edge} {QQ : Act → Prop} {C : World → Prop}
theorem do_sliceLH {t e size bytes : Nat} {z : Value} [hT : TSlice P t e size bytes z] {x y y2 : Operand} {a : Option Addr} {len cap : Nat} {k k2 : IntKind} {i j : Int} (hx : fr.ev x = some (.slice a len cap)) (hy : fr.ev y = some (.int k i)) (hy2 : fr.ev y2 = some (.int k2 j))
    (h0 : 0 ≤ i) (h1 : i ≤ j) (h2 : j ≤ cap) : Does P ⟨some d, .slice t x (some y) (some y2) none, ty, pos, af, none⟩ fr w (sliced a i.toNat j.toNat cap size) := ⟨fun ρ h => by
  obtain ⟨inf, hinf, hz, hiz, hib⟩ := hT.parts
  have hel : P.elem t = e := by have := elem_of hT.und; rw [hT.und] at this; injection this with this; injection this with this; exact this.symm
  show (do pure (Next.value (← Instr.sliceAt t (ρ x) (some (ρ y)) (some (ρ y2)) none)) : Sem Next).run P w = _
  rw [h x _ hx, h y _ hy, h y2 _ hy2]
  have := run_slice_lh (P := P) w t a len cap (elem_of hT.und) k k2 i j h0 h1 h2
  simp [run_sliceAt_slice w t _ (some (.int k i)) (some (.int k2 j)) none (elem_of hT.und), this, sizeOf, typeInfo, hel, hinf, hiz, Result.andThen]⟩
theorem L_sliceLH {t e size bytes : Nat} {z : Value} [hT : TSlice P t e size bytes z] {x y y2 : Operand} {v : Value} {xs : List α} {k k2 : IntKind} {i j : Int} (hx : fr.ev x = some v) (hy : fr.ev y = some (.int k i)) (hy2 : fr.ev y2 = some (.int k2 j)) (hR : RdL T w v xs) (hs : T.size = size)
    (h0 : 0 ≤ i) (h1 : i ≤ j) (h2 : j ≤ xs.length) (hdn : Nat.blt d n = true) (kk : ∀ v', RdL T w v' ((xs.take j.toNat).drop i.toNat) → v'.ownBlock = v.ownBlock → L P ops Q n rest ((d, v') :: fr) w) :
    L P ops Q n (⟨some d, .slice t x (some y) (some y2) none, ty, pos, af, none⟩ :: rest) fr w := by
  subst hs
  obtain ⟨a, cap, rfl, hc, hr, hb⟩ := sliced_rd hR (lo := i.toNat) (hi := j.toNat) (by omega) (by omega)
  exact L_do rfl rfl hdn (do_sliceLH hx hy hy2 h0 h1 (by omega)) (kk _ hr hb)
theorem LQ_sliceLH {t e size bytes : Nat} {z : Value} [hT : TSlice P t e size bytes z] {x y y2 : Operand} {v : Value} {xs : List α} {k k2 : IntKind} {i j : Int} (hx : fr.ev x = some v) (hy : fr.ev y = some (.int k i)) (hy2 : fr.ev y2 = some (.int k2 j)) (hR : RdL T w v xs) (hs : T.size = size)
    (h0 : 0 ≤ i) (h1 : i ≤ j) (h2 : j ≤ xs.length) (hdn : Nat.blt d n = true) (kk : ∀ v', RdL T w v' ((xs.take j.toNat).drop i.toNat) → v'.ownBlock = v.ownBlock → LQ P ops C QQ n rest ((d, v') :: fr)) :
    LQ P ops C QQ n (⟨some d, .slice t x (some y) (some y2) none, ty, pos, af, none⟩ :: rest) fr := by
  subst hs
  obtain ⟨a, cap, rfl, hc, hr, hb⟩ := sliced_rd hR (lo := i.toNat) (hi := j.toNat) (by omega) (by omega)
  exact LQ_do rfl rfl hdn (fun _ _ => do_sliceLH hx hy hy2 h0 h1 (by omega)) (kk _ hr hb)
end

/-- An element that is itself one slice value. -/
structure Sl1 where
  v : Value
  s : v.oneCell' = true
def tSl : Ty Sl1 := ⟨1, fun b => [b.v], fun _ => rfl, fun b u h => by simp at h; subst h; exact b.s⟩
section
variable {α β : Type} {T : Ty α} {U : Ty β} {w w' : World} {base e e2 : Nat} {v : Value} {xs : List α}
theorem RdL.one (h : RdL T w v xs) : v.oneCell' = true := by obtain ⟨a, c, rfl, _⟩ := h.slice; rfl
theorem RdL.cells1 (h : RdL T w v xs) : v.cells = #[v] := by obtain ⟨a, c, rfl, _⟩ := h.slice; rfl
theorem RdL.some_ (h : RdL T w v xs) (hne : xs ≠ []) : ∃ a cap, v = .slice (some a) xs.length cap := by
  obtain ⟨_, a, cap, rfl, h1, h2, h3⟩ := h.rd
  rcases h3 with ⟨rfl, rfl⟩ | ⟨b, rfl, _⟩
  · exact absurd (List.eq_nil_of_length_eq_zero (by omega)) hne
  · exact ⟨b, cap, rfl⟩
/-- The slice value v reads as lists. -/
structure RdLL (U : Ty β) (w : World) (v : Value) (rows : List Sl1) (bs : List (List β)) : Prop where
  rd : RdL tSl w v rows
  len : rows.length = bs.length
  at_ : ∀ (i : Nat) r, rows[i]? = some r → ∃ b, bs[i]? = some b ∧ RdL U w r.v b
theorem RdLL.ext {rows : List Sl1} {bs : List (List β)} (h : RdLL U w v rows bs) (hB : Below w.heap.size w w') : RdLL U w' v rows bs :=
  ⟨h.rd.ext hB, h.len, fun i r hr => let ⟨b, hb, hr'⟩ := h.at_ i r hr; ⟨b, hb, hr'.ext hB⟩⟩
/-- The call owns the slice v of slices, and these. -/
structure OwLL (U : Ty β) (w : World) (base e e2 : Nat) (v : Value) (rows : List Sl1) (bs : List (List β)) : Prop where
  own : OwL tSl w base e v rows
  len : rows.length = bs.length
  at_ : ∀ (i : Nat) r, rows[i]? = some r → ∃ b, bs[i]? = some b ∧ OwL U w base e2 r.v b
variable {rows : List Sl1} {bs : List (List β)}
theorem OwLL.ext (h : OwLL U w base e e2 v rows bs) (hB : Below w.heap.size w w') : OwLL U w' base e e2 v rows bs :=
  ⟨h.own.ext hB, h.len, fun i r hr => let ⟨b, hb, hr'⟩ := h.at_ i r hr; ⟨b, hb, hr'.ext hB⟩⟩
theorem OwLL.rd (h : OwLL U w base e e2 v rows bs) : RdLL U w v rows bs :=
  ⟨h.own.rd, h.len, fun i r hr => let ⟨b, hb, hr'⟩ := h.at_ i r hr; ⟨b, hb, hr'.rd⟩⟩
/-- One more row. -/
theorem OwLL.push {v2 : Value} {r : Sl1} {b : List β} (h : OwLL U w base e e2 v rows bs) (hb : OwL U w base e2 r.v b) (he : e2 ≠ e) (ho : OwL tSl w' base e v2 (rows ++ [r])) (hg : w.grownBy w' v.ownBlock) : OwLL U w' base e e2 v2 (rows ++ [r]) (bs ++ [b]) := by
  refine ⟨ho, by simp [h.len], fun i r' hr' => ?_⟩
  by_cases hi : i < rows.length
  · rw [List.getElem?_append_left hi] at hr'
    obtain ⟨b', hb', ho'⟩ := h.at_ i r' hr'
    exact ⟨b', by rw [List.getElem?_append_left (by rw [← h.len]; exact hi)]; exact hb', ho'.kept hg (ho'.ne_ty h.own he)⟩
  · have hi2 := (List.getElem?_eq_some_iff.1 hr').1
    simp at hi2
    have hi3 : i = rows.length := by omega
    subst hi3
    rw [List.getElem?_append_right (Nat.le_refl _), Nat.sub_self] at hr'
    obtain rfl : r = r' := by simpa using hr'
    exact ⟨b, by rw [List.getElem?_append_right (by rw [h.len]; exact Nat.le_refl _), h.len, Nat.sub_self]; rfl, hb.kept hg (hb.ne_ty h.own he)⟩
/-- A slice of another element type is written. -/
theorem OwLL.kept {γ : Type} {V : Ty γ} {b' e' : Nat} {v2 : Value} {ys : List γ} (h : OwLL U w base e e2 v rows bs) (h2 : OwL V w b' e' v2 ys) (he : e ≠ e') (he2 : e2 ≠ e') (hg : w.grownBy w' v2.ownBlock) : OwLL U w' base e e2 v rows bs :=
  ⟨h.own.kept hg (h.own.ne_ty h2 he), h.len, fun i r hr => let ⟨b, hb, hr'⟩ := h.at_ i r hr; ⟨b, hb, hr'.kept hg (hr'.ne_ty h2 he2)⟩⟩
end
end Go.Proofs.YtjobbcdolbhadaaGreatDoor


namespace Go.Proofs.YtjobbcdolbhadaaGreatDoor
set_option linter.unusedVariables false
set_option linter.unusedSimpArgs false
open Go Go.RowKit Go.MapKept
set_option linter.unusedVariables false
set_option linter.unusedSimpArgs false

/-- A map type from texts to bools. -/
structure TMapSB (P : Program) (t : TypeId) : Prop where
  und : ∃ k e, P.underlying t = some (.map k e) ∧ P.underlying k = some .string ∧ (P.info? e).map (·.zero) = some (some (.bool false))
/-- The map in block g has the keys ss, each with 'true'. -/
def MapS (w : World) (g : Nat) (ss : List Str) : Prop := ∃ es clock, w.heap[g]? = some (.map es clock) ∧ es.toList.map (fun e => (e.key, e.val)) = ss.map (fun s => (Value.string (mk s), Value.bool true))
theorem MapS.lt {w : World} {g : Nat} {ss : List Str} (h : MapS w g ss) : g < w.heap.size := by
  obtain ⟨es, c, hg, _⟩ := h
  exact (Array.getElem?_eq_some_iff.1 hg).1
theorem MapS.ext {w w' : World} {g : Nat} {ss : List Str} (h : MapS w g ss) (hB : Below w.heap.size w w') : MapS w' g ss := by
  have hl := h.lt
  obtain ⟨es, c, hg, he⟩ := h
  exact ⟨es, c, (hB.block g hl).trans hg, he⟩
theorem mk_beq (p s : Str) : (mk p == mk s) = decide (p = s) := by
  rw [Bool.eq_iff_iff]; simp only [decide_eq_true_eq]
  exact ⟨fun h => mk_inj ((bytes_beq _ _).1 h), fun h => (bytes_beq _ _).2 (by rw [h])⟩
theorem findNow_str (p : Str) : ∀ (es : List MapEntry) (ss : List Str) (i : Nat), es.map (fun e => (e.key, e.val)) = ss.map (fun s => (Value.string (mk s), Value.bool true)) →
    (p ∈ ss ∧ ∃ j, Instr.findNow .string (.string (mk p)) es i = some (some (j, .bool true))) ∨ (¬ p ∈ ss ∧ Instr.findNow .string (.string (mk p)) es i = some none)
  | [], [], i, _ => .inr ⟨by simp, rfl⟩
  | [], _ :: _, _, h => by simp at h
  | _ :: _, [], _, h => by simp at h
  | e :: es, s :: ss, i, h => by
    simp only [List.map_cons, List.cons.injEq, Prod.mk.injEq] at h
    obtain ⟨⟨h1, h2⟩, h3⟩ := h
    have ih := findNow_str p es ss (i + 1) h3
    by_cases e1 : p = s
    · left
      refine ⟨by rw [e1]; exact List.mem_cons_self .., i, ?_⟩
      simp [Instr.findNow, Instr.sameNow, h1, h2, mk_beq, e1]
    · have hs : Instr.findNow .string (.string (mk p)) (e :: es) i = Instr.findNow .string (.string (mk p)) es (i + 1) := by
        simp [Instr.findNow, Instr.sameNow, h1, mk_beq, e1]
      rw [hs]
      rcases ih with ⟨h4, h5⟩ | ⟨h4, h5⟩
      · exact .inl ⟨List.mem_cons_of_mem _ h4, h5⟩
      · exact .inr ⟨by simp [e1, h4], h5⟩

section
variable {P : Program} {ops : Array Oper} {Q : Exit → Act → World → Prop} {n : Nat} {fr : Fr} {w w0 : World} {rest : List Oper}
variable {d : Nat} {ty : TypeId} {pos : String} {af : Array Edge}

theorem L_makeMap {t : TypeId} (hdn : Nat.blt d n = true)
    (kk : ∀ w', MapS w' w.heap.size [] → w'.heap.size = w.heap.size + 1 → Below w.heap.size w w' → L P ops Q n rest ((d, .map (some w.heap.size)) :: fr) w') :
    L P ops Q n (⟨some d, .makeMap t none, ty, pos, af, none⟩ :: rest) fr w := by
  refine L_run (w' := w.alloc (.map #[] 0)) rfl rfl hdn (fun ρ h => ?_) (kk _ ⟨#[], 0, heap_alloc_new w _, rfl⟩ (by simp) ((Below.refl _ _).alloc (Nat.le_refl _) _))
  rfl
theorem do_lookupS {t : TypeId} (hT : TMapSB P t) {x y : Operand} {g : Nat} {ss : List Str} {p : Str} (hx : fr.ev x = some (.map (some g))) (hy : fr.ev y = some (.string (mk p))) (hM : MapS w g ss) :
    Does P ⟨some d, .lookup t x y false, ty, pos, af, none⟩ fr w (.bool (ss.contains p)) := ⟨fun ρ h => by
  obtain ⟨k, e, h1, h2, h3⟩ := hT.und
  obtain ⟨es, c, hg, he⟩ := hM
  have hz : ∀ w, (zeroValue e).run P w = .ok (.bool false) w := fun w => by
    cases hi : P.info? e with
    | none => simp [hi] at h3
    | some i => simp [hi] at h3; simp [zeroValue, typeInfo, hi, h3, go_sem]
  have hck := Go.MapKept.run_checkKey (P := P) (w := w) h2 (show IsKey .string (.string (mk p)) by trivial) es.isEmpty 9999
  have hgo := Go.MapKept.run_getObj_map (P := P) hg
  have hstep : (Instr.lookup t (.map (some g)) (.string (mk p)) false).run P w = .ok (.bool (ss.contains p)) w := by
    rcases findNow_str p es.toList ss 0 he with ⟨hm, j, hf⟩ | ⟨hm, hf⟩
    · have hfk := Go.MapKept.run_findKey (P := P) (w := w) h2 hf
      have : ss.contains p = true := List.contains_iff_mem.2 hm
      simp [Instr.lookup, run_underlying h1, hgo, hck, hfk, Result.andThen, this, hm]
    · have hfk := Go.MapKept.run_findKey (P := P) (w := w) h2 hf
      have : ss.contains p = false := by rw [Bool.eq_false_iff]; exact fun e => hm (List.contains_iff_mem.1 e)
      simp [Instr.lookup, run_underlying h1, hgo, hck, hfk, hz, Result.andThen]
      exact hm
  show (do pure (Next.value (← Instr.lookup t (ρ x) (ρ y) false)) : Sem Next).run P w = _
  rw [h x _ hx, h y _ hy]
  simp [hstep]⟩
theorem L_mapNew {t : TypeId} (hT : TMapSB P t) {x y z : Operand} {g : Nat} {ss : List Str} {p : Str} (hx : fr.ev x = some (.map (some g))) (hy : fr.ev y = some (.string (mk p))) (hz : fr.ev z = some (.bool true)) (hM : MapS w g ss) (hn : ¬ p ∈ ss)
    (kk : ∀ w', MapS w' g (ss ++ [p]) → w.grownBy w' (some g) → w'.heap.size = w.heap.size → L P ops Q n rest fr w') :
    L P ops Q n (⟨none, .mapUpdate t x y z, ty, pos, af, none⟩ :: rest) fr w := by
  obtain ⟨k, e, h1, h2, h3⟩ := hT.und
  obtain ⟨es, c, hg, he⟩ := hM
  have hck := Go.MapKept.run_checkKey (P := P) (w := w) h2 (show IsKey .string (.string (mk p)) by trivial) false 9999
  have hgo := Go.MapKept.run_getObj_map (P := P) hg
  have hfk : (Instr.findKey k (.string (mk p)) es.toList).run P w = .ok none w := by
    rcases findNow_str p es.toList ss 0 he with ⟨hm, _⟩ | ⟨hm, hf⟩
    · exact absurd hm hn
    · exact Go.MapKept.run_findKey (P := P) (w := w) h2 hf
  have hso := Go.MapKept.run_setObj_map (P := P) (.map (es.push { key := .string (mk p), val := .bool true, born := c }) (c + 1)) hg
  obtain ⟨hs1, hs2⟩ := heap_set (o' := .map (es.push { key := .string (mk p), val := .bool true, born := c }) (c + 1)) hg
  refine L_run_skip (w' := { w with heap := w.heap.setIfInBounds g (.map (es.push { key := .string (mk p), val := .bool true, born := c }) (c + 1)) }) rfl rfl (fun ρ h => ?_) (kk _ ⟨_, _, hs1, by simp [he]⟩ ⟨rfl, rfl, rfl, by simp, fun j hj hne => hs2 j (fun e => hne (by rw [e]))⟩ (by simp))
  have hstep : (Instr.mapUpdate t (.map (some g)) (.string (mk p)) (.bool true)).run P w = .ok () { w with heap := w.heap.setIfInBounds g (.map (es.push { key := .string (mk p), val := .bool true, born := c }) (c + 1)) } := by
    simp [Instr.mapUpdate, run_underlying h1, hgo, hck, hfk, hso, Result.andThen]
  show (do Instr.mapUpdate t (ρ x) (ρ y) (ρ z); pure Next.skip : Sem Next).run P w = _
  rw [h x _ hx, h y _ hy, h z _ hz]
  simp [hstep]
end
section
variable {P : Program} {ops : Array Oper} {n : Nat} {fr : Fr} {rest : List Oper} {QQ : Act → Prop}
variable {d : Nat} {ty : TypeId} {pos : String} {af : Array Edge}
theorem LQ_callFnV {w : World} {f : FuncId} [he : Enters P f] {fo : Operand} {cap : List Value} {xs : List Operand} {ats : Array TypeId} {vs : List Value} {v : Value}
    (hf : fr.ev fo = some (.func (.func f) #[] cap.toArray)) (hx : fr.evs xs = some vs) (hdn : Nat.blt d n = true) (hc : ∀ w', Below w.heap.size w w' → Cl P f (vs ++ cap) w' (V w' v))
    (k : LQ P ops (Below w.heap.size w) QQ n rest ((d, v) :: fr)) : LQ P ops (Below w.heap.size w) QQ n (⟨some d, .call ⟨.value fo, xs.toArray, ats⟩, ty, pos, af, none⟩ :: rest) fr :=
  LQ_quiet rfl rfl hdn (fun a s w' hw' => by
    unfold Oper.quietAt
    rw [run_callFn s hf hx w']
    exact ⟨rfl, (hc w' hw').run.mono fun e w'' ⟨u, he, hu, hB⟩ => by subst he; subst hu; exact ⟨rfl, hw'.trans (hB.mono hw'.size)⟩⟩) k
end
end Go.Proofs.YtjobbcdolbhadaaGreatDoor
