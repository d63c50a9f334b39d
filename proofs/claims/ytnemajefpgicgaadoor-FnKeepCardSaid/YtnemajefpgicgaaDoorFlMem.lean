/-
  Memory: rows of cells that can be read ('Rd'), a pointer to cells ('Pt'), variables that lie in memory, slices that the call owns; one lemma an operation on them.
-/
import Derived.Test.YtnemajefpgicgaaDoorFlOps
namespace Go.Proofs.YtnemajefpgicgaaDoor
open Go Go.RowKit

/-- At address a stand the cells us. -/
def Pt (w : World) (a : Addr) (us : List Value) : Prop := ∀ j u, us[j]? = some u → w.cell? (a.add j) = some u

/-- The slice value v has k elements of 'size' cells each, and its cells are us. -/
def Rd (w : World) (size : Nat) (v : Value) (k : Nat) (us : List Value) : Prop :=
  us.length = k * size ∧ ∃ a cap, v = .slice a k cap ∧ k ≤ cap ∧ cap ≤ maxLen ∧ ((a = none ∧ cap = 0) ∨ ∃ b, a = some b ∧ Pt w b us)

theorem Pt.kept {w w' : World} {a : Addr} {us : List Value} (h : Pt w a us) (hb : w'.heap[a.block]? = w.heap[a.block]?) : Pt w' a us := by
  intro j u hu
  have h1 := h j u hu
  rw [World.cell?_of_block (w := w)]
  · exact h1
  · rw [show (a.add j).block = a.block from by unfold Addr.add; split <;> rfl]; exact hb
theorem Pt.lt {w : World} {a : Addr} {us : List Value} (h : Pt w a us) (hne : us ≠ []) : a.block < w.heap.size := by
  cases us with
  | nil => exact absurd rfl hne
  | cons u r =>
    have := World.block_lt_of_cell? w _ (h 0 u rfl)
    simpa [Addr.add] using this
theorem Pt.nil (w : World) (a : Addr) : Pt w a [] := fun j u h => by simp at h
theorem Pt.take {w : World} {a : Addr} {us : List Value} (h : Pt w a us) (m : Nat) : Pt w a (us.take m) := fun j u hu => h j u (by
  rw [List.getElem?_take] at hu; split at hu
  · exact hu
  · cases hu)
theorem Addr.add_add' (a : Addr) (x y : Nat) : (a.add x).add y = a.add (x + y) := by
  unfold Addr.add
  by_cases hx : x = 0 <;> by_cases hy : y = 0 <;> simp [hx, hy, Nat.add_assoc]
theorem Pt.drop {w : World} {a : Addr} {us : List Value} (h : Pt w a us) (m : Nat) : Pt w (a.add m) (us.drop m) := fun j u hu => by
  rw [Addr.add_add']; exact h _ u (by simpa using hu)

theorem Rd.len {w : World} {size k : Nat} {v : Value} {us : List Value} (h : Rd w size v k us) : us.length = k * size := h.1
theorem Rd.kept {w w' : World} {size k : Nat} {v : Value} {us : List Value} (h : Rd w size v k us) (hb : ∀ b, v.ownBlock = some b → b < w.heap.size → w'.heap[b]? = w.heap[b]?) : Rd w' size v k us := by
  obtain ⟨h1, a, cap, rfl, h2, h3, h4⟩ := h
  refine ⟨h1, a, cap, rfl, h2, h3, ?_⟩
  rcases h4 with h4 | ⟨b, rfl, h4⟩
  · exact .inl h4
  · refine .inr ⟨b, rfl, ?_⟩
    by_cases hne : us = []
    · subst hne; exact Pt.nil _ _
    · exact h4.kept (hb b.block rfl (h4.lt hne))
theorem Rd.below {w w' : World} {size k B : Nat} {v : Value} {us : List Value} (h : Rd w size v k us) (hB : Below B w w') (hw : w.heap.size ≤ B) : Rd w' size v k us :=
  h.kept fun b _ hb => hB.block b (by omega)
theorem Rd.ext {w w' : World} {size k : Nat} {v : Value} {us : List Value} (h : Rd w size v k us) (hB : Below w.heap.size w w') : Rd w' size v k us := h.below hB (Nat.le_refl _)
theorem Pt.ext {w w' : World} {a : Addr} {us : List Value} (h : Pt w a us) (hB : Below w.heap.size w w') : Pt w' a us := by
  by_cases hne : us = []
  · subst hne; exact Pt.nil _ _
  · exact h.kept (hB.block _ (h.lt hne))
theorem Rd.own {w : World} {base e size k : Nat} {v : Value} {us : List Value} (h : w.ownsRow base e size v k us) : Rd w size v k us := by
  obtain ⟨h1, h2⟩ := h
  rcases h2 with ⟨rfl, rfl⟩ | ⟨g, cap, cur, rfl, _, hg, hk, hc, hs, ht⟩
  · exact ⟨h1, none, 0, rfl, Nat.le_refl _, Nat.zero_le _, .inl ⟨rfl, rfl⟩⟩
  · refine ⟨h1, some ⟨g, 0, none⟩, cap, rfl, hk, hc, .inr ⟨_, rfl, ?_⟩⟩
    intro j u hu
    have hadd : (⟨g, 0, none⟩ : Addr).add j = ⟨g, j, none⟩ := by unfold Addr.add; split <;> simp_all
    rw [hadd, cell_of_row w g j cur e (0, 0) hg]
    rw [← ht, List.getElem?_take] at hu
    split at hu
    · simpa using hu
    · cases hu
theorem Rd.nil (w : World) (size : Nat) : Rd w size (.slice none 0 0) 0 [] := ⟨by simp, none, 0, rfl, Nat.le_refl _, Nat.zero_le _, .inl ⟨rfl, rfl⟩⟩

/-- A step of a call that began in w0. -/
theorem below_step {w0 w w' : World} (h : Below w0.heap.size w0 w) (h' : Below w.heap.size w w') : Below w0.heap.size w0 w' :=
  h.trans (h'.mono h.size)

/-! ### Types -/
class TSlice (P : Program) (t : TypeId) (e : outParam TypeId) (size : outParam Nat) (bytes : outParam Nat) (z : outParam Value) : Prop where
  und : P.underlying t = some (.slice e)
  info : (P.info? e).map (fun i => (i.zero, i.size, i.bytes)) = some (some z, size, bytes)
  zs : z.cells.size = size
  pos : 0 < size

theorem TSlice.parts {P : Program} {t e size bytes : Nat} {z : Value} (h : TSlice P t e size bytes z) : ∃ i, P.info? e = some i ∧ i.zero = some z ∧ i.size = size ∧ i.bytes = bytes := by
  have := h.info
  cases hi : P.info? e with
  | none => simp [hi] at this
  | some i => simp [hi] at this; exact ⟨i, rfl, this.1, this.2.1, this.2.2⟩

/-- A type of one cell that is no struct and no array. -/
class TOne (P : Program) (t : TypeId) : Prop where
  und : ∃ d, P.underlying t = some d ∧ (match d with | .struct _ | .array _ _ => False | _ => True)

/-- A struct type: its fields' places; its size, its zero. -/
class TStruct (P : Program) (t : TypeId) (size : outParam Nat) (z : outParam Value) : Prop where
  und : ∃ fs, P.underlying t = some (.struct fs)
  info : (P.info? t).map (fun i => (i.zero, i.size)) = some (some z, size)

/-- Field f of struct type t: its place, its type, the cells it takes. -/
class TField (P : Program) (t : TypeId) (f : Nat) (off : outParam Nat) (ft : outParam TypeId) (size : outParam Nat) : Prop where
  und : ∃ fs, P.underlying t = some (.struct fs) ∧ ∃ fd, fs[f]? = some fd ∧ fd.offset = off ∧ fd.type = ft
  info : (P.info? ft).map (·.size) = some size
  pos : size ≠ 0

class TStr (P : Program) (t : TypeId) : Prop where
  und : P.underlying t = some .string
class TBool (P : Program) (t : TypeId) : Prop where
  und : P.underlying t = some .bool
class TZero (P : Program) (t : TypeId) (z : outParam Value) : Prop where
  info : (P.info? t).map (·.zero) = some (some z)

section
variable {P : Program} {w : World}
theorem run_isAgg_one {t : TypeId} (h : TOne P t) : (isAgg t).run P w = .ok false w := by
  obtain ⟨d, hd, hm⟩ := h.und
  have h1 := run_underlying hd w
  cases d <;> first | exact hm.elim | simp [isAgg, h1]
theorem run_isAgg_struct {t : TypeId} {fs : Array Field} (h : P.underlying t = some (.struct fs)) : (isAgg t).run P w = .ok true w := by
  have h1 := run_underlying h w
  simp [isAgg, h1]
theorem run_sizeOf' {t : TypeId} {s : Nat} (h : (P.info? t).map (·.size) = some s) : (sizeOf t).run P w = .ok s w := by
  cases hi : P.info? t with
  | none => simp [hi] at h
  | some i => simp [hi] at h; simp [sizeOf, typeInfo, hi, h, go_sem]
end

theorem setRow_alloc_new (w : World) (c cs : Array Value) (t : TypeId) : (w.alloc (.cells c t)).setRow w.heap.size cs = w.alloc (.cells cs t) := by
  simp only [World.setRow, World.alloc, World.mk.injEq, and_true]
  apply Array.ext_getElem?
  intro i
  rw [Array.getElem?_modify, Array.getElem?_push, Array.getElem?_push]
  by_cases h : w.heap.size = i
  · subst h; simp
  · rw [if_neg h, if_neg (fun e => h e.symm), if_neg (fun e => h e.symm)]

section ops
variable {P : Program} {ops : Array Oper} {Q : Exit → Act → World → Prop} {n : Nat} {fr : Fr} {w : World} {rest : List Oper}
variable {d : Nat} {ty : TypeId} {pos : String} {af : Array Edge}

theorem do_len {w' : World} {t e size bytes : Nat} {z : Value} [hT : TSlice P t e size bytes z] {x : Operand} {v : Value} {k size' : Nat} {us : List Value} (hx : fr.ev x = some v) (hR : Rd w size' v k us) :
    Does P ⟨some d, .call ⟨.builtin .len, #[x], #[t]⟩, ty, pos, af, none⟩ fr w' (.int .i64 k) := ⟨fun ρ h => by
  obtain ⟨_, a, cap, rfl, _⟩ := hR
  simp [h x _ hx, Builtin.len_, run_underlying hT.und, goInt, go_sem]⟩

theorem do_lenStr {t : TypeId} [hT : TStr P t] {x : Operand} {s : ByteArray} (hx : fr.ev x = some (.string s)) :
    Does P ⟨some d, .call ⟨.builtin .len, #[x], #[t]⟩, ty, pos, af, none⟩ fr w (.int .i64 s.size) := ⟨fun ρ h => by
  simp [h x _ hx, Builtin.len_, run_underlying hT.und, goInt, go_sem]⟩

/-- The address of element i of a slice that is written out. -/
theorem do_indexAt {t e size bytes : Nat} {z : Value} [hT : TSlice P t e size bytes z] {x ix : Operand} {b : Addr} {len cap : Nat} {kd : IntKind} {i : Int} (hx : fr.ev x = some (.slice (some b) len cap)) (hi : fr.ev ix = some (.int kd i))
    (h0 : 0 ≤ i) (h1 : i < len) : Does P ⟨some d, .indexAddr t x ix, ty, pos, af, none⟩ fr w (.pointer (some (b.add (i.toNat * size)))) := ⟨fun ρ h => by
  obtain ⟨inf, hinf, _, hsz, _⟩ := hT.parts
  simp [execOp, h x _ hx, h ix _ hi, Instr.indexAt, asIntOf, run_underlying hT.und, h0, h1, sizeOf, typeInfo, hinf, hsz, go_sem]⟩

theorem do_fieldAddr {s f off ft size : Nat} [hF : TField P s f off ft size] {x : Operand} {a : Addr} (hx : fr.ev x = some (.pointer (some a))) :
    Does P ⟨some d, .fieldAddr s x f, ty, pos, af, none⟩ fr w (.pointer (some (a.add off))) := ⟨fun ρ h => by
  obtain ⟨fs, hs, fd, hfd, rfl, rfl⟩ := hF.und
  have h1 : ∀ w, (sizeOf fd.type).run P w = .ok size w := fun w => run_sizeOf' hF.info
  simp [execOp, h x _ hx, Instr.fieldAt, run_underlying hs, hfd, Instr.sureAddr, fieldPlace, h1, hF.pos, go_sem]⟩

theorem do_load {t : TypeId} [hT : TOne P t] {x : Operand} {a : Addr} {u : Value} (hx : fr.ev x = some (.pointer (some a))) (hc : w.cell? a = some u) :
    Does P ⟨some d, .load t x, ty, pos, af, none⟩ fr w u := ⟨fun ρ h => by
  have h1 : ∀ w, (isAgg t).run P w = .ok false w := fun w => run_isAgg_one hT
  simp [execOp, h x _ hx, Instr.loadAt, Instr.sureAddr, loadVar, h1, load, Sem.run, hc, go_sem]⟩

theorem do_loadAgg {t : TypeId} {size : Nat} {z : Value} [hT : TStruct P t size z] {x : Operand} {a : Addr} {us : List Value} (hx : fr.ev x = some (.pointer (some a))) (hp : Pt w a us) (hl : us.length = size) :
    Does P ⟨some d, .load t x, ty, pos, af, none⟩ fr w (.agg us.toArray) := ⟨fun ρ h => by
  have h1 : ∀ w, (isAgg t).run P w = .ok true w := fun w => let ⟨_, hu⟩ := hT.und; run_isAgg_struct hu
  have h2 : ∀ w, (sizeOf t).run P w = .ok us.length w := fun w => by
    rw [hl]
    refine run_sizeOf' ?_
    have h0 := hT.info
    cases hi : P.info? t with
    | none => simp [hi] at h0
    | some i => simp [hi] at h0 ⊢; exact h0.2
  have h3 := run_loadCells_list (P := P) w a us (fun j v hj => hp j v hj)
  unfold loadCells at h3
  simp [execOp, h x _ hx, Instr.loadAt, Instr.sureAddr, loadVar, h1, h2, h3, go_sem]⟩

/-- The address of element i: some address that holds the element's cells. -/
theorem L_indexAddr {t e size bytes : Nat} {z : Value} [hT : TSlice P t e size bytes z] {x ix : Operand} {v : Value} {k : Nat} {us : List Value} {kd : IntKind} {i : Int} (hx : fr.ev x = some v) (hi : fr.ev ix = some (.int kd i))
    (hR : Rd w size v k us) (h0 : 0 ≤ i) (h1 : i < k) (hdn : Nat.blt d n = true)
    (kk : ∀ a : Addr, v.ownBlock = some a.block → Pt w a ((us.drop (i.toNat * size)).take size) → L P ops Q n rest ((d, .pointer (some a)) :: fr) w) :
    L P ops Q n (⟨some d, .indexAddr t x ix, ty, pos, af, none⟩ :: rest) fr w := by
  obtain ⟨hl, a, cap, rfl, _, _, h4⟩ := hR
  rcases h4 with ⟨rfl, rfl⟩ | ⟨b, rfl, hp⟩
  · omega
  · have hb : (b.add (i.toNat * size)).block = b.block := by unfold Addr.add; split <;> rfl
    exact L_do rfl rfl hdn (do_indexAt hx hi h0 h1) (kk _ (by rw [hb]; rfl) ((hp.drop _).take _))

theorem L_box {e : TypeId} {x : Operand} {v : Value} (hx : fr.ev x = some v) (hdn : Nat.blt d n = true)
    (kk : L P ops Q n rest ((d, .pointer (some ⟨w.heap.size, 0, none⟩)) :: fr) (w.alloc (.cells v.cells e))) :
    L P ops Q n (⟨some d, .box e x, ty, pos, af, none⟩ :: rest) fr w := by
  refine L_run rfl rfl hdn (fun ρ h => ?_) kk
  simp [h x _ hx, go_sem]

theorem L_alloc {e : TypeId} {z : Value} [hZ : TZero P e z] (hdn : Nat.blt d n = true)
    (kk : L P ops Q n rest ((d, .pointer (some ⟨w.heap.size, 0, none⟩)) :: fr) (w.alloc (.cells z.cells e))) :
    L P ops Q n (⟨some d, .alloc e, ty, pos, af, none⟩ :: rest) fr w := by
  refine L_run rfl rfl hdn (fun ρ h => ?_) kk
  have hz := hZ.info
  cases hi : P.info? e with
  | none => simp [hi] at hz
  | some i =>
    simp [hi] at hz
    simp [zeroValue, typeInfo, hi, hz, go_sem]

end ops
end Go.Proofs.YtnemajefpgicgaaDoor
