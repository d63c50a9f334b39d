/-
  Slices of flat elements: the kinds of element, and the lemmas on index, length, load over them.
-/
import Derived.Test.YtnemajefpgicgaaDoorFlMem
import Derived.Test.YtnemajefpgicgaaDoorModel
namespace Go.Proofs.YtnemajefpgicgaaDoor
open Go Go.RowKit

/-- A kind of element: so many cells, each of one cell's value. -/
structure Ty (α : Type) where
  size : Nat
  enc : α → List Value
  len : ∀ x, (enc x).length = size
  one : ∀ x, ∀ u ∈ enc x, u.oneCell' = true

def tInt : Ty Int := ⟨1, fun n => [.int .i64 n], fun _ => rfl, fun _ u h => by simp at h; subst h; rfl⟩
def tU8 : Ty UInt8 := ⟨1, fun n => [.int .u8 n.toNat], fun _ => rfl, fun _ u h => by simp at h; subst h; rfl⟩
def tStr : Ty Str := ⟨1, fun s => [.string (mk s)], fun _ => rfl, fun _ u h => by simp at h; subst h; rfl⟩
def tNd : Ty Nd := ⟨3, fun n => [.string (mk n.path), .int .i64 n.c.kind, .int .i64 n.c.value], fun _ => rfl, fun _ u h => by simp at h; rcases h with rfl | rfl | rfl <;> rfl⟩
def tCm : Ty Cm := ⟨5, fun c => [.string (mk c.path), .int .i64 c.fr.kind, .int .i64 c.fr.value, .int .i64 c.to.kind, .int .i64 c.to.value], fun _ => rfl, fun _ u h => by simp at h; rcases h with rfl | rfl | rfl | rfl | rfl <;> rfl⟩
/-- A row of three: a number and two slices, whatever they hold. -/
structure Row3 where
  name : Int
  safe : Value
  fresh : Value
  s1 : safe.oneCell' = true
  s2 : fresh.oneCell' = true
def tRow3 : Ty Row3 := ⟨3, fun b => [.int .i64 b.name, b.safe, b.fresh], fun _ => rfl, fun b u h => by simp at h; rcases h with rfl | rfl | rfl; exact rfl; exact b.s1; exact b.s2⟩

theorem flat_len {α : Type} (T : Ty α) (xs : List α) : (xs.flatMap T.enc).length = xs.length * T.size := by
  induction xs with
  | nil => simp
  | cons x r ih => simp [T.len, ih, Nat.add_mul]; omega
theorem flat_drop {α : Type} (T : Ty α) (xs : List α) (i : Nat) : (xs.flatMap T.enc).drop (i * T.size) = (xs.drop i).flatMap T.enc := by
  induction i generalizing xs with
  | zero => simp
  | succ i ih =>
    cases xs with
    | nil => simp
    | cons x r =>
      rw [List.flatMap_cons, Nat.succ_mul, Nat.add_comm, ← List.drop_drop, List.drop_left' (T.len x), ih]
      simp
theorem flat_take {α : Type} (T : Ty α) (xs : List α) (i : Nat) : (xs.flatMap T.enc).take (i * T.size) = (xs.take i).flatMap T.enc := by
  induction i generalizing xs with
  | zero => simp
  | succ i ih =>
    cases xs with
    | nil => simp
    | cons x r =>
      rw [List.flatMap_cons, Nat.succ_mul, Nat.add_comm, List.take_add, List.take_left' (T.len x), List.drop_left' (T.len x), ih]
      simp
theorem flat_at {α : Type} (T : Ty α) (xs : List α) (i : Nat) (x : α) (h : xs[i]? = some x) : ((xs.flatMap T.enc).drop (i * T.size)).take T.size = T.enc x := by
  rw [flat_drop]
  have hi : i < xs.length := (List.getElem?_eq_some_iff.1 h).1
  have hx : xs[i] = x := (List.getElem?_eq_some_iff.1 h).2
  rw [List.drop_eq_getElem_cons hi, hx, List.flatMap_cons, List.take_left' (T.len x)]
theorem flat_one {α : Type} (T : Ty α) (xs : List α) : ∀ u ∈ xs.flatMap T.enc, u.oneCell' = true := by
  intro u hu
  obtain ⟨x, _, hx⟩ := List.mem_flatMap.1 hu
  exact T.one x u hx

/-- The slice value v reads as the list xs. -/
structure RdL {α : Type} (T : Ty α) (w : World) (v : Value) (xs : List α) : Prop where
  rd : Rd w T.size v xs.length (xs.flatMap T.enc)

section
variable {α : Type} {T : Ty α} {w w' : World} {v : Value} {xs : List α}
theorem RdL.ext (h : RdL T w v xs) (hB : Below w.heap.size w w') : RdL T w' v xs := ⟨h.rd.ext hB⟩
theorem RdL.kept (h : RdL T w v xs) (hb : ∀ b, v.ownBlock = some b → b < w.heap.size → w'.heap[b]? = w.heap[b]?) : RdL T w' v xs := ⟨h.rd.kept hb⟩
theorem RdL.nil : RdL T w (.slice none 0 0) [] := ⟨Rd.nil w _⟩
theorem RdL.slice (h : RdL T w v xs) : ∃ a cap, v = .slice a xs.length cap ∧ xs.length ≤ cap ∧ cap ≤ maxLen := by
  obtain ⟨_, a, cap, rfl, h1, h2, _⟩ := h.rd
  exact ⟨a, cap, rfl, h1, h2⟩
theorem RdL.maxLen (h : RdL T w v xs) : xs.length ≤ 9223372036854775807 := by
  obtain ⟨a, cap, _, h1, h2⟩ := h.slice
  unfold Go.maxLen at h2; omega
end

/-- Slices that the call owns: from block 'base' on. -/
structure OwL {α : Type} (T : Ty α) (w : World) (base e : Nat) (v : Value) (xs : List α) : Prop where
  own : w.ownsRow base e T.size v xs.length (xs.flatMap T.enc)
theorem OwL.rd {α : Type} {T : Ty α} {w : World} {base e : Nat} {v : Value} {xs : List α} (h : OwL T w base e v xs) : RdL T w v xs := ⟨Rd.own h.own⟩

theorem Pt.keptC {w w' : World} {a : Addr} {us : List Value} (h : Pt w a us) (hb : a.block < w.heap.size → w'.heap[a.block]? = w.heap[a.block]?) : Pt w' a us := by
  by_cases hne : us = []
  · subst hne; exact Pt.nil _ _
  · exact h.kept (hb (h.lt hne))

section ops
variable {P : Program} {ops : Array Oper} {Q : Exit → Act → World → Prop} {n : Nat} {fr : Fr} {w : World} {rest : List Oper}
variable {d : Nat} {ty : TypeId} {pos : String} {af : Array Edge} {QQ : Act → Prop}
variable {α : Type} {T : Ty α} {C : World → Prop}

theorem do_lenL {w' : World} {t e size bytes : Nat} {z : Value} [hT : TSlice P t e size bytes z] {x : Operand} {v : Value} {xs : List α} (hx : fr.ev x = some v) (hR : RdL T w v xs) :
    Does P ⟨some d, .call ⟨.builtin .len, #[x], #[t]⟩, ty, pos, af, none⟩ fr w' (.int .i64 xs.length) := do_len hx hR.rd

theorem L_lenL {t e size bytes : Nat} {z : Value} [hT : TSlice P t e size bytes z] {x : Operand} {v : Value} {xs : List α} (hx : fr.ev x = some v) (hR : RdL T w v xs) (hdn : Nat.blt d n = true)
    (kk : xs.length ≤ 9223372036854775807 → L P ops Q n rest ((d, .int .i64 xs.length) :: fr) w) : L P ops Q n (⟨some d, .call ⟨.builtin .len, #[x], #[t]⟩, ty, pos, af, none⟩ :: rest) fr w :=
  L_do rfl rfl hdn (do_lenL hx hR) (kk hR.maxLen)

theorem LQ_lenL {t e size bytes : Nat} {z : Value} [hT : TSlice P t e size bytes z] {x : Operand} {v : Value} {xs : List α} (hx : fr.ev x = some v) (hR : RdL T w v xs) (hdn : Nat.blt d n = true)
    (kk : xs.length ≤ 9223372036854775807 → LQ P ops C QQ n rest ((d, .int .i64 xs.length) :: fr)) : LQ P ops C QQ n (⟨some d, .call ⟨.builtin .len, #[x], #[t]⟩, ty, pos, af, none⟩ :: rest) fr :=
  LQ_do rfl rfl hdn (fun w' hw' => do_lenL hx hR) (kk hR.maxLen)

theorem L_indexL {t e size bytes : Nat} {z : Value} [hT : TSlice P t e size bytes z] {x ix : Operand} {v : Value} {xs : List α} {kd : IntKind} {i : Int} (hx : fr.ev x = some v) (hi : fr.ev ix = some (.int kd i))
    (hR : RdL T w v xs) (hs : T.size = size) (h0 : 0 ≤ i) (h1 : i < xs.length) (hdn : Nat.blt d n = true)
    (kk : ∀ (a : Addr) (y : α), xs[i.toNat]? = some y → v.ownBlock = some a.block → Pt w a (T.enc y) → L P ops Q n rest ((d, .pointer (some a)) :: fr) w) :
    L P ops Q n (⟨some d, .indexAddr t x ix, ty, pos, af, none⟩ :: rest) fr w := by
  subst hs
  refine L_indexAddr hx hi hR.rd h0 h1 hdn (fun a hb hp => ?_)
  have hlt : i.toNat < xs.length := by omega
  have hy : xs[i.toNat]? = some xs[i.toNat] := List.getElem?_eq_getElem hlt
  exact kk a _ hy hb (by rw [flat_at T xs i.toNat _ hy] at hp; exact hp)

theorem LQ_indexL {t e size bytes : Nat} {z : Value} [hT : TSlice P t e size bytes z] {x ix : Operand} {v : Value} {xs : List α} {kd : IntKind} {i : Int} (hx : fr.ev x = some v) (hi : fr.ev ix = some (.int kd i))
    (hR : RdL T w v xs) (hs : T.size = size) (h0 : 0 ≤ i) (h1 : i < xs.length) (hdn : Nat.blt d n = true)
    (kk : ∀ (a : Addr) (y : α), xs[i.toNat]? = some y → v.ownBlock = some a.block → Pt w a (T.enc y) → LQ P ops C QQ n rest ((d, .pointer (some a)) :: fr)) :
    LQ P ops C QQ n (⟨some d, .indexAddr t x ix, ty, pos, af, none⟩ :: rest) fr := by
  subst hs
  have hlt : i.toNat < xs.length := by omega
  have hy : xs[i.toNat]? = some xs[i.toNat] := List.getElem?_eq_getElem hlt
  obtain ⟨hl, a, cap, rfl, _, _, h4⟩ := hR.rd
  rcases h4 with ⟨rfl, rfl⟩ | ⟨b, rfl, hp⟩
  · exfalso
    have := hR.slice
    obtain ⟨a', cap', he, hc, _⟩ := this
    injection he with _ _ hcc
    omega
  · have hb : (b.add (i.toNat * T.size)).block = b.block := by unfold Addr.add; split <;> rfl
    refine LQ_do rfl rfl hdn (fun w' _ => do_indexAt hx hi h0 h1) (kk _ _ hy (by rw [hb]; rfl) ?_)
    rw [← flat_at T xs i.toNat _ hy]
    exact (hp.drop _).take _

theorem L_loadPt {t : TypeId} [hT : TOne P t] {x : Operand} {a b : Addr} {us : List Value} {off : Nat} {u : Value} (hx : fr.ev x = some (.pointer (some b))) (hb : b = a.add off) (hp : Pt w a us) (hu : us[off]? = some u) (hdn : Nat.blt d n = true)
    (kk : L P ops Q n rest ((d, u) :: fr) w) : L P ops Q n (⟨some d, .load t x, ty, pos, af, none⟩ :: rest) fr w :=
  L_do rfl rfl hdn (do_load hx (by rw [hb]; exact hp off u hu)) kk
theorem GLQ_loadPt {t : TypeId} [hT : TOne P t] {x : Operand} {a b : Addr} {us : List Value} {off : Nat} {u : Value} (hx : fr.ev x = some (.pointer (some b))) (hb : b = a.add off) (hp : Pt w a us) (hu : us[off]? = some u) (hC : ∀ w', C w' → a.block < w.heap.size → w'.heap[a.block]? = w.heap[a.block]?) (hdn : Nat.blt d n = true)
    (kk : LQ P ops C QQ n rest ((d, u) :: fr)) : LQ P ops C QQ n (⟨some d, .load t x, ty, pos, af, none⟩ :: rest) fr :=
  LQ_do rfl rfl hdn (fun w' hw' => do_load hx (by rw [hb]; exact (hp.keptC (hC w' hw')) off u hu)) kk
theorem LQ_loadPt {t : TypeId} [hT : TOne P t] {x : Operand} {a b : Addr} {us : List Value} {off : Nat} {u : Value} (hx : fr.ev x = some (.pointer (some b))) (hb : b = a.add off) (hp : Pt w a us) (hu : us[off]? = some u) (hdn : Nat.blt d n = true)
    (kk : LQ P ops (Below w.heap.size w) QQ n rest ((d, u) :: fr)) : LQ P ops (Below w.heap.size w) QQ n (⟨some d, .load t x, ty, pos, af, none⟩ :: rest) fr :=
  GLQ_loadPt hx hb hp hu (fun _ h hl => h.block _ hl) hdn kk
theorem RLQ_loadPt {t : TypeId} [hT : TOne P t] {x : Operand} {a b : Addr} {us : List Value} {off : Nat} {u : Value} (hx : fr.ev x = some (.pointer (some b))) (hb : b = a.add off) (hp : Pt w a us) (hu : us[off]? = some u) {row : Option Nat} (hne : some a.block ≠ row) (hdn : Nat.blt d n = true)
    (kk : LQ P ops (fun w' => w.grownBy w' row) QQ n rest ((d, u) :: fr)) : LQ P ops (fun w' => w.grownBy w' row) QQ n (⟨some d, .load t x, ty, pos, af, none⟩ :: rest) fr :=
  GLQ_loadPt hx hb hp hu (fun _ h hl => h.block _ hl hne) hdn kk
theorem L_loadPt0 {t : TypeId} [hT : TOne P t] {x : Operand} {a : Addr} {us : List Value} {u : Value} (hx : fr.ev x = some (.pointer (some a))) (hp : Pt w a us) (hu : us[0]? = some u) (hdn : Nat.blt d n = true)
    (kk : L P ops Q n rest ((d, u) :: fr) w) : L P ops Q n (⟨some d, .load t x, ty, pos, af, none⟩ :: rest) fr w :=
  L_do rfl rfl hdn (do_load hx (by have := hp 0 u hu; simpa [Addr.add] using this)) kk
theorem GLQ_loadPt0 {t : TypeId} [hT : TOne P t] {x : Operand} {a : Addr} {us : List Value} {u : Value} (hx : fr.ev x = some (.pointer (some a))) (hp : Pt w a us) (hu : us[0]? = some u) (hC : ∀ w', C w' → a.block < w.heap.size → w'.heap[a.block]? = w.heap[a.block]?) (hdn : Nat.blt d n = true)
    (kk : LQ P ops C QQ n rest ((d, u) :: fr)) : LQ P ops C QQ n (⟨some d, .load t x, ty, pos, af, none⟩ :: rest) fr :=
  LQ_do rfl rfl hdn (fun w' hw' => do_load hx (by have := (hp.keptC (hC w' hw')) 0 u hu; simpa [Addr.add] using this)) kk
theorem LQ_loadPt0 {t : TypeId} [hT : TOne P t] {x : Operand} {a : Addr} {us : List Value} {u : Value} (hx : fr.ev x = some (.pointer (some a))) (hp : Pt w a us) (hu : us[0]? = some u) (hdn : Nat.blt d n = true)
    (kk : LQ P ops (Below w.heap.size w) QQ n rest ((d, u) :: fr)) : LQ P ops (Below w.heap.size w) QQ n (⟨some d, .load t x, ty, pos, af, none⟩ :: rest) fr :=
  GLQ_loadPt0 hx hp hu (fun _ h hl => h.block _ hl) hdn kk
theorem RLQ_loadPt0 {t : TypeId} [hT : TOne P t] {x : Operand} {a : Addr} {us : List Value} {u : Value} (hx : fr.ev x = some (.pointer (some a))) (hp : Pt w a us) (hu : us[0]? = some u) {row : Option Nat} (hne : some a.block ≠ row) (hdn : Nat.blt d n = true)
    (kk : LQ P ops (fun w' => w.grownBy w' row) QQ n rest ((d, u) :: fr)) : LQ P ops (fun w' => w.grownBy w' row) QQ n (⟨some d, .load t x, ty, pos, af, none⟩ :: rest) fr :=
  GLQ_loadPt0 hx hp hu (fun _ h hl => h.block _ hl hne) hdn kk
theorem L_loadAgg {t : TypeId} {size : Nat} {z : Value} [hT : TStruct P t size z] {x : Operand} {a : Addr} {us : List Value} (hx : fr.ev x = some (.pointer (some a))) (hp : Pt w a us) (hl : us.length = size) (hdn : Nat.blt d n = true)
    (kk : L P ops Q n rest ((d, .agg us.toArray) :: fr) w) : L P ops Q n (⟨some d, .load t x, ty, pos, af, none⟩ :: rest) fr w :=
  L_do rfl rfl hdn (do_loadAgg hx hp hl) kk
theorem GLQ_loadAgg {t : TypeId} {size : Nat} {z : Value} [hT : TStruct P t size z] {x : Operand} {a : Addr} {us : List Value} (hx : fr.ev x = some (.pointer (some a))) (hp : Pt w a us) (hl : us.length = size) (hC : ∀ w', C w' → a.block < w.heap.size → w'.heap[a.block]? = w.heap[a.block]?) (hdn : Nat.blt d n = true)
    (kk : LQ P ops C QQ n rest ((d, .agg us.toArray) :: fr)) : LQ P ops C QQ n (⟨some d, .load t x, ty, pos, af, none⟩ :: rest) fr :=
  LQ_do rfl rfl hdn (fun w' hw' => do_loadAgg hx (hp.keptC (hC w' hw')) hl) kk
theorem LQ_loadAgg {t : TypeId} {size : Nat} {z : Value} [hT : TStruct P t size z] {x : Operand} {a : Addr} {us : List Value} (hx : fr.ev x = some (.pointer (some a))) (hp : Pt w a us) (hl : us.length = size) (hdn : Nat.blt d n = true)
    (kk : LQ P ops (Below w.heap.size w) QQ n rest ((d, .agg us.toArray) :: fr)) : LQ P ops (Below w.heap.size w) QQ n (⟨some d, .load t x, ty, pos, af, none⟩ :: rest) fr :=
  GLQ_loadAgg hx hp hl (fun _ h hl => h.block _ hl) hdn kk
theorem RLQ_loadAgg {t : TypeId} {size : Nat} {z : Value} [hT : TStruct P t size z] {x : Operand} {a : Addr} {us : List Value} (hx : fr.ev x = some (.pointer (some a))) (hp : Pt w a us) (hl : us.length = size) {row : Option Nat} (hne : some a.block ≠ row) (hdn : Nat.blt d n = true)
    (kk : LQ P ops (fun w' => w.grownBy w' row) QQ n rest ((d, .agg us.toArray) :: fr)) : LQ P ops (fun w' => w.grownBy w' row) QQ n (⟨some d, .load t x, ty, pos, af, none⟩ :: rest) fr :=
  GLQ_loadAgg hx hp hl (fun _ h hl => h.block _ hl hne) hdn kk

/-- A variable is made and filled at once. -/
theorem L_allocStore {e ty' : TypeId} {size : Nat} {z v : Value} [hZ : TZero P e z] [hT : TStruct P e size z] {x : Operand} {cs : List Value} {pos' : String} {af' : Array Edge} (hdn : Nat.blt d n = true)
    (hx : Fr.ev ((d, .pointer (some ⟨w.heap.size, 0, none⟩)) :: fr) x = some v) (hv : v = .agg cs.toArray) (hl : cs.length = size) (h1 : ∀ u ∈ cs, u.oneCell' = true) (hz : z.cells.size = size)
    (kk : ∀ w', w' = w.alloc (.cells cs.toArray e) → L P ops Q n rest ((d, .pointer (some ⟨w.heap.size, 0, none⟩)) :: fr) w') :
    L P ops Q n (⟨some d, .alloc e, ty, pos, af, none⟩ :: ⟨none, .store e (.tmp d) x, ty', pos', af', none⟩ :: rest) fr w := by
  refine L_alloc hdn ?_
  refine L_run_skip (w' := w.alloc (.cells cs.toArray e)) rfl rfl (fun ρ h => ?_) (kk _ rfl)
  have hd := h (.tmp d) (.pointer (some ⟨w.heap.size, 0, none⟩)) (by simp [Fr.ev, Fr.get])
  have hxx := h x v hx
  have hsz : ∀ w, (sizeOf e).run P w = .ok size w := fun w => by
    refine run_sizeOf' ?_
    have h0 := hT.info
    cases hi : P.info? e with
    | none => simp [hi] at h0
    | some i => simp [hi] at h0 ⊢; exact h0.2
  have hg : (w.alloc (.cells z.cells e)).heap[w.heap.size]? = some (.cells z.cells e (0, 0)) := heap_alloc_new w _
  have hst := run_storeCells_at P w.heap.size 0 e cs 0 z.cells (w.alloc (.cells z.cells e)) hg (by omega) h1
  have hrow : (w.alloc (.cells z.cells e)).setRow w.heap.size (z.cells.toList.take 0 ++ cs ++ z.cells.toList.drop (0 + cs.length)).toArray = w.alloc (.cells cs.toArray e) := by
    have : z.cells.toList.drop (0 + cs.length) = [] := List.drop_eq_nil_of_le (by simp; omega)
    rw [this, setRow_alloc_new]
    simp
  simp only [Nat.zero_add, Nat.add_zero, List.take_zero, List.nil_append] at hst
  subst hv
  unfold execOp Instr.storeAt storeVar
  simp only [hd, hxx]
  simp only [Nat.zero_add, Nat.add_zero, List.take_zero, List.nil_append] at hrow
  rw [hrow] at hst
  have hcs : (Value.agg cs.toArray).cells = cs.toArray := rfl
  simp [Instr.sureAddr, hsz, hl, hcs, hst]

end ops
end Go.Proofs.YtnemajefpgicgaaDoor
