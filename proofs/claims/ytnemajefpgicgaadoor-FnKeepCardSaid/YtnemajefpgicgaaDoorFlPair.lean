/-
  Values of structs of two numbers: equality, fields.
-/
import Derived.Test.YtnemajefpgicgaaDoorFlStr
import Derived.Laws.StructEq
namespace Go.Proofs.YtnemajefpgicgaaDoor
open Go Go.RowKit
set_option linter.unusedVariables false
set_option linter.unusedSimpArgs false

/-- A struct type of two fields of type int. -/
class TPair (P : Program) (t : TypeId) : Prop where
  und : P.underlying t = some (.struct (P.fieldsOf t))
  held : P.stoodInHeld t = false
  guard : P.eqGuardType P.depth t = false
  fields : ((P.fieldsOf t).toList.map fun f => (f.name == "_", f.offset, P.underlying f.type)) = [(false, 0, some (.int .i64)), (false, 1, some (.int .i64))]

section
variable {P : Program} {ops : Array Oper} {Q : Exit → Act → World → Prop} {n : Nat} {fr : Fr} {w w0 : World} {rest : List Oper}
variable {d : Nat} {ty : TypeId} {pos : String} {af : Array Edge}

theorem run_part_int {t : TypeId} {cs : Array Value} {off : Nat} {v : Value} {k : IntKind} (ht : P.underlying t = some (.int k)) (hv : cs[off]? = some v) : (part t cs off).run P w = .ok v w := by
  have h1 : (isAgg t).run P w = .ok false w := by simp [isAgg, run_underlying ht]
  unfold part
  rw [Sem.run_bind, h1]
  simp [hv]
theorem run_eqPair {t : TypeId} [hT : TPair P t] (a b a2 b2 : Int) (w : World) : (Op.equalIn 10000 t (.agg #[.int .i64 a, .int .i64 b]) (.agg #[.int .i64 a2, .int .i64 b2])).run P w = .ok (decide (a = a2 ∧ b = b2)) w := by
  rw [run_equalIn_struct w 9999 t _ _ hT.und hT.held]
  have hf := hT.fields
  generalize (P.fieldsOf t).toList = fs at hf
  have hl : fs.length = 2 := by have := congrArg List.length hf; simpa using this
  obtain ⟨f1, f2, rfl⟩ : ∃ a b, fs = [a, b] := by
    cases fs with
    | nil => simp at hl
    | cons a r =>
      cases r with
      | nil => simp at hl
      | cons b r =>
        cases r with
        | nil => exact ⟨a, b, rfl⟩
        | cons _ _ => simp at hl
  simp only [List.map_cons, List.map_nil, List.cons.injEq, Prod.mk.injEq, and_true] at hf
  obtain ⟨⟨n1, o1, u1⟩, n2, o2, u2⟩ := hf
  have m1 : ¬ f1.name = "_" := by simpa using n1
  have m2 : ¬ f2.name = "_" := by simpa using n2
  have p1 : ∀ x y : Int, (part f1.type #[.int .i64 x, .int .i64 y] f1.offset).run P w = .ok (.int .i64 x) w := fun x y => run_part_int u1 (by rw [o1]; rfl)
  have p2 : ∀ x y : Int, (part f2.type #[.int .i64 x, .int .i64 y] f2.offset).run P w = .ok (.int .i64 y) w := fun x y => run_part_int u2 (by rw [o2]; rfl)
  have e1 : ∀ x y : Int, (Op.equalIn 9999 f1.type (.int .i64 x) (.int .i64 y)).run P w = .ok (x == y) w := fun x y => run_equalIn_int w 9998 f1.type .i64 .i64 x y u1
  have e2 : ∀ x y : Int, (Op.equalIn 9999 f2.type (.int .i64 x) (.int .i64 y)).run P w = .ok (x == y) w := fun x y => run_equalIn_int w 9998 f2.type .i64 .i64 x y u2
  by_cases ha : a = a2
  · by_cases hb : b = b2
    · simp [Op.eqFields, Sem.run_bind, m1, m2, p1, p2, e1, e2, ha, hb]
    · have hb' : (b == b2) = false := beq_eq_false_iff_ne.2 hb
      simp [Op.eqFields, Sem.run_bind, m1, m2, p1, p2, e1, e2, ha, hb, hb']
  · have ha' : (a == a2) = false := beq_eq_false_iff_ne.2 ha
    simp [Op.eqFields, Sem.run_bind, m1, m2, p1, p2, e1, e2, ha, ha']
theorem do_nePair {t t' : TypeId} [hT : TPair P t] {x y : Operand} {a b a2 b2 : Int} (hx : fr.ev x = some (.agg #[.int .i64 a, .int .i64 b])) (hy : fr.ev y = some (.agg #[.int .i64 a2, .int .i64 b2])) :
    Does P ⟨some d, .binOp .neq t x y t', ty, pos, af, none⟩ fr w (.bool (!decide (a = a2 ∧ b = b2))) := ⟨fun ρ h => by
  unfold execOp
  simp only [h x _ hx, h y _ hy]
  simp [Sem.run_bind, run_eqGuard_agg w .neq t x y _ _ hT.guard, run_neq_struct w t, run_eqPair, Result.andThen]⟩
theorem do_eqPair {t t' : TypeId} [hT : TPair P t] {x y : Operand} {a b a2 b2 : Int} (hx : fr.ev x = some (.agg #[.int .i64 a, .int .i64 b])) (hy : fr.ev y = some (.agg #[.int .i64 a2, .int .i64 b2])) :
    Does P ⟨some d, .binOp .eql t x y t', ty, pos, af, none⟩ fr w (.bool (decide (a = a2 ∧ b = b2))) := ⟨fun ρ h => by
  unfold execOp
  simp only [h x _ hx, h y _ hy]
  simp [Sem.run_bind, run_eqGuard_agg w .eql t x y _ _ hT.guard, run_eql_struct w t, run_eqPair, Result.andThen]⟩

variable {QQ : Act → Prop} {C : World → Prop}
theorem L_loadPt2 {t : TypeId} [hT : TOne P t] {x : Operand} {a b : Addr} {us : List Value} {o1 o2 : Nat} {u : Value} (hx : fr.ev x = some (.pointer (some b))) (hb : b = (a.add o1).add o2) (hp : Pt w a us) (hu : us[o1 + o2]? = some u) (hdn : Nat.blt d n = true)
    (kk : L P ops Q n rest ((d, u) :: fr) w) : L P ops Q n (⟨some d, .load t x, ty, pos, af, none⟩ :: rest) fr w :=
  L_loadPt hx (by rw [hb, Addr.add_add']) hp hu hdn kk
theorem LQ_loadPt2 {t : TypeId} [hT : TOne P t] {x : Operand} {a b : Addr} {us : List Value} {o1 o2 : Nat} {u : Value} (hx : fr.ev x = some (.pointer (some b))) (hb : b = (a.add o1).add o2) (hp : Pt w a us) (hu : us[o1 + o2]? = some u) (hdn : Nat.blt d n = true)
    (kk : LQ P ops (Below w.heap.size w) QQ n rest ((d, u) :: fr)) : LQ P ops (Below w.heap.size w) QQ n (⟨some d, .load t x, ty, pos, af, none⟩ :: rest) fr :=
  LQ_loadPt hx (by rw [hb, Addr.add_add']) hp hu hdn kk
theorem RLQ_loadPt2 {t : TypeId} [hT : TOne P t] {x : Operand} {a b : Addr} {us : List Value} {o1 o2 : Nat} {u : Value} (hx : fr.ev x = some (.pointer (some b))) (hb : b = (a.add o1).add o2) (hp : Pt w a us) (hu : us[o1 + o2]? = some u) {row : Option Nat} (hne : some a.block ≠ row) (hdn : Nat.blt d n = true)
    (kk : LQ P ops (fun w' => w.grownBy w' row) QQ n rest ((d, u) :: fr)) : LQ P ops (fun w' => w.grownBy w' row) QQ n (⟨some d, .load t x, ty, pos, af, none⟩ :: rest) fr :=
  RLQ_loadPt hx (by rw [hb, Addr.add_add']) hp hu hne hdn kk
/-- A part of the cells at an address. -/
theorem Pt.sub {w : World} {a : Addr} {us : List Value} (h : Pt w a us) (off k : Nat) : Pt w (a.add off) ((us.drop off).take k) := (h.drop off).take k
theorem L_loadSub {t : TypeId} {size : Nat} {z : Value} [hT : TStruct P t size z] {x : Operand} {a b : Addr} {us : List Value} {off : Nat} (hx : fr.ev x = some (.pointer (some b))) (hb : b = a.add off) (hp : Pt w a us) (hl : Nat.ble (off + size) us.length = true) (hdn : Nat.blt d n = true)
    (kk : L P ops Q n rest ((d, .agg ((us.drop off).take size).toArray) :: fr) w) : L P ops Q n (⟨some d, .load t x, ty, pos, af, none⟩ :: rest) fr w := by
  subst hb
  have := Nat.le_of_ble_eq_true hl
  exact L_do rfl rfl hdn (do_loadAgg hx (hp.sub off size) (by simp; omega)) kk
theorem GLQ_loadSub {t : TypeId} {size : Nat} {z : Value} [hT : TStruct P t size z] {x : Operand} {a b : Addr} {us : List Value} {off : Nat} (hx : fr.ev x = some (.pointer (some b))) (hb : b = a.add off) (hp : Pt w a us) (hl : Nat.ble (off + size) us.length = true) (hC : ∀ w', C w' → a.block < w.heap.size → w'.heap[a.block]? = w.heap[a.block]?) (hdn : Nat.blt d n = true)
    (kk : LQ P ops C QQ n rest ((d, .agg ((us.drop off).take size).toArray) :: fr)) : LQ P ops C QQ n (⟨some d, .load t x, ty, pos, af, none⟩ :: rest) fr := by
  subst hb
  have := Nat.le_of_ble_eq_true hl
  exact LQ_do rfl rfl hdn (fun w' hw' => do_loadAgg hx ((hp.keptC (hC w' hw')).sub off size) (by simp; omega)) kk
theorem LQ_loadSub {t : TypeId} {size : Nat} {z : Value} [hT : TStruct P t size z] {x : Operand} {a b : Addr} {us : List Value} {off : Nat} (hx : fr.ev x = some (.pointer (some b))) (hb : b = a.add off) (hp : Pt w a us) (hl : Nat.ble (off + size) us.length = true) (hdn : Nat.blt d n = true)
    (kk : LQ P ops (Below w.heap.size w) QQ n rest ((d, .agg ((us.drop off).take size).toArray) :: fr)) : LQ P ops (Below w.heap.size w) QQ n (⟨some d, .load t x, ty, pos, af, none⟩ :: rest) fr :=
  GLQ_loadSub hx hb hp hl (fun _ h hlt => h.block _ hlt) hdn kk
theorem RLQ_loadSub {t : TypeId} {size : Nat} {z : Value} [hT : TStruct P t size z] {x : Operand} {a b : Addr} {us : List Value} {off : Nat} (hx : fr.ev x = some (.pointer (some b))) (hb : b = a.add off) (hp : Pt w a us) (hl : Nat.ble (off + size) us.length = true) {row : Option Nat} (hne : some a.block ≠ row) (hdn : Nat.blt d n = true)
    (kk : LQ P ops (fun w' => w.grownBy w' row) QQ n rest ((d, .agg ((us.drop off).take size).toArray) :: fr)) : LQ P ops (fun w' => w.grownBy w' row) QQ n (⟨some d, .load t x, ty, pos, af, none⟩ :: rest) fr :=
  GLQ_loadSub hx hb hp hl (fun _ h hlt => h.block _ hlt hne) hdn kk
end
end Go.Proofs.YtnemajefpgicgaaDoor
