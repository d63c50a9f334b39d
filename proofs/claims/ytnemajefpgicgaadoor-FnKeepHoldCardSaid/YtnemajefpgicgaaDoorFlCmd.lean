/-
  Equality of commands: a struct of a string and two structs of two numbers.
-/
import Derived.Test.YtnemajefpgicgaaDoorFlConv
namespace Go.Proofs.YtnemajefpgicgaaDoor
open Go Go.RowKit
set_option linter.unusedVariables false
set_option linter.unusedSimpArgs false

/-- The struct type of a command; p is the type of its two contents. -/
class TCmd (P : Program) (t : TypeId) (p : outParam TypeId) : Prop where
  und : P.underlying t = some (.struct (P.fieldsOf t))
  held : P.stoodInHeld t = false
  guard : P.eqGuardType P.depth t = false
  fields : ((P.fieldsOf t).toList.map fun f => (f.name == "_", f.offset, f.type)) = [(false, 0, (P.fieldsOf t).toList.head!.type), (false, 1, p), (false, 3, p)]
  str : P.underlying (P.fieldsOf t).toList.head!.type = some .string
  pair : TPair P p
  size : (P.info? p).map (·.size) = some 2

/-- The struct type of a node; p is the type of its content. -/
class TNode (P : Program) (t : TypeId) (p : outParam TypeId) : Prop where
  und : P.underlying t = some (.struct (P.fieldsOf t))
  held : P.stoodInHeld t = false
  guard : P.eqGuardType P.depth t = false
  fields : ((P.fieldsOf t).toList.map fun f => (f.name == "_", f.offset, f.type)) = [(false, 0, (P.fieldsOf t).toList.head!.type), (false, 1, p)]
  str : P.underlying (P.fieldsOf t).toList.head!.type = some .string
  pair : TPair P p
  size : (P.info? p).map (·.size) = some 2

section
variable {P : Program} {n : Nat} {fr : Fr} {w : World} {d : Nat} {ty : TypeId} {pos : String} {af : Array Edge}
theorem run_eqPairN (k : Nat) {t : TypeId} [hT : TPair P t] (a b a2 b2 : Int) (w : World) : (Op.equalIn (k + 2) t (.agg #[.int .i64 a, .int .i64 b]) (.agg #[.int .i64 a2, .int .i64 b2])).run P w = .ok (decide (a = a2 ∧ b = b2)) w := by
  rw [run_equalIn_struct w (k + 1) t _ _ hT.und hT.held]
  have hf := hT.fields
  generalize (P.fieldsOf t).toList = fs at hf
  have hl : fs.length = 2 := by have := congrArg List.length hf; simpa using this
  obtain ⟨f1, f2, rfl⟩ : ∃ a b, fs = [a, b] := by
    cases fs with
    | nil => simp at hl
    | cons a r =>
      cases r with
      | nil => simp at hl
      | cons b r =>
        cases r with
        | nil => exact ⟨a, b, rfl⟩
        | cons _ _ => simp at hl
  simp only [List.map_cons, List.map_nil, List.cons.injEq, Prod.mk.injEq, and_true] at hf
  obtain ⟨⟨n1, o1, u1⟩, n2, o2, u2⟩ := hf
  have m1 : ¬ f1.name = "_" := by simpa using n1
  have m2 : ¬ f2.name = "_" := by simpa using n2
  have p1 : ∀ x y : Int, (part f1.type #[.int .i64 x, .int .i64 y] f1.offset).run P w = .ok (.int .i64 x) w := fun x y => run_part_int u1 (by rw [o1]; rfl)
  have p2 : ∀ x y : Int, (part f2.type #[.int .i64 x, .int .i64 y] f2.offset).run P w = .ok (.int .i64 y) w := fun x y => run_part_int u2 (by rw [o2]; rfl)
  have e1 : ∀ x y : Int, (Op.equalIn (k + 1) f1.type (.int .i64 x) (.int .i64 y)).run P w = .ok (x == y) w := fun x y => run_equalIn_int w k f1.type .i64 .i64 x y u1
  have e2 : ∀ x y : Int, (Op.equalIn (k + 1) f2.type (.int .i64 x) (.int .i64 y)).run P w = .ok (x == y) w := fun x y => run_equalIn_int w k f2.type .i64 .i64 x y u2
  by_cases ha : a = a2
  · by_cases hb : b = b2
    · simp [Op.eqFields, Sem.run_bind, m1, m2, p1, p2, e1, e2, ha, hb]
    · have hb' : (b == b2) = false := beq_eq_false_iff_ne.2 hb
      simp [Op.eqFields, Sem.run_bind, m1, m2, p1, p2, e1, e2, ha, hb, hb']
  · have ha' : (a == a2) = false := beq_eq_false_iff_ne.2 ha
    simp [Op.eqFields, Sem.run_bind, m1, m2, p1, p2, e1, e2, ha, ha']
theorem run_part_str {t : TypeId} {cs : Array Value} {off : Nat} {v : Value} (ht : P.underlying t = some .string) (hv : cs[off]? = some v) : (part t cs off).run P w = .ok v w := by
  have h1 : (isAgg t).run P w = .ok false w := by simp [isAgg, run_underlying ht]
  unfold part
  rw [Sem.run_bind, h1]
  simp [hv]
theorem run_part_agg {t : TypeId} {cs : Array Value} {off s : Nat} {fs : Array Field} (ht : P.underlying t = some (.struct fs)) (hs : (P.info? t).map (·.size) = some s) : (part t cs off).run P w = .ok (.agg (cs.extract off (off + s))) w := by
  have h1 : (isAgg t).run P w = .ok true w := run_isAgg_struct ht
  have h2 : (sizeOf t).run P w = .ok s w := run_sizeOf' hs
  unfold part
  rw [Sem.run_bind, h1]
  simp [h2]
/-- The cells of a command. -/
abbrev cmCells (s : List UInt8) (a b a' b' : Int) : Array Value := #[.string (mk s), .int .i64 a, .int .i64 b, .int .i64 a', .int .i64 b']
theorem run_eqCmd {t p : TypeId} [hT : TCmd P t p] (s s2 : List UInt8) (a b a' b' c e c' e' : Int) (w : World) :
    (Op.equalIn 10000 t (.agg (cmCells s a b a' b')) (.agg (cmCells s2 c e c' e'))).run P w = .ok (decide (s = s2 ∧ (a = c ∧ b = e) ∧ a' = c' ∧ b' = e')) w := by
  rw [run_equalIn_struct w 9999 t _ _ hT.und hT.held]
  have hf := hT.fields
  have hstr := hT.str
  generalize hL : (P.fieldsOf t).toList = fs at hf hstr
  have hl : fs.length = 3 := by have := congrArg List.length hf; simpa using this
  obtain ⟨f1, f2, f3, rfl⟩ : ∃ a b c, fs = [a, b, c] := by
    match fs, hl with
    | [a, b, c], _ => exact ⟨a, b, c, rfl⟩
  simp only [List.map_cons, List.map_nil, List.cons.injEq, Prod.mk.injEq, and_true] at hf
  obtain ⟨⟨n1, o1, u1⟩, ⟨n2, o2, u2⟩, n3, o3, u3⟩ := hf
  simp only [List.head!] at hstr
  have m1 : ¬ f1.name = "_" := by simpa using n1
  have m2 : ¬ f2.name = "_" := by simpa using n2
  have m3 : ¬ f3.name = "_" := by simpa using n3
  have hp := hT.pair
  have q1 : ∀ s a b c e, (part f1.type (cmCells s a b c e) f1.offset).run P w = .ok (.string (mk s)) w := fun s a b c e => run_part_str hstr (by rw [o1]; rfl)
  have q2 : ∀ s a b c e, (part f2.type (cmCells s a b c e) f2.offset).run P w = .ok (.agg #[.int .i64 a, .int .i64 b]) w := fun s a b c e => by
    rw [u2, run_part_agg hp.und hT.size, o2]; rfl
  have q3 : ∀ s a b c e, (part f3.type (cmCells s a b c e) f3.offset).run P w = .ok (.agg #[.int .i64 c, .int .i64 e]) w := fun s a b c e => by
    rw [u3, run_part_agg hp.und hT.size, o3]; rfl
  have e1 : ∀ x y : List UInt8, (Op.equalIn 9999 f1.type (.string (mk x)) (.string (mk y))).run P w = .ok (decide (x = y)) w := fun x y => by
    rw [run_equalIn_string w 9998 f1.type _ _ hstr, mk_toList, mk_toList]; congr 1; rw [Bool.eq_iff_iff]; simp
  have e2 : ∀ a b c e : Int, (Op.equalIn 9999 f2.type (.agg #[.int .i64 a, .int .i64 b]) (.agg #[.int .i64 c, .int .i64 e])).run P w = .ok (decide (a = c ∧ b = e)) w := fun a b c e => by rw [u2]; exact run_eqPairN 9997 a b c e w
  have e3 : ∀ a b c e : Int, (Op.equalIn 9999 f3.type (.agg #[.int .i64 a, .int .i64 b]) (.agg #[.int .i64 c, .int .i64 e])).run P w = .ok (decide (a = c ∧ b = e)) w := fun a b c e => by rw [u3]; exact run_eqPairN 9997 a b c e w
  by_cases h1 : s = s2
  · by_cases h2 : a = c ∧ b = e
    · by_cases h3 : a' = c' ∧ b' = e'
      · simp [Op.eqFields, Sem.run_bind, m1, m2, m3, q1, q2, q3, e1, e2, e3, h1, h2, h3]
      · simp [Op.eqFields, Sem.run_bind, m1, m2, m3, q1, q2, q3, e1, e2, e3, h1, h2, h3]
    · simp [Op.eqFields, Sem.run_bind, m1, m2, m3, q1, q2, q3, e1, e2, e3, h1, h2]
  · simp [Op.eqFields, Sem.run_bind, m1, m2, m3, q1, q2, q3, e1, e2, e3, h1]
theorem do_neCmd {t t' p : TypeId} [hT : TCmd P t p] {x y : Operand} {s s2 : List UInt8} {a b a' b' c e c' e' : Int} (hx : fr.ev x = some (.agg (cmCells s a b a' b'))) (hy : fr.ev y = some (.agg (cmCells s2 c e c' e'))) :
    Does P ⟨some d, .binOp .neq t x y t', ty, pos, af, none⟩ fr w (.bool (!decide (s = s2 ∧ (a = c ∧ b = e) ∧ a' = c' ∧ b' = e'))) := ⟨fun ρ h => by
  unfold execOp
  simp only [h x _ hx, h y _ hy]
  simp [Sem.run_bind, run_eqGuard_agg w .neq t x y _ _ hT.guard, run_neq_struct w t, run_eqCmd, Result.andThen]⟩
theorem do_eqCmd {t t' p : TypeId} [hT : TCmd P t p] {x y : Operand} {s s2 : List UInt8} {a b a' b' c e c' e' : Int} (hx : fr.ev x = some (.agg (cmCells s a b a' b'))) (hy : fr.ev y = some (.agg (cmCells s2 c e c' e'))) :
    Does P ⟨some d, .binOp .eql t x y t', ty, pos, af, none⟩ fr w (.bool (decide (s = s2 ∧ (a = c ∧ b = e) ∧ a' = c' ∧ b' = e'))) := ⟨fun ρ h => by
  unfold execOp
  simp only [h x _ hx, h y _ hy]
  simp [Sem.run_bind, run_eqGuard_agg w .eql t x y _ _ hT.guard, run_eql_struct w t, run_eqCmd, Result.andThen]⟩

/-- The cells of a node. -/
abbrev ndCells (s : List UInt8) (a b : Int) : Array Value := #[.string (mk s), .int .i64 a, .int .i64 b]
theorem run_eqNd {t p : TypeId} [hT : TNode P t p] (s s2 : List UInt8) (a b c e : Int) (w : World) :
    (Op.equalIn 10000 t (.agg (ndCells s a b)) (.agg (ndCells s2 c e))).run P w = .ok (decide (s = s2 ∧ (a = c ∧ b = e))) w := by
  rw [run_equalIn_struct w 9999 t _ _ hT.und hT.held]
  have hf := hT.fields
  have hstr := hT.str
  generalize hL : (P.fieldsOf t).toList = fs at hf hstr
  have hl : fs.length = 2 := by have := congrArg List.length hf; simpa using this
  obtain ⟨f1, f2, rfl⟩ : ∃ a b, fs = [a, b] := by
    match fs, hl with
    | [a, b], _ => exact ⟨a, b, rfl⟩
  simp only [List.map_cons, List.map_nil, List.cons.injEq, Prod.mk.injEq, and_true] at hf
  obtain ⟨⟨n1, o1, u1⟩, n2, o2, u2⟩ := hf
  simp only [List.head!] at hstr
  have m1 : ¬ f1.name = "_" := by simpa using n1
  have m2 : ¬ f2.name = "_" := by simpa using n2
  have hp := hT.pair
  have q1 : ∀ s a b, (part f1.type (ndCells s a b) f1.offset).run P w = .ok (.string (mk s)) w := fun s a b => run_part_str hstr (by rw [o1]; rfl)
  have q2 : ∀ s a b, (part f2.type (ndCells s a b) f2.offset).run P w = .ok (.agg #[.int .i64 a, .int .i64 b]) w := fun s a b => by
    rw [u2, run_part_agg hp.und hT.size, o2]; rfl
  have e1 : ∀ x y : List UInt8, (Op.equalIn 9999 f1.type (.string (mk x)) (.string (mk y))).run P w = .ok (decide (x = y)) w := fun x y => by
    rw [run_equalIn_string w 9998 f1.type _ _ hstr, mk_toList, mk_toList]; congr 1; rw [Bool.eq_iff_iff]; simp
  have e2 : ∀ a b c e : Int, (Op.equalIn 9999 f2.type (.agg #[.int .i64 a, .int .i64 b]) (.agg #[.int .i64 c, .int .i64 e])).run P w = .ok (decide (a = c ∧ b = e)) w := fun a b c e => by rw [u2]; exact run_eqPairN 9997 a b c e w
  by_cases h1 : s = s2
  · by_cases h2 : a = c ∧ b = e
    · simp [Op.eqFields, Sem.run_bind, m1, m2, q1, q2, e1, e2, h1, h2]
    · simp [Op.eqFields, Sem.run_bind, m1, m2, q1, q2, e1, e2, h1, h2]
  · simp [Op.eqFields, Sem.run_bind, m1, m2, q1, q2, e1, e2, h1]
theorem do_neNd {t t' p : TypeId} [hT : TNode P t p] {x y : Operand} {s s2 : List UInt8} {a b c e : Int} (hx : fr.ev x = some (.agg (ndCells s a b))) (hy : fr.ev y = some (.agg (ndCells s2 c e))) :
    Does P ⟨some d, .binOp .neq t x y t', ty, pos, af, none⟩ fr w (.bool (!decide (s = s2 ∧ (a = c ∧ b = e)))) := ⟨fun ρ h => by
  unfold execOp
  simp only [h x _ hx, h y _ hy]
  simp [Sem.run_bind, run_eqGuard_agg w .neq t x y _ _ hT.guard, run_neq_struct w t, run_eqNd, Result.andThen]⟩
end
end Go.Proofs.YtnemajefpgicgaaDoor
