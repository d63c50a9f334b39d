/-
  One lemma an operation, over frames as lists of known slots.
-/
import Derived.Test.YtnemajefpgicgaaDoorFl
namespace Go.Proofs.YtnemajefpgicgaaDoor
open Go Go.RowKit

section ops
variable {P : Program} {ops : Array Oper} {Q : Exit → Act → World → Prop} {n : Nat} {fr : Fr} {w : World} {rest : List Oper}
variable {d : Nat} {ty : TypeId} {pos : String} {af : Array Edge}

/-- What an operation does is told by the slots that it names. -/
theorem L_run {o : Oper} (hg : o.guard = none) (hd : o.dst = some d) (hdn : Nat.blt d n = true) {v : Value} {w' : World}
    (hrun : ∀ ρ : Operand → Value, (∀ x u, fr.ev x = some u → ρ x = u) → (execOp ρ o).run P w = .ok (.value v) w')
    (k : L P ops Q n rest ((d, v) :: fr) w') : L P ops Q n (o :: rest) fr w := by
  refine ⟨fun a s => ?_⟩
  unfold wpList
  rw [if_pos (by simp [Region.wanted, hg])]
  refine .inl ?_
  unfold Oper.wp
  rw [hrun a.eval (fun x u e => s.ev e)]
  simp only [Oper.upon, hd]
  exact k.run _ (s.put hdn)

/-- Operation o, its operands read off the slots, hands back v and leaves the world. -/
structure Does (P : Program) (o : Oper) (fr : Fr) (w : World) (v : Value) : Prop where
  run : ∀ ρ : Operand → Value, (∀ x u, fr.ev x = some u → ρ x = u) → (execOp ρ o).run P w = .ok (.value v) w

theorem L_do {o : Oper} {v : Value} (hg : o.guard = none) (hd : o.dst = some d) (hdn : Nat.blt d n = true) (h : Does P o fr w v) (k : L P ops Q n rest ((d, v) :: fr) w) : L P ops Q n (o :: rest) fr w :=
  L_run hg hd hdn h.run k

theorem L_run_skip {o : Oper} (hg : o.guard = none) (hd : o.dst = none) {w' : World}
    (hrun : ∀ ρ : Operand → Value, (∀ x u, fr.ev x = some u → ρ x = u) → (execOp ρ o).run P w = .ok .skip w')
    (k : L P ops Q n rest fr w') : L P ops Q n (o :: rest) fr w := by
  refine ⟨fun a s => ?_⟩
  unfold wpList
  rw [if_pos (by simp [Region.wanted, hg])]
  refine .inl ?_
  unfold Oper.wp
  rw [hrun a.eval (fun x u e => s.ev e)]
  simp only [Oper.upon, hd]
  exact k.run _ s

/-! ### Guards -/
theorem yielded_of {a : Act} {j t : Nat} {b : Bool} (s : Sim fr n a) (ht : (ops[j]?).bind (·.dst) = some t) (hb : fr.get t = some (.bool b)) : yielded ops a.tmps j = some b := by
  have := s.slot t _ hb
  simp [yielded, ht, this]

theorem L_guard_yes {dst : Option Nat} {op : Op} {j t : Nat} {b : Bool} (ht : (ops[j]?).bind (·.dst) = some t) (hb : fr.get t = some (.bool b))
    (k : L P ops Q n (⟨dst, op, ty, pos, af, none⟩ :: rest) fr w) : L P ops Q n (⟨dst, op, ty, pos, af, some (j, b)⟩ :: rest) fr w := by
  refine ⟨fun a s => ?_⟩
  have h := k.run a s
  unfold wpList at h ⊢
  rw [if_pos (by simp [Region.wanted])] at h
  rw [if_pos (by simp [Region.wanted, yielded_of s ht hb])]
  exact h

theorem L_guard_no {op : Op} {j t : Nat} {b c : Bool} (ht : (ops[j]?).bind (·.dst) = some t) (hb : fr.get t = some (.bool b)) (hc : (b == c) = false) (hdn : Nat.blt d n = true)
    (k : L P ops Q n rest ((d, undef) :: fr) w) : L P ops Q n (⟨some d, op, ty, pos, af, some (j, c)⟩ :: rest) fr w := by
  refine ⟨fun a s => ?_⟩
  unfold wpList
  have hne : ¬ (b = c) := by simpa using hc
  rw [if_neg (by simp [Region.wanted, yielded_of s ht hb, hne])]
  exact k.run _ (s.put hdn)

theorem L_guard_no' {op : Op} {j t : Nat} {b c : Bool} (ht : (ops[j]?).bind (·.dst) = some t) (hb : fr.get t = some (.bool b)) (hc : (b == c) = false)
    (k : L P ops Q n rest fr w) : L P ops Q n (⟨none, op, ty, pos, af, some (j, c)⟩ :: rest) fr w := by
  refine ⟨fun a s => ?_⟩
  unfold wpList
  have hne : ¬ (b = c) := by simpa using hc
  rw [if_neg (by simp [Region.wanted, yielded_of s ht hb, hne])]
  exact k.run _ s

/-- A guard that is not decided parts the way in two. -/
theorem L_guard_split {dst : Option Nat} {op : Op} {j t : Nat} {c b : Bool} (_ : (ops[j]?).bind (·.dst) = some t) (hb : fr.get t = some (.bool b))
    (h1 : b = true → L P ops Q n (⟨dst, op, ty, pos, af, some (j, c)⟩ :: rest) ((t, .bool true) :: fr) w)
    (h2 : b = false → L P ops Q n (⟨dst, op, ty, pos, af, some (j, c)⟩ :: rest) ((t, .bool false) :: fr) w) :
    L P ops Q n (⟨dst, op, ty, pos, af, some (j, c)⟩ :: rest) fr w := by
  refine ⟨fun a s => ?_⟩
  have sub : ∀ v, Value.bool b = v → Sim ((t, v) :: fr) n a := fun v e => s.of_slots (get_cons_slots (by rw [hb, e]) (fun _ _ h => h))
  cases b with
  | true => exact (h1 rfl).run a (sub _ rfl)
  | false => exact (h2 rfl).run a (sub _ rfl)

/-- The guard itself was not carried out. -/
theorem L_guard_undef {op : Op} {j t : Nat} {c : Bool} (ht : (ops[j]?).bind (·.dst) = some t) (hb : fr.get t = some undef) (hdn : Nat.blt d n = true)
    (k : L P ops Q n rest ((d, undef) :: fr) w) : L P ops Q n (⟨some d, op, ty, pos, af, some (j, c)⟩ :: rest) fr w := by
  refine ⟨fun a s => ?_⟩
  unfold wpList
  have := s.slot t _ hb
  rw [if_neg (by simp [Region.wanted, yielded, ht, this, undef])]
  exact k.run _ (s.put hdn)

/-- A guard over a decided proposition. -/
theorem L_guard_dec {dst : Option Nat} {op : Op} {j t : Nat} {c : Bool} {p : Prop} [Decidable p] (ht : (ops[j]?).bind (·.dst) = some t) (hb : fr.get t = some (.bool (decide p)))
    (h1 : p → L P ops Q n (⟨dst, op, ty, pos, af, some (j, c)⟩ :: rest) ((t, .bool true) :: fr) w)
    (h2 : ¬ p → L P ops Q n (⟨dst, op, ty, pos, af, some (j, c)⟩ :: rest) ((t, .bool false) :: fr) w) :
    L P ops Q n (⟨dst, op, ty, pos, af, some (j, c)⟩ :: rest) fr w :=
  L_guard_split ht hb (fun e => h1 (of_decide_eq_true e)) (fun e => h2 (of_decide_eq_false e))
theorem W_cond_dec {c : Operand} {x y : Code} {p : Prop} [Decidable p] (hc : fr.ev c = some (.bool (decide p))) (ht : p → W P x Q n fr w) (hf : ¬ p → W P y Q n fr w) : W P (.cond c x y) Q n fr w :=
  W_cond hc (fun e => ht (of_decide_eq_true e)) (fun e => hf (of_decide_eq_false e))
theorem W_cond_split {c : Operand} {x y : Code} {b : Bool} (hc : fr.ev c = some (.bool b)) (ht : b = true → W P x Q n fr w) (hf : b = false → W P y Q n fr w) : W P (.cond c x y) Q n fr w := W_cond hc ht hf

/-! ### Regions that draw their order and only read (but for memory that their calls make) -/
structure LQ (P : Program) (ops : Array Oper) (C : World → Prop) (Q : Act → Prop) (n : Nat) (l : List Oper) (fr : Fr) : Prop where
  run : ∀ a, Sim fr n a → wpQuiet P ops C Q l a

theorem W_region_quiet {id : Nat} {l : List Oper} (C : World → Prop) (hm : P.follows .mixedOrders = true) (hB : Region.lexB .any l.toArray = true) (hC : C { w with drawn := w.drawn + 1 })
    (h : LQ P l.toArray C (fun a => ∀ w', C w' → Q .normal a w') n l fr) : W P (.region id l.toArray true) Q n fr w := ⟨fun a s =>
  wp_region_quiet hm hB hC (by simpa using h.run a s)⟩

variable {C : World → Prop} {QQ : Act → Prop}
theorem LQ_nil (h : ∀ w', C w' → At Q .normal n fr w') : LQ P ops C (fun a => ∀ w', C w' → Q .normal a w') n [] fr := ⟨fun a s => wpQuiet_nil (fun w' hw' => (h w' hw').run a s)⟩

theorem LQ_quiet {o : Oper} (hg : o.guard = none) (hd : o.dst = some d) (hdn : Nat.blt d n = true) {v : Value}
    (h : ∀ a, Sim fr n a → ∀ w', C w' → o.quietAt P a C w' v) (k : LQ P ops C QQ n rest ((d, v) :: fr)) : LQ P ops C QQ n (o :: rest) fr := by
  refine ⟨fun a s => ?_⟩
  unfold wpQuiet
  rw [if_pos (by simp [Region.wanted, hg])]
  exact ⟨v, h a s, by rw [hd]; exact k.run _ (s.put hdn)⟩

theorem LQ_do {o : Oper} (hg : o.guard = none) (hd : o.dst = some d) (hdn : Nat.blt d n = true) {v : Value}
    (h : ∀ w', C w' → Does P o fr w' v) (k : LQ P ops C QQ n rest ((d, v) :: fr)) : LQ P ops C QQ n (o :: rest) fr :=
  LQ_quiet hg hd hdn (fun a s w' hw' => by
    unfold Oper.quietAt
    rw [(h w' hw').run a.eval (fun x u e => s.ev e)]
    exact ⟨rfl, rfl⟩) k

theorem LQ_guard_yes {dst : Option Nat} {op : Op} {j t : Nat} {b : Bool} (ht : (ops[j]?).bind (·.dst) = some t) (hb : fr.get t = some (.bool b))
    (k : LQ P ops C QQ n (⟨dst, op, ty, pos, af, none⟩ :: rest) fr) : LQ P ops C QQ n (⟨dst, op, ty, pos, af, some (j, b)⟩ :: rest) fr := by
  refine ⟨fun a s => ?_⟩
  have h := k.run a s
  unfold wpQuiet at h ⊢
  rw [if_pos (by simp [Region.wanted])] at h
  rw [if_pos (by simp [Region.wanted, yielded_of s ht hb])]
  exact h

theorem LQ_guard_no {op : Op} {j t : Nat} {b c : Bool} (ht : (ops[j]?).bind (·.dst) = some t) (hb : fr.get t = some (.bool b)) (hc : (b == c) = false) (hdn : Nat.blt d n = true)
    (k : LQ P ops C QQ n rest ((d, undef) :: fr)) : LQ P ops C QQ n (⟨some d, op, ty, pos, af, some (j, c)⟩ :: rest) fr := by
  refine ⟨fun a s => ?_⟩
  unfold wpQuiet
  have hne : ¬ (b = c) := by simpa using hc
  rw [if_neg (by simp [Region.wanted, yielded_of s ht hb, hne])]
  exact k.run _ (s.put hdn)

theorem LQ_guard_split {dst : Option Nat} {op : Op} {j t : Nat} {c b : Bool} (_ : (ops[j]?).bind (·.dst) = some t) (hb : fr.get t = some (.bool b))
    (h1 : b = true → LQ P ops C QQ n (⟨dst, op, ty, pos, af, some (j, c)⟩ :: rest) ((t, .bool true) :: fr))
    (h2 : b = false → LQ P ops C QQ n (⟨dst, op, ty, pos, af, some (j, c)⟩ :: rest) ((t, .bool false) :: fr)) :
    LQ P ops C QQ n (⟨dst, op, ty, pos, af, some (j, c)⟩ :: rest) fr := by
  refine ⟨fun a s => ?_⟩
  have sub : ∀ v, Value.bool b = v → Sim ((t, v) :: fr) n a := fun v e => s.of_slots (get_cons_slots (by rw [hb, e]) (fun _ _ h => h))
  cases b with
  | true => exact (h1 rfl).run a (sub _ rfl)
  | false => exact (h2 rfl).run a (sub _ rfl)

theorem LQ_guard_undef {op : Op} {j t : Nat} {c : Bool} (ht : (ops[j]?).bind (·.dst) = some t) (hb : fr.get t = some undef) (hdn : Nat.blt d n = true)
    (k : LQ P ops C QQ n rest ((d, undef) :: fr)) : LQ P ops C QQ n (⟨some d, op, ty, pos, af, some (j, c)⟩ :: rest) fr := by
  refine ⟨fun a s => ?_⟩
  unfold wpQuiet
  have := s.slot t _ hb
  rw [if_neg (by simp [Region.wanted, yielded, ht, this, undef])]
  exact k.run _ (s.put hdn)

theorem LQ_guard_dec {dst : Option Nat} {op : Op} {j t : Nat} {c : Bool} {p : Prop} [Decidable p] (ht : (ops[j]?).bind (·.dst) = some t) (hb : fr.get t = some (.bool (decide p)))
    (h1 : p → LQ P ops C QQ n (⟨dst, op, ty, pos, af, some (j, c)⟩ :: rest) ((t, .bool true) :: fr))
    (h2 : ¬ p → LQ P ops C QQ n (⟨dst, op, ty, pos, af, some (j, c)⟩ :: rest) ((t, .bool false) :: fr)) :
    LQ P ops C QQ n (⟨dst, op, ty, pos, af, some (j, c)⟩ :: rest) fr :=
  LQ_guard_split ht hb (fun e => h1 (of_decide_eq_true e)) (fun e => h2 (of_decide_eq_false e))

/-! ### Moves, tests, arithmetic -/
theorem do_move {x : Operand} {v : Value} (hx : fr.ev x = some v) : Does P ⟨some d, .move x, ty, pos, af, none⟩ fr w v := ⟨fun ρ h => by rw [← h x v hx]; rfl⟩
theorem do_assign {x : Operand} {v : Value} (hx : fr.ev x = some v) : Does P ⟨some d, .assign x, ty, pos, af, none⟩ fr w v := ⟨fun ρ h => by rw [← h x v hx]; rfl⟩
theorem do_notDec {x : Operand} {p : Prop} [Decidable p] {t : TypeId} (hx : fr.ev x = some (.bool (decide p))) : Does P ⟨some d, .unOp .not t x, ty, pos, af, none⟩ fr w (.bool (decide (¬ p))) :=
  ⟨fun ρ h => by simp [execOp, h x _ hx, Op.unary, go_sem]⟩
theorem do_pick_true {c x y : Operand} {v : Value} (hc : fr.ev c = some (.bool true)) (hx : fr.ev x = some v) : Does P ⟨some d, .pick c x y, ty, pos, af, none⟩ fr w v :=
  ⟨fun ρ h => by simp [execOp, h c _ hc, h x _ hx, asBool, go_sem]⟩
theorem do_pick_false {c x y : Operand} {v : Value} (hc : fr.ev c = some (.bool false)) (hy : fr.ev y = some v) : Does P ⟨some d, .pick c x y, ty, pos, af, none⟩ fr w v :=
  ⟨fun ρ h => by simp [execOp, h c _ hc, h y _ hy, asBool, go_sem]⟩
theorem do_not {x : Operand} {b : Bool} {t : TypeId} (hx : fr.ev x = some (.bool b)) : Does P ⟨some d, .unOp .not t x, ty, pos, af, none⟩ fr w (.bool (!b)) :=
  ⟨fun ρ h => by simp [execOp, h x _ hx, Op.unary, go_sem]⟩

/-- What a comparison of integers yields. -/
def cmpInt : BinOp → Int → Int → Option Bool
  | .eql, x, y => some (decide (x = y))
  | .neq, x, y => some (decide (¬ x = y))
  | .lss, x, y => some (decide (x < y))
  | .leq, x, y => some (decide (x ≤ y))
  | .gtr, x, y => some (decide (y < x))
  | .geq, x, y => some (decide (y ≤ x))
  | _, _, _ => none

theorem do_cmp {op : BinOp} {t t' : TypeId} {x y : Operand} {k : IntKind} {i j : Int} {b : Bool} (hx : fr.ev x = some (.int k i)) (hy : fr.ev y = some (.int k j)) (hb : cmpInt op i j = some b) :
    Does P ⟨some d, .binOp op t x y t', ty, pos, af, none⟩ fr w (.bool b) := ⟨fun ρ h => by
  have h1 : decide (i = j) = (i == j) := by rw [Bool.eq_iff_iff]; simp
  have h2 : decide (¬ i = j) = (i != j) := by rw [Bool.eq_iff_iff]; simp
  cases op <;> simp only [cmpInt, Option.some.injEq, reduceCtorEq, h1, h2] at hb <;> rw [← hb] <;> unfold execOp <;> simp [h x _ hx, h y _ hy, eqGuard_at_int, binOp_eql, binOp_neq, binOp_lss, binOp_leq, binOp_gtr, binOp_geq]⟩

theorem do_add {t t' : TypeId} {x y : Operand} {i j : Int} (hx : fr.ev x = some (.int .i64 i)) (hy : fr.ev y = some (.int .i64 j))
    (hr : -9223372036854775808 ≤ i + j ∧ i + j ≤ 9223372036854775807) : Does P ⟨some d, .binOp .add t x y t', ty, pos, af, none⟩ fr w (.int .i64 (i + j)) := ⟨fun ρ h => by
  have := IntWalk.i64_in (i + j) hr
  simp [execOp, h x _ hx, h y _ hy, eqGuard_add, binOp_add, Op.intArith, this, go_sem]⟩
theorem do_sub {t t' : TypeId} {x y : Operand} {i j : Int} (hx : fr.ev x = some (.int .i64 i)) (hy : fr.ev y = some (.int .i64 j))
    (hr : -9223372036854775808 ≤ i - j ∧ i - j ≤ 9223372036854775807) : Does P ⟨some d, .binOp .sub t x y t', ty, pos, af, none⟩ fr w (.int .i64 (i - j)) := ⟨fun ρ h => by
  have := IntWalk.i64_in (i - j) hr
  simp [execOp, h x _ hx, h y _ hy, eqGuard_sub, binOp_sub, Op.intArith, this, go_sem]⟩
theorem do_mul {t t' : TypeId} {x y : Operand} {i j : Int} (hx : fr.ev x = some (.int .i64 i)) (hy : fr.ev y = some (.int .i64 j))
    (hr : -9223372036854775808 ≤ i * j ∧ i * j ≤ 9223372036854775807) : Does P ⟨some d, .binOp .mul t x y t', ty, pos, af, none⟩ fr w (.int .i64 (i * j)) := ⟨fun ρ h => by
  have := IntWalk.i64_in (i * j) hr
  simp [execOp, h x _ hx, h y _ hy, eqGuard_mul, binOp_mul, Op.intArith, this, go_sem]⟩
theorem do_rem {t t' : TypeId} {x y : Operand} {i j : Int} (hx : fr.ev x = some (.int .i64 i)) (hy : fr.ev y = some (.int .i64 j))
    (hi : 0 ≤ i) (hj : 0 < j) : Does P ⟨some d, .binOp .rem t x y t', ty, pos, af, none⟩ fr w (.int .i64 (i % j)) := ⟨fun ρ h => by
  have h0 : ¬ j = 0 := by omega
  have h1 : i.tmod j = i % j := Int.tmod_eq_emod_of_nonneg hi
  simp [execOp, h x _ hx, h y _ hy, eqGuard_rem, binOp_rem, Op.intDiv, h0, h1, go_sem]⟩
theorem do_quo {t t' : TypeId} {x y : Operand} {i j : Int} (hx : fr.ev x = some (.int .i64 i)) (hy : fr.ev y = some (.int .i64 j))
    (hi : 0 ≤ i ∧ i ≤ 9223372036854775807) (hj : 0 < j) : Does P ⟨some d, .binOp .quo t x y t', ty, pos, af, none⟩ fr w (.int .i64 (i / j)) := ⟨fun ρ h => by
  have h0 : ¬ j = 0 := by omega
  have h1 := IntWalk.i64_quo i j ⟨hi.1, hi.2, by omega⟩
  simp [execOp, h x _ hx, h y _ hy, eqGuard_quo, binOp_quo, Op.intDiv, h0, h1, go_sem]⟩

/-- A string's value. -/
def mk (s : List UInt8) : ByteArray := ⟨s.toArray⟩
theorem ByteArray.toList_loop (b : ByteArray) : ∀ (k i : Nat) (r : List UInt8), b.size - i = k → ByteArray.toList.loop b i r = r.reverse ++ b.data.toList.drop i := by
  intro k
  induction k with
  | zero =>
    intro i r h
    rw [ByteArray.toList.loop, if_neg (by omega), List.drop_eq_nil_of_le (by have : b.data.size = b.size := rfl; simp; omega)]
    simp
  | succ k ih =>
    intro i r h
    rw [ByteArray.toList.loop, if_pos (by omega), ih (i + 1) _ (by omega)]
    have hi : i < b.data.toList.length := by have : b.data.size = b.size := rfl; simp; omega
    rw [List.drop_eq_getElem_cons hi, List.reverse_cons, List.append_assoc]
    congr 1
    show [b.get! i] ++ _ = _
    have : b.get! i = b.data.toList[i] := by
      have hi' : i < b.data.size := by simpa using hi
      show b.data[i]! = _
      rw [getElem!_pos b.data i hi']
      simp
    rw [this]; rfl
theorem mk_toList (s : List UInt8) : (mk s).toList = s := by
  unfold ByteArray.toList
  rw [ByteArray.toList_loop (mk s) _ 0 [] rfl]
  simp [mk]
theorem mk_size (s : List UInt8) : (mk s).size = s.length := by simp [mk, ByteArray.size]
theorem mk_append (s t : List UInt8) : mk s ++ mk t = mk (s ++ t) := by
  apply ByteArray.ext; simp [mk]
theorem mk_inj {s t : List UInt8} (h : mk s = mk t) : s = t := by rw [← mk_toList s, h, mk_toList]

/-- What a comparison of strings yields. -/
def cmpStr : BinOp → List UInt8 → List UInt8 → Option Bool
  | .eql, x, y => some (decide (x = y))
  | .neq, x, y => some (decide (¬ x = y))
  | .lss, x, y => some (Op.bytesLess x y)
  | .leq, x, y => some (Op.bytesLess x y || decide (x = y))
  | .gtr, x, y => some (!(Op.bytesLess x y || decide (x = y)))
  | .geq, x, y => some (!Op.bytesLess x y)
  | _, _, _ => none
theorem do_cmpStr {op : BinOp} {t t' : TypeId} {x y : Operand} {i j : List UInt8} {b : Bool} (hx : fr.ev x = some (.string (mk i))) (hy : fr.ev y = some (.string (mk j))) (hb : cmpStr op i j = some b) :
    Does P ⟨some d, .binOp op t x y t', ty, pos, af, none⟩ fr w (.bool b) := ⟨fun ρ h => by
  have h1 : decide (i = j) = (i == j) := by rw [Bool.eq_iff_iff]; simp
  have h2 : decide (¬ i = j) = !(i == j) := by rw [Bool.eq_iff_iff]; simp
  cases op <;> simp only [cmpStr, Option.some.injEq, reduceCtorEq, h1, h2] at hb <;> rw [← hb] <;> unfold execOp <;> simp [h x _ hx, h y _ hy, binOp, Op.stringOp, eqGuard_at_string, mk_toList]⟩
theorem do_concat {t t' : TypeId} {x y : Operand} {i j : List UInt8} (hx : fr.ev x = some (.string (mk i))) (hy : fr.ev y = some (.string (mk j))) (hr : i.length + j.length ≤ 9223372036854775807) :
    Does P ⟨some d, .binOp .add t x y t', ty, pos, af, none⟩ fr w (.string (mk (i ++ j))) := ⟨fun ρ h => by
  unfold execOp
  simp [h x _ hx, h y _ hy, binOp, Op.stringOp, eqGuard_add, mk_size, mk_append]
  omega⟩
theorem run_equalIn_bool (dp : Nat) {t : TypeId} (ht : P.underlying t = some .bool) (i j : Bool) : (Op.equalIn (dp + 1) t (.bool i) (.bool j)).run P w = .ok (i == j) w := by
  simp [Op.equalIn, run_underlying ht]
theorem run_eqBool {t : TypeId} (ht : P.underlying t = some .bool) (i j : Bool) : (Op.equal t (.bool i) (.bool j)).run P w = .ok (i == j) w := run_equalIn_bool 9999 ht i j
theorem do_eqBool {t t' : TypeId} (ht : P.underlying t = some .bool) {x y : Operand} {i j : Bool} (hx : fr.ev x = some (.bool i)) (hy : fr.ev y = some (.bool j)) :
    Does P ⟨some d, .binOp .eql t x y t', ty, pos, af, none⟩ fr w (.bool (i == j)) := ⟨fun ρ h => by
  have h1 : (binOp .eql t (.bool i) (.bool j)) = (do pure (.bool (← Op.equal t (.bool i) (.bool j)))) := rfl
  have h2 : (binOp .eql t (.bool i) (.bool j)).run P w = .ok (.bool (i == j)) w := by rw [h1]; simp [run_eqBool ht]
  unfold execOp
  simp [h x _ hx, h y _ hy, eqGuard_at_bool, h2]⟩
theorem do_neBool {t t' : TypeId} (ht : P.underlying t = some .bool) {x y : Operand} {i j : Bool} (hx : fr.ev x = some (.bool i)) (hy : fr.ev y = some (.bool j)) :
    Does P ⟨some d, .binOp .neq t x y t', ty, pos, af, none⟩ fr w (.bool (!(i == j))) := ⟨fun ρ h => by
  have h1 : (binOp .neq t (.bool i) (.bool j)) = (do pure (.bool (!(← Op.equal t (.bool i) (.bool j))))) := rfl
  have h2 : (binOp .neq t (.bool i) (.bool j)).run P w = .ok (.bool (!(i == j))) w := by rw [h1]; simp [run_eqBool ht]
  unfold execOp
  simp [h x _ hx, h y _ hy, eqGuard_at_bool, h2]⟩
theorem do_extract {x : Operand} {vs : Array Value} {i : Nat} {v : Value} (hx : fr.ev x = some (.tuple vs)) (hi : vs[i]? = some v) : Does P ⟨some d, .extract x i, ty, pos, af, none⟩ fr w v :=
  ⟨fun ρ h => by simp [execOp, h x _ hx, Instr.extract, hi, go_sem]⟩

/-! ### Calls -/
/-- Function f has a body, and a call enters it. -/
class Enters (P : Program) (f : FuncId) : Prop where
  run : ∀ (args : Array Value) (w : World), (callFunc f args).run P w = .ok (.enter f args) w

theorem enters_of {P : Program} {f : FuncId} {fn : Func} (hf : P.funcs[f]? = some fn) (hn : (fn.name == "runtime.NumGoroutine") = false) (hb : fn.body.isNone = false) : Enters P f :=
  ⟨fun args w => by
    unfold callFunc
    simp only [program, bind, Sem.bind, Sem.run, hf]
    simp [hn, hb]⟩

theorem run_call {f : FuncId} [he : Enters P f] {xs : List Operand} {ats : Array TypeId} {vs : List Value} {dst : Option Nat} {a : Act} (s : Sim fr n a) (hx : fr.evs xs = some vs) (w : World) :
    (execOp a.eval ⟨dst, .call ⟨.value (.func f), xs.toArray, ats⟩, ty, pos, af, none⟩).run P w = .ok (.enter f vs.toArray) w := by
  have hargs : (Array.map a.eval xs.toArray) = vs.toArray := by rw [List.map_toArray, s.evs hx]
  have h1 := he.run vs.toArray w
  simp [go_sem, hargs, h1]

theorem L_call {f : FuncId} [he : Enters P f] {xs : List Operand} {ats : Array TypeId} {vs : List Value} {R : Value → World → Prop}
    (hx : fr.evs xs = some vs) (hdn : Nat.blt d n = true) (hc : Cl P f vs w R)
    (kk : ∀ v w', R v w' → L P ops Q n rest ((d, v) :: fr) w') :
    L P ops Q n (⟨some d, .call ⟨.value (.func f), xs.toArray, ats⟩, ty, pos, af, none⟩ :: rest) fr w := by
  refine ⟨fun a s => ?_⟩
  unfold wpList
  rw [if_pos (by simp [Region.wanted])]
  refine .inl ?_
  unfold Oper.wp
  rw [run_call s hx w]
  simp only [Oper.upon]
  exact hc.run.mono fun e w' ⟨v, he, hR⟩ => by subst he; exact (kk v w' hR).run _ (s.put hdn)

theorem L_callV {f : FuncId} [he : Enters P f] {xs : List Operand} {ats : Array TypeId} {vs : List Value} {v : Value}
    (hx : fr.evs xs = some vs) (hdn : Nat.blt d n = true) (hc : Cl P f vs w (V w v))
    (kk : ∀ w', Below w.heap.size w w' → L P ops Q n rest ((d, v) :: fr) w') :
    L P ops Q n (⟨some d, .call ⟨.value (.func f), xs.toArray, ats⟩, ty, pos, af, none⟩ :: rest) fr w :=
  L_call hx hdn hc fun _ w' ⟨hu, hB⟩ => by subst hu; exact kk w' hB

theorem L_call0 {f : FuncId} [he : Enters P f] {xs : List Operand} {ats : Array TypeId} {vs : List Value} {R : Value → World → Prop}
    (hx : fr.evs xs = some vs) (hc : Cl P f vs w R)
    (kk : ∀ v w', R v w' → L P ops Q n rest fr w') :
    L P ops Q n (⟨none, .call ⟨.value (.func f), xs.toArray, ats⟩, ty, pos, af, none⟩ :: rest) fr w := by
  refine ⟨fun a s => ?_⟩
  unfold wpList
  rw [if_pos (by simp [Region.wanted])]
  refine .inl ?_
  unfold Oper.wp
  rw [run_call s hx w]
  simp only [Oper.upon]
  exact hc.run.mono fun e w' ⟨v, he, hR⟩ => by subst he; exact (kk v w' hR).run _ s

theorem LQ_call {f : FuncId} [he : Enters P f] {xs : List Operand} {ats : Array TypeId} {vs : List Value} {v : Value}
    (hx : fr.evs xs = some vs) (hdn : Nat.blt d n = true) (hc : ∀ w', C w' → Cl P f vs w' (fun u w'' => u = v ∧ C w''))
    (k : LQ P ops C QQ n rest ((d, v) :: fr)) : LQ P ops C QQ n (⟨some d, .call ⟨.value (.func f), xs.toArray, ats⟩, ty, pos, af, none⟩ :: rest) fr :=
  LQ_quiet rfl rfl hdn (fun a s w' hw' => by
    unfold Oper.quietAt
    rw [run_call s hx w']
    exact ⟨rfl, (hc w' hw').run.mono fun e w'' ⟨u, he, hu, hw''⟩ => by subst hu; exact ⟨he, hw''⟩⟩) k

theorem isL {l : List Oper} (h : L P ops Q n l fr w) : L P ops Q n l fr w := h
theorem isLQ {l : List Oper} (h : LQ P ops C QQ n l fr) : LQ P ops C QQ n l fr := h
theorem isW {c : Code} (h : W P c Q n fr w) : W P c Q n fr w := h
theorem isAt {e : Exit} (h : At Q e n fr w) : At Q e n fr w := h
theorem isGuarded {dst : Option Nat} {op : Op} {g : Nat × Bool} (h : L P ops Q n (⟨dst, op, ty, pos, af, some g⟩ :: rest) fr w) : L P ops Q n (⟨dst, op, ty, pos, af, some g⟩ :: rest) fr w := h
theorem isGuardedQ {dst : Option Nat} {op : Op} {g : Nat × Bool} (h : LQ P ops C QQ n (⟨dst, op, ty, pos, af, some g⟩ :: rest) fr) : LQ P ops C QQ n (⟨dst, op, ty, pos, af, some g⟩ :: rest) fr := h
theorem L_move {x : Operand} {v : Value} (hx : fr.ev x = some v) (hdn : Nat.blt d n = true) (k : L P ops Q n rest ((d, v) :: fr) w) : L P ops Q n (⟨some d, .move x, ty, pos, af, none⟩ :: rest) fr w :=
  L_do rfl rfl hdn (do_move hx) k
theorem L_assign {x : Operand} {v : Value} (hx : fr.ev x = some v) (hdn : Nat.blt d n = true) (k : L P ops Q n rest ((d, v) :: fr) w) : L P ops Q n (⟨some d, .assign x, ty, pos, af, none⟩ :: rest) fr w :=
  L_do rfl rfl hdn (do_assign hx) k
theorem LQ_move {x : Operand} {v : Value} (hx : fr.ev x = some v) (hdn : Nat.blt d n = true) (k : LQ P ops C QQ n rest ((d, v) :: fr)) : LQ P ops C QQ n (⟨some d, .move x, ty, pos, af, none⟩ :: rest) fr :=
  LQ_do rfl rfl hdn (fun _ _ => do_move hx) k
theorem LQ_assign {x : Operand} {v : Value} (hx : fr.ev x = some v) (hdn : Nat.blt d n = true) (k : LQ P ops C QQ n rest ((d, v) :: fr)) : LQ P ops C QQ n (⟨some d, .assign x, ty, pos, af, none⟩ :: rest) fr :=
  LQ_do rfl rfl hdn (fun _ _ => do_assign hx) k
theorem isBin {op : BinOp} {t t' : TypeId} {x y : Operand} (h : L P ops Q n (⟨some d, .binOp op t x y t', ty, pos, af, none⟩ :: rest) fr w) : L P ops Q n (⟨some d, .binOp op t x y t', ty, pos, af, none⟩ :: rest) fr w := h
theorem isBinQ {op : BinOp} {t t' : TypeId} {x y : Operand} (h : LQ P ops C QQ n (⟨some d, .binOp op t x y t', ty, pos, af, none⟩ :: rest) fr) : LQ P ops C QQ n (⟨some d, .binOp op t x y t', ty, pos, af, none⟩ :: rest) fr := h
theorem isCall {c : Call} {dst : Option Nat} (h : L P ops Q n (⟨dst, .call c, ty, pos, af, none⟩ :: rest) fr w) : L P ops Q n (⟨dst, .call c, ty, pos, af, none⟩ :: rest) fr w := h
theorem isCallQ {c : Call} {dst : Option Nat} (h : LQ P ops C QQ n (⟨dst, .call c, ty, pos, af, none⟩ :: rest) fr) : LQ P ops C QQ n (⟨dst, .call c, ty, pos, af, none⟩ :: rest) fr := h
theorem isLoad {t : TypeId} {x : Operand} {dst : Option Nat} (h : L P ops Q n (⟨dst, .load t x, ty, pos, af, none⟩ :: rest) fr w) : L P ops Q n (⟨dst, .load t x, ty, pos, af, none⟩ :: rest) fr w := h
theorem isLoadQ {t : TypeId} {x : Operand} {dst : Option Nat} (h : LQ P ops C QQ n (⟨dst, .load t x, ty, pos, af, none⟩ :: rest) fr) : LQ P ops C QQ n (⟨dst, .load t x, ty, pos, af, none⟩ :: rest) fr := h

/-- A call of a function value. -/
theorem run_callFn {f : FuncId} [he : Enters P f] {fo : Operand} {cap : List Value} {xs : List Operand} {ats : Array TypeId} {vs : List Value} {dst : Option Nat} {a : Act} (s : Sim fr n a) (hf : fr.ev fo = some (.func (.func f) #[] cap.toArray)) (hx : fr.evs xs = some vs) (w : World) :
    (execOp a.eval ⟨dst, .call ⟨.value fo, xs.toArray, ats⟩, ty, pos, af, none⟩).run P w = .ok (.enter f (vs ++ cap).toArray) w := by
  have hargs : (Array.map a.eval xs.toArray) = vs.toArray := by rw [List.map_toArray, s.evs hx]
  have h1 := he.run (vs ++ cap).toArray w
  have h2 := s.ev hf
  have h3 : vs.toArray ++ cap.toArray = (vs ++ cap).toArray := by simp
  unfold execOp resolve
  simp only [hargs, h2, Deferred.ofValue]
  simp [invoke, h3, h1]
theorem L_callFn {f : FuncId} [he : Enters P f] {fo : Operand} {cap : List Value} {xs : List Operand} {ats : Array TypeId} {vs : List Value} {v : Value}
    (hf : fr.ev fo = some (.func (.func f) #[] cap.toArray)) (hx : fr.evs xs = some vs) (hdn : Nat.blt d n = true) (hc : Cl P f (vs ++ cap) w (V w v))
    (kk : ∀ w', Below w.heap.size w w' → L P ops Q n rest ((d, v) :: fr) w') :
    L P ops Q n (⟨some d, .call ⟨.value fo, xs.toArray, ats⟩, ty, pos, af, none⟩ :: rest) fr w := by
  refine ⟨fun a s => ?_⟩
  unfold wpList
  rw [if_pos (by simp [Region.wanted])]
  refine .inl ?_
  unfold Oper.wp
  rw [run_callFn s hf hx w]
  simp only [Oper.upon]
  exact hc.run.mono fun e w' ⟨u, he, hR, hB⟩ => by subst he; subst hR; exact (kk w' hB).run _ (s.put hdn)

theorem isAllocStore {e e' ty' : TypeId} {x y : Operand} {pos' : String} {af' : Array Edge} (h : L P ops Q n (⟨some d, .alloc e, ty, pos, af, none⟩ :: ⟨none, .store e' x y, ty', pos', af', none⟩ :: rest) fr w) : L P ops Q n (⟨some d, .alloc e, ty, pos, af, none⟩ :: ⟨none, .store e' x y, ty', pos', af', none⟩ :: rest) fr w := h
theorem isBox {e : TypeId} {x : Operand} (h : L P ops Q n (⟨some d, .box e x, ty, pos, af, none⟩ :: rest) fr w) : L P ops Q n (⟨some d, .box e x, ty, pos, af, none⟩ :: rest) fr w := h
theorem isAlloc {e : TypeId} (h : L P ops Q n (⟨some d, .alloc e, ty, pos, af, none⟩ :: rest) fr w) : L P ops Q n (⟨some d, .alloc e, ty, pos, af, none⟩ :: rest) fr w := h
theorem isStore {e : TypeId} {x y : Operand} (h : L P ops Q n (⟨none, .store e x y, ty, pos, af, none⟩ :: rest) fr w) : L P ops Q n (⟨none, .store e x y, ty, pos, af, none⟩ :: rest) fr w := h
theorem isIndexAddr {t : TypeId} {x y : Operand} (h : L P ops Q n (⟨some d, .indexAddr t x y, ty, pos, af, none⟩ :: rest) fr w) : L P ops Q n (⟨some d, .indexAddr t x y, ty, pos, af, none⟩ :: rest) fr w := h

/-- What C means where a region only reads: nothing of w has changed. -/
theorem LQ_callV {w : World} {f : FuncId} [he : Enters P f] {xs : List Operand} {ats : Array TypeId} {vs : List Value} {v : Value}
    (hx : fr.evs xs = some vs) (hdn : Nat.blt d n = true) (hc : ∀ w', Below w.heap.size w w' → Cl P f vs w' (V w' v))
    (k : LQ P ops (Below w.heap.size w) QQ n rest ((d, v) :: fr)) : LQ P ops (Below w.heap.size w) QQ n (⟨some d, .call ⟨.value (.func f), xs.toArray, ats⟩, ty, pos, af, none⟩ :: rest) fr :=
  LQ_call hx hdn (fun w' hw' => (hc w' hw').mono fun u w'' ⟨hu, hB⟩ => ⟨hu, hw'.trans (hB.mono hw'.size)⟩) k

theorem W_region_Q {id : Nat} {l : List Oper} (hm : P.follows .mixedOrders = true) (hB : Region.lexB .any l.toArray = true)
    (h : LQ P l.toArray (Below w.heap.size w) (fun a => ∀ w', Below w.heap.size w w' → Q .normal a w') n l fr) : W P (.region id l.toArray true) Q n fr w :=
  W_region_quiet (Below w.heap.size w) hm hB (Below.drew (Below.refl _ _)) h

end ops
end Go.Proofs.YtnemajefpgicgaaDoor
