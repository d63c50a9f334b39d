/-
  A layer over the kit's weakest preconditions: a frame is known by a short list of slots ('Fr'), and each operation has one lemma that takes and leaves such a list.
  One lemma an operation, over frames as lists of known slots.
  Memory: rows of cells that can be read ('Rd'), a pointer to cells ('Pt'), variables that lie in memory, slices that the call owns; one lemma an operation on them.
  What the program computes, in plain Lean: paths, contents, trees, commands, frames. Nothing of the program stands here.
  Slices of flat elements: the kinds of element, and the lemmas on index, length, load over them.
  Memory that the call makes: variables, slices of its own, append, make, stores.
  Regions that draw their order and change memory: what only looks is taken first, in the order of a plan; what changes memory comes up alone. (Over Derived/OrdersHeld.lean.)
-/
import Derived.WalkKit
import Derived.Deep.Quiet
import Derived.OrdersHeld

namespace Go.Proofs.YtjobbcdolbhadaaGreatDoor
set_option linter.unusedVariables false
set_option linter.unusedSimpArgs false
open Go Go.RowKit

/-! ### Searches as arguments that may be left out: what is below what, reads, owned rows, places, rows that stand, slots, sums -/
theorem bw_ {p : Prop} (h : p := by (repeat (first | assumption | exact Below.refl _ _ | refine below_step ?_ (by assumption))); first | done | fail) : p := h
theorem rd_ {p : Prop} (h : p := by (first | assumption | exact RdL.ext (by assumption) (by (repeat (first | assumption | refine below_step ?_ (by assumption))); first | done | fail) | exact OwL.rd (by assumption) | exact RdL.ext (OwL.rd (by assumption)) (by (repeat (first | assumption | refine below_step ?_ (by assumption))); first | done | fail))) : p := h
theorem ow_ {p : Prop} (h : p := by (first | assumption | exact OwL.ext (by assumption) (by (repeat (first | assumption | refine below_step ?_ (by assumption))); first | done | fail))) : p := h
theorem pt_ {p : Prop} (h : p := by (first | assumption | exact Pt.ext (by assumption) (by (repeat (first | assumption | refine below_step ?_ (by assumption))); first | done | fail))) : p := h
theorem kp_ {p : Prop} (h : p := by (repeat (first | assumption | exact Below.refl _ _ | refine below_step ?_ (by assumption) | exact World.grownBy.refl _ _ | refine kp_below ?_ (by assumption) | refine kp_row ?_ (by assumption))); first | done | fail) : p := h
theorem sl_ {p : Prop} (h : p := by repeat (first | exact get_nil_slots _ | refine get_cons_slots rfl ?_)) : p := h
theorem ne_ {p : Prop} (h : p := by first | assumption | (intro e; simp_all; done)) : p := h
theorem om_ {p : Prop} (h : p := by omega) : p := h

/-! ### Frames as lists of known slots -/
abbrev Fr := List (Nat × Value)

def Fr.get : Fr → Nat → Option Value
  | [], _ => none
  | (k, v) :: r, t => bif Nat.beq k t then some v else Fr.get r t

def Fr.ev (fr : Fr) : Operand → Option Value
  | .tmp t => fr.get t
  | .const v => some v
  | .global g => some (.pointer (some ⟨g, 0, none⟩))
  | .func f => some (.func (.func f) #[] #[])

def Fr.evs (fr : Fr) : List Operand → Option (List Value)
  | [] => some []
  | x :: r => match fr.ev x, Fr.evs fr r with
    | some v, some vs => some (v :: vs)
    | _, _ => none

structure Sim (fr : Fr) (n : Nat) (a : Act) : Prop where
  size : a.tmps.size = n
  defers : a.defers = []
  slot : ∀ t v, fr.get t = some v → a.tmps[t]? = some v

theorem Sim.getD {fr : Fr} {n : Nat} {a : Act} (h : Sim fr n a) {t : Nat} {v : Value} (e : fr.get t = some v) : a.tmps.getD t undef = v := by
  have := h.slot t v e
  simp [Array.getD_eq_getD_getElem?, this]

theorem Sim.ev {fr : Fr} {n : Nat} {a : Act} (h : Sim fr n a) {x : Operand} {v : Value} (e : fr.ev x = some v) : a.eval x = v := by
  cases x with
  | tmp t => exact h.getD e
  | const u => simpa [Fr.ev, Act.eval] using e
  | global g => simpa [Fr.ev, Act.eval] using e
  | func f => simpa [Fr.ev, Act.eval] using e

theorem Sim.evs {fr : Fr} {n : Nat} {a : Act} (h : Sim fr n a) {xs : List Operand} {vs : List Value} (e : fr.evs xs = some vs) : xs.map a.eval = vs := by
  induction xs generalizing vs with
  | nil => simpa [Fr.evs] using e
  | cons x r ih =>
    simp only [Fr.evs] at e
    split at e
    · rename_i v vs' h1 h2
      obtain rfl : v :: vs' = vs := by simpa using e
      simp [h.ev h1, ih h2]
    · simp at e

theorem Sim.put {fr : Fr} {n : Nat} {a : Act} (h : Sim fr n a) {d : Nat} {v : Value} (hd : Nat.blt d n = true) : Sim ((d, v) :: fr) n (a.put (some d) v) := by
  have hd' : d < a.tmps.size := by rw [h.size]; simpa [Nat.blt_eq] using hd
  refine ⟨by simp [Act.put, h.size], by simp [Act.put, h.defers], ?_⟩
  intro t u e
  simp only [Fr.get] at e
  by_cases hk : d = t
  · subst hk
    simp at e
    subst e
    simp [Act.put, hd']
  · have : Nat.beq d t = false := by
      cases hb : Nat.beq d t
      · rfl
      · exact absurd (Nat.eq_of_beq_eq_true hb) hk
    rw [this] at e
    have := h.slot t u e
    simp [Act.put, hk, this]

theorem Sim.put_none {fr : Fr} {n : Nat} {a : Act} (h : Sim fr n a) {v : Value} : Sim fr n (a.put none v) := h

/-- 'fr' knows no more than 'gr'. -/
def Fr.sub (fr gr : Fr) : Bool := fr.all fun p => match gr.get p.1 with | some _ => true | none => false

theorem Sim.of_slots {fr gr : Fr} {n : Nat} {a : Act} (h : Sim gr n a) (hs : ∀ t v, fr.get t = some v → gr.get t = some v) : Sim fr n a :=
  ⟨h.size, h.defers, fun t v e => h.slot t v (hs t v e)⟩

theorem get_nil_slots (gr : Fr) : ∀ t v, Fr.get [] t = some v → gr.get t = some v := fun _ _ h => by simp [Fr.get] at h
theorem get_cons_slots {fr gr : Fr} {k : Nat} {u : Value} (hk : gr.get k = some u) (h : ∀ t v, fr.get t = some v → gr.get t = some v) :
    ∀ t v, Fr.get ((k, u) :: fr) t = some v → gr.get t = some v := by
  intro t v e
  simp only [Fr.get] at e
  by_cases hkt : k = t
  · subst hkt
    simp at e
    subst e
    exact hk
  · have : Nat.beq k t = false := by
      cases hb : Nat.beq k t
      · rfl
      · exact absurd (Nat.eq_of_beq_eq_true hb) hkt
    rw [this] at e
    exact h t v e

/-! ### The three judgements: code, the rest of a region, an exit -/
structure W (P : Program) (c : Code) (Q : Exit → Act → World → Prop) (n : Nat) (fr : Fr) (w : World) : Prop where
  run : ∀ a, Sim fr n a → c.wp P Q a w
structure L (P : Program) (ops : Array Oper) (Q : Exit → Act → World → Prop) (n : Nat) (l : List Oper) (fr : Fr) (w : World) : Prop where
  run : ∀ a, Sim fr n a → wpList P ops Q l a w
structure At (Q : Exit → Act → World → Prop) (e : Exit) (n : Nat) (fr : Fr) (w : World) : Prop where
  run : ∀ a, Sim fr n a → Q e a w

section rules
variable {P : Program} {Q : Exit → Act → World → Prop} {n : Nat} {fr : Fr} {w : World}

theorem W_seq {x y : Code} (h : W P x (Exit.then (y.wp P Q) Q) n fr w) : W P (.seq x y) Q n fr w := ⟨fun a s => wp_seq (h.run a s)⟩
theorem W_skip (h : At Q .normal n fr w) : W P .skip Q n fr w := ⟨fun a s => wp_skip (h.run a s)⟩
theorem W_ret (h : At Q .ret n fr w) : W P .ret Q n fr w := ⟨fun a s => wp_ret (h.run a s)⟩
theorem W_exit {id : Nat} (h : At Q (.exit id) n fr w) : W P (.exit id) Q n fr w := ⟨fun a s => wp_exit (h.run a s)⟩
theorem W_block {id : Nat} {c : Code} (h : W P c (Exit.inBlock id Q) n fr w) : W P (.block id c) Q n fr w := ⟨fun a s => wp_block (h.run a s)⟩
theorem W_cond_true {c : Operand} {x y : Code} (hc : fr.ev c = some (.bool true)) (h : W P x Q n fr w) : W P (.cond c x y) Q n fr w := ⟨fun a s => wp_cond_true (s.ev hc) (h.run a s)⟩
theorem W_cond_false {c : Operand} {x y : Code} (hc : fr.ev c = some (.bool false)) (h : W P y Q n fr w) : W P (.cond c x y) Q n fr w := ⟨fun a s => wp_cond_false (s.ev hc) (h.run a s)⟩
theorem W_cond {c : Operand} {x y : Code} {b : Bool} (hc : fr.ev c = some (.bool b)) (ht : b = true → W P x Q n fr w) (hf : b = false → W P y Q n fr w) : W P (.cond c x y) Q n fr w :=
  ⟨fun a s => wp_cond_split (s.ev hc) (fun e => (ht e).run a s) (fun e => (hf e).run a s)⟩
theorem W_region {id : Nat} {l : List Oper} (h : L P l.toArray Q n l fr w) : W P (.region id l.toArray false) Q n fr w := ⟨fun a s => wp_region_lit (h.run a s)⟩
theorem W_forget {c : Code} (gr : Fr) (hs : ∀ t v, gr.get t = some v → fr.get t = some v) (h : W P c Q n gr w) : W P c Q n fr w := ⟨fun a s => h.run a (s.of_slots hs)⟩

theorem At_then {y : Code} (h : W P y Q n fr w) : At (Exit.then (y.wp P Q) Q) .normal n fr w := ⟨fun a s => h.run a s⟩
theorem At_then_ret {K : Act → World → Prop} (h : At Q .ret n fr w) : At (Exit.then K Q) .ret n fr w := ⟨fun a s => h.run a s⟩
theorem At_then_exit {K : Act → World → Prop} {id : Nat} (h : At Q (.exit id) n fr w) : At (Exit.then K Q) (.exit id) n fr w := ⟨fun a s => h.run a s⟩
theorem At_block_normal {id : Nat} (h : At Q .normal n fr w) : At (Exit.inBlock id Q) .normal n fr w := ⟨fun a s => h.run a s⟩
theorem At_block_ret {id : Nat} (h : At Q .ret n fr w) : At (Exit.inBlock id Q) .ret n fr w := ⟨fun a s => h.run a s⟩
theorem At_block_hit {id : Nat} (h : At Q .normal n fr w) : At (Exit.inBlock id Q) (.exit id) n fr w := ⟨fun a s => by
  simp only [Exit.inBlock, if_pos]; exact h.run a s⟩
theorem At_block_miss {id j : Nat} (hj : Nat.beq j id = false) (h : At Q (.exit j) n fr w) : At (Exit.inBlock id Q) (.exit j) n fr w := ⟨fun a s => by
  have : ¬ j = id := fun e => by subst e; simp at hj
  simp only [Exit.inBlock, if_neg this]; exact h.run a s⟩
theorem L_nil {ops : Array Oper} (h : At Q .normal n fr w) : L P ops Q n [] fr w := ⟨fun a s => wpList_nil (h.run a s)⟩

/-- A loop: 'I m fr w' holds at its head, the number m goes down. -/
theorem W_loop {c : Code} (I : Nat → Fr → World → Prop) {m : Nat} (h0 : I m fr w)
    (hr : ∀ m fr w, I m fr w → W P c (Exit.then (fun a w => ∃ m' fr', m' < m ∧ Sim fr' n a ∧ I m' fr' w) Q) n fr w) : W P (.loop c) Q n fr w := by
  refine ⟨fun a s b k cs => ?_⟩
  have key : ∀ m a w fr, Sim fr n a → I m fr w → ∃ e a' w', Q e a' w' ∧ Arrives P (lone (b.at a (.code c :: .inLoop c :: k)) cs w) b k cs e a' w' := by
    intro m
    induction m using Nat.strongRecOn with
    | _ m ih =>
      intro a w fr s hI
      obtain ⟨e, a₁, w₁, hq, harr⟩ := (hr m fr w hI).run a s b (.inLoop c :: k) cs
      cases e with
      | normal =>
        obtain ⟨m', fr', hlt, s', hI'⟩ := hq
        obtain ⟨e₂, a₂, w₂, hq₂, harr₂⟩ := ih m' hlt a₁ w₁ fr' s' hI'
        exact ⟨e₂, a₂, w₂, hq₂, .of_steps (Steps.trans harr (.one step_inLoop)) harr₂⟩
      | exit id => exact ⟨_, a₁, w₁, hq, .pass (x := .inLoop c) rfl (fun _ _ => .inl (by simp)) harr⟩
      | goto l => exact ⟨_, a₁, w₁, hq, .pass (x := .inLoop c) rfl (fun _ _ => .inl (by simp)) harr⟩
      | ret => exact ⟨_, a₁, w₁, hq, .pass (x := .inLoop c) rfl (fun _ _ => .inl (by simp)) harr⟩
      | panic ch => exact ⟨_, a₁, w₁, hq, .pass (x := .inLoop c) rfl (fun _ _ => .inl (by simp)) harr⟩
      | outgrown => exact ⟨_, a₁, w₁, hq, .pass (x := .inLoop c) rfl (fun _ _ => .inl (by simp)) harr⟩
  obtain ⟨e, a', w', hq, harr⟩ := key m a w fr s h0
  exact ⟨e, a', w', hq, .of_steps (.one step_loop) harr⟩

theorem W_loopF {c : Code} (I : Nat → Fr → World → Prop) (m : Nat) (gr : Fr) (hs : ∀ t v, gr.get t = some v → fr.get t = some v) (h0 : I m gr w)
    (hr : ∀ m fr w, I m fr w → W P c (Exit.then (fun a w => ∃ m' fr', m' < m ∧ Sim fr' n a ∧ I m' fr' w) Q) n fr w) : W P (.loop c) Q n fr w :=
  W_forget gr hs (W_loop I h0 hr)

/-- A loop's round ends. -/
theorem At_round {I : Nat → Fr → World → Prop} {m : Nat} (m' : Nat) (gr : Fr) (hs : ∀ t v, gr.get t = some v → fr.get t = some v) (hm : m' < m) (hI : I m' gr w) :
    At (Exit.then (fun a w => ∃ m' fr', m' < m ∧ Sim fr' n a ∧ I m' fr' w) Q) .normal n fr w :=
  ⟨fun _ s => ⟨m', gr, hm, s.of_slots hs, hI⟩⟩

/-! ### Calls: what a contract says, and the end of a call -/
def Ret (R : Value → World → Prop) (e : Ending) (w : World) : Prop := ∃ v, e = .returned v ∧ R v w
structure Cl (P : Program) (f : FuncId) (vs : List Value) (w : World) (R : Value → World → Prop) : Prop where
  run : Calls P f vs.toArray w (Ret R)
/-- The value v, and nothing that was there has changed. -/
def V (w : World) (v : Value) (u : Value) (w' : World) : Prop := u = v ∧ Below w.heap.size w w'
theorem Cl.mono {P : Program} {f : FuncId} {vs : List Value} {w : World} {R R' : Value → World → Prop} (h : Cl P f vs w R) (hr : ∀ v w', R v w' → R' v w') : Cl P f vs w R' :=
  ⟨h.run.mono fun _ _ ⟨v, he, hv⟩ => ⟨v, he, hr _ _ hv⟩⟩

theorem At_end1 {fn : Func} {R : Value → World → Prop} {t : Nat} {v : Value} (hres : fn.results = #[.tmp t]) (hv : fr.get t = some v) (hR : R v w) :
    At (bodyPost P fn (Ret R)) .ret n fr w := ⟨fun a s =>
  ⟨s.defers, v, by rw [results_tmp hres, s.getD hv], v, rfl, hR⟩⟩
theorem At_end1n {fn : Func} {R : Value → World → Prop} {t : Nat} {v : Value} (hres : fn.results = #[.tmp t]) (hv : fr.get t = some v) (hR : R v w) :
    At (bodyPost P fn (Ret R)) .normal n fr w := ⟨fun a s =>
  ⟨s.defers, v, by rw [results_tmp hres, s.getD hv], v, rfl, hR⟩⟩
theorem At_end2 {fn : Func} {R : Value → World → Prop} {t u : Nat} {x y : Value} (hres : fn.results = #[.tmp t, .tmp u]) (hx : fr.get t = some x) (hy : fr.get u = some y) (hR : R (.tuple #[x, y]) w) :
    At (bodyPost P fn (Ret R)) .ret n fr w := ⟨fun a s =>
  ⟨s.defers, _, by rw [results_tmp2 hres, s.getD hx, s.getD hy], _, rfl, hR⟩⟩
theorem At_end0 {fn : Func} {R : Value → World → Prop} (hres : fn.results = #[]) (hR : R (.tuple #[]) w) :
    At (bodyPost P fn (Ret R)) .ret n fr w := ⟨fun a s =>
  ⟨s.defers, _, by rw [results_none hres], _, rfl, hR⟩⟩
theorem At_end0n {fn : Func} {R : Value → World → Prop} (hres : fn.results = #[]) (hR : R (.tuple #[]) w) :
    At (bodyPost P fn (Ret R)) .normal n fr w := ⟨fun a s =>
  ⟨s.defers, _, by rw [results_none hres], _, rfl, hR⟩⟩

/-- A call begins: its parameters lie in the first slots. -/
def startFr : Nat → List Value → Fr
  | _, [] => []
  | k, v :: r => (k, v) :: startFr (k + 1) r

theorem startFr_get (vs : List Value) : ∀ (k t : Nat) (v : Value), (startFr k vs).get t = some v → k ≤ t ∧ vs[t - k]? = some v := by
  induction vs with
  | nil => intro k t v h; simp [startFr, Fr.get] at h
  | cons u r ih =>
    intro k t v h
    simp only [startFr, Fr.get] at h
    by_cases hk : k = t
    · subst hk; simp at h; subst h; simp
    · have hb : Nat.beq k t = false := by
        cases hb : Nat.beq k t
        · rfl
        · exact absurd (Nat.eq_of_beq_eq_true hb) hk
      rw [hb] at h
      obtain ⟨h1, h2⟩ := ih (k + 1) t v h
      refine ⟨by omega, ?_⟩
      rw [show t - k = (t - (k + 1)) + 1 by omega]
      simpa using h2

theorem calls_start {f : FuncId} {fn : Func} {c : Code} {vs : List Value} {R : Value → World → Prop} (N : Nat) (hf : P.funcs[f]? = some fn) (hb : fn.body = some c)
    (hN : fn.ntmps = N) (hl : Nat.ble vs.length N = true) (h : W P c (bodyPost P fn (Ret R)) N (startFr 0 vs) w) : Cl P f vs w R := by
  have hl' : vs.length ≤ N := Nat.le_of_ble_eq_true hl
  refine ⟨calls_of_wp hf hb (h.run _ ⟨by simp [hN]; omega, rfl, ?_⟩)⟩
  intro t v e
  obtain ⟨-, h2⟩ := startFr_get vs 0 t v e
  have h3 : vs[t]? = some v := by simpa using h2
  have h4 : t < vs.length := (List.getElem?_eq_some_iff.1 h3).1
  rw [Array.getElem?_append_left (by simpa using h4)]
  simpa using h3

end rules
end Go.Proofs.YtjobbcdolbhadaaGreatDoor


namespace Go.Proofs.YtjobbcdolbhadaaGreatDoor
set_option linter.unusedVariables false
set_option linter.unusedSimpArgs false
open Go Go.RowKit

section ops
variable {P : Program} {ops : Array Oper} {Q : Exit → Act → World → Prop} {n : Nat} {fr : Fr} {w : World} {rest : List Oper}
variable {d : Nat} {ty : TypeId} {pos : String} {af : Array Edge}

/-- What an operation does is told by the slots that it names. -/
theorem L_run {o : Oper} (hg : o.guard = none) (hd : o.dst = some d) (hdn : Nat.blt d n = true) {v : Value} {w' : World}
    (hrun : ∀ ρ : Operand → Value, (∀ x u, fr.ev x = some u → ρ x = u) → (execOp ρ o).run P w = .ok (.value v) w')
    (k : L P ops Q n rest ((d, v) :: fr) w') : L P ops Q n (o :: rest) fr w := by
  refine ⟨fun a s => ?_⟩
  unfold wpList
  rw [if_pos (by simp [Region.wanted, hg])]
  refine .inl ?_
  unfold Oper.wp
  rw [hrun a.eval (fun x u e => s.ev e)]
  simp only [Oper.upon, hd]
  exact k.run _ (s.put hdn)

/-- Operation o, its operands read off the slots, hands back v and leaves the world. -/
structure Does (P : Program) (o : Oper) (fr : Fr) (w : World) (v : Value) : Prop where
  run : ∀ ρ : Operand → Value, (∀ x u, fr.ev x = some u → ρ x = u) → (execOp ρ o).run P w = .ok (.value v) w

theorem L_do {o : Oper} {v : Value} (hg : o.guard = none) (hd : o.dst = some d) (hdn : Nat.blt d n = true) (h : Does P o fr w v) (k : L P ops Q n rest ((d, v) :: fr) w) : L P ops Q n (o :: rest) fr w :=
  L_run hg hd hdn h.run k

theorem L_run_skip {o : Oper} (hg : o.guard = none) (hd : o.dst = none) {w' : World}
    (hrun : ∀ ρ : Operand → Value, (∀ x u, fr.ev x = some u → ρ x = u) → (execOp ρ o).run P w = .ok .skip w')
    (k : L P ops Q n rest fr w') : L P ops Q n (o :: rest) fr w := by
  refine ⟨fun a s => ?_⟩
  unfold wpList
  rw [if_pos (by simp [Region.wanted, hg])]
  refine .inl ?_
  unfold Oper.wp
  rw [hrun a.eval (fun x u e => s.ev e)]
  simp only [Oper.upon, hd]
  exact k.run _ s

/-! ### Guards -/
theorem yielded_of {a : Act} {j t : Nat} {b : Bool} (s : Sim fr n a) (ht : (ops[j]?).bind (·.dst) = some t) (hb : fr.get t = some (.bool b)) : yielded ops a.tmps j = some b := by
  have := s.slot t _ hb
  simp [yielded, ht, this]

theorem L_guard_yes {dst : Option Nat} {op : Op} {j t : Nat} {b : Bool} (ht : (ops[j]?).bind (·.dst) = some t) (hb : fr.get t = some (.bool b))
    (k : L P ops Q n (⟨dst, op, ty, pos, af, none⟩ :: rest) fr w) : L P ops Q n (⟨dst, op, ty, pos, af, some (j, b)⟩ :: rest) fr w := by
  refine ⟨fun a s => ?_⟩
  have h := k.run a s
  unfold wpList at h ⊢
  rw [if_pos (by simp [Region.wanted])] at h
  rw [if_pos (by simp [Region.wanted, yielded_of s ht hb])]
  exact h

theorem L_guard_no {op : Op} {j t : Nat} {b c : Bool} (ht : (ops[j]?).bind (·.dst) = some t) (hb : fr.get t = some (.bool b)) (hc : (b == c) = false) (hdn : Nat.blt d n = true)
    (k : L P ops Q n rest ((d, undef) :: fr) w) : L P ops Q n (⟨some d, op, ty, pos, af, some (j, c)⟩ :: rest) fr w := by
  refine ⟨fun a s => ?_⟩
  unfold wpList
  have hne : ¬ (b = c) := by simpa using hc
  rw [if_neg (by simp [Region.wanted, yielded_of s ht hb, hne])]
  exact k.run _ (s.put hdn)

theorem L_guard_no' {op : Op} {j t : Nat} {b c : Bool} (ht : (ops[j]?).bind (·.dst) = some t) (hb : fr.get t = some (.bool b)) (hc : (b == c) = false)
    (k : L P ops Q n rest fr w) : L P ops Q n (⟨none, op, ty, pos, af, some (j, c)⟩ :: rest) fr w := by
  refine ⟨fun a s => ?_⟩
  unfold wpList
  have hne : ¬ (b = c) := by simpa using hc
  rw [if_neg (by simp [Region.wanted, yielded_of s ht hb, hne])]
  exact k.run _ s

/-- A guard that is not decided parts the way in two. -/
theorem L_guard_split {dst : Option Nat} {op : Op} {j t : Nat} {c b : Bool} (_ : (ops[j]?).bind (·.dst) = some t) (hb : fr.get t = some (.bool b))
    (h1 : b = true → L P ops Q n (⟨dst, op, ty, pos, af, some (j, c)⟩ :: rest) ((t, .bool true) :: fr) w)
    (h2 : b = false → L P ops Q n (⟨dst, op, ty, pos, af, some (j, c)⟩ :: rest) ((t, .bool false) :: fr) w) :
    L P ops Q n (⟨dst, op, ty, pos, af, some (j, c)⟩ :: rest) fr w := by
  refine ⟨fun a s => ?_⟩
  have sub : ∀ v, Value.bool b = v → Sim ((t, v) :: fr) n a := fun v e => s.of_slots (get_cons_slots (by rw [hb, e]) (fun _ _ h => h))
  cases b with
  | true => exact (h1 rfl).run a (sub _ rfl)
  | false => exact (h2 rfl).run a (sub _ rfl)

/-- The guard itself was not carried out. -/
theorem L_guard_undef {op : Op} {j t : Nat} {c : Bool} (ht : (ops[j]?).bind (·.dst) = some t) (hb : fr.get t = some undef) (hdn : Nat.blt d n = true)
    (k : L P ops Q n rest ((d, undef) :: fr) w) : L P ops Q n (⟨some d, op, ty, pos, af, some (j, c)⟩ :: rest) fr w := by
  refine ⟨fun a s => ?_⟩
  unfold wpList
  have := s.slot t _ hb
  rw [if_neg (by simp [Region.wanted, yielded, ht, this, undef])]
  exact k.run _ (s.put hdn)

/-- A guard over a decided proposition. -/
theorem L_guard_dec {dst : Option Nat} {op : Op} {j t : Nat} {c : Bool} {p : Prop} [Decidable p] (ht : (ops[j]?).bind (·.dst) = some t) (hb : fr.get t = some (.bool (decide p)))
    (h1 : p → L P ops Q n (⟨dst, op, ty, pos, af, some (j, c)⟩ :: rest) ((t, .bool true) :: fr) w)
    (h2 : ¬ p → L P ops Q n (⟨dst, op, ty, pos, af, some (j, c)⟩ :: rest) ((t, .bool false) :: fr) w) :
    L P ops Q n (⟨dst, op, ty, pos, af, some (j, c)⟩ :: rest) fr w :=
  L_guard_split ht hb (fun e => h1 (of_decide_eq_true e)) (fun e => h2 (of_decide_eq_false e))
theorem W_cond_dec {c : Operand} {x y : Code} {p : Prop} [Decidable p] (hc : fr.ev c = some (.bool (decide p))) (ht : p → W P x Q n fr w) (hf : ¬ p → W P y Q n fr w) : W P (.cond c x y) Q n fr w :=
  W_cond hc (fun e => ht (of_decide_eq_true e)) (fun e => hf (of_decide_eq_false e))
theorem W_cond_split {c : Operand} {x y : Code} {b : Bool} (hc : fr.ev c = some (.bool b)) (ht : b = true → W P x Q n fr w) (hf : b = false → W P y Q n fr w) : W P (.cond c x y) Q n fr w := W_cond hc ht hf

/-! ### Regions that draw their order and only read (but for memory that their calls make) -/
structure LQ (P : Program) (ops : Array Oper) (C : World → Prop) (Q : Act → Prop) (n : Nat) (l : List Oper) (fr : Fr) : Prop where
  run : ∀ a, Sim fr n a → wpQuiet P ops C Q l a

theorem W_region_quiet {id : Nat} {l : List Oper} (C : World → Prop) (hm : P.follows .mixedOrders = true) (hB : Region.lexB .any l.toArray = true) (hC : C { w with drawn := w.drawn + 1 })
    (h : LQ P l.toArray C (fun a => ∀ w', C w' → Q .normal a w') n l fr) : W P (.region id l.toArray true) Q n fr w := ⟨fun a s =>
  wp_region_quiet hm hB hC (by simpa using h.run a s)⟩

variable {C : World → Prop} {QQ : Act → Prop}
theorem LQ_nil (h : ∀ w', C w' → At Q .normal n fr w') : LQ P ops C (fun a => ∀ w', C w' → Q .normal a w') n [] fr := ⟨fun a s => wpQuiet_nil (fun w' hw' => (h w' hw').run a s)⟩

theorem LQ_quiet {o : Oper} (hg : o.guard = none) (hd : o.dst = some d) (hdn : Nat.blt d n = true) {v : Value}
    (h : ∀ a, Sim fr n a → ∀ w', C w' → o.quietAt P a C w' v) (k : LQ P ops C QQ n rest ((d, v) :: fr)) : LQ P ops C QQ n (o :: rest) fr := by
  refine ⟨fun a s => ?_⟩
  unfold wpQuiet
  rw [if_pos (by simp [Region.wanted, hg])]
  exact ⟨v, h a s, by rw [hd]; exact k.run _ (s.put hdn)⟩

theorem LQ_do {o : Oper} (hg : o.guard = none) (hd : o.dst = some d) (hdn : Nat.blt d n = true) {v : Value}
    (h : ∀ w', C w' → Does P o fr w' v) (k : LQ P ops C QQ n rest ((d, v) :: fr)) : LQ P ops C QQ n (o :: rest) fr :=
  LQ_quiet hg hd hdn (fun a s w' hw' => by
    unfold Oper.quietAt
    rw [(h w' hw').run a.eval (fun x u e => s.ev e)]
    exact ⟨rfl, rfl⟩) k

theorem LQ_guard_yes {dst : Option Nat} {op : Op} {j t : Nat} {b : Bool} (ht : (ops[j]?).bind (·.dst) = some t) (hb : fr.get t = some (.bool b))
    (k : LQ P ops C QQ n (⟨dst, op, ty, pos, af, none⟩ :: rest) fr) : LQ P ops C QQ n (⟨dst, op, ty, pos, af, some (j, b)⟩ :: rest) fr := by
  refine ⟨fun a s => ?_⟩
  have h := k.run a s
  unfold wpQuiet at h ⊢
  rw [if_pos (by simp [Region.wanted])] at h
  rw [if_pos (by simp [Region.wanted, yielded_of s ht hb])]
  exact h

theorem LQ_guard_no {op : Op} {j t : Nat} {b c : Bool} (ht : (ops[j]?).bind (·.dst) = some t) (hb : fr.get t = some (.bool b)) (hc : (b == c) = false) (hdn : Nat.blt d n = true)
    (k : LQ P ops C QQ n rest ((d, undef) :: fr)) : LQ P ops C QQ n (⟨some d, op, ty, pos, af, some (j, c)⟩ :: rest) fr := by
  refine ⟨fun a s => ?_⟩
  unfold wpQuiet
  have hne : ¬ (b = c) := by simpa using hc
  rw [if_neg (by simp [Region.wanted, yielded_of s ht hb, hne])]
  exact k.run _ (s.put hdn)

theorem LQ_guard_split {dst : Option Nat} {op : Op} {j t : Nat} {c b : Bool} (_ : (ops[j]?).bind (·.dst) = some t) (hb : fr.get t = some (.bool b))
    (h1 : b = true → LQ P ops C QQ n (⟨dst, op, ty, pos, af, some (j, c)⟩ :: rest) ((t, .bool true) :: fr))
    (h2 : b = false → LQ P ops C QQ n (⟨dst, op, ty, pos, af, some (j, c)⟩ :: rest) ((t, .bool false) :: fr)) :
    LQ P ops C QQ n (⟨dst, op, ty, pos, af, some (j, c)⟩ :: rest) fr := by
  refine ⟨fun a s => ?_⟩
  have sub : ∀ v, Value.bool b = v → Sim ((t, v) :: fr) n a := fun v e => s.of_slots (get_cons_slots (by rw [hb, e]) (fun _ _ h => h))
  cases b with
  | true => exact (h1 rfl).run a (sub _ rfl)
  | false => exact (h2 rfl).run a (sub _ rfl)

theorem LQ_guard_undef {op : Op} {j t : Nat} {c : Bool} (ht : (ops[j]?).bind (·.dst) = some t) (hb : fr.get t = some undef) (hdn : Nat.blt d n = true)
    (k : LQ P ops C QQ n rest ((d, undef) :: fr)) : LQ P ops C QQ n (⟨some d, op, ty, pos, af, some (j, c)⟩ :: rest) fr := by
  refine ⟨fun a s => ?_⟩
  unfold wpQuiet
  have := s.slot t _ hb
  rw [if_neg (by simp [Region.wanted, yielded, ht, this, undef])]
  exact k.run _ (s.put hdn)

theorem LQ_guard_dec {dst : Option Nat} {op : Op} {j t : Nat} {c : Bool} {p : Prop} [Decidable p] (ht : (ops[j]?).bind (·.dst) = some t) (hb : fr.get t = some (.bool (decide p)))
    (h1 : p → LQ P ops C QQ n (⟨dst, op, ty, pos, af, some (j, c)⟩ :: rest) ((t, .bool true) :: fr))
    (h2 : ¬ p → LQ P ops C QQ n (⟨dst, op, ty, pos, af, some (j, c)⟩ :: rest) ((t, .bool false) :: fr)) :
    LQ P ops C QQ n (⟨dst, op, ty, pos, af, some (j, c)⟩ :: rest) fr :=
  LQ_guard_split ht hb (fun e => h1 (of_decide_eq_true e)) (fun e => h2 (of_decide_eq_false e))

/-! ### Moves, tests, arithmetic -/
theorem do_move {x : Operand} {v : Value} (hx : fr.ev x = some v) : Does P ⟨some d, .move x, ty, pos, af, none⟩ fr w v := ⟨fun ρ h => by rw [← h x v hx]; rfl⟩
theorem do_assign {x : Operand} {v : Value} (hx : fr.ev x = some v) : Does P ⟨some d, .assign x, ty, pos, af, none⟩ fr w v := ⟨fun ρ h => by rw [← h x v hx]; rfl⟩
theorem do_notDec {x : Operand} {p : Prop} [Decidable p] {t : TypeId} (hx : fr.ev x = some (.bool (decide p))) : Does P ⟨some d, .unOp .not t x, ty, pos, af, none⟩ fr w (.bool (decide (¬ p))) :=
  ⟨fun ρ h => by simp [execOp, h x _ hx, Op.unary, go_sem]⟩
theorem do_pick_true {c x y : Operand} {v : Value} (hc : fr.ev c = some (.bool true)) (hx : fr.ev x = some v) : Does P ⟨some d, .pick c x y, ty, pos, af, none⟩ fr w v :=
  ⟨fun ρ h => by simp [execOp, h c _ hc, h x _ hx, asBool, go_sem]⟩
theorem do_pick_false {c x y : Operand} {v : Value} (hc : fr.ev c = some (.bool false)) (hy : fr.ev y = some v) : Does P ⟨some d, .pick c x y, ty, pos, af, none⟩ fr w v :=
  ⟨fun ρ h => by simp [execOp, h c _ hc, h y _ hy, asBool, go_sem]⟩
theorem do_not {x : Operand} {b : Bool} {t : TypeId} (hx : fr.ev x = some (.bool b)) : Does P ⟨some d, .unOp .not t x, ty, pos, af, none⟩ fr w (.bool (!b)) :=
  ⟨fun ρ h => by simp [execOp, h x _ hx, Op.unary, go_sem]⟩

/-- What a comparison of integers yields. -/
def cmpInt : BinOp → Int → Int → Option Bool
  | .eql, x, y => some (decide (x = y))
  | .neq, x, y => some (decide (¬ x = y))
  | .lss, x, y => some (decide (x < y))
  | .leq, x, y => some (decide (x ≤ y))
  | .gtr, x, y => some (decide (y < x))
  | .geq, x, y => some (decide (y ≤ x))
  | _, _, _ => none

theorem do_cmp {op : BinOp} {t t' : TypeId} {x y : Operand} {k : IntKind} {i j : Int} {b : Bool} (hx : fr.ev x = some (.int k i)) (hy : fr.ev y = some (.int k j)) (hb : cmpInt op i j = some b) :
    Does P ⟨some d, .binOp op t x y t', ty, pos, af, none⟩ fr w (.bool b) := ⟨fun ρ h => by
  have h1 : decide (i = j) = (i == j) := by rw [Bool.eq_iff_iff]; simp
  have h2 : decide (¬ i = j) = (i != j) := by rw [Bool.eq_iff_iff]; simp
  cases op <;> simp only [cmpInt, Option.some.injEq, reduceCtorEq, h1, h2] at hb <;> rw [← hb] <;> unfold execOp <;> simp [h x _ hx, h y _ hy, eqGuard_at_int, binOp_eql, binOp_neq, binOp_lss, binOp_leq, binOp_gtr, binOp_geq]⟩

theorem do_add {t t' : TypeId} {x y : Operand} {i j : Int} (hx : fr.ev x = some (.int .i64 i)) (hy : fr.ev y = some (.int .i64 j))
    (hr : -9223372036854775808 ≤ i + j ∧ i + j ≤ 9223372036854775807) : Does P ⟨some d, .binOp .add t x y t', ty, pos, af, none⟩ fr w (.int .i64 (i + j)) := ⟨fun ρ h => by
  have := IntWalk.i64_in (i + j) hr
  simp [execOp, h x _ hx, h y _ hy, eqGuard_add, binOp_add, Op.intArith, this, go_sem]⟩
theorem do_sub {t t' : TypeId} {x y : Operand} {i j : Int} (hx : fr.ev x = some (.int .i64 i)) (hy : fr.ev y = some (.int .i64 j))
    (hr : -9223372036854775808 ≤ i - j ∧ i - j ≤ 9223372036854775807) : Does P ⟨some d, .binOp .sub t x y t', ty, pos, af, none⟩ fr w (.int .i64 (i - j)) := ⟨fun ρ h => by
  have := IntWalk.i64_in (i - j) hr
  simp [execOp, h x _ hx, h y _ hy, eqGuard_sub, binOp_sub, Op.intArith, this, go_sem]⟩
theorem do_mul {t t' : TypeId} {x y : Operand} {i j : Int} (hx : fr.ev x = some (.int .i64 i)) (hy : fr.ev y = some (.int .i64 j))
    (hr : -9223372036854775808 ≤ i * j ∧ i * j ≤ 9223372036854775807) : Does P ⟨some d, .binOp .mul t x y t', ty, pos, af, none⟩ fr w (.int .i64 (i * j)) := ⟨fun ρ h => by
  have := IntWalk.i64_in (i * j) hr
  simp [execOp, h x _ hx, h y _ hy, eqGuard_mul, binOp_mul, Op.intArith, this, go_sem]⟩
theorem do_rem {t t' : TypeId} {x y : Operand} {i j : Int} (hx : fr.ev x = some (.int .i64 i)) (hy : fr.ev y = some (.int .i64 j))
    (hi : 0 ≤ i) (hj : 0 < j) : Does P ⟨some d, .binOp .rem t x y t', ty, pos, af, none⟩ fr w (.int .i64 (i % j)) := ⟨fun ρ h => by
  have h0 : ¬ j = 0 := by omega
  have h1 : i.tmod j = i % j := Int.tmod_eq_emod_of_nonneg hi
  simp [execOp, h x _ hx, h y _ hy, eqGuard_rem, binOp_rem, Op.intDiv, h0, h1, go_sem]⟩
theorem do_quo {t t' : TypeId} {x y : Operand} {i j : Int} (hx : fr.ev x = some (.int .i64 i)) (hy : fr.ev y = some (.int .i64 j))
    (hi : 0 ≤ i ∧ i ≤ 9223372036854775807) (hj : 0 < j) : Does P ⟨some d, .binOp .quo t x y t', ty, pos, af, none⟩ fr w (.int .i64 (i / j)) := ⟨fun ρ h => by
  have h0 : ¬ j = 0 := by omega
  have h1 := IntWalk.i64_quo i j ⟨hi.1, hi.2, by omega⟩
  simp [execOp, h x _ hx, h y _ hy, eqGuard_quo, binOp_quo, Op.intDiv, h0, h1, go_sem]⟩

/-- A string's value. -/
def mk (s : List UInt8) : ByteArray := ⟨s.toArray⟩
theorem ByteArray.toList_loop (b : ByteArray) : ∀ (k i : Nat) (r : List UInt8), b.size - i = k → ByteArray.toList.loop b i r = r.reverse ++ b.data.toList.drop i := by
  intro k
  induction k with
  | zero =>
    intro i r h
    rw [ByteArray.toList.loop, if_neg (by omega), List.drop_eq_nil_of_le (by have : b.data.size = b.size := rfl; simp; omega)]
    simp
  | succ k ih =>
    intro i r h
    rw [ByteArray.toList.loop, if_pos (by omega), ih (i + 1) _ (by omega)]
    have hi : i < b.data.toList.length := by have : b.data.size = b.size := rfl; simp; omega
    rw [List.drop_eq_getElem_cons hi, List.reverse_cons, List.append_assoc]
    congr 1
    show [b.get! i] ++ _ = _
    have : b.get! i = b.data.toList[i] := by
      have hi' : i < b.data.size := by simpa using hi
      show b.data[i]! = _
      rw [getElem!_pos b.data i hi']
      simp
    rw [this]; rfl
theorem mk_toList (s : List UInt8) : (mk s).toList = s := by
  unfold ByteArray.toList
  rw [ByteArray.toList_loop (mk s) _ 0 [] rfl]
  simp [mk]
theorem mk_size (s : List UInt8) : (mk s).size = s.length := by simp [mk, ByteArray.size]
theorem mk_append (s t : List UInt8) : mk s ++ mk t = mk (s ++ t) := by
  apply ByteArray.ext; simp [mk]
theorem mk_inj {s t : List UInt8} (h : mk s = mk t) : s = t := by rw [← mk_toList s, h, mk_toList]

/-- What a comparison of strings yields. -/
def cmpStr : BinOp → List UInt8 → List UInt8 → Option Bool
  | .eql, x, y => some (decide (x = y))
  | .neq, x, y => some (decide (¬ x = y))
  | .lss, x, y => some (Op.bytesLess x y)
  | .leq, x, y => some (Op.bytesLess x y || decide (x = y))
  | .gtr, x, y => some (!(Op.bytesLess x y || decide (x = y)))
  | .geq, x, y => some (!Op.bytesLess x y)
  | _, _, _ => none
theorem do_cmpStr {op : BinOp} {t t' : TypeId} {x y : Operand} {i j : List UInt8} {b : Bool} (hx : fr.ev x = some (.string (mk i))) (hy : fr.ev y = some (.string (mk j))) (hb : cmpStr op i j = some b) :
    Does P ⟨some d, .binOp op t x y t', ty, pos, af, none⟩ fr w (.bool b) := ⟨fun ρ h => by
  have h1 : decide (i = j) = (i == j) := by rw [Bool.eq_iff_iff]; simp
  have h2 : decide (¬ i = j) = !(i == j) := by rw [Bool.eq_iff_iff]; simp
  cases op <;> simp only [cmpStr, Option.some.injEq, reduceCtorEq, h1, h2] at hb <;> rw [← hb] <;> unfold execOp <;> simp [h x _ hx, h y _ hy, binOp, Op.stringOp, eqGuard_at_string, mk_toList]⟩
theorem do_concat {t t' : TypeId} {x y : Operand} {i j : List UInt8} (hx : fr.ev x = some (.string (mk i))) (hy : fr.ev y = some (.string (mk j))) (hr : i.length + j.length ≤ 9223372036854775807) :
    Does P ⟨some d, .binOp .add t x y t', ty, pos, af, none⟩ fr w (.string (mk (i ++ j))) := ⟨fun ρ h => by
  unfold execOp
  simp [h x _ hx, h y _ hy, binOp, Op.stringOp, eqGuard_add, mk_size, mk_append]
  omega⟩
theorem run_equalIn_bool (dp : Nat) {t : TypeId} (ht : P.underlying t = some .bool) (i j : Bool) : (Op.equalIn (dp + 1) t (.bool i) (.bool j)).run P w = .ok (i == j) w := by
  simp [Op.equalIn, run_underlying ht]
theorem run_eqBool {t : TypeId} (ht : P.underlying t = some .bool) (i j : Bool) : (Op.equal t (.bool i) (.bool j)).run P w = .ok (i == j) w := run_equalIn_bool 9999 ht i j
theorem do_eqBool {t t' : TypeId} (ht : P.underlying t = some .bool) {x y : Operand} {i j : Bool} (hx : fr.ev x = some (.bool i)) (hy : fr.ev y = some (.bool j)) :
    Does P ⟨some d, .binOp .eql t x y t', ty, pos, af, none⟩ fr w (.bool (i == j)) := ⟨fun ρ h => by
  have h1 : (binOp .eql t (.bool i) (.bool j)) = (do pure (.bool (← Op.equal t (.bool i) (.bool j)))) := rfl
  have h2 : (binOp .eql t (.bool i) (.bool j)).run P w = .ok (.bool (i == j)) w := by rw [h1]; simp [run_eqBool ht]
  unfold execOp
  simp [h x _ hx, h y _ hy, eqGuard_at_bool, h2]⟩
theorem do_neBool {t t' : TypeId} (ht : P.underlying t = some .bool) {x y : Operand} {i j : Bool} (hx : fr.ev x = some (.bool i)) (hy : fr.ev y = some (.bool j)) :
    Does P ⟨some d, .binOp .neq t x y t', ty, pos, af, none⟩ fr w (.bool (!(i == j))) := ⟨fun ρ h => by
  have h1 : (binOp .neq t (.bool i) (.bool j)) = (do pure (.bool (!(← Op.equal t (.bool i) (.bool j))))) := rfl
  have h2 : (binOp .neq t (.bool i) (.bool j)).run P w = .ok (.bool (!(i == j))) w := by rw [h1]; simp [run_eqBool ht]
  unfold execOp
  simp [h x _ hx, h y _ hy, eqGuard_at_bool, h2]⟩
theorem do_extract {x : Operand} {vs : Array Value} {i : Nat} {v : Value} (hx : fr.ev x = some (.tuple vs)) (hi : vs[i]? = some v) : Does P ⟨some d, .extract x i, ty, pos, af, none⟩ fr w v :=
  ⟨fun ρ h => by simp [execOp, h x _ hx, Instr.extract, hi, go_sem]⟩

/-! ### Calls -/
/-- Function f has a body, and a call enters it. -/
class Enters (P : Program) (f : FuncId) : Prop where
  run : ∀ (args : Array Value) (w : World), (callFunc f args).run P w = .ok (.enter f args) w

theorem enters_of {P : Program} {f : FuncId} {fn : Func} (hf : P.funcs[f]? = some fn) (hn : (fn.name == "runtime.NumGoroutine") = false) (hb : fn.body.isNone = false) : Enters P f :=
  ⟨fun args w => by
    unfold callFunc
    simp only [program, bind, Sem.bind, Sem.run, hf]
    simp [hn, hb]⟩

theorem run_call {f : FuncId} [he : Enters P f] {xs : List Operand} {ats : Array TypeId} {vs : List Value} {dst : Option Nat} {a : Act} (s : Sim fr n a) (hx : fr.evs xs = some vs) (w : World) :
    (execOp a.eval ⟨dst, .call ⟨.value (.func f), xs.toArray, ats⟩, ty, pos, af, none⟩).run P w = .ok (.enter f vs.toArray) w := by
  have hargs : (Array.map a.eval xs.toArray) = vs.toArray := by rw [List.map_toArray, s.evs hx]
  have h1 := he.run vs.toArray w
  simp [go_sem, hargs, h1]

theorem L_call {f : FuncId} [he : Enters P f] {xs : List Operand} {ats : Array TypeId} {vs : List Value} {R : Value → World → Prop}
    (hx : fr.evs xs = some vs) (hdn : Nat.blt d n = true) (hc : Cl P f vs w R)
    (kk : ∀ v w', R v w' → L P ops Q n rest ((d, v) :: fr) w') :
    L P ops Q n (⟨some d, .call ⟨.value (.func f), xs.toArray, ats⟩, ty, pos, af, none⟩ :: rest) fr w := by
  refine ⟨fun a s => ?_⟩
  unfold wpList
  rw [if_pos (by simp [Region.wanted])]
  refine .inl ?_
  unfold Oper.wp
  rw [run_call s hx w]
  simp only [Oper.upon]
  exact hc.run.mono fun e w' ⟨v, he, hR⟩ => by subst he; exact (kk v w' hR).run _ (s.put hdn)

theorem L_callV {f : FuncId} [he : Enters P f] {xs : List Operand} {ats : Array TypeId} {vs : List Value} {v : Value}
    (hx : fr.evs xs = some vs) (hdn : Nat.blt d n = true) (hc : Cl P f vs w (V w v))
    (kk : ∀ w', Below w.heap.size w w' → L P ops Q n rest ((d, v) :: fr) w') :
    L P ops Q n (⟨some d, .call ⟨.value (.func f), xs.toArray, ats⟩, ty, pos, af, none⟩ :: rest) fr w :=
  L_call hx hdn hc fun _ w' ⟨hu, hB⟩ => by subst hu; exact kk w' hB

theorem L_call0 {f : FuncId} [he : Enters P f] {xs : List Operand} {ats : Array TypeId} {vs : List Value} {R : Value → World → Prop}
    (hx : fr.evs xs = some vs) (hc : Cl P f vs w R)
    (kk : ∀ v w', R v w' → L P ops Q n rest fr w') :
    L P ops Q n (⟨none, .call ⟨.value (.func f), xs.toArray, ats⟩, ty, pos, af, none⟩ :: rest) fr w := by
  refine ⟨fun a s => ?_⟩
  unfold wpList
  rw [if_pos (by simp [Region.wanted])]
  refine .inl ?_
  unfold Oper.wp
  rw [run_call s hx w]
  simp only [Oper.upon]
  exact hc.run.mono fun e w' ⟨v, he, hR⟩ => by subst he; exact (kk v w' hR).run _ s

theorem LQ_call {f : FuncId} [he : Enters P f] {xs : List Operand} {ats : Array TypeId} {vs : List Value} {v : Value}
    (hx : fr.evs xs = some vs) (hdn : Nat.blt d n = true) (hc : ∀ w', C w' → Cl P f vs w' (fun u w'' => u = v ∧ C w''))
    (k : LQ P ops C QQ n rest ((d, v) :: fr)) : LQ P ops C QQ n (⟨some d, .call ⟨.value (.func f), xs.toArray, ats⟩, ty, pos, af, none⟩ :: rest) fr :=
  LQ_quiet rfl rfl hdn (fun a s w' hw' => by
    unfold Oper.quietAt
    rw [run_call s hx w']
    exact ⟨rfl, (hc w' hw').run.mono fun e w'' ⟨u, he, hu, hw''⟩ => by subst hu; exact ⟨he, hw''⟩⟩) k

theorem isL {l : List Oper} (h : L P ops Q n l fr w) : L P ops Q n l fr w := h
theorem isLQ {l : List Oper} (h : LQ P ops C QQ n l fr) : LQ P ops C QQ n l fr := h
theorem isW {c : Code} (h : W P c Q n fr w) : W P c Q n fr w := h
theorem isAt {e : Exit} (h : At Q e n fr w) : At Q e n fr w := h
theorem isGuarded {dst : Option Nat} {op : Op} {g : Nat × Bool} (h : L P ops Q n (⟨dst, op, ty, pos, af, some g⟩ :: rest) fr w) : L P ops Q n (⟨dst, op, ty, pos, af, some g⟩ :: rest) fr w := h
theorem isGuardedQ {dst : Option Nat} {op : Op} {g : Nat × Bool} (h : LQ P ops C QQ n (⟨dst, op, ty, pos, af, some g⟩ :: rest) fr) : LQ P ops C QQ n (⟨dst, op, ty, pos, af, some g⟩ :: rest) fr := h
theorem L_move {x : Operand} {v : Value} (hx : fr.ev x = some v) (hdn : Nat.blt d n = true) (k : L P ops Q n rest ((d, v) :: fr) w) : L P ops Q n (⟨some d, .move x, ty, pos, af, none⟩ :: rest) fr w :=
  L_do rfl rfl hdn (do_move hx) k
theorem L_assign {x : Operand} {v : Value} (hx : fr.ev x = some v) (hdn : Nat.blt d n = true) (k : L P ops Q n rest ((d, v) :: fr) w) : L P ops Q n (⟨some d, .assign x, ty, pos, af, none⟩ :: rest) fr w :=
  L_do rfl rfl hdn (do_assign hx) k
theorem LQ_move {x : Operand} {v : Value} (hx : fr.ev x = some v) (hdn : Nat.blt d n = true) (k : LQ P ops C QQ n rest ((d, v) :: fr)) : LQ P ops C QQ n (⟨some d, .move x, ty, pos, af, none⟩ :: rest) fr :=
  LQ_do rfl rfl hdn (fun _ _ => do_move hx) k
theorem LQ_assign {x : Operand} {v : Value} (hx : fr.ev x = some v) (hdn : Nat.blt d n = true) (k : LQ P ops C QQ n rest ((d, v) :: fr)) : LQ P ops C QQ n (⟨some d, .assign x, ty, pos, af, none⟩ :: rest) fr :=
  LQ_do rfl rfl hdn (fun _ _ => do_assign hx) k
theorem isBin {op : BinOp} {t t' : TypeId} {x y : Operand} (h : L P ops Q n (⟨some d, .binOp op t x y t', ty, pos, af, none⟩ :: rest) fr w) : L P ops Q n (⟨some d, .binOp op t x y t', ty, pos, af, none⟩ :: rest) fr w := h
theorem isBinQ {op : BinOp} {t t' : TypeId} {x y : Operand} (h : LQ P ops C QQ n (⟨some d, .binOp op t x y t', ty, pos, af, none⟩ :: rest) fr) : LQ P ops C QQ n (⟨some d, .binOp op t x y t', ty, pos, af, none⟩ :: rest) fr := h
theorem isCall {c : Call} {dst : Option Nat} (h : L P ops Q n (⟨dst, .call c, ty, pos, af, none⟩ :: rest) fr w) : L P ops Q n (⟨dst, .call c, ty, pos, af, none⟩ :: rest) fr w := h
theorem isCallQ {c : Call} {dst : Option Nat} (h : LQ P ops C QQ n (⟨dst, .call c, ty, pos, af, none⟩ :: rest) fr) : LQ P ops C QQ n (⟨dst, .call c, ty, pos, af, none⟩ :: rest) fr := h
theorem isLoad {t : TypeId} {x : Operand} {dst : Option Nat} (h : L P ops Q n (⟨dst, .load t x, ty, pos, af, none⟩ :: rest) fr w) : L P ops Q n (⟨dst, .load t x, ty, pos, af, none⟩ :: rest) fr w := h
theorem isLoadQ {t : TypeId} {x : Operand} {dst : Option Nat} (h : LQ P ops C QQ n (⟨dst, .load t x, ty, pos, af, none⟩ :: rest) fr) : LQ P ops C QQ n (⟨dst, .load t x, ty, pos, af, none⟩ :: rest) fr := h

/-- A call of a function value. -/
theorem run_callFn {f : FuncId} [he : Enters P f] {fo : Operand} {cap : List Value} {xs : List Operand} {ats : Array TypeId} {vs : List Value} {dst : Option Nat} {a : Act} (s : Sim fr n a) (hf : fr.ev fo = some (.func (.func f) #[] cap.toArray)) (hx : fr.evs xs = some vs) (w : World) :
    (execOp a.eval ⟨dst, .call ⟨.value fo, xs.toArray, ats⟩, ty, pos, af, none⟩).run P w = .ok (.enter f (vs ++ cap).toArray) w := by
  have hargs : (Array.map a.eval xs.toArray) = vs.toArray := by rw [List.map_toArray, s.evs hx]
  have h1 := he.run (vs ++ cap).toArray w
  have h2 := s.ev hf
  have h3 : vs.toArray ++ cap.toArray = (vs ++ cap).toArray := by simp
  unfold execOp resolve
  simp only [hargs, h2, Deferred.ofValue]
  simp [invoke, h3, h1]
theorem L_callFn {f : FuncId} [he : Enters P f] {fo : Operand} {cap : List Value} {xs : List Operand} {ats : Array TypeId} {vs : List Value} {v : Value}
    (hf : fr.ev fo = some (.func (.func f) #[] cap.toArray)) (hx : fr.evs xs = some vs) (hdn : Nat.blt d n = true) (hc : Cl P f (vs ++ cap) w (V w v))
    (kk : ∀ w', Below w.heap.size w w' → L P ops Q n rest ((d, v) :: fr) w') :
    L P ops Q n (⟨some d, .call ⟨.value fo, xs.toArray, ats⟩, ty, pos, af, none⟩ :: rest) fr w := by
  refine ⟨fun a s => ?_⟩
  unfold wpList
  rw [if_pos (by simp [Region.wanted])]
  refine .inl ?_
  unfold Oper.wp
  rw [run_callFn s hf hx w]
  simp only [Oper.upon]
  exact hc.run.mono fun e w' ⟨u, he, hR, hB⟩ => by subst he; subst hR; exact (kk w' hB).run _ (s.put hdn)

theorem isAllocStore {e e' ty' : TypeId} {x y : Operand} {pos' : String} {af' : Array Edge} (h : L P ops Q n (⟨some d, .alloc e, ty, pos, af, none⟩ :: ⟨none, .store e' x y, ty', pos', af', none⟩ :: rest) fr w) : L P ops Q n (⟨some d, .alloc e, ty, pos, af, none⟩ :: ⟨none, .store e' x y, ty', pos', af', none⟩ :: rest) fr w := h
theorem isBox {e : TypeId} {x : Operand} (h : L P ops Q n (⟨some d, .box e x, ty, pos, af, none⟩ :: rest) fr w) : L P ops Q n (⟨some d, .box e x, ty, pos, af, none⟩ :: rest) fr w := h
theorem isAlloc {e : TypeId} (h : L P ops Q n (⟨some d, .alloc e, ty, pos, af, none⟩ :: rest) fr w) : L P ops Q n (⟨some d, .alloc e, ty, pos, af, none⟩ :: rest) fr w := h
theorem isStore {e : TypeId} {x y : Operand} (h : L P ops Q n (⟨none, .store e x y, ty, pos, af, none⟩ :: rest) fr w) : L P ops Q n (⟨none, .store e x y, ty, pos, af, none⟩ :: rest) fr w := h
theorem isIndexAddr {t : TypeId} {x y : Operand} (h : L P ops Q n (⟨some d, .indexAddr t x y, ty, pos, af, none⟩ :: rest) fr w) : L P ops Q n (⟨some d, .indexAddr t x y, ty, pos, af, none⟩ :: rest) fr w := h

/-- What C means where a region only reads: nothing of w has changed. -/
theorem LQ_callV {w : World} {f : FuncId} [he : Enters P f] {xs : List Operand} {ats : Array TypeId} {vs : List Value} {v : Value}
    (hx : fr.evs xs = some vs) (hdn : Nat.blt d n = true) (hc : ∀ w', Below w.heap.size w w' → Cl P f vs w' (V w' v))
    (k : LQ P ops (Below w.heap.size w) QQ n rest ((d, v) :: fr)) : LQ P ops (Below w.heap.size w) QQ n (⟨some d, .call ⟨.value (.func f), xs.toArray, ats⟩, ty, pos, af, none⟩ :: rest) fr :=
  LQ_call hx hdn (fun w' hw' => (hc w' hw').mono fun u w'' ⟨hu, hB⟩ => ⟨hu, hw'.trans (hB.mono hw'.size)⟩) k

theorem W_region_Q {id : Nat} {l : List Oper} (hm : P.follows .mixedOrders = true) (hB : Region.lexB .any l.toArray = true)
    (h : LQ P l.toArray (Below w.heap.size w) (fun a => ∀ w', Below w.heap.size w w' → Q .normal a w') n l fr) : W P (.region id l.toArray true) Q n fr w :=
  W_region_quiet (Below w.heap.size w) hm hB (Below.drew (Below.refl _ _)) h

end ops
end Go.Proofs.YtjobbcdolbhadaaGreatDoor


namespace Go.Proofs.YtjobbcdolbhadaaGreatDoor
set_option linter.unusedVariables false
set_option linter.unusedSimpArgs false
open Go Go.RowKit

/-- At address a stand the cells us. -/
def Pt (w : World) (a : Addr) (us : List Value) : Prop := ∀ j u, us[j]? = some u → w.cell? (a.add j) = some u

/-- The slice value v has k elements of 'size' cells each, and its cells are us. -/
def Rd (w : World) (size : Nat) (v : Value) (k : Nat) (us : List Value) : Prop :=
  us.length = k * size ∧ ∃ a cap, v = .slice a k cap ∧ k ≤ cap ∧ cap ≤ maxLen ∧ ((a = none ∧ cap = 0) ∨ ∃ b, a = some b ∧ Pt w b us)

theorem Pt.kept {w w' : World} {a : Addr} {us : List Value} (h : Pt w a us) (hb : w'.heap[a.block]? = w.heap[a.block]?) : Pt w' a us := by
  intro j u hu
  have h1 := h j u hu
  rw [World.cell?_of_block (w := w)]
  · exact h1
  · rw [show (a.add j).block = a.block from by unfold Addr.add; split <;> rfl]; exact hb
theorem Pt.lt {w : World} {a : Addr} {us : List Value} (h : Pt w a us) (hne : us ≠ []) : a.block < w.heap.size := by
  cases us with
  | nil => exact absurd rfl hne
  | cons u r =>
    have := World.block_lt_of_cell? w _ (h 0 u rfl)
    simpa [Addr.add] using this
theorem Pt.nil (w : World) (a : Addr) : Pt w a [] := fun j u h => by simp at h
theorem Pt.take {w : World} {a : Addr} {us : List Value} (h : Pt w a us) (m : Nat) : Pt w a (us.take m) := fun j u hu => h j u (by
  rw [List.getElem?_take] at hu; split at hu
  · exact hu
  · cases hu)
theorem Addr.add_add' (a : Addr) (x y : Nat) : (a.add x).add y = a.add (x + y) := by
  unfold Addr.add
  by_cases hx : x = 0 <;> by_cases hy : y = 0 <;> simp [hx, hy, Nat.add_assoc]
theorem Pt.drop {w : World} {a : Addr} {us : List Value} (h : Pt w a us) (m : Nat) : Pt w (a.add m) (us.drop m) := fun j u hu => by
  rw [Addr.add_add']; exact h _ u (by simpa using hu)

theorem Rd.len {w : World} {size k : Nat} {v : Value} {us : List Value} (h : Rd w size v k us) : us.length = k * size := h.1
theorem Rd.kept {w w' : World} {size k : Nat} {v : Value} {us : List Value} (h : Rd w size v k us) (hb : ∀ b, v.ownBlock = some b → b < w.heap.size → w'.heap[b]? = w.heap[b]?) : Rd w' size v k us := by
  obtain ⟨h1, a, cap, rfl, h2, h3, h4⟩ := h
  refine ⟨h1, a, cap, rfl, h2, h3, ?_⟩
  rcases h4 with h4 | ⟨b, rfl, h4⟩
  · exact .inl h4
  · refine .inr ⟨b, rfl, ?_⟩
    by_cases hne : us = []
    · subst hne; exact Pt.nil _ _
    · exact h4.kept (hb b.block rfl (h4.lt hne))
theorem Rd.below {w w' : World} {size k B : Nat} {v : Value} {us : List Value} (h : Rd w size v k us) (hB : Below B w w') (hw : w.heap.size ≤ B) : Rd w' size v k us :=
  h.kept fun b _ hb => hB.block b (by omega)
theorem Rd.ext {w w' : World} {size k : Nat} {v : Value} {us : List Value} (h : Rd w size v k us) (hB : Below w.heap.size w w') : Rd w' size v k us := h.below hB (Nat.le_refl _)
theorem Pt.ext {w w' : World} {a : Addr} {us : List Value} (h : Pt w a us) (hB : Below w.heap.size w w') : Pt w' a us := by
  by_cases hne : us = []
  · subst hne; exact Pt.nil _ _
  · exact h.kept (hB.block _ (h.lt hne))
theorem Rd.own {w : World} {base e size k : Nat} {v : Value} {us : List Value} (h : w.ownsRow base e size v k us) : Rd w size v k us := by
  obtain ⟨h1, h2⟩ := h
  rcases h2 with ⟨rfl, rfl⟩ | ⟨g, cap, cur, rfl, _, hg, hk, hc, hs, ht⟩
  · exact ⟨h1, none, 0, rfl, Nat.le_refl _, Nat.zero_le _, .inl ⟨rfl, rfl⟩⟩
  · refine ⟨h1, some ⟨g, 0, none⟩, cap, rfl, hk, hc, .inr ⟨_, rfl, ?_⟩⟩
    intro j u hu
    have hadd : (⟨g, 0, none⟩ : Addr).add j = ⟨g, j, none⟩ := by unfold Addr.add; split <;> simp_all
    rw [hadd, cell_of_row w g j cur e (0, 0) hg]
    rw [← ht, List.getElem?_take] at hu
    split at hu
    · simpa using hu
    · cases hu
theorem Rd.nil (w : World) (size : Nat) : Rd w size (.slice none 0 0) 0 [] := ⟨by simp, none, 0, rfl, Nat.le_refl _, Nat.zero_le _, .inl ⟨rfl, rfl⟩⟩

/-- A step of a call that began in w0. -/
theorem below_step {w0 w w' : World} (h : Below w0.heap.size w0 w) (h' : Below w.heap.size w w') : Below w0.heap.size w0 w' :=
  h.trans (h'.mono h.size)

/-! ### Types -/
class TSlice (P : Program) (t : TypeId) (e : outParam TypeId) (size : outParam Nat) (bytes : outParam Nat) (z : outParam Value) : Prop where
  und : P.underlying t = some (.slice e)
  info : (P.info? e).map (fun i => (i.zero, i.size, i.bytes)) = some (some z, size, bytes)
  zs : z.cells.size = size
  pos : 0 < size

theorem TSlice.parts {P : Program} {t e size bytes : Nat} {z : Value} (h : TSlice P t e size bytes z) : ∃ i, P.info? e = some i ∧ i.zero = some z ∧ i.size = size ∧ i.bytes = bytes := by
  have := h.info
  cases hi : P.info? e with
  | none => simp [hi] at this
  | some i => simp [hi] at this; exact ⟨i, rfl, this.1, this.2.1, this.2.2⟩

/-- A type of one cell that is no struct and no array. -/
class TOne (P : Program) (t : TypeId) : Prop where
  und : ∃ d, P.underlying t = some d ∧ (match d with | .struct _ | .array _ _ => False | _ => True)

/-- A struct type: its fields' places; its size, its zero. -/
class TStruct (P : Program) (t : TypeId) (size : outParam Nat) (z : outParam Value) : Prop where
  und : ∃ fs, P.underlying t = some (.struct fs)
  info : (P.info? t).map (fun i => (i.zero, i.size)) = some (some z, size)

/-- Field f of struct type t: its place, its type, the cells it takes. -/
class TField (P : Program) (t : TypeId) (f : Nat) (off : outParam Nat) (ft : outParam TypeId) (size : outParam Nat) : Prop where
  und : ∃ fs, P.underlying t = some (.struct fs) ∧ ∃ fd, fs[f]? = some fd ∧ fd.offset = off ∧ fd.type = ft
  info : (P.info? ft).map (·.size) = some size
  pos : size ≠ 0

class TStr (P : Program) (t : TypeId) : Prop where
  und : P.underlying t = some .string
class TBool (P : Program) (t : TypeId) : Prop where
  und : P.underlying t = some .bool
class TZero (P : Program) (t : TypeId) (z : outParam Value) : Prop where
  info : (P.info? t).map (·.zero) = some (some z)

section
variable {P : Program} {w : World}
theorem run_isAgg_one {t : TypeId} (h : TOne P t) : (isAgg t).run P w = .ok false w := by
  obtain ⟨d, hd, hm⟩ := h.und
  have h1 := run_underlying hd w
  cases d <;> first | exact hm.elim | simp [isAgg, h1]
theorem run_isAgg_struct {t : TypeId} {fs : Array Field} (h : P.underlying t = some (.struct fs)) : (isAgg t).run P w = .ok true w := by
  have h1 := run_underlying h w
  simp [isAgg, h1]
theorem run_sizeOf' {t : TypeId} {s : Nat} (h : (P.info? t).map (·.size) = some s) : (sizeOf t).run P w = .ok s w := by
  cases hi : P.info? t with
  | none => simp [hi] at h
  | some i => simp [hi] at h; simp [sizeOf, typeInfo, hi, h, go_sem]
end

theorem setRow_alloc_new (w : World) (c cs : Array Value) (t : TypeId) : (w.alloc (.cells c t)).setRow w.heap.size cs = w.alloc (.cells cs t) := by
  simp only [World.setRow, World.alloc, World.mk.injEq, and_true]
  apply Array.ext_getElem?
  intro i
  rw [Array.getElem?_modify, Array.getElem?_push, Array.getElem?_push]
  by_cases h : w.heap.size = i
  · subst h; simp
  · rw [if_neg h, if_neg (fun e => h e.symm), if_neg (fun e => h e.symm)]

section ops
variable {P : Program} {ops : Array Oper} {Q : Exit → Act → World → Prop} {n : Nat} {fr : Fr} {w : World} {rest : List Oper}
variable {d : Nat} {ty : TypeId} {pos : String} {af : Array Edge}

theorem do_len {w' : World} {t e size bytes : Nat} {z : Value} [hT : TSlice P t e size bytes z] {x : Operand} {v : Value} {k size' : Nat} {us : List Value} (hx : fr.ev x = some v) (hR : Rd w size' v k us) :
    Does P ⟨some d, .call ⟨.builtin .len, #[x], #[t]⟩, ty, pos, af, none⟩ fr w' (.int .i64 k) := ⟨fun ρ h => by
  obtain ⟨_, a, cap, rfl, _⟩ := hR
  simp [h x _ hx, Builtin.len_, run_underlying hT.und, goInt, go_sem]⟩

theorem do_lenStr {t : TypeId} [hT : TStr P t] {x : Operand} {s : ByteArray} (hx : fr.ev x = some (.string s)) :
    Does P ⟨some d, .call ⟨.builtin .len, #[x], #[t]⟩, ty, pos, af, none⟩ fr w (.int .i64 s.size) := ⟨fun ρ h => by
  simp [h x _ hx, Builtin.len_, run_underlying hT.und, goInt, go_sem]⟩

/-- The address of element i of a slice that is written out. -/
theorem do_indexAt {t e size bytes : Nat} {z : Value} [hT : TSlice P t e size bytes z] {x ix : Operand} {b : Addr} {len cap : Nat} {kd : IntKind} {i : Int} (hx : fr.ev x = some (.slice (some b) len cap)) (hi : fr.ev ix = some (.int kd i))
    (h0 : 0 ≤ i) (h1 : i < len) : Does P ⟨some d, .indexAddr t x ix, ty, pos, af, none⟩ fr w (.pointer (some (b.add (i.toNat * size)))) := ⟨fun ρ h => by
  obtain ⟨inf, hinf, _, hsz, _⟩ := hT.parts
  simp [execOp, h x _ hx, h ix _ hi, Instr.indexAt, asIntOf, run_underlying hT.und, h0, h1, sizeOf, typeInfo, hinf, hsz, go_sem]⟩

theorem do_fieldAddr {s f off ft size : Nat} [hF : TField P s f off ft size] {x : Operand} {a : Addr} (hx : fr.ev x = some (.pointer (some a))) :
    Does P ⟨some d, .fieldAddr s x f, ty, pos, af, none⟩ fr w (.pointer (some (a.add off))) := ⟨fun ρ h => by
  obtain ⟨fs, hs, fd, hfd, rfl, rfl⟩ := hF.und
  have h1 : ∀ w, (sizeOf fd.type).run P w = .ok size w := fun w => run_sizeOf' hF.info
  simp [execOp, h x _ hx, Instr.fieldAt, run_underlying hs, hfd, Instr.sureAddr, fieldPlace, h1, hF.pos, go_sem]⟩

theorem do_load {t : TypeId} [hT : TOne P t] {x : Operand} {a : Addr} {u : Value} (hx : fr.ev x = some (.pointer (some a))) (hc : w.cell? a = some u) :
    Does P ⟨some d, .load t x, ty, pos, af, none⟩ fr w u := ⟨fun ρ h => by
  have h1 : ∀ w, (isAgg t).run P w = .ok false w := fun w => run_isAgg_one hT
  simp [execOp, h x _ hx, Instr.loadAt, Instr.sureAddr, loadVar, h1, load, Sem.run, hc, go_sem]⟩

theorem do_loadAgg {t : TypeId} {size : Nat} {z : Value} [hT : TStruct P t size z] {x : Operand} {a : Addr} {us : List Value} (hx : fr.ev x = some (.pointer (some a))) (hp : Pt w a us) (hl : us.length = size) :
    Does P ⟨some d, .load t x, ty, pos, af, none⟩ fr w (.agg us.toArray) := ⟨fun ρ h => by
  have h1 : ∀ w, (isAgg t).run P w = .ok true w := fun w => let ⟨_, hu⟩ := hT.und; run_isAgg_struct hu
  have h2 : ∀ w, (sizeOf t).run P w = .ok us.length w := fun w => by
    rw [hl]
    refine run_sizeOf' ?_
    have h0 := hT.info
    cases hi : P.info? t with
    | none => simp [hi] at h0
    | some i => simp [hi] at h0 ⊢; exact h0.2
  have h3 := run_loadCells_list (P := P) w a us (fun j v hj => hp j v hj)
  unfold loadCells at h3
  simp [execOp, h x _ hx, Instr.loadAt, Instr.sureAddr, loadVar, h1, h2, h3, go_sem]⟩

/-- The address of element i: some address that holds the element's cells. -/
theorem L_indexAddr {t e size bytes : Nat} {z : Value} [hT : TSlice P t e size bytes z] {x ix : Operand} {v : Value} {k : Nat} {us : List Value} {kd : IntKind} {i : Int} (hx : fr.ev x = some v) (hi : fr.ev ix = some (.int kd i))
    (hR : Rd w size v k us) (h0 : 0 ≤ i) (h1 : i < k) (hdn : Nat.blt d n = true)
    (kk : ∀ a : Addr, v.ownBlock = some a.block → Pt w a ((us.drop (i.toNat * size)).take size) → L P ops Q n rest ((d, .pointer (some a)) :: fr) w) :
    L P ops Q n (⟨some d, .indexAddr t x ix, ty, pos, af, none⟩ :: rest) fr w := by
  obtain ⟨hl, a, cap, rfl, _, _, h4⟩ := hR
  rcases h4 with ⟨rfl, rfl⟩ | ⟨b, rfl, hp⟩
  · omega
  · have hb : (b.add (i.toNat * size)).block = b.block := by unfold Addr.add; split <;> rfl
    exact L_do rfl rfl hdn (do_indexAt hx hi h0 h1) (kk _ (by rw [hb]; rfl) ((hp.drop _).take _))

theorem L_box {e : TypeId} {x : Operand} {v : Value} (hx : fr.ev x = some v) (hdn : Nat.blt d n = true)
    (kk : L P ops Q n rest ((d, .pointer (some ⟨w.heap.size, 0, none⟩)) :: fr) (w.alloc (.cells v.cells e))) :
    L P ops Q n (⟨some d, .box e x, ty, pos, af, none⟩ :: rest) fr w := by
  refine L_run rfl rfl hdn (fun ρ h => ?_) kk
  simp [h x _ hx, go_sem]

theorem L_alloc {e : TypeId} {z : Value} [hZ : TZero P e z] (hdn : Nat.blt d n = true)
    (kk : L P ops Q n rest ((d, .pointer (some ⟨w.heap.size, 0, none⟩)) :: fr) (w.alloc (.cells z.cells e))) :
    L P ops Q n (⟨some d, .alloc e, ty, pos, af, none⟩ :: rest) fr w := by
  refine L_run rfl rfl hdn (fun ρ h => ?_) kk
  have hz := hZ.info
  cases hi : P.info? e with
  | none => simp [hi] at hz
  | some i =>
    simp [hi] at hz
    simp [zeroValue, typeInfo, hi, hz, go_sem]

end ops
end Go.Proofs.YtjobbcdolbhadaaGreatDoor


namespace Go.Proofs.YtjobbcdolbhadaaGreatDoor
set_option linter.unusedVariables false
set_option linter.unusedSimpArgs false

abbrev Str := List UInt8

structure Cont where
  kind : Int
  value : Int
  deriving DecidableEq, Inhabited
structure Nd where
  path : Str
  c : Cont
  deriving DecidableEq, Inhabited
structure Cm where
  path : Str
  fr : Cont
  to : Cont
  deriving DecidableEq, Inhabited

/-! ### Paths -/
def isLet (b : UInt8) : Bool := 97 ≤ b.toNat && b.toNat ≤ 100
def segs : Str → Bool
  | [] => true
  | [_] => false
  | a :: b :: r => a == 47 && isLet b && segs r
def root : Str := [47]
/-- a path: the root, or one to four names -/
def pathOk (s : Str) : Bool := s == root || (segs s && 2 ≤ s.length && s.length ≤ 8)
def parent (s : Str) : Str := if s.length ≤ 2 then root else s.take (s.length - 2)
def under (a b : Str) : Bool := if a == root then b != root else (a ++ [47]).isPrefixOf b

/-! ### Contents -/
def contOk (c : Cont) : Bool := ((c.kind == 0 || c.kind == 1) && c.value == 0) || (c.kind == 2 && 0 ≤ c.value && c.value ≤ 99)
def none0 : Cont := ⟨0, 0⟩
def dir0 : Cont := ⟨1, 0⟩

/-! ### Trees -/
def find (t : List Nd) (p : Str) : Option Cont := (t.find? (fun n => n.path == p)).map (·.c)
def get (t : List Nd) (p : Str) : Cont := if p == root then dir0 else (find t p).getD none0

/-! ### Bytes, bodies, frames -/
def byteOk (n : Int) : Bool := 0 ≤ n && n ≤ 255
def bytesOk (l : List Int) : Bool := l.all byteOk
def bodyOk (l : List Int) : Bool := bytesOk l && 1 ≤ l.length && l.length ≤ 16
def bsumFrom (s : Int) (l : List Int) : Int := l.foldl (fun s b => (31 * s + b) % 251) s
def bsum (l : List Int) : Int := bsumFrom 7 l
def frameOf (l : List Int) : List Int := if bodyOk l then (l.length : Int) :: (l ++ [bsum l]) else []

end Go.Proofs.YtjobbcdolbhadaaGreatDoor


namespace Go.Proofs.YtjobbcdolbhadaaGreatDoor
set_option linter.unusedVariables false
set_option linter.unusedSimpArgs false
open Go Go.RowKit

/-- A kind of element: so many cells, each of one cell's value. -/
structure Ty (α : Type) where
  size : Nat
  enc : α → List Value
  len : ∀ x, (enc x).length = size
  one : ∀ x, ∀ u ∈ enc x, u.oneCell' = true

def tInt : Ty Int := ⟨1, fun n => [.int .i64 n], fun _ => rfl, fun _ u h => by simp at h; subst h; rfl⟩
def tU8 : Ty UInt8 := ⟨1, fun n => [.int .u8 n.toNat], fun _ => rfl, fun _ u h => by simp at h; subst h; rfl⟩
def tStr : Ty Str := ⟨1, fun s => [.string (mk s)], fun _ => rfl, fun _ u h => by simp at h; subst h; rfl⟩
def tNd : Ty Nd := ⟨3, fun n => [.string (mk n.path), .int .i64 n.c.kind, .int .i64 n.c.value], fun _ => rfl, fun _ u h => by simp at h; rcases h with rfl | rfl | rfl <;> rfl⟩
def tCm : Ty Cm := ⟨5, fun c => [.string (mk c.path), .int .i64 c.fr.kind, .int .i64 c.fr.value, .int .i64 c.to.kind, .int .i64 c.to.value], fun _ => rfl, fun _ u h => by simp at h; rcases h with rfl | rfl | rfl | rfl | rfl <;> rfl⟩
/-- A row of three: a number and two slices, whatever they hold. -/
structure Row3 where
  name : Int
  safe : Value
  fresh : Value
  s1 : safe.oneCell' = true
  s2 : fresh.oneCell' = true
def tRow3 : Ty Row3 := ⟨3, fun b => [.int .i64 b.name, b.safe, b.fresh], fun _ => rfl, fun b u h => by simp at h; rcases h with rfl | rfl | rfl; exact rfl; exact b.s1; exact b.s2⟩

theorem flat_len {α : Type} (T : Ty α) (xs : List α) : (xs.flatMap T.enc).length = xs.length * T.size := by
  induction xs with
  | nil => simp
  | cons x r ih => simp [T.len, ih, Nat.add_mul]; omega
theorem flat_drop {α : Type} (T : Ty α) (xs : List α) (i : Nat) : (xs.flatMap T.enc).drop (i * T.size) = (xs.drop i).flatMap T.enc := by
  induction i generalizing xs with
  | zero => simp
  | succ i ih =>
    cases xs with
    | nil => simp
    | cons x r =>
      rw [List.flatMap_cons, Nat.succ_mul, Nat.add_comm, ← List.drop_drop, List.drop_left' (T.len x), ih]
      simp
theorem flat_take {α : Type} (T : Ty α) (xs : List α) (i : Nat) : (xs.flatMap T.enc).take (i * T.size) = (xs.take i).flatMap T.enc := by
  induction i generalizing xs with
  | zero => simp
  | succ i ih =>
    cases xs with
    | nil => simp
    | cons x r =>
      rw [List.flatMap_cons, Nat.succ_mul, Nat.add_comm, List.take_add, List.take_left' (T.len x), List.drop_left' (T.len x), ih]
      simp
theorem flat_at {α : Type} (T : Ty α) (xs : List α) (i : Nat) (x : α) (h : xs[i]? = some x) : ((xs.flatMap T.enc).drop (i * T.size)).take T.size = T.enc x := by
  rw [flat_drop]
  have hi : i < xs.length := (List.getElem?_eq_some_iff.1 h).1
  have hx : xs[i] = x := (List.getElem?_eq_some_iff.1 h).2
  rw [List.drop_eq_getElem_cons hi, hx, List.flatMap_cons, List.take_left' (T.len x)]
theorem flat_one {α : Type} (T : Ty α) (xs : List α) : ∀ u ∈ xs.flatMap T.enc, u.oneCell' = true := by
  intro u hu
  obtain ⟨x, _, hx⟩ := List.mem_flatMap.1 hu
  exact T.one x u hx

/-- The slice value v reads as the list xs. -/
structure RdL {α : Type} (T : Ty α) (w : World) (v : Value) (xs : List α) : Prop where
  rd : Rd w T.size v xs.length (xs.flatMap T.enc)

section
variable {α : Type} {T : Ty α} {w w' : World} {v : Value} {xs : List α}
theorem RdL.ext (h : RdL T w v xs) (hB : Below w.heap.size w w') : RdL T w' v xs := ⟨h.rd.ext hB⟩
theorem RdL.kept (h : RdL T w v xs) (hb : ∀ b, v.ownBlock = some b → b < w.heap.size → w'.heap[b]? = w.heap[b]?) : RdL T w' v xs := ⟨h.rd.kept hb⟩
theorem RdL.nil : RdL T w (.slice none 0 0) [] := ⟨Rd.nil w _⟩
theorem RdL.slice (h : RdL T w v xs) : ∃ a cap, v = .slice a xs.length cap ∧ xs.length ≤ cap ∧ cap ≤ maxLen := by
  obtain ⟨_, a, cap, rfl, h1, h2, _⟩ := h.rd
  exact ⟨a, cap, rfl, h1, h2⟩
theorem RdL.maxLen (h : RdL T w v xs) : xs.length ≤ 9223372036854775807 := by
  obtain ⟨a, cap, _, h1, h2⟩ := h.slice
  unfold Go.maxLen at h2; omega
end

/-- Slices that the call owns: from block 'base' on. -/
structure OwL {α : Type} (T : Ty α) (w : World) (base e : Nat) (v : Value) (xs : List α) : Prop where
  own : w.ownsRow base e T.size v xs.length (xs.flatMap T.enc)
theorem OwL.rd {α : Type} {T : Ty α} {w : World} {base e : Nat} {v : Value} {xs : List α} (h : OwL T w base e v xs) : RdL T w v xs := ⟨Rd.own h.own⟩

theorem Pt.keptC {w w' : World} {a : Addr} {us : List Value} (h : Pt w a us) (hb : a.block < w.heap.size → w'.heap[a.block]? = w.heap[a.block]?) : Pt w' a us := by
  by_cases hne : us = []
  · subst hne; exact Pt.nil _ _
  · exact h.kept (hb (h.lt hne))

section ops
variable {P : Program} {ops : Array Oper} {Q : Exit → Act → World → Prop} {n : Nat} {fr : Fr} {w : World} {rest : List Oper}
variable {d : Nat} {ty : TypeId} {pos : String} {af : Array Edge} {QQ : Act → Prop}
variable {α : Type} {T : Ty α} {C : World → Prop}

theorem do_lenL {w' : World} {t e size bytes : Nat} {z : Value} [hT : TSlice P t e size bytes z] {x : Operand} {v : Value} {xs : List α} (hx : fr.ev x = some v) (hR : RdL T w v xs) :
    Does P ⟨some d, .call ⟨.builtin .len, #[x], #[t]⟩, ty, pos, af, none⟩ fr w' (.int .i64 xs.length) := do_len hx hR.rd

theorem L_lenL {t e size bytes : Nat} {z : Value} [hT : TSlice P t e size bytes z] {x : Operand} {v : Value} {xs : List α} (hx : fr.ev x = some v) (hR : RdL T w v xs) (hdn : Nat.blt d n = true)
    (kk : xs.length ≤ 9223372036854775807 → L P ops Q n rest ((d, .int .i64 xs.length) :: fr) w) : L P ops Q n (⟨some d, .call ⟨.builtin .len, #[x], #[t]⟩, ty, pos, af, none⟩ :: rest) fr w :=
  L_do rfl rfl hdn (do_lenL hx hR) (kk hR.maxLen)

theorem LQ_lenL {t e size bytes : Nat} {z : Value} [hT : TSlice P t e size bytes z] {x : Operand} {v : Value} {xs : List α} (hx : fr.ev x = some v) (hR : RdL T w v xs) (hdn : Nat.blt d n = true)
    (kk : xs.length ≤ 9223372036854775807 → LQ P ops C QQ n rest ((d, .int .i64 xs.length) :: fr)) : LQ P ops C QQ n (⟨some d, .call ⟨.builtin .len, #[x], #[t]⟩, ty, pos, af, none⟩ :: rest) fr :=
  LQ_do rfl rfl hdn (fun w' hw' => do_lenL hx hR) (kk hR.maxLen)

theorem L_indexL {t e size bytes : Nat} {z : Value} [hT : TSlice P t e size bytes z] {x ix : Operand} {v : Value} {xs : List α} {kd : IntKind} {i : Int} (hx : fr.ev x = some v) (hi : fr.ev ix = some (.int kd i))
    (hR : RdL T w v xs) (hs : T.size = size) (h0 : 0 ≤ i) (h1 : i < xs.length) (hdn : Nat.blt d n = true)
    (kk : ∀ (a : Addr) (y : α), xs[i.toNat]? = some y → v.ownBlock = some a.block → Pt w a (T.enc y) → L P ops Q n rest ((d, .pointer (some a)) :: fr) w) :
    L P ops Q n (⟨some d, .indexAddr t x ix, ty, pos, af, none⟩ :: rest) fr w := by
  subst hs
  refine L_indexAddr hx hi hR.rd h0 h1 hdn (fun a hb hp => ?_)
  have hlt : i.toNat < xs.length := by omega
  have hy : xs[i.toNat]? = some xs[i.toNat] := List.getElem?_eq_getElem hlt
  exact kk a _ hy hb (by rw [flat_at T xs i.toNat _ hy] at hp; exact hp)

theorem LQ_indexL {t e size bytes : Nat} {z : Value} [hT : TSlice P t e size bytes z] {x ix : Operand} {v : Value} {xs : List α} {kd : IntKind} {i : Int} (hx : fr.ev x = some v) (hi : fr.ev ix = some (.int kd i))
    (hR : RdL T w v xs) (hs : T.size = size) (h0 : 0 ≤ i) (h1 : i < xs.length) (hdn : Nat.blt d n = true)
    (kk : ∀ (a : Addr) (y : α), xs[i.toNat]? = some y → v.ownBlock = some a.block → Pt w a (T.enc y) → LQ P ops C QQ n rest ((d, .pointer (some a)) :: fr)) :
    LQ P ops C QQ n (⟨some d, .indexAddr t x ix, ty, pos, af, none⟩ :: rest) fr := by
  subst hs
  have hlt : i.toNat < xs.length := by omega
  have hy : xs[i.toNat]? = some xs[i.toNat] := List.getElem?_eq_getElem hlt
  obtain ⟨hl, a, cap, rfl, _, _, h4⟩ := hR.rd
  rcases h4 with ⟨rfl, rfl⟩ | ⟨b, rfl, hp⟩
  · exfalso
    have := hR.slice
    obtain ⟨a', cap', he, hc, _⟩ := this
    injection he with _ _ hcc
    omega
  · have hb : (b.add (i.toNat * T.size)).block = b.block := by unfold Addr.add; split <;> rfl
    refine LQ_do rfl rfl hdn (fun w' _ => do_indexAt hx hi h0 h1) (kk _ _ hy (by rw [hb]; rfl) ?_)
    rw [← flat_at T xs i.toNat _ hy]
    exact (hp.drop _).take _

theorem L_loadPt {t : TypeId} [hT : TOne P t] {x : Operand} {a b : Addr} {us : List Value} {off : Nat} {u : Value} (hx : fr.ev x = some (.pointer (some b))) (hb : b = a.add off) (hp : Pt w a us) (hu : us[off]? = some u) (hdn : Nat.blt d n = true)
    (kk : L P ops Q n rest ((d, u) :: fr) w) : L P ops Q n (⟨some d, .load t x, ty, pos, af, none⟩ :: rest) fr w :=
  L_do rfl rfl hdn (do_load hx (by rw [hb]; exact hp off u hu)) kk
theorem GLQ_loadPt {t : TypeId} [hT : TOne P t] {x : Operand} {a b : Addr} {us : List Value} {off : Nat} {u : Value} (hx : fr.ev x = some (.pointer (some b))) (hb : b = a.add off) (hp : Pt w a us) (hu : us[off]? = some u) (hC : ∀ w', C w' → a.block < w.heap.size → w'.heap[a.block]? = w.heap[a.block]?) (hdn : Nat.blt d n = true)
    (kk : LQ P ops C QQ n rest ((d, u) :: fr)) : LQ P ops C QQ n (⟨some d, .load t x, ty, pos, af, none⟩ :: rest) fr :=
  LQ_do rfl rfl hdn (fun w' hw' => do_load hx (by rw [hb]; exact (hp.keptC (hC w' hw')) off u hu)) kk
theorem LQ_loadPt {t : TypeId} [hT : TOne P t] {x : Operand} {a b : Addr} {us : List Value} {off : Nat} {u : Value} (hx : fr.ev x = some (.pointer (some b))) (hb : b = a.add off) (hp : Pt w a us) (hu : us[off]? = some u) (hdn : Nat.blt d n = true)
    (kk : LQ P ops (Below w.heap.size w) QQ n rest ((d, u) :: fr)) : LQ P ops (Below w.heap.size w) QQ n (⟨some d, .load t x, ty, pos, af, none⟩ :: rest) fr :=
  GLQ_loadPt hx hb hp hu (fun _ h hl => h.block _ hl) hdn kk
theorem RLQ_loadPt {t : TypeId} [hT : TOne P t] {x : Operand} {a b : Addr} {us : List Value} {off : Nat} {u : Value} (hx : fr.ev x = some (.pointer (some b))) (hb : b = a.add off) (hp : Pt w a us) (hu : us[off]? = some u) {row : Option Nat} (hne : some a.block ≠ row) (hdn : Nat.blt d n = true)
    (kk : LQ P ops (fun w' => w.grownBy w' row) QQ n rest ((d, u) :: fr)) : LQ P ops (fun w' => w.grownBy w' row) QQ n (⟨some d, .load t x, ty, pos, af, none⟩ :: rest) fr :=
  GLQ_loadPt hx hb hp hu (fun _ h hl => h.block _ hl hne) hdn kk
theorem L_loadPt0 {t : TypeId} [hT : TOne P t] {x : Operand} {a : Addr} {us : List Value} {u : Value} (hx : fr.ev x = some (.pointer (some a))) (hp : Pt w a us) (hu : us[0]? = some u) (hdn : Nat.blt d n = true)
    (kk : L P ops Q n rest ((d, u) :: fr) w) : L P ops Q n (⟨some d, .load t x, ty, pos, af, none⟩ :: rest) fr w :=
  L_do rfl rfl hdn (do_load hx (by have := hp 0 u hu; simpa [Addr.add] using this)) kk
theorem GLQ_loadPt0 {t : TypeId} [hT : TOne P t] {x : Operand} {a : Addr} {us : List Value} {u : Value} (hx : fr.ev x = some (.pointer (some a))) (hp : Pt w a us) (hu : us[0]? = some u) (hC : ∀ w', C w' → a.block < w.heap.size → w'.heap[a.block]? = w.heap[a.block]?) (hdn : Nat.blt d n = true)
    (kk : LQ P ops C QQ n rest ((d, u) :: fr)) : LQ P ops C QQ n (⟨some d, .load t x, ty, pos, af, none⟩ :: rest) fr :=
  LQ_do rfl rfl hdn (fun w' hw' => do_load hx (by have := (hp.keptC (hC w' hw')) 0 u hu; simpa [Addr.add] using this)) kk
theorem LQ_loadPt0 {t : TypeId} [hT : TOne P t] {x : Operand} {a : Addr} {us : List Value} {u : Value} (hx : fr.ev x = some (.pointer (some a))) (hp : Pt w a us) (hu : us[0]? = some u) (hdn : Nat.blt d n = true)
    (kk : LQ P ops (Below w.heap.size w) QQ n rest ((d, u) :: fr)) : LQ P ops (Below w.heap.size w) QQ n (⟨some d, .load t x, ty, pos, af, none⟩ :: rest) fr :=
  GLQ_loadPt0 hx hp hu (fun _ h hl => h.block _ hl) hdn kk
theorem RLQ_loadPt0 {t : TypeId} [hT : TOne P t] {x : Operand} {a : Addr} {us : List Value} {u : Value} (hx : fr.ev x = some (.pointer (some a))) (hp : Pt w a us) (hu : us[0]? = some u) {row : Option Nat} (hne : some a.block ≠ row) (hdn : Nat.blt d n = true)
    (kk : LQ P ops (fun w' => w.grownBy w' row) QQ n rest ((d, u) :: fr)) : LQ P ops (fun w' => w.grownBy w' row) QQ n (⟨some d, .load t x, ty, pos, af, none⟩ :: rest) fr :=
  GLQ_loadPt0 hx hp hu (fun _ h hl => h.block _ hl hne) hdn kk
theorem L_loadAgg {t : TypeId} {size : Nat} {z : Value} [hT : TStruct P t size z] {x : Operand} {a : Addr} {us : List Value} (hx : fr.ev x = some (.pointer (some a))) (hp : Pt w a us) (hl : us.length = size) (hdn : Nat.blt d n = true)
    (kk : L P ops Q n rest ((d, .agg us.toArray) :: fr) w) : L P ops Q n (⟨some d, .load t x, ty, pos, af, none⟩ :: rest) fr w :=
  L_do rfl rfl hdn (do_loadAgg hx hp hl) kk
theorem GLQ_loadAgg {t : TypeId} {size : Nat} {z : Value} [hT : TStruct P t size z] {x : Operand} {a : Addr} {us : List Value} (hx : fr.ev x = some (.pointer (some a))) (hp : Pt w a us) (hl : us.length = size) (hC : ∀ w', C w' → a.block < w.heap.size → w'.heap[a.block]? = w.heap[a.block]?) (hdn : Nat.blt d n = true)
    (kk : LQ P ops C QQ n rest ((d, .agg us.toArray) :: fr)) : LQ P ops C QQ n (⟨some d, .load t x, ty, pos, af, none⟩ :: rest) fr :=
  LQ_do rfl rfl hdn (fun w' hw' => do_loadAgg hx (hp.keptC (hC w' hw')) hl) kk
theorem LQ_loadAgg {t : TypeId} {size : Nat} {z : Value} [hT : TStruct P t size z] {x : Operand} {a : Addr} {us : List Value} (hx : fr.ev x = some (.pointer (some a))) (hp : Pt w a us) (hl : us.length = size) (hdn : Nat.blt d n = true)
    (kk : LQ P ops (Below w.heap.size w) QQ n rest ((d, .agg us.toArray) :: fr)) : LQ P ops (Below w.heap.size w) QQ n (⟨some d, .load t x, ty, pos, af, none⟩ :: rest) fr :=
  GLQ_loadAgg hx hp hl (fun _ h hl => h.block _ hl) hdn kk
theorem RLQ_loadAgg {t : TypeId} {size : Nat} {z : Value} [hT : TStruct P t size z] {x : Operand} {a : Addr} {us : List Value} (hx : fr.ev x = some (.pointer (some a))) (hp : Pt w a us) (hl : us.length = size) {row : Option Nat} (hne : some a.block ≠ row) (hdn : Nat.blt d n = true)
    (kk : LQ P ops (fun w' => w.grownBy w' row) QQ n rest ((d, .agg us.toArray) :: fr)) : LQ P ops (fun w' => w.grownBy w' row) QQ n (⟨some d, .load t x, ty, pos, af, none⟩ :: rest) fr :=
  GLQ_loadAgg hx hp hl (fun _ h hl => h.block _ hl hne) hdn kk

/-- A variable is made and filled at once. -/
theorem L_allocStore {e ty' : TypeId} {size : Nat} {z v : Value} [hZ : TZero P e z] [hT : TStruct P e size z] {x : Operand} {cs : List Value} {pos' : String} {af' : Array Edge} (hdn : Nat.blt d n = true)
    (hx : Fr.ev ((d, .pointer (some ⟨w.heap.size, 0, none⟩)) :: fr) x = some v) (hv : v = .agg cs.toArray) (hl : cs.length = size) (h1 : ∀ u ∈ cs, u.oneCell' = true) (hz : z.cells.size = size)
    (kk : ∀ w', w' = w.alloc (.cells cs.toArray e) → L P ops Q n rest ((d, .pointer (some ⟨w.heap.size, 0, none⟩)) :: fr) w') :
    L P ops Q n (⟨some d, .alloc e, ty, pos, af, none⟩ :: ⟨none, .store e (.tmp d) x, ty', pos', af', none⟩ :: rest) fr w := by
  refine L_alloc hdn ?_
  refine L_run_skip (w' := w.alloc (.cells cs.toArray e)) rfl rfl (fun ρ h => ?_) (kk _ rfl)
  have hd := h (.tmp d) (.pointer (some ⟨w.heap.size, 0, none⟩)) (by simp [Fr.ev, Fr.get])
  have hxx := h x v hx
  have hsz : ∀ w, (sizeOf e).run P w = .ok size w := fun w => by
    refine run_sizeOf' ?_
    have h0 := hT.info
    cases hi : P.info? e with
    | none => simp [hi] at h0
    | some i => simp [hi] at h0 ⊢; exact h0.2
  have hg : (w.alloc (.cells z.cells e)).heap[w.heap.size]? = some (.cells z.cells e (0, 0)) := heap_alloc_new w _
  have hst := run_storeCells_at P w.heap.size 0 e cs 0 z.cells (w.alloc (.cells z.cells e)) hg (by omega) h1
  have hrow : (w.alloc (.cells z.cells e)).setRow w.heap.size (z.cells.toList.take 0 ++ cs ++ z.cells.toList.drop (0 + cs.length)).toArray = w.alloc (.cells cs.toArray e) := by
    have : z.cells.toList.drop (0 + cs.length) = [] := List.drop_eq_nil_of_le (by simp; omega)
    rw [this, setRow_alloc_new]
    simp
  simp only [Nat.zero_add, Nat.add_zero, List.take_zero, List.nil_append] at hst
  subst hv
  unfold execOp Instr.storeAt storeVar
  simp only [hd, hxx]
  simp only [Nat.zero_add, Nat.add_zero, List.take_zero, List.nil_append] at hrow
  rw [hrow] at hst
  have hcs : (Value.agg cs.toArray).cells = cs.toArray := rfl
  simp [Instr.sureAddr, hsz, hl, hcs, hst]

end ops
end Go.Proofs.YtjobbcdolbhadaaGreatDoor


namespace Go.Proofs.YtjobbcdolbhadaaGreatDoor
set_option linter.unusedVariables false
set_option linter.unusedSimpArgs false
open Go Go.RowKit

theorem below_grow0 {w0 w w' : World} {row : Option Nat} (h : Below w0.heap.size w0 w) (hg : w.grownBy w' row) (hr : ∀ k, row = some k → w0.heap.size ≤ k) : Below w0.heap.size w0 w' :=
  h.grown hg h.size hr
theorem below_of_grown {w w' : World} (hg : w.grownBy w' none) : Below w.heap.size w w' := (Below.refl _ w).grown hg (Nat.le_refl _) (fun _ h => by cases h)

section
variable {α : Type} {T : Ty α} {w w' w0 : World} {v : Value} {xs : List α} {base e : Nat}
theorem OwL.lt (h : OwL T w base e v xs) : ∀ k, v.ownBlock = some k → base ≤ k ∧ k < w.heap.size := h.own.lt
theorem OwL.kept {row : Option Nat} (h : OwL T w base e v xs) (hg : w.grownBy w' row) (hne : v.ownBlock = none ∨ v.ownBlock ≠ row) : OwL T w' base e v xs := ⟨h.own.kept hg hne⟩
theorem OwL.ext (h : OwL T w base e v xs) (hB : Below w.heap.size w w') : OwL T w' base e v xs :=
  h.kept (row := none) ⟨hB.os, hB.tape, hB.output, hB.size, fun k hk _ => hB.block k hk⟩ (by cases v.ownBlock <;> simp)
theorem OwL.ne_ {g : Nat} (h : OwL T w base e v xs) (hg : g < base) : v.ownBlock = none ∨ v.ownBlock ≠ some g := by
  cases hv : v.ownBlock with
  | none => exact .inl rfl
  | some k => exact .inr (fun e => by cases e; have := (h.lt _ hv).1; omega)
theorem RdL.grown {row : Option Nat} (h : RdL T w v xs) (hg : w.grownBy w' row) (hne : ∀ b, v.ownBlock = some b → some b ≠ row) : RdL T w' v xs :=
  h.kept fun b hb hlt => hg.block b hlt (hne b hb)
theorem OwL.rebase {base' : Nat} (h : OwL T w base e v xs) (hb : base' ≤ base) : OwL T w base' e v xs := by
  obtain ⟨⟨h1, h2⟩⟩ := h
  refine ⟨h1, ?_⟩
  rcases h2 with h2 | ⟨g, cap, cur, h3, h4, h5⟩
  · exact .inl h2
  · exact .inr ⟨g, cap, cur, h3, Nat.le_trans hb h4, h5⟩
end

class TSize (P : Program) (t : TypeId) (size : outParam Nat) : Prop where
  info : (P.info? t).map (·.size) = some size

section ops
variable {P : Program} {ops : Array Oper} {Q : Exit → Act → World → Prop} {n : Nat} {fr : Fr} {w w0 : World} {rest : List Oper}
variable {d : Nat} {ty : TypeId} {pos : String} {af : Array Edge} {QQ : Act → Prop}
variable {α : Type} {T : Ty α}

/-- A variable of its own: a struct parameter, a captured one. -/
theorem L_boxV {e : TypeId} {x : Operand} {v : Value} (hB : Below w0.heap.size w0 w) (hx : fr.ev x = some v) (hdn : Nat.blt d n = true)
    (kk : ∀ w', w'.heap.size = w.heap.size + 1 → Below w0.heap.size w0 w' → Below w.heap.size w w' → w'.heap[w.heap.size]? = some (.cells v.cells e (0, 0)) → L P ops Q n rest ((d, .pointer (some ⟨w.heap.size, 0, none⟩)) :: fr) w') :
    L P ops Q n (⟨some d, .box e x, ty, pos, af, none⟩ :: rest) fr w :=
  L_box hx hdn (kk _ (by simp) (hB.alloc hB.size _) ((Below.refl _ _).alloc (Nat.le_refl _) _) (heap_alloc_new w _))

theorem pt_of_block {b : Nat} {cs : Array Value} {e : TypeId} {f : Nat × Nat} (hg : w.heap[b]? = some (.cells cs e f)) : Pt w ⟨b, 0, none⟩ cs.toList := fun j u hu => by
  have hadd : (⟨b, 0, none⟩ : Addr).add j = ⟨b, j, none⟩ := by unfold Addr.add; split <;> simp_all
  rw [hadd, cell_of_row w b j cs e f hg]
  simpa using hu

theorem L_allocStoreV {e ty' : TypeId} {size : Nat} {z v : Value} [hZ : TZero P e z] [hT : TStruct P e size z] {x : Operand} {cs : List Value} {pos' : String} {af' : Array Edge} (hB : Below w0.heap.size w0 w) (hdn : Nat.blt d n = true)
    (hx : Fr.ev ((d, .pointer (some ⟨w.heap.size, 0, none⟩)) :: fr) x = some v) (hv : v = .agg cs.toArray) (hl : cs.length = size) (h1 : ∀ u ∈ cs, u.oneCell' = true) (hz : z.cells.size = size)
    (kk : ∀ w', w'.heap.size = w.heap.size + 1 → Below w0.heap.size w0 w' → Below w.heap.size w w' → w'.heap[w.heap.size]? = some (.cells cs.toArray e (0, 0)) → L P ops Q n rest ((d, .pointer (some ⟨w.heap.size, 0, none⟩)) :: fr) w') :
    L P ops Q n (⟨some d, .alloc e, ty, pos, af, none⟩ :: ⟨none, .store e (.tmp d) x, ty', pos', af', none⟩ :: rest) fr w :=
  L_allocStore hdn hx hv hl h1 hz fun w' hw => by
    subst hw
    exact kk _ (by simp) (hB.alloc hB.size _) ((Below.refl _ _).alloc (Nat.le_refl _) _) (heap_alloc_new w _)

theorem L_allocV {e : TypeId} {z : Value} [hZ : TZero P e z] (hB : Below w0.heap.size w0 w) (hdn : Nat.blt d n = true)
    (kk : ∀ w', w'.heap.size = w.heap.size + 1 → Below w0.heap.size w0 w' → Below w.heap.size w w' → w'.heap[w.heap.size]? = some (.cells z.cells e (0, 0)) → L P ops Q n rest ((d, .pointer (some ⟨w.heap.size, 0, none⟩)) :: fr) w') :
    L P ops Q n (⟨some d, .alloc e, ty, pos, af, none⟩ :: rest) fr w :=
  L_alloc hdn (kk _ (by simp) (hB.alloc hB.size _) ((Below.refl _ _).alloc (Nat.le_refl _) _) (heap_alloc_new w _))

/-- A store into a block that is known whole. -/
theorem L_storeAt {t e : TypeId} {size : Nat} [hS : TSize P t size] {x y : Operand} {b off : Nat} {v : Value} {cs : List Value} {cur : Array Value} {cur' : List Value} (hx : fr.ev x = some (.pointer (some ⟨b, off, none⟩))) (hy : fr.ev y = some v)
    (hv : v.cells = cs.toArray) (hl : cs.length = size) (h1 : ∀ u ∈ cs, u.oneCell' = true) (hg : w.heap[b]? = some (.cells cur e (0, 0))) (hoff : off + cs.length ≤ cur.size)
    (hc : cur.toList.take off ++ cs ++ cur.toList.drop (off + cs.length) = cur')
    (kk : ∀ w', w'.heap[b]? = some (.cells cur'.toArray e (0, 0)) → w.grownBy w' (some b) → w'.heap.size = w.heap.size → L P ops Q n rest fr w') :
    L P ops Q n (⟨none, .store t x y, ty, pos, af, none⟩ :: rest) fr w := by
  subst hc
  have hlt : b < w.heap.size := (Array.getElem?_eq_some_iff.1 hg).1
  have hst := run_storeCells_at P b off e cs 0 cur w hg (by omega) h1
  simp only [Nat.add_zero] at hst
  refine L_run_skip (w' := w.setRow b (cur.toList.take off ++ cs ++ cur.toList.drop (off + cs.length)).toArray) rfl rfl (fun ρ h => ?_) (kk _ ?_ ⟨rfl, rfl, rfl, by simp, fun k hk hne => ?_⟩ (by simp))
  · have hsz : ∀ w, (sizeOf t).run P w = .ok size w := fun w => run_sizeOf' hS.info
    unfold execOp Instr.storeAt storeVar
    simp only [h x _ hx, h y _ hy]
    simp [Instr.sureAddr, hsz, hl, hv, hst]
  · simp only [World.setRow, Array.getElem?_modify, if_pos, hg, Option.map_some]
  · simp only [World.setRow, Array.getElem?_modify]
    rw [if_neg (fun e => hne (by rw [e]))]

theorem L_buildSlice0 {t e size bytes : Nat} {z : Value} [hT : TSlice P t e size bytes z] (T : Ty α) (hB : Below w0.heap.size w0 w) (hdn : Nat.blt d n = true)
    (kk : ∀ w', OwL T w' w0.heap.size e (.slice (some ⟨w.heap.size, 0, none⟩) 0 0) [] → Below w0.heap.size w0 w' → Below w.heap.size w w' → L P ops Q n rest ((d, .slice (some ⟨w.heap.size, 0, none⟩) 0 0) :: fr) w') :
    L P ops Q n (⟨some d, .buildSlice t 0 #[], ty, pos, af, none⟩ :: rest) fr w := by
  obtain ⟨inf, hinf, _, hsz, _⟩ := hT.parts
  refine L_run (w' := w.alloc (.cells #[] e)) rfl rfl hdn (fun ρ h => ?_) (kk _ ⟨?_⟩ (hB.alloc hB.size _) ((Below.refl _ _).alloc (Nat.le_refl _) _))
  · simp [execOp, Instr.buildSlice, run_underlying hT.und, sizeOf, typeInfo, hinf, Instr.fill, go_sem]
  · exact World.ownsRow_made w #[] 0 hB.size (Nat.zero_le _) (by simp)

def Fr.evp (fr : Fr) : List (Nat × Operand) → Option (List (Nat × Value))
  | [] => some []
  | (i, x) :: r => match fr.ev x, Fr.evp fr r with
    | some v, some vs => some ((i, v) :: vs)
    | _, _ => none
theorem evp_map {fr : Fr} {ρ : Operand → Value} (h : ∀ x u, fr.ev x = some u → ρ x = u) : ∀ (l : List (Nat × Operand)) (ps : List (Nat × Value)), fr.evp l = some ps → l.map (fun (i, x) => (i, ρ x)) = ps := by
  intro l
  induction l with
  | nil => intro ps e; simpa [Fr.evp] using e
  | cons a r ih =>
    intro ps e
    obtain ⟨i, x⟩ := a
    simp only [Fr.evp] at e
    split at e
    · rename_i v vs h1 h2
      obtain rfl := Option.some.inj e
      simp [h x v h1, ih _ h2]
    · cases e

theorem L_buildSliceK {t e size bytes : Nat} {z : Value} [hT : TSlice P t e size bytes z] (T : Ty α) (ys : List α) {k : Nat} {parts : List (Nat × Operand)} {ps : List (Nat × Value)} {cells : Array Value} (hB : Below w0.heap.size w0 w)
    (hp : fr.evp parts = some ps) (hs : T.size = size) (hk : ys.length = k) (hsmall : Nat.ble (k * size) 16777216 = true) (hpos : Nat.beq (k * size) 0 = false)
    (hf : Instr.fill (fun i => some (i * size, size)) ((Array.range (k * size)).map (fun j => z.cells[j % z.cells.size]!)) ps = some cells) (hc : cells.toList = ys.flatMap T.enc) (hdn : Nat.blt d n = true)
    (kk : ∀ w', OwL T w' w0.heap.size e (.slice (some ⟨w.heap.size, 0, none⟩) k k) ys → Below w0.heap.size w0 w' → Below w.heap.size w w' → L P ops Q n rest ((d, .slice (some ⟨w.heap.size, 0, none⟩) k k) :: fr) w') :
    L P ops Q n (⟨some d, .buildSlice t k parts.toArray, ty, pos, af, none⟩ :: rest) fr w := by
  obtain ⟨inf, hinf, hz, hsz, _⟩ := hT.parts
  have h1 : k * size ≤ 16777216 := Nat.le_of_ble_eq_true hsmall
  have h2 : ¬ k * size = 0 := fun e => by simp [e] at hpos
  have h3 : ¬ 16777216 < k * size := by omega
  refine L_run (w' := w.alloc (.cells cells e)) rfl rfl hdn (fun ρ h => ?_) (kk _ ⟨?_⟩ (hB.alloc hB.size _) ((Below.refl _ _).alloc (Nat.le_refl _) _))
  · have hm := evp_map h parts ps hp
    have hm' : (parts.toArray.map fun (x : Nat × Operand) => (x.1, ρ x.2)).toList = ps := by simpa using hm
    simp only [execOp, Instr.buildSlice]
    simp [run_underlying hT.und, sizeOf, typeInfo, zeroValue, hinf, hz, hsz, h2, h3, hf, hm, newRow]
  · have hlen : cells.size = k * T.size := by
      have := congrArg List.length hc
      rw [flat_len, hk] at this
      simpa using this
    have := World.ownsRow_lit (e := e) w cells k hB.size (by
      have := hT.pos
      have : k ≤ k * size := Nat.le_mul_of_pos_right k this
      unfold maxLen; omega) hlen
    rw [hc] at this
    rw [hk]; exact this

theorem L_append {t e size bytes : Nat} {z : Value} [hT : TSlice P t e size bytes z] {s x : Operand} {v v2 : Value} {xs ys : List α} (hs : fr.ev s = some v) (hx : fr.ev x = some v2) (hB : Below w0.heap.size w0 w)
    (hO : OwL T w w0.heap.size e v xs) (hR : RdL T w v2 ys) (hsz : T.size = size) (hb : (xs.length + ys.length) * bytes ≤ 140737488355328) (h63 : xs.length + ys.length ≤ 9223372036854775807) (hdn : Nat.blt d n = true)
    (kk : ∀ v' w', OwL T w' w0.heap.size e v' (xs ++ ys) → Below w0.heap.size w0 w' → w.grownBy w' v.ownBlock → L P ops Q n rest ((d, v') :: fr) w') :
    L P ops Q n (⟨some d, .call ⟨.builtin .append, #[s, x], #[t, t]⟩, ty, pos, af, none⟩ :: rest) fr w := by
  obtain ⟨inf, hinf, hz, hiz, hib⟩ := hT.parts
  subst hsz
  obtain ⟨hl, a, cap, rfl, _, _, h4⟩ := hR.rd
  have go : ∀ v' w', (Builtin.append_ #[t, t] ty #[v, .slice a ys.length cap]).run P w = .ok v' w' → OwL T w' w0.heap.size e v' (xs ++ ys) → w.grownBy w' v.ownBlock →
      L P ops Q n (⟨some d, .call ⟨.builtin .append, #[s, x], #[t, t]⟩, ty, pos, af, none⟩ :: rest) fr w := by
    intro v' w' hr hO' hg
    refine L_run rfl rfl hdn (fun ρ h => ?_) (kk v' w' hO' (below_grow0 hB hg (fun k hk => (hO.lt k hk).1)) hg)
    have e1 := h s _ hs
    have e2 := h x _ hx
    rw [BigFrame.execOp_builtin, BigFrame.builtin_append]
    have e3 : Array.map ρ #[s, x] = #[v, .slice a ys.length cap] := by simp [e1, e2]
    rw [e3]
    simp [hr]
  rcases h4 with ⟨rfl, rfl⟩ | ⟨b, rfl, hp⟩
  · have hl0 : ys.length = 0 := by
      obtain ⟨a', cap', he, hc, _⟩ := hR.slice
      injection he with _ _ hcc
      omega
    have hy : ys = [] := List.eq_nil_of_length_eq_zero hl0
    subst hy
    refine go v w (run_append_owned_none w w0.heap.size t ty e inf T.size hT.und hinf v xs.length _ hO.own) (by simpa using hO) ⟨rfl, rfl, rfl, Nat.le_refl _, fun _ _ _ => rfl⟩
  · obtain ⟨v', w', hr, ho, hg, _⟩ := run_append_own (P := P) w w0.heap.size t ty e inf z T.size bytes hT.und hinf hz hiz hib hT.zs hT.pos v xs.length _ hO.own b ys.length cap _ hl hp (flat_one T ys) (by unfold maxLen; omega) hb hB.size
    exact go v' w' hr ⟨by rw [List.length_append, List.flatMap_append]; exact ho⟩ hg

/-- make([]T, k) -/
theorem L_makeSlice {t e size bytes : Nat} {z : Value} [hT : TSlice P t e size bytes z] (T : Ty α) (y0 : α) {x y : Operand} {kl kc : IntKind} {k : Nat} (hx : fr.ev x = some (.int kl k)) (hy : fr.ev y = some (.int kc k)) (hB : Below w0.heap.size w0 w)
    (hs : T.size = size) (hz0 : z.cells.toList = T.enc y0) (hb : bytes * k ≤ 281474976710656) (h63 : k ≤ 9223372036854775807) (hdn : Nat.blt d n = true)
    (kk : ∀ w', OwL T w' w0.heap.size e (.slice (some ⟨w.heap.size, 0, none⟩) k k) (List.replicate k y0) → Below w0.heap.size w0 w' → Below w.heap.size w w' → L P ops Q n rest ((d, .slice (some ⟨w.heap.size, 0, none⟩) k k) :: fr) w') :
    L P ops Q n (⟨some d, .makeSlice t x y, ty, pos, af, none⟩ :: rest) fr w := by
  obtain ⟨inf, hinf, hz, hiz, hib⟩ := hT.parts
  subst hs
  obtain ⟨w', hr, ho, hg⟩ := run_make_full (P := P) w w0.heap.size t e inf z T.size hT.und hinf hz hiz kl kc k (by rw [hib]; exact hb) (by unfold maxLen; omega) hB.size
  have hzs : z.cells = (T.enc y0).toArray := by apply Array.toList_inj.1; simpa using hz0
  have hcells : (madeCells z.cells (k * T.size)).toList = (List.replicate k y0).flatMap T.enc := by
    have hlen : (T.enc y0).length = T.size := T.len y0
    have hpos := hT.pos
    apply List.ext_getElem?
    intro i
    by_cases hi : i < k * T.size
    · have h1 : (List.replicate k y0)[i / T.size]? = some y0 := by
        rw [List.getElem?_replicate, if_pos]; exact Nat.div_lt_of_lt_mul (by rw [Nat.mul_comm]; exact hi)
      have h2 := flat_at T (List.replicate k y0) (i / T.size) y0 h1
      have hm : i % T.size < T.size := Nat.mod_lt _ hpos
      have h3 : ((List.replicate k y0).flatMap T.enc)[i]? = (T.enc y0)[i % T.size]? := by
        rw [← h2, List.getElem?_take, if_pos hm, List.getElem?_drop]
        congr 1
        rw [Nat.mul_comm]; exact (Nat.div_add_mod i T.size).symm
      rw [h3]
      simp [madeCells, hzs, hi, hlen]
      rw [List.getElem?_eq_getElem (by rw [hlen]; exact hm)]
      simp
    · rw [List.getElem?_eq_none (by simp [madeCells]; omega), List.getElem?_eq_none (by rw [flat_len]; simp; omega)]
  refine L_run rfl rfl hdn (fun ρ h => ?_) (kk w' ⟨by rw [List.length_replicate, ← hcells]; exact ho⟩ (below_grow0 hB hg (fun _ h => by cases h)) (below_of_grown hg))
  show (do pure (Next.value (← Instr.makeSlice t (ρ x) (ρ y))) : Sem Next).run P w = _
  rw [h x _ hx, h y _ hy]
  simp [hr]

/-- The address of element i of a slice of the call's own. -/
theorem L_indexOwn {t e size bytes : Nat} {z : Value} [hT : TSlice P t e size bytes z] {x ix : Operand} {v : Value} {xs : List α} {base : Nat} {kd : IntKind} {i : Int} (hx : fr.ev x = some v) (hi : fr.ev ix = some (.int kd i))
    (hO : OwL T w base e v xs) (hs : T.size = size) (h0 : 0 ≤ i) (h1 : i < xs.length) (hdn : Nat.blt d n = true)
    (kk : ∀ (g : Nat) (y : α), xs[i.toNat]? = some y → v.ownBlock = some g → L P ops Q n rest ((d, .pointer (some ⟨g, i.toNat * T.size, none⟩)) :: fr) w) :
    L P ops Q n (⟨some d, .indexAddr t x ix, ty, pos, af, none⟩ :: rest) fr w := by
  subst hs
  have hlt : i.toNat < xs.length := by omega
  rcases hO.own.2 with ⟨rfl, hn⟩ | ⟨g, cap, cur, rfl, _⟩
  · omega
  · have ha : (⟨g, 0, none⟩ : Addr).add (i.toNat * T.size) = ⟨g, i.toNat * T.size, none⟩ := by unfold Addr.add; split <;> simp_all
    refine L_do rfl rfl hdn (do_indexAt hx hi h0 (by exact h1)) ?_
    rw [ha]
    exact kk g _ (List.getElem?_eq_getElem hlt) rfl

theorem flat_set {α : Type} (T : Ty α) (xs : List α) (k : Nat) (y : α) (hk : k < xs.length) :
    (xs.set k y).flatMap T.enc = (xs.flatMap T.enc).take (k * T.size) ++ T.enc y ++ (xs.flatMap T.enc).drop (k * T.size + T.size) := by
  have h1 : k * T.size + T.size = (k + 1) * T.size := by rw [Nat.add_mul]; simp
  rw [h1, flat_take, flat_drop]
  conv => lhs; rw [List.set_eq_take_append_cons_drop, if_pos hk]
  rw [List.flatMap_append, List.flatMap_cons, List.append_assoc]

theorem splice_take {β : Type} (L cs : List β) (N p s off : Nat) (hN : N ≤ L.length) (hp : p + s ≤ N) (ho : off + cs.length ≤ s) :
    (L.take (p + off) ++ cs ++ L.drop (p + off + cs.length)).take N = (L.take N).take p ++ ((L.drop p).take off ++ cs ++ ((L.drop p).take s).drop (off + cs.length)) ++ (L.take N).drop (p + s) := by
  apply List.ext_getElem?
  intro i
  simp only [List.getElem?_take, List.getElem?_append, List.length_take, List.length_append, List.length_drop, List.getElem?_drop]
  by_cases h1 : i < p
  · rw [if_pos (by omega), if_pos (by omega), if_pos (by omega), if_pos (by omega), if_pos (by omega), if_pos (by omega), if_pos (by omega)]
    simp [show i < p + off from by omega, h1, show i < N from by omega]
  · by_cases h2 : i < p + off
    · simp (disch := omega) only [if_pos, if_neg]
      repeat' split
      all_goals first | omega | (congr 1; omega) | rfl
    · by_cases h3 : i < p + off + cs.length
      · repeat' split
        all_goals first | omega | (congr 1; omega) | rfl
      · repeat' split
        all_goals first | omega | (congr 1; omega) | rfl

/-- A store into an element, or a part of it, of a slice of the call's own. -/
theorem L_storeElem {t e k off : Nat} {size : Nat} [hS : TSize P t size] {x y : Operand} {v u : Value} {xs : List α} {p : Addr} {g : Nat} {cs : List Value} {y0 y1 : α} (hx : fr.ev x = some (.pointer (some p))) (hy : fr.ev y = some u)
    (hO : OwL T w w0.heap.size e v xs) (hp : p = ⟨g, k * T.size + off, none⟩) (hg : v.ownBlock = some g) (hy0 : xs[k]? = some y0) (hu : u.cells = cs.toArray) (hl : cs.length = size)
    (h1 : ∀ u ∈ cs, u.oneCell' = true) (hoff : off + cs.length ≤ T.size) (he : (T.enc y0).take off ++ cs ++ (T.enc y0).drop (off + cs.length) = T.enc y1) (hB : Below w0.heap.size w0 w)
    (kk : ∀ w', OwL T w' w0.heap.size e v (xs.set k y1) → Below w0.heap.size w0 w' → w.grownBy w' (some g) → w'.heap.size = w.heap.size → L P ops Q n rest fr w') :
    L P ops Q n (⟨none, .store t x y, ty, pos, af, none⟩ :: rest) fr w := by
  subst hp
  obtain ⟨hk, hy0'⟩ := List.getElem?_eq_some_iff.1 hy0
  obtain ⟨hol, ho⟩ := hO.own
  rcases ho with ⟨rfl, hn⟩ | ⟨g', cap, cur, rfl, hbase, hcell, hnc, hcm, hcs, htake⟩
  · cases hg
  · have hg' : g' = g := by simpa [Value.ownBlock] using hg
    subst hg'
    have hks : k * T.size + T.size ≤ xs.length * T.size := by
      have : (k + 1) * T.size ≤ xs.length * T.size := Nat.mul_le_mul_right _ hk
      rwa [Nat.add_mul, Nat.one_mul] at this
    have hns : xs.length * T.size ≤ cap * T.size := Nat.mul_le_mul_right _ hnc
    refine L_storeAt hx hy hu hl h1 hcell (by omega) rfl (fun w' hc' hg2 hz => ?_)
    refine kk w' ⟨⟨by rw [flat_len], .inr ⟨g', cap, _, by rw [List.length_set], hbase, hc', by simpa using hnc, hcm, ?_, ?_⟩⟩⟩ (below_grow0 hB hg2 (fun j hj => by cases hj; exact hbase)) hg2 hz
    · simp; omega
    · rw [List.length_set, flat_set T xs k y1 hk, ← he, ← htake]
      have hkl : (T.enc y0).length = T.size := T.len y0
      have hE : T.enc y0 = ((cur.toList.take (xs.length * T.size)).drop (k * T.size)).take T.size := by
        rw [htake, flat_at T xs k y0 hy0]
      have hE' : T.enc y0 = (cur.toList.drop (k * T.size)).take T.size := by rw [hE, List.drop_take, List.take_take, Nat.min_eq_left (by omega)]
      have hE1 : (T.enc y0).take off = (cur.toList.drop (k * T.size)).take off := by rw [hE', List.take_take, Nat.min_eq_left (by omega)]
      have hE2 : (T.enc y0).drop (off + cs.length) = ((cur.toList.drop (k * T.size)).take T.size).drop (off + cs.length) := by rw [hE']
      rw [hE1, hE2]
      have hL : cur.toList.length = cap * T.size := by simpa using hcs
      rw [splice_take cur.toList cs _ _ _ _ (by rw [hL]; exact hns) hks hoff]

/-- The result lies in a variable. -/
theorem At_endCell {fn : Func} {R : Value → World → Prop} {t b ty : Nat} {size : Nat} {z : Value} {cs : Array Value} {e : TypeId} {f : Nat × Nat} [hT : TStruct P ty size z] (hres : fn.results = #[.cell t ty]) (hv : fr.get t = some (.pointer (some ⟨b, 0, none⟩)))
    (hg : w.heap[b]? = some (.cells cs e f)) (hs : cs.size = size) (hR : R (.agg cs) w) : At (bodyPost P fn (Ret R)) .ret n fr w := ⟨fun a s => by
  obtain ⟨fs, hu⟩ := hT.und
  refine ⟨s.defers, _, results_cell_row hres a.tmps w b e cs f _ (s.getD hv) hg hu rfl ?_, _, rfl, hR⟩
  have h0 := hT.info
  cases hi : P.info? ty with
  | none => simp [hi] at h0
  | some i => simp [hi] at h0 ⊢; rw [hs]; exact h0.2⟩

end ops
end Go.Proofs.YtjobbcdolbhadaaGreatDoor


namespace Go.Proofs.YtjobbcdolbhadaaGreatDoor
set_option linter.unusedVariables false
set_option linter.unusedSimpArgs false
open Go Go.RowKit

/-- Operations that hand back a value, if they come to an end. -/
def quietKind : Op → Bool
  | .move _ | .assign _ | .load _ _ | .binOp _ _ _ _ _ | .unOp _ _ _ | .convert _ _ _ | .makeFunc _ _ _ | .fieldAddr _ _ _ | .field _ _ _ | .indexAddr _ _ _ | .index _ _ _ | .slice _ _ _ _ _ | .extract _ _ | .build _ _ | .pick _ _ _ => true
  | .call ⟨.builtin .len, _, _⟩ | .call ⟨.builtin .min, _, _⟩ | .call ⟨.builtin .max, _, _⟩ | .call ⟨.builtin .cap, _, _⟩ => true
  | _ => false

section
variable {P : Program} {ops : Array Oper} {S : World → Prop} {Q : Exit → Act → World → Prop} {n : Nat} {fr : Fr} {w : World}

theorem run_v {m : Sem Value} {r : Next} {w w' : World} (h : (do pure (Next.value (← m)) : Sem Next).run P w = .ok r w') : ∃ u, r = .value u := by
  rw [Sem.run_bind] at h
  cases hm : m.run P w with
  | ok u w1 => rw [hm] at h; simp at h; exact ⟨_, h.1.symm⟩
  | halt x w1 => rw [hm] at h; simp at h

theorem quietKind_value {o : Oper} {ρ : Operand → Value} {r : Next} {w w' : World} (hk : quietKind o.op = true) (h : (execOp ρ o).run P w = .ok r w') : ∃ u, r = .value u := by
  obtain ⟨dst, op, ty, pos, af, g⟩ := o
  cases op <;> simp only [quietKind, Bool.false_eq_true] at hk
  case move x => simp only [execOp, pure, Sem.run] at h; injection h with h1 _; exact ⟨_, h1.symm⟩
  case assign x => simp only [execOp, pure, Sem.run] at h; injection h with h1 _; exact ⟨_, h1.symm⟩
  case pick c x y =>
    simp only [execOp] at h
    rw [Sem.run_bind] at h
    cases hm : (asBool (ρ c)).run P w with
    | ok u w1 => rw [hm] at h; simp at h; exact ⟨_, h.1.symm⟩
    | halt x w1 => rw [hm] at h; simp at h
  case call c =>
    obtain ⟨cal, args, ats⟩ := c
    cases cal with
    | builtin b => cases b <;> simp only [Bool.false_eq_true] at hk <;> exact run_v h
    | invoke r m => simp only [Bool.false_eq_true] at hk
    | value f => simp only [Bool.false_eq_true] at hk
  all_goals exact run_v h

/-- In which order a region is walked: 'look': an operation that only looks, taken first; 'act': one that comes up alone; 'both': either of two may come up. -/
inductive Plan
  | done
  | look (i : Nat) (p : Plan)
  | act (i : Nat) (p : Plan)
  | both (i : Nat) (p : Plan) (j : Nat) (q : Plan)

/-- The walk of a plan. -/
def wpMix (P : Program) (ops : Array Oper) (S : World → Prop) (Q : Exit → Act → World → Prop) : Plan → Act → World → Prop
  | .done, a, w => Q .normal a w
  | .look i p, a, w => ∃ o v, ops[i]? = some o ∧ YieldsIf P ops S o v a ∧ wpMix P ops S Q p (a.put o.dst v) w
  | .act i p, a, w => ∃ o, ops[i]? = some o ∧ wpList P ops (fun e a' w' => e = .normal ∧ S w' ∧ wpMix P ops S Q p a' w') [o] a w
  | .both i p j q, a, w => (∃ o, ops[i]? = some o ∧ wpList P ops (fun e a' w' => e = .normal ∧ S w' ∧ wpMix P ops S Q p a' w') [o] a w) ∧
      ∃ o, ops[j]? = some o ∧ wpList P ops (fun e a' w' => e = .normal ∧ S w' ∧ wpMix P ops S Q q a' w') [o] a w

def planB (ops : Array Oper) : Plan → Nat → Array Bool → Bool
  | .done, _, l => (Region.ready .any ops l).isEmpty
  | .look i p, n + 1, l => (Region.ready .any ops l).contains i && Region.free .any ops l i && planB ops p n (l.setIfInBounds i true)
  | .act i p, n + 1, l => (Region.ready .any ops l == [i]) && planB ops p n (l.setIfInBounds i true)
  | .both i p j q, n + 1, l => (Region.ready .any ops l == [i, j]) && planB ops p n (l.setIfInBounds i true) && planB ops q n (l.setIfInBounds j true)
  | _, 0, _ => false

theorem upon_only {o : Oper} {a : Act} {K K' : Act → World → Prop} {Q Q' : Exit → Act → World → Prop} (hK : ∀ a w, K a w → K' a w) (hQ : ∀ e a w, Q e a w → e = .normal) {r : Result Next} (h : o.upon P a K Q r) : o.upon P a K' Q' r := by
  have hlo : ¬ LetsOut Q := fun ⟨a, w, hq⟩ => by cases hQ _ _ _ hq
  cases r with
  | ok nx w' =>
    cases nx <;> simp only [Oper.upon] at h ⊢
    case value v => exact hK _ _ h
    case skip => exact hK _ _ h
    case defer d => exact hK _ _ h
    case enter f args =>
      refine Calls.mono h fun e w'' he => ?_
      cases e with
      | returned u => exact hK _ _ he
      | panicked c => cases hQ _ _ _ he
      | outgrown => exact absurd he hlo
    case row row args => exact Rows.mono h fun u w'' he => hK _ _ he
  | halt x w' =>
    cases x <;> simp only [Oper.upon] at h ⊢
    case panic u => cases hQ _ _ _ h

theorem wpOp_of_one {i : Nat} {o : Oper} {a : Act} {K : Act → World → Prop} {Q : Exit → Act → World → Prop} (hi : ops[i]? = some o)
    (h : wpList P ops (fun e a' w' => e = .normal ∧ K a' w') [o] a w) : wpOp P ops Q i K a w := by
  unfold wpList at h
  unfold wpOp
  simp only [hi]
  split
  · rename_i hw
    rw [if_pos hw] at h
    rcases h with h | ⟨_, a, w, hq, _⟩
    · exact .inl (upon_only (fun _ _ hk => hk.2) (fun _ _ _ hq => hq.1) h)
    · cases hq
  · rename_i hw
    rw [if_neg hw] at h
    exact h.2

theorem wpAnyH_of_mix (hs : Region.noSelect ops = true) (hQ : ∀ c a d v w, Q (.panic c) (a.put d v) w → Q (.panic c) a w) : ∀ (r : Plan) (m : Nat) (l : Array Bool) (a : Act) (w : World),
    planB ops r m l = true → S w → wpMix P ops S Q r a w → wpAnyH P .any ops Q S m l a w
  | .done, m, l, a, w, hB, _, h => wpAnyH_done (by simpa [planB] using hB) h m
  | .look i r, m + 1, l, a, w, hB, hS, h => by
    simp only [planB, Bool.and_eq_true] at hB
    obtain ⟨o, v, hi, hy, h'⟩ := h
    exact wpAnyH_take hi hs hB.1.2 hB.1.1 (fun c a w => hQ c a _ _ w) hy hS (wpAnyH_of_mix hs hQ r m _ _ _ hB.2 hS h')
  | .act i r, m + 1, l, a, w, hB, hS, h => by
    simp only [planB, Bool.and_eq_true, beq_iff_eq] at hB
    obtain ⟨o, hi, h'⟩ := h
    refine wpAnyH_all hB.1 (by simp) (fun j hj => ?_)
    obtain rfl : j = i := by simpa using hj
    exact wpOp_mono (fun a' w' hk => ⟨hk.1, wpAnyH_of_mix hs hQ r m _ _ _ hB.2 hk.1 hk.2⟩) (wpOp_of_one hi h')
  | .both i r j q, m + 1, l, a, w, hB, hS, h => by
    simp only [planB, Bool.and_eq_true, beq_iff_eq] at hB
    obtain ⟨⟨o, hi, h1⟩, o', hj', h2⟩ := h
    refine wpAnyH_all hB.1.1 (by simp) (fun k hk => ?_)
    have hk' : k = i ∨ k = j := by simpa using hk
    rcases hk' with rfl | rfl
    · exact wpOp_mono (fun a' w' hk => ⟨hk.1, wpAnyH_of_mix hs hQ r m _ _ _ hB.1.2 hk.1 hk.2⟩) (wpOp_of_one hi h1)
    · exact wpOp_mono (fun a' w' hk => ⟨hk.1, wpAnyH_of_mix hs hQ q m _ _ _ hB.2 hk.1 hk.2⟩) (wpOp_of_one hj' h2)
  | .look _ _, 0, _, _, _, hB, _, _ => by simp [planB] at hB
  | .act _ _, 0, _, _, _, hB, _, _ => by simp [planB] at hB
  | .both _ _ _ _, 0, _, _, _, hB, _, _ => by simp [planB] at hB

/-- The walk of a plan, over known slots. -/
structure LM (P : Program) (ops : Array Oper) (S : World → Prop) (Q : Exit → Act → World → Prop) (n : Nat) (r : Plan) (fr : Fr) (w : World) : Prop where
  run : ∀ a, Sim fr n a → wpMix P ops S Q r a w

theorem W_region_S {id : Nat} {l : List Oper} (S : World → Prop) (r : Plan) (hm : P.follows .mixedOrders = true) (hs : Region.noSelect l.toArray = true)
    (hB : planB l.toArray r l.toArray.size (Array.replicate l.toArray.size false) = true) (hQ : ∀ c a d v w, Q (.panic c) (a.put d v) w → Q (.panic c) a w) (hS : S { w with drawn := w.drawn + 1 })
    (h : ∀ w', S w' → Below w.heap.size w w' → w'.heap.size = w.heap.size → LM P l.toArray S Q n r fr w') : W P (.region id l.toArray true) Q n fr w := ⟨fun a s => by
  have hd : Below w.heap.size w { w with drawn := w.drawn + 1 } := Below.drew (Below.refl _ _)
  refine wp_region_held (S := S) hm ?_
  exact wpAnyH_of_mix (P := P) (S := S) hs hQ r _ _ a _ hB hS ((h _ hS hd rfl).run a s)⟩
theorem W_region_M {id : Nat} {l : List Oper} (r : Plan) (hm : P.follows .mixedOrders = true) (hs : Region.noSelect l.toArray = true)
    (hB : planB l.toArray r l.toArray.size (Array.replicate l.toArray.size false) = true) (hQ : ∀ c a d v w, Q (.panic c) (a.put d v) w → Q (.panic c) a w)
    (h : ∀ w', Below w.heap.size w w' → w'.heap.size = w.heap.size → LM P l.toArray (Below w.heap.size w) Q n r fr w') : W P (.region id l.toArray true) Q n fr w :=
  W_region_S (Below w.heap.size w) r hm hs hB hQ (Below.drew (Below.refl _ _)) (fun w' h1 _ h3 => h w' h1 h3)
/-- All blocks of w but one stand. -/
theorem W_region_R {id : Nat} {l : List Oper} (row : Option Nat) (r : Plan) (hm : P.follows .mixedOrders = true) (hs : Region.noSelect l.toArray = true)
    (hB : planB l.toArray r l.toArray.size (Array.replicate l.toArray.size false) = true) (hQ : ∀ c a d v w, Q (.panic c) (a.put d v) w → Q (.panic c) a w)
    (h : ∀ w', w.grownBy w' row → Below w.heap.size w w' → w'.heap.size = w.heap.size → LM P l.toArray (fun w' => w.grownBy w' row) Q n r fr w') : W P (.region id l.toArray true) Q n fr w :=
  W_region_S (fun w' => w.grownBy w' row) r hm hs hB hQ ⟨rfl, rfl, rfl, Nat.le_refl _, fun _ _ _ => rfl⟩ h

theorem kp_below {w w1 w2 : World} {row : Option Nat} (h : w.grownBy w1 row) (k : Below w1.heap.size w1 w2) : w.grownBy w2 row :=
  ⟨k.os.trans h.os, k.tape.trans h.tape, k.output.trans h.output, Nat.le_trans h.size k.size, fun i hi hne => (k.block i (Nat.lt_of_lt_of_le hi h.size)).trans (h.block i hi hne)⟩
theorem kp_row {w w1 w2 : World} {row : Option Nat} (h : w.grownBy w1 row) (k : w1.grownBy w2 row) : w.grownBy w2 row :=
  ⟨k.os.trans h.os, k.tape.trans h.tape, k.output.trans h.output, Nat.le_trans h.size k.size, fun i hi hne => (k.block i (Nat.lt_of_lt_of_le hi h.size) hne).trans (h.block i hi hne)⟩
theorem isLM {S : World → Prop} {r : Plan} {ops : Array Oper} (h : LM P ops S Q n r fr w) : LM P ops S Q n r fr w := h

variable {r q : Plan} {i j : Nat} {o : Oper}
theorem LM_nil (h : At Q .normal n fr w) : LM P ops S Q n .done fr w := ⟨fun a s => h.run a s⟩

/-- What follows an operation that only looks. -/
def MixK (P : Program) (ops : Array Oper) (S : World → Prop) (Q : Exit → Act → World → Prop) (r : Plan) (w : World) (a : Act) : Prop := wpMix P ops S Q r a w
def MixE (P : Program) (ops : Array Oper) (S : World → Prop) (Q : Exit → Act → World → Prop) (r : Plan) (e : Exit) (a : Act) (w : World) : Prop := e = .normal ∧ S w ∧ wpMix P ops S Q r a w

theorem LM_look (hi : ops[i]? = some o) (hk : quietKind o.op = true) (h : LQ P ops S (MixK P ops S Q r w) n [o] fr) : LM P ops S Q n (.look i r) fr w := ⟨fun a s => by
  have h' := h.run a s
  unfold wpQuiet at h'
  split at h'
  · rename_i hw
    obtain ⟨v, h1, h2⟩ := h'
    refine ⟨o, v, hi, .inl ⟨hw, fun w' hw' => ?_⟩, h2⟩
    have h3 := h1 w' hw'
    unfold Oper.quietAt at h3
    generalize hr : (execOp a.eval o).run P w' = res at h3
    cases res with
    | ok nx w'' =>
      obtain ⟨u, rfl⟩ := quietKind_value hk hr
      obtain ⟨rfl, rfl⟩ := h3
      rfl
    | halt x w'' => cases h3
  · rename_i hw
    exact ⟨o, undef, hi, .inr ⟨by simpa using hw, rfl⟩, h'⟩⟩
theorem LQ_mix (h : LM P ops S Q n r fr w) : LQ P ops S (MixK P ops S Q r w) n [] fr := ⟨fun a s => wpQuiet_nil (h.run a s)⟩

theorem LM_do {d : Nat} {v : Value} (hi : ops[i]? = some o) (hg : o.guard = none) (hd : o.dst = some d) (hdn : Nat.blt d n = true) (h : ∀ w', S w' → Does P o fr w' v) (k : LM P ops S Q n r ((d, v) :: fr) w) : LM P ops S Q n (.look i r) fr w := ⟨fun a s =>
  ⟨o, v, hi, .inl ⟨by simp [Region.wanted, hg], fun w' hw' => (h w' hw').run a.eval (fun x u e => s.ev e)⟩, by rw [hd]; exact k.run _ (s.put hdn)⟩⟩

theorem LM_act (hi : ops[i]? = some o) (h : L P ops (MixE P ops S Q r) n [o] fr w) : LM P ops S Q n (.act i r) fr w := ⟨fun a s => ⟨o, hi, h.run a s⟩⟩
theorem LM_both {o' : Oper} (hi : ops[i]? = some o) (hj : ops[j]? = some o') (h1 : L P ops (MixE P ops S Q r) n [o] fr w) (h2 : L P ops (MixE P ops S Q q) n [o'] fr w) : LM P ops S Q n (.both i r j q) fr w :=
  ⟨fun a s => ⟨⟨o, hi, h1.run a s⟩, o', hj, h2.run a s⟩⟩
theorem At_mix (hS : S w) (h : LM P ops S Q n r fr w) : At (MixE P ops S Q r) .normal n fr w := ⟨fun a s => ⟨rfl, hS, h.run a s⟩⟩
end
end Go.Proofs.YtjobbcdolbhadaaGreatDoor
