/-
  A layer over the kit's weakest preconditions: a frame is known by a short list of slots ('Fr'), and each operation has one lemma that takes and leaves such a list.
-/
import Derived.WalkKit
import Derived.Deep.Quiet
namespace Go.Proofs.YtnemajefpgicgaaDoor
open Go Go.RowKit

/-! ### Frames as lists of known slots -/
abbrev Fr := List (Nat × Value)

def Fr.get : Fr → Nat → Option Value
  | [], _ => none
  | (k, v) :: r, t => bif Nat.beq k t then some v else Fr.get r t

def Fr.ev (fr : Fr) : Operand → Option Value
  | .tmp t => fr.get t
  | .const v => some v
  | .global g => some (.pointer (some ⟨g, 0, none⟩))
  | .func f => some (.func (.func f) #[] #[])

def Fr.evs (fr : Fr) : List Operand → Option (List Value)
  | [] => some []
  | x :: r => match fr.ev x, Fr.evs fr r with
    | some v, some vs => some (v :: vs)
    | _, _ => none

structure Sim (fr : Fr) (n : Nat) (a : Act) : Prop where
  size : a.tmps.size = n
  defers : a.defers = []
  slot : ∀ t v, fr.get t = some v → a.tmps[t]? = some v

theorem Sim.getD {fr : Fr} {n : Nat} {a : Act} (h : Sim fr n a) {t : Nat} {v : Value} (e : fr.get t = some v) : a.tmps.getD t undef = v := by
  have := h.slot t v e
  simp [Array.getD_eq_getD_getElem?, this]

theorem Sim.ev {fr : Fr} {n : Nat} {a : Act} (h : Sim fr n a) {x : Operand} {v : Value} (e : fr.ev x = some v) : a.eval x = v := by
  cases x with
  | tmp t => exact h.getD e
  | const u => simpa [Fr.ev, Act.eval] using e
  | global g => simpa [Fr.ev, Act.eval] using e
  | func f => simpa [Fr.ev, Act.eval] using e

theorem Sim.evs {fr : Fr} {n : Nat} {a : Act} (h : Sim fr n a) {xs : List Operand} {vs : List Value} (e : fr.evs xs = some vs) : xs.map a.eval = vs := by
  induction xs generalizing vs with
  | nil => simpa [Fr.evs] using e
  | cons x r ih =>
    simp only [Fr.evs] at e
    split at e
    · rename_i v vs' h1 h2
      obtain rfl : v :: vs' = vs := by simpa using e
      simp [h.ev h1, ih h2]
    · simp at e

theorem Sim.put {fr : Fr} {n : Nat} {a : Act} (h : Sim fr n a) {d : Nat} {v : Value} (hd : Nat.blt d n = true) : Sim ((d, v) :: fr) n (a.put (some d) v) := by
  have hd' : d < a.tmps.size := by rw [h.size]; simpa [Nat.blt_eq] using hd
  refine ⟨by simp [Act.put, h.size], by simp [Act.put, h.defers], ?_⟩
  intro t u e
  simp only [Fr.get] at e
  by_cases hk : d = t
  · subst hk
    simp at e
    subst e
    simp [Act.put, hd']
  · have : Nat.beq d t = false := by
      cases hb : Nat.beq d t
      · rfl
      · exact absurd (Nat.eq_of_beq_eq_true hb) hk
    rw [this] at e
    have := h.slot t u e
    simp [Act.put, hk, this]

theorem Sim.put_none {fr : Fr} {n : Nat} {a : Act} (h : Sim fr n a) {v : Value} : Sim fr n (a.put none v) := h

/-- 'fr' knows no more than 'gr'. -/
def Fr.sub (fr gr : Fr) : Bool := fr.all fun p => match gr.get p.1 with | some _ => true | none => false

theorem Sim.of_slots {fr gr : Fr} {n : Nat} {a : Act} (h : Sim gr n a) (hs : ∀ t v, fr.get t = some v → gr.get t = some v) : Sim fr n a :=
  ⟨h.size, h.defers, fun t v e => h.slot t v (hs t v e)⟩

theorem get_nil_slots (gr : Fr) : ∀ t v, Fr.get [] t = some v → gr.get t = some v := fun _ _ h => by simp [Fr.get] at h
theorem get_cons_slots {fr gr : Fr} {k : Nat} {u : Value} (hk : gr.get k = some u) (h : ∀ t v, fr.get t = some v → gr.get t = some v) :
    ∀ t v, Fr.get ((k, u) :: fr) t = some v → gr.get t = some v := by
  intro t v e
  simp only [Fr.get] at e
  by_cases hkt : k = t
  · subst hkt
    simp at e
    subst e
    exact hk
  · have : Nat.beq k t = false := by
      cases hb : Nat.beq k t
      · rfl
      · exact absurd (Nat.eq_of_beq_eq_true hb) hkt
    rw [this] at e
    exact h t v e

/-! ### The three judgements: code, the rest of a region, an exit -/
structure W (P : Program) (c : Code) (Q : Exit → Act → World → Prop) (n : Nat) (fr : Fr) (w : World) : Prop where
  run : ∀ a, Sim fr n a → c.wp P Q a w
structure L (P : Program) (ops : Array Oper) (Q : Exit → Act → World → Prop) (n : Nat) (l : List Oper) (fr : Fr) (w : World) : Prop where
  run : ∀ a, Sim fr n a → wpList P ops Q l a w
structure At (Q : Exit → Act → World → Prop) (e : Exit) (n : Nat) (fr : Fr) (w : World) : Prop where
  run : ∀ a, Sim fr n a → Q e a w

section rules
variable {P : Program} {Q : Exit → Act → World → Prop} {n : Nat} {fr : Fr} {w : World}

theorem W_seq {x y : Code} (h : W P x (Exit.then (y.wp P Q) Q) n fr w) : W P (.seq x y) Q n fr w := ⟨fun a s => wp_seq (h.run a s)⟩
theorem W_skip (h : At Q .normal n fr w) : W P .skip Q n fr w := ⟨fun a s => wp_skip (h.run a s)⟩
theorem W_ret (h : At Q .ret n fr w) : W P .ret Q n fr w := ⟨fun a s => wp_ret (h.run a s)⟩
theorem W_exit {id : Nat} (h : At Q (.exit id) n fr w) : W P (.exit id) Q n fr w := ⟨fun a s => wp_exit (h.run a s)⟩
theorem W_block {id : Nat} {c : Code} (h : W P c (Exit.inBlock id Q) n fr w) : W P (.block id c) Q n fr w := ⟨fun a s => wp_block (h.run a s)⟩
theorem W_cond_true {c : Operand} {x y : Code} (hc : fr.ev c = some (.bool true)) (h : W P x Q n fr w) : W P (.cond c x y) Q n fr w := ⟨fun a s => wp_cond_true (s.ev hc) (h.run a s)⟩
theorem W_cond_false {c : Operand} {x y : Code} (hc : fr.ev c = some (.bool false)) (h : W P y Q n fr w) : W P (.cond c x y) Q n fr w := ⟨fun a s => wp_cond_false (s.ev hc) (h.run a s)⟩
theorem W_cond {c : Operand} {x y : Code} {b : Bool} (hc : fr.ev c = some (.bool b)) (ht : b = true → W P x Q n fr w) (hf : b = false → W P y Q n fr w) : W P (.cond c x y) Q n fr w :=
  ⟨fun a s => wp_cond_split (s.ev hc) (fun e => (ht e).run a s) (fun e => (hf e).run a s)⟩
theorem W_region {id : Nat} {l : List Oper} (h : L P l.toArray Q n l fr w) : W P (.region id l.toArray false) Q n fr w := ⟨fun a s => wp_region_lit (h.run a s)⟩
theorem W_forget {c : Code} (gr : Fr) (hs : ∀ t v, gr.get t = some v → fr.get t = some v) (h : W P c Q n gr w) : W P c Q n fr w := ⟨fun a s => h.run a (s.of_slots hs)⟩

theorem At_then {y : Code} (h : W P y Q n fr w) : At (Exit.then (y.wp P Q) Q) .normal n fr w := ⟨fun a s => h.run a s⟩
theorem At_then_ret {K : Act → World → Prop} (h : At Q .ret n fr w) : At (Exit.then K Q) .ret n fr w := ⟨fun a s => h.run a s⟩
theorem At_then_exit {K : Act → World → Prop} {id : Nat} (h : At Q (.exit id) n fr w) : At (Exit.then K Q) (.exit id) n fr w := ⟨fun a s => h.run a s⟩
theorem At_block_normal {id : Nat} (h : At Q .normal n fr w) : At (Exit.inBlock id Q) .normal n fr w := ⟨fun a s => h.run a s⟩
theorem At_block_ret {id : Nat} (h : At Q .ret n fr w) : At (Exit.inBlock id Q) .ret n fr w := ⟨fun a s => h.run a s⟩
theorem At_block_hit {id : Nat} (h : At Q .normal n fr w) : At (Exit.inBlock id Q) (.exit id) n fr w := ⟨fun a s => by
  simp only [Exit.inBlock, if_pos]; exact h.run a s⟩
theorem At_block_miss {id j : Nat} (hj : Nat.beq j id = false) (h : At Q (.exit j) n fr w) : At (Exit.inBlock id Q) (.exit j) n fr w := ⟨fun a s => by
  have : ¬ j = id := fun e => by subst e; simp at hj
  simp only [Exit.inBlock, if_neg this]; exact h.run a s⟩
theorem L_nil {ops : Array Oper} (h : At Q .normal n fr w) : L P ops Q n [] fr w := ⟨fun a s => wpList_nil (h.run a s)⟩

/-- A loop: 'I m fr w' holds at its head, the number m goes down. -/
theorem W_loop {c : Code} (I : Nat → Fr → World → Prop) {m : Nat} (h0 : I m fr w)
    (hr : ∀ m fr w, I m fr w → W P c (Exit.then (fun a w => ∃ m' fr', m' < m ∧ Sim fr' n a ∧ I m' fr' w) Q) n fr w) : W P (.loop c) Q n fr w := by
  refine ⟨fun a s b k cs => ?_⟩
  have key : ∀ m a w fr, Sim fr n a → I m fr w → ∃ e a' w', Q e a' w' ∧ Arrives P (lone (b.at a (.code c :: .inLoop c :: k)) cs w) b k cs e a' w' := by
    intro m
    induction m using Nat.strongRecOn with
    | _ m ih =>
      intro a w fr s hI
      obtain ⟨e, a₁, w₁, hq, harr⟩ := (hr m fr w hI).run a s b (.inLoop c :: k) cs
      cases e with
      | normal =>
        obtain ⟨m', fr', hlt, s', hI'⟩ := hq
        obtain ⟨e₂, a₂, w₂, hq₂, harr₂⟩ := ih m' hlt a₁ w₁ fr' s' hI'
        exact ⟨e₂, a₂, w₂, hq₂, .of_steps (Steps.trans harr (.one step_inLoop)) harr₂⟩
      | exit id => exact ⟨_, a₁, w₁, hq, .pass (x := .inLoop c) rfl (fun _ _ => .inl (by simp)) harr⟩
      | goto l => exact ⟨_, a₁, w₁, hq, .pass (x := .inLoop c) rfl (fun _ _ => .inl (by simp)) harr⟩
      | ret => exact ⟨_, a₁, w₁, hq, .pass (x := .inLoop c) rfl (fun _ _ => .inl (by simp)) harr⟩
      | panic ch => exact ⟨_, a₁, w₁, hq, .pass (x := .inLoop c) rfl (fun _ _ => .inl (by simp)) harr⟩
      | outgrown => exact ⟨_, a₁, w₁, hq, .pass (x := .inLoop c) rfl (fun _ _ => .inl (by simp)) harr⟩
  obtain ⟨e, a', w', hq, harr⟩ := key m a w fr s h0
  exact ⟨e, a', w', hq, .of_steps (.one step_loop) harr⟩

theorem W_loopF {c : Code} (I : Nat → Fr → World → Prop) (m : Nat) (gr : Fr) (hs : ∀ t v, gr.get t = some v → fr.get t = some v) (h0 : I m gr w)
    (hr : ∀ m fr w, I m fr w → W P c (Exit.then (fun a w => ∃ m' fr', m' < m ∧ Sim fr' n a ∧ I m' fr' w) Q) n fr w) : W P (.loop c) Q n fr w :=
  W_forget gr hs (W_loop I h0 hr)

/-- A loop's round ends. -/
theorem At_round {I : Nat → Fr → World → Prop} {m : Nat} (m' : Nat) (gr : Fr) (hs : ∀ t v, gr.get t = some v → fr.get t = some v) (hm : m' < m) (hI : I m' gr w) :
    At (Exit.then (fun a w => ∃ m' fr', m' < m ∧ Sim fr' n a ∧ I m' fr' w) Q) .normal n fr w :=
  ⟨fun _ s => ⟨m', gr, hm, s.of_slots hs, hI⟩⟩

/-! ### Calls: what a contract says, and the end of a call -/
def Ret (R : Value → World → Prop) (e : Ending) (w : World) : Prop := ∃ v, e = .returned v ∧ R v w
structure Cl (P : Program) (f : FuncId) (vs : List Value) (w : World) (R : Value → World → Prop) : Prop where
  run : Calls P f vs.toArray w (Ret R)
/-- The value v, and nothing that was there has changed. -/
def V (w : World) (v : Value) (u : Value) (w' : World) : Prop := u = v ∧ Below w.heap.size w w'
theorem Cl.mono {P : Program} {f : FuncId} {vs : List Value} {w : World} {R R' : Value → World → Prop} (h : Cl P f vs w R) (hr : ∀ v w', R v w' → R' v w') : Cl P f vs w R' :=
  ⟨h.run.mono fun _ _ ⟨v, he, hv⟩ => ⟨v, he, hr _ _ hv⟩⟩

theorem At_end1 {fn : Func} {R : Value → World → Prop} {t : Nat} {v : Value} (hres : fn.results = #[.tmp t]) (hv : fr.get t = some v) (hR : R v w) :
    At (bodyPost P fn (Ret R)) .ret n fr w := ⟨fun a s =>
  ⟨s.defers, v, by rw [results_tmp hres, s.getD hv], v, rfl, hR⟩⟩
theorem At_end1n {fn : Func} {R : Value → World → Prop} {t : Nat} {v : Value} (hres : fn.results = #[.tmp t]) (hv : fr.get t = some v) (hR : R v w) :
    At (bodyPost P fn (Ret R)) .normal n fr w := ⟨fun a s =>
  ⟨s.defers, v, by rw [results_tmp hres, s.getD hv], v, rfl, hR⟩⟩
theorem At_end2 {fn : Func} {R : Value → World → Prop} {t u : Nat} {x y : Value} (hres : fn.results = #[.tmp t, .tmp u]) (hx : fr.get t = some x) (hy : fr.get u = some y) (hR : R (.tuple #[x, y]) w) :
    At (bodyPost P fn (Ret R)) .ret n fr w := ⟨fun a s =>
  ⟨s.defers, _, by rw [results_tmp2 hres, s.getD hx, s.getD hy], _, rfl, hR⟩⟩
theorem At_end0 {fn : Func} {R : Value → World → Prop} (hres : fn.results = #[]) (hR : R (.tuple #[]) w) :
    At (bodyPost P fn (Ret R)) .ret n fr w := ⟨fun a s =>
  ⟨s.defers, _, by rw [results_none hres], _, rfl, hR⟩⟩
theorem At_end0n {fn : Func} {R : Value → World → Prop} (hres : fn.results = #[]) (hR : R (.tuple #[]) w) :
    At (bodyPost P fn (Ret R)) .normal n fr w := ⟨fun a s =>
  ⟨s.defers, _, by rw [results_none hres], _, rfl, hR⟩⟩

/-- A call begins: its parameters lie in the first slots. -/
def startFr : Nat → List Value → Fr
  | _, [] => []
  | k, v :: r => (k, v) :: startFr (k + 1) r

theorem startFr_get (vs : List Value) : ∀ (k t : Nat) (v : Value), (startFr k vs).get t = some v → k ≤ t ∧ vs[t - k]? = some v := by
  induction vs with
  | nil => intro k t v h; simp [startFr, Fr.get] at h
  | cons u r ih =>
    intro k t v h
    simp only [startFr, Fr.get] at h
    by_cases hk : k = t
    · subst hk; simp at h; subst h; simp
    · have hb : Nat.beq k t = false := by
        cases hb : Nat.beq k t
        · rfl
        · exact absurd (Nat.eq_of_beq_eq_true hb) hk
      rw [hb] at h
      obtain ⟨h1, h2⟩ := ih (k + 1) t v h
      refine ⟨by omega, ?_⟩
      rw [show t - k = (t - (k + 1)) + 1 by omega]
      simpa using h2

theorem calls_start {f : FuncId} {fn : Func} {c : Code} {vs : List Value} {R : Value → World → Prop} (N : Nat) (hf : P.funcs[f]? = some fn) (hb : fn.body = some c)
    (hN : fn.ntmps = N) (hl : Nat.ble vs.length N = true) (h : W P c (bodyPost P fn (Ret R)) N (startFr 0 vs) w) : Cl P f vs w R := by
  have hl' : vs.length ≤ N := Nat.le_of_ble_eq_true hl
  refine ⟨calls_of_wp hf hb (h.run _ ⟨by simp [hN]; omega, rfl, ?_⟩)⟩
  intro t v e
  obtain ⟨-, h2⟩ := startFr_get vs 0 t v e
  have h3 : vs[t]? = some v := by simpa using h2
  have h4 : t < vs.length := (List.getElem?_eq_some_iff.1 h3).1
  rw [Array.getElem?_append_left (by simpa using h4)]
  simpa using h3

end rules
end Go.Proofs.YtnemajefpgicgaaDoor
