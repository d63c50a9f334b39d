/-
  Regions that draw their order and change memory: what only looks is taken first, in the order of a plan; what changes memory comes up alone. (Over Derived/OrdersHeld.lean.)
-/
import Derived.Test.YtnemajefpgicgaaDoorFlOwn
import Derived.OrdersHeld
namespace Go.Proofs.YtnemajefpgicgaaDoor
open Go Go.RowKit

/-- Operations that hand back a value, if they come to an end. -/
def quietKind : Op → Bool
  | .move _ | .assign _ | .load _ _ | .binOp _ _ _ _ _ | .unOp _ _ _ | .convert _ _ _ | .makeFunc _ _ _ | .fieldAddr _ _ _ | .field _ _ _ | .indexAddr _ _ _ | .index _ _ _ | .slice _ _ _ _ _ | .extract _ _ | .build _ _ | .pick _ _ _ => true
  | .call ⟨.builtin .len, _, _⟩ | .call ⟨.builtin .min, _, _⟩ | .call ⟨.builtin .max, _, _⟩ | .call ⟨.builtin .cap, _, _⟩ => true
  | _ => false

section
variable {P : Program} {ops : Array Oper} {S : World → Prop} {Q : Exit → Act → World → Prop} {n : Nat} {fr : Fr} {w : World}

theorem run_v {m : Sem Value} {r : Next} {w w' : World} (h : (do pure (Next.value (← m)) : Sem Next).run P w = .ok r w') : ∃ u, r = .value u := by
  rw [Sem.run_bind] at h
  cases hm : m.run P w with
  | ok u w1 => rw [hm] at h; simp at h; exact ⟨_, h.1.symm⟩
  | halt x w1 => rw [hm] at h; simp at h

theorem quietKind_value {o : Oper} {ρ : Operand → Value} {r : Next} {w w' : World} (hk : quietKind o.op = true) (h : (execOp ρ o).run P w = .ok r w') : ∃ u, r = .value u := by
  obtain ⟨dst, op, ty, pos, af, g⟩ := o
  cases op <;> simp only [quietKind, Bool.false_eq_true] at hk
  case move x => simp only [execOp, pure, Sem.run] at h; injection h with h1 _; exact ⟨_, h1.symm⟩
  case assign x => simp only [execOp, pure, Sem.run] at h; injection h with h1 _; exact ⟨_, h1.symm⟩
  case pick c x y =>
    simp only [execOp] at h
    rw [Sem.run_bind] at h
    cases hm : (asBool (ρ c)).run P w with
    | ok u w1 => rw [hm] at h; simp at h; exact ⟨_, h.1.symm⟩
    | halt x w1 => rw [hm] at h; simp at h
  case call c =>
    obtain ⟨cal, args, ats⟩ := c
    cases cal with
    | builtin b => cases b <;> simp only [Bool.false_eq_true] at hk <;> exact run_v h
    | invoke r m => simp only [Bool.false_eq_true] at hk
    | value f => simp only [Bool.false_eq_true] at hk
  all_goals exact run_v h

/-- In which order a region is walked: 'look': an operation that only looks, taken first; 'act': one that comes up alone; 'both': either of two may come up. -/
inductive Plan
  | done
  | look (i : Nat) (p : Plan)
  | act (i : Nat) (p : Plan)
  | both (i : Nat) (p : Plan) (j : Nat) (q : Plan)

/-- The walk of a plan. -/
def wpMix (P : Program) (ops : Array Oper) (S : World → Prop) (Q : Exit → Act → World → Prop) : Plan → Act → World → Prop
  | .done, a, w => Q .normal a w
  | .look i p, a, w => ∃ o v, ops[i]? = some o ∧ YieldsIf P ops S o v a ∧ wpMix P ops S Q p (a.put o.dst v) w
  | .act i p, a, w => ∃ o, ops[i]? = some o ∧ wpList P ops (fun e a' w' => e = .normal ∧ S w' ∧ wpMix P ops S Q p a' w') [o] a w
  | .both i p j q, a, w => (∃ o, ops[i]? = some o ∧ wpList P ops (fun e a' w' => e = .normal ∧ S w' ∧ wpMix P ops S Q p a' w') [o] a w) ∧
      ∃ o, ops[j]? = some o ∧ wpList P ops (fun e a' w' => e = .normal ∧ S w' ∧ wpMix P ops S Q q a' w') [o] a w

def planB (ops : Array Oper) : Plan → Nat → Array Bool → Bool
  | .done, _, l => (Region.ready .any ops l).isEmpty
  | .look i p, n + 1, l => (Region.ready .any ops l).contains i && Region.free .any ops l i && planB ops p n (l.setIfInBounds i true)
  | .act i p, n + 1, l => (Region.ready .any ops l == [i]) && planB ops p n (l.setIfInBounds i true)
  | .both i p j q, n + 1, l => (Region.ready .any ops l == [i, j]) && planB ops p n (l.setIfInBounds i true) && planB ops q n (l.setIfInBounds j true)
  | _, 0, _ => false

theorem upon_only {o : Oper} {a : Act} {K K' : Act → World → Prop} {Q Q' : Exit → Act → World → Prop} (hK : ∀ a w, K a w → K' a w) (hQ : ∀ e a w, Q e a w → e = .normal) {r : Result Next} (h : o.upon P a K Q r) : o.upon P a K' Q' r := by
  have hlo : ¬ LetsOut Q := fun ⟨a, w, hq⟩ => by cases hQ _ _ _ hq
  cases r with
  | ok nx w' =>
    cases nx <;> simp only [Oper.upon] at h ⊢
    case value v => exact hK _ _ h
    case skip => exact hK _ _ h
    case defer d => exact hK _ _ h
    case enter f args =>
      refine Calls.mono h fun e w'' he => ?_
      cases e with
      | returned u => exact hK _ _ he
      | panicked c => cases hQ _ _ _ he
      | outgrown => exact absurd he hlo
    case row row args => exact Rows.mono h fun u w'' he => hK _ _ he
  | halt x w' =>
    cases x <;> simp only [Oper.upon] at h ⊢
    case panic u => cases hQ _ _ _ h

theorem wpOp_of_one {i : Nat} {o : Oper} {a : Act} {K : Act → World → Prop} {Q : Exit → Act → World → Prop} (hi : ops[i]? = some o)
    (h : wpList P ops (fun e a' w' => e = .normal ∧ K a' w') [o] a w) : wpOp P ops Q i K a w := by
  unfold wpList at h
  unfold wpOp
  simp only [hi]
  split
  · rename_i hw
    rw [if_pos hw] at h
    rcases h with h | ⟨_, a, w, hq, _⟩
    · exact .inl (upon_only (fun _ _ hk => hk.2) (fun _ _ _ hq => hq.1) h)
    · cases hq
  · rename_i hw
    rw [if_neg hw] at h
    exact h.2

theorem wpAnyH_of_mix (hs : Region.noSelect ops = true) (hQ : ∀ c a d v w, Q (.panic c) (a.put d v) w → Q (.panic c) a w) : ∀ (r : Plan) (m : Nat) (l : Array Bool) (a : Act) (w : World),
    planB ops r m l = true → S w → wpMix P ops S Q r a w → wpAnyH P .any ops Q S m l a w
  | .done, m, l, a, w, hB, _, h => wpAnyH_done (by simpa [planB] using hB) h m
  | .look i r, m + 1, l, a, w, hB, hS, h => by
    simp only [planB, Bool.and_eq_true] at hB
    obtain ⟨o, v, hi, hy, h'⟩ := h
    exact wpAnyH_take hi hs hB.1.2 hB.1.1 (fun c a w => hQ c a _ _ w) hy hS (wpAnyH_of_mix hs hQ r m _ _ _ hB.2 hS h')
  | .act i r, m + 1, l, a, w, hB, hS, h => by
    simp only [planB, Bool.and_eq_true, beq_iff_eq] at hB
    obtain ⟨o, hi, h'⟩ := h
    refine wpAnyH_all hB.1 (by simp) (fun j hj => ?_)
    obtain rfl : j = i := by simpa using hj
    exact wpOp_mono (fun a' w' hk => ⟨hk.1, wpAnyH_of_mix hs hQ r m _ _ _ hB.2 hk.1 hk.2⟩) (wpOp_of_one hi h')
  | .both i r j q, m + 1, l, a, w, hB, hS, h => by
    simp only [planB, Bool.and_eq_true, beq_iff_eq] at hB
    obtain ⟨⟨o, hi, h1⟩, o', hj', h2⟩ := h
    refine wpAnyH_all hB.1.1 (by simp) (fun k hk => ?_)
    have hk' : k = i ∨ k = j := by simpa using hk
    rcases hk' with rfl | rfl
    · exact wpOp_mono (fun a' w' hk => ⟨hk.1, wpAnyH_of_mix hs hQ r m _ _ _ hB.1.2 hk.1 hk.2⟩) (wpOp_of_one hi h1)
    · exact wpOp_mono (fun a' w' hk => ⟨hk.1, wpAnyH_of_mix hs hQ q m _ _ _ hB.2 hk.1 hk.2⟩) (wpOp_of_one hj' h2)
  | .look _ _, 0, _, _, _, hB, _, _ => by simp [planB] at hB
  | .act _ _, 0, _, _, _, hB, _, _ => by simp [planB] at hB
  | .both _ _ _ _, 0, _, _, _, hB, _, _ => by simp [planB] at hB

/-- The walk of a plan, over known slots. -/
structure LM (P : Program) (ops : Array Oper) (S : World → Prop) (Q : Exit → Act → World → Prop) (n : Nat) (r : Plan) (fr : Fr) (w : World) : Prop where
  run : ∀ a, Sim fr n a → wpMix P ops S Q r a w

theorem W_region_S {id : Nat} {l : List Oper} (S : World → Prop) (r : Plan) (hm : P.follows .mixedOrders = true) (hs : Region.noSelect l.toArray = true)
    (hB : planB l.toArray r l.toArray.size (Array.replicate l.toArray.size false) = true) (hQ : ∀ c a d v w, Q (.panic c) (a.put d v) w → Q (.panic c) a w) (hS : S { w with drawn := w.drawn + 1 })
    (h : ∀ w', S w' → Below w.heap.size w w' → w'.heap.size = w.heap.size → LM P l.toArray S Q n r fr w') : W P (.region id l.toArray true) Q n fr w := ⟨fun a s => by
  have hd : Below w.heap.size w { w with drawn := w.drawn + 1 } := Below.drew (Below.refl _ _)
  refine wp_region_held (S := S) hm ?_
  exact wpAnyH_of_mix (P := P) (S := S) hs hQ r _ _ a _ hB hS ((h _ hS hd rfl).run a s)⟩
theorem W_region_M {id : Nat} {l : List Oper} (r : Plan) (hm : P.follows .mixedOrders = true) (hs : Region.noSelect l.toArray = true)
    (hB : planB l.toArray r l.toArray.size (Array.replicate l.toArray.size false) = true) (hQ : ∀ c a d v w, Q (.panic c) (a.put d v) w → Q (.panic c) a w)
    (h : ∀ w', Below w.heap.size w w' → w'.heap.size = w.heap.size → LM P l.toArray (Below w.heap.size w) Q n r fr w') : W P (.region id l.toArray true) Q n fr w :=
  W_region_S (Below w.heap.size w) r hm hs hB hQ (Below.drew (Below.refl _ _)) (fun w' h1 _ h3 => h w' h1 h3)
/-- All blocks of w but one stand. -/
theorem W_region_R {id : Nat} {l : List Oper} (row : Option Nat) (r : Plan) (hm : P.follows .mixedOrders = true) (hs : Region.noSelect l.toArray = true)
    (hB : planB l.toArray r l.toArray.size (Array.replicate l.toArray.size false) = true) (hQ : ∀ c a d v w, Q (.panic c) (a.put d v) w → Q (.panic c) a w)
    (h : ∀ w', w.grownBy w' row → Below w.heap.size w w' → w'.heap.size = w.heap.size → LM P l.toArray (fun w' => w.grownBy w' row) Q n r fr w') : W P (.region id l.toArray true) Q n fr w :=
  W_region_S (fun w' => w.grownBy w' row) r hm hs hB hQ ⟨rfl, rfl, rfl, Nat.le_refl _, fun _ _ _ => rfl⟩ h

theorem kp_below {w w1 w2 : World} {row : Option Nat} (h : w.grownBy w1 row) (k : Below w1.heap.size w1 w2) : w.grownBy w2 row :=
  ⟨k.os.trans h.os, k.tape.trans h.tape, k.output.trans h.output, Nat.le_trans h.size k.size, fun i hi hne => (k.block i (Nat.lt_of_lt_of_le hi h.size)).trans (h.block i hi hne)⟩
theorem kp_row {w w1 w2 : World} {row : Option Nat} (h : w.grownBy w1 row) (k : w1.grownBy w2 row) : w.grownBy w2 row :=
  ⟨k.os.trans h.os, k.tape.trans h.tape, k.output.trans h.output, Nat.le_trans h.size k.size, fun i hi hne => (k.block i (Nat.lt_of_lt_of_le hi h.size) hne).trans (h.block i hi hne)⟩
theorem isLM {S : World → Prop} {r : Plan} {ops : Array Oper} (h : LM P ops S Q n r fr w) : LM P ops S Q n r fr w := h

variable {r q : Plan} {i j : Nat} {o : Oper}
theorem LM_nil (h : At Q .normal n fr w) : LM P ops S Q n .done fr w := ⟨fun a s => h.run a s⟩

/-- What follows an operation that only looks. -/
def MixK (P : Program) (ops : Array Oper) (S : World → Prop) (Q : Exit → Act → World → Prop) (r : Plan) (w : World) (a : Act) : Prop := wpMix P ops S Q r a w
def MixE (P : Program) (ops : Array Oper) (S : World → Prop) (Q : Exit → Act → World → Prop) (r : Plan) (e : Exit) (a : Act) (w : World) : Prop := e = .normal ∧ S w ∧ wpMix P ops S Q r a w

theorem LM_look (hi : ops[i]? = some o) (hk : quietKind o.op = true) (h : LQ P ops S (MixK P ops S Q r w) n [o] fr) : LM P ops S Q n (.look i r) fr w := ⟨fun a s => by
  have h' := h.run a s
  unfold wpQuiet at h'
  split at h'
  · rename_i hw
    obtain ⟨v, h1, h2⟩ := h'
    refine ⟨o, v, hi, .inl ⟨hw, fun w' hw' => ?_⟩, h2⟩
    have h3 := h1 w' hw'
    unfold Oper.quietAt at h3
    generalize hr : (execOp a.eval o).run P w' = res at h3
    cases res with
    | ok nx w'' =>
      obtain ⟨u, rfl⟩ := quietKind_value hk hr
      obtain ⟨rfl, rfl⟩ := h3
      rfl
    | halt x w'' => cases h3
  · rename_i hw
    exact ⟨o, undef, hi, .inr ⟨by simpa using hw, rfl⟩, h'⟩⟩
theorem LQ_mix (h : LM P ops S Q n r fr w) : LQ P ops S (MixK P ops S Q r w) n [] fr := ⟨fun a s => wpQuiet_nil (h.run a s)⟩

theorem LM_do {d : Nat} {v : Value} (hi : ops[i]? = some o) (hg : o.guard = none) (hd : o.dst = some d) (hdn : Nat.blt d n = true) (h : ∀ w', S w' → Does P o fr w' v) (k : LM P ops S Q n r ((d, v) :: fr) w) : LM P ops S Q n (.look i r) fr w := ⟨fun a s =>
  ⟨o, v, hi, .inl ⟨by simp [Region.wanted, hg], fun w' hw' => (h w' hw').run a.eval (fun x u e => s.ev e)⟩, by rw [hd]; exact k.run _ (s.put hdn)⟩⟩

theorem LM_act (hi : ops[i]? = some o) (h : L P ops (MixE P ops S Q r) n [o] fr w) : LM P ops S Q n (.act i r) fr w := ⟨fun a s => ⟨o, hi, h.run a s⟩⟩
theorem LM_both {o' : Oper} (hi : ops[i]? = some o) (hj : ops[j]? = some o') (h1 : L P ops (MixE P ops S Q r) n [o] fr w) (h2 : L P ops (MixE P ops S Q q) n [o'] fr w) : LM P ops S Q n (.both i r j q) fr w :=
  ⟨fun a s => ⟨⟨o, hi, h1.run a s⟩, o', hj, h2.run a s⟩⟩
theorem At_mix (hS : S w) (h : LM P ops S Q n r fr w) : At (MixE P ops S Q r) .normal n fr w := ⟨fun a s => ⟨rfl, hS, h.run a s⟩⟩
end
end Go.Proofs.YtnemajefpgicgaaDoor
