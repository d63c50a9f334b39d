/-
  A range over a function in the layer of known slots: what is walked as everywhere holds in a round, too; the loop's law; a region whose last operation changes old memory.
-/
import Derived.Test.YtjobbcdolbhadaaGreatDoorFlA
import Derived.OrdersIn
import Derived.TacticsIn
import Derived.RangeFuncNested
import Derived.RangeFuncLeaves
namespace Go.Proofs.YtjobbcdolbhadaaGreatDoor
open Go Go.RowKit
set_option linter.unusedVariables false
set_option linter.unusedSimpArgs false

section
variable {P : Program} {ops : Array Oper} {Q : Exit → Act → World → Prop} {l k : Nat} {ro : Option Nat}
/-- The fence that lets all by, in a round or not. -/
abbrev fw (ro : Option Nat) : Fence := { Fence.wide with round := ro }

theorem rows_in {row : String} {args : Array Value} {w : World} {R : Value → World → Prop} (h : Rows P row args w R) : RowsIn (fw ro) k P row args w R :=
  fun c cs _ => let ⟨v, w', r, s⟩ := h c cs; ⟨v, w', r, (show StepsIn (Machine.fenced P Fence.wide) P _ _ from stepsIn_wide.2 s)⟩
theorem upon_in {o : Oper} {a : Act} {K : Act → World → Prop} {r : Result Next} (h : o.upon P a K Q r) : o.uponIn (fw ro) k P a K Q r := by
  cases r with
  | ok nx w' =>
    cases nx <;> simp only [Oper.upon] at h <;> simp only [Oper.uponIn]
    case value v => exact h
    case skip => exact h
    case defer d => exact h
    case enter f args => exact ⟨fun e => (by simp [Fence.wide] at e), (show CallsIn Fence.wide (k - 1) P f args w' _ from callsIn_wide.2 h)⟩
    case row row args => exact ⟨fun e => (by simp [Fence.wide] at e), rows_in h⟩
  | halt x w' =>
    cases x <;> simp only [Oper.upon] at h <;> simp only [Oper.uponIn] <;> exact h
/-- No operation of the list is a 'defer'. -/
def noDefer (ops : List Oper) : Bool := ops.all fun o => match o.op with | .defer _ => false | _ => true
theorem noDefer_at {os : List Oper} (h : noDefer os = true) {o : Oper} (ho : o ∈ os) : ∀ c, o.op ≠ .defer c := fun c e => by
  have := List.all_eq_true.1 h o ho
  rw [e] at this; cases this
theorem wp_in {o : Oper} {a : Act} {w : World} {K : Act → World → Prop} (hd : ∀ c, o.op ≠ .defer c) (h : o.wp P a w K Q) : o.wpIn (fw ro) k P a w K Q :=
  ⟨fun f _ => trivial, by rw [Oper.semAt_eq _ _ _ hd]; exact upon_in h⟩
theorem wpOp_in (hLO : ¬ LetsOut Q) (hnd : noDefer ops.toList = true) {i : Nat} {a : Act} {w : World} {K : Act → World → Prop} (h : wpOp P ops Q i K a w) : wpOpIn (fw ro) k P ops Q i K a w := by
  unfold wpOp at h
  unfold wpOpIn
  cases ho : ops[i]? with
  | none => simpa [ho] using h
  | some o =>
    simp only [ho] at h ⊢
    split
    · rename_i hw
      rw [if_pos hw] at h
      refine wp_in (noDefer_at hnd ?_) (h.resolve_right fun h2 => hLO h2.2)
      exact Array.mem_toList_iff.2 (Array.mem_of_getElem? ho)
    · rename_i hw
      rw [if_neg hw] at h
      exact ⟨fun f _ => trivial, h⟩
theorem wpAny_in (hLO : ¬ LetsOut Q) (hnd : noDefer ops.toList = true) : ∀ (fuel : Nat) (listed : Array Bool) (a : Act) (w : World), wpAny P .any ops Q fuel listed a w → wpAnyIn (fw ro) k P .any ops Q fuel listed a w
  | 0, listed, a, w, h => h
  | fuel + 1, listed, a, w, h => ⟨h.1, fun i hi => wpOpIn_mono (fun a' w' hk => wpAny_in hLO hnd fuel _ a' w' hk) (wpOp_in hLO hnd (h.2 i hi))⟩
theorem wpList_in (hLO : ¬ LetsOut Q) : ∀ {os : List Oper} {a : Act} {w : World}, noDefer os = true → wpList P ops Q os a w → wpListIn (fw ro) k P ops Q os a w
  | [], a, w, _, h => h
  | o :: rest, a, w, hnd, h => by
    have hr : noDefer rest = true := by unfold noDefer at hnd ⊢; simp only [List.all_cons, Bool.and_eq_true] at hnd; exact hnd.2
    unfold wpList at h
    unfold wpListIn
    split
    · rename_i hw
      rw [if_pos hw] at h
      exact wp_in (noDefer_at hnd (List.mem_cons_self ..)) (Oper.wp_mono (fun a' w' hk => wpList_in hLO hr hk) (h.resolve_right fun h2 => hLO h2.2))
    · rename_i hw
      rw [if_neg hw] at h
      exact ⟨fun f _ => trivial, wpList_in hLO hr h⟩

/-- Code in a round, over known slots. -/
structure WI (P : Program) (l k : Nat) (c : Code) (Q : Exit → Act → World → Prop) (n : Nat) (fr : Fr) (w : World) : Prop where
  run : ∀ a, Sim fr n a → c.wpIn (Fence.wide.inRound l) k P Q a w
variable {n : Nat} {fr : Fr} {w : World} {S : World → Prop}
theorem WI_list {id : Nat} {os : List Oper} (hnd : noDefer os = true) (hLO : ¬ LetsOut Q) (h : L P os.toArray Q n os fr w) : WI P l k (.region id os.toArray false) Q n fr w :=
  ⟨fun a s => wpIn_region_lit (wpList_in hLO hnd (h.run a s))⟩

/-- A region that draws its order, in a round. -/
theorem WI_region_S {id : Nat} {os : List Oper} (S : World → Prop) (r : Plan) (hm : P.follows .mixedOrders = true) (hs : Region.noSelect os.toArray = true) (hnd : noDefer os = true)
    (hB : planB os.toArray r os.toArray.size (Array.replicate os.toArray.size false) = true) (hQ : ∀ c a w, ¬ Q (.panic c) a w) (hLO : ¬ LetsOut Q) (hS : S { w with drawn := w.drawn + 1 })
    (h : ∀ w', S w' → Below w.heap.size w w' → w'.heap.size = w.heap.size → LM P os.toArray S Q n r fr w') : WI P l k (.region id os.toArray true) Q n fr w := ⟨fun a s => by
  have hd : Below w.heap.size w { w with drawn := w.drawn + 1 } := Below.drew (Below.refl _ _)
  exact wpIn_region_any hm (wpAny_in hLO (by simpa using hnd) _ _ _ _ (wpAny_of_held _ _ _ _ (wpAnyH_of_mix (P := P) (S := S) hs (fun c a d v w h => absurd h (hQ _ _ _)) r _ _ a _ hB hS ((h _ hS hd rfl).run a s))))⟩
theorem WI_block {id : Nat} {c : Code} {R : World → Prop} (hR : ∀ a w, R w → Q .normal a w) (h : WI P l k c (fun e _ w => e = .normal ∧ R w) n fr w) : WI P l k (.block id c) Q n fr w :=
  ⟨fun a s => wpIn_block (wpIn_mono (h.run a s) (fun e a' w' ⟨he, hr⟩ => by subst he; exact hR _ _ hr))⟩

/-! ### The iterator's side: a region that calls yield -/
theorem wpList_split (hq : ∀ e a w, Q e a w → Q e a w) {rest : List Oper} : ∀ {os : List Oper} {a : Act} {w : World}, noDefer os = true →
    wpList P ops (fun e a' w' => e = .normal ∧ wpListIn (fw none) k P ops Q rest a' w') os a w → wpListIn (fw none) k P ops Q (os ++ rest) a w
  | [], a, w, _, h => h.2
  | o :: os, a, w, hnd, h => by
    have hr : noDefer os = true := by unfold noDefer at hnd ⊢; simp only [List.all_cons, Bool.and_eq_true] at hnd; exact hnd.2
    unfold wpList at h
    rw [List.cons_append]
    unfold wpListIn
    split
    · rename_i hw
      rw [if_pos hw] at h
      have h1 : o.wp P a w (wpListIn (fw none) k P ops Q (os ++ rest)) Q := by
        rcases h with h | ⟨_, a, w, hx, _⟩
        · refine upon_only (fun a' w' hk => wpList_split hq hr hk) ?_ h
          rintro e a w ⟨rfl, _⟩; rfl
        · cases hx
      exact wp_in (ro := none) (noDefer_at hnd (List.mem_cons_self ..)) h1
    · rename_i hw
      rw [if_neg hw] at h
      exact ⟨fun f _ => trivial, wpList_split hq hr h⟩
theorem W_region_yield {id : Nat} (os rest : List Oper) {os0 : List Oper} (he : os0 = os ++ rest) (hnd : noDefer os = true)
    (h : L P os0.toArray (fun e a' w' => e = .normal ∧ wpListIn (fw none) k P os0.toArray Q rest a' w') n os fr w) : W P (.region id os0.toArray false) Q n fr w := ⟨fun a s => by
  refine (wpIn_wide (n := k)).1 (wpIn_region_lit ?_)
  have h1 := wpList_split (Q := Q) (rest := rest) (fun _ _ _ h => h) hnd (h.run a s)
  rw [he] at h1 ⊢
  exact h1⟩
theorem run_yieldCall {fo : Operand} {xs : List Operand} {ats : Array TypeId} {vs : List Value} {dst : Option Nat} {ty : TypeId} {pos : String} {af : Array Edge} {a : Act} {fn : FuncId} {tmps : Array Value} {as bd : Code} (s : Sim fr n a) (hf : fr.ev fo = some (.func (.yield l) #[] #[])) (hx : fr.evs xs = some vs)
    (hy : (Instr.yield l vs.toArray).run P w = .ok (.round l fn tmps as bd) w) :
    (execOp a.eval ⟨dst, .call ⟨.value fo, xs.toArray, ats⟩, ty, pos, af, none⟩).run P w = .ok (.round l fn tmps as bd) w := by
  have hargs : (Array.map a.eval xs.toArray) = vs.toArray := by rw [List.map_toArray, s.evs hx]
  have h2 := s.ev hf
  unfold execOp resolve
  simp only [hargs, h2, Deferred.ofValue]
  simp [invoke, hy]
theorem At_yield {d : Nat} {fo : Operand} {xs : List Operand} {ats : Array TypeId} {vs : List Value} {ty : TypeId} {pos : String} {af : Array Edge} {rest : List Oper} {R : Ending → World → Prop}
    (hf : fr.ev fo = some (.func (.yield l) #[] #[])) (hx : fr.evs xs = some vs) (hdn : Nat.blt d n = true) (hnd : noDefer rest = true) (hLO : ¬ LetsOut Q) (hY : YieldAt (fw none) (k - 1) P l vs.toArray w R)
    (kk : ∀ e w', R e w' → ∃ v, e = .returned v ∧ L P ops Q n rest ((d, v) :: fr) w') :
    At (fun e a' w' => e = .normal ∧ wpListIn (fw none) k P ops Q (⟨some d, .call ⟨.value fo, xs.toArray, ats⟩, ty, pos, af, none⟩ :: rest) a' w') .normal n fr w := ⟨fun a s => by
  refine ⟨rfl, ?_⟩
  obtain ⟨fn, tmps, as, bd, hy, hR⟩ := hY
  unfold wpListIn
  rw [if_pos (by simp [Region.wanted])]
  refine ⟨fun f _ => trivial, ?_⟩
  have hr := run_yieldCall (dst := some d) (ty := ty) (pos := pos) (af := af) (ats := ats) s hf hx hy
  rw [Oper.semAt_none, hr]
  simp only [Oper.uponIn]
  refine ⟨fun e => (by simp [Fence.wide] at e), hR.mono fun e w' he => ?_⟩
  obtain ⟨v, rfl, hL⟩ := kk e w' he
  exact wpList_in (ro := none) hLO hnd (hL.run _ (s.put hdn))⟩
end
end Go.Proofs.YtjobbcdolbhadaaGreatDoor
