/-
  A range over a function, the caller's side, in the layer of known slots: a function that holds such a loop; the loop's law.
-/
import Derived.Test.YtjobbcdolbhadaaGreatDoorRangeW
import Derived.Test.YtjobbcdolbhadaaGreatDoorFlA
namespace Go.Proofs.YtjobbcdolbhadaaGreatDoor
open Go Go.RowKit
set_option linter.unusedVariables false
set_option linter.unusedSimpArgs false

section
variable {P : Program} {Q : Exit → Act → World → Prop} {n : Nat} {fr : Fr} {w : World}

theorem calls_startM {f : FuncId} {fn : Func} {c : Code} {vs : List Value} {R : Value → World → Prop} (N k : Nat) (hf : P.funcs[f]? = some fn) (hb : fn.body = some c)
    (hN : fn.ntmps = N) (hl : Nat.ble vs.length N = true) (h : W P c (bodyPostM Fence.wide k P fn (Ret R)) N (startFr 0 vs) w) : Cl P f vs w R := by
  have hl' : vs.length ≤ N := Nat.le_of_ble_eq_true hl
  refine ⟨callsIn_wide.1 (callsIn_of_wp_marks (n := k) hf hb trivial (wpIn_wide.2 (h.run _ ⟨by simp [hN]; omega, rfl, ?_⟩)) rfl)⟩
  intro t v e
  obtain ⟨-, h2⟩ := startFr_get vs 0 t v e
  have h3 : vs[t]? = some v := by simpa using h2
  have h4 : t < vs.length := (List.getElem?_eq_some_iff.1 h3).1
  rw [Array.getElem?_append_left (by simpa using h4)]
  simpa using h3
theorem At_end1M {fn : Func} {R : Value → World → Prop} {t k : Nat} {v : Value} (hres : fn.results = #[.tmp t]) (hv : fr.get t = some v) (hR : R v w) :
    At (bodyPostM Fence.wide k P fn (Ret R)) .ret n fr w := ⟨fun a s => by
  show LeavesInM _ _ _ _ _ _ a.defers .returning w
  rw [s.defers]
  exact ⟨v, by rw [results_tmp hres, s.getD hv], v, rfl, hR⟩⟩
/-- The end of the function behind the loop: its mark among the deferred calls. -/
theorem leaves_mark {fn : Func} {R : Value → World → Prop} {t k D : Nat} {v : Value} {tmps : Array Value} (hres : fn.results = #[.tmp t]) (hv : tmps.getD t undef = v)
    (hD : w.heap[D]? = some (.deferred (some []))) (hR : R v (w.putObj D (.deferred none))) :
    LeavesInM Fence.wide k P fn tmps (Ret R) [{ target := .collected D, args := #[] }] .returning w :=
  ⟨by simp, .inl ⟨_, _, rfl, run_takeDeferred hD, v, by rw [results_tmp hres, hv], v, rfl, hR⟩⟩

/-- The loop's law: the loop's second variable lies in a box of its own, laid anew in each round. -/
theorem W_rangeFunc {α : Type} {g : Operand} {p q : Nat} {assign body : Code} {gf : Nat} {lb : Array Value} {k : Nat} (h1 : 1 ≤ k)
    (hg : fr.ev g = some (.func (.func gf) #[] lb)) (eg : ∀ args w, (callFunc gf args).run P w = .ok (.enter gf args) w) (hpn : Nat.blt p n = true) (hqn : Nat.blt q n = true)
    {e1 e2 : α → Value} {Kp : World → World → Prop} {S Sp : List α → Prop} {N : Nat} (hseq : SeqStopsK Fence.wide (k - 1) P gf lb (fun x => #[e1 x, e2 x]) Kp S Sp N w)
    (hKt : ∀ {A B C : World}, Kp A B → Kp B C → Kp A C) (hKb : ∀ (W : World) (l : Nat) (o o' : Obj), w.heap.size ≤ l → W.heap[l]? = some o → o.isCells = false → o.isWalk = false → Kp W (W.putObj l o'))
    (I : List α → World → Prop) (hI : OwnFrom w.heap.size I) (hIB : ∀ pre A B, I pre A → Below A.heap.size A B → I pre B ∧ Kp A B) (h0 : I [] w) (frx : α → Nat → Fr) (cx : α → Array Value) (T : TypeId)
    (hassign : ∀ (l : Nat) (x : α) (W : World), WI P l (k - 1 - 1) assign (fun e a' W' => e = .normal ∧ Below W.heap.size W W' ∧ ∃ b, W'.heap[b]? = some (.cells (cx x) T) ∧ Sim (frx x b) n a') n ((q, e2 x) :: (p, e1 x) :: fr) W)
    (hbody : ∀ (l : Nat) (pre : List α) (x : α) (b : Nat) (W : World), I pre W → W.heap[b]? = some (.cells (cx x) T) → pre.length < N → WI P l (k - 1 - 1) body (ownPostG w.heap.size Kp I (fun _ _ _ => False) (pre ++ [x]) W) n (frx x b) W)
    (hdone : ∀ (D : Nat) (xs : List α) (W : World), w.heap.size ≤ D → S xs → I xs W → W.heap[D]? = some (.deferred (some [])) → ∀ a, Sim fr n a → Q .normal { a with defers := [{ target := .collected D, args := #[] }] } W) :
    W P (.rangeFunc g #[p, q] assign body) Q n fr w := ⟨fun a s => by
  refine (wpIn_wide (n := k)).1 (wpIn_rangeFunc_ownH (F := Fence.wide) rfl h1 (gf := gf) (lb := lb) (s.ev hg) trivial eg hseq hKt hKb (Below.refl _ _) (fun _ => rfl) I (fun _ _ _ => False) hI
    (fun _ _ _ _ _ hs _ _ => hs) h0 (fun x a' W => ∃ b, W.heap[b]? = some (.cells (cx x) T) ∧ Sim (frx x b) n a') ?_ ?_ ?_ ?_ ?_)
  · rintro x a' _ A B row ⟨b, hb, hs⟩ hgr hr
    refine ⟨b, (hgr.block b (Array.getElem?_eq_some_iff.1 hb).1 (fun e => ?_)).trans hb, hs⟩
    obtain ⟨_, o, ho, hc⟩ := hr b e.symm
    rw [hb] at ho; cases ho; cases hc
  · intro l pre x W1 K hi hK
    have s2 : Sim ((q, e2 x) :: (p, e1 x) :: fr) n { tmps := ((#[p, q] : Array Tmp).zip #[e1 x, e2 x]).foldl (fun t (p, v) => t.setIfInBounds p v) a.tmps, defers := [] } := by
      have h2 := (s.put (v := e1 x) hpn).put (v := e2 x) hqn
      refine ⟨?_, rfl, ?_⟩
      · have := h2.size; simpa [Act.put] using this
      · intro t v ht; have := h2.slot t v ht; simpa [Act.put] using this
    refine wpIn_mono ((hassign l x W1).run _ s2) ?_
    rintro e a' W' ⟨rfl, hB, hs⟩
    obtain ⟨hi2, hk2⟩ := hIB _ _ _ hi hB
    exact hK a' W' ⟨hB.size, fun i o _ hi _ => (hB.block i (Array.getElem?_eq_some_iff.1 hi).1).trans hi⟩ hk2 hi2 hs
  · rintro l pre x a' W1 _ _ hi ⟨b, hb, hs⟩ hlt
    exact (hbody l pre x b W1 hi hb hlt).run a' hs
  · intro D xs W1 hD hS hi hK
    have hd := s.defers
    rw [hd]
    exact hdone D xs W1 hD hS hi hK a s
  · intro D c pre W1 _ _ h _
    exact h.elim⟩

/-! ### Behind the loop: operations that only look, then the return; the mark lies among the deferred calls -/
theorem wpList_ds {ops : Array Oper} {ds : List Deferred} {K : Act → World → Prop} (hK : ∀ a w, K a w → Q .normal a w) : ∀ {os : List Oper} {a : Act} {w : World}, (os.all fun o => quietKind o.op) = true →
    wpList P ops (fun e a' w' => e = .normal ∧ K { a' with defers := ds } w') os a w → wpList P ops Q os { a with defers := ds } w
  | [], a, w, _, h => hK _ _ h.2
  | o :: rest, a, w, hk, h => by
    simp only [List.all_cons, Bool.and_eq_true] at hk
    have ih := @wpList_ds ops ds K hK rest
    have hput : ∀ v, ({ a.put o.dst v with defers := ds } : Act) = ({ a with defers := ds } : Act).put o.dst v := fun v => by cases o.dst <;> rfl
    unfold wpList at h ⊢
    by_cases hw : Region.wanted o (yielded ops a.tmps) = true
    · rw [if_pos hw] at h ⊢
      left
      have h1 : o.upon P a (wpList P ops (fun e a' w' => e = .normal ∧ K { a' with defers := ds } w') rest) (fun e a' w' => e = .normal ∧ K { a' with defers := ds } w') ((execOp a.eval o).run P w) := by
        rcases h with h | ⟨_, a, w, hx, _⟩
        · exact h
        · cases hx
      show o.upon P { a with defers := ds } (wpList P ops Q rest) Q ((execOp a.eval o).run P w)
      generalize hr : (execOp a.eval o).run P w = r at h1 ⊢
      cases r with
      | ok nx w' =>
        obtain ⟨v, rfl⟩ := quietKind_value hk.1 hr
        show wpList P ops Q rest _ w'
        rw [← hput]
        exact ih hk.2 h1
      | halt x w' =>
        cases x <;> simp only [Oper.upon] at h1
        case panic u => cases h1.1
    · rw [if_neg hw] at h ⊢
      rw [← hput]
      exact ih hk.2 h
theorem wp_tail {id : Nat} {os : List Oper} {ds : List Deferred} {a : Act} (hk : (os.all fun o => quietKind o.op) = true)
    (h : wpList P os.toArray (fun e a' w' => e = .normal ∧ Q .ret { a' with defers := ds } w') os a w) : (Code.seq (.region id os.toArray false) .ret).wp P Q { a with defers := ds } w := by
  exact wp_seq (wp_region_lit (wpList_ds (K := fun a w => Q .ret a w) (fun a w hq => wp_ret hq) hk h))

/-! Code in a round: it goes one after the other. -/
variable {l k : Nat}
theorem WI_seq {x y : Code} (h : WI P l k x (fun e a w => e = .normal ∧ y.wpIn (Fence.wide.inRound l) k P Q a w) n fr w) : WI P l k (.seq x y) Q n fr w :=
  ⟨fun a s => wpIn_seq (wpIn_mono (h.run a s) (fun e a' w' ⟨he, hr⟩ => by subst he; exact hr))⟩
theorem WI_skip (h : At Q .normal n fr w) : WI P l k .skip Q n fr w := ⟨fun a s => wpIn_skip (h.run a s)⟩
/-- Codes that hold no calls and no ranges: walked as everywhere. -/
theorem At_seqI {y : Code} (h : WI P l k y Q n fr w) : At (fun e a w => e = .normal ∧ y.wpIn (Fence.wide.inRound l) k P Q a w) .normal n fr w := ⟨fun a s => ⟨rfl, h.run a s⟩⟩
end
end Go.Proofs.YtjobbcdolbhadaaGreatDoor
