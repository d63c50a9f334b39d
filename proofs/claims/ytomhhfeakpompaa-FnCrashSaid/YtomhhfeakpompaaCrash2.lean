/-
  Contracts: the reference's crash of a disk; equality of disks.
-/
import Derived.Test.YtomhhfeakpompaaCrash
namespace Go.Proofs.Ytomhhfeakpompaa
open Go Go.RowKit
set_option linter.unusedVariables false

theorem RdL.blt {α : Type} {T : Ty α} {w : World} {v : Value} {xs : List α} (h : RdL T w v xs) (hp : 0 < T.size) (hne : xs ≠ []) {k : Nat} (hk : v.ownBlock = some k) : k < w.heap.size := by
  obtain ⟨hl, a, cap, rfl, _, _, h4⟩ := h.rd
  rcases h4 with ⟨rfl, _⟩ | ⟨b, rfl, hp'⟩
  · cases hk
  · cases hk
    refine hp'.lt (fun e => hne ?_)
    rw [e] at hl
    rcases Nat.mul_eq_zero.1 (Eq.symm (show 0 = xs.length * T.size from hl)) with h0 | h0
    · exact List.eq_nil_of_length_eq_zero h0
    · omega
theorem rdl_lit0 {α : Type} {T : Ty α} {w : World} {a : Option Addr} : RdL T w (.slice a 0 0) [] := by
  refine ⟨⟨by simp, a, 0, rfl, Nat.le_refl _, Nat.zero_le _, ?_⟩⟩
  cases a with
  | none => exact .inl ⟨rfl, rfl⟩
  | some b => exact .inr ⟨b, rfl, Pt.nil _ _⟩
theorem all_step {α : Type} {p : α → Bool} {xs : List α} {k : Nat} {y : α} (h : (xs.take k).all p = true) (hy : xs[k]? = some y) (hp : p y = true) : (xs.take (k + 1)).all p = true := by
  rw [List.take_add_one, hy, List.all_append, h]; simp [hp]
theorem map_step {α β : Type} (f : α → β) {xs : List α} {k : Nat} {y : α} (hy : xs[k]? = some y) : (xs.take (k + 1)).map f = (xs.take k).map f ++ [f y] := by
  rw [List.take_add_one, hy]; simp

theorem c_specDiskCrash {v v2 : Value} {rows : List Row3} {bs : List Bl} {keep : List Int} {w : World} (h : RdBl w v rows bs) (hsm : Small bs) (h2 : RdL tInt w v2 keep) :
    Cl Try.prog 22 [v, v2] w (fun u w' => ∃ x rows', u = .tuple #[x, .bool (crashOk bs keep)] ∧ RdBl w' x rows' (crash bs keep) ∧ Below w.heap.size w w') := by
  refine calls_start 89 Try.func22 rfl rfl rfl ?_
  have hkl := h2.maxLen
  have hsz := hsm.1
  have hrd := h.rd
  have hln := h.len
  have nilBl : ∀ w' : World, ∀ (v : Value), RdL tRow3 w' v [] → RdBl w' v [] [] := fun w' v hv => ⟨hv, rfl, fun i r hr => by simp at hr⟩
  repeat' (first
    | (apply isL
       first
         | apply L_nil
         | refine L_move rfl rfl ?_
         | (apply isGuarded
            first
              | refine L_guard_dec rfl rfl (fun hg => ?_) (fun hg => ?_)
              | refine L_guard_yes rfl rfl ?_
              | refine L_guard_no rfl rfl rfl rfl ?_
              | refine L_guard_undef rfl rfl rfl ?_
              | refine L_guard_split rfl rfl (fun hg => ?_) (fun hg => ?_))
         | (apply isCall
            first
              | refine L_lenL rfl (by (first | assumption | exact RdL.ext (by assumption) (by (repeat (first | assumption | refine below_step ?_ (by assumption))); first | done | fail) | exact OwL.rd (by assumption))) rfl (fun hlen => ?_)
              | refine L_do rfl rfl rfl (do_lenStr rfl) ?_
              | refine L_callV rfl rfl (c_specDiskValid h hsm) (fun w2 hB2 => ?_)
              )
         | (apply isBin
            first
              | refine L_do rfl rfl rfl (do_cmp rfl rfl rfl) ?_
              | refine L_do rfl rfl rfl (do_cmpStr rfl rfl rfl) ?_
              | refine L_do rfl rfl rfl (do_add rfl rfl (by omega)) ?_
              | refine L_do rfl rfl rfl (do_sub rfl rfl (by omega)) ?_
              | refine L_do rfl rfl rfl (do_eqBool TBool.und rfl rfl) ?_
              | refine L_do rfl rfl rfl (do_neBool TBool.und rfl rfl) ?_
              )
         | (apply isLoad
            first
              | refine L_loadPt rfl (by rfl) (by (first | assumption | exact Pt.ext (by assumption) (by (repeat (first | assumption | refine below_step ?_ (by assumption))); first | done | fail))) (by rfl) rfl ?_
              | refine L_loadPt0 rfl (by (first | assumption | exact Pt.ext (by assumption) (by (repeat (first | assumption | refine below_step ?_ (by assumption))); first | done | fail))) (by rfl) rfl ?_
              | refine L_loadAgg rfl (by (first | assumption | exact Pt.ext (by assumption) (by (repeat (first | assumption | refine below_step ?_ (by assumption))); first | done | fail))) (by rfl) rfl ?_)
         | refine L_assign rfl rfl ?_
         | refine L_do rfl rfl rfl (do_pick_true rfl rfl) ?_
         | refine L_do rfl rfl rfl (do_pick_false rfl rfl) ?_
         | refine L_do rfl rfl rfl (do_notDec rfl) ?_
         | refine L_do rfl rfl rfl (do_not rfl) ?_
         | refine L_do rfl rfl rfl (do_extract rfl rfl) ?_
         | refine L_do rfl rfl rfl (do_fieldAddr rfl) ?_
         | refine L_buildSlice0 (w0 := w) tRow3 (by (repeat (first | assumption | exact Below.refl _ _ | refine below_step ?_ (by assumption))); first | done | fail) rfl (fun w3 hO3 hB3 hC3 => ?_)
         | refine L_indexL rfl rfl (by (first | assumption | exact RdL.ext (by assumption) (by (repeat (first | assumption | refine below_step ?_ (by assumption))); first | done | fail) | exact OwL.rd (by assumption))) (by rfl) (by omega) (by omega) rfl (fun a y hy hab hp => ?_)
         | (apply isBox; refine L_boxV (w0 := w) (by (repeat (first | assumption | exact Below.refl _ _ | refine below_step ?_ (by assumption))); first | done | fail) rfl rfl (fun w1 hz1 hB hB1 hv => ?_); have hp := pt_of_block hv)
         | (apply isAllocStore; refine L_allocStoreV (w0 := w) (by (repeat (first | assumption | exact Below.refl _ _ | refine below_step ?_ (by assumption))); first | done | fail) rfl rfl rfl rfl ?_ rfl (fun w1 hz1 hB hB1 hv => ?_); (focus (first | exact Ty.one _ _ | simp [Value.oneCell'])); have hp := pt_of_block hv)
         )
    | (apply isLQ
       first
         | refine LQ_nil (fun w1 hBq => ?_)
         | apply LQ_mix
         | refine LQ_move rfl rfl ?_
         | (apply isGuardedQ
            first
              | refine LQ_guard_dec rfl rfl (fun hg => ?_) (fun hg => ?_)
              | refine LQ_guard_yes rfl rfl ?_
              | refine LQ_guard_no rfl rfl rfl rfl ?_
              | refine LQ_guard_undef rfl rfl rfl ?_
              | refine LQ_guard_split rfl rfl (fun hg => ?_) (fun hg => ?_))
         | (apply isCallQ
            first
              | refine LQ_lenL rfl (by (first | assumption | exact RdL.ext (by assumption) (by (repeat (first | assumption | refine below_step ?_ (by assumption))); first | done | fail) | exact OwL.rd (by assumption))) rfl (fun hlen => ?_)
              | refine LQ_do rfl rfl rfl (fun _ _ => do_lenStr rfl) ?_
              )
         | (apply isBinQ
            first
              | refine LQ_do rfl rfl rfl (fun _ _ => do_cmp rfl rfl rfl) ?_
              | refine LQ_do rfl rfl rfl (fun _ _ => do_cmpStr rfl rfl rfl) ?_
              | refine LQ_do rfl rfl rfl (fun _ _ => do_add rfl rfl (by omega)) ?_
              | refine LQ_do rfl rfl rfl (fun _ _ => do_sub rfl rfl (by omega)) ?_
              | refine LQ_do rfl rfl rfl (fun _ _ => do_eqBool TBool.und rfl rfl) ?_
              | refine LQ_do rfl rfl rfl (fun _ _ => do_neBool TBool.und rfl rfl) ?_
              )
         | (apply isLoadQ
            first
              | refine LQ_loadPt rfl (by rfl) (by (first | assumption | exact Pt.ext (by assumption) (by (repeat (first | assumption | refine below_step ?_ (by assumption))); first | done | fail))) (by rfl) rfl ?_
              | refine LQ_loadPt0 rfl (by (first | assumption | exact Pt.ext (by assumption) (by (repeat (first | assumption | refine below_step ?_ (by assumption))); first | done | fail))) (by rfl) rfl ?_
              | refine LQ_loadAgg rfl (by (first | assumption | exact Pt.ext (by assumption) (by (repeat (first | assumption | refine below_step ?_ (by assumption))); first | done | fail))) (by rfl) rfl ?_
              | refine RLQ_loadPt rfl (by rfl) (by (first | assumption | exact Pt.ext (by assumption) (by (repeat (first | assumption | refine below_step ?_ (by assumption))); first | done | fail))) (by rfl) (by first | assumption | (intro e; simp_all; done)) rfl ?_
              | refine RLQ_loadPt0 rfl (by (first | assumption | exact Pt.ext (by assumption) (by (repeat (first | assumption | refine below_step ?_ (by assumption))); first | done | fail))) (by rfl) (by first | assumption | (intro e; simp_all; done)) rfl ?_
              | refine RLQ_loadAgg rfl (by (first | assumption | exact Pt.ext (by assumption) (by (repeat (first | assumption | refine below_step ?_ (by assumption))); first | done | fail))) (by rfl) (by first | assumption | (intro e; simp_all; done)) rfl ?_)
         | refine LQ_assign rfl rfl ?_
         | refine LQ_do rfl rfl rfl (fun _ _ => do_pick_true rfl rfl) ?_
         | refine LQ_do rfl rfl rfl (fun _ _ => do_pick_false rfl rfl) ?_
         | refine LQ_do rfl rfl rfl (fun _ _ => do_notDec rfl) ?_
         | refine LQ_do rfl rfl rfl (fun _ _ => do_not rfl) ?_
         | refine LQ_do rfl rfl rfl (fun _ _ => do_extract rfl rfl) ?_
         | refine LQ_do rfl rfl rfl (fun _ _ => do_fieldAddr rfl) ?_
         | refine LQ_do rfl rfl rfl (fun _ _ => do_buildS rfl (by kernel_rfl)) ?_
         | refine LQ_indexL rfl rfl (by (first | assumption | exact RdL.ext (by assumption) (by (repeat (first | assumption | refine below_step ?_ (by assumption))); first | done | fail) | exact OwL.rd (by assumption))) (by rfl) (by omega) (by omega) rfl (fun a y hy hab hp => ?_))
    | (apply isW
       first
         | apply W_seq
         | apply W_region
         | refine W_region_Q mixed (by kernel_rfl) ?_
         | refine W_cond_dec rfl (fun hg => ?_) (fun hg => ?_)
         | refine W_cond_true rfl ?_
         | refine W_cond_false rfl ?_
         | refine W_cond rfl (fun hg => ?_) (fun hg => ?_)
         | apply W_skip
         | apply W_ret
         | apply W_exit
         | apply W_block)
    | (apply isLM
       first
         | apply LM_nil
         | refine LM_look rfl rfl ?_
         | refine LM_act rfl ?_
         | refine LM_both rfl rfl ?_ ?_
         | refine LM_do rfl rfl rfl rfl (fun _ _ => do_nilCheck rfl) ?_)
    | (apply isAt
       first
         | apply At_then
         | apply At_then_ret
         | apply At_then_exit
         | apply At_block_normal
         | apply At_block_ret
         | apply At_block_hit
         | refine At_block_miss rfl ?_
         | refine At_end1 rfl rfl ?_
         | refine At_end1n rfl rfl ?_
         | refine At_end2 rfl rfl rfl ?_
         | refine At_mix (by (repeat (first | assumption | exact Below.refl _ _ | refine below_step ?_ (by assumption) | exact World.grownBy.refl _ _ | refine kp_below ?_ (by assumption) | refine kp_row ?_ (by assumption))); first | done | fail) ?_))
  · have e : crashOk bs keep = false := by unfold crashOk; have : diskOk bs = false := by simpa using hg
                                           rw [this]; rfl
    exact ⟨_, [], by rw [e], by rw [crash, e]; exact nilBl _ _ hO3.rd, (by (repeat (first | assumption | exact Below.refl _ _ | refine below_step ?_ (by assumption))); first | done | fail)⟩
  · have e : crashOk bs keep = false := by unfold crashOk; rw [decide_eq_false (by omega)]; simp
    exact ⟨_, [], by rw [e], by rw [crash, e]; exact nilBl _ _ hO3.rd, (by (repeat (first | assumption | exact Below.refl _ _ | refine below_step ?_ (by assumption))); first | done | fail)⟩
  have hdk : diskFrom 0 bs = true := by have : (!diskOk bs) = false := by assumption
                                        simpa [diskOk] using this
  refine W_loopF (fun m fr w' => ∃ k : Nat, m = keep.length - k ∧ k ≤ keep.length ∧ fr = [(0, v), (1, v2), (6, .int .i64 k)] ∧ Below w.heap.size w w' ∧ (keep.take k).all keepOk = true) keep.length
    [(0, v), (1, v2), (6, .int .i64 0)] (by repeat (first | exact get_nil_slots _ | refine get_cons_slots rfl ?_)) ⟨0, rfl, Nat.zero_le _, rfl, (by (repeat (first | assumption | exact Below.refl _ _ | refine below_step ?_ (by assumption))); first | done | fail), rfl⟩ ?_
  rintro _ _ w' ⟨k, rfl, hk, rfl, hB, hf⟩
  repeat' (first
    | (apply isL
       first
         | apply L_nil
         | refine L_move rfl rfl ?_
         | (apply isGuarded
            first
              | refine L_guard_dec rfl rfl (fun hg => ?_) (fun hg => ?_)
              | refine L_guard_yes rfl rfl ?_
              | refine L_guard_no rfl rfl rfl rfl ?_
              | refine L_guard_undef rfl rfl rfl ?_
              | refine L_guard_split rfl rfl (fun hg => ?_) (fun hg => ?_))
         | (apply isCall
            first
              | refine L_lenL rfl (by (first | assumption | exact RdL.ext (by assumption) (by (repeat (first | assumption | refine below_step ?_ (by assumption))); first | done | fail) | exact OwL.rd (by assumption))) rfl (fun hlen => ?_)
              | refine L_do rfl rfl rfl (do_lenStr rfl) ?_
              | refine L_callV rfl rfl c_l6In (fun w4 hB4 => ?_)
              )
         | (apply isBin
            first
              | refine L_do rfl rfl rfl (do_cmp rfl rfl rfl) ?_
              | refine L_do rfl rfl rfl (do_cmpStr rfl rfl rfl) ?_
              | refine L_do rfl rfl rfl (do_add rfl rfl (by omega)) ?_
              | refine L_do rfl rfl rfl (do_sub rfl rfl (by omega)) ?_
              | refine L_do rfl rfl rfl (do_eqBool TBool.und rfl rfl) ?_
              | refine L_do rfl rfl rfl (do_neBool TBool.und rfl rfl) ?_
              )
         | (apply isLoad
            first
              | refine L_loadPt rfl (by rfl) (by (first | assumption | exact Pt.ext (by assumption) (by (repeat (first | assumption | refine below_step ?_ (by assumption))); first | done | fail))) (by rfl) rfl ?_
              | refine L_loadPt0 rfl (by (first | assumption | exact Pt.ext (by assumption) (by (repeat (first | assumption | refine below_step ?_ (by assumption))); first | done | fail))) (by rfl) rfl ?_
              | refine L_loadAgg rfl (by (first | assumption | exact Pt.ext (by assumption) (by (repeat (first | assumption | refine below_step ?_ (by assumption))); first | done | fail))) (by rfl) rfl ?_)
         | refine L_assign rfl rfl ?_
         | refine L_do rfl rfl rfl (do_pick_true rfl rfl) ?_
         | refine L_do rfl rfl rfl (do_pick_false rfl rfl) ?_
         | refine L_do rfl rfl rfl (do_notDec rfl) ?_
         | refine L_do rfl rfl rfl (do_not rfl) ?_
         | refine L_do rfl rfl rfl (do_extract rfl rfl) ?_
         | refine L_do rfl rfl rfl (do_fieldAddr rfl) ?_
         | refine L_buildSlice0 (w0 := w) tRow3 (by (repeat (first | assumption | exact Below.refl _ _ | refine below_step ?_ (by assumption))); first | done | fail) rfl (fun w3 hO3 hB3 hC3 => ?_)
         | refine L_indexL rfl rfl (by (first | assumption | exact RdL.ext (by assumption) (by (repeat (first | assumption | refine below_step ?_ (by assumption))); first | done | fail) | exact OwL.rd (by assumption))) (by rfl) (by omega) (by omega) rfl (fun a y hy hab hp => ?_)
         | (apply isBox; refine L_boxV (w0 := w) (by (repeat (first | assumption | exact Below.refl _ _ | refine below_step ?_ (by assumption))); first | done | fail) rfl rfl (fun w1 hz1 hB hB1 hv => ?_); have hp := pt_of_block hv)
         | (apply isAllocStore; refine L_allocStoreV (w0 := w) (by (repeat (first | assumption | exact Below.refl _ _ | refine below_step ?_ (by assumption))); first | done | fail) rfl rfl rfl rfl ?_ rfl (fun w1 hz1 hB hB1 hv => ?_); (focus (first | exact Ty.one _ _ | simp [Value.oneCell'])); have hp := pt_of_block hv)
         )
    | (apply isLQ
       first
         | refine LQ_nil (fun w1 hBq => ?_)
         | apply LQ_mix
         | refine LQ_move rfl rfl ?_
         | (apply isGuardedQ
            first
              | refine LQ_guard_dec rfl rfl (fun hg => ?_) (fun hg => ?_)
              | refine LQ_guard_yes rfl rfl ?_
              | refine LQ_guard_no rfl rfl rfl rfl ?_
              | refine LQ_guard_undef rfl rfl rfl ?_
              | refine LQ_guard_split rfl rfl (fun hg => ?_) (fun hg => ?_))
         | (apply isCallQ
            first
              | refine LQ_lenL rfl (by (first | assumption | exact RdL.ext (by assumption) (by (repeat (first | assumption | refine below_step ?_ (by assumption))); first | done | fail) | exact OwL.rd (by assumption))) rfl (fun hlen => ?_)
              | refine LQ_do rfl rfl rfl (fun _ _ => do_lenStr rfl) ?_
              )
         | (apply isBinQ
            first
              | refine LQ_do rfl rfl rfl (fun _ _ => do_cmp rfl rfl rfl) ?_
              | refine LQ_do rfl rfl rfl (fun _ _ => do_cmpStr rfl rfl rfl) ?_
              | refine LQ_do rfl rfl rfl (fun _ _ => do_add rfl rfl (by omega)) ?_
              | refine LQ_do rfl rfl rfl (fun _ _ => do_sub rfl rfl (by omega)) ?_
              | refine LQ_do rfl rfl rfl (fun _ _ => do_eqBool TBool.und rfl rfl) ?_
              | refine LQ_do rfl rfl rfl (fun _ _ => do_neBool TBool.und rfl rfl) ?_
              )
         | (apply isLoadQ
            first
              | refine LQ_loadPt rfl (by rfl) (by (first | assumption | exact Pt.ext (by assumption) (by (repeat (first | assumption | refine below_step ?_ (by assumption))); first | done | fail))) (by rfl) rfl ?_
              | refine LQ_loadPt0 rfl (by (first | assumption | exact Pt.ext (by assumption) (by (repeat (first | assumption | refine below_step ?_ (by assumption))); first | done | fail))) (by rfl) rfl ?_
              | refine LQ_loadAgg rfl (by (first | assumption | exact Pt.ext (by assumption) (by (repeat (first | assumption | refine below_step ?_ (by assumption))); first | done | fail))) (by rfl) rfl ?_
              | refine RLQ_loadPt rfl (by rfl) (by (first | assumption | exact Pt.ext (by assumption) (by (repeat (first | assumption | refine below_step ?_ (by assumption))); first | done | fail))) (by rfl) (by first | assumption | (intro e; simp_all; done)) rfl ?_
              | refine RLQ_loadPt0 rfl (by (first | assumption | exact Pt.ext (by assumption) (by (repeat (first | assumption | refine below_step ?_ (by assumption))); first | done | fail))) (by rfl) (by first | assumption | (intro e; simp_all; done)) rfl ?_
              | refine RLQ_loadAgg rfl (by (first | assumption | exact Pt.ext (by assumption) (by (repeat (first | assumption | refine below_step ?_ (by assumption))); first | done | fail))) (by rfl) (by first | assumption | (intro e; simp_all; done)) rfl ?_)
         | refine LQ_assign rfl rfl ?_
         | refine LQ_do rfl rfl rfl (fun _ _ => do_pick_true rfl rfl) ?_
         | refine LQ_do rfl rfl rfl (fun _ _ => do_pick_false rfl rfl) ?_
         | refine LQ_do rfl rfl rfl (fun _ _ => do_notDec rfl) ?_
         | refine LQ_do rfl rfl rfl (fun _ _ => do_not rfl) ?_
         | refine LQ_do rfl rfl rfl (fun _ _ => do_extract rfl rfl) ?_
         | refine LQ_do rfl rfl rfl (fun _ _ => do_fieldAddr rfl) ?_
         | refine LQ_do rfl rfl rfl (fun _ _ => do_buildS rfl (by kernel_rfl)) ?_
         | refine LQ_indexL rfl rfl (by (first | assumption | exact RdL.ext (by assumption) (by (repeat (first | assumption | refine below_step ?_ (by assumption))); first | done | fail) | exact OwL.rd (by assumption))) (by rfl) (by omega) (by omega) rfl (fun a y hy hab hp => ?_))
    | (apply isW
       first
         | apply W_seq
         | apply W_region
         | refine W_region_Q mixed (by kernel_rfl) ?_
         | refine W_cond_dec rfl (fun hg => ?_) (fun hg => ?_)
         | refine W_cond_true rfl ?_
         | refine W_cond_false rfl ?_
         | refine W_cond rfl (fun hg => ?_) (fun hg => ?_)
         | apply W_skip
         | apply W_ret
         | apply W_exit
         | apply W_block)
    | (apply isLM
       first
         | apply LM_nil
         | refine LM_look rfl rfl ?_
         | refine LM_act rfl ?_
         | refine LM_both rfl rfl ?_ ?_
         | refine LM_do rfl rfl rfl rfl (fun _ _ => do_nilCheck rfl) ?_)
    | (apply isAt
       first
         | apply At_then
         | apply At_then_ret
         | apply At_then_exit
         | apply At_block_normal
         | apply At_block_ret
         | apply At_block_hit
         | refine At_block_miss rfl ?_
         | refine At_end1 rfl rfl ?_
         | refine At_end1n rfl rfl ?_
         | refine At_end2 rfl rfl rfl ?_
         | refine At_mix (by (repeat (first | assumption | exact Below.refl _ _ | refine below_step ?_ (by assumption) | exact World.grownBy.refl _ _ | refine kp_below ?_ (by assumption) | refine kp_row ?_ (by assumption))); first | done | fail) ?_))
  · have e : crashOk bs keep = false := by
      have : keep.all keepOk = false := by
        rw [Bool.eq_false_iff]; intro h3
        have := List.all_eq_true.1 h3 y (List.mem_of_getElem? hy)
        simp only [keepOk, decide_eq_true_eq] at this
        exact hg this
      unfold crashOk; rw [this, Bool.and_false]
    exact ⟨_, [], by rw [e], by rw [crash, e]; exact nilBl _ _ hO3.rd, (by (repeat (first | assumption | exact Below.refl _ _ | refine below_step ?_ (by assumption))); first | done | fail)⟩
  · exact At_round _ [(0, v), (1, v2), (6, .int .i64 ((k + 1 : Nat) : Int))] (by repeat (first | exact get_nil_slots _ | refine get_cons_slots rfl ?_)) (by omega) ⟨k + 1, rfl, by omega, rfl, (by (repeat (first | assumption | exact Below.refl _ _ | refine below_step ?_ (by assumption))); first | done | fail), all_step hf hy (by simpa [keepOk] using hg)⟩
  have hall : keep.all keepOk = true := by rwa [List.take_of_length_le (by omega)] at hf
  have e : crashOk bs keep = true := by unfold crashOk diskOk; rw [hdk, hall, decide_eq_true (by omega)]; rfl
  clear hf hk hB2 hB hC3 hg
  refine W_loopF (fun m fr w' => ∃ (k : Nat) (u : Value) (rs : List Row3), m = bs.length - k ∧ k ≤ bs.length ∧ fr = [(0, v), (1, v2), (7, u), (8, .int .i64 k)] ∧ Below w.heap.size w w' ∧ OwBl w' w.heap.size u rs ((bs.take k).map (crashBl keep))) bs.length
    [(0, v), (1, v2), (7, .slice (some ⟨w'.heap.size, 0, none⟩) 0 0), (8, .int .i64 0)] (by repeat (first | exact get_nil_slots _ | refine get_cons_slots rfl ?_)) ⟨0, _, [], rfl, Nat.zero_le _, rfl, hB3, ⟨hO3, rfl, fun i r hr => by simp at hr⟩⟩ ?_
  clear hO3 hB3
  rintro _ _ w' ⟨k, u, rs, rfl, hk, rfl, hB, hO⟩
  have hlr := hO.len
  simp only [List.length_map, List.length_take] at hlr
  have hz' := hB.size
  repeat' (first
    | (apply isL
       first
         | apply L_nil
         | refine L_move rfl rfl ?_
         | (apply isGuarded
            first
              | refine L_guard_dec rfl rfl (fun hg => ?_) (fun hg => ?_)
              | refine L_guard_yes rfl rfl ?_
              | refine L_guard_no rfl rfl rfl rfl ?_
              | refine L_guard_undef rfl rfl rfl ?_
              | refine L_guard_split rfl rfl (fun hg => ?_) (fun hg => ?_))
         | (apply isCall
            first
              | refine L_lenL rfl (by (first | assumption | exact RdL.ext (by assumption) (by (repeat (first | assumption | refine below_step ?_ (by assumption))); first | done | fail) | exact OwL.rd (by assumption))) rfl (fun hlen => ?_)
              | refine L_do rfl rfl rfl (do_lenStr rfl) ?_
              )
         | (apply isBin
            first
              | refine L_do rfl rfl rfl (do_cmp rfl rfl rfl) ?_
              | refine L_do rfl rfl rfl (do_cmpStr rfl rfl rfl) ?_
              | refine L_do rfl rfl rfl (do_add rfl rfl (by omega)) ?_
              | refine L_do rfl rfl rfl (do_sub rfl rfl (by omega)) ?_
              | refine L_do rfl rfl rfl (do_eqBool TBool.und rfl rfl) ?_
              | refine L_do rfl rfl rfl (do_neBool TBool.und rfl rfl) ?_
              )
         | (apply isLoad
            first
              | refine L_loadPt rfl (by rfl) (by (first | assumption | exact Pt.ext (by assumption) (by (repeat (first | assumption | refine below_step ?_ (by assumption))); first | done | fail))) (by rfl) rfl ?_
              | refine L_loadPt0 rfl (by (first | assumption | exact Pt.ext (by assumption) (by (repeat (first | assumption | refine below_step ?_ (by assumption))); first | done | fail))) (by rfl) rfl ?_
              | refine L_loadAgg rfl (by (first | assumption | exact Pt.ext (by assumption) (by (repeat (first | assumption | refine below_step ?_ (by assumption))); first | done | fail))) (by rfl) rfl ?_)
         | refine L_assign rfl rfl ?_
         | refine L_do rfl rfl rfl (do_pick_true rfl rfl) ?_
         | refine L_do rfl rfl rfl (do_pick_false rfl rfl) ?_
         | refine L_do rfl rfl rfl (do_notDec rfl) ?_
         | refine L_do rfl rfl rfl (do_not rfl) ?_
         | refine L_do rfl rfl rfl (do_extract rfl rfl) ?_
         | refine L_do rfl rfl rfl (do_fieldAddr rfl) ?_
         | (refine L_indexL rfl rfl (hrd.ext hB) rfl (by omega) (by omega) rfl (fun ar yr hyr habr hpr => ?_); obtain ⟨b, hb0, hbr⟩ := h.at_ _ _ hyr; have hb : bs[k]? = some b := hb0; have hbd := diskFrom_at bs 0 hdk b (List.mem_of_getElem? hb); have hfr := hbr.fresh; have hnm := hbr.name)
         | refine L_indexL rfl rfl (by (first | assumption | exact RdL.ext (by assumption) (by (repeat (first | assumption | refine below_step ?_ (by assumption))); first | done | fail) | exact OwL.rd (by assumption))) (by rfl) (by omega) (by omega) rfl (fun a y hy hab hp => ?_)
         | (apply isBox; refine L_boxV (w0 := w) (by (repeat (first | assumption | exact Below.refl _ _ | refine below_step ?_ (by assumption))); first | done | fail) rfl rfl (fun w1 hz1 hB hB1 hv => ?_); have hp := pt_of_block hv)
         | (apply isAllocStore; refine L_allocStoreV (w0 := w) (by (repeat (first | assumption | exact Below.refl _ _ | refine below_step ?_ (by assumption))); first | done | fail) rfl rfl rfl rfl ?_ rfl (fun w1 hz1 hB hB1 hv => ?_); (focus (first | exact Ty.one _ _ | simp [Value.oneCell'])); have hp := pt_of_block hv)
         )
    | (apply isLQ
       first
         | refine LQ_nil (fun w1 hBq => ?_)
         | apply LQ_mix
         | refine LQ_move rfl rfl ?_
         | (apply isGuardedQ
            first
              | refine LQ_guard_dec rfl rfl (fun hg => ?_) (fun hg => ?_)
              | refine LQ_guard_yes rfl rfl ?_
              | refine LQ_guard_no rfl rfl rfl rfl ?_
              | refine LQ_guard_undef rfl rfl rfl ?_
              | refine LQ_guard_split rfl rfl (fun hg => ?_) (fun hg => ?_))
         | (apply isCallQ
            first
              | refine LQ_lenL rfl (by (first | assumption | exact RdL.ext (by assumption) (by (repeat (first | assumption | refine below_step ?_ (by assumption))); first | done | fail) | exact OwL.rd (by assumption))) rfl (fun hlen => ?_)
              | refine LQ_do rfl rfl rfl (fun _ _ => do_lenStr rfl) ?_
              | refine LQ_do rfl rfl rfl (fun _ _ => do_min2 rfl rfl) ?_
              )
         | (apply isBinQ
            first
              | refine LQ_do rfl rfl rfl (fun _ _ => do_cmp rfl rfl rfl) ?_
              | refine LQ_do rfl rfl rfl (fun _ _ => do_cmpStr rfl rfl rfl) ?_
              | refine LQ_do rfl rfl rfl (fun _ _ => do_add rfl rfl (by omega)) ?_
              | refine LQ_do rfl rfl rfl (fun _ _ => do_sub rfl rfl (by omega)) ?_
              | refine LQ_do rfl rfl rfl (fun _ _ => do_eqBool TBool.und rfl rfl) ?_
              | refine LQ_do rfl rfl rfl (fun _ _ => do_neBool TBool.und rfl rfl) ?_
              )
         | (apply isLoadQ
            first
              | refine LQ_loadPt rfl (by rfl) (by (first | assumption | exact Pt.ext (by assumption) (by (repeat (first | assumption | refine below_step ?_ (by assumption))); first | done | fail))) (by rfl) rfl ?_
              | refine LQ_loadPt0 rfl (by (first | assumption | exact Pt.ext (by assumption) (by (repeat (first | assumption | refine below_step ?_ (by assumption))); first | done | fail))) (by rfl) rfl ?_
              | refine LQ_loadAgg rfl (by (first | assumption | exact Pt.ext (by assumption) (by (repeat (first | assumption | refine below_step ?_ (by assumption))); first | done | fail))) (by rfl) rfl ?_
              | refine RLQ_loadPt rfl (by rfl) (by (first | assumption | exact Pt.ext (by assumption) (by (repeat (first | assumption | refine below_step ?_ (by assumption))); first | done | fail))) (by rfl) (by first | assumption | (intro e; simp_all; done)) rfl ?_
              | refine RLQ_loadPt0 rfl (by (first | assumption | exact Pt.ext (by assumption) (by (repeat (first | assumption | refine below_step ?_ (by assumption))); first | done | fail))) (by rfl) (by first | assumption | (intro e; simp_all; done)) rfl ?_
              | refine RLQ_loadAgg rfl (by (first | assumption | exact Pt.ext (by assumption) (by (repeat (first | assumption | refine below_step ?_ (by assumption))); first | done | fail))) (by rfl) (by first | assumption | (intro e; simp_all; done)) rfl ?_)
         | refine LQ_assign rfl rfl ?_
         | refine LQ_do rfl rfl rfl (fun _ _ => do_pick_true rfl rfl) ?_
         | refine LQ_do rfl rfl rfl (fun _ _ => do_pick_false rfl rfl) ?_
         | refine LQ_do rfl rfl rfl (fun _ _ => do_notDec rfl) ?_
         | refine LQ_do rfl rfl rfl (fun _ _ => do_not rfl) ?_
         | refine LQ_do rfl rfl rfl (fun _ _ => do_extract rfl rfl) ?_
         | refine LQ_do rfl rfl rfl (fun _ _ => do_fieldAddr rfl) ?_
         | refine LQ_do rfl rfl rfl (fun _ _ => do_buildS rfl (by kernel_rfl)) ?_
         | (refine LQ_indexL (T := tRow3) rfl rfl hrd (by rfl) (by omega) (by omega) rfl (fun a2 y2 hy2 hab2 hp2 => ?_); obtain rfl := Option.some.inj (hyr.symm.trans hy2))
         | refine LQ_indexL rfl rfl (by (first | assumption | exact RdL.ext (by assumption) (by (repeat (first | assumption | refine below_step ?_ (by assumption))); first | done | fail) | exact OwL.rd (by assumption))) (by rfl) (by omega) (by omega) rfl (fun a y hy hab hp => ?_))
    | (apply isW
       first
         | apply W_seq
         | apply W_region
         | refine W_hold (id := 15) ?_
         | refine W_region_Q mixed (by kernel_rfl) ?_
         | refine W_cond_dec rfl (fun hg => ?_) (fun hg => ?_)
         | refine W_cond_true rfl ?_
         | refine W_cond_false rfl ?_
         | refine W_cond rfl (fun hg => ?_) (fun hg => ?_)
         | apply W_skip
         | apply W_ret
         | apply W_exit
         | apply W_block)
    | (apply isLM
       first
         | apply LM_nil
         | refine LM_look rfl rfl ?_
         | refine LM_act rfl ?_
         | refine LM_both rfl rfl ?_ ?_
         | refine LM_do rfl rfl rfl rfl (fun _ _ => do_nilCheck rfl) ?_)
    | (apply isAt
       first
         | apply At_then
         | apply At_then_ret
         | apply At_then_exit
         | apply At_block_normal
         | apply At_block_ret
         | apply At_block_hit
         | refine At_block_miss rfl ?_
         | refine At_end1 rfl rfl ?_
         | refine At_end1n rfl rfl ?_
         | refine At_end2 rfl rfl rfl ?_
         | refine At_mix (by (repeat (first | assumption | exact Below.refl _ _ | refine below_step ?_ (by assumption) | exact World.grownBy.refl _ _ | refine kp_below ?_ (by assumption) | refine kp_row ?_ (by assumption))); first | done | fail) ?_))
  rotate_right
  · have hk2 : k = bs.length := by omega
    subst hk2
    refine ⟨u, rs, by rw [e], ?_, hB⟩
    have := hO.rd
    rw [List.take_length] at this
    rw [crash, e]; exact this
  focus
    have hx : keep[(yr.name - 1).toNat]? = some y := hy
    have hkk : min y (b.fresh.length : Int) = kOf keep b := by
      unfold kOf
      rw [if_pos (by omega), ← hnm, List.getD_eq_getElem?_getD, hx, Option.getD_some]
    refine ⟨?_⟩
    refine W_forget [(0, v), (1, v2), (7, u), (8, .int .i64 k), (9, .int .i64 (kOf keep b))] (by rw [← hkk]; repeat (first | exact get_nil_slots _ | refine get_cons_slots rfl ?_)) ?_
    obtain ⟨w6, hw6⟩ : ∃ w6, w6 = w1 := ⟨_, rfl⟩
    rw [← hw6]
    have hB6 : Below w.heap.size w w6 := by rw [hw6]; exact below_step hB hBq
    have hO6 : OwBl w6 w.heap.size u rs ((bs.take k).map (crashBl keep)) := by rw [hw6]; exact hO.ext hBq
    clear hw6 hBq
  rotate_left
  focus
    have hkk : (0 : Int) = kOf keep b := by
      unfold kOf
      rw [if_neg (by omega)]
    refine ⟨?_⟩
    refine W_forget [(0, v), (1, v2), (7, u), (8, .int .i64 k), (9, .int .i64 (kOf keep b))] (by rw [← hkk]; repeat (first | exact get_nil_slots _ | refine get_cons_slots rfl ?_)) ?_
    obtain ⟨w6, hw6⟩ : ∃ w6, w6 = w' := ⟨_, rfl⟩
    rw [← hw6]
    have hB6 : Below w.heap.size w w6 := by rw [hw6]; exact hB
    have hO6 : OwBl w6 w.heap.size u rs ((bs.take k).map (crashBl keep)) := by rw [hw6]; exact hO
    clear hw6
  all_goals
    have hneq : v.ownBlock ≠ u.ownBlock := by
      intro e
      rw [habr] at e
      have h1 := (hO.own.lt _ e.symm).1
      have h3 := hrd.blt (by decide) (fun e => by rw [e] at hyr; simp at hyr) habr
      omega
    have hkb := kOf_bd hall (b := b) (by omega)
    have h400 : b.safe.length + b.fresh.length ≤ 400 := by have := hbd.2.2; simp only [blOk, Bool.and_eq_true, decide_eq_true_eq] at this; exact this.2
    have hz6 := hB6.size
    clear hB hO
    repeat' (first
      | (apply isL
         first
           | apply L_nil
           | refine L_move rfl rfl ?_
           | (apply isGuarded
              first
                | refine L_guard_dec rfl rfl (fun hg => ?_) (fun hg => ?_)
                | refine L_guard_yes rfl rfl ?_
                | refine L_guard_no rfl rfl rfl rfl ?_
                | refine L_guard_undef rfl rfl rfl ?_
                | refine L_guard_split rfl rfl (fun hg => ?_) (fun hg => ?_))
           | (apply isCall
              first
                | refine L_lenL rfl (by (first | assumption | exact RdL.ext (by assumption) (by (repeat (first | assumption | refine below_step ?_ (by assumption))); first | done | fail) | exact OwL.rd (by assumption))) rfl (fun hlen => ?_)
                | refine L_do rfl rfl rfl (do_lenStr rfl) ?_
                | refine L_append (w0 := w6) (T := tInt) rfl rfl (by (repeat (first | assumption | exact Below.refl _ _ | refine below_step ?_ (by assumption))); first | done | fail) (by (first | assumption | exact OwL.ext (by assumption) (by (repeat (first | assumption | refine below_step ?_ (by assumption))); first | done | fail))) (hbr.safe.ext (by (repeat (first | assumption | exact Below.refl _ _ | refine below_step ?_ (by assumption))); first | done | fail)) rfl (by simp; omega) (by simp; omega) rfl (fun v9 w9 hO9 hB9 hg9 => ?_)
                | (refine L_append (w0 := w6) (T := tInt) rfl rfl (by (repeat (first | assumption | exact Below.refl _ _ | refine below_step ?_ (by assumption))); first | done | fail) (by (first | assumption | exact OwL.ext (by assumption) (by (repeat (first | assumption | refine below_step ?_ (by assumption))); first | done | fail))) (hsl.ext (by (repeat (first | assumption | exact Below.refl _ _ | refine below_step ?_ (by assumption))); first | done | fail)) rfl (by simp; omega) (by simp; omega) rfl (fun v9 w9 hO9 hB9 hg9 => ?_); obtain ⟨a9, c9, rfl, _, _⟩ := hO9.rd.slice)
                | refine L_appendG (T := tRow3) rfl rfl (Nat.le_trans hz6 (Below.size (by (repeat (first | assumption | exact Below.refl _ _ | refine below_step ?_ (by assumption))); first | done | fail))) (hO6.ext (by (repeat (first | assumption | exact Below.refl _ _ | refine below_step ?_ (by assumption))); first | done | fail)).own hO10.rd rfl (by simp; omega) (by simp; omega) rfl (fun v11 w11 hO11 hg11 => ?_)
                )
           | (apply isBin
              first
                | refine L_do rfl rfl rfl (do_cmp rfl rfl rfl) ?_
                | refine L_do rfl rfl rfl (do_cmpStr rfl rfl rfl) ?_
                | refine L_do rfl rfl rfl (do_add rfl rfl (by omega)) ?_
                | refine L_do rfl rfl rfl (do_sub rfl rfl (by omega)) ?_
                | refine L_do rfl rfl rfl (do_eqBool TBool.und rfl rfl) ?_
                | refine L_do rfl rfl rfl (do_neBool TBool.und rfl rfl) ?_
                )
           | (apply isLoad
              first
                | refine L_loadPt rfl (by rfl) (by (first | assumption | exact Pt.ext (by assumption) (by (repeat (first | assumption | refine below_step ?_ (by assumption))); first | done | fail))) (by rfl) rfl ?_
                | refine L_loadPt0 rfl (by (first | assumption | exact Pt.ext (by assumption) (by (repeat (first | assumption | refine below_step ?_ (by assumption))); first | done | fail))) (by rfl) rfl ?_
                | refine L_loadAgg rfl (by (first | assumption | exact Pt.ext (by assumption) (by (repeat (first | assumption | refine below_step ?_ (by assumption))); first | done | fail))) (by rfl) rfl ?_)
           | refine L_assign rfl rfl ?_
           | refine L_do rfl rfl rfl (do_pick_true rfl rfl) ?_
           | refine L_do rfl rfl rfl (do_pick_false rfl rfl) ?_
           | refine L_do rfl rfl rfl (do_notDec rfl) ?_
           | refine L_do rfl rfl rfl (do_not rfl) ?_
           | refine L_do rfl rfl rfl (do_extract rfl rfl) ?_
           | refine L_do rfl rfl rfl (do_fieldAddr rfl) ?_
           | refine L_buildSlice0 (w0 := w6) tInt (by (repeat (first | assumption | exact Below.refl _ _ | refine below_step ?_ (by assumption))); first | done | fail) rfl (fun w8 hO8 hB8 hC8 => ?_)
           | refine L_buildSliceL tRow3 [⟨yr.name, .slice _ _ _, .slice _ _ _, rfl, rfl⟩] rfl rfl rfl rfl rfl rfl rfl rfl (fun w10 hO10 hB10 => ?_)
           | refine L_indexL rfl rfl (by (first | assumption | exact RdL.ext (by assumption) (by (repeat (first | assumption | refine below_step ?_ (by assumption))); first | done | fail) | exact OwL.rd (by assumption))) (by rfl) (by omega) (by omega) rfl (fun a y hy hab hp => ?_)
           | (apply isBox; refine L_boxV (w0 := w) (by (repeat (first | assumption | exact Below.refl _ _ | refine below_step ?_ (by assumption))); first | done | fail) rfl rfl (fun w1 hz1 hB hB1 hv => ?_); have hp := pt_of_block hv)
           | (apply isAllocStore; refine L_allocStoreV (w0 := w) (by (repeat (first | assumption | exact Below.refl _ _ | refine below_step ?_ (by assumption))); first | done | fail) rfl rfl rfl rfl ?_ rfl (fun w1 hz1 hB hB1 hv => ?_); (focus (first | exact Ty.one _ _ | simp [Value.oneCell'])); have hp := pt_of_block hv)
           )
      | (apply isLQ
         first
           | refine LQ_nil (fun w1 hBq => ?_)
           | apply LQ_mix
           | refine LQ_move rfl rfl ?_
           | (apply isGuardedQ
              first
                | refine LQ_guard_dec rfl rfl (fun hg => ?_) (fun hg => ?_)
                | refine LQ_guard_yes rfl rfl ?_
                | refine LQ_guard_no rfl rfl rfl rfl ?_
                | refine LQ_guard_undef rfl rfl rfl ?_
                | refine LQ_guard_split rfl rfl (fun hg => ?_) (fun hg => ?_))
           | (apply isCallQ
              first
                | refine LQ_lenL rfl (by (first | assumption | exact RdL.ext (by assumption) (by (repeat (first | assumption | refine below_step ?_ (by assumption))); first | done | fail) | exact OwL.rd (by assumption))) rfl (fun hlen => ?_)
                | refine LQ_do rfl rfl rfl (fun _ _ => do_lenStr rfl) ?_
                )
           | (apply isBinQ
              first
                | refine LQ_do rfl rfl rfl (fun _ _ => do_cmp rfl rfl rfl) ?_
                | refine LQ_do rfl rfl rfl (fun _ _ => do_cmpStr rfl rfl rfl) ?_
                | refine LQ_do rfl rfl rfl (fun _ _ => do_add rfl rfl (by omega)) ?_
                | refine LQ_do rfl rfl rfl (fun _ _ => do_sub rfl rfl (by omega)) ?_
                | refine LQ_do rfl rfl rfl (fun _ _ => do_eqBool TBool.und rfl rfl) ?_
                | refine LQ_do rfl rfl rfl (fun _ _ => do_neBool TBool.und rfl rfl) ?_
                )
           | (apply isLoadQ
              first
                | refine LQ_loadPt rfl (by rfl) (by (first | assumption | exact Pt.ext (by assumption) (by (repeat (first | assumption | refine below_step ?_ (by assumption))); first | done | fail))) (by rfl) rfl ?_
                | refine LQ_loadPt0 rfl (by (first | assumption | exact Pt.ext (by assumption) (by (repeat (first | assumption | refine below_step ?_ (by assumption))); first | done | fail))) (by rfl) rfl ?_
                | refine LQ_loadAgg rfl (by (first | assumption | exact Pt.ext (by assumption) (by (repeat (first | assumption | refine below_step ?_ (by assumption))); first | done | fail))) (by rfl) rfl ?_
                | refine RLQ_loadPt rfl (by rfl) (by (first | assumption | exact Pt.ext (by assumption) (by (repeat (first | assumption | refine below_step ?_ (by assumption))); first | done | fail))) (by rfl) (by first | assumption | (intro e; simp_all; done)) rfl ?_
                | refine RLQ_loadPt0 rfl (by (first | assumption | exact Pt.ext (by assumption) (by (repeat (first | assumption | refine below_step ?_ (by assumption))); first | done | fail))) (by rfl) (by first | assumption | (intro e; simp_all; done)) rfl ?_
                | refine RLQ_loadAgg rfl (by (first | assumption | exact Pt.ext (by assumption) (by (repeat (first | assumption | refine below_step ?_ (by assumption))); first | done | fail))) (by rfl) (by first | assumption | (intro e; simp_all; done)) rfl ?_)
           | refine LQ_assign rfl rfl ?_
           | refine LQ_do rfl rfl rfl (fun _ _ => do_pick_true rfl rfl) ?_
           | refine LQ_do rfl rfl rfl (fun _ _ => do_pick_false rfl rfl) ?_
           | refine LQ_do rfl rfl rfl (fun _ _ => do_notDec rfl) ?_
           | refine LQ_do rfl rfl rfl (fun _ _ => do_not rfl) ?_
           | refine LQ_do rfl rfl rfl (fun _ _ => do_extract rfl rfl) ?_
           | refine LQ_do rfl rfl rfl (fun _ _ => do_fieldAddr rfl) ?_
           | refine LQ_do rfl rfl rfl (fun _ _ => do_buildS rfl (by kernel_rfl)) ?_
           | (refine LQ_sliceH rfl rfl hfr rfl (by omega) (by omega) rfl (fun sv hsl hob => ?_))
           | (refine LQ_indexL (T := tRow3) rfl rfl hrd (by rfl) (by omega) (by omega) rfl (fun a2 y2 hy2 hab2 hp2 => ?_); obtain rfl := Option.some.inj (hyr.symm.trans hy2); have hne2 : some a2.block ≠ u.ownBlock := hab2 ▸ hneq)
           | refine LQ_indexL rfl rfl (by (first | assumption | exact RdL.ext (by assumption) (by (repeat (first | assumption | refine below_step ?_ (by assumption))); first | done | fail) | exact OwL.rd (by assumption))) (by rfl) (by omega) (by omega) rfl (fun a y hy hab hp => ?_))
      | (apply isW
         first
           | apply W_seq
           | apply W_region
           | refine W_region_R (id := 15) u.ownBlock (.look 0 (.look 1 (.look 2 (.look 3 (.look 4 (.look 5 (.look 7 (.look 8 (.look 9 (.look 10 (.look 11 (.look 13 (.look 14 (.look 15 (.look 16 (.look 17 (.look 18 (.look 19 (.both 6 (.both 12 (.both 20 (.act 21 (.look 22 (.act 23 (.act 24 (.look 25 .done))))) 21 (.act 20 (.look 22 (.act 23 (.act 24 (.look 25 .done)))))) 21 (.act 12 (.act 20 (.look 22 (.act 23 (.act 24 (.look 25 .done))))))) 21 (.act 6 (.act 12 (.act 20 (.look 22 (.act 23 (.act 24 (.look 25 .done)))))))))))))))))))))))))) mixed (by kernel_rfl) (by kernel_rfl) (by rintro _ _ _ _ _ ⟨_, _, hh, _⟩; cases hh) (fun w7 hBm hBm' hzm => ?_)
           | refine W_region_Q mixed (by kernel_rfl) ?_
           | refine W_cond_dec rfl (fun hg => ?_) (fun hg => ?_)
           | refine W_cond_true rfl ?_
           | refine W_cond_false rfl ?_
           | refine W_cond rfl (fun hg => ?_) (fun hg => ?_)
           | apply W_skip
           | apply W_ret
           | apply W_exit
           | apply W_block)
      | (apply isLM
         first
           | apply LM_nil
           | refine LM_look rfl rfl ?_
           | refine LM_act rfl ?_
           | refine LM_both rfl rfl ?_ ?_
           | refine LM_do rfl rfl rfl rfl (fun _ _ => do_nilCheck rfl) ?_)
      | (apply isAt
         first
           | apply At_then
           | apply At_then_ret
           | apply At_then_exit
           | apply At_block_normal
           | apply At_block_ret
           | apply At_block_hit
           | refine At_block_miss rfl ?_
           | refine At_end1 rfl rfl ?_
           | refine At_end1n rfl rfl ?_
           | refine At_end2 rfl rfl rfl ?_
           | refine At_mix (by (repeat (first | assumption | exact Below.refl _ _ | refine below_step ?_ (by assumption) | exact World.grownBy.refl _ _ | refine kp_below ?_ (by assumption) | refine kp_row ?_ (by assumption))); first | done | fail) ?_))
    all_goals
      have hz9 := hB9.size
      have hO9' := hO9.rebase (base' := w.heap.size) hz6
      simp only [List.nil_append] at hO9'
      have hPx : OwBl w10 w.heap.size u rs ((bs.take k).map (crashBl keep)) := hO6.ext (by (repeat (first | assumption | exact Below.refl _ _ | refine below_step ?_ (by assumption))); first | done | fail)
      have hI9 : InL w10 w.heap.size (.slice a9 (b.safe ++ b.fresh.take (kOf keep b).toNat).length c9) (crashBl keep b).safe := .of (hO9'.ext (by (repeat (first | assumption | exact Below.refl _ _ | refine below_step ?_ (by assumption))); first | done | fail))
      have hB11 : Below w.heap.size w w11 := below_grow0 (by (repeat (first | assumption | exact Below.refl _ _ | refine below_step ?_ (by assumption))); first | done | fail) hg11 (fun k hk => (hPx.own.lt k hk).1)
      refine At_round _ [(0, v), (1, v2), (7, v11), (8, .int .i64 ((k + 1 : Nat) : Int))] (by repeat (first | exact get_nil_slots _ | refine get_cons_slots rfl ?_)) (by omega) ⟨k + 1, v11, _, rfl, by omega, rfl, hB11, by rw [map_step _ hb]; exact OwBl.app hPx hg11 hO11 hnm hI9 (.empty rdl_lit0)⟩
end Go.Proofs.Ytomhhfeakpompaa
