/-
  Contracts of the small functions on numbers and lists of numbers.
-/
import Derived.Test.YtomhhfeakpompaaInst
namespace Go.Proofs.Ytomhhfeakpompaa
open Go Go.RowKit
set_option linter.unusedVariables false

theorem c_in {n lo hi : Int} {w : World} : Cl Try.prog 27 [.int .i64 n, .int .i64 lo, .int .i64 hi] w (V w (.bool (decide (lo ≤ n ∧ n ≤ hi)))) := by
  refine calls_start 15 Try.func27 rfl rfl rfl ?_
  repeat' (first
    | (apply isL
       first
         | apply L_nil
         | refine L_move rfl rfl ?_
         | (apply isGuarded
            first
              | refine L_guard_dec rfl rfl (fun hg => ?_) (fun hg => ?_)
              | refine L_guard_yes rfl rfl ?_
              | refine L_guard_no rfl rfl rfl rfl ?_
              | refine L_guard_undef rfl rfl rfl ?_
              | refine L_guard_split rfl rfl (fun hg => ?_) (fun hg => ?_))
         | (apply isCall
            first
              | refine L_lenL rfl (by (first | assumption | exact RdL.ext (by assumption) (by (repeat (first | assumption | refine below_step ?_ (by assumption))); first | done | fail) | exact OwL.rd (by assumption))) rfl (fun hlen => ?_)
              | refine L_do rfl rfl rfl (do_lenStr rfl) ?_
              )
         | (apply isBin
            first
              | refine L_do rfl rfl rfl (do_cmp rfl rfl rfl) ?_
              | refine L_do rfl rfl rfl (do_cmpStr rfl rfl rfl) ?_
              | refine L_do rfl rfl rfl (do_add rfl rfl (by omega)) ?_
              | refine L_do rfl rfl rfl (do_sub rfl rfl (by omega)) ?_
              | refine L_do rfl rfl rfl (do_eqBool TBool.und rfl rfl) ?_
              | refine L_do rfl rfl rfl (do_neBool TBool.und rfl rfl) ?_
              )
         | (apply isLoad
            first
              | refine L_loadPt rfl (by rfl) (by (first | assumption | exact Pt.ext (by assumption) (by (repeat (first | assumption | refine below_step ?_ (by assumption))); first | done | fail))) (by rfl) rfl ?_
              | refine L_loadPt0 rfl (by (first | assumption | exact Pt.ext (by assumption) (by (repeat (first | assumption | refine below_step ?_ (by assumption))); first | done | fail))) (by rfl) rfl ?_
              | refine L_loadAgg rfl (by (first | assumption | exact Pt.ext (by assumption) (by (repeat (first | assumption | refine below_step ?_ (by assumption))); first | done | fail))) (by rfl) rfl ?_)
         | refine L_assign rfl rfl ?_
         | refine L_do rfl rfl rfl (do_pick_true rfl rfl) ?_
         | refine L_do rfl rfl rfl (do_pick_false rfl rfl) ?_
         | refine L_do rfl rfl rfl (do_notDec rfl) ?_
         | refine L_do rfl rfl rfl (do_not rfl) ?_
         | refine L_do rfl rfl rfl (do_extract rfl rfl) ?_
         | refine L_do rfl rfl rfl (do_fieldAddr rfl) ?_
         | refine L_indexL rfl rfl (by (first | assumption | exact RdL.ext (by assumption) (by (repeat (first | assumption | refine below_step ?_ (by assumption))); first | done | fail) | exact OwL.rd (by assumption))) (by rfl) (by omega) (by omega) rfl (fun a y hy hab hp => ?_)
         | (apply isBox; refine L_boxV (w0 := w) (by (repeat (first | assumption | exact Below.refl _ _ | refine below_step ?_ (by assumption))); first | done | fail) rfl rfl (fun w1 hz1 hB hB1 hv => ?_); have hp := pt_of_block hv)
         | (apply isAllocStore; refine L_allocStoreV (w0 := w) (by (repeat (first | assumption | exact Below.refl _ _ | refine below_step ?_ (by assumption))); first | done | fail) rfl rfl rfl rfl ?_ rfl (fun w1 hz1 hB hB1 hv => ?_); (focus (first | exact Ty.one _ _ | simp [Value.oneCell'])); have hp := pt_of_block hv)
         )
    | (apply isLQ
       first
         | refine LQ_nil (fun w1 hBq => ?_)
         | apply LQ_mix
         | refine LQ_move rfl rfl ?_
         | (apply isGuardedQ
            first
              | refine LQ_guard_dec rfl rfl (fun hg => ?_) (fun hg => ?_)
              | refine LQ_guard_yes rfl rfl ?_
              | refine LQ_guard_no rfl rfl rfl rfl ?_
              | refine LQ_guard_undef rfl rfl rfl ?_
              | refine LQ_guard_split rfl rfl (fun hg => ?_) (fun hg => ?_))
         | (apply isCallQ
            first
              | refine LQ_lenL rfl (by (first | assumption | exact RdL.ext (by assumption) (by (repeat (first | assumption | refine below_step ?_ (by assumption))); first | done | fail) | exact OwL.rd (by assumption))) rfl (fun hlen => ?_)
              | refine LQ_do rfl rfl rfl (fun _ _ => do_lenStr rfl) ?_
              )
         | (apply isBinQ
            first
              | refine LQ_do rfl rfl rfl (fun _ _ => do_cmp rfl rfl rfl) ?_
              | refine LQ_do rfl rfl rfl (fun _ _ => do_cmpStr rfl rfl rfl) ?_
              | refine LQ_do rfl rfl rfl (fun _ _ => do_add rfl rfl (by omega)) ?_
              | refine LQ_do rfl rfl rfl (fun _ _ => do_sub rfl rfl (by omega)) ?_
              | refine LQ_do rfl rfl rfl (fun _ _ => do_eqBool TBool.und rfl rfl) ?_
              | refine LQ_do rfl rfl rfl (fun _ _ => do_neBool TBool.und rfl rfl) ?_
              )
         | (apply isLoadQ
            first
              | refine LQ_loadPt rfl (by rfl) (by (first | assumption | exact Pt.ext (by assumption) (by (repeat (first | assumption | refine below_step ?_ (by assumption))); first | done | fail))) (by rfl) rfl ?_
              | refine LQ_loadPt0 rfl (by (first | assumption | exact Pt.ext (by assumption) (by (repeat (first | assumption | refine below_step ?_ (by assumption))); first | done | fail))) (by rfl) rfl ?_
              | refine LQ_loadAgg rfl (by (first | assumption | exact Pt.ext (by assumption) (by (repeat (first | assumption | refine below_step ?_ (by assumption))); first | done | fail))) (by rfl) rfl ?_
              | refine RLQ_loadPt rfl (by rfl) (by (first | assumption | exact Pt.ext (by assumption) (by (repeat (first | assumption | refine below_step ?_ (by assumption))); first | done | fail))) (by rfl) (by first | assumption | (intro e; simp_all; done)) rfl ?_
              | refine RLQ_loadPt0 rfl (by (first | assumption | exact Pt.ext (by assumption) (by (repeat (first | assumption | refine below_step ?_ (by assumption))); first | done | fail))) (by rfl) (by first | assumption | (intro e; simp_all; done)) rfl ?_
              | refine RLQ_loadAgg rfl (by (first | assumption | exact Pt.ext (by assumption) (by (repeat (first | assumption | refine below_step ?_ (by assumption))); first | done | fail))) (by rfl) (by first | assumption | (intro e; simp_all; done)) rfl ?_)
         | refine LQ_assign rfl rfl ?_
         | refine LQ_do rfl rfl rfl (fun _ _ => do_pick_true rfl rfl) ?_
         | refine LQ_do rfl rfl rfl (fun _ _ => do_pick_false rfl rfl) ?_
         | refine LQ_do rfl rfl rfl (fun _ _ => do_notDec rfl) ?_
         | refine LQ_do rfl rfl rfl (fun _ _ => do_not rfl) ?_
         | refine LQ_do rfl rfl rfl (fun _ _ => do_extract rfl rfl) ?_
         | refine LQ_do rfl rfl rfl (fun _ _ => do_fieldAddr rfl) ?_
         | refine LQ_do rfl rfl rfl (fun _ _ => do_buildS rfl (by kernel_rfl)) ?_
         | refine LQ_indexL rfl rfl (by (first | assumption | exact RdL.ext (by assumption) (by (repeat (first | assumption | refine below_step ?_ (by assumption))); first | done | fail) | exact OwL.rd (by assumption))) (by rfl) (by omega) (by omega) rfl (fun a y hy hab hp => ?_))
    | (apply isW
       first
         | apply W_seq
         | apply W_region
         | refine W_region_Q mixed (by kernel_rfl) ?_
         | refine W_cond_dec rfl (fun hg => ?_) (fun hg => ?_)
         | refine W_cond_true rfl ?_
         | refine W_cond_false rfl ?_
         | refine W_cond rfl (fun hg => ?_) (fun hg => ?_)
         | apply W_skip
         | apply W_ret
         | apply W_exit
         | apply W_block)
    | (apply isLM
       first
         | apply LM_nil
         | refine LM_look rfl rfl ?_
         | refine LM_act rfl ?_
         | refine LM_both rfl rfl ?_ ?_
         | refine LM_do rfl rfl rfl rfl (fun _ _ => do_nilCheck rfl) ?_)
    | (apply isAt
       first
         | apply At_then
         | apply At_then_ret
         | apply At_then_exit
         | apply At_block_normal
         | apply At_block_ret
         | apply At_block_hit
         | refine At_block_miss rfl ?_
         | refine At_end1 rfl rfl ?_
         | refine At_end1n rfl rfl ?_
         | refine At_end2 rfl rfl rfl ?_
         | refine At_mix (by (repeat (first | assumption | exact Below.refl _ _ | refine below_step ?_ (by assumption) | exact World.grownBy.refl _ _ | refine kp_below ?_ (by assumption) | refine kp_row ?_ (by assumption))); first | done | fail) ?_))
  all_goals exact ⟨by simp; omega, Below.refl _ _⟩

theorem c_l6In {n lo hi : Int} {w : World} : Cl Try.prog 29 [.int .i64 n, .int .i64 lo, .int .i64 hi] w (V w (.bool (decide (lo ≤ n ∧ n ≤ hi)))) := by
  refine calls_start 15 Try.func29 rfl rfl rfl ?_
  repeat' (first
    | (apply isL
       first
         | apply L_nil
         | refine L_move rfl rfl ?_
         | (apply isGuarded
            first
              | refine L_guard_dec rfl rfl (fun hg => ?_) (fun hg => ?_)
              | refine L_guard_yes rfl rfl ?_
              | refine L_guard_no rfl rfl rfl rfl ?_
              | refine L_guard_undef rfl rfl rfl ?_
              | refine L_guard_split rfl rfl (fun hg => ?_) (fun hg => ?_))
         | (apply isCall
            first
              | refine L_lenL rfl (by (first | assumption | exact RdL.ext (by assumption) (by (repeat (first | assumption | refine below_step ?_ (by assumption))); first | done | fail) | exact OwL.rd (by assumption))) rfl (fun hlen => ?_)
              | refine L_do rfl rfl rfl (do_lenStr rfl) ?_
              )
         | (apply isBin
            first
              | refine L_do rfl rfl rfl (do_cmp rfl rfl rfl) ?_
              | refine L_do rfl rfl rfl (do_cmpStr rfl rfl rfl) ?_
              | refine L_do rfl rfl rfl (do_add rfl rfl (by omega)) ?_
              | refine L_do rfl rfl rfl (do_sub rfl rfl (by omega)) ?_
              | refine L_do rfl rfl rfl (do_eqBool TBool.und rfl rfl) ?_
              | refine L_do rfl rfl rfl (do_neBool TBool.und rfl rfl) ?_
              )
         | (apply isLoad
            first
              | refine L_loadPt rfl (by rfl) (by (first | assumption | exact Pt.ext (by assumption) (by (repeat (first | assumption | refine below_step ?_ (by assumption))); first | done | fail))) (by rfl) rfl ?_
              | refine L_loadPt0 rfl (by (first | assumption | exact Pt.ext (by assumption) (by (repeat (first | assumption | refine below_step ?_ (by assumption))); first | done | fail))) (by rfl) rfl ?_
              | refine L_loadAgg rfl (by (first | assumption | exact Pt.ext (by assumption) (by (repeat (first | assumption | refine below_step ?_ (by assumption))); first | done | fail))) (by rfl) rfl ?_)
         | refine L_assign rfl rfl ?_
         | refine L_do rfl rfl rfl (do_pick_true rfl rfl) ?_
         | refine L_do rfl rfl rfl (do_pick_false rfl rfl) ?_
         | refine L_do rfl rfl rfl (do_notDec rfl) ?_
         | refine L_do rfl rfl rfl (do_not rfl) ?_
         | refine L_do rfl rfl rfl (do_extract rfl rfl) ?_
         | refine L_do rfl rfl rfl (do_fieldAddr rfl) ?_
         | refine L_indexL rfl rfl (by (first | assumption | exact RdL.ext (by assumption) (by (repeat (first | assumption | refine below_step ?_ (by assumption))); first | done | fail) | exact OwL.rd (by assumption))) (by rfl) (by omega) (by omega) rfl (fun a y hy hab hp => ?_)
         | (apply isBox; refine L_boxV (w0 := w) (by (repeat (first | assumption | exact Below.refl _ _ | refine below_step ?_ (by assumption))); first | done | fail) rfl rfl (fun w1 hz1 hB hB1 hv => ?_); have hp := pt_of_block hv)
         | (apply isAllocStore; refine L_allocStoreV (w0 := w) (by (repeat (first | assumption | exact Below.refl _ _ | refine below_step ?_ (by assumption))); first | done | fail) rfl rfl rfl rfl ?_ rfl (fun w1 hz1 hB hB1 hv => ?_); (focus (first | exact Ty.one _ _ | simp [Value.oneCell'])); have hp := pt_of_block hv)
         )
    | (apply isLQ
       first
         | refine LQ_nil (fun w1 hBq => ?_)
         | apply LQ_mix
         | refine LQ_move rfl rfl ?_
         | (apply isGuardedQ
            first
              | refine LQ_guard_dec rfl rfl (fun hg => ?_) (fun hg => ?_)
              | refine LQ_guard_yes rfl rfl ?_
              | refine LQ_guard_no rfl rfl rfl rfl ?_
              | refine LQ_guard_undef rfl rfl rfl ?_
              | refine LQ_guard_split rfl rfl (fun hg => ?_) (fun hg => ?_))
         | (apply isCallQ
            first
              | refine LQ_lenL rfl (by (first | assumption | exact RdL.ext (by assumption) (by (repeat (first | assumption | refine below_step ?_ (by assumption))); first | done | fail) | exact OwL.rd (by assumption))) rfl (fun hlen => ?_)
              | refine LQ_do rfl rfl rfl (fun _ _ => do_lenStr rfl) ?_
              )
         | (apply isBinQ
            first
              | refine LQ_do rfl rfl rfl (fun _ _ => do_cmp rfl rfl rfl) ?_
              | refine LQ_do rfl rfl rfl (fun _ _ => do_cmpStr rfl rfl rfl) ?_
              | refine LQ_do rfl rfl rfl (fun _ _ => do_add rfl rfl (by omega)) ?_
              | refine LQ_do rfl rfl rfl (fun _ _ => do_sub rfl rfl (by omega)) ?_
              | refine LQ_do rfl rfl rfl (fun _ _ => do_eqBool TBool.und rfl rfl) ?_
              | refine LQ_do rfl rfl rfl (fun _ _ => do_neBool TBool.und rfl rfl) ?_
              )
         | (apply isLoadQ
            first
              | refine LQ_loadPt rfl (by rfl) (by (first | assumption | exact Pt.ext (by assumption) (by (repeat (first | assumption | refine below_step ?_ (by assumption))); first | done | fail))) (by rfl) rfl ?_
              | refine LQ_loadPt0 rfl (by (first | assumption | exact Pt.ext (by assumption) (by (repeat (first | assumption | refine below_step ?_ (by assumption))); first | done | fail))) (by rfl) rfl ?_
              | refine LQ_loadAgg rfl (by (first | assumption | exact Pt.ext (by assumption) (by (repeat (first | assumption | refine below_step ?_ (by assumption))); first | done | fail))) (by rfl) rfl ?_
              | refine RLQ_loadPt rfl (by rfl) (by (first | assumption | exact Pt.ext (by assumption) (by (repeat (first | assumption | refine below_step ?_ (by assumption))); first | done | fail))) (by rfl) (by first | assumption | (intro e; simp_all; done)) rfl ?_
              | refine RLQ_loadPt0 rfl (by (first | assumption | exact Pt.ext (by assumption) (by (repeat (first | assumption | refine below_step ?_ (by assumption))); first | done | fail))) (by rfl) (by first | assumption | (intro e; simp_all; done)) rfl ?_
              | refine RLQ_loadAgg rfl (by (first | assumption | exact Pt.ext (by assumption) (by (repeat (first | assumption | refine below_step ?_ (by assumption))); first | done | fail))) (by rfl) (by first | assumption | (intro e; simp_all; done)) rfl ?_)
         | refine LQ_assign rfl rfl ?_
         | refine LQ_do rfl rfl rfl (fun _ _ => do_pick_true rfl rfl) ?_
         | refine LQ_do rfl rfl rfl (fun _ _ => do_pick_false rfl rfl) ?_
         | refine LQ_do rfl rfl rfl (fun _ _ => do_notDec rfl) ?_
         | refine LQ_do rfl rfl rfl (fun _ _ => do_not rfl) ?_
         | refine LQ_do rfl rfl rfl (fun _ _ => do_extract rfl rfl) ?_
         | refine LQ_do rfl rfl rfl (fun _ _ => do_fieldAddr rfl) ?_
         | refine LQ_do rfl rfl rfl (fun _ _ => do_buildS rfl (by kernel_rfl)) ?_
         | refine LQ_indexL rfl rfl (by (first | assumption | exact RdL.ext (by assumption) (by (repeat (first | assumption | refine below_step ?_ (by assumption))); first | done | fail) | exact OwL.rd (by assumption))) (by rfl) (by omega) (by omega) rfl (fun a y hy hab hp => ?_))
    | (apply isW
       first
         | apply W_seq
         | apply W_region
         | refine W_region_Q mixed (by kernel_rfl) ?_
         | refine W_cond_dec rfl (fun hg => ?_) (fun hg => ?_)
         | refine W_cond_true rfl ?_
         | refine W_cond_false rfl ?_
         | refine W_cond rfl (fun hg => ?_) (fun hg => ?_)
         | apply W_skip
         | apply W_ret
         | apply W_exit
         | apply W_block)
    | (apply isLM
       first
         | apply LM_nil
         | refine LM_look rfl rfl ?_
         | refine LM_act rfl ?_
         | refine LM_both rfl rfl ?_ ?_
         | refine LM_do rfl rfl rfl rfl (fun _ _ => do_nilCheck rfl) ?_)
    | (apply isAt
       first
         | apply At_then
         | apply At_then_ret
         | apply At_then_exit
         | apply At_block_normal
         | apply At_block_ret
         | apply At_block_hit
         | refine At_block_miss rfl ?_
         | refine At_end1 rfl rfl ?_
         | refine At_end1n rfl rfl ?_
         | refine At_end2 rfl rfl rfl ?_
         | refine At_mix (by (repeat (first | assumption | exact Below.refl _ _ | refine below_step ?_ (by assumption) | exact World.grownBy.refl _ _ | refine kp_below ?_ (by assumption) | refine kp_row ?_ (by assumption))); first | done | fail) ?_))
  all_goals exact ⟨by simp; omega, Below.refl _ _⟩

theorem bytesOk_step {xs : List Int} {k : Nat} {y : Int} (h : bytesOk (xs.take k) = true) (hy : xs[k]? = some y) : bytesOk (xs.take (k + 1)) = decide (0 ≤ y ∧ y ≤ 255) := by
  unfold bytesOk at *
  rw [List.take_add_one, hy, List.all_append, h]
  simp [byteOk]
theorem bytesOk_bad {xs : List Int} {k : Nat} (h : bytesOk (xs.take k) = false) : bytesOk xs = false := by
  unfold bytesOk at *
  rw [← List.take_append_drop k xs, List.all_append, h]; rfl

theorem c_l4Bytes {v : Value} {xs : List Int} {w : World} (h : RdL tInt w v xs) : Cl Try.prog 30 [v] w (V w (.bool (bytesOk xs))) := by
  refine calls_start 16 Try.func30 rfl rfl rfl ?_
  have hml := h.maxLen
  repeat' (first
    | (apply isL
       first
         | apply L_nil
         | refine L_move rfl rfl ?_
         | (apply isGuarded
            first
              | refine L_guard_dec rfl rfl (fun hg => ?_) (fun hg => ?_)
              | refine L_guard_yes rfl rfl ?_
              | refine L_guard_no rfl rfl rfl rfl ?_
              | refine L_guard_undef rfl rfl rfl ?_
              | refine L_guard_split rfl rfl (fun hg => ?_) (fun hg => ?_))
         | (apply isCall
            first
              | refine L_lenL rfl (by (first | assumption | exact RdL.ext (by assumption) (by (repeat (first | assumption | refine below_step ?_ (by assumption))); first | done | fail) | exact OwL.rd (by assumption))) rfl (fun hlen => ?_)
              | refine L_do rfl rfl rfl (do_lenStr rfl) ?_
              )
         | (apply isBin
            first
              | refine L_do rfl rfl rfl (do_cmp rfl rfl rfl) ?_
              | refine L_do rfl rfl rfl (do_cmpStr rfl rfl rfl) ?_
              | refine L_do rfl rfl rfl (do_add rfl rfl (by omega)) ?_
              | refine L_do rfl rfl rfl (do_sub rfl rfl (by omega)) ?_
              | refine L_do rfl rfl rfl (do_eqBool TBool.und rfl rfl) ?_
              | refine L_do rfl rfl rfl (do_neBool TBool.und rfl rfl) ?_
              )
         | (apply isLoad
            first
              | refine L_loadPt rfl (by rfl) (by (first | assumption | exact Pt.ext (by assumption) (by (repeat (first | assumption | refine below_step ?_ (by assumption))); first | done | fail))) (by rfl) rfl ?_
              | refine L_loadPt0 rfl (by (first | assumption | exact Pt.ext (by assumption) (by (repeat (first | assumption | refine below_step ?_ (by assumption))); first | done | fail))) (by rfl) rfl ?_
              | refine L_loadAgg rfl (by (first | assumption | exact Pt.ext (by assumption) (by (repeat (first | assumption | refine below_step ?_ (by assumption))); first | done | fail))) (by rfl) rfl ?_)
         | refine L_assign rfl rfl ?_
         | refine L_do rfl rfl rfl (do_pick_true rfl rfl) ?_
         | refine L_do rfl rfl rfl (do_pick_false rfl rfl) ?_
         | refine L_do rfl rfl rfl (do_notDec rfl) ?_
         | refine L_do rfl rfl rfl (do_not rfl) ?_
         | refine L_do rfl rfl rfl (do_extract rfl rfl) ?_
         | refine L_do rfl rfl rfl (do_fieldAddr rfl) ?_
         | refine L_indexL rfl rfl (by (first | assumption | exact RdL.ext (by assumption) (by (repeat (first | assumption | refine below_step ?_ (by assumption))); first | done | fail) | exact OwL.rd (by assumption))) (by rfl) (by omega) (by omega) rfl (fun a y hy hab hp => ?_)
         | (apply isBox; refine L_boxV (w0 := w) (by (repeat (first | assumption | exact Below.refl _ _ | refine below_step ?_ (by assumption))); first | done | fail) rfl rfl (fun w1 hz1 hB hB1 hv => ?_); have hp := pt_of_block hv)
         | (apply isAllocStore; refine L_allocStoreV (w0 := w) (by (repeat (first | assumption | exact Below.refl _ _ | refine below_step ?_ (by assumption))); first | done | fail) rfl rfl rfl rfl ?_ rfl (fun w1 hz1 hB hB1 hv => ?_); (focus (first | exact Ty.one _ _ | simp [Value.oneCell'])); have hp := pt_of_block hv)
         )
    | (apply isLQ
       first
         | refine LQ_nil (fun w1 hBq => ?_)
         | apply LQ_mix
         | refine LQ_move rfl rfl ?_
         | (apply isGuardedQ
            first
              | refine LQ_guard_dec rfl rfl (fun hg => ?_) (fun hg => ?_)
              | refine LQ_guard_yes rfl rfl ?_
              | refine LQ_guard_no rfl rfl rfl rfl ?_
              | refine LQ_guard_undef rfl rfl rfl ?_
              | refine LQ_guard_split rfl rfl (fun hg => ?_) (fun hg => ?_))
         | (apply isCallQ
            first
              | refine LQ_lenL rfl (by (first | assumption | exact RdL.ext (by assumption) (by (repeat (first | assumption | refine below_step ?_ (by assumption))); first | done | fail) | exact OwL.rd (by assumption))) rfl (fun hlen => ?_)
              | refine LQ_do rfl rfl rfl (fun _ _ => do_lenStr rfl) ?_
              )
         | (apply isBinQ
            first
              | refine LQ_do rfl rfl rfl (fun _ _ => do_cmp rfl rfl rfl) ?_
              | refine LQ_do rfl rfl rfl (fun _ _ => do_cmpStr rfl rfl rfl) ?_
              | refine LQ_do rfl rfl rfl (fun _ _ => do_add rfl rfl (by omega)) ?_
              | refine LQ_do rfl rfl rfl (fun _ _ => do_sub rfl rfl (by omega)) ?_
              | refine LQ_do rfl rfl rfl (fun _ _ => do_eqBool TBool.und rfl rfl) ?_
              | refine LQ_do rfl rfl rfl (fun _ _ => do_neBool TBool.und rfl rfl) ?_
              )
         | (apply isLoadQ
            first
              | refine LQ_loadPt rfl (by rfl) (by (first | assumption | exact Pt.ext (by assumption) (by (repeat (first | assumption | refine below_step ?_ (by assumption))); first | done | fail))) (by rfl) rfl ?_
              | refine LQ_loadPt0 rfl (by (first | assumption | exact Pt.ext (by assumption) (by (repeat (first | assumption | refine below_step ?_ (by assumption))); first | done | fail))) (by rfl) rfl ?_
              | refine LQ_loadAgg rfl (by (first | assumption | exact Pt.ext (by assumption) (by (repeat (first | assumption | refine below_step ?_ (by assumption))); first | done | fail))) (by rfl) rfl ?_
              | refine RLQ_loadPt rfl (by rfl) (by (first | assumption | exact Pt.ext (by assumption) (by (repeat (first | assumption | refine below_step ?_ (by assumption))); first | done | fail))) (by rfl) (by first | assumption | (intro e; simp_all; done)) rfl ?_
              | refine RLQ_loadPt0 rfl (by (first | assumption | exact Pt.ext (by assumption) (by (repeat (first | assumption | refine below_step ?_ (by assumption))); first | done | fail))) (by rfl) (by first | assumption | (intro e; simp_all; done)) rfl ?_
              | refine RLQ_loadAgg rfl (by (first | assumption | exact Pt.ext (by assumption) (by (repeat (first | assumption | refine below_step ?_ (by assumption))); first | done | fail))) (by rfl) (by first | assumption | (intro e; simp_all; done)) rfl ?_)
         | refine LQ_assign rfl rfl ?_
         | refine LQ_do rfl rfl rfl (fun _ _ => do_pick_true rfl rfl) ?_
         | refine LQ_do rfl rfl rfl (fun _ _ => do_pick_false rfl rfl) ?_
         | refine LQ_do rfl rfl rfl (fun _ _ => do_notDec rfl) ?_
         | refine LQ_do rfl rfl rfl (fun _ _ => do_not rfl) ?_
         | refine LQ_do rfl rfl rfl (fun _ _ => do_extract rfl rfl) ?_
         | refine LQ_do rfl rfl rfl (fun _ _ => do_fieldAddr rfl) ?_
         | refine LQ_do rfl rfl rfl (fun _ _ => do_buildS rfl (by kernel_rfl)) ?_
         | refine LQ_indexL rfl rfl (by (first | assumption | exact RdL.ext (by assumption) (by (repeat (first | assumption | refine below_step ?_ (by assumption))); first | done | fail) | exact OwL.rd (by assumption))) (by rfl) (by omega) (by omega) rfl (fun a y hy hab hp => ?_))
    | (apply isW
       first
         | apply W_seq
         | apply W_region
         | refine W_region_Q mixed (by kernel_rfl) ?_
         | refine W_cond_dec rfl (fun hg => ?_) (fun hg => ?_)
         | refine W_cond_true rfl ?_
         | refine W_cond_false rfl ?_
         | refine W_cond rfl (fun hg => ?_) (fun hg => ?_)
         | apply W_skip
         | apply W_ret
         | apply W_exit
         | apply W_block)
    | (apply isLM
       first
         | apply LM_nil
         | refine LM_look rfl rfl ?_
         | refine LM_act rfl ?_
         | refine LM_both rfl rfl ?_ ?_
         | refine LM_do rfl rfl rfl rfl (fun _ _ => do_nilCheck rfl) ?_)
    | (apply isAt
       first
         | apply At_then
         | apply At_then_ret
         | apply At_then_exit
         | apply At_block_normal
         | apply At_block_ret
         | apply At_block_hit
         | refine At_block_miss rfl ?_
         | refine At_end1 rfl rfl ?_
         | refine At_end1n rfl rfl ?_
         | refine At_end2 rfl rfl rfl ?_
         | refine At_mix (by (repeat (first | assumption | exact Below.refl _ _ | refine below_step ?_ (by assumption) | exact World.grownBy.refl _ _ | refine kp_below ?_ (by assumption) | refine kp_row ?_ (by assumption))); first | done | fail) ?_))
  refine W_loopF (fun m fr w' => ∃ k : Nat, m = xs.length - k ∧ k ≤ xs.length ∧ fr = [(0, v), (3, .int .i64 k)] ∧ Below w.heap.size w w' ∧ bytesOk (xs.take k) = true) xs.length
    [(0, v), (3, .int .i64 0)] (by repeat (first | exact get_nil_slots _ | refine get_cons_slots rfl ?_)) ⟨0, rfl, Nat.zero_le _, rfl, (by (repeat (first | assumption | exact Below.refl _ _ | refine below_step ?_ (by assumption))); first | done | fail), rfl⟩ ?_
  rintro _ _ w' ⟨k, rfl, hk, rfl, hB, hf⟩
  repeat' (first
    | (apply isL
       first
         | apply L_nil
         | refine L_move rfl rfl ?_
         | (apply isGuarded
            first
              | refine L_guard_dec rfl rfl (fun hg => ?_) (fun hg => ?_)
              | refine L_guard_yes rfl rfl ?_
              | refine L_guard_no rfl rfl rfl rfl ?_
              | refine L_guard_undef rfl rfl rfl ?_
              | refine L_guard_split rfl rfl (fun hg => ?_) (fun hg => ?_))
         | (apply isCall
            first
              | refine L_lenL rfl (by (first | assumption | exact RdL.ext (by assumption) (by (repeat (first | assumption | refine below_step ?_ (by assumption))); first | done | fail) | exact OwL.rd (by assumption))) rfl (fun hlen => ?_)
              | refine L_do rfl rfl rfl (do_lenStr rfl) ?_
              | refine L_callV rfl rfl c_l6In (fun w2 hB2 => ?_)
              )
         | (apply isBin
            first
              | refine L_do rfl rfl rfl (do_cmp rfl rfl rfl) ?_
              | refine L_do rfl rfl rfl (do_cmpStr rfl rfl rfl) ?_
              | refine L_do rfl rfl rfl (do_add rfl rfl (by omega)) ?_
              | refine L_do rfl rfl rfl (do_sub rfl rfl (by omega)) ?_
              | refine L_do rfl rfl rfl (do_eqBool TBool.und rfl rfl) ?_
              | refine L_do rfl rfl rfl (do_neBool TBool.und rfl rfl) ?_
              )
         | (apply isLoad
            first
              | refine L_loadPt rfl (by rfl) (by (first | assumption | exact Pt.ext (by assumption) (by (repeat (first | assumption | refine below_step ?_ (by assumption))); first | done | fail))) (by rfl) rfl ?_
              | refine L_loadPt0 rfl (by (first | assumption | exact Pt.ext (by assumption) (by (repeat (first | assumption | refine below_step ?_ (by assumption))); first | done | fail))) (by rfl) rfl ?_
              | refine L_loadAgg rfl (by (first | assumption | exact Pt.ext (by assumption) (by (repeat (first | assumption | refine below_step ?_ (by assumption))); first | done | fail))) (by rfl) rfl ?_)
         | refine L_assign rfl rfl ?_
         | refine L_do rfl rfl rfl (do_pick_true rfl rfl) ?_
         | refine L_do rfl rfl rfl (do_pick_false rfl rfl) ?_
         | refine L_do rfl rfl rfl (do_notDec rfl) ?_
         | refine L_do rfl rfl rfl (do_not rfl) ?_
         | refine L_do rfl rfl rfl (do_extract rfl rfl) ?_
         | refine L_do rfl rfl rfl (do_fieldAddr rfl) ?_
         | refine L_indexL rfl rfl (by (first | assumption | exact RdL.ext (by assumption) (by (repeat (first | assumption | refine below_step ?_ (by assumption))); first | done | fail) | exact OwL.rd (by assumption))) (by rfl) (by omega) (by omega) rfl (fun a y hy hab hp => ?_)
         | (apply isBox; refine L_boxV (w0 := w) (by (repeat (first | assumption | exact Below.refl _ _ | refine below_step ?_ (by assumption))); first | done | fail) rfl rfl (fun w1 hz1 hB hB1 hv => ?_); have hp := pt_of_block hv)
         | (apply isAllocStore; refine L_allocStoreV (w0 := w) (by (repeat (first | assumption | exact Below.refl _ _ | refine below_step ?_ (by assumption))); first | done | fail) rfl rfl rfl rfl ?_ rfl (fun w1 hz1 hB hB1 hv => ?_); (focus (first | exact Ty.one _ _ | simp [Value.oneCell'])); have hp := pt_of_block hv)
         )
    | (apply isLQ
       first
         | refine LQ_nil (fun w1 hBq => ?_)
         | apply LQ_mix
         | refine LQ_move rfl rfl ?_
         | (apply isGuardedQ
            first
              | refine LQ_guard_dec rfl rfl (fun hg => ?_) (fun hg => ?_)
              | refine LQ_guard_yes rfl rfl ?_
              | refine LQ_guard_no rfl rfl rfl rfl ?_
              | refine LQ_guard_undef rfl rfl rfl ?_
              | refine LQ_guard_split rfl rfl (fun hg => ?_) (fun hg => ?_))
         | (apply isCallQ
            first
              | refine LQ_lenL rfl (by (first | assumption | exact RdL.ext (by assumption) (by (repeat (first | assumption | refine below_step ?_ (by assumption))); first | done | fail) | exact OwL.rd (by assumption))) rfl (fun hlen => ?_)
              | refine LQ_do rfl rfl rfl (fun _ _ => do_lenStr rfl) ?_
              )
         | (apply isBinQ
            first
              | refine LQ_do rfl rfl rfl (fun _ _ => do_cmp rfl rfl rfl) ?_
              | refine LQ_do rfl rfl rfl (fun _ _ => do_cmpStr rfl rfl rfl) ?_
              | refine LQ_do rfl rfl rfl (fun _ _ => do_add rfl rfl (by omega)) ?_
              | refine LQ_do rfl rfl rfl (fun _ _ => do_sub rfl rfl (by omega)) ?_
              | refine LQ_do rfl rfl rfl (fun _ _ => do_eqBool TBool.und rfl rfl) ?_
              | refine LQ_do rfl rfl rfl (fun _ _ => do_neBool TBool.und rfl rfl) ?_
              )
         | (apply isLoadQ
            first
              | refine LQ_loadPt rfl (by rfl) (by (first | assumption | exact Pt.ext (by assumption) (by (repeat (first | assumption | refine below_step ?_ (by assumption))); first | done | fail))) (by rfl) rfl ?_
              | refine LQ_loadPt0 rfl (by (first | assumption | exact Pt.ext (by assumption) (by (repeat (first | assumption | refine below_step ?_ (by assumption))); first | done | fail))) (by rfl) rfl ?_
              | refine LQ_loadAgg rfl (by (first | assumption | exact Pt.ext (by assumption) (by (repeat (first | assumption | refine below_step ?_ (by assumption))); first | done | fail))) (by rfl) rfl ?_
              | refine RLQ_loadPt rfl (by rfl) (by (first | assumption | exact Pt.ext (by assumption) (by (repeat (first | assumption | refine below_step ?_ (by assumption))); first | done | fail))) (by rfl) (by first | assumption | (intro e; simp_all; done)) rfl ?_
              | refine RLQ_loadPt0 rfl (by (first | assumption | exact Pt.ext (by assumption) (by (repeat (first | assumption | refine below_step ?_ (by assumption))); first | done | fail))) (by rfl) (by first | assumption | (intro e; simp_all; done)) rfl ?_
              | refine RLQ_loadAgg rfl (by (first | assumption | exact Pt.ext (by assumption) (by (repeat (first | assumption | refine below_step ?_ (by assumption))); first | done | fail))) (by rfl) (by first | assumption | (intro e; simp_all; done)) rfl ?_)
         | refine LQ_assign rfl rfl ?_
         | refine LQ_do rfl rfl rfl (fun _ _ => do_pick_true rfl rfl) ?_
         | refine LQ_do rfl rfl rfl (fun _ _ => do_pick_false rfl rfl) ?_
         | refine LQ_do rfl rfl rfl (fun _ _ => do_notDec rfl) ?_
         | refine LQ_do rfl rfl rfl (fun _ _ => do_not rfl) ?_
         | refine LQ_do rfl rfl rfl (fun _ _ => do_extract rfl rfl) ?_
         | refine LQ_do rfl rfl rfl (fun _ _ => do_fieldAddr rfl) ?_
         | refine LQ_do rfl rfl rfl (fun _ _ => do_buildS rfl (by kernel_rfl)) ?_
         | refine LQ_indexL rfl rfl (by (first | assumption | exact RdL.ext (by assumption) (by (repeat (first | assumption | refine below_step ?_ (by assumption))); first | done | fail) | exact OwL.rd (by assumption))) (by rfl) (by omega) (by omega) rfl (fun a y hy hab hp => ?_))
    | (apply isW
       first
         | apply W_seq
         | apply W_region
         | refine W_region_Q mixed (by kernel_rfl) ?_
         | refine W_cond_dec rfl (fun hg => ?_) (fun hg => ?_)
         | refine W_cond_true rfl ?_
         | refine W_cond_false rfl ?_
         | refine W_cond rfl (fun hg => ?_) (fun hg => ?_)
         | apply W_skip
         | apply W_ret
         | apply W_exit
         | apply W_block)
    | (apply isLM
       first
         | apply LM_nil
         | refine LM_look rfl rfl ?_
         | refine LM_act rfl ?_
         | refine LM_both rfl rfl ?_ ?_
         | refine LM_do rfl rfl rfl rfl (fun _ _ => do_nilCheck rfl) ?_)
    | (apply isAt
       first
         | apply At_then
         | apply At_then_ret
         | apply At_then_exit
         | apply At_block_normal
         | apply At_block_ret
         | apply At_block_hit
         | refine At_block_miss rfl ?_
         | refine At_end1 rfl rfl ?_
         | refine At_end1n rfl rfl ?_
         | refine At_end2 rfl rfl rfl ?_
         | refine At_mix (by (repeat (first | assumption | exact Below.refl _ _ | refine below_step ?_ (by assumption) | exact World.grownBy.refl _ _ | refine kp_below ?_ (by assumption) | refine kp_row ?_ (by assumption))); first | done | fail) ?_))
  · have hs := bytesOk_step hf hy
    rw [decide_eq_false hg] at hs
    exact ⟨by rw [bytesOk_bad hs], (by (repeat (first | assumption | exact Below.refl _ _ | refine below_step ?_ (by assumption))); first | done | fail)⟩
  · have hs := bytesOk_step hf hy
    rw [decide_eq_true (Classical.not_not.1 hg)] at hs
    exact At_round _ [(0, v), (3, .int .i64 ((k + 1 : Nat) : Int))] (by repeat (first | exact get_nil_slots _ | refine get_cons_slots rfl ?_)) (by omega) ⟨k + 1, rfl, by omega, rfl, (by (repeat (first | assumption | exact Below.refl _ _ | refine below_step ?_ (by assumption))); first | done | fail), hs⟩
  · rw [List.take_of_length_le (by omega)] at hf
    exact ⟨by rw [hf], hB⟩

end Go.Proofs.Ytomhhfeakpompaa
