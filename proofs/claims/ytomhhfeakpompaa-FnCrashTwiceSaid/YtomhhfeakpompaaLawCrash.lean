/-
  The laws FnCrash and FnCrashTwice: for all inputs the call returns true.
-/
import Derived.Test.YtomhhfeakpompaaCrash3
namespace Go.Proofs.Ytomhhfeakpompaa
open Go Go.RowKit
set_option linter.unusedVariables false

/-! ### The plain laws -/
theorem crashBl_again (k1 k2 : List Int) (b : Bl) : crashBl k2 (crashBl k1 b) = crashBl k1 b := by
  simp [crashBl]
theorem bytesOk_append (xs ys : List Int) : bytesOk (xs ++ ys) = (bytesOk xs && bytesOk ys) := by unfold bytesOk; exact List.all_append
theorem bytesOk_take {xs : List Int} (h : bytesOk xs = true) (n : Nat) : bytesOk (xs.take n) = true := by
  unfold bytesOk at *
  exact List.all_eq_true.2 (fun x hx => List.all_eq_true.1 h x (List.mem_of_mem_take hx))
theorem crashBl_ok {keep : List Int} {b : Bl} (h : blOk b = true) : blOk (crashBl keep b) = true := by
  simp only [blOk, Bool.and_eq_true, decide_eq_true_eq] at h ⊢
  refine ⟨⟨?_, rfl⟩, ?_⟩
  · rw [crashBl, bytesOk_append, h.1.1, bytesOk_take h.1.2]; rfl
  · simp only [crashBl, List.length_append, List.length_take, List.length_nil]; omega
theorem diskFrom_crash (keep : List Int) : ∀ (bs : List Bl) (l : Int), diskFrom l bs = true → diskFrom l (bs.map (crashBl keep)) = true
  | [], _, _ => rfl
  | b :: r, l, h => by
    simp only [diskFrom, Bool.and_eq_true, List.map_cons] at h ⊢
    exact ⟨⟨h.1.1, crashBl_ok h.1.2⟩, diskFrom_crash keep r b.name h.2⟩
theorem crashOk_parts {bs : List Bl} {keep : List Int} (h : crashOk bs keep = true) : diskFrom 0 bs = true ∧ keep.length ≤ 3 ∧ keep.all keepOk = true := by
  simp only [crashOk, diskOk, Bool.and_eq_true, decide_eq_true_eq] at h
  exact ⟨h.1.1, h.1.2, h.2⟩
theorem crash_disk {bs : List Bl} {keep : List Int} (h : crashOk bs keep = true) : diskOk (crash bs keep) = true := by
  rw [crash, h]; exact diskFrom_crash keep bs 0 (crashOk_parts h).1
theorem crashOk_again {bs : List Bl} {keep k2 : List Int} (h : crashOk bs keep = true) (h2 : k2.length ≤ 3) (h3 : k2.all keepOk = true) : crashOk (crash bs keep) k2 = true := by
  rw [crashOk, crash_disk h, h3, decide_eq_true h2]; rfl
theorem crash_again {bs : List Bl} {keep k2 : List Int} (h : crashOk bs keep = true) (h2 : k2.length ≤ 3) (h3 : k2.all keepOk = true) : crash (crash bs keep) k2 = crash bs keep := by
  rw [crash, crashOk_again h h2 h3, if_pos rfl, crash, h, if_pos rfl, List.map_map]
  apply List.map_congr_left
  intro b _
  exact crashBl_again keep k2 b
theorem crash_small {bs : List Bl} {keep : List Int} {n : Nat} (h : Few n bs) (hn : n ≤ 100000) : Small (crash bs keep) := by
  unfold crash
  split
  · refine ⟨by simp; have := h.1; omega, fun b hb => ?_⟩
    obtain ⟨c, hc, rfl⟩ := List.mem_map.1 hb
    have := h.2 c hc
    simp only [crashBl, List.length_append, List.length_take, List.length_nil]
    omega
  · exact ⟨by simp, fun b hb => by simp at hb⟩

theorem c_sameDisk_self {v v2 : Value} {rows rows2 : List Row3} {bs : List Bl} {w : World} (h : RdBl w v rows bs) (h2 : RdBl w v2 rows2 bs) : Cl Try.prog 23 [v, v2] w (V w (.bool true)) := by
  have := c_sameDisk h h2
  rwa [decide_eq_true rfl] at this

theorem c_FnCrashTwice {v : Value} {cs : List UInt8} {w : World} (h : RdL tU8 w v cs) : Cl Try.prog 7 [v] w (V w (.bool true)) := by
  refine calls_start 80 Try.func7 rfl rfl rfl ?_
  repeat' (first
    | (apply isL
       first
         | apply L_nil
         | refine L_move rfl rfl ?_
         | (apply isGuarded
            first
              | refine L_guard_dec rfl rfl (fun hg => ?_) (fun hg => ?_)
              | refine L_guard_yes rfl rfl ?_
              | refine L_guard_no rfl rfl rfl rfl ?_
              | refine L_guard_undef rfl rfl rfl ?_
              | refine L_guard_split rfl rfl (fun hg => ?_) (fun hg => ?_))
         | (apply isCall
            first
              | refine L_lenL rfl (by (first | assumption | exact RdL.ext (by assumption) (by (repeat (first | assumption | refine below_step ?_ (by assumption))); first | done | fail) | exact OwL.rd (by assumption))) rfl (fun hlen => ?_)
              | refine L_do rfl rfl rfl (do_lenStr rfl) ?_
              | (refine L_call rfl rfl (c_DrawDiskCrash h) (fun _ w2 hR => ?_); obtain ⟨x, y, rows, bs, keep, rfl, hbl, hkp, hF, hkl, hB2⟩ := hR; have hsm := hF.small (by omega); have hcs : Small (crash bs keep) := crash_small hF (by omega); cases hok : crashOk bs keep)
              | (refine L_call rfl rfl (c_implDiskCrash hbl hsm hkp) (fun _ w3 hR => ?_); obtain ⟨x3, rows3, rfl, hbl3, hB3⟩ := hR; rw [hok])
              | (refine L_call rfl rfl (c_specDiskCrash (hbl.ext (by (repeat (first | assumption | exact Below.refl _ _ | refine below_step ?_ (by assumption))); first | done | fail)) hsm (hkp.ext (by (repeat (first | assumption | exact Below.refl _ _ | refine below_step ?_ (by assumption))); first | done | fail))) (fun _ w4 hR => ?_); obtain ⟨x4, rows4, rfl, hbl4, hB4⟩ := hR; rw [hok])
              | (refine L_callV rfl rfl (c_sameDisk_self (hbl3.ext (by (repeat (first | assumption | exact Below.refl _ _ | refine below_step ?_ (by assumption))); first | done | fail)) (hbl4.ext (by (repeat (first | assumption | exact Below.refl _ _ | refine below_step ?_ (by assumption))); first | done | fail))) (fun w5 hB5 => ?_))
              | (refine L_callV rfl rfl (c_sameDisk_self (hbl3.ext (by (repeat (first | assumption | exact Below.refl _ _ | refine below_step ?_ (by assumption))); first | done | fail)) hbl4) (fun w5 hB5 => ?_))
              | (have hp := crashOk_parts hok; refine L_call rfl rfl (c_implDiskCrash (hbl3.ext (by (repeat (first | assumption | exact Below.refl _ _ | refine below_step ?_ (by assumption))); first | done | fail)) hcs (hkp.ext (by (repeat (first | assumption | exact Below.refl _ _ | refine below_step ?_ (by assumption))); first | done | fail))) (fun _ w6 hR => ?_); obtain ⟨x6, rows6, rfl, hbl6, hB6⟩ := hR; rw [crashOk_again hok hp.2.1 hp.2.2]; rw [crash_again hok hp.2.1 hp.2.2] at hbl6)
              | (refine L_call rfl rfl (c_implDiskCrash (hbl3.ext (by (repeat (first | assumption | exact Below.refl _ _ | refine below_step ?_ (by assumption))); first | done | fail)) hcs hO7.rd) (fun _ w8 hR => ?_); obtain ⟨x8, rows8, rfl, hbl8, hB8⟩ := hR; rw [crashOk_again (k2 := []) hok (by simp) rfl]; rw [crash_again (k2 := []) hok (by simp) rfl] at hbl8)
              | (refine L_callV rfl rfl (c_sameDisk_self (hbl6.ext (by (repeat (first | assumption | exact Below.refl _ _ | refine below_step ?_ (by assumption))); first | done | fail)) (hbl3.ext (by (repeat (first | assumption | exact Below.refl _ _ | refine below_step ?_ (by assumption))); first | done | fail))) (fun w5 hB5 => ?_))
              | (refine L_callV rfl rfl (c_sameDisk_self (hbl8.ext (by (repeat (first | assumption | exact Below.refl _ _ | refine below_step ?_ (by assumption))); first | done | fail)) (hbl3.ext (by (repeat (first | assumption | exact Below.refl _ _ | refine below_step ?_ (by assumption))); first | done | fail))) (fun w5 hB5 => ?_))
              )
         | (apply isBin
            first
              | refine L_do rfl rfl rfl (do_cmp rfl rfl rfl) ?_
              | refine L_do rfl rfl rfl (do_cmpStr rfl rfl rfl) ?_
              | refine L_do rfl rfl rfl (do_add rfl rfl (by omega)) ?_
              | refine L_do rfl rfl rfl (do_sub rfl rfl (by omega)) ?_
              | refine L_do rfl rfl rfl (do_eqBool TBool.und rfl rfl) ?_
              | refine L_do rfl rfl rfl (do_neBool TBool.und rfl rfl) ?_
              )
         | (apply isLoad
            first
              | refine L_loadPt rfl (by rfl) (by (first | assumption | exact Pt.ext (by assumption) (by (repeat (first | assumption | refine below_step ?_ (by assumption))); first | done | fail))) (by rfl) rfl ?_
              | refine L_loadPt0 rfl (by (first | assumption | exact Pt.ext (by assumption) (by (repeat (first | assumption | refine below_step ?_ (by assumption))); first | done | fail))) (by rfl) rfl ?_
              | refine L_loadAgg rfl (by (first | assumption | exact Pt.ext (by assumption) (by (repeat (first | assumption | refine below_step ?_ (by assumption))); first | done | fail))) (by rfl) rfl ?_)
         | refine L_assign rfl rfl ?_
         | refine L_do rfl rfl rfl (do_pick_true rfl rfl) ?_
         | refine L_do rfl rfl rfl (do_pick_false rfl rfl) ?_
         | refine L_do rfl rfl rfl (do_notDec rfl) ?_
         | refine L_do rfl rfl rfl (do_not rfl) ?_
         | refine L_do rfl rfl rfl (do_extract rfl rfl) ?_
         | refine L_do rfl rfl rfl (do_fieldAddr rfl) ?_
         | refine L_buildSlice0 (w0 := w) tInt (by (repeat (first | assumption | exact Below.refl _ _ | refine below_step ?_ (by assumption))); first | done | fail) rfl (fun w7 hO7 hB7 hC7 => ?_)
         | refine L_indexL rfl rfl (by (first | assumption | exact RdL.ext (by assumption) (by (repeat (first | assumption | refine below_step ?_ (by assumption))); first | done | fail) | exact OwL.rd (by assumption))) (by rfl) (by omega) (by omega) rfl (fun a y hy hab hp => ?_)
         | (apply isBox; refine L_boxV (w0 := w) (by (repeat (first | assumption | exact Below.refl _ _ | refine below_step ?_ (by assumption))); first | done | fail) rfl rfl (fun w1 hz1 hB hB1 hv => ?_); have hp := pt_of_block hv)
         | (apply isAllocStore; refine L_allocStoreV (w0 := w) (by (repeat (first | assumption | exact Below.refl _ _ | refine below_step ?_ (by assumption))); first | done | fail) rfl rfl rfl rfl ?_ rfl (fun w1 hz1 hB hB1 hv => ?_); (focus (first | exact Ty.one _ _ | simp [Value.oneCell'])); have hp := pt_of_block hv)
         )
    | (apply isLQ
       first
         | refine LQ_nil (fun w1 hBq => ?_)
         | apply LQ_mix
         | refine LQ_move rfl rfl ?_
         | (apply isGuardedQ
            first
              | refine LQ_guard_dec rfl rfl (fun hg => ?_) (fun hg => ?_)
              | refine LQ_guard_yes rfl rfl ?_
              | refine LQ_guard_no rfl rfl rfl rfl ?_
              | refine LQ_guard_undef rfl rfl rfl ?_
              | refine LQ_guard_split rfl rfl (fun hg => ?_) (fun hg => ?_))
         | (apply isCallQ
            first
              | refine LQ_lenL rfl (by (first | assumption | exact RdL.ext (by assumption) (by (repeat (first | assumption | refine below_step ?_ (by assumption))); first | done | fail) | exact OwL.rd (by assumption))) rfl (fun hlen => ?_)
              | refine LQ_do rfl rfl rfl (fun _ _ => do_lenStr rfl) ?_
              )
         | (apply isBinQ
            first
              | refine LQ_do rfl rfl rfl (fun _ _ => do_cmp rfl rfl rfl) ?_
              | refine LQ_do rfl rfl rfl (fun _ _ => do_cmpStr rfl rfl rfl) ?_
              | refine LQ_do rfl rfl rfl (fun _ _ => do_add rfl rfl (by omega)) ?_
              | refine LQ_do rfl rfl rfl (fun _ _ => do_sub rfl rfl (by omega)) ?_
              | refine LQ_do rfl rfl rfl (fun _ _ => do_eqBool TBool.und rfl rfl) ?_
              | refine LQ_do rfl rfl rfl (fun _ _ => do_neBool TBool.und rfl rfl) ?_
              )
         | (apply isLoadQ
            first
              | refine LQ_loadPt rfl (by rfl) (by (first | assumption | exact Pt.ext (by assumption) (by (repeat (first | assumption | refine below_step ?_ (by assumption))); first | done | fail))) (by rfl) rfl ?_
              | refine LQ_loadPt0 rfl (by (first | assumption | exact Pt.ext (by assumption) (by (repeat (first | assumption | refine below_step ?_ (by assumption))); first | done | fail))) (by rfl) rfl ?_
              | refine LQ_loadAgg rfl (by (first | assumption | exact Pt.ext (by assumption) (by (repeat (first | assumption | refine below_step ?_ (by assumption))); first | done | fail))) (by rfl) rfl ?_
              | refine RLQ_loadPt rfl (by rfl) (by (first | assumption | exact Pt.ext (by assumption) (by (repeat (first | assumption | refine below_step ?_ (by assumption))); first | done | fail))) (by rfl) (by first | assumption | (intro e; simp_all; done)) rfl ?_
              | refine RLQ_loadPt0 rfl (by (first | assumption | exact Pt.ext (by assumption) (by (repeat (first | assumption | refine below_step ?_ (by assumption))); first | done | fail))) (by rfl) (by first | assumption | (intro e; simp_all; done)) rfl ?_
              | refine RLQ_loadAgg rfl (by (first | assumption | exact Pt.ext (by assumption) (by (repeat (first | assumption | refine below_step ?_ (by assumption))); first | done | fail))) (by rfl) (by first | assumption | (intro e; simp_all; done)) rfl ?_)
         | refine LQ_assign rfl rfl ?_
         | refine LQ_do rfl rfl rfl (fun _ _ => do_pick_true rfl rfl) ?_
         | refine LQ_do rfl rfl rfl (fun _ _ => do_pick_false rfl rfl) ?_
         | refine LQ_do rfl rfl rfl (fun _ _ => do_notDec rfl) ?_
         | refine LQ_do rfl rfl rfl (fun _ _ => do_not rfl) ?_
         | refine LQ_do rfl rfl rfl (fun _ _ => do_extract rfl rfl) ?_
         | refine LQ_do rfl rfl rfl (fun _ _ => do_fieldAddr rfl) ?_
         | refine LQ_do rfl rfl rfl (fun _ _ => do_buildS rfl (by kernel_rfl)) ?_
         | refine LQ_indexL rfl rfl (by (first | assumption | exact RdL.ext (by assumption) (by (repeat (first | assumption | refine below_step ?_ (by assumption))); first | done | fail) | exact OwL.rd (by assumption))) (by rfl) (by omega) (by omega) rfl (fun a y hy hab hp => ?_))
    | (apply isW
       first
         | apply W_seq
         | apply W_region
         | refine W_region_Q mixed (by kernel_rfl) ?_
         | refine W_cond_dec rfl (fun hg => ?_) (fun hg => ?_)
         | refine W_cond_true rfl ?_
         | refine W_cond_false rfl ?_
         | refine W_cond rfl (fun hg => ?_) (fun hg => ?_)
         | apply W_skip
         | apply W_ret
         | apply W_exit
         | apply W_block)
    | (apply isLM
       first
         | apply LM_nil
         | refine LM_look rfl rfl ?_
         | refine LM_act rfl ?_
         | refine LM_both rfl rfl ?_ ?_
         | refine LM_do rfl rfl rfl rfl (fun _ _ => do_nilCheck rfl) ?_)
    | (apply isAt
       first
         | apply At_then
         | apply At_then_ret
         | apply At_then_exit
         | apply At_block_normal
         | apply At_block_ret
         | apply At_block_hit
         | refine At_block_miss rfl ?_
         | refine At_end1 rfl rfl ?_
         | refine At_end1n rfl rfl ?_
         | refine At_end2 rfl rfl rfl ?_
         | refine At_mix (by (repeat (first | assumption | exact Below.refl _ _ | refine below_step ?_ (by assumption) | exact World.grownBy.refl _ _ | refine kp_below ?_ (by assumption) | refine kp_row ?_ (by assumption))); first | done | fail) ?_))
  all_goals first | exact ⟨rfl, (by (repeat (first | assumption | exact Below.refl _ _ | refine below_step ?_ (by assumption))); first | done | fail)⟩ | (exfalso; simp at hg)

theorem c_FnCrash {v : Value} {cs : List UInt8} {w : World} (h : RdL tU8 w v cs) : Cl Try.prog 6 [v] w (V w (.bool true)) := by
  refine calls_start 141 Try.func6 rfl rfl rfl ?_
  repeat' (first
    | (apply isL
       first
         | apply L_nil
         | refine L_move rfl rfl ?_
         | (apply isGuarded
            first
              | refine L_guard_dec rfl rfl (fun hg => ?_) (fun hg => ?_)
              | refine L_guard_yes rfl rfl ?_
              | refine L_guard_no rfl rfl rfl rfl ?_
              | refine L_guard_undef rfl rfl rfl ?_
              | refine L_guard_split rfl rfl (fun hg => ?_) (fun hg => ?_))
         | (apply isCall
            first
              | refine L_lenL rfl (by (first | assumption | exact RdL.ext (by assumption) (by (repeat (first | assumption | refine below_step ?_ (by assumption))); first | done | fail) | exact OwL.rd (by assumption))) rfl (fun hlen => ?_)
              | refine L_do rfl rfl rfl (do_lenStr rfl) ?_
              | (refine L_call rfl rfl (c_DrawDiskCrash h) (fun _ w2 hR => ?_); obtain ⟨x, ky, rows, bs, keep, rfl, hbl, hkp, hF, hkl, hB2⟩ := hR; have hsm := hF.small (by omega); have hcs : Small (crash bs keep) := crash_small hF (by omega); cases hok : crashOk bs keep)
              | (refine L_call rfl rfl (c_implDiskCrash hbl hsm hkp) (fun _ w3 hR => ?_); obtain ⟨x3, rows3, rfl, hbl3, hB3⟩ := hR; rw [hok])
              | (refine L_call rfl rfl (c_specDiskCrash (hbl.ext (by (repeat (first | assumption | exact Below.refl _ _ | refine below_step ?_ (by assumption))); first | done | fail)) hsm (hkp.ext (by (repeat (first | assumption | exact Below.refl _ _ | refine below_step ?_ (by assumption))); first | done | fail))) (fun _ w4 hR => ?_); obtain ⟨x4, rows4, rfl, hbl4, hB4⟩ := hR; rw [hok])
              | (refine L_callV rfl rfl (c_sameDisk_self (hbl3.ext (by (repeat (first | assumption | exact Below.refl _ _ | refine below_step ?_ (by assumption))); first | done | fail)) hbl4) (fun w5 hB5 => ?_))
              | (refine L_callV rfl rfl (c_sameDisk_self (hbl3.ext (by (repeat (first | assumption | exact Below.refl _ _ | refine below_step ?_ (by assumption))); first | done | fail)) (hbl4.ext (by (repeat (first | assumption | exact Below.refl _ _ | refine below_step ?_ (by assumption))); first | done | fail))) (fun w5 hB5 => ?_))
              )
         | (apply isBin
            first
              | refine L_do rfl rfl rfl (do_cmp rfl rfl rfl) ?_
              | refine L_do rfl rfl rfl (do_cmpStr rfl rfl rfl) ?_
              | refine L_do rfl rfl rfl (do_add rfl rfl (by omega)) ?_
              | refine L_do rfl rfl rfl (do_sub rfl rfl (by omega)) ?_
              | refine L_do rfl rfl rfl (do_eqBool TBool.und rfl rfl) ?_
              | refine L_do rfl rfl rfl (do_neBool TBool.und rfl rfl) ?_
              )
         | (apply isLoad
            first
              | refine L_loadPt rfl (by rfl) (by (first | assumption | exact Pt.ext (by assumption) (by (repeat (first | assumption | refine below_step ?_ (by assumption))); first | done | fail))) (by rfl) rfl ?_
              | refine L_loadPt0 rfl (by (first | assumption | exact Pt.ext (by assumption) (by (repeat (first | assumption | refine below_step ?_ (by assumption))); first | done | fail))) (by rfl) rfl ?_
              | refine L_loadAgg rfl (by (first | assumption | exact Pt.ext (by assumption) (by (repeat (first | assumption | refine below_step ?_ (by assumption))); first | done | fail))) (by rfl) rfl ?_)
         | refine L_assign rfl rfl ?_
         | refine L_do rfl rfl rfl (do_pick_true rfl rfl) ?_
         | refine L_do rfl rfl rfl (do_pick_false rfl rfl) ?_
         | refine L_do rfl rfl rfl (do_notDec rfl) ?_
         | refine L_do rfl rfl rfl (do_not rfl) ?_
         | refine L_do rfl rfl rfl (do_extract rfl rfl) ?_
         | refine L_do rfl rfl rfl (do_fieldAddr rfl) ?_
         | refine L_indexL rfl rfl (by (first | assumption | exact RdL.ext (by assumption) (by (repeat (first | assumption | refine below_step ?_ (by assumption))); first | done | fail) | exact OwL.rd (by assumption))) (by rfl) (by omega) (by omega) rfl (fun a y hy hab hp => ?_)
         | (apply isBox; refine L_boxV (w0 := w) (by (repeat (first | assumption | exact Below.refl _ _ | refine below_step ?_ (by assumption))); first | done | fail) rfl rfl (fun w1 hz1 hB hB1 hv => ?_); have hp := pt_of_block hv)
         | (apply isAllocStore; refine L_allocStoreV (w0 := w) (by (repeat (first | assumption | exact Below.refl _ _ | refine below_step ?_ (by assumption))); first | done | fail) rfl rfl rfl rfl ?_ rfl (fun w1 hz1 hB hB1 hv => ?_); (focus (first | exact Ty.one _ _ | simp [Value.oneCell'])); have hp := pt_of_block hv)
         )
    | (apply isLQ
       first
         | refine LQ_nil (fun w1 hBq => ?_)
         | apply LQ_mix
         | refine LQ_move rfl rfl ?_
         | (apply isGuardedQ
            first
              | refine LQ_guard_dec rfl rfl (fun hg => ?_) (fun hg => ?_)
              | refine LQ_guard_yes rfl rfl ?_
              | refine LQ_guard_no rfl rfl rfl rfl ?_
              | refine LQ_guard_undef rfl rfl rfl ?_
              | refine LQ_guard_split rfl rfl (fun hg => ?_) (fun hg => ?_))
         | (apply isCallQ
            first
              | refine LQ_lenL rfl (by (first | assumption | exact RdL.ext (by assumption) (by (repeat (first | assumption | refine below_step ?_ (by assumption))); first | done | fail) | exact OwL.rd (by assumption))) rfl (fun hlen => ?_)
              | refine LQ_do rfl rfl rfl (fun _ _ => do_lenStr rfl) ?_
              )
         | (apply isBinQ
            first
              | refine LQ_do rfl rfl rfl (fun _ _ => do_cmp rfl rfl rfl) ?_
              | refine LQ_do rfl rfl rfl (fun _ _ => do_cmpStr rfl rfl rfl) ?_
              | refine LQ_do rfl rfl rfl (fun _ _ => do_add rfl rfl (by omega)) ?_
              | refine LQ_do rfl rfl rfl (fun _ _ => do_sub rfl rfl (by omega)) ?_
              | refine LQ_do rfl rfl rfl (fun _ _ => do_eqBool TBool.und rfl rfl) ?_
              | refine LQ_do rfl rfl rfl (fun _ _ => do_neBool TBool.und rfl rfl) ?_
              )
         | (apply isLoadQ
            first
              | refine LQ_loadPt rfl (by rfl) (by (first | assumption | exact Pt.ext (by assumption) (by (repeat (first | assumption | refine below_step ?_ (by assumption))); first | done | fail))) (by rfl) rfl ?_
              | refine LQ_loadPt0 rfl (by (first | assumption | exact Pt.ext (by assumption) (by (repeat (first | assumption | refine below_step ?_ (by assumption))); first | done | fail))) (by rfl) rfl ?_
              | refine LQ_loadAgg rfl (by (first | assumption | exact Pt.ext (by assumption) (by (repeat (first | assumption | refine below_step ?_ (by assumption))); first | done | fail))) (by rfl) rfl ?_
              | refine RLQ_loadPt rfl (by rfl) (by (first | assumption | exact Pt.ext (by assumption) (by (repeat (first | assumption | refine below_step ?_ (by assumption))); first | done | fail))) (by rfl) (by first | assumption | (intro e; simp_all; done)) rfl ?_
              | refine RLQ_loadPt0 rfl (by (first | assumption | exact Pt.ext (by assumption) (by (repeat (first | assumption | refine below_step ?_ (by assumption))); first | done | fail))) (by rfl) (by first | assumption | (intro e; simp_all; done)) rfl ?_
              | refine RLQ_loadAgg rfl (by (first | assumption | exact Pt.ext (by assumption) (by (repeat (first | assumption | refine below_step ?_ (by assumption))); first | done | fail))) (by rfl) (by first | assumption | (intro e; simp_all; done)) rfl ?_)
         | refine LQ_assign rfl rfl ?_
         | refine LQ_do rfl rfl rfl (fun _ _ => do_pick_true rfl rfl) ?_
         | refine LQ_do rfl rfl rfl (fun _ _ => do_pick_false rfl rfl) ?_
         | refine LQ_do rfl rfl rfl (fun _ _ => do_notDec rfl) ?_
         | refine LQ_do rfl rfl rfl (fun _ _ => do_not rfl) ?_
         | refine LQ_do rfl rfl rfl (fun _ _ => do_extract rfl rfl) ?_
         | refine LQ_do rfl rfl rfl (fun _ _ => do_fieldAddr rfl) ?_
         | refine LQ_do rfl rfl rfl (fun _ _ => do_buildS rfl (by kernel_rfl)) ?_
         | refine LQ_indexL rfl rfl (by (first | assumption | exact RdL.ext (by assumption) (by (repeat (first | assumption | refine below_step ?_ (by assumption))); first | done | fail) | exact OwL.rd (by assumption))) (by rfl) (by omega) (by omega) rfl (fun a y hy hab hp => ?_))
    | (apply isW
       first
         | apply W_seq
         | apply W_region
         | refine W_region_Q mixed (by kernel_rfl) ?_
         | refine W_cond_dec rfl (fun hg => ?_) (fun hg => ?_)
         | refine W_cond_true rfl ?_
         | refine W_cond_false rfl ?_
         | refine W_cond rfl (fun hg => ?_) (fun hg => ?_)
         | apply W_skip
         | apply W_ret
         | apply W_exit
         | apply W_block)
    | (apply isLM
       first
         | apply LM_nil
         | refine LM_look rfl rfl ?_
         | refine LM_act rfl ?_
         | refine LM_both rfl rfl ?_ ?_
         | refine LM_do rfl rfl rfl rfl (fun _ _ => do_nilCheck rfl) ?_)
    | (apply isAt
       first
         | apply At_then
         | apply At_then_ret
         | apply At_then_exit
         | apply At_block_normal
         | apply At_block_ret
         | apply At_block_hit
         | refine At_block_miss rfl ?_
         | refine At_end1 rfl rfl ?_
         | refine At_end1n rfl rfl ?_
         | refine At_end2 rfl rfl rfl ?_
         | refine At_mix (by (repeat (first | assumption | exact Below.refl _ _ | refine below_step ?_ (by assumption) | exact World.grownBy.refl _ _ | refine kp_below ?_ (by assumption) | refine kp_row ?_ (by assumption))); first | done | fail) ?_))
  · exact ⟨rfl, (by (repeat (first | assumption | exact Below.refl _ _ | refine below_step ?_ (by assumption))); first | done | fail)⟩
  · first | exact ⟨rfl, (by (repeat (first | assumption | exact Below.refl _ _ | refine below_step ?_ (by assumption))); first | done | fail)⟩ | (exfalso; simp at hg)
  · exfalso; simp at hg
  have hcp := crashOk_parts hok
  have hcm : crash bs keep = bs.map (crashBl keep) := by rw [crash, hok]; rfl
  have hrd := hbl.rd
  have hln := hbl.len
  have hrd3 := hbl3.rd
  have hln3 := hbl3.len
  rw [hcm, List.length_map] at hln3
  have hsz := hsm.1
  have hB35 : Below w3.heap.size w3 w5 := (by (repeat (first | assumption | exact Below.refl _ _ | refine below_step ?_ (by assumption))); first | done | fail)
  have hB25 : Below w2.heap.size w2 w5 := (by (repeat (first | assumption | exact Below.refl _ _ | refine below_step ?_ (by assumption))); first | done | fail)
  have hB05 : Below w.heap.size w w5 := (by (repeat (first | assumption | exact Below.refl _ _ | refine below_step ?_ (by assumption))); first | done | fail)
  have hdv := c_implDiskValid hbl3 hcs
  clear hB3 hB4 hB5 hbl4
  refine W_loopF (fun m fr w' => ∃ k : Nat, m = bs.length - k ∧ k ≤ bs.length ∧ fr = [(3, x), (4, ky), (5, x3), (9, .int .i64 k)] ∧ Below w5.heap.size w5 w') bs.length
    [(3, x), (4, ky), (5, x3), (9, .int .i64 0)] (by repeat (first | exact get_nil_slots _ | refine get_cons_slots rfl ?_)) ⟨0, rfl, Nat.zero_le _, rfl, Below.refl _ _⟩ ?_
  rintro _ _ w' ⟨k, rfl, hk, rfl, hB⟩
  rcases Nat.lt_or_ge k bs.length with hkl2 | hkl2
  · obtain ⟨r1, hr1⟩ : ∃ r, rows[(k : Int).toNat]? = some r := ⟨_, List.getElem?_eq_getElem (show k < rows.length by omega)⟩
    obtain ⟨r3, hr3⟩ : ∃ r, rows3[(k : Int).toNat]? = some r := ⟨_, List.getElem?_eq_getElem (show k < rows3.length by omega)⟩
    obtain ⟨b, hb, hbr⟩ := hbl.at_ _ _ hr1
    obtain ⟨b3, hb3, hbr3⟩ := hbl3.at_ _ _ hr3
    have hb3' : b3 = crashBl keep b := by
      rw [hcm, List.getElem?_map, hb] at hb3
      exact (Option.some.inj hb3).symm
    subst hb3'
    have hbd := diskFrom_at bs 0 hcp.1 b (List.mem_of_getElem? hb)
    have hfr := hbr.fresh; have hsf := hbr.safe; have hnm := hbr.name; have hnm3 : r3.name = b.name := hbr3.name
    have hf3 : RdL tInt w3 r3.fresh [] := hbr3.fresh
    have hs3 : RdL tInt w3 r3.safe (b.safe ++ b.fresh.take (kOf keep b).toNat) := hbr3.safe
    have hB3' := below_step hB35 hB
    have hB2' := below_step hB25 hB
    repeat' (first
      | (apply isL
         first
           | apply L_nil
           | refine L_move rfl rfl ?_
           | (apply isGuarded
              first
                | refine L_guard_dec rfl rfl (fun hg => ?_) (fun hg => ?_)
                | refine L_guard_yes rfl rfl ?_
                | refine L_guard_no rfl rfl rfl rfl ?_
                | refine L_guard_undef rfl rfl rfl ?_
                | refine L_guard_split rfl rfl (fun hg => ?_) (fun hg => ?_))
           | (apply isCall
              first
                | refine L_lenL rfl (by (first | assumption | exact RdL.ext (by assumption) (by (repeat (first | assumption | refine below_step ?_ (by assumption))); first | done | fail) | exact OwL.rd (by assumption))) rfl (fun hlen => ?_)
                | refine L_do rfl rfl rfl (do_lenStr rfl) ?_
                )
           | (apply isBin
              first
                | refine L_do rfl rfl rfl (do_cmp rfl rfl rfl) ?_
                | refine L_do rfl rfl rfl (do_cmpStr rfl rfl rfl) ?_
                | refine L_do rfl rfl rfl (do_add rfl rfl (by omega)) ?_
                | refine L_do rfl rfl rfl (do_sub rfl rfl (by omega)) ?_
                | refine L_do rfl rfl rfl (do_eqBool TBool.und rfl rfl) ?_
                | refine L_do rfl rfl rfl (do_neBool TBool.und rfl rfl) ?_
                )
           | (apply isLoad
              first
                | refine L_loadPt rfl (by rfl) (by (first | assumption | exact Pt.ext (by assumption) (by (repeat (first | assumption | refine below_step ?_ (by assumption))); first | done | fail))) (by rfl) rfl ?_
                | refine L_loadPt0 rfl (by (first | assumption | exact Pt.ext (by assumption) (by (repeat (first | assumption | refine below_step ?_ (by assumption))); first | done | fail))) (by rfl) rfl ?_
                | refine L_loadAgg rfl (by (first | assumption | exact Pt.ext (by assumption) (by (repeat (first | assumption | refine below_step ?_ (by assumption))); first | done | fail))) (by rfl) rfl ?_)
           | refine L_assign rfl rfl ?_
           | refine L_do rfl rfl rfl (do_pick_true rfl rfl) ?_
           | refine L_do rfl rfl rfl (do_pick_false rfl rfl) ?_
           | refine L_do rfl rfl rfl (do_notDec rfl) ?_
           | refine L_do rfl rfl rfl (do_not rfl) ?_
           | refine L_do rfl rfl rfl (do_extract rfl rfl) ?_
           | refine L_do rfl rfl rfl (do_fieldAddr rfl) ?_
           | (refine L_indexL (T := tRow3) rfl rfl (hrd.ext hB2') rfl (by omega) (by omega) rfl (fun a2 y2 hy2 hab2 hp2 => ?_); obtain rfl := Option.some.inj (hr1.symm.trans hy2))
           | refine L_indexL rfl rfl (by (first | assumption | exact RdL.ext (by assumption) (by (repeat (first | assumption | refine below_step ?_ (by assumption))); first | done | fail) | exact OwL.rd (by assumption))) (by rfl) (by omega) (by omega) rfl (fun a y hy hab hp => ?_)
           | (apply isBox; refine L_boxV (w0 := w) (by (repeat (first | assumption | exact Below.refl _ _ | refine below_step ?_ (by assumption))); first | done | fail) rfl rfl (fun w1 hz1 hB hB1 hv => ?_); have hp := pt_of_block hv)
           | (apply isAllocStore; refine L_allocStoreV (w0 := w) (by (repeat (first | assumption | exact Below.refl _ _ | refine below_step ?_ (by assumption))); first | done | fail) rfl rfl rfl rfl ?_ rfl (fun w1 hz1 hB hB1 hv => ?_); (focus (first | exact Ty.one _ _ | simp [Value.oneCell'])); have hp := pt_of_block hv)
           )
      | (apply isLQ
         first
           | refine LQ_nil (fun w1 hBq => ?_)
           | apply LQ_mix
           | refine LQ_move rfl rfl ?_
           | (apply isGuardedQ
              first
                | refine LQ_guard_dec rfl rfl (fun hg => ?_) (fun hg => ?_)
                | refine LQ_guard_yes rfl rfl ?_
                | refine LQ_guard_no rfl rfl rfl rfl ?_
                | refine LQ_guard_undef rfl rfl rfl ?_
                | refine LQ_guard_split rfl rfl (fun hg => ?_) (fun hg => ?_))
           | (apply isCallQ
              first
                | refine LQ_lenL rfl (by (first | assumption | exact RdL.ext (by assumption) (by (repeat (first | assumption | refine below_step ?_ (by assumption))); first | done | fail) | exact OwL.rd (by assumption))) rfl (fun hlen => ?_)
                | refine LQ_do rfl rfl rfl (fun _ _ => do_lenStr rfl) ?_
                | refine LQ_do rfl rfl rfl (fun _ _ => do_min2 rfl rfl) ?_
                )
           | (apply isBinQ
              first
                | refine LQ_do rfl rfl rfl (fun _ _ => do_cmp rfl rfl rfl) ?_
                | refine LQ_do rfl rfl rfl (fun _ _ => do_cmpStr rfl rfl rfl) ?_
                | refine LQ_do rfl rfl rfl (fun _ _ => do_add rfl rfl (by omega)) ?_
                | refine LQ_do rfl rfl rfl (fun _ _ => do_sub rfl rfl (by omega)) ?_
                | refine LQ_do rfl rfl rfl (fun _ _ => do_eqBool TBool.und rfl rfl) ?_
                | refine LQ_do rfl rfl rfl (fun _ _ => do_neBool TBool.und rfl rfl) ?_
                )
           | (apply isLoadQ
              first
                | refine LQ_loadPt rfl (by rfl) (by (first | assumption | exact Pt.ext (by assumption) (by (repeat (first | assumption | refine below_step ?_ (by assumption))); first | done | fail))) (by rfl) rfl ?_
                | refine LQ_loadPt0 rfl (by (first | assumption | exact Pt.ext (by assumption) (by (repeat (first | assumption | refine below_step ?_ (by assumption))); first | done | fail))) (by rfl) rfl ?_
                | refine LQ_loadAgg rfl (by (first | assumption | exact Pt.ext (by assumption) (by (repeat (first | assumption | refine below_step ?_ (by assumption))); first | done | fail))) (by rfl) rfl ?_
                | refine RLQ_loadPt rfl (by rfl) (by (first | assumption | exact Pt.ext (by assumption) (by (repeat (first | assumption | refine below_step ?_ (by assumption))); first | done | fail))) (by rfl) (by first | assumption | (intro e; simp_all; done)) rfl ?_
                | refine RLQ_loadPt0 rfl (by (first | assumption | exact Pt.ext (by assumption) (by (repeat (first | assumption | refine below_step ?_ (by assumption))); first | done | fail))) (by rfl) (by first | assumption | (intro e; simp_all; done)) rfl ?_
                | refine RLQ_loadAgg rfl (by (first | assumption | exact Pt.ext (by assumption) (by (repeat (first | assumption | refine below_step ?_ (by assumption))); first | done | fail))) (by rfl) (by first | assumption | (intro e; simp_all; done)) rfl ?_)
           | refine LQ_assign rfl rfl ?_
           | refine LQ_do rfl rfl rfl (fun _ _ => do_pick_true rfl rfl) ?_
           | refine LQ_do rfl rfl rfl (fun _ _ => do_pick_false rfl rfl) ?_
           | refine LQ_do rfl rfl rfl (fun _ _ => do_notDec rfl) ?_
           | refine LQ_do rfl rfl rfl (fun _ _ => do_not rfl) ?_
           | refine LQ_do rfl rfl rfl (fun _ _ => do_extract rfl rfl) ?_
           | refine LQ_do rfl rfl rfl (fun _ _ => do_fieldAddr rfl) ?_
           | refine LQ_do rfl rfl rfl (fun _ _ => do_buildS rfl (by kernel_rfl)) ?_
           | (refine LQ_indexL (T := tRow3) rfl rfl hrd (by rfl) (by omega) (by omega) rfl (fun a2 y2 hy2 hab2 hp2 => ?_); obtain rfl := Option.some.inj (hr1.symm.trans hy2))
           | refine LQ_indexL rfl rfl (by (first | assumption | exact RdL.ext (by assumption) (by (repeat (first | assumption | refine below_step ?_ (by assumption))); first | done | fail) | exact OwL.rd (by assumption))) (by rfl) (by omega) (by omega) rfl (fun a y hy hab hp => ?_))
      | (apply isW
         first
           | apply W_seq
           | apply W_region
           | refine W_hold (id := 14) ?_
           | refine W_region_Q mixed (by kernel_rfl) ?_
           | refine W_cond_dec rfl (fun hg => ?_) (fun hg => ?_)
           | refine W_cond_true rfl ?_
           | refine W_cond_false rfl ?_
           | refine W_cond rfl (fun hg => ?_) (fun hg => ?_)
           | apply W_skip
           | apply W_ret
           | apply W_exit
           | apply W_block)
      | (apply isLM
         first
           | apply LM_nil
           | refine LM_look rfl rfl ?_
           | refine LM_act rfl ?_
           | refine LM_both rfl rfl ?_ ?_
           | refine LM_do rfl rfl rfl rfl (fun _ _ => do_nilCheck rfl) ?_)
      | (apply isAt
         first
           | apply At_then
           | apply At_then_ret
           | apply At_then_exit
           | apply At_block_normal
           | apply At_block_ret
           | apply At_block_hit
           | refine At_block_miss rfl ?_
           | refine At_end1 rfl rfl ?_
           | refine At_end1n rfl rfl ?_
           | refine At_end2 rfl rfl rfl ?_
           | refine At_mix (by (repeat (first | assumption | exact Below.refl _ _ | refine below_step ?_ (by assumption) | exact World.grownBy.refl _ _ | refine kp_below ?_ (by assumption) | refine kp_row ?_ (by assumption))); first | done | fail) ?_))
    any_goals (exfalso; omega)
    focus
      have hx : keep[(r1.name - 1).toNat]? = some y := by assumption
      have hkk : min y (b.fresh.length : Int) = kOf keep b := by
        unfold kOf
        rw [if_pos (by omega), ← hnm, List.getD_eq_getElem?_getD, hx, Option.getD_some]
      refine ⟨?_⟩
      refine W_forget [(3, x), (4, ky), (5, x3), (9, .int .i64 k), (10, .int .i64 (kOf keep b))] (by rw [← hkk]; repeat (first | exact get_nil_slots _ | refine get_cons_slots rfl ?_)) ?_
      obtain ⟨w6, hw6⟩ : ∃ w6, w6 = w1 := ⟨_, rfl⟩
      rw [← hw6]
      have hB6 : Below w5.heap.size w5 w6 := by rw [hw6]; exact below_step hB hBq
      clear hw6 hBq
    rotate_left
    focus
      have hkk : (0 : Int) = kOf keep b := by
        unfold kOf
        rw [if_neg (by omega)]
      refine ⟨?_⟩
      refine W_forget [(3, x), (4, ky), (5, x3), (9, .int .i64 k), (10, .int .i64 (kOf keep b))] (by rw [← hkk]; repeat (first | exact get_nil_slots _ | refine get_cons_slots rfl ?_)) ?_
      obtain ⟨w6, hw6⟩ : ∃ w6, w6 = w' := ⟨_, rfl⟩
      rw [← hw6]
      have hB6 : Below w5.heap.size w5 w6 := by rw [hw6]; exact hB
      clear hw6
    all_goals
      clear hB hB3' hB2'
      have hkb := kOf_bd hcp.2.2 (b := b) (by omega)
      have hbl9 := hsm.2 b (List.mem_of_getElem? hb)
      have hB36 := below_step hB35 hB6
      have hB26 := below_step hB25 hB6
      have hf36 := hf3.ext hB36
      have hs36 := hs3.ext hB36
      repeat' (first
        | (apply isL
           first
             | apply L_nil
             | refine L_move rfl rfl ?_
             | (apply isGuarded
                first
                  | refine L_guard_dec rfl rfl (fun hg => ?_) (fun hg => ?_)
                  | refine L_guard_yes rfl rfl ?_
                  | refine L_guard_no rfl rfl rfl rfl ?_
                  | refine L_guard_undef rfl rfl rfl ?_
                  | refine L_guard_split rfl rfl (fun hg => ?_) (fun hg => ?_))
             | (apply isCall
                first
                  | refine L_lenL rfl (by (first | assumption | exact RdL.ext (by assumption) (by (repeat (first | assumption | refine below_step ?_ (by assumption))); first | done | fail) | exact OwL.rd (by assumption))) rfl (fun hlen => ?_)
                  | refine L_do rfl rfl rfl (do_lenStr rfl) ?_
                  | refine L_append (w0 := w6) (T := tInt) rfl rfl (by (repeat (first | assumption | exact Below.refl _ _ | refine below_step ?_ (by assumption))); first | done | fail) (by (first | assumption | exact OwL.ext (by assumption) (by (repeat (first | assumption | refine below_step ?_ (by assumption))); first | done | fail))) (hsf.ext (below_step hB26 (by (repeat (first | assumption | exact Below.refl _ _ | refine below_step ?_ (by assumption))); first | done | fail))) rfl (by simp; omega) (by simp; omega) rfl (fun v9 w9 hO9 hB9 hg9 => ?_)
                  | refine L_append (w0 := w6) (T := tInt) rfl rfl (by (repeat (first | assumption | exact Below.refl _ _ | refine below_step ?_ (by assumption))); first | done | fail) (by (first | assumption | exact OwL.ext (by assumption) (by (repeat (first | assumption | refine below_step ?_ (by assumption))); first | done | fail))) (hsl.ext (below_step hB26 (by (repeat (first | assumption | exact Below.refl _ _ | refine below_step ?_ (by assumption))); first | done | fail))) rfl (by simp; omega) (by simp; omega) rfl (fun v9 w9 hO9 hB9 hg9 => ?_)
                  | (have hcq := c_sameInts (hs36.ext (by (repeat (first | assumption | exact Below.refl _ _ | refine below_step ?_ (by assumption))); first | done | fail)) hO9.rd; rw [decide_eq_true (by simp)] at hcq; refine L_callV rfl rfl hcq (fun w11 hB11 => ?_))
                  )
             | (apply isBin
                first
                  | refine L_do rfl rfl rfl (do_cmp rfl rfl rfl) ?_
                  | refine L_do rfl rfl rfl (do_cmpStr rfl rfl rfl) ?_
                  | refine L_do rfl rfl rfl (do_add rfl rfl (by omega)) ?_
                  | refine L_do rfl rfl rfl (do_sub rfl rfl (by omega)) ?_
                  | refine L_do rfl rfl rfl (do_eqBool TBool.und rfl rfl) ?_
                  | refine L_do rfl rfl rfl (do_neBool TBool.und rfl rfl) ?_
                  )
             | (apply isLoad
                first
                  | refine L_loadPt rfl (by rfl) (by (first | assumption | exact Pt.ext (by assumption) (by (repeat (first | assumption | refine below_step ?_ (by assumption))); first | done | fail))) (by rfl) rfl ?_
                  | refine L_loadPt0 rfl (by (first | assumption | exact Pt.ext (by assumption) (by (repeat (first | assumption | refine below_step ?_ (by assumption))); first | done | fail))) (by rfl) rfl ?_
                  | refine L_loadAgg rfl (by (first | assumption | exact Pt.ext (by assumption) (by (repeat (first | assumption | refine below_step ?_ (by assumption))); first | done | fail))) (by rfl) rfl ?_)
             | refine L_assign rfl rfl ?_
             | refine L_do rfl rfl rfl (do_pick_true rfl rfl) ?_
             | refine L_do rfl rfl rfl (do_pick_false rfl rfl) ?_
             | refine L_do rfl rfl rfl (do_notDec rfl) ?_
             | refine L_do rfl rfl rfl (do_not rfl) ?_
             | refine L_do rfl rfl rfl (do_extract rfl rfl) ?_
             | refine L_do rfl rfl rfl (do_fieldAddr rfl) ?_
             | refine L_buildSlice0 (w0 := w6) tInt (by (repeat (first | assumption | exact Below.refl _ _ | refine below_step ?_ (by assumption))); first | done | fail) rfl (fun w8 hO8 hB8 hC8 => ?_)
             | refine L_indexL rfl rfl (by (first | assumption | exact RdL.ext (by assumption) (by (repeat (first | assumption | refine below_step ?_ (by assumption))); first | done | fail) | exact OwL.rd (by assumption))) (by rfl) (by omega) (by omega) rfl (fun a y hy hab hp => ?_)
             | (apply isBox; refine L_boxV (w0 := w) (by (repeat (first | assumption | exact Below.refl _ _ | refine below_step ?_ (by assumption))); first | done | fail) rfl rfl (fun w1 hz1 hB hB1 hv => ?_); have hp := pt_of_block hv)
             | (apply isAllocStore; refine L_allocStoreV (w0 := w) (by (repeat (first | assumption | exact Below.refl _ _ | refine below_step ?_ (by assumption))); first | done | fail) rfl rfl rfl rfl ?_ rfl (fun w1 hz1 hB hB1 hv => ?_); (focus (first | exact Ty.one _ _ | simp [Value.oneCell'])); have hp := pt_of_block hv)
             )
        | (apply isLQ
           first
             | refine LQ_nil (fun w1 hBq => ?_)
             | apply LQ_mix
             | refine LQ_move rfl rfl ?_
             | (apply isGuardedQ
                first
                  | refine LQ_guard_dec rfl rfl (fun hg => ?_) (fun hg => ?_)
                  | refine LQ_guard_yes rfl rfl ?_
                  | refine LQ_guard_no rfl rfl rfl rfl ?_
                  | refine LQ_guard_undef rfl rfl rfl ?_
                  | refine LQ_guard_split rfl rfl (fun hg => ?_) (fun hg => ?_))
             | (apply isCallQ
                first
                  | refine LQ_lenL rfl (by (first | assumption | exact RdL.ext (by assumption) (by (repeat (first | assumption | refine below_step ?_ (by assumption))); first | done | fail) | exact OwL.rd (by assumption))) rfl (fun hlen => ?_)
                  | refine LQ_do rfl rfl rfl (fun _ _ => do_lenStr rfl) ?_
                  )
             | (apply isBinQ
                first
                  | refine LQ_do rfl rfl rfl (fun _ _ => do_cmp rfl rfl rfl) ?_
                  | refine LQ_do rfl rfl rfl (fun _ _ => do_cmpStr rfl rfl rfl) ?_
                  | refine LQ_do rfl rfl rfl (fun _ _ => do_add rfl rfl (by omega)) ?_
                  | refine LQ_do rfl rfl rfl (fun _ _ => do_sub rfl rfl (by omega)) ?_
                  | refine LQ_do rfl rfl rfl (fun _ _ => do_eqBool TBool.und rfl rfl) ?_
                  | refine LQ_do rfl rfl rfl (fun _ _ => do_neBool TBool.und rfl rfl) ?_
                  )
             | (apply isLoadQ
                first
                  | refine LQ_loadPt rfl (by rfl) (by (first | assumption | exact Pt.ext (by assumption) (by (repeat (first | assumption | refine below_step ?_ (by assumption))); first | done | fail))) (by rfl) rfl ?_
                  | refine LQ_loadPt0 rfl (by (first | assumption | exact Pt.ext (by assumption) (by (repeat (first | assumption | refine below_step ?_ (by assumption))); first | done | fail))) (by rfl) rfl ?_
                  | refine LQ_loadAgg rfl (by (first | assumption | exact Pt.ext (by assumption) (by (repeat (first | assumption | refine below_step ?_ (by assumption))); first | done | fail))) (by rfl) rfl ?_
                  | refine RLQ_loadPt rfl (by rfl) (by (first | assumption | exact Pt.ext (by assumption) (by (repeat (first | assumption | refine below_step ?_ (by assumption))); first | done | fail))) (by rfl) (by first | assumption | (intro e; simp_all; done)) rfl ?_
                  | refine RLQ_loadPt0 rfl (by (first | assumption | exact Pt.ext (by assumption) (by (repeat (first | assumption | refine below_step ?_ (by assumption))); first | done | fail))) (by rfl) (by first | assumption | (intro e; simp_all; done)) rfl ?_
                  | refine RLQ_loadAgg rfl (by (first | assumption | exact Pt.ext (by assumption) (by (repeat (first | assumption | refine below_step ?_ (by assumption))); first | done | fail))) (by rfl) (by first | assumption | (intro e; simp_all; done)) rfl ?_)
             | refine LQ_assign rfl rfl ?_
             | refine LQ_do rfl rfl rfl (fun _ _ => do_pick_true rfl rfl) ?_
             | refine LQ_do rfl rfl rfl (fun _ _ => do_pick_false rfl rfl) ?_
             | refine LQ_do rfl rfl rfl (fun _ _ => do_notDec rfl) ?_
             | refine LQ_do rfl rfl rfl (fun _ _ => do_not rfl) ?_
             | refine LQ_do rfl rfl rfl (fun _ _ => do_extract rfl rfl) ?_
             | refine LQ_do rfl rfl rfl (fun _ _ => do_fieldAddr rfl) ?_
             | refine LQ_do rfl rfl rfl (fun _ _ => do_buildS rfl (by kernel_rfl)) ?_
             | (refine LQ_indexL (T := tRow3) rfl rfl (hrd.ext hB26) (by rfl) (by omega) (by omega) rfl (fun a2 y2 hy2 hab2 hp2 => ?_); obtain rfl := Option.some.inj (hr1.symm.trans hy2))
             | (refine LQ_indexL (T := tRow3) rfl rfl (hrd3.ext hB36) (by rfl) (by omega) (by omega) rfl (fun a2 y2 hy2 hab2 hp2 => ?_); obtain rfl := Option.some.inj (hr3.symm.trans hy2))
             | (refine LQ_sliceH rfl rfl hfr rfl (by omega) (by omega) rfl (fun sv hsl hob => ?_))
             | refine LQ_indexL rfl rfl (by (first | assumption | exact RdL.ext (by assumption) (by (repeat (first | assumption | refine below_step ?_ (by assumption))); first | done | fail) | exact OwL.rd (by assumption))) (by rfl) (by omega) (by omega) rfl (fun a y hy hab hp => ?_))
        | (apply isW
           first
             | apply W_seq
             | apply W_region
             | refine W_region_M (id := 14) (.look 0 (.look 1 (.look 2 (.look 3 (.look 4 (.look 5 (.look 6 (.look 7 (.look 8 (.look 9 (.look 10 (.look 11 (.look 12 (.look 13 (.look 14 (.look 15 (.look 16 (.look 17 (.look 18 (.look 19 (.look 20 (.look 21 (.look 22 (.look 23 (.look 24 (.look 25 (.look 27 (.look 28 (.look 29 (.look 30 (.look 31 (.look 33 (.look 34 (.look 35 (.look 36 (.look 37 (.look 38 (.look 39 (.act 26 (.act 32 (.act 40 (.act 41 (.look 42 (.look 43 .done)))))))))))))))))))))))))))))))))))))))))))) mixed (by kernel_rfl) (by kernel_rfl) (by rintro _ _ _ _ _ ⟨_, _, hh, _⟩; cases hh) (fun w7 hBm hzm => ?_)
             | refine W_region_Q mixed (by kernel_rfl) ?_
             | refine W_cond_dec rfl (fun hg => ?_) (fun hg => ?_)
             | refine W_cond_true rfl ?_
             | refine W_cond_false rfl ?_
             | refine W_cond rfl (fun hg => ?_) (fun hg => ?_)
             | apply W_skip
             | apply W_ret
             | apply W_exit
             | apply W_block)
        | (apply isLM
           first
             | apply LM_nil
             | refine LM_look rfl rfl ?_
             | refine LM_act rfl ?_
             | refine LM_both rfl rfl ?_ ?_
             | refine LM_do rfl rfl rfl rfl (fun _ _ => do_nilCheck rfl) ?_)
        | (apply isAt
           first
             | apply At_then
             | apply At_then_ret
             | apply At_then_exit
             | apply At_block_normal
             | apply At_block_ret
             | apply At_block_hit
             | refine At_block_miss rfl ?_
             | refine At_end1 rfl rfl ?_
             | refine At_end1n rfl rfl ?_
             | refine At_end2 rfl rfl rfl ?_
             | refine At_mix (by (repeat (first | assumption | exact Below.refl _ _ | refine below_step ?_ (by assumption) | exact World.grownBy.refl _ _ | refine kp_below ?_ (by assumption) | refine kp_row ?_ (by assumption))); first | done | fail) ?_))
      all_goals first
        | (exfalso; omega)
        | (exfalso; simp at hg; done)
        | (exact At_round _ [(3, x), (4, ky), (5, x3), (9, .int .i64 ((k + 1 : Nat) : Int))] (by repeat (first | exact get_nil_slots _ | refine get_cons_slots rfl ?_)) (by omega) ⟨k + 1, rfl, by omega, rfl, below_step hB6 (by (repeat (first | assumption | exact Below.refl _ _ | refine below_step ?_ (by assumption))); first | done | fail)⟩)
       
  · repeat' (first
      | (apply isL
         first
           | apply L_nil
           | refine L_move rfl rfl ?_
           | (apply isGuarded
              first
                | refine L_guard_dec rfl rfl (fun hg => ?_) (fun hg => ?_)
                | refine L_guard_yes rfl rfl ?_
                | refine L_guard_no rfl rfl rfl rfl ?_
                | refine L_guard_undef rfl rfl rfl ?_
                | refine L_guard_split rfl rfl (fun hg => ?_) (fun hg => ?_))
           | (apply isCall
              first
                | refine L_lenL rfl (by (first | assumption | exact RdL.ext (by assumption) (by (repeat (first | assumption | refine below_step ?_ (by assumption))); first | done | fail) | exact OwL.rd (by assumption))) rfl (fun hlen => ?_)
                | refine L_do rfl rfl rfl (do_lenStr rfl) ?_
                | (rw [crash_disk hok] at hdv; refine L_callV rfl rfl (c_implDiskValid (hbl3.ext (by (repeat (first | assumption | exact Below.refl _ _ | refine below_step ?_ (by assumption))); first | done | fail)) hcs) (fun w8 hB8 => ?_))
                )
           | (apply isBin
              first
                | refine L_do rfl rfl rfl (do_cmp rfl rfl rfl) ?_
                | refine L_do rfl rfl rfl (do_cmpStr rfl rfl rfl) ?_
                | refine L_do rfl rfl rfl (do_add rfl rfl (by omega)) ?_
                | refine L_do rfl rfl rfl (do_sub rfl rfl (by omega)) ?_
                | refine L_do rfl rfl rfl (do_eqBool TBool.und rfl rfl) ?_
                | refine L_do rfl rfl rfl (do_neBool TBool.und rfl rfl) ?_
                )
           | (apply isLoad
              first
                | refine L_loadPt rfl (by rfl) (by (first | assumption | exact Pt.ext (by assumption) (by (repeat (first | assumption | refine below_step ?_ (by assumption))); first | done | fail))) (by rfl) rfl ?_
                | refine L_loadPt0 rfl (by (first | assumption | exact Pt.ext (by assumption) (by (repeat (first | assumption | refine below_step ?_ (by assumption))); first | done | fail))) (by rfl) rfl ?_
                | refine L_loadAgg rfl (by (first | assumption | exact Pt.ext (by assumption) (by (repeat (first | assumption | refine below_step ?_ (by assumption))); first | done | fail))) (by rfl) rfl ?_)
           | refine L_assign rfl rfl ?_
           | refine L_do rfl rfl rfl (do_pick_true rfl rfl) ?_
           | refine L_do rfl rfl rfl (do_pick_false rfl rfl) ?_
           | refine L_do rfl rfl rfl (do_notDec rfl) ?_
           | refine L_do rfl rfl rfl (do_not rfl) ?_
           | refine L_do rfl rfl rfl (do_extract rfl rfl) ?_
           | refine L_do rfl rfl rfl (do_fieldAddr rfl) ?_
           | refine L_indexL rfl rfl (by (first | assumption | exact RdL.ext (by assumption) (by (repeat (first | assumption | refine below_step ?_ (by assumption))); first | done | fail) | exact OwL.rd (by assumption))) (by rfl) (by omega) (by omega) rfl (fun a y hy hab hp => ?_)
           | (apply isBox; refine L_boxV (w0 := w) (by (repeat (first | assumption | exact Below.refl _ _ | refine below_step ?_ (by assumption))); first | done | fail) rfl rfl (fun w1 hz1 hB hB1 hv => ?_); have hp := pt_of_block hv)
           | (apply isAllocStore; refine L_allocStoreV (w0 := w) (by (repeat (first | assumption | exact Below.refl _ _ | refine below_step ?_ (by assumption))); first | done | fail) rfl rfl rfl rfl ?_ rfl (fun w1 hz1 hB hB1 hv => ?_); (focus (first | exact Ty.one _ _ | simp [Value.oneCell'])); have hp := pt_of_block hv)
           )
      | (apply isLQ
         first
           | refine LQ_nil (fun w1 hBq => ?_)
           | apply LQ_mix
           | refine LQ_move rfl rfl ?_
           | (apply isGuardedQ
              first
                | refine LQ_guard_dec rfl rfl (fun hg => ?_) (fun hg => ?_)
                | refine LQ_guard_yes rfl rfl ?_
                | refine LQ_guard_no rfl rfl rfl rfl ?_
                | refine LQ_guard_undef rfl rfl rfl ?_
                | refine LQ_guard_split rfl rfl (fun hg => ?_) (fun hg => ?_))
           | (apply isCallQ
              first
                | refine LQ_lenL rfl (by (first | assumption | exact RdL.ext (by assumption) (by (repeat (first | assumption | refine below_step ?_ (by assumption))); first | done | fail) | exact OwL.rd (by assumption))) rfl (fun hlen => ?_)
                | refine LQ_do rfl rfl rfl (fun _ _ => do_lenStr rfl) ?_
                )
           | (apply isBinQ
              first
                | refine LQ_do rfl rfl rfl (fun _ _ => do_cmp rfl rfl rfl) ?_
                | refine LQ_do rfl rfl rfl (fun _ _ => do_cmpStr rfl rfl rfl) ?_
                | refine LQ_do rfl rfl rfl (fun _ _ => do_add rfl rfl (by omega)) ?_
                | refine LQ_do rfl rfl rfl (fun _ _ => do_sub rfl rfl (by omega)) ?_
                | refine LQ_do rfl rfl rfl (fun _ _ => do_eqBool TBool.und rfl rfl) ?_
                | refine LQ_do rfl rfl rfl (fun _ _ => do_neBool TBool.und rfl rfl) ?_
                )
           | (apply isLoadQ
              first
                | refine LQ_loadPt rfl (by rfl) (by (first | assumption | exact Pt.ext (by assumption) (by (repeat (first | assumption | refine below_step ?_ (by assumption))); first | done | fail))) (by rfl) rfl ?_
                | refine LQ_loadPt0 rfl (by (first | assumption | exact Pt.ext (by assumption) (by (repeat (first | assumption | refine below_step ?_ (by assumption))); first | done | fail))) (by rfl) rfl ?_
                | refine LQ_loadAgg rfl (by (first | assumption | exact Pt.ext (by assumption) (by (repeat (first | assumption | refine below_step ?_ (by assumption))); first | done | fail))) (by rfl) rfl ?_
                | refine RLQ_loadPt rfl (by rfl) (by (first | assumption | exact Pt.ext (by assumption) (by (repeat (first | assumption | refine below_step ?_ (by assumption))); first | done | fail))) (by rfl) (by first | assumption | (intro e; simp_all; done)) rfl ?_
                | refine RLQ_loadPt0 rfl (by (first | assumption | exact Pt.ext (by assumption) (by (repeat (first | assumption | refine below_step ?_ (by assumption))); first | done | fail))) (by rfl) (by first | assumption | (intro e; simp_all; done)) rfl ?_
                | refine RLQ_loadAgg rfl (by (first | assumption | exact Pt.ext (by assumption) (by (repeat (first | assumption | refine below_step ?_ (by assumption))); first | done | fail))) (by rfl) (by first | assumption | (intro e; simp_all; done)) rfl ?_)
           | refine LQ_assign rfl rfl ?_
           | refine LQ_do rfl rfl rfl (fun _ _ => do_pick_true rfl rfl) ?_
           | refine LQ_do rfl rfl rfl (fun _ _ => do_pick_false rfl rfl) ?_
           | refine LQ_do rfl rfl rfl (fun _ _ => do_notDec rfl) ?_
           | refine LQ_do rfl rfl rfl (fun _ _ => do_not rfl) ?_
           | refine LQ_do rfl rfl rfl (fun _ _ => do_extract rfl rfl) ?_
           | refine LQ_do rfl rfl rfl (fun _ _ => do_fieldAddr rfl) ?_
           | refine LQ_do rfl rfl rfl (fun _ _ => do_buildS rfl (by kernel_rfl)) ?_
           | refine LQ_indexL rfl rfl (by (first | assumption | exact RdL.ext (by assumption) (by (repeat (first | assumption | refine below_step ?_ (by assumption))); first | done | fail) | exact OwL.rd (by assumption))) (by rfl) (by omega) (by omega) rfl (fun a y hy hab hp => ?_))
      | (apply isW
         first
           | apply W_seq
           | apply W_region
           | (exfalso; omega)
           | refine W_region_Q mixed (by kernel_rfl) ?_
           | refine W_cond_dec rfl (fun hg => ?_) (fun hg => ?_)
           | refine W_cond_true rfl ?_
           | refine W_cond_false rfl ?_
           | refine W_cond rfl (fun hg => ?_) (fun hg => ?_)
           | apply W_skip
           | apply W_ret
           | apply W_exit
           | apply W_block)
      | (apply isLM
         first
           | apply LM_nil
           | refine LM_look rfl rfl ?_
           | refine LM_act rfl ?_
           | refine LM_both rfl rfl ?_ ?_
           | refine LM_do rfl rfl rfl rfl (fun _ _ => do_nilCheck rfl) ?_)
      | (apply isAt
         first
           | apply At_then
           | apply At_then_ret
           | apply At_then_exit
           | apply At_block_normal
           | apply At_block_ret
           | apply At_block_hit
           | refine At_block_miss rfl ?_
           | refine At_end1 rfl rfl ?_
           | refine At_end1n rfl rfl ?_
           | refine At_end2 rfl rfl rfl ?_
           | refine At_mix (by (repeat (first | assumption | exact Below.refl _ _ | refine below_step ?_ (by assumption) | exact World.grownBy.refl _ _ | refine kp_below ?_ (by assumption) | refine kp_row ?_ (by assumption))); first | done | fail) ?_))
    all_goals first | (exfalso; omega) | exact ⟨by rw [crash_disk hok], below_step hB05 (below_step hB (by (repeat (first | assumption | exact Below.refl _ _ | refine below_step ?_ (by assumption))); first | done | fail))⟩
end Go.Proofs.Ytomhhfeakpompaa
