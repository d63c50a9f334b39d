/-
  Contracts: contents and commands: whether they are valid, the bytes of a command.
-/
import Derived.Test.YtjobbcdolbhadaaGreatDoorPaths
import Derived.Test.YtjobbcdolbhadaaGreatDoorBase2
namespace Go.Proofs.YtjobbcdolbhadaaGreatDoor
open Go Go.RowKit
set_option linter.unusedVariables false
set_option linter.unusedSimpArgs false

abbrev vCont (c : Cont) : Value := .agg #[.int .i64 c.kind, .int .i64 c.value]
abbrev vCm (c : Cm) : Value := .agg #[.string (mk c.path), .int .i64 c.fr.kind, .int .i64 c.fr.value, .int .i64 c.to.kind, .int .i64 c.to.value]

theorem c_specContentValid {c : Cont} {w : World} : Cl Tryz.prog 93 [vCont c] w (V w (.bool (contOk c))) := by
  refine calls_start 26 Tryz.func93 rfl rfl rfl ?_
  repeat' (first | (apply isL; first | apply L_nil | refine L_move rfl rfl ?_ | (apply isGuarded; first | refine L_guard_dec rfl rfl (fun hg => ?_) (fun hg => ?_) | refine L_guard_yes rfl rfl ?_ | refine L_guard_no rfl rfl rfl rfl ?_ | refine L_guard_undef rfl rfl rfl ?_ | refine L_guard_split rfl rfl (fun hg => ?_) (fun hg => ?_)) | (apply isCall; first | refine L_callV rfl rfl c_l6In (fun w2 hB2 => ?_) ) | (apply isBin; first | refine L_do rfl rfl rfl (do_cmp rfl rfl rfl) ?_ ) | (apply isLoad; first | refine L_loadPt rfl (by rfl) pt_ (by rfl) rfl ?_ | refine L_loadPt2 rfl (by rfl) pt_ (by rfl) rfl ?_ | refine L_loadPt0 rfl pt_ (by rfl) rfl ?_ | refine L_loadAgg rfl pt_ (by rfl) rfl ?_ | refine L_loadSub rfl (by rfl) pt_ (by rfl) rfl ?_) | refine L_assign rfl rfl ?_ | refine L_do rfl rfl rfl (do_pick_true rfl rfl) ?_ | refine L_do rfl rfl rfl (do_pick_false rfl rfl) ?_ | refine L_do rfl rfl rfl (do_fieldAddr rfl) ?_ | (apply isBox; refine L_boxV (w0 := w) bw_ rfl rfl (fun w1 hz1 hB hB1 hv => ?_); have hp := pt_of_block hv) ) | (apply isW; first | apply W_seq | apply W_region | refine W_cond_dec rfl (fun hg => ?_) (fun hg => ?_) | refine W_cond_true rfl ?_ | refine W_cond_false rfl ?_ | refine W_cond rfl (fun hg => ?_) (fun hg => ?_) | apply W_skip | apply W_ret | apply W_exit | apply W_block) | (apply isAt; first | apply At_then | apply At_then_ret | apply At_then_exit | apply At_block_normal | apply At_block_ret | apply At_block_hit | refine At_block_miss rfl ?_ | refine At_end1 rfl rfl ?_ | refine At_end1n rfl rfl ?_ | refine At_end2 rfl rfl rfl ?_ | refine At_end3 rfl rfl rfl rfl ?_ | refine At_end4 rfl rfl rfl rfl rfl ?_ | refine At_end5 rfl rfl rfl rfl rfl rfl ?_ | refine At_mix kp_ ?_))
  all_goals (refine ⟨?_, bw_⟩; congr 1; rw [Bool.eq_iff_iff]; simp [contOk]; omega)
theorem c_implContentValid {c : Cont} {w : World} : Cl Tryz.prog 66 [vCont c] w (V w (.bool (contOk c))) := by
  refine calls_start 16 Tryz.func66 rfl rfl rfl ?_
  repeat' (first | (apply isL; first | apply L_nil | refine L_move rfl rfl ?_ | (apply isCall; first | refine L_callV rfl rfl c_in (fun w2 hB2 => ?_) ) | (apply isBin; first | refine L_do rfl rfl rfl (do_cmp rfl rfl rfl) ?_ ) | (apply isLoad; first | refine L_loadPt rfl (by rfl) pt_ (by rfl) rfl ?_ | refine L_loadPt2 rfl (by rfl) pt_ (by rfl) rfl ?_ | refine L_loadPt0 rfl pt_ (by rfl) rfl ?_ | refine L_loadAgg rfl pt_ (by rfl) rfl ?_ | refine L_loadSub rfl (by rfl) pt_ (by rfl) rfl ?_) | refine L_assign rfl rfl ?_ | refine L_do rfl rfl rfl (do_fieldAddr rfl) ?_ | (apply isBox; refine L_boxV (w0 := w) bw_ rfl rfl (fun w1 hz1 hB hB1 hv => ?_); have hp := pt_of_block hv) ) | (apply isW; first | apply W_seq | apply W_region | refine W_cond_dec rfl (fun hg => ?_) (fun hg => ?_) | refine W_cond_true rfl ?_ | refine W_cond_false rfl ?_ | refine W_cond rfl (fun hg => ?_) (fun hg => ?_) | apply W_skip | apply W_ret | apply W_exit | apply W_block) | (apply isAt; first | apply At_then | apply At_then_ret | apply At_then_exit | apply At_block_normal | apply At_block_ret | apply At_block_hit | refine At_block_miss rfl ?_ | refine At_end1 rfl rfl ?_ | refine At_end1n rfl rfl ?_ | refine At_end2 rfl rfl rfl ?_ | refine At_end3 rfl rfl rfl rfl ?_ | refine At_end4 rfl rfl rfl rfl rfl ?_ | refine At_end5 rfl rfl rfl rfl rfl rfl ?_ | refine At_mix kp_ ?_))
  all_goals (refine ⟨?_, bw_⟩; congr 1; rw [Bool.eq_iff_iff]; simp [contOk]; omega)

def cmOk (c : Cm) : Bool := isPath c.path && !decide (c.path = [47]) && contOk c.fr && contOk c.to && !decide (c.fr.kind = c.to.kind ∧ c.fr.value = c.to.value)

theorem depth_pos (s : Str) : ((0 : Int) < (if isPath s = true then ((s.length / 2 : Nat) : Int) else -1)) ↔ (isPath s && !decide (s = [47])) = true := by
  cases h : isPath s with
  | false => simp
  | true =>
    have := isPath_root_len h
    simp only [if_pos, Bool.true_and, Bool.not_eq_true', decide_eq_false_iff_not]
    rw [← this]
    omega
theorem c_specCommandValid {c : Cm} {w : World} (hs : c.path.length ≤ 4294967280) : Cl Tryz.prog 107 [vCm c] w (V w (.bool (cmOk c))) := by
  refine calls_start 24 Tryz.func107 rfl rfl rfl ?_
  repeat' (first | (apply isL; first | apply L_nil | refine L_move rfl rfl ?_ | (apply isGuarded; first | refine L_guard_dec rfl rfl (fun hg => ?_) (fun hg => ?_) | refine L_guard_yes rfl rfl ?_ | refine L_guard_no rfl rfl rfl rfl ?_ | refine L_guard_undef rfl rfl rfl ?_ | refine L_guard_split rfl rfl (fun hg => ?_) (fun hg => ?_)) | (apply isCall; first | refine L_callV rfl rfl (c_specPathDepth hs) (fun w2 hB2 => ?_) | refine L_callV rfl rfl (c_specContentValid (c := c.fr)) (fun w3 hB3 => ?_) | refine L_callV rfl rfl (c_specContentValid (c := c.to)) (fun w4 hB4 => ?_) ) | (apply isBin; first | refine L_do rfl rfl rfl (do_cmp rfl rfl rfl) ?_ | refine L_do rfl rfl rfl (do_nePair rfl rfl) ?_ ) | (apply isLoad; first | refine L_loadPt rfl (by rfl) pt_ (by rfl) rfl ?_ | refine L_loadPt2 rfl (by rfl) pt_ (by rfl) rfl ?_ | refine L_loadPt0 rfl pt_ (by rfl) rfl ?_ | refine L_loadAgg rfl pt_ (by rfl) rfl ?_ | refine L_loadSub rfl (by rfl) pt_ (by rfl) rfl ?_) | refine L_assign rfl rfl ?_ | refine L_do rfl rfl rfl (do_pick_true rfl rfl) ?_ | refine L_do rfl rfl rfl (do_pick_false rfl rfl) ?_ | refine L_do rfl rfl rfl (do_fieldAddr rfl) ?_ | (apply isBox; refine L_boxV (w0 := w) bw_ rfl rfl (fun w1 hz1 hB hB1 hv => ?_); have hp := pt_of_block hv) ) | (apply isW; first | apply W_seq | apply W_region | refine W_cond_dec rfl (fun hg => ?_) (fun hg => ?_) | refine W_cond_true rfl ?_ | refine W_cond_false rfl ?_ | refine W_cond rfl (fun hg => ?_) (fun hg => ?_) | apply W_skip | apply W_ret | apply W_exit | apply W_block) | (apply isAt; first | apply At_then | apply At_then_ret | apply At_then_exit | apply At_block_normal | apply At_block_ret | apply At_block_hit | refine At_block_miss rfl ?_ | refine At_end1 rfl rfl ?_ | refine At_end1n rfl rfl ?_ | refine At_end2 rfl rfl rfl ?_ | refine At_end3 rfl rfl rfl rfl ?_ | refine At_end4 rfl rfl rfl rfl rfl ?_ | refine At_end5 rfl rfl rfl rfl rfl rfl ?_ | refine At_mix kp_ ?_))
  all_goals (refine ⟨?_, bw_⟩; congr 1; unfold cmOk)
  · rw [(depth_pos c.path).1 (by assumption)]
    simp_all
  · rw [(depth_pos c.path).1 (by assumption)]
    simp_all
  · rw [(depth_pos c.path).1 (by assumption)]
    simp_all
  · have : (isPath c.path && !decide (c.path = [47])) = false := by
      rw [Bool.eq_false_iff]; exact fun h => hg ((depth_pos c.path).2 h)
    rw [this]; rfl
theorem c_implCommandValid {c : Cm} {w : World} (hm : MLen w) (hs : c.path.length ≤ 4294967280) : Cl Tryz.prog 43 [vCm c] w (V w (.bool (cmOk c))) := by
  refine calls_start 28 Tryz.func43 rfl rfl rfl ?_
  repeat' (first | (apply isL; first | apply L_nil | refine L_move rfl rfl ?_ | (apply isGuarded; first | refine L_guard_dec rfl rfl (fun hg => ?_) (fun hg => ?_) | refine L_guard_yes rfl rfl ?_ | refine L_guard_no rfl rfl rfl rfl ?_ | refine L_guard_undef rfl rfl rfl ?_ | refine L_guard_split rfl rfl (fun hg => ?_) (fun hg => ?_)) | (apply isCall; first | refine L_callV rfl rfl (c_implPathValid (hm.ext bw_) hs) (fun w2 hB2 => ?_) | refine L_callV rfl rfl (c_implContentValid (c := c.fr)) (fun w3 hB3 => ?_) | refine L_callV rfl rfl (c_implContentValid (c := c.to)) (fun w4 hB4 => ?_) ) | (apply isBin; first | refine L_do rfl rfl rfl (do_cmp rfl rfl rfl) ?_ | refine L_do rfl rfl rfl (do_cmpStr rfl rfl rfl) ?_ | refine L_do rfl rfl rfl (do_nePair rfl rfl) ?_ ) | (apply isLoad; first | refine L_loadPt rfl (by rfl) pt_ (by rfl) rfl ?_ | refine L_loadPt2 rfl (by rfl) pt_ (by rfl) rfl ?_ | refine L_loadPt0 rfl pt_ (by rfl) rfl ?_ | refine L_loadAgg rfl pt_ (by rfl) rfl ?_ | refine L_loadSub rfl (by rfl) pt_ (by rfl) rfl ?_) | refine L_assign rfl rfl ?_ | refine L_do rfl rfl rfl (do_pick_true rfl rfl) ?_ | refine L_do rfl rfl rfl (do_pick_false rfl rfl) ?_ | refine L_do rfl rfl rfl (do_fieldAddr rfl) ?_ | (apply isBox; refine L_boxV (w0 := w) bw_ rfl rfl (fun w1 hz1 hB hB1 hv => ?_); have hp := pt_of_block hv) ) | (apply isW; first | apply W_seq | apply W_region | refine W_cond_dec rfl (fun hg => ?_) (fun hg => ?_) | refine W_cond_true rfl ?_ | refine W_cond_false rfl ?_ | refine W_cond rfl (fun hg => ?_) (fun hg => ?_) | apply W_skip | apply W_ret | apply W_exit | apply W_block) | (apply isAt; first | apply At_then | apply At_then_ret | apply At_then_exit | apply At_block_normal | apply At_block_ret | apply At_block_hit | refine At_block_miss rfl ?_ | refine At_end1 rfl rfl ?_ | refine At_end1n rfl rfl ?_ | refine At_end2 rfl rfl rfl ?_ | refine At_end3 rfl rfl rfl rfl ?_ | refine At_end4 rfl rfl rfl rfl rfl ?_ | refine At_end5 rfl rfl rfl rfl rfl rfl ?_ | refine At_mix kp_ ?_))
  all_goals (refine ⟨?_, bw_⟩; congr 1; unfold cmOk; simp_all)
end Go.Proofs.YtjobbcdolbhadaaGreatDoor
