/-
  Contracts: a prefix of a string; whether one path is under another one, by the program's function.
-/
import Derived.Test.YtjobbcdolbhadaaGreatDoorPlA
import Derived.Test.YtjobbcdolbhadaaGreatDoorTreePut
namespace Go.Proofs.YtjobbcdolbhadaaGreatDoor
open Go Go.RowKit
set_option linter.unusedVariables false
set_option linter.unusedSimpArgs false


theorem pre_take {s p : Str} : p.isPrefixOf s = (decide (p.length ≤ s.length) && decide (s.take p.length = p)) := by
  rw [Bool.eq_iff_iff, List.isPrefixOf_iff_prefix]
  simp only [Bool.and_eq_true, decide_eq_true_eq]
  constructor
  · rintro ⟨t, rfl⟩; simp
  · rintro ⟨_, h⟩
    refine ⟨s.drop p.length, ?_⟩
    conv => rhs; rw [← List.take_append_drop p.length s, h]
theorem c_HasPrefix0 {s p : Str} {w : World} : Cl Tryz.prog 129 [.string (mk s), .string (mk p)] w (V w (.bool (p.isPrefixOf s))) := by
  refine calls_start 18 Tryz.func129 rfl rfl rfl ?_
  rw [pre_take]
  repeat' (first | (apply isL; first | apply L_nil | refine L_move rfl rfl ?_ | (apply isGuarded; first | refine L_guard_dec rfl rfl (fun hg => ?_) (fun hg => ?_) | refine L_guard_yes rfl rfl ?_ | refine L_guard_no rfl rfl rfl rfl ?_ | refine L_guard_undef rfl rfl rfl ?_ | refine L_guard_split rfl rfl (fun hg => ?_) (fun hg => ?_)) | (apply isCall; first | refine L_do rfl rfl rfl (do_lenS rfl) ?_ | refine L_do rfl rfl rfl (do_lenStr rfl) ?_ ) | (apply isBin; first | refine L_do rfl rfl rfl (do_cmp rfl rfl rfl) ?_ | refine L_do rfl rfl rfl (do_cmpStr rfl rfl rfl) ?_ ) | refine L_assign rfl rfl ?_ | refine L_do rfl rfl rfl (do_pick_true rfl rfl) ?_ | refine L_do rfl rfl rfl (do_pick_false rfl rfl) ?_ | refine L_do rfl rfl rfl (do_sliceSH rfl rfl om_ om_) ?_ ) | (apply isW; first | apply W_seq | apply W_region | refine W_cond_dec rfl (fun hg => ?_) (fun hg => ?_) | refine W_cond_true rfl ?_ | refine W_cond_false rfl ?_ | refine W_cond rfl (fun hg => ?_) (fun hg => ?_) | apply W_skip | apply W_ret | apply W_exit | apply W_block) | (apply isAt; first | apply At_then | apply At_then_ret | apply At_then_exit | apply At_block_normal | apply At_block_ret | apply At_block_hit | refine At_block_miss rfl ?_ | refine At_end1 rfl rfl ?_ | refine At_end1n rfl rfl ?_ | refine At_end2 rfl rfl rfl ?_ | refine At_end3 rfl rfl rfl rfl ?_ | refine At_end4 rfl rfl rfl rfl rfl ?_ | refine At_end5 rfl rfl rfl rfl rfl rfl ?_ | refine At_mix kp_ ?_))
  · refine ⟨?_, bw_⟩; congr 1; rw [Bool.eq_iff_iff]; simp; intro _; omega
  · refine ⟨?_, bw_⟩; rw [decide_eq_false (show ¬ p.length ≤ s.length by omega)]; rfl
theorem c_HasPrefix {s p : Str} {w : World} : Cl Tryz.prog 89 [.string (mk s), .string (mk p)] w (V w (.bool (p.isPrefixOf s))) := by
  refine calls_start 8 Tryz.func89 rfl rfl rfl ?_
  repeat' (first | (apply isL; first | apply L_nil | refine L_move rfl rfl ?_ | (apply isCall; first | refine L_callV rfl rfl (c_HasPrefix0 (s := s) (p := p)) (fun w2 hB2 => ?_) ) | refine L_assign rfl rfl ?_ ) | (apply isW; first | apply W_seq | apply W_region | refine W_cond_dec rfl (fun hg => ?_) (fun hg => ?_) | refine W_cond_true rfl ?_ | refine W_cond_false rfl ?_ | refine W_cond rfl (fun hg => ?_) (fun hg => ?_) | apply W_skip | apply W_ret | apply W_exit | apply W_block) | (apply isAt; first | apply At_then | apply At_then_ret | apply At_then_exit | apply At_block_normal | apply At_block_ret | apply At_block_hit | refine At_block_miss rfl ?_ | refine At_end1 rfl rfl ?_ | refine At_end1n rfl rfl ?_ | refine At_end2 rfl rfl rfl ?_ | refine At_end3 rfl rfl rfl rfl ?_ | refine At_end4 rfl rfl rfl rfl rfl ?_ | refine At_end5 rfl rfl rfl rfl rfl rfl ?_ | refine At_mix kp_ ?_))
  exact ⟨rfl, bw_⟩
theorem c_implUnder {a b : Str} {w : World} (ha : a.length ≤ 9223372036854775800) : Cl Tryz.prog 53 [.string (mk a), .string (mk b)] w (V w (.bool (under a b))) := by
  refine calls_start 13 Tryz.func53 rfl rfl rfl ?_
  repeat' (first | (apply isL; first | apply L_nil | refine L_move rfl rfl ?_ | (apply isCall; first | refine L_callV rfl rfl (c_HasPrefix (s := b) (p := a ++ [47])) (fun w2 hB2 => ?_) ) | (apply isBin; first | refine L_do rfl rfl rfl (do_cmpStr rfl rfl rfl) ?_ | refine L_do rfl rfl rfl (do_concat rfl rfl (by simp; omega)) ?_ ) | refine L_assign rfl rfl ?_ ) | (apply isW; first | apply W_seq | apply W_region | refine W_cond_dec rfl (fun hg => ?_) (fun hg => ?_) | refine W_cond_true rfl ?_ | refine W_cond_false rfl ?_ | refine W_cond rfl (fun hg => ?_) (fun hg => ?_) | apply W_skip | apply W_ret | apply W_exit | apply W_block) | (apply isAt; first | apply At_then | apply At_then_ret | apply At_then_exit | apply At_block_normal | apply At_block_ret | apply At_block_hit | refine At_block_miss rfl ?_ | refine At_end1 rfl rfl ?_ | refine At_end1n rfl rfl ?_ | refine At_end2 rfl rfl rfl ?_ | refine At_end3 rfl rfl rfl rfl ?_ | refine At_end4 rfl rfl rfl rfl rfl ?_ | refine At_end5 rfl rfl rfl rfl rfl rfl ?_ | refine At_mix kp_ ?_))
  · subst hg; exact ⟨by rw [under_root]; by_cases e : b = [47] <;> simp [e], bw_⟩
  · exact ⟨by rw [under_not_root hg], bw_⟩
end Go.Proofs.YtjobbcdolbhadaaGreatDoor
