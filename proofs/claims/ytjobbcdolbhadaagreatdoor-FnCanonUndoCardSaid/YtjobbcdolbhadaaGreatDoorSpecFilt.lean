/-
  Contracts: filters by the reference's functions.
-/
import Derived.Test.YtjobbcdolbhadaaGreatDoorPlA
import Derived.Test.YtjobbcdolbhadaaGreatDoorTreePut
import Derived.Test.YtjobbcdolbhadaaGreatDoorCmList
namespace Go.Proofs.YtjobbcdolbhadaaGreatDoor
open Go Go.RowKit
set_option linter.unusedVariables false
set_option linter.unusedSimpArgs false

theorem c_l1Under {a b : Str} {w : World} (ha : a.length ≤ 9223372036854775807) (hb : b.length ≤ 9223372036854775807) : Cl Tryz.prog 136 [.string (mk a), .string (mk b)] w (V w (.bool (underS a b))) := by
  refine calls_start 26 Tryz.func136 rfl rfl rfl ?_
  repeat' (first | (apply isL; first | apply L_nil | refine L_move rfl rfl ?_ | (apply isGuarded; first | refine L_guard_dec rfl rfl (fun hg => ?_) (fun hg => ?_) | refine L_guard_yes rfl rfl ?_ | refine L_guard_no rfl rfl rfl rfl ?_ | refine L_guard_undef rfl rfl rfl ?_ | refine L_guard_split rfl rfl (fun hg => ?_) (fun hg => ?_)) | (apply isCall; first | refine L_do rfl rfl rfl (do_lenS rfl) ?_ | refine L_do rfl rfl rfl (do_lenStr rfl) ?_ ) | (apply isBin; first | refine L_do rfl rfl rfl (do_cmp rfl rfl rfl) ?_ | refine L_do rfl rfl rfl (do_cmpStr rfl rfl rfl) ?_ ) | refine L_assign rfl rfl ?_ | refine L_do rfl rfl rfl (do_pick_true rfl rfl) ?_ | refine L_do rfl rfl rfl (do_pick_false rfl rfl) ?_ | refine L_do rfl rfl rfl (do_sliceSH rfl rfl om_ om_) ?_ ) | (apply isW; first | apply W_seq | apply W_region | refine W_cond_dec rfl (fun hg => ?_) (fun hg => ?_) | refine W_cond_true rfl ?_ | refine W_cond_false rfl ?_ | refine W_cond rfl (fun hg => ?_) (fun hg => ?_) | apply W_skip | apply W_ret | apply W_exit | apply W_block) | (apply isAt; first | apply At_then | apply At_then_ret | apply At_then_exit | apply At_block_normal | apply At_block_ret | apply At_block_hit | refine At_block_miss rfl ?_ | refine At_end1 rfl rfl ?_ | refine At_end1n rfl rfl ?_ | refine At_end2 rfl rfl rfl ?_ | refine At_end3 rfl rfl rfl rfl ?_ | refine At_end4 rfl rfl rfl rfl rfl ?_ | refine At_end5 rfl rfl rfl rfl rfl rfl ?_ | refine At_mix kp_ ?_))
  all_goals (refine ⟨?_, bw_⟩; congr 1; unfold underS)
  all_goals first | (simp_all; done) | (rw [Bool.eq_iff_iff]; simp_all; done) | (rw [Bool.eq_iff_iff]; simp_all; omega)

theorem cov_no {ig : List Str} {p : Str} (h : ∀ s ∈ ig, ¬ s = p ∧ under s p = false) : covB ig p = false := by
  unfold covB; rw [List.any_eq_false]; intro s hs; have := h s hs; simp [this]
theorem cov_yes {ig : List Str} {p s : Str} (hs : s ∈ ig) (h : s = p ∨ under s p = true) : covB ig p = true := by
  unfold covB; rw [List.any_eq_true]; exact ⟨s, hs, by simpa using h⟩
theorem ign_short {ig : List Str} (h : ignOk ig = true) {s : Str} (hs : s ∈ ig) : s.length ≤ 8 := isPath_len (igs_path h hs).1
theorem filter_step {α : Type} {q : α → Bool} {xs : List α} {k : Nat} {y : α} (hy : xs[k]? = some y) : (xs.take (k + 1)).filter q = (xs.take k).filter q ++ (if q y then [y] else []) := by
  rw [List.take_add_one, hy, List.filter_append]
  cases h : q y <;> simp [h]
theorem log_le {cs : List Cm} (h : logOk cs = true) : cs.length ≤ 20 := by unfold logOk at h; simp at h; omega
theorem log_at {cs : List Cm} (h : logOk cs = true) {k : Nat} {c : Cm} (hc : cs[k]? = some c) : cmOk c = true := by
  unfold logOk at h
  simp only [Bool.and_eq_true, List.all_eq_true] at h
  exact h.2 c (List.mem_of_getElem? hc)
end Go.Proofs.YtjobbcdolbhadaaGreatDoor
