/-
  Contracts: the tree of the side that wins, by the program's function and by the reference's.
-/
import Derived.Test.YtjncnmokafgigaaGreatDoorPairTr
namespace Go.Proofs.YtjncnmokafgigaaGreatDoor
open Go Go.RowKit
set_option linter.unusedVariables false
set_option linter.unusedSimpArgs false

theorem res_a {t : List Nd} {a b : List Cm} : resolveTree t a b 1 = pairTree t a b := by unfold resolveTree; rw [if_pos rfl]
theorem res_b {t : List Nd} {a b : List Cm} : resolveTree t a b 2 = pairTree t b a := by unfold resolveTree; rw [if_neg (by decide), if_pos rfl]
theorem res_no {t : List Nd} {a b : List Cm} {s : Int} (h : ¬ s = 1) (h2 : ¬ s = 2) : resolveTree t a b s = none := by unfold resolveTree; rw [if_neg h, if_neg h2]
theorem c_implResolveTree {v v1 v2 : Value} {ts : List Nd} {xs ys : List Cm} {s : Int} {w : World} (ht : RdL tNd w v ts) (h : RdL tCm w v1 xs) (h2 : RdL tCm w v2 ys) (hm : MLen w) (hst : ShortN ts) (hsh : ShortC xs) (hsh2 : ShortC ys) : Cl Tryz.prog 15 [v, v1, v2, .int .i64 s] w (fun u w' => ∃ r, u = .tuple #[r, .bool (resolveTree ts xs ys s).isSome] ∧ OwL tNd w' w.heap.size 69 r ((resolveTree ts xs ys s).getD []) ∧ Below w.heap.size w w') := by
  refine calls_start 27 Tryz.func15 rfl rfl rfl ?_
  by_cases e1 : s = 1
  · subst e1
    repeat' (first | (apply isL; first | apply L_nil | refine L_move rfl rfl ?_ | (apply isCall; first | (refine L_call rfl rfl (c_implPairTree ht h h2 hm hst hsh hsh2) (fun _ w2 hR => ?_); obtain ⟨r2, rfl, hO2, hB2⟩ := hR) ) | (apply isBin; first | refine L_do rfl rfl rfl (do_cmp rfl rfl rfl) ?_ ) | refine L_assign rfl rfl ?_ | refine L_do rfl rfl rfl (do_extract rfl rfl) ?_ ) | (apply isW; first | apply W_seq | apply W_region | refine W_cond_dec rfl (fun hg => ?_) (fun hg => ?_) | refine W_cond_true rfl ?_ | refine W_cond_false rfl ?_ | refine W_cond rfl (fun hg => ?_) (fun hg => ?_) | apply W_skip | apply W_ret | apply W_exit | apply W_block) | (apply isAt; first | apply At_then | apply At_then_ret | apply At_then_exit | apply At_block_normal | apply At_block_ret | apply At_block_hit | refine At_block_miss rfl ?_ | refine At_end1 rfl rfl ?_ | refine At_end1n rfl rfl ?_ | refine At_end2 rfl rfl rfl ?_ | refine At_end3 rfl rfl rfl rfl ?_ | refine At_end4 rfl rfl rfl rfl rfl ?_ | refine At_end5 rfl rfl rfl rfl rfl rfl ?_ | refine At_mix kp_ ?_))
    all_goals first | (exfalso; omega) | skip
    rw [res_a]
    exact ⟨r2, rfl, hO2, hB2⟩
  · by_cases e2 : s = 2
    · subst e2
      repeat' (first | (apply isL; first | apply L_nil | refine L_move rfl rfl ?_ | (apply isCall; first | (refine L_call rfl rfl (c_implPairTree ht h2 h hm hst hsh2 hsh) (fun _ w2 hR => ?_); obtain ⟨r2, rfl, hO2, hB2⟩ := hR) ) | (apply isBin; first | refine L_do rfl rfl rfl (do_cmp rfl rfl rfl) ?_ ) | refine L_assign rfl rfl ?_ | refine L_do rfl rfl rfl (do_extract rfl rfl) ?_ ) | (apply isW; first | apply W_seq | apply W_region | refine W_cond_dec rfl (fun hg => ?_) (fun hg => ?_) | refine W_cond_true rfl ?_ | refine W_cond_false rfl ?_ | refine W_cond rfl (fun hg => ?_) (fun hg => ?_) | apply W_skip | apply W_ret | apply W_exit | apply W_block) | (apply isAt; first | apply At_then | apply At_then_ret | apply At_then_exit | apply At_block_normal | apply At_block_ret | apply At_block_hit | refine At_block_miss rfl ?_ | refine At_end1 rfl rfl ?_ | refine At_end1n rfl rfl ?_ | refine At_end2 rfl rfl rfl ?_ | refine At_end3 rfl rfl rfl rfl ?_ | refine At_end4 rfl rfl rfl rfl rfl ?_ | refine At_end5 rfl rfl rfl rfl rfl rfl ?_ | refine At_mix kp_ ?_))
      all_goals first | (exfalso; omega) | skip
      rw [res_b]
      exact ⟨r2, rfl, hO2, hB2⟩
    · repeat' (first | (apply isL; first | apply L_nil | refine L_move rfl rfl ?_ | (apply isBin; first | refine L_do rfl rfl rfl (do_cmp rfl rfl rfl) ?_ ) | refine L_assign rfl rfl ?_ | refine L_do rfl rfl rfl (do_extract rfl rfl) ?_ ) | (apply isW; first | apply W_seq | apply W_region | refine W_cond_dec rfl (fun hg => ?_) (fun hg => ?_) | refine W_cond_true rfl ?_ | refine W_cond_false rfl ?_ | refine W_cond rfl (fun hg => ?_) (fun hg => ?_) | apply W_skip | apply W_ret | apply W_exit | apply W_block) | (apply isAt; first | apply At_then | apply At_then_ret | apply At_then_exit | apply At_block_normal | apply At_block_ret | apply At_block_hit | refine At_block_miss rfl ?_ | refine At_end1 rfl rfl ?_ | refine At_end1n rfl rfl ?_ | refine At_end2 rfl rfl rfl ?_ | refine At_end3 rfl rfl rfl rfl ?_ | refine At_end4 rfl rfl rfl rfl rfl ?_ | refine At_end5 rfl rfl rfl rfl rfl rfl ?_ | refine At_mix kp_ ?_))
      all_goals first | (exfalso; omega) | skip
      rw [res_no e1 e2]
      exact ⟨_, rfl, own_nil0, Below.refl _ _⟩
theorem c_l22Side {s : Int} {w : World} : Cl Tryz.prog 45 [.int .i64 s] w (V w (.bool (decide (s = 1 ∨ s = 2)))) := by
  refine calls_start 9 Tryz.func45 rfl rfl rfl ?_
  repeat' (first | (apply isL; first | apply L_nil | refine L_move rfl rfl ?_ | (apply isGuarded; first | refine L_guard_dec rfl rfl (fun hg => ?_) (fun hg => ?_) | refine L_guard_yes rfl rfl ?_ | refine L_guard_no rfl rfl rfl rfl ?_ | refine L_guard_undef rfl rfl rfl ?_ | refine L_guard_split rfl rfl (fun hg => ?_) (fun hg => ?_)) | (apply isBin; first | refine L_do rfl rfl rfl (do_cmp rfl rfl rfl) ?_ ) | refine L_assign rfl rfl ?_ | refine L_do rfl rfl rfl (do_pick_true rfl rfl) ?_ | refine L_do rfl rfl rfl (do_pick_false rfl rfl) ?_ ) | (apply isW; first | apply W_seq | apply W_region | refine W_cond_dec rfl (fun hg => ?_) (fun hg => ?_) | refine W_cond_true rfl ?_ | refine W_cond_false rfl ?_ | refine W_cond rfl (fun hg => ?_) (fun hg => ?_) | apply W_skip | apply W_ret | apply W_exit | apply W_block) | (apply isAt; first | apply At_then | apply At_then_ret | apply At_then_exit | apply At_block_normal | apply At_block_ret | apply At_block_hit | refine At_block_miss rfl ?_ | refine At_end1 rfl rfl ?_ | refine At_end1n rfl rfl ?_ | refine At_end2 rfl rfl rfl ?_ | refine At_end3 rfl rfl rfl rfl ?_ | refine At_end4 rfl rfl rfl rfl rfl ?_ | refine At_end5 rfl rfl rfl rfl rfl rfl ?_ | refine At_mix kp_ ?_))
  all_goals (refine ⟨?_, Below.refl _ _⟩; simp [*])
theorem c_l22Tree {v v1 v2 : Value} {ts : List Nd} {xs ys : List Cm} {s : Int} {w : World} (ht : RdL tNd w v ts) (h : RdL tCm w v1 xs) (h2 : RdL tCm w v2 ys) (hst : ShortN ts) (hsh : ShortC xs) (hsh2 : ShortC ys) (hs : s = 1 ∨ s = 2) : Cl Tryz.prog 46 [v, v1, v2, .int .i64 s] w (fun u w' => ∃ r, u = .tuple #[r, .bool (resolveTree ts xs ys s).isSome] ∧ OwL tNd w' w.heap.size 69 r ((resolveTree ts xs ys s).getD []) ∧ Below w.heap.size w w') := by
  refine calls_start 24 Tryz.func46 rfl rfl rfl ?_
  rcases hs with rfl | rfl
  · repeat' (first | (apply isL; first | apply L_nil | refine L_move rfl rfl ?_ | (apply isCall; first | (refine L_call rfl rfl (c_specPairTree ht h h2 hst hsh hsh2) (fun _ w2 hR => ?_); obtain ⟨r2, rfl, hO2, hB2⟩ := hR) ) | (apply isBin; first | refine L_do rfl rfl rfl (do_cmp rfl rfl rfl) ?_ ) | refine L_assign rfl rfl ?_ | refine L_do rfl rfl rfl (do_extract rfl rfl) ?_ ) | (apply isW; first | apply W_seq | apply W_region | refine W_cond_dec rfl (fun hg => ?_) (fun hg => ?_) | refine W_cond_true rfl ?_ | refine W_cond_false rfl ?_ | refine W_cond rfl (fun hg => ?_) (fun hg => ?_) | apply W_skip | apply W_ret | apply W_exit | apply W_block) | (apply isAt; first | apply At_then | apply At_then_ret | apply At_then_exit | apply At_block_normal | apply At_block_ret | apply At_block_hit | refine At_block_miss rfl ?_ | refine At_end1 rfl rfl ?_ | refine At_end1n rfl rfl ?_ | refine At_end2 rfl rfl rfl ?_ | refine At_end3 rfl rfl rfl rfl ?_ | refine At_end4 rfl rfl rfl rfl rfl ?_ | refine At_end5 rfl rfl rfl rfl rfl rfl ?_ | refine At_mix kp_ ?_))
    all_goals first | (exfalso; omega) | skip
    rw [res_a]
    exact ⟨r2, rfl, hO2, hB2⟩
  · repeat' (first | (apply isL; first | apply L_nil | refine L_move rfl rfl ?_ | (apply isCall; first | (refine L_call rfl rfl (c_specPairTree ht h2 h hst hsh2 hsh) (fun _ w2 hR => ?_); obtain ⟨r2, rfl, hO2, hB2⟩ := hR) ) | (apply isBin; first | refine L_do rfl rfl rfl (do_cmp rfl rfl rfl) ?_ ) | refine L_assign rfl rfl ?_ | refine L_do rfl rfl rfl (do_extract rfl rfl) ?_ ) | (apply isW; first | apply W_seq | apply W_region | refine W_cond_dec rfl (fun hg => ?_) (fun hg => ?_) | refine W_cond_true rfl ?_ | refine W_cond_false rfl ?_ | refine W_cond rfl (fun hg => ?_) (fun hg => ?_) | apply W_skip | apply W_ret | apply W_exit | apply W_block) | (apply isAt; first | apply At_then | apply At_then_ret | apply At_then_exit | apply At_block_normal | apply At_block_ret | apply At_block_hit | refine At_block_miss rfl ?_ | refine At_end1 rfl rfl ?_ | refine At_end1n rfl rfl ?_ | refine At_end2 rfl rfl rfl ?_ | refine At_end3 rfl rfl rfl rfl ?_ | refine At_end4 rfl rfl rfl rfl rfl ?_ | refine At_end5 rfl rfl rfl rfl rfl rfl ?_ | refine At_mix kp_ ?_))
    all_goals first | (exfalso; omega) | skip
    rw [res_b]
    exact ⟨r2, rfl, hO2, hB2⟩
theorem c_implResolveTree_some {v v1 v2 : Value} {ts : List Nd} {xs ys : List Cm} {s : Int} {w : World} {O : List Nd} (hP : resolveTree ts xs ys s = some O) (ht : RdL tNd w v ts) (h : RdL tCm w v1 xs) (h2 : RdL tCm w v2 ys) (hm : MLen w) (hst : ShortN ts) (hsh : ShortC xs) (hsh2 : ShortC ys) : Cl Tryz.prog 15 [v, v1, v2, .int .i64 s] w (fun u w' => ∃ r, u = .tuple #[r, .bool true] ∧ OwL tNd w' w.heap.size 69 r O ∧ Below w.heap.size w w') := by
  have := c_implResolveTree (s := s) ht h h2 hm hst hsh hsh2
  rw [hP] at this; exact this
theorem c_implResolveTree_none {v v1 v2 : Value} {ts : List Nd} {xs ys : List Cm} {s : Int} {w : World} (hP : resolveTree ts xs ys s = none) (ht : RdL tNd w v ts) (h : RdL tCm w v1 xs) (h2 : RdL tCm w v2 ys) (hm : MLen w) (hst : ShortN ts) (hsh : ShortC xs) (hsh2 : ShortC ys) : Cl Tryz.prog 15 [v, v1, v2, .int .i64 s] w (fun u w' => ∃ r, u = .tuple #[r, .bool false] ∧ OwL tNd w' w.heap.size 69 r [] ∧ Below w.heap.size w w') := by
  have := c_implResolveTree (s := s) ht h h2 hm hst hsh hsh2
  rw [hP] at this; exact this
end Go.Proofs.YtjncnmokafgigaaGreatDoor
