/-
  Contracts: lists of texts in an exact law: sizes with what is left, equality with itself, marks.
-/
import Derived.Test.YtjjmcdakmgeanaaGreatDoorIgnores
import Derived.Test.YtjjmcdakmgeanaaGreatDoorCmMarks
namespace Go.Proofs.YtjjmcdakmgeanaaGreatDoor
open Go Go.RowKit
set_option linter.unusedVariables false
set_option linter.unusedSimpArgs false

theorem c_eqStringS_self {v v2 : Value} {xs : List Str} {w : World} (h : RdL tStr w v xs) (h2 : RdL tStr w v2 xs) : Cl Tryz.prog 38 [v, v2] w (V w (.bool true)) := by
  have := c_eqStringS h h2
  rwa [decide_eq_true rfl] at this
def marksS (k : Int) (n : Nat) : List Str := (List.range n).map (fun i : Nat => mtext (k + i))
theorem marksS_len (k : Int) (n : Nat) : (marksS k n).length = n := by simp [marksS]
theorem marksS_set {k : Int} {xs : List Str} {i : Nat} (h : i < xs.length) : (marksS k i ++ xs.drop i).set i (mtext (k + i)) = marksS k (i + 1) ++ xs.drop (i + 1) := by
  rw [List.set_append_right _ _ (by rw [marksS_len]; omega), marksS_len, Nat.sub_self, List.drop_eq_getElem_cons h, List.set_cons_zero]
  simp [marksS, List.range_succ]
theorem c_markStringS {v : Value} {xs : List Str} {w : World} {base : Nat} {k0 : Int} (h : OwL tStr w base 9 v xs) (h0 : 0 < k0) (h1 : k0 + xs.length ≤ 4611686018427387904) :
    Cl Tryz.prog 39 [v, .int .i64 k0] w (fun u w' => u = .int .i64 (k0 + xs.length) ∧ OwL tStr w' base 9 v (marksS k0 xs.length) ∧ w.grownBy w' v.ownBlock) := by
  refine calls_start 20 Tryz.func39 rfl rfl rfl ?_
  repeat' (first | (apply isL; first | apply L_nil | refine L_move rfl rfl ?_ | (apply isCall; first | refine L_lenL rfl rd_ rfl (fun hlen => ?_) ) | (apply isBin; first | refine L_do rfl rfl rfl (do_cmp rfl rfl rfl) ?_ | refine L_do rfl rfl rfl (do_add rfl rfl om_) ?_ ) | refine L_assign rfl rfl ?_ | refine L_indexL rfl rfl rd_ (by rfl) om_ om_ rfl (fun a y hy hab hp => ?_) ) | (apply isW; first | apply W_seq | apply W_region | refine W_cond_dec rfl (fun hg => ?_) (fun hg => ?_) | refine W_cond_true rfl ?_ | refine W_cond_false rfl ?_ | refine W_cond rfl (fun hg => ?_) (fun hg => ?_) | apply W_skip | apply W_ret | apply W_exit | apply W_block) | (apply isAt; first | apply At_then | apply At_then_ret | apply At_then_exit | apply At_block_normal | apply At_block_ret | apply At_block_hit | refine At_block_miss rfl ?_ | refine At_end1 rfl rfl ?_ | refine At_end1n rfl rfl ?_ | refine At_end2 rfl rfl rfl ?_ | refine At_end3 rfl rfl rfl rfl ?_ | refine At_end4 rfl rfl rfl rfl rfl ?_ | refine At_end5 rfl rfl rfl rfl rfl rfl ?_ | refine At_mix kp_ ?_))
  refine W_loopF (fun m fr w' => ∃ k : Nat, m = xs.length - k ∧ k ≤ xs.length ∧ fr = [(0, v), (1, .int .i64 (k0 + k)), (5, .int .i64 k)] ∧ OwL tStr w' base 9 v (marksS k0 k ++ xs.drop k) ∧ w.grownBy w' v.ownBlock) xs.length
    [(0, v), (1, .int .i64 (k0 + (0 : Nat))), (5, .int .i64 0)] (by rw [show k0 + ((0 : Nat) : Int) = k0 by simp]; repeat (first | exact get_nil_slots _ | refine get_cons_slots rfl ?_)) ⟨0, rfl, Nat.zero_le _, rfl, by simpa [marksS] using h, World.grownBy.refl _ _⟩ ?_
  rintro _ _ w' ⟨k, rfl, hk, rfl, hI, hgw⟩
  have hrd := hI.rd
  have hll : (marksS k0 k ++ xs.drop k).length = xs.length := by simp [marksS_len]; omega
  rcases Nat.lt_or_ge k xs.length with hkl | hkl
  · obtain ⟨c, hc⟩ : ∃ c, (marksS k0 k ++ xs.drop k)[k]? = some c := ⟨_, List.getElem?_eq_getElem (by omega)⟩
    repeat' (first | (apply isL; first | apply L_nil | refine L_move rfl rfl ?_ | (apply isCall; first | refine L_lenL rfl rd_ rfl (fun hlen => ?_) | refine L_lenL rfl hrd rfl (fun hlen => ?_) | (refine L_callV rfl rfl (c_markText (k0 := k0 + k) om_ om_) (fun w2 hB2 => ?_); have hO2 := hI.ext hB2) ) | (apply isBin; first | refine L_do rfl rfl rfl (do_cmp rfl rfl rfl) ?_ | refine L_do rfl rfl rfl (do_add rfl rfl om_) ?_ ) | refine L_assign rfl rfl ?_ | refine L_indexOwn rfl rfl hO2 rfl om_ om_ rfl (fun ge ye hye hge => ?_) | (refine L_storeElemG (off := 0) (k := k) rfl rfl hO2 rfl hge hc (cs := [.string (mk (mtext (k0 + k)))]) rfl rfl (by simp [Value.oneCell']) (Nat.le_of_ble_eq_true rfl) (y1 := mtext (k0 + k)) rfl (fun w3 hO3 hgg3 hz3 => ?_); have hg3 : World.grownBy _ w3 v.ownBlock := (by rw [hge]; exact hgg3)) | refine L_indexL rfl rfl rd_ (by rfl) om_ om_ rfl (fun a y hy hab hp => ?_) ) | (apply isW; first | apply W_seq | apply W_region | refine W_cond_dec rfl (fun hg => ?_) (fun hg => ?_) | refine W_cond_true rfl ?_ | refine W_cond_false rfl ?_ | refine W_cond rfl (fun hg => ?_) (fun hg => ?_) | apply W_skip | apply W_ret | apply W_exit | apply W_block) | (apply isAt; first | apply At_then | apply At_then_ret | apply At_then_exit | apply At_block_normal | apply At_block_ret | apply At_block_hit | refine At_block_miss rfl ?_ | refine At_end1 rfl rfl ?_ | refine At_end1n rfl rfl ?_ | refine At_end2 rfl rfl rfl ?_ | refine At_end3 rfl rfl rfl rfl ?_ | refine At_end4 rfl rfl rfl rfl rfl ?_ | refine At_end5 rfl rfl rfl rfl rfl rfl ?_ | refine At_mix kp_ ?_))
    · rw [marksS_set hkl] at hO3
      exact At_round _ [(0, v), (1, .int .i64 (k0 + ((k + 1 : Nat) : Int))), (5, .int .i64 ((k + 1 : Nat) : Int))] (by rw [show k0 + ((k + 1 : Nat) : Int) = k0 + k + 1 by omega]; repeat (first | exact get_nil_slots _ | refine get_cons_slots rfl ?_)) (by omega) ⟨k + 1, rfl, by omega, rfl, hO3, kp_row (kp_below hgw hB2) hg3⟩
    · exfalso; omega
  · repeat' (first | (apply isL; first | apply L_nil | refine L_move rfl rfl ?_ | (apply isCall; first | refine L_lenL rfl rd_ rfl (fun hlen => ?_) ) | (apply isBin; first | refine L_do rfl rfl rfl (do_cmp rfl rfl rfl) ?_ | refine L_do rfl rfl rfl (do_add rfl rfl om_) ?_ ) | refine L_assign rfl rfl ?_ | refine L_indexL rfl rfl rd_ (by rfl) om_ om_ rfl (fun a y hy hab hp => ?_) ) | (apply isW; first | apply W_seq | apply W_region | refine W_cond_dec rfl (fun hg => ?_) (fun hg => ?_) | refine W_cond_true rfl ?_ | refine W_cond_false rfl ?_ | refine W_cond rfl (fun hg => ?_) (fun hg => ?_) | apply W_skip | apply W_ret | apply W_exit | apply W_block) | (apply isAt; first | apply At_then | apply At_then_ret | apply At_then_exit | apply At_block_normal | apply At_block_ret | apply At_block_hit | refine At_block_miss rfl ?_ | refine At_end1 rfl rfl ?_ | refine At_end1n rfl rfl ?_ | refine At_end2 rfl rfl rfl ?_ | refine At_end3 rfl rfl rfl rfl ?_ | refine At_end4 rfl rfl rfl rfl rfl ?_ | refine At_end5 rfl rfl rfl rfl rfl rfl ?_ | refine At_mix kp_ ?_))
    · exfalso; omega
    · have hkk : k = xs.length := by omega
      subst hkk
      rw [List.drop_length, List.append_nil] at hI
      exact ⟨rfl, hI, hgw⟩
end Go.Proofs.YtjjmcdakmgeanaaGreatDoor
