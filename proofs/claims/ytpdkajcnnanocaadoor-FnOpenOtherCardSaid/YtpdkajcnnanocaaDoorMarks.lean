/-
  Contracts: numbers are written over all elements, and looked at again (how an exact law tells that memory is not shared).
-/
import Derived.Test.YtpdkajcnnanocaaDoorBase2
namespace Go.Proofs.YtpdkajcnnanocaaDoor
open Go Go.RowKit
set_option linter.unusedVariables false

def marks (k : Int) (n : Nat) : List Int := (List.range n).map (fun i : Nat => k + (i : Int))
theorem marks_len (k : Int) (n : Nat) : (marks k n).length = n := by simp [marks]
theorem marks_at {k : Int} {n i : Nat} (h : i < n) : (marks k n)[i]? = some (k + i) := by simp [marks, h]
theorem marks_set {k : Int} {xs : List Int} {i : Nat} (h : i < xs.length) : (marks k i ++ xs.drop i).set i (k + i) = marks k (i + 1) ++ xs.drop (i + 1) := by
  rw [List.set_append_right _ _ (by rw [marks_len]; omega), marks_len, Nat.sub_self, List.drop_eq_getElem_cons h, List.set_cons_zero]
  simp [marks, List.range_succ]

theorem c_markIntS {v : Value} {xs : List Int} {w : World} {base : Nat} {k0 : Int} (h : OwL tInt w base 3 v xs) (h0 : 0 ≤ k0) (h1 : k0 + xs.length ≤ 4611686018427387904) :
    Cl Tryd.prog 24 [v, .int .i64 k0] w (fun u w' => u = .int .i64 (k0 + xs.length) ∧ OwL tInt w' base 3 v (marks k0 xs.length) ∧ w.grownBy w' v.ownBlock ∧ w'.heap.size = w.heap.size) := by
  refine calls_start 19 Tryd.func24 rfl rfl rfl ?_
  repeat' (first | (apply isL; first | apply L_nil | refine L_move rfl rfl ?_ | (apply isCall; first | refine L_lenL rfl rd_ rfl (fun hlen => ?_) ) | (apply isBin; first | refine L_do rfl rfl rfl (do_cmp rfl rfl rfl) ?_ | refine L_do rfl rfl rfl (do_add rfl rfl om_) ?_ ) | refine L_assign rfl rfl ?_ | refine L_indexL rfl rfl rd_ (by rfl) om_ om_ rfl (fun a y hy hab hp => ?_) ) | (apply isW; first | apply W_seq | apply W_region | refine W_cond_dec rfl (fun hg => ?_) (fun hg => ?_) | refine W_cond_true rfl ?_ | refine W_cond_false rfl ?_ | refine W_cond rfl (fun hg => ?_) (fun hg => ?_) | apply W_skip | apply W_ret | apply W_exit | apply W_block) | (apply isAt; first | apply At_then | apply At_then_ret | apply At_then_exit | apply At_block_normal | apply At_block_ret | apply At_block_hit | refine At_block_miss rfl ?_ | refine At_end1 rfl rfl ?_ | refine At_end1n rfl rfl ?_ | refine At_end2 rfl rfl rfl ?_ | refine At_end3 rfl rfl rfl rfl ?_ | refine At_end4 rfl rfl rfl rfl rfl ?_ | refine At_mix kp_ ?_))
  refine W_loopF (fun m fr w' => ∃ k : Nat, m = xs.length - k ∧ k ≤ xs.length ∧ fr = [(0, v), (1, .int .i64 (k0 + k)), (5, .int .i64 k)] ∧ OwL tInt w' base 3 v (marks k0 k ++ xs.drop k) ∧ w.grownBy w' v.ownBlock ∧ w'.heap.size = w.heap.size) xs.length
    [(0, v), (1, .int .i64 (k0 + (0 : Nat))), (5, .int .i64 0)] (by rw [show k0 + ((0 : Nat) : Int) = k0 by simp]; repeat (first | exact get_nil_slots _ | refine get_cons_slots rfl ?_)) ⟨0, rfl, Nat.zero_le _, rfl, by simpa [marks] using h, World.grownBy.refl _ _, rfl⟩ ?_
  rintro _ _ w' ⟨k, rfl, hk, rfl, hI, hgw, hz⟩
  have hrd := hI.rd
  have hll : (marks k0 k ++ xs.drop k).length = xs.length := by simp [marks_len]; omega
  rcases Nat.lt_or_ge k xs.length with hkl | hkl
  · have hO := hI
    obtain ⟨y0, hy0⟩ : ∃ y0, (marks k0 k ++ xs.drop k)[k]? = some y0 := ⟨_, List.getElem?_eq_getElem (by omega)⟩
    repeat' (first | (apply isL; first | apply L_nil | refine L_move rfl rfl ?_ | (apply isCall; first | refine L_lenL rfl rd_ rfl (fun hlen => ?_) | refine L_lenL rfl hrd rfl (fun hlen => ?_) ) | (apply isBin; first | refine L_do rfl rfl rfl (do_cmp rfl rfl rfl) ?_ | refine L_do rfl rfl rfl (do_add rfl rfl om_) ?_ ) | refine L_assign rfl rfl ?_ | refine L_indexOwn rfl rfl hO rfl om_ om_ rfl (fun ge ye hye hge => ?_) | refine L_storeElemG (off := 0) (k := k) rfl rfl hO rfl hge hy0 (cs := [.int .i64 (k0 + k)]) rfl rfl (by simp [Value.oneCell']) (Nat.le_of_ble_eq_true rfl) (y1 := k0 + k) rfl (fun w8 hO8 hg8 hz8 => ?_) | refine L_indexL rfl rfl rd_ (by rfl) om_ om_ rfl (fun a y hy hab hp => ?_) ) | (apply isW; first | apply W_seq | apply W_region | refine W_cond_dec rfl (fun hg => ?_) (fun hg => ?_) | refine W_cond_true rfl ?_ | refine W_cond_false rfl ?_ | refine W_cond rfl (fun hg => ?_) (fun hg => ?_) | apply W_skip | apply W_ret | apply W_exit | apply W_block) | (apply isAt; first | apply At_then | apply At_then_ret | apply At_then_exit | apply At_block_normal | apply At_block_ret | apply At_block_hit | refine At_block_miss rfl ?_ | refine At_end1 rfl rfl ?_ | refine At_end1n rfl rfl ?_ | refine At_end2 rfl rfl rfl ?_ | refine At_end3 rfl rfl rfl rfl ?_ | refine At_end4 rfl rfl rfl rfl rfl ?_ | refine At_mix kp_ ?_))
    · rw [marks_set hkl] at hO8
      exact At_round _ [(0, v), (1, .int .i64 (k0 + ((k + 1 : Nat) : Int))), (5, .int .i64 ((k + 1 : Nat) : Int))] (by rw [show k0 + ((k + 1 : Nat) : Int) = k0 + k + 1 by omega]; repeat (first | exact get_nil_slots _ | refine get_cons_slots rfl ?_)) (by omega) ⟨k + 1, rfl, by omega, rfl, hO8, kp_row hgw (by rw [hge]; exact hg8), by omega⟩
    · exfalso; omega
  · repeat' (first | (apply isL; first | apply L_nil | refine L_move rfl rfl ?_ | (apply isCall; first | refine L_lenL rfl rd_ rfl (fun hlen => ?_) ) | (apply isBin; first | refine L_do rfl rfl rfl (do_cmp rfl rfl rfl) ?_ | refine L_do rfl rfl rfl (do_add rfl rfl om_) ?_ ) | refine L_assign rfl rfl ?_ | refine L_indexL rfl rfl rd_ (by rfl) om_ om_ rfl (fun a y hy hab hp => ?_) ) | (apply isW; first | apply W_seq | apply W_region | refine W_cond_dec rfl (fun hg => ?_) (fun hg => ?_) | refine W_cond_true rfl ?_ | refine W_cond_false rfl ?_ | refine W_cond rfl (fun hg => ?_) (fun hg => ?_) | apply W_skip | apply W_ret | apply W_exit | apply W_block) | (apply isAt; first | apply At_then | apply At_then_ret | apply At_then_exit | apply At_block_normal | apply At_block_ret | apply At_block_hit | refine At_block_miss rfl ?_ | refine At_end1 rfl rfl ?_ | refine At_end1n rfl rfl ?_ | refine At_end2 rfl rfl rfl ?_ | refine At_end3 rfl rfl rfl rfl ?_ | refine At_end4 rfl rfl rfl rfl rfl ?_ | refine At_mix kp_ ?_))
    · exfalso; omega
    · have hkk : k = xs.length := by omega
      subst hkk
      rw [List.drop_length, List.append_nil] at hI
      exact ⟨rfl, hI, hgw, hz⟩

theorem c_eqIntS_self {v v2 : Value} {xs : List Int} {w : World} (h : RdL tInt w v xs) (h2 : RdL tInt w v2 xs) : Cl Tryd.prog 44 [v, v2] w (V w (.bool true)) := by
  have := c_eqIntS h h2
  rwa [decide_eq_true rfl] at this
end Go.Proofs.YtpdkajcnnanocaaDoor
