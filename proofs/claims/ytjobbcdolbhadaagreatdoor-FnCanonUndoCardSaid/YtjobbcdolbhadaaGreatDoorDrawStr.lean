/-
  Contracts of the draws: a text of a list, a path, ignored paths.
-/
import Derived.Test.YtjobbcdolbhadaaGreatDoorDraw
namespace Go.Proofs.YtjobbcdolbhadaaGreatDoor
open Go Go.RowKit
set_option linter.unusedVariables false

theorem c_of {g p : Nat} {v : Value} {xs : List Str} {w : World} (h : Rdr w g p) (hx : RdL tStr w v xs) (hne : v.ownBlock ≠ some g) (h1 : 1 ≤ xs.length) (h2 : xs.length ≤ 1000) (hp : p ≤ 1000000) :
    Cl Tryz.prog 106 [.pointer (some ⟨g, 0, none⟩), v] w (fun u w' => ∃ s, u = .string (mk s) ∧ s ∈ xs ∧ Rdr w' g (p + 1) ∧ w.grownBy w' (some g)) := by
  refine calls_start 12 Tryz.func106 rfl rfl rfl ?_
  repeat' (first | (apply isL; first | apply L_nil | refine L_move rfl rfl ?_ | (apply isCall; first | refine L_lenL rfl rd_ rfl (fun hlen => ?_) | (refine L_call rfl rfl (c_pick h om_ om_) (fun _ w2 hR => ?_); obtain ⟨k2, rfl, hk0, hkn, hr2, hg2⟩ := hR; have hx2 := hx.grown hg2 (fun b hb e => hne (by rw [hb, e]))) ) | (apply isLoad; first | refine L_loadPt rfl (by rfl) pt_ (by rfl) rfl ?_ | refine L_loadPt2 rfl (by rfl) pt_ (by rfl) rfl ?_ | refine L_loadPt0 rfl pt_ (by rfl) rfl ?_ | refine L_loadAgg rfl pt_ (by rfl) rfl ?_ | refine L_loadSub rfl (by rfl) pt_ (by rfl) rfl ?_) | refine L_assign rfl rfl ?_ | refine L_indexL rfl rfl rd_ (by rfl) om_ om_ rfl (fun a y hy hab hp => ?_) ) | (apply isW; first | apply W_seq | apply W_region | refine W_cond_dec rfl (fun hg => ?_) (fun hg => ?_) | refine W_cond_true rfl ?_ | refine W_cond_false rfl ?_ | refine W_cond rfl (fun hg => ?_) (fun hg => ?_) | apply W_skip | apply W_ret | apply W_exit | apply W_block) | (apply isAt; first | apply At_then | apply At_then_ret | apply At_then_exit | apply At_block_normal | apply At_block_ret | apply At_block_hit | refine At_block_miss rfl ?_ | refine At_end1 rfl rfl ?_ | refine At_end1n rfl rfl ?_ | refine At_end2 rfl rfl rfl ?_ | refine At_end3 rfl rfl rfl rfl ?_ | refine At_end4 rfl rfl rfl rfl rfl ?_ | refine At_end5 rfl rfl rfl rfl rfl rfl ?_ | refine At_mix kp_ ?_))
  exact ⟨y, rfl, List.mem_of_getElem? hy, hr2, hg2⟩

theorem c_l91Path {g p : Nat} {w : World} (h : Rdr w g p) (hp : p ≤ 500000) :
    Cl Tryz.prog 134 [.pointer (some ⟨g, 0, none⟩)] w (fun u w' => ∃ (s : Str) (p' : Nat), u = .string (mk s) ∧ s.length ≤ 20 ∧ Rdr w' g p' ∧ p' ≤ p + 10 ∧ w.grownBy w' (some g)) := by
  refine calls_start 30 Tryz.func134 rfl rfl rfl ?_
  have hlt := h.lt
  repeat' (first | (apply isL; first | apply L_nil | refine L_move rfl rfl ?_ | (apply isCall; first | (refine L_call rfl rfl (c_pick (n := 24) h om_ om_) (fun _ w2 hR => ?_); obtain ⟨k24, rfl, hk240, hk24n, hr2, hg2⟩ := hR) | (refine L_call rfl rfl (c_pick (n := 4) hr2 om_ om_) (fun _ w3 hR => ?_); obtain ⟨k4, rfl, hk40, hk4n, hr3, hg3⟩ := hR) | (refine L_call rfl rfl (c_pick (n := 2) hr3 om_ om_) (fun _ w4 hR => ?_); obtain ⟨k2, rfl, hk20, hk2n, hr4, hg4⟩ := hR) | (refine L_call rfl rfl (c_of (hr2.ext hB5) hO5.rd (fun e => by have := (hO5.lt _ e).1; have := hr2.lt; omega) (by decide) (by decide) om_) (fun _ w6 hR => ?_); obtain ⟨s, rfl, hs6, hr6, hg6⟩ := hR) ) | (apply isBin; first | refine L_do rfl rfl rfl (do_cmp rfl rfl rfl) ?_ | refine L_do rfl rfl rfl (do_add rfl rfl om_) ?_ | (rcases (show k2 = 0 ∨ k2 = 1 by omega) with rfl | rfl <;> refine L_do rfl rfl rfl (do_mul rfl rfl om_) ?_) ) | refine L_assign rfl rfl ?_ | refine L_buildSliceL tStr [[], [47], [97], [47, 101], [47, 97, 47], [47, 47, 97], [47, 97, 47, 98, 47, 99, 47, 100, 47, 97], [47, 97, 98]] rfl rfl rfl rfl rfl rfl rfl rfl (fun w5 hO5 hB5 => ?_) ) | (apply isW; first | apply W_seq | apply W_region | refine W_cond_dec rfl (fun hg => ?_) (fun hg => ?_) | refine W_cond_true rfl ?_ | refine W_cond_false rfl ?_ | refine W_cond rfl (fun hg => ?_) (fun hg => ?_) | apply W_skip | apply W_ret | apply W_exit | apply W_block) | (apply isAt; first | apply At_then | apply At_then_ret | apply At_then_exit | apply At_block_normal | apply At_block_ret | apply At_block_hit | refine At_block_miss rfl ?_ | refine At_end1 rfl rfl ?_ | refine At_end1n rfl rfl ?_ | refine At_end2 rfl rfl rfl ?_ | refine At_end3 rfl rfl rfl rfl ?_ | refine At_end4 rfl rfl rfl rfl rfl ?_ | refine At_end5 rfl rfl rfl rfl rfl rfl ?_ | refine At_mix kp_ ?_))
  · refine ⟨s, _, rfl, ?_, hr6, by omega, kp_row (kp_below hg2 hB5) hg6⟩
    have hall : ∀ x ∈ ([[], [47], [97], [47, 101], [47, 97, 47], [47, 47, 97], [47, 97, 47, 98, 47, 99, 47, 100, 47, 97], [47, 97, 98]] : List Str), x.length ≤ 20 := by decide
    exact hall s hs6
  focus (obtain ⟨N, hN, hN1, hN2⟩ : ∃ N : Int, N = 1 + k4 * 0 ∧ 1 ≤ N ∧ N ≤ 4 := ⟨_, rfl, by omega, by omega⟩)
  rotate_left
  focus (obtain ⟨N, hN, hN1, hN2⟩ : ∃ N : Int, N = 1 + k4 * 1 ∧ 1 ≤ N ∧ N ≤ 4 := ⟨_, rfl, by omega, by omega⟩)
  all_goals
    have hg4' := kp_row (kp_row hg2 hg3) hg4
    refine W_loopF (fun m fr w' => ∃ (k : Nat) (s : Str) (p' : Nat), m = 5 - k ∧ (k : Int) ≤ N ∧ fr = [(0, .pointer (some ⟨g, 0, none⟩)), (3, .int .i64 N), (4, .string (mk s)), (5, .int .i64 k)] ∧ s.length = 2 * k ∧ Rdr w' g p' ∧ p' ≤ p + 3 + k ∧ w.grownBy w' (some g)) 5
      [(0, .pointer (some ⟨g, 0, none⟩)), (3, .int .i64 N), (4, .string (mk [])), (5, .int .i64 0)] (by rw [hN]; repeat (first | exact get_nil_slots _ | refine get_cons_slots rfl ?_)) ⟨0, [], _, rfl, by omega, rfl, rfl, hr4, by omega, hg4'⟩ ?_
    clear hr4 hg4 hr3 hg3 hr2 hg2 hg4' hN
    rintro _ _ w' ⟨k, s, p', rfl, hk, rfl, hsl, hr', hp', hgw⟩
    repeat' (first | (apply isL; first | apply L_nil | refine L_move rfl rfl ?_ | (apply isCall; first | (refine L_call rfl rfl (c_of (hr'.ext hB5) hO5.rd (fun e => by have := (hO5.lt _ e).1; have := hr'.lt; omega) (by decide) (by decide) om_) (fun _ w6 hR => ?_); obtain ⟨s6, rfl, hs6, hr6, hg6⟩ := hR; have hl6 : s6.length = 1 := (by decide : ∀ x ∈ ([[97], [98], [97], [98], [99], [100]] : List Str), x.length = 1) s6 hs6) ) | (apply isBin; first | refine L_do rfl rfl rfl (do_cmp rfl rfl rfl) ?_ | refine L_do rfl rfl rfl (do_add rfl rfl om_) ?_ | refine L_do rfl rfl rfl (do_concat rfl rfl (by simp; omega)) ?_ ) | refine L_assign rfl rfl ?_ | refine L_buildSliceL tStr [[97], [98], [97], [98], [99], [100]] rfl rfl rfl rfl rfl rfl rfl rfl (fun w5 hO5 hB5 => ?_) ) | (apply isW; first | apply W_seq | apply W_region | refine W_cond_dec rfl (fun hg => ?_) (fun hg => ?_) | refine W_cond_true rfl ?_ | refine W_cond_false rfl ?_ | refine W_cond rfl (fun hg => ?_) (fun hg => ?_) | apply W_skip | apply W_ret | apply W_exit | apply W_block) | (apply isAt; first | apply At_then | apply At_then_ret | apply At_then_exit | apply At_block_normal | apply At_block_ret | apply At_block_hit | refine At_block_miss rfl ?_ | refine At_end1 rfl rfl ?_ | refine At_end1n rfl rfl ?_ | refine At_end2 rfl rfl rfl ?_ | refine At_end3 rfl rfl rfl rfl ?_ | refine At_end4 rfl rfl rfl rfl rfl ?_ | refine At_end5 rfl rfl rfl rfl rfl rfl ?_ | refine At_mix kp_ ?_))
    · exact At_round _ [(0, .pointer (some ⟨g, 0, none⟩)), (3, .int .i64 N), (4, .string (mk (s ++ [47] ++ s6))), (5, .int .i64 ((k + 1 : Nat) : Int))] sl_ (by omega) ⟨k + 1, _, _, rfl, by omega, rfl, by simp; omega, hr6, by omega, kp_row (kp_below hgw hB5) hg6⟩
    · exact ⟨s, p', rfl, by omega, hr', by omega, hgw⟩

end Go.Proofs.YtjobbcdolbhadaaGreatDoor
