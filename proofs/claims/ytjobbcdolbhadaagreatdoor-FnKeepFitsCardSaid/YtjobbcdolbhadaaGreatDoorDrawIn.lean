/-
  Contracts of the draws: a path of a tree that may be invalid.
-/
import Derived.Test.YtjobbcdolbhadaaGreatDoorDrawFilt
namespace Go.Proofs.YtjobbcdolbhadaaGreatDoor
open Go Go.RowKit
set_option linter.unusedVariables false
set_option linter.unusedSimpArgs false

theorem c_l91In2 {g p : Nat} {v : Value} {xs : List Nd} {w : World} (h : Rdr w g p) (hx : RdL tNd w v xs) (hne : v.ownBlock ≠ some g) (hl : xs.length ≤ 1000) (hs : ∀ n ∈ xs, n.path.length ≤ 20) (hp : p ≤ 400000) :
    Cl Tryz.prog 130 [.pointer (some ⟨g, 0, none⟩), v] w (fun u w' => ∃ (s : Str) (p' : Nat), u = .string (mk s) ∧ s.length ≤ 22 ∧ Rdr w' g p' ∧ p' ≤ p + 11 ∧ w.grownBy w' (some g)) := by
  refine calls_start 34 Tryz.func130 rfl rfl rfl ?_
  have hgw : w.grownBy w (some g) := World.grownBy.refl _ _
  have hr := h
  repeat' (first | (apply isL; first | apply L_nil | refine L_move rfl rfl ?_ | (apply isGuarded; first | refine L_guard_dec rfl rfl (fun hg => ?_) (fun hg => ?_) | refine L_guard_yes rfl rfl ?_ | refine L_guard_no rfl rfl rfl rfl ?_ | refine L_guard_undef rfl rfl rfl ?_ | refine L_guard_split rfl rfl (fun hg => ?_) (fun hg => ?_)) | (apply isCall; first | refine L_lenL rfl rd_ rfl (fun hlen => ?_) | (refine L_call rfl rfl (c_pick hr om_ om_) (fun _ w2 hR => ?_); obtain ⟨k, rfl, hk0, hkn, hr2, hg2⟩ := hR; replace hr := hr2; replace hx := keep_sl hx hne hg2; replace hgw := kp_row hgw hg2) | (refine L_call rfl rfl (c_l91Path hr om_) (fun _ w2 hR => ?_); obtain ⟨s2, p2, rfl, hs2, hr2, hp2, hg2⟩ := hR; replace hgw := kp_row hgw hg2) | (refine L_call rfl rfl (c_of (hr.ext hB5) hO5.rd (fun e => by have := (hO5.lt _ e).1; have := hr.lt; omega) (by decide) (by decide) om_) (fun _ w6 hR => ?_); obtain ⟨s6, rfl, hs6, hr6, hg6⟩ := hR; have hl6 : s6.length = 1 := (by decide : ∀ x ∈ ([[97], [98]] : List Str), x.length = 1) s6 hs6) ) | (apply isBin; first | refine L_do rfl rfl rfl (do_cmp rfl rfl rfl) ?_ | refine L_do rfl rfl rfl (do_concat rfl rfl (by simp; omega)) ?_ ) | (apply isLoad; first | refine L_loadPt rfl (by rfl) pt_ (by rfl) rfl ?_ | refine L_loadPt2 rfl (by rfl) pt_ (by rfl) rfl ?_ | refine L_loadPt0 rfl pt_ (by rfl) rfl ?_ | refine L_loadAgg rfl pt_ (by rfl) rfl ?_ | refine L_loadSub rfl (by rfl) pt_ (by rfl) rfl ?_) | refine L_assign rfl rfl ?_ | refine L_do rfl rfl rfl (do_pick_true rfl rfl) ?_ | refine L_do rfl rfl rfl (do_pick_false rfl rfl) ?_ | refine L_do rfl rfl rfl (do_fieldAddr rfl) ?_ | (refine L_indexL rfl rfl hx rfl om_ om_ rfl (fun a y hy hab hp => ?_); have hyl := hs y (List.mem_of_getElem? hy)) | refine L_buildSliceL tStr [[97], [98]] rfl rfl rfl rfl rfl rfl rfl rfl (fun w5 hO5 hB5 => ?_) | refine L_indexL rfl rfl rd_ (by rfl) om_ om_ rfl (fun a y hy hab hp => ?_) ) | (apply isW; first | apply W_seq | apply W_region | refine W_cond_dec rfl (fun hg => ?_) (fun hg => ?_) | refine W_cond_true rfl ?_ | refine W_cond_false rfl ?_ | refine W_cond rfl (fun hg => ?_) (fun hg => ?_) | apply W_skip | apply W_ret | apply W_exit | apply W_block) | (apply isAt; first | apply At_then | apply At_then_ret | apply At_then_exit | apply At_block_normal | apply At_block_ret | apply At_block_hit | refine At_block_miss rfl ?_ | refine At_end1 rfl rfl ?_ | refine At_end1n rfl rfl ?_ | refine At_end2 rfl rfl rfl ?_ | refine At_end3 rfl rfl rfl rfl ?_ | refine At_end4 rfl rfl rfl rfl rfl ?_ | refine At_end5 rfl rfl rfl rfl rfl rfl ?_ | refine At_mix kp_ ?_))
  · exact ⟨_, _, rfl, by simp; omega, hr6, by omega, kp_row (kp_below hgw hB5) hg6⟩
  · exact ⟨_, _, rfl, by omega, hr, by omega, hgw⟩
  · exact ⟨_, _, rfl, by omega, hr2, by omega, hgw⟩
  · exact ⟨_, _, rfl, by omega, hr2, by omega, hgw⟩
end Go.Proofs.YtjobbcdolbhadaaGreatDoor
