/-
  Contracts: logs done on trees by the reference's functions; what doing a log returns.
-/
import Derived.Test.YtjobbcdolbhadaaGreatDoorTreePut
import Derived.Test.YtjobbcdolbhadaaGreatDoorCmList
import Derived.Test.YtjobbcdolbhadaaGreatDoorPlA
import Derived.Test.YtjobbcdolbhadaaGreatDoorFlB
namespace Go.Proofs.YtjobbcdolbhadaaGreatDoor
open Go Go.RowKit
set_option linter.unusedVariables false
set_option linter.unusedSimpArgs false

theorem shortN_of_tree' {xs : List Nd} (h : treeOk xs = true) : ShortN xs := fun n hn => by have := isPath_len (tree_path h hn); omega
theorem logGo_step {t : List Nd} {c : Cm} {r : List Cm} : logGo t (c :: r) = if cmDo t c then ((logGo (putL t c.path c.to) r).1, (logGo (putL t c.path c.to) r).2 + 1) else (t, 0) := by
  conv => lhs; unfold logGo
theorem drop_cons {cs : List Cm} {k : Nat} {c : Cm} (h : cs[k]? = some c) : cs.drop k = c :: cs.drop (k + 1) := by
  obtain ⟨hk, e⟩ := List.getElem?_eq_some_iff.1 h
  rw [List.drop_eq_getElem_cons hk, e]
noncomputable def logT (t : List Nd) (cs : List Cm) : List Nd := if treeOk t && logOk cs then (logGo t cs).1 else []
noncomputable def logN (t : List Nd) (cs : List Cm) : Int := if treeOk t && logOk cs then ((logGo t cs).2 : Int) else -1
theorem logFits_eq (t : List Nd) (cs : List Cm) : logFits t cs = decide (logN t cs = cs.length) := by
  unfold logFits logN
  cases h : (treeOk t && logOk cs)
  · simp only [Bool.false_and, Bool.false_eq_true, if_false]
    exact (decide_eq_false (by omega)).symm
  · simp only [Bool.true_and, if_true]
    rw [Bool.eq_iff_iff]; simp; omega
theorem logT_tree (t : List Nd) (cs : List Cm) : (logT t cs).length ≤ 10 := by
  unfold logT
  split
  · rename_i h
    simp only [Bool.and_eq_true] at h
    exact tree_len (logGo_tree h.1)
  · simp
theorem logN_le (t : List Nd) (cs : List Cm) : -1 ≤ logN t cs ∧ logN t cs ≤ 20 := by
  unfold logN
  split
  · rename_i h
    simp only [Bool.and_eq_true] at h
    have h1 := logGo_le t cs
    have h2 := (logOk_parts h.2).1
    omega
  · omega
theorem c_specLogApply {v v2 : Value} {xs : List Nd} {cs : List Cm} {w : World} (h : RdL tNd w v xs) (h2 : RdL tCm w v2 cs) (hsh : ShortN xs) (hsc : ShortC cs) : Cl Tryz.prog 33 [v, v2] w (fun u w' => ∃ r, u = .tuple #[r, .int .i64 (logN xs cs)] ∧ OwL tNd w' w.heap.size 69 r (logT xs cs) ∧ Below w.heap.size w w') := by
  refine calls_start 45 Tryz.func33 rfl rfl rfl ?_
  have hml := h2.maxLen
  cases ht : treeOk xs <;> cases hl : logOk cs
  all_goals
    repeat' (first | (apply isL; first | apply L_nil | refine L_move rfl rfl ?_ | (apply isGuarded; first | refine L_guard_dec rfl rfl (fun hg => ?_) (fun hg => ?_) | refine L_guard_yes rfl rfl ?_ | refine L_guard_no rfl rfl rfl rfl ?_ | refine L_guard_undef rfl rfl rfl ?_ | refine L_guard_split rfl rfl (fun hg => ?_) (fun hg => ?_)) | (apply isCall; first | refine L_lenL rfl rd_ rfl (fun hlen => ?_) | (refine L_callV rfl rfl (c_specTreeValid (h.ext bw_) hsh) (fun w2 hB2 => ?_); rw [ht]) | (refine L_callV rfl rfl (c_specLogValid (h2.ext bw_) hsc) (fun w3 hB3 => ?_); rw [hl]) | (have htl := tree_len ht; refine L_append (w0 := w) rfl rfl hB4 hO4 (h.ext hB4) rfl (by simp; omega) (by simp; omega) rfl (fun v5 w5 hO5 hB5 hg5 => ?_)) ) | (apply isBin; first | refine L_do rfl rfl rfl (do_cmp rfl rfl rfl) ?_ | refine L_do rfl rfl rfl (do_add rfl rfl om_) ?_ ) | (apply isLoad; first | refine L_loadPt rfl (by rfl) pt_ (by rfl) rfl ?_ | refine L_loadPt2 rfl (by rfl) pt_ (by rfl) rfl ?_ | refine L_loadPt0 rfl pt_ (by rfl) rfl ?_ | refine L_loadAgg rfl pt_ (by rfl) rfl ?_ | refine L_loadSub rfl (by rfl) pt_ (by rfl) rfl ?_) | refine L_assign rfl rfl ?_ | refine L_do rfl rfl rfl (do_pick_true rfl rfl) ?_ | refine L_do rfl rfl rfl (do_pick_false rfl rfl) ?_ | refine L_do rfl rfl rfl (do_notDec rfl) ?_ | refine L_do rfl rfl rfl (do_not rfl) ?_ | refine L_do rfl rfl rfl (do_extract rfl rfl) ?_ | refine L_buildSlice0 (w0 := w) tNd bw_ rfl (fun w4 hO4 hB4 hC4 => ?_) | refine L_indexL rfl rfl rd_ (by rfl) om_ om_ rfl (fun a y hy hab hp => ?_) ) | (apply isW; first | apply W_seq | apply W_region | refine W_cond_dec rfl (fun hg => ?_) (fun hg => ?_) | refine W_cond_true rfl ?_ | refine W_cond_false rfl ?_ | refine W_cond rfl (fun hg => ?_) (fun hg => ?_) | apply W_skip | apply W_ret | apply W_exit | apply W_block) | (apply isAt; first | apply At_then | apply At_then_ret | apply At_then_exit | apply At_block_normal | apply At_block_ret | apply At_block_hit | refine At_block_miss rfl ?_ | refine At_end1 rfl rfl ?_ | refine At_end1n rfl rfl ?_ | refine At_end2 rfl rfl rfl ?_ | refine At_end3 rfl rfl rfl rfl ?_ | refine At_end4 rfl rfl rfl rfl rfl ?_ | refine At_end5 rfl rfl rfl rfl rfl rfl ?_ | refine At_mix kp_ ?_))
  all_goals first | (exfalso; simp at hg; done) | skip
  · exact ⟨_, by rw [show logN xs cs = -1 by unfold logN; rw [ht]; rfl], by rw [show logT xs cs = [] by unfold logT; rw [ht]; rfl]; exact hO4, bw_⟩
  · exact ⟨_, by rw [show logN xs cs = -1 by unfold logN; rw [ht]; rfl], by rw [show logT xs cs = [] by unfold logT; rw [ht]; rfl]; exact hO4, bw_⟩
  · exact ⟨_, by rw [show logN xs cs = -1 by unfold logN; rw [hl, Bool.and_false]; rfl], by rw [show logT xs cs = [] by unfold logT; rw [hl, Bool.and_false]; rfl]; exact hO4, bw_⟩
  · have e1 : logN xs cs = ((logGo xs cs).2 : Int) := by unfold logN; rw [ht, hl]; rfl
    have e2 : logT xs cs = (logGo xs cs).1 := by unfold logT; rw [ht, hl]; rfl
    rw [e1, e2]
    clear hO4 hB4 hC4 hB2 hB3
    refine W_loopF (fun m fr w' => ∃ (k : Nat) (u : Value) (ts : List Nd), m = cs.length - k ∧ k ≤ cs.length ∧ fr = [(1, v2), (6, u), (7, .int .i64 k)] ∧ Below w.heap.size w w' ∧ OwL tNd w' w.heap.size 69 u ts ∧ treeOk ts = true ∧ (logGo xs cs).1 = (logGo ts (cs.drop k)).1 ∧ (logGo xs cs).2 = k + (logGo ts (cs.drop k)).2) cs.length
      [(1, v2), (6, v5), (7, .int .i64 0)] sl_ ⟨0, v5, xs, rfl, Nat.zero_le _, rfl, hB5, hO5, ht, rfl, by simp⟩ ?_
    clear hO5 hB5 hg5
    rintro _ _ w' ⟨k, u, ts, rfl, hk, rfl, hBk, hu, htt, e1, e2⟩
    rcases Nat.lt_or_ge k cs.length with hkl | hkl
    · obtain ⟨c, hcx⟩ : ∃ c, cs[k]? = some c := ⟨_, List.getElem?_eq_getElem hkl⟩
      have hcok := (logOk_parts hl).2 c (List.mem_of_getElem? hcx)
      have hcsm := hsc c (List.mem_of_getElem? hcx)
      rw [drop_cons hcx, logGo_step] at e1 e2
      repeat' (first | (apply isL; first | apply L_nil | refine L_move rfl rfl ?_ | (apply isGuarded; first | refine L_guard_dec rfl rfl (fun hg => ?_) (fun hg => ?_) | refine L_guard_yes rfl rfl ?_ | refine L_guard_no rfl rfl rfl rfl ?_ | refine L_guard_undef rfl rfl rfl ?_ | refine L_guard_split rfl rfl (fun hg => ?_) (fun hg => ?_)) | (apply isCall; first | refine L_lenL rfl rd_ rfl (fun hlen => ?_) | (refine L_call rfl rfl (c_specCommandApply (c := c) hu.rd (shortN_of_tree' htt) (by have := tree_len htt; omega) hcsm) (fun _ w5 hR => ?_); obtain ⟨r5, rfl, hO5, hB5⟩ := hR) ) | (apply isBin; first | refine L_do rfl rfl rfl (do_cmp rfl rfl rfl) ?_ | refine L_do rfl rfl rfl (do_add rfl rfl om_) ?_ ) | (apply isLoad; first | refine L_loadPt rfl (by rfl) pt_ (by rfl) rfl ?_ | refine L_loadPt2 rfl (by rfl) pt_ (by rfl) rfl ?_ | refine L_loadPt0 rfl pt_ (by rfl) rfl ?_ | refine L_loadAgg rfl pt_ (by rfl) rfl ?_ | refine L_loadSub rfl (by rfl) pt_ (by rfl) rfl ?_) | refine L_assign rfl rfl ?_ | refine L_do rfl rfl rfl (do_pick_true rfl rfl) ?_ | refine L_do rfl rfl rfl (do_pick_false rfl rfl) ?_ | refine L_do rfl rfl rfl (do_notDec rfl) ?_ | refine L_do rfl rfl rfl (do_not rfl) ?_ | refine L_do rfl rfl rfl (do_extract rfl rfl) ?_ | (refine L_indexL rfl rfl (h2.ext bw_) (by rfl) om_ om_ rfl (fun a y hy hab hp => ?_); have hyy : cs[k]? = some y := hy; rw [hcx] at hyy; obtain rfl := Option.some.inj hyy) | refine L_indexL rfl rfl rd_ (by rfl) om_ om_ rfl (fun a y hy hab hp => ?_) ) | (apply isW; first | apply W_seq | apply W_region | refine W_cond_dec rfl (fun hg => ?_) (fun hg => ?_) | refine W_cond_true rfl ?_ | refine W_cond_false rfl ?_ | refine W_cond rfl (fun hg => ?_) (fun hg => ?_) | apply W_skip | apply W_ret | apply W_exit | apply W_block) | (apply isAt; first | apply At_then | apply At_then_ret | apply At_then_exit | apply At_block_normal | apply At_block_ret | apply At_block_hit | refine At_block_miss rfl ?_ | refine At_end1 rfl rfl ?_ | refine At_end1n rfl rfl ?_ | refine At_end2 rfl rfl rfl ?_ | refine At_end3 rfl rfl rfl rfl ?_ | refine At_end4 rfl rfl rfl rfl rfl ?_ | refine At_end5 rfl rfl rfl rfl rfl rfl ?_ | refine At_mix kp_ ?_))
      all_goals first | (exfalso; omega) | skip
      · have hd : cmDo ts c = false := by simpa using hg
        rw [hd] at e1 e2
        exact ⟨u, by rw [e2]; simp, by rw [e1]; exact hu.ext hB5, bw_⟩
      · have hd : cmDo ts c = true := by simpa using hg
        rw [hd, if_pos rfl] at e1 e2 hO5
        exact At_round _ [(1, v2), (6, r5), (7, .int .i64 ((k + 1 : Nat) : Int))] sl_ (by omega) ⟨k + 1, r5, _, rfl, by omega, rfl, bw_, hO5.rebase hBk.size, (cmDo_tree hd).2.2.2, e1, by rw [e2]; omega⟩
    · repeat' (first | (apply isL; first | apply L_nil | refine L_move rfl rfl ?_ | (apply isGuarded; first | refine L_guard_dec rfl rfl (fun hg => ?_) (fun hg => ?_) | refine L_guard_yes rfl rfl ?_ | refine L_guard_no rfl rfl rfl rfl ?_ | refine L_guard_undef rfl rfl rfl ?_ | refine L_guard_split rfl rfl (fun hg => ?_) (fun hg => ?_)) | (apply isCall; first | refine L_lenL rfl rd_ rfl (fun hlen => ?_) ) | (apply isBin; first | refine L_do rfl rfl rfl (do_cmp rfl rfl rfl) ?_ | refine L_do rfl rfl rfl (do_add rfl rfl om_) ?_ ) | (apply isLoad; first | refine L_loadPt rfl (by rfl) pt_ (by rfl) rfl ?_ | refine L_loadPt2 rfl (by rfl) pt_ (by rfl) rfl ?_ | refine L_loadPt0 rfl pt_ (by rfl) rfl ?_ | refine L_loadAgg rfl pt_ (by rfl) rfl ?_ | refine L_loadSub rfl (by rfl) pt_ (by rfl) rfl ?_) | refine L_assign rfl rfl ?_ | refine L_do rfl rfl rfl (do_pick_true rfl rfl) ?_ | refine L_do rfl rfl rfl (do_pick_false rfl rfl) ?_ | refine L_do rfl rfl rfl (do_notDec rfl) ?_ | refine L_do rfl rfl rfl (do_not rfl) ?_ | refine L_do rfl rfl rfl (do_extract rfl rfl) ?_ | refine L_indexL rfl rfl rd_ (by rfl) om_ om_ rfl (fun a y hy hab hp => ?_) ) | (apply isW; first | apply W_seq | apply W_region | refine W_cond_dec rfl (fun hg => ?_) (fun hg => ?_) | refine W_cond_true rfl ?_ | refine W_cond_false rfl ?_ | refine W_cond rfl (fun hg => ?_) (fun hg => ?_) | apply W_skip | apply W_ret | apply W_exit | apply W_block) | (apply isAt; first | apply At_then | apply At_then_ret | apply At_then_exit | apply At_block_normal | apply At_block_ret | apply At_block_hit | refine At_block_miss rfl ?_ | refine At_end1 rfl rfl ?_ | refine At_end1n rfl rfl ?_ | refine At_end2 rfl rfl rfl ?_ | refine At_end3 rfl rfl rfl rfl ?_ | refine At_end4 rfl rfl rfl rfl rfl ?_ | refine At_end5 rfl rfl rfl rfl rfl rfl ?_ | refine At_mix kp_ ?_))
      all_goals first | (exfalso; omega) | skip
      rw [List.drop_eq_nil_of_le (by omega)] at e1 e2
      exact ⟨u, by rw [e2]; simp [logGo]; omega, by rw [e1]; exact hu, hBk⟩
theorem c_specLogFits {v v2 : Value} {xs : List Nd} {cs : List Cm} {w : World} (h : RdL tNd w v xs) (h2 : RdL tCm w v2 cs) (hsh : ShortN xs) (hsc : ShortC cs) : Cl Tryz.prog 12 [v, v2] w (V w (.bool (logFits xs cs))) := by
  refine calls_start 17 Tryz.func12 rfl rfl rfl ?_
  repeat' (first | (apply isL; first | apply L_nil | refine L_move rfl rfl ?_ | (apply isCall; first | refine L_lenL rfl rd_ rfl (fun hlen => ?_) | (refine L_call rfl rfl (c_specLogApply h h2 hsh hsc) (fun _ w4 hR => ?_); obtain ⟨r4, rfl, hO4, hB4⟩ := hR) | refine L_lenL rfl (h2.ext bw_) rfl (fun hlen => ?_) ) | (apply isBin; first | refine L_do rfl rfl rfl (do_cmp rfl rfl rfl) ?_ ) | refine L_assign rfl rfl ?_ | refine L_do rfl rfl rfl (do_extract rfl rfl) ?_ ) | (apply isW; first | apply W_seq | apply W_region | refine W_cond_dec rfl (fun hg => ?_) (fun hg => ?_) | refine W_cond_true rfl ?_ | refine W_cond_false rfl ?_ | refine W_cond rfl (fun hg => ?_) (fun hg => ?_) | apply W_skip | apply W_ret | apply W_exit | apply W_block) | (apply isAt; first | apply At_then | apply At_then_ret | apply At_then_exit | apply At_block_normal | apply At_block_ret | apply At_block_hit | refine At_block_miss rfl ?_ | refine At_end1 rfl rfl ?_ | refine At_end1n rfl rfl ?_ | refine At_end2 rfl rfl rfl ?_ | refine At_end3 rfl rfl rfl rfl ?_ | refine At_end4 rfl rfl rfl rfl rfl ?_ | refine At_end5 rfl rfl rfl rfl rfl rfl ?_ | refine At_mix kp_ ?_))
  exact ⟨by rw [logFits_eq], bw_⟩
end Go.Proofs.YtjobbcdolbhadaaGreatDoor
