/-
  Contracts of the draws: logs, bytes of logs.
-/
import Derived.Test.YtjncnmokafgigaaGreatDoorDrawTree
import Derived.Test.YtjncnmokafgigaaGreatDoorApart
import Derived.Test.YtjncnmokafgigaaGreatDoorFlB
namespace Go.Proofs.YtjncnmokafgigaaGreatDoor
open Go Go.RowKit
set_option linter.unusedVariables false
set_option linter.unusedSimpArgs false

theorem c_l91Log {g p base : Nat} {v : Value} {xs : List Nd} {n : Int} {w : World} (h : Rdr w g p) (hT : OwL tNd w base 69 v xs) (htr : treeOk xs = true) (hgb : g < base) (hbw : base ≤ w.heap.size) (hn : n ≤ 60) (hp : p ≤ 200000) :
    Cl Tryz.prog 85 [.pointer (some ⟨g, 0, none⟩), v, .int .i64 n] w (fun u w' => ∃ (cs : List Cm) (p' : Nat), OwL tCm w' w.heap.size 57 u cs ∧ cs.length ≤ 20 ∧ (∀ c ∈ cs, c.path.length ≤ 20) ∧ Rdr w' g p' ∧ p' ≤ p + 2000 ∧ w.grownBy w' (some g)) := by
  refine calls_start 41 Tryz.func85 rfl rfl rfl ?_
  have hlt := h.lt
  repeat' (first | (apply isL; first | apply L_nil | refine L_move rfl rfl ?_ | (apply isGuarded; first | refine L_guard_dec rfl rfl (fun hg => ?_) (fun hg => ?_) | refine L_guard_yes rfl rfl ?_ | refine L_guard_no rfl rfl rfl rfl ?_ | refine L_guard_undef rfl rfl rfl ?_ | refine L_guard_split rfl rfl (fun hg => ?_) (fun hg => ?_)) | (apply isCall; first | refine L_lenL rfl rd_ rfl (fun hlen => ?_) ) | (apply isBin; first | refine L_do rfl rfl rfl (do_cmp rfl rfl rfl) ?_ | refine L_do rfl rfl rfl (do_add rfl rfl om_) ?_ ) | (apply isLoad; first | refine L_loadPt rfl (by rfl) pt_ (by rfl) rfl ?_ | refine L_loadPt2 rfl (by rfl) pt_ (by rfl) rfl ?_ | refine L_loadPt0 rfl pt_ (by rfl) rfl ?_ | refine L_loadAgg rfl pt_ (by rfl) rfl ?_ | refine L_loadSub rfl (by rfl) pt_ (by rfl) rfl ?_) | refine L_assign rfl rfl ?_ | refine L_do rfl rfl rfl (do_pick_true rfl rfl) ?_ | refine L_do rfl rfl rfl (do_pick_false rfl rfl) ?_ | refine L_do rfl rfl rfl (do_extract rfl rfl) ?_ | refine L_buildSlice0G tCm w.heap.size (Nat.le_refl _) rfl (fun w1 hO1 hB1 => ?_) | (apply isAllocStore; refine L_allocStoreV (w0 := w) bw_ rfl rfl rfl rfl ?_ rfl (fun w1 hz1 hB hB1 hv => ?_); (focus (first | exact Ty.one _ _ | simp [Value.oneCell'])); have hp := pt_of_block hv) ) | (apply isW; first | apply W_seq | apply W_region | refine W_cond_dec rfl (fun hg => ?_) (fun hg => ?_) | refine W_cond_true rfl ?_ | refine W_cond_false rfl ?_ | refine W_cond rfl (fun hg => ?_) (fun hg => ?_) | apply W_skip | apply W_ret | apply W_exit | apply W_block) | (apply isAt; first | apply At_then | apply At_then_ret | apply At_then_exit | apply At_block_normal | apply At_block_ret | apply At_block_hit | refine At_block_miss rfl ?_ | refine At_end1 rfl rfl ?_ | refine At_end1n rfl rfl ?_ | refine At_end2 rfl rfl rfl ?_ | refine At_end3 rfl rfl rfl rfl ?_ | refine At_end4 rfl rfl rfl rfl rfl ?_ | refine At_end5 rfl rfl rfl rfl rfl rfl ?_ | refine At_mix kp_ ?_))
  refine W_loopF (fun m fr w' => ∃ (k : Nat) (u t : Value) (cs : List Cm) (ts : List Nd) (p' : Nat), m = 61 - k ∧ (k : Int) ≤ 60 ∧ fr = [(0, .pointer (some ⟨g, 0, none⟩)), (2, .int .i64 n), (7, u), (8, t), (9, .int .i64 k)] ∧ OwL tCm w' w.heap.size 57 u cs ∧ cs.length ≤ 20 ∧ (∀ c ∈ cs, c.path.length ≤ 20) ∧ OwL tNd w' base 69 t ts ∧ treeOk ts = true ∧ Rdr w' g p' ∧ p' ≤ p + 20 * k ∧ w.grownBy w' (some g)) 61
    [(0, .pointer (some ⟨g, 0, none⟩)), (2, .int .i64 n), (7, .slice (some ⟨w.heap.size, 0, none⟩) 0 0), (8, v), (9, .int .i64 0)] sl_ ⟨0, _, _, [], xs, _, rfl, by omega, rfl, hO1, by simp, fun c hc => by simp at hc, hT.ext hB1, htr, h.ext hB1, by omega, kp_below (World.grownBy.refl _ _) hB1⟩ ?_
  clear hO1 hB1 hT htr
  rintro _ _ w' ⟨k, u, t, cs, ts, p', rfl, hk, rfl, hO, hcl, hcs, hT, htr, hr, hp', hgw⟩
  have htl := tree_len htr
  have hz := hgw.size
  repeat' (first | (apply isL; first | apply L_nil | refine L_move rfl rfl ?_ | (apply isGuarded; first | refine L_guard_dec rfl rfl (fun hg => ?_) (fun hg => ?_) | refine L_guard_yes rfl rfl ?_ | refine L_guard_no rfl rfl rfl rfl ?_ | refine L_guard_undef rfl rfl rfl ?_ | refine L_guard_split rfl rfl (fun hg => ?_) (fun hg => ?_)) | (apply isCall; first | refine L_lenL rfl rd_ rfl (fun hlen => ?_) | refine L_do rfl rfl rfl (do_len rfl hO.rd.rd) ?_ | (refine L_call rfl rfl (c_l91Command hr hT.rd (fun e => by have := (hT.lt _ e).1; omega) om_ (short_of_tree htr) om_) (fun _ w2 hR => ?_); obtain ⟨c, p2, rfl, hpl, hr2, hp2, hg2⟩ := hR; replace hO := hO.kept hg2 (hO.ne_ hlt); replace hT := hT.kept hg2 (hT.ne_ hgb); replace hr := hr2; replace hgw := kp_row hgw hg2; replace hz := Nat.le_trans hz hg2.size) | (refine L_call rfl rfl (c_specCommandApply (c := c) hT.rd (shortN_of_tree htr) om_ om_) (fun _ w5 hR => ?_); obtain ⟨r5, rfl, hO5, hB5⟩ := hR; replace hr := hr.ext hB5; replace hO := hO.ext hB5; replace hT := hT.ext hB5; have hz5 := Nat.le_trans hz hB5.size; have hpt5 := hpt3.ext hB5; replace hgw := kp_below hgw hB5) | (have hO7 := hO.ext hB6; refine L_appendG rfl rfl (Nat.le_trans hz5 hB6.size) hO7 hO6.rd rfl (by simp; omega) (by simp; omega) rfl (fun v8 w8 hO8 hg8 => ?_)) ) | (apply isBin; first | refine L_do rfl rfl rfl (do_cmp rfl rfl rfl) ?_ | refine L_do rfl rfl rfl (do_add rfl rfl om_) ?_ ) | (apply isLoad; first | refine L_loadPt rfl (by rfl) pt_ (by rfl) rfl ?_ | refine L_loadPt2 rfl (by rfl) pt_ (by rfl) rfl ?_ | refine L_loadPt0 rfl pt_ (by rfl) rfl ?_ | refine L_loadAgg rfl pt_ (by rfl) rfl ?_ | refine L_loadSub rfl (by rfl) pt_ (by rfl) rfl ?_) | refine L_assign rfl rfl ?_ | refine L_do rfl rfl rfl (do_pick_true rfl rfl) ?_ | refine L_do rfl rfl rfl (do_pick_false rfl rfl) ?_ | refine L_do rfl rfl rfl (do_extract rfl rfl) ?_ | (apply isAllocStore; refine L_allocStoreV (w0 := _) (Below.refl _ _) rfl rfl rfl rfl ?_ rfl (fun w4 hz4 hB4 hC4 hv3 => ?_); (focus (simp [Value.oneCell', Value.cells])); replace hr := hr.ext hC4; replace hO := hO.ext hC4; replace hT := hT.ext hC4; replace hgw := kp_below hgw hC4; replace hz := Nat.le_trans hz hC4.size; have hpt3 := pt_of_block hv3) | refine L_buildSliceL tCm [c] rfl rfl rfl rfl rfl rfl rfl rfl (fun w6 hO6 hB6 => ?_) | (apply isAllocStore; refine L_allocStoreV (w0 := w) bw_ rfl rfl rfl rfl ?_ rfl (fun w1 hz1 hB hB1 hv => ?_); (focus (first | exact Ty.one _ _ | simp [Value.oneCell'])); have hp := pt_of_block hv) ) | (apply isW; first | apply W_seq | apply W_region | refine W_cond_dec rfl (fun hg => ?_) (fun hg => ?_) | refine W_cond_true rfl ?_ | refine W_cond_false rfl ?_ | refine W_cond rfl (fun hg => ?_) (fun hg => ?_) | apply W_skip | apply W_ret | apply W_exit | apply W_block) | (apply isAt; first | apply At_then | apply At_then_ret | apply At_then_exit | apply At_block_normal | apply At_block_ret | apply At_block_hit | refine At_block_miss rfl ?_ | refine At_end1 rfl rfl ?_ | refine At_end1n rfl rfl ?_ | refine At_end2 rfl rfl rfl ?_ | refine At_end3 rfl rfl rfl rfl ?_ | refine At_end4 rfl rfl rfl rfl rfl ?_ | refine At_end5 rfl rfl rfl rfl rfl rfl ?_ | refine At_mix kp_ ?_))
  · have ed : cmDo ts c = true := by assumption
    have ht5 : treeOk (putL ts c.path c.to) = true := by
      unfold cmDo at ed
      simp only [Bool.and_eq_true] at ed
      exact treeOk_iff.2 (putOk_parts ed.2).2.2.2.2
    rw [ed, if_pos rfl] at hO5
    have hT5 := ((hO5.ext hB6).kept hg8 ((hO5.ext hB6).ne_ty hO7 (by decide))).rebase (Nat.le_trans hbw hz)
    exact At_round _ [(0, .pointer (some ⟨g, 0, none⟩)), (2, .int .i64 n), (7, v8), (8, r5), (9, .int .i64 ((k + 1 : Nat) : Int))] sl_ (by omega) ⟨k + 1, v8, r5, _, _, p2, rfl, by omega, rfl, hO8, by simp; omega, fun x hx => by
      rcases List.mem_append.1 hx with hx | hx
      · exact hcs x hx
      · simp at hx; subst hx; exact hpl, hT5, ht5, (hr.ext hB6).grown hO7 hlt hg8, by omega, kp_own (kp_below hgw hB6) hg8 (fun b hb => (hO7.lt b hb).1)⟩
  · exact At_round _ [(0, .pointer (some ⟨g, 0, none⟩)), (2, .int .i64 n), (7, u), (8, t), (9, .int .i64 ((k + 1 : Nat) : Int))] sl_ (by omega) ⟨k + 1, u, t, cs, ts, p2, rfl, by omega, rfl, hO, hcl, hcs, hT, htr, hr, by omega, hgw⟩
  · exact ⟨cs, p', hO, hcl, hcs, hr, by omega, hgw⟩
  · exact ⟨cs, p', hO, hcl, hcs, hr, by omega, hgw⟩

theorem set_short {cs : List Cm} {k : Nat} {c : Cm} (h : ∀ c ∈ cs, c.path.length ≤ 20) (hc : c.path.length ≤ 20) : ∀ x ∈ cs.set k c, x.path.length ≤ 20 := fun x hx => by
  rcases List.mem_or_eq_of_mem_set hx with hx | hx
  · exact h x hx
  · rw [hx]; exact hc
theorem app_short {cs : List Cm} {c : Cm} (h : ∀ c ∈ cs, c.path.length ≤ 20) (hc : c.path.length ≤ 20) : ∀ x ∈ cs ++ [c], x.path.length ≤ 20 := fun x hx => by
  rcases List.mem_append.1 hx with hx | hx
  · exact h x hx
  · simp at hx; rw [hx]; exact hc
theorem cut_short {cs : List Cm} {i j : Nat} (h : ∀ c ∈ cs, c.path.length ≤ 20) : ∀ x ∈ cs.take i ++ cs.drop j, x.path.length ≤ 20 := fun x hx => by
  rcases List.mem_append.1 hx with hx | hx
  · exact h x (List.mem_of_mem_take hx)
  · exact h x (List.mem_of_mem_drop hx)
end Go.Proofs.YtjncnmokafgigaaGreatDoor
