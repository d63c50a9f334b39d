/-
  Contracts: the bytes of a command, by the program's function and by the reference's.
-/
import Derived.Test.YtpdkajcnnanocaaDoorCmds
namespace Go.Proofs.YtpdkajcnnanocaaDoor
open Go Go.RowKit
set_option linter.unusedVariables false
set_option linter.unusedSimpArgs false

def nums (s : Str) : List Int := s.map (fun b => (b.toNat : Int))
def cmBytes (c : Cm) : List Int := if cmOk c then [c.fr.kind, c.fr.value, c.to.kind, c.to.value] ++ nums c.path else []
theorem nums_step {s : Str} {k : Nat} {b : UInt8} (h : s[k]? = some b) : nums (s.take (k + 1)) = nums (s.take k) ++ [(b.toNat : Int)] := by
  unfold nums; rw [List.take_add_one, h]; simp
theorem nums_len (s : Str) : (nums s).length = s.length := by simp [nums]

theorem c_specCommandBytes {c : Cm} {w : World} (hs : c.path.length ≤ 4294967280) : Cl Tryd.prog 77 [vCm c] w (fun u w' => OwL tInt w' w.heap.size 3 u (cmBytes c) ∧ Below w.heap.size w w') := by
  refine calls_start 38 Tryd.func77 rfl rfl rfl ?_
  repeat' (first | (apply isL; first | apply L_nil | refine L_move rfl rfl ?_ | (apply isCall; first | refine L_do rfl rfl rfl (do_lenS rfl) ?_ | refine L_do rfl rfl rfl (do_lenStr rfl) ?_ | refine L_callV rfl rfl (c_specCommandValid (c := c) hs) (fun w2 hB2 => ?_) ) | (apply isBin; first | refine L_do rfl rfl rfl (do_cmp rfl rfl rfl) ?_ | refine L_do rfl rfl rfl (do_add rfl rfl om_) ?_ ) | (apply isLoad; first | refine L_loadPt rfl (by rfl) pt_ (by rfl) rfl ?_ | refine L_loadPt2 rfl (by rfl) pt_ (by rfl) rfl ?_ | refine L_loadPt0 rfl pt_ (by rfl) rfl ?_ | refine L_loadAgg rfl pt_ (by rfl) rfl ?_ | refine L_loadSub rfl (by rfl) pt_ (by rfl) rfl ?_) | refine L_assign rfl rfl ?_ | refine L_do rfl rfl rfl (do_notDec rfl) ?_ | refine L_do rfl rfl rfl (do_not rfl) ?_ | refine L_do rfl rfl rfl (do_fieldAddr rfl) ?_ | refine L_indexStr rfl rfl om_ om_ rfl (fun b hb => ?_) | refine L_buildSlice0 (w0 := w) tInt bw_ rfl (fun w3 hO3 hB3 hC3 => ?_) | refine L_buildSliceL tInt [c.fr.kind, c.fr.value, c.to.kind, c.to.value] rfl rfl rfl rfl rfl rfl rfl rfl (fun w3 hO3 hB3 => ?_) | (apply isBox; refine L_boxV (w0 := w) bw_ rfl rfl (fun w1 hz1 hB hB1 hv => ?_); have hp := pt_of_block hv) ) | (apply isW; first | apply W_seq | apply W_region | refine W_cond_dec rfl (fun hg => ?_) (fun hg => ?_) | refine W_cond_true rfl ?_ | refine W_cond_false rfl ?_ | refine W_cond rfl (fun hg => ?_) (fun hg => ?_) | apply W_skip | apply W_ret | apply W_exit | apply W_block) | (apply isAt; first | apply At_then | apply At_then_ret | apply At_then_exit | apply At_block_normal | apply At_block_ret | apply At_block_hit | refine At_block_miss rfl ?_ | refine At_end1 rfl rfl ?_ | refine At_end1n rfl rfl ?_ | refine At_end2 rfl rfl rfl ?_ | refine At_end3 rfl rfl rfl rfl ?_ | refine At_end4 rfl rfl rfl rfl rfl ?_ | refine At_mix kp_ ?_))
  · have e : cmOk c = false := by simpa using hg
    exact ⟨by rw [cmBytes, e]; exact hO3, bw_⟩
  have e : cmOk c = true := by simpa using hg
  have hC3 : Below w1.heap.size w1 w3 := bw_
  have hz3 := hB2.size
  refine W_loopF (fun m fr w' => ∃ (k : Nat) (u : Value), m = c.path.length - k ∧ k ≤ c.path.length ∧ fr = [(1, .pointer (some ⟨w.heap.size, 0, none⟩)), (3, u), (4, .int .i64 k)] ∧ Below w1.heap.size w1 w' ∧ OwL tInt w' w1.heap.size 3 u ([c.fr.kind, c.fr.value, c.to.kind, c.to.value] ++ nums (c.path.take k))) c.path.length
    [(1, .pointer (some ⟨w.heap.size, 0, none⟩)), (3, .slice (some ⟨w2.heap.size, 0, none⟩) 4 4), (4, .int .i64 0)] sl_ ⟨0, _, rfl, Nat.zero_le _, rfl, hC3, hO3.rebase hz3⟩ ?_
  clear hO3 hC3 hB3 hB2 hz3
  rintro _ _ w' ⟨k, u, rfl, hk, rfl, hBk, hO⟩
  repeat' (first | (apply isL; first | apply L_nil | refine L_move rfl rfl ?_ | (apply isCall; first | refine L_do rfl rfl rfl (do_lenS rfl) ?_ | refine L_do rfl rfl rfl (do_lenStr rfl) ?_ | refine L_append (w0 := w1) rfl rfl (below_step hBk hB3) (hO.ext hB3) hO3.rd rfl (by simp [nums_len]; omega) (by simp [nums_len]; omega) rfl (fun v4 w4 hO4 hB4 hg4 => ?_) ) | (apply isBin; first | refine L_do rfl rfl rfl (do_cmp rfl rfl rfl) ?_ | refine L_do rfl rfl rfl (do_add rfl rfl om_) ?_ ) | (apply isLoad; first | refine L_loadPt rfl (by rfl) pt_ (by rfl) rfl ?_ | refine L_loadPt2 rfl (by rfl) pt_ (by rfl) rfl ?_ | refine L_loadPt0 rfl pt_ (by rfl) rfl ?_ | refine L_loadAgg rfl pt_ (by rfl) rfl ?_ | refine L_loadSub rfl (by rfl) pt_ (by rfl) rfl ?_) | refine L_assign rfl rfl ?_ | refine L_do rfl rfl rfl (do_notDec rfl) ?_ | refine L_do rfl rfl rfl (do_not rfl) ?_ | refine L_do rfl rfl rfl (do_fieldAddr rfl) ?_ | refine L_indexStr rfl rfl om_ om_ rfl (fun b hb => ?_) | (have h8 := b.toNat_lt; refine L_do rfl rfl rfl (do_convInt (ds := .int .u8) (by kernel_rfl) (by kernel_rfl) rfl ⟨by omega, by omega⟩) ?_) | refine L_buildSliceL tInt [(b.toNat : Int)] rfl rfl rfl rfl rfl rfl rfl rfl (fun w3 hO3 hB3 => ?_) | (apply isBox; refine L_boxV (w0 := w) bw_ rfl rfl (fun w1 hz1 hB hB1 hv => ?_); have hp := pt_of_block hv) ) | (apply isW; first | apply W_seq | apply W_region | refine W_cond_dec rfl (fun hg => ?_) (fun hg => ?_) | refine W_cond_true rfl ?_ | refine W_cond_false rfl ?_ | refine W_cond rfl (fun hg => ?_) (fun hg => ?_) | apply W_skip | apply W_ret | apply W_exit | apply W_block) | (apply isAt; first | apply At_then | apply At_then_ret | apply At_then_exit | apply At_block_normal | apply At_block_ret | apply At_block_hit | refine At_block_miss rfl ?_ | refine At_end1 rfl rfl ?_ | refine At_end1n rfl rfl ?_ | refine At_end2 rfl rfl rfl ?_ | refine At_end3 rfl rfl rfl rfl ?_ | refine At_end4 rfl rfl rfl rfl rfl ?_ | refine At_mix kp_ ?_))
  · have hbk : c.path[k]? = some b := by assumption
    rw [List.append_assoc, ← nums_step hbk] at hO4
    exact At_round _ [(1, .pointer (some ⟨w.heap.size, 0, none⟩)), (3, v4), (4, .int .i64 ((k + 1 : Nat) : Int))] sl_ (by omega) ⟨k + 1, v4, rfl, by omega, rfl, hB4, hO4⟩
  · rw [List.take_of_length_le (by omega)] at hO
    exact ⟨by rw [cmBytes, e]; exact hO.rebase hB.size, below_step hB hBk⟩

/-! ### Commands in an exact law -/
end Go.Proofs.YtpdkajcnnanocaaDoor
