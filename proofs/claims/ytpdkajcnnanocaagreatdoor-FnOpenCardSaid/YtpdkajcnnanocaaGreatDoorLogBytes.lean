/-
  Contracts: the bytes of a log, by the program's function and by the reference's.
-/
import Derived.Test.YtpdkajcnnanocaaGreatDoorCmList
import Derived.Test.YtpdkajcnnanocaaGreatDoorFrames
namespace Go.Proofs.YtpdkajcnnanocaaGreatDoor
open Go Go.RowKit
set_option linter.unusedVariables false
set_option linter.unusedSimpArgs false

def cmFrame (c : Cm) : List Int := fmOf (cmBytes c)
def cmFrames (l : List Cm) : List Int := l.flatMap cmFrame
def logBytes (l : List Cm) : List Int := if logOk l then cmFrames l else []
theorem cmFrames_len (l : List Cm) : (cmFrames l).length ≤ 18 * l.length := by
  unfold cmFrames
  induction l with
  | nil => simp
  | cons c r ih => simp only [List.flatMap_cons, List.length_append, List.length_cons]; have := fmOf_len (cmBytes c); unfold cmFrame at *; omega
theorem cmFrames_step {l : List Cm} {k : Nat} {c : Cm} (h : l[k]? = some c) : cmFrames (l.take (k + 1)) = cmFrames (l.take k) ++ cmFrame c := by
  unfold cmFrames; rw [List.take_add_one, h]; simp
theorem log_len {l : List Cm} (h : logOk l = true) : l.length ≤ 20 := by unfold logOk at h; simp at h; omega
theorem logBytes_len (l : List Cm) : (logBytes l).length ≤ 360 := by
  unfold logBytes
  split
  · rename_i h; have := cmFrames_len l; have := log_len h; omega
  · simp

theorem c_specLogBytes {v : Value} {xs : List Cm} {w : World} (h : RdL tCm w v xs) (hsm : ShortC xs) : Cl Tryz.prog 45 [v] w (fun u w' => ∃ r, u = .tuple #[r, .bool (logOk xs)] ∧ OwL tInt w' w.heap.size 3 r (logBytes xs) ∧ Below w.heap.size w w') := by
  refine calls_start 26 Tryz.func45 rfl rfl rfl ?_
  repeat' (first | (apply isL; first | apply L_nil | refine L_move rfl rfl ?_ | (apply isCall; first | refine L_lenL rfl rd_ rfl (fun hlen => ?_) | (refine L_callV rfl rfl (c_specLogValid (h.ext bw_) hsm) (fun w4 hB4 => ?_); have hO4 := hO3.ext hB4; have hBw4 : Below w.heap.size w w4 := below_step hB3 hB4; cases hok : logOk xs) ) | (apply isBin; first | refine L_do rfl rfl rfl (do_cmp rfl rfl rfl) ?_ | refine L_do rfl rfl rfl (do_add rfl rfl om_) ?_ ) | (apply isLoad; first | refine L_loadPt rfl (by rfl) pt_ (by rfl) rfl ?_ | refine L_loadPt2 rfl (by rfl) pt_ (by rfl) rfl ?_ | refine L_loadPt0 rfl pt_ (by rfl) rfl ?_ | refine L_loadAgg rfl pt_ (by rfl) rfl ?_ | refine L_loadSub rfl (by rfl) pt_ (by rfl) rfl ?_) | refine L_assign rfl rfl ?_ | refine L_do rfl rfl rfl (do_notDec rfl) ?_ | refine L_do rfl rfl rfl (do_not rfl) ?_ | refine L_buildSlice0 (w0 := w) tInt bw_ rfl (fun w3 hO3 hB3 hC3 => ?_) | refine L_indexL rfl rfl rd_ (by rfl) om_ om_ rfl (fun a y hy hab hp => ?_) ) | (apply isW; first | apply W_seq | apply W_region | refine W_cond_dec rfl (fun hg => ?_) (fun hg => ?_) | refine W_cond_true rfl ?_ | refine W_cond_false rfl ?_ | refine W_cond rfl (fun hg => ?_) (fun hg => ?_) | apply W_skip | apply W_ret | apply W_exit | apply W_block) | (apply isAt; first | apply At_then | apply At_then_ret | apply At_then_exit | apply At_block_normal | apply At_block_ret | apply At_block_hit | refine At_block_miss rfl ?_ | refine At_end1 rfl rfl ?_ | refine At_end1n rfl rfl ?_ | refine At_end2 rfl rfl rfl ?_ | refine At_end3 rfl rfl rfl rfl ?_ | refine At_end4 rfl rfl rfl rfl rfl ?_ | refine At_mix kp_ ?_))
  · exact ⟨_, rfl, by rw [logBytes, hok]; exact hO4, hBw4⟩
  have hl20 := log_len hok
  clear hO3 hB3 hC3 hB4
  refine W_loopF (fun m fr w' => ∃ (k : Nat) (u : Value), m = xs.length - k ∧ k ≤ xs.length ∧ fr = [(0, v), (4, u), (5, .int .i64 k)] ∧ Below w.heap.size w w' ∧ OwL tInt w' w.heap.size 3 u (cmFrames (xs.take k))) xs.length
    [(0, v), (4, .slice (some ⟨w.heap.size, 0, none⟩) 0 0), (5, .int .i64 0)] sl_ ⟨0, _, rfl, Nat.zero_le _, rfl, hBw4, hO4⟩ ?_
  clear hO4 hBw4
  rintro _ _ w' ⟨k, u, rfl, hk, rfl, hB, hO⟩
  have hfl := cmFrames_len (xs.take k)
  have htl : (xs.take k).length ≤ 20 := by simp; omega
  repeat' (first | (apply isL; first | apply L_nil | refine L_move rfl rfl ?_ | (apply isCall; first | refine L_lenL rfl rd_ rfl (fun hlen => ?_) | (refine L_call rfl rfl (c_specCommandBytes (c := y) (by have := hsm.at_ hy; omega)) (fun v5 w5 hQ => ?_); obtain ⟨hO5, hB5⟩ := hQ) | (have hl18 := fmOf_len (cmBytes y); refine L_call rfl rfl (c_specFrameOf hO5.rd) (fun v6 w6 hQ => ?_); obtain ⟨hO6, hB6⟩ := hQ; have hO66 := hO.ext (below_step hB5 hB6); have hBw6 : Below w.heap.size w w6 := below_step hB (below_step hB5 hB6)) | refine L_append (w0 := w) rfl rfl hBw6 hO66 hO6.rd rfl om_ om_ rfl (fun v7 w7 hO7 hB7 hg7 => ?_) ) | (apply isBin; first | refine L_do rfl rfl rfl (do_cmp rfl rfl rfl) ?_ | refine L_do rfl rfl rfl (do_add rfl rfl om_) ?_ ) | (apply isLoad; first | refine L_loadPt rfl (by rfl) pt_ (by rfl) rfl ?_ | refine L_loadPt2 rfl (by rfl) pt_ (by rfl) rfl ?_ | refine L_loadPt0 rfl pt_ (by rfl) rfl ?_ | refine L_loadAgg rfl pt_ (by rfl) rfl ?_ | refine L_loadSub rfl (by rfl) pt_ (by rfl) rfl ?_) | refine L_assign rfl rfl ?_ | refine L_do rfl rfl rfl (do_notDec rfl) ?_ | refine L_do rfl rfl rfl (do_not rfl) ?_ | refine L_indexL rfl rfl rd_ (by rfl) om_ om_ rfl (fun a y hy hab hp => ?_) ) | (apply isW; first | apply W_seq | apply W_region | refine W_cond_dec rfl (fun hg => ?_) (fun hg => ?_) | refine W_cond_true rfl ?_ | refine W_cond_false rfl ?_ | refine W_cond rfl (fun hg => ?_) (fun hg => ?_) | apply W_skip | apply W_ret | apply W_exit | apply W_block) | (apply isAt; first | apply At_then | apply At_then_ret | apply At_then_exit | apply At_block_normal | apply At_block_ret | apply At_block_hit | refine At_block_miss rfl ?_ | refine At_end1 rfl rfl ?_ | refine At_end1n rfl rfl ?_ | refine At_end2 rfl rfl rfl ?_ | refine At_end3 rfl rfl rfl rfl ?_ | refine At_end4 rfl rfl rfl rfl rfl ?_ | refine At_mix kp_ ?_))
  · have hyy : xs[k]? = some y := hy
    rw [show fmOf (cmBytes y) = cmFrame y from rfl, ← cmFrames_step hyy] at hO7
    exact At_round _ [(0, v), (4, v7), (5, .int .i64 ((k + 1 : Nat) : Int))] sl_ (by omega) ⟨k + 1, _, rfl, by omega, rfl, hB7, hO7⟩
  · rw [List.take_of_length_le (by omega)] at hO
    exact ⟨_, rfl, by rw [logBytes, hok]; exact hO, hB⟩

theorem c_implLogBytes {v : Value} {xs : List Cm} {w : World} (h : RdL tCm w v xs) (hm : MLen w) (hsm : ShortC xs) : Cl Tryz.prog 20 [v] w (fun u w' => ∃ r, u = .tuple #[r, .bool (logOk xs)] ∧ OwL tInt w' w.heap.size 3 r (logBytes xs) ∧ Below w.heap.size w w') := by
  refine calls_start 23 Tryz.func20 rfl rfl rfl ?_
  repeat' (first | (apply isL; first | apply L_nil | refine L_move rfl rfl ?_ | (apply isCall; first | refine L_lenL rfl rd_ rfl (fun hlen => ?_) | (refine L_callV rfl rfl (c_implLogValid (h.ext bw_) (hm.ext bw_) hsm) (fun w4 hB4 => ?_); cases hok : logOk xs) ) | (apply isBin; first | refine L_do rfl rfl rfl (do_cmp rfl rfl rfl) ?_ | refine L_do rfl rfl rfl (do_add rfl rfl om_) ?_ ) | (apply isLoad; first | refine L_loadPt rfl (by rfl) pt_ (by rfl) rfl ?_ | refine L_loadPt2 rfl (by rfl) pt_ (by rfl) rfl ?_ | refine L_loadPt0 rfl pt_ (by rfl) rfl ?_ | refine L_loadAgg rfl pt_ (by rfl) rfl ?_ | refine L_loadSub rfl (by rfl) pt_ (by rfl) rfl ?_) | refine L_assign rfl rfl ?_ | refine L_do rfl rfl rfl (do_notDec rfl) ?_ | refine L_do rfl rfl rfl (do_not rfl) ?_ | refine L_indexL rfl rfl rd_ (by rfl) om_ om_ rfl (fun a y hy hab hp => ?_) | (apply isAllocStore; refine L_allocStoreV (w0 := w) bw_ rfl rfl rfl rfl ?_ rfl (fun w1 hz1 hB hB1 hv => ?_); (focus (first | exact Ty.one _ _ | simp [Value.oneCell'])); have hp := pt_of_block hv) ) | (apply isW; first | apply W_seq | apply W_region | refine W_cond_dec rfl (fun hg => ?_) (fun hg => ?_) | refine W_cond_true rfl ?_ | refine W_cond_false rfl ?_ | refine W_cond rfl (fun hg => ?_) (fun hg => ?_) | apply W_skip | apply W_ret | apply W_exit | apply W_block) | (apply isAt; first | apply At_then | apply At_then_ret | apply At_then_exit | apply At_block_normal | apply At_block_ret | apply At_block_hit | refine At_block_miss rfl ?_ | refine At_end1 rfl rfl ?_ | refine At_end1n rfl rfl ?_ | refine At_end2 rfl rfl rfl ?_ | refine At_end3 rfl rfl rfl rfl ?_ | refine At_end4 rfl rfl rfl rfl rfl ?_ | refine At_mix kp_ ?_))
  · exact ⟨_, rfl, by rw [logBytes, hok]; exact ⟨by simp, .inl ⟨rfl, rfl⟩⟩, bw_⟩
  have hl20 := log_len hok
  refine W_loopF (fun m fr w' => ∃ (k : Nat) (u : Value), m = xs.length - k ∧ k ≤ xs.length ∧ fr = [(4, u), (10, v), (11, .int .i64 xs.length), (12, .int .i64 k)] ∧ Below w.heap.size w w' ∧ OwL tInt w' w.heap.size 3 u (cmFrames (xs.take k))) xs.length
    [(4, .slice none 0 0), (10, v), (11, .int .i64 xs.length), (12, .int .i64 0)] sl_ ⟨0, _, rfl, Nat.zero_le _, rfl, hB4, ⟨by simp [cmFrames], .inl ⟨rfl, rfl⟩⟩⟩ ?_
  clear hB4
  rintro _ _ w' ⟨k, u, rfl, hk, rfl, hB, hO⟩
  have hfl := cmFrames_len (xs.take k)
  have htl : (xs.take k).length ≤ 20 := by simp; omega
  repeat' (first | (apply isL; first | apply L_nil | refine L_move rfl rfl ?_ | (apply isCall; first | refine L_lenL rfl rd_ rfl (fun hlen => ?_) | (refine L_call rfl rfl (c_implCommandBytes (c := y) (hm.ext bw_) (by have := hsm.at_ hy; omega)) (fun v5 w5 hQ => ?_); obtain ⟨hO5, hB5⟩ := hQ) | (have hl18 := fmOf_len (cmBytes y); refine L_call rfl rfl (c_implFrameOf hO5.rd) (fun v6 w6 hQ => ?_); obtain ⟨hO6, hB6⟩ := hQ; have hO66 := hO.ext (show Below w'.heap.size w' w6 from bw_); have hBw6 : Below w.heap.size w w6 := bw_) | refine L_append (w0 := w) rfl rfl hBw6 hO66 hO6.rd rfl om_ om_ rfl (fun v7 w7 hO7 hB7 hg7 => ?_) ) | (apply isBin; first | refine L_do rfl rfl rfl (do_cmp rfl rfl rfl) ?_ | refine L_do rfl rfl rfl (do_add rfl rfl om_) ?_ ) | (apply isLoad; first | refine L_loadPt rfl (by rfl) pt_ (by rfl) rfl ?_ | refine L_loadPt2 rfl (by rfl) pt_ (by rfl) rfl ?_ | refine L_loadPt0 rfl pt_ (by rfl) rfl ?_ | refine L_loadAgg rfl pt_ (by rfl) rfl ?_ | refine L_loadSub rfl (by rfl) pt_ (by rfl) rfl ?_) | refine L_assign rfl rfl ?_ | refine L_do rfl rfl rfl (do_notDec rfl) ?_ | refine L_do rfl rfl rfl (do_not rfl) ?_ | refine L_indexL rfl rfl rd_ (by rfl) om_ om_ rfl (fun a y hy hab hp => ?_) | (apply isAllocStore; refine L_allocStoreV (w0 := w) bw_ rfl rfl rfl rfl ?_ rfl (fun w1 hz1 hB hB1 hv => ?_); (focus (first | exact Ty.one _ _ | simp [Value.oneCell'])); have hp := pt_of_block hv) ) | (apply isW; first | apply W_seq | apply W_region | refine W_cond_dec rfl (fun hg => ?_) (fun hg => ?_) | refine W_cond_true rfl ?_ | refine W_cond_false rfl ?_ | refine W_cond rfl (fun hg => ?_) (fun hg => ?_) | apply W_skip | apply W_ret | apply W_exit | apply W_block) | (apply isAt; first | apply At_then | apply At_then_ret | apply At_then_exit | apply At_block_normal | apply At_block_ret | apply At_block_hit | refine At_block_miss rfl ?_ | refine At_end1 rfl rfl ?_ | refine At_end1n rfl rfl ?_ | refine At_end2 rfl rfl rfl ?_ | refine At_end3 rfl rfl rfl rfl ?_ | refine At_end4 rfl rfl rfl rfl rfl ?_ | refine At_mix kp_ ?_))
  · have hyy : xs[k]? = some y := by assumption
    rw [show fmOf (cmBytes y) = cmFrame y from rfl, ← cmFrames_step hyy] at hO7
    exact At_round _ [(4, v7), (10, v), (11, .int .i64 xs.length), (12, .int .i64 ((k + 1 : Nat) : Int))] sl_ (by omega) ⟨k + 1, _, rfl, by omega, rfl, hB7, hO7⟩
  · rw [List.take_of_length_le (by omega)] at hO
    exact ⟨_, rfl, by rw [logBytes, hok]; exact hO, hB⟩
end Go.Proofs.YtpdkajcnnanocaaGreatDoor
