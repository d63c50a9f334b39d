/-
  Contracts on disks: equality, validity.
-/
import Derived.Test.YtpdkajcnnanocaaGreatDoorBlob
namespace Go.Proofs.YtpdkajcnnanocaaGreatDoor
open Go Go.RowKit
set_option linter.unusedVariables false

/-! ### Valid disks -/
def blOk (b : Bl) : Bool := bytesOk b.safe && bytesOk b.fresh && decide (b.safe.length + b.fresh.length ≤ 400)
def diskFrom (last : Int) : List Bl → Bool
  | [] => true
  | b :: r => decide (last + 1 ≤ b.name ∧ b.name ≤ 3) && blOk b && diskFrom b.name r
def diskOk (bs : List Bl) : Bool := diskFrom 0 bs

theorem diskFrom_cons {last : Int} {bs : List Bl} {k : Nat} {b : Bl} (hb : bs[k]? = some b) : diskFrom last (bs.drop k) = (decide (last + 1 ≤ b.name ∧ b.name ≤ 3) && blOk b && diskFrom b.name (bs.drop (k + 1))) := by
  obtain ⟨hk, rfl⟩ := List.getElem?_eq_some_iff.1 hb
  rw [List.drop_eq_getElem_cons hk]; rfl

theorem c_implDiskValid {v : Value} {rows : List Row3} {bs : List Bl} {w : World} (h : RdBl w v rows bs) (hsm : Small bs) : Cl Tryz.prog 18 [v] w (V w (.bool (diskOk bs))) := by
  refine calls_start 43 Tryz.func18 rfl rfl rfl ?_
  have hrd := h.rd
  have hln := h.len
  have hsz := hsm.1
  repeat' (first | (apply isL; first | apply L_nil | refine L_move rfl rfl ?_ | (apply isGuarded; first | refine L_guard_dec rfl rfl (fun hg => ?_) (fun hg => ?_) | refine L_guard_yes rfl rfl ?_ | refine L_guard_no rfl rfl rfl rfl ?_ | refine L_guard_undef rfl rfl rfl ?_ | refine L_guard_split rfl rfl (fun hg => ?_) (fun hg => ?_)) | (apply isCall; first | refine L_lenL rfl rd_ rfl (fun hlen => ?_) ) | (apply isBin; first | refine L_do rfl rfl rfl (do_cmp rfl rfl rfl) ?_ | refine L_do rfl rfl rfl (do_add rfl rfl om_) ?_ ) | (apply isLoad; first | refine L_loadPt rfl (by rfl) pt_ (by rfl) rfl ?_ | refine L_loadPt2 rfl (by rfl) pt_ (by rfl) rfl ?_ | refine L_loadPt0 rfl pt_ (by rfl) rfl ?_ | refine L_loadAgg rfl pt_ (by rfl) rfl ?_ | refine L_loadSub rfl (by rfl) pt_ (by rfl) rfl ?_) | refine L_assign rfl rfl ?_ | refine L_do rfl rfl rfl (do_pick_true rfl rfl) ?_ | refine L_do rfl rfl rfl (do_pick_false rfl rfl) ?_ | refine L_do rfl rfl rfl (do_notDec rfl) ?_ | refine L_do rfl rfl rfl (do_not rfl) ?_ | refine L_do rfl rfl rfl (do_fieldAddr rfl) ?_ | refine L_indexL rfl rfl rd_ (by rfl) om_ om_ rfl (fun a y hy hab hp => ?_) | (apply isAllocStore; refine L_allocStoreV (w0 := w) bw_ rfl rfl rfl rfl ?_ rfl (fun w1 hz1 hB hB1 hv => ?_); (focus (first | exact Ty.one _ _ | simp [Value.oneCell'])); have hp := pt_of_block hv) ) | (apply isW; first | apply W_seq | apply W_region | refine W_cond_dec rfl (fun hg => ?_) (fun hg => ?_) | refine W_cond_true rfl ?_ | refine W_cond_false rfl ?_ | refine W_cond rfl (fun hg => ?_) (fun hg => ?_) | apply W_skip | apply W_ret | apply W_exit | apply W_block) | (apply isAt; first | apply At_then | apply At_then_ret | apply At_then_exit | apply At_block_normal | apply At_block_ret | apply At_block_hit | refine At_block_miss rfl ?_ | refine At_end1 rfl rfl ?_ | refine At_end1n rfl rfl ?_ | refine At_end2 rfl rfl rfl ?_ | refine At_end3 rfl rfl rfl rfl ?_ | refine At_end4 rfl rfl rfl rfl rfl ?_ | refine At_mix kp_ ?_))
  refine W_loopF (fun m fr w' => ∃ (k : Nat) (last : Int), m = rows.length - k ∧ k ≤ rows.length ∧ fr = [(0, v), (3, .int .i64 last), (6, v), (7, .int .i64 rows.length), (8, .int .i64 k)] ∧ Below w.heap.size w w' ∧ 0 ≤ last ∧ last ≤ 3 ∧ diskOk bs = diskFrom last (bs.drop k)) rows.length
    [(0, v), (3, .int .i64 0), (6, v), (7, .int .i64 rows.length), (8, .int .i64 0)] sl_ ⟨0, 0, rfl, Nat.zero_le _, rfl, bw_, by omega, by omega, rfl⟩ ?_
  rintro _ _ w' ⟨k, last, rfl, hk, rfl, hB, hl0, hl3, hf⟩
  repeat' (first | (apply isL; first | apply L_nil | refine L_move rfl rfl ?_ | (apply isGuarded; first | refine L_guard_dec rfl rfl (fun hg => ?_) (fun hg => ?_) | refine L_guard_yes rfl rfl ?_ | refine L_guard_no rfl rfl rfl rfl ?_ | refine L_guard_undef rfl rfl rfl ?_ | refine L_guard_split rfl rfl (fun hg => ?_) (fun hg => ?_)) | (apply isCall; first | refine L_lenL rfl rd_ rfl (fun hlen => ?_) | refine L_callV rfl rfl c_in (fun w2 hB2 => ?_) | refine L_callV rfl rfl (c_bytesValid (xs := b.safe) rd_) (fun w2 hB2 => ?_) | refine L_callV rfl rfl (c_bytesValid (xs := b.fresh) rd_) (fun w2 hB2 => ?_) ) | (apply isBin; first | refine L_do rfl rfl rfl (do_cmp rfl rfl rfl) ?_ | refine L_do rfl rfl rfl (do_add rfl rfl om_) ?_ ) | (apply isLoad; first | refine L_loadPt rfl (by rfl) pt_ (by rfl) rfl ?_ | refine L_loadPt2 rfl (by rfl) pt_ (by rfl) rfl ?_ | refine L_loadPt0 rfl pt_ (by rfl) rfl ?_ | refine L_loadAgg rfl pt_ (by rfl) rfl ?_ | refine L_loadSub rfl (by rfl) pt_ (by rfl) rfl ?_) | refine L_assign rfl rfl ?_ | refine L_do rfl rfl rfl (do_pick_true rfl rfl) ?_ | refine L_do rfl rfl rfl (do_pick_false rfl rfl) ?_ | refine L_do rfl rfl rfl (do_notDec rfl) ?_ | refine L_do rfl rfl rfl (do_not rfl) ?_ | refine L_do rfl rfl rfl (do_fieldAddr rfl) ?_ | (apply isIndexAddr; refine L_indexL rfl rfl (xs := rows) rd_ (by rfl) om_ om_ rfl (fun a y hy hab hp => ?_); obtain ⟨b, hb, hbr⟩ := h.at_ k _ hy; have hs := hbr.safe; have hfr := hbr.fresh; have hbs := hsm.2 b (List.mem_of_getElem? hb); have hst := diskFrom_cons (last := last) hb) | refine L_indexL rfl rfl rd_ (by rfl) om_ om_ rfl (fun a y hy hab hp => ?_) | (apply isAllocStore; refine L_allocStoreV (w0 := w) bw_ rfl rfl rfl rfl ?_ rfl (fun w1 hz1 hB hB1 hv => ?_); (focus (first | exact Ty.one _ _ | simp [Value.oneCell'])); have hp := pt_of_block hv) ) | (apply isW; first | apply W_seq | apply W_region | refine W_cond_dec rfl (fun hg => ?_) (fun hg => ?_) | refine W_cond_true rfl ?_ | refine W_cond_false rfl ?_ | refine W_cond rfl (fun hg => ?_) (fun hg => ?_) | apply W_skip | apply W_ret | apply W_exit | apply W_block) | (apply isAt; first | apply At_then | apply At_then_ret | apply At_then_exit | apply At_block_normal | apply At_block_ret | apply At_block_hit | refine At_block_miss rfl ?_ | refine At_end1 rfl rfl ?_ | refine At_end1n rfl rfl ?_ | refine At_end2 rfl rfl rfl ?_ | refine At_end3 rfl rfl rfl rfl ?_ | refine At_end4 rfl rfl rfl rfl rfl ?_ | refine At_mix kp_ ?_))
  · refine ⟨?_, bw_⟩
    rw [hf, hst, ← hbr.name, decide_eq_false hg]; rfl
  · refine ⟨?_, bw_⟩
    have h1 : bytesOk b.safe = false := by simpa using hg
    rw [hf, hst]; simp [blOk, h1]
  · refine ⟨?_, bw_⟩
    have h1 : bytesOk b.fresh = false := by simpa using hg
    rw [hf, hst]; simp [blOk, h1]
  · refine ⟨?_, bw_⟩
    have h1 : ¬ b.safe.length + b.fresh.length ≤ 400 := by omega
    rw [hf, hst]; simp [blOk, h1]
  · have h1 : b.safe.length + b.fresh.length ≤ 400 := by omega
    have h2 : last + 1 ≤ b.name ∧ b.name ≤ 3 := by rw [← hbr.name]; exact Classical.not_not.1 (by assumption)
    have h3 : bytesOk b.safe = true := by have : (!bytesOk b.safe) = false := by assumption
                                          simpa using this
    have h4 : bytesOk b.fresh = true := by have : (!bytesOk b.fresh) = false := by assumption
                                           simpa using this
    refine At_round _ [(0, v), (3, .int .i64 b.name), (6, v), (7, .int .i64 rows.length), (8, .int .i64 ((k + 1 : Nat) : Int))] (by rw [← hbr.name]; exact sl_) (by omega) ⟨k + 1, b.name, rfl, by omega, rfl, bw_, by omega, by omega, ?_⟩
    rw [hf, hst]; simp [blOk, h1, h2, h3, h4]
  · refine ⟨?_, hB⟩
    rw [hf, List.drop_eq_nil_of_le (by omega)]; rfl

/-- the name before place k -/
def prevName (bs : List Bl) : Nat → Int
  | 0 => 0
  | k + 1 => ((bs[k]?).map (·.name)).getD 0
theorem prevName_eq {v : Value} {rows : List Row3} {bs : List Bl} {w : World} (h : RdBl w v rows bs) {k : Nat} (hk : 0 < k) {y : Row3} {i : Int} (hi : i = (k : Int) - 1) (hy : rows[i.toNat]? = some y) : prevName bs k = y.name := by
  obtain ⟨j, rfl⟩ : ∃ j, k = j + 1 := ⟨k - 1, by omega⟩
  have e : i.toNat = j := by omega
  rw [e] at hy
  obtain ⟨b, hb, hr⟩ := h.at_ j y hy
  simp [prevName, hb, hr.name]
theorem prevName_succ {bs : List Bl} {k : Nat} {b : Bl} (hb : bs[k]? = some b) : prevName bs (k + 1) = b.name := by simp [prevName, hb]
theorem c_specDiskValid {v : Value} {rows : List Row3} {bs : List Bl} {w : World} (h : RdBl w v rows bs) (hsm : Small bs) : Cl Tryz.prog 31 [v] w (V w (.bool (diskOk bs))) := by
  refine calls_start 56 Tryz.func31 rfl rfl rfl ?_
  have hrd := h.rd
  have hln := h.len
  have hsz := hsm.1
  repeat' (first | (apply isL; first | apply L_nil | refine L_move rfl rfl ?_ | (apply isGuarded; first | refine L_guard_dec rfl rfl (fun hg => ?_) (fun hg => ?_) | refine L_guard_yes rfl rfl ?_ | refine L_guard_no rfl rfl rfl rfl ?_ | refine L_guard_undef rfl rfl rfl ?_ | refine L_guard_split rfl rfl (fun hg => ?_) (fun hg => ?_)) | (apply isCall; first | refine L_lenL rfl rd_ rfl (fun hlen => ?_) ) | (apply isBin; first | refine L_do rfl rfl rfl (do_cmp rfl rfl rfl) ?_ | refine L_do rfl rfl rfl (do_add rfl rfl om_) ?_ | refine L_do rfl rfl rfl (do_sub rfl rfl om_) ?_ ) | (apply isLoad; first | refine L_loadPt rfl (by rfl) pt_ (by rfl) rfl ?_ | refine L_loadPt2 rfl (by rfl) pt_ (by rfl) rfl ?_ | refine L_loadPt0 rfl pt_ (by rfl) rfl ?_ | refine L_loadAgg rfl pt_ (by rfl) rfl ?_ | refine L_loadSub rfl (by rfl) pt_ (by rfl) rfl ?_) | refine L_assign rfl rfl ?_ | refine L_do rfl rfl rfl (do_pick_true rfl rfl) ?_ | refine L_do rfl rfl rfl (do_pick_false rfl rfl) ?_ | refine L_do rfl rfl rfl (do_notDec rfl) ?_ | refine L_do rfl rfl rfl (do_not rfl) ?_ | refine L_do rfl rfl rfl (do_fieldAddr rfl) ?_ | refine L_indexL rfl rfl rd_ (by rfl) om_ om_ rfl (fun a y hy hab hp => ?_) | (apply isAllocStore; refine L_allocStoreV (w0 := w) bw_ rfl rfl rfl rfl ?_ rfl (fun w1 hz1 hB hB1 hv => ?_); (focus (first | exact Ty.one _ _ | simp [Value.oneCell'])); have hp := pt_of_block hv) ) | (apply isLQ; first | refine LQ_nil (fun w1 hBq => ?_) | apply LQ_mix | refine LQ_move rfl rfl ?_ | (apply isGuardedQ; first | refine LQ_guard_dec rfl rfl (fun hg => ?_) (fun hg => ?_) | refine LQ_guard_yes rfl rfl ?_ | refine LQ_guard_no rfl rfl rfl rfl ?_ | refine LQ_guard_undef rfl rfl rfl ?_ | refine LQ_guard_split rfl rfl (fun hg => ?_) (fun hg => ?_)) | (apply isCallQ; first | refine LQ_lenL rfl rd_ rfl (fun hlen => ?_) ) | (apply isBinQ; first | refine LQ_do rfl rfl rfl (fun _ _ => do_cmp rfl rfl rfl) ?_ | refine LQ_do rfl rfl rfl (fun _ _ => do_cmpStr rfl rfl rfl) ?_ | refine LQ_do rfl rfl rfl (fun _ _ => do_add rfl rfl om_) ?_ | refine LQ_do rfl rfl rfl (fun _ _ => do_sub rfl rfl om_) ?_ ) | (apply isLoadQ; first | refine LQ_loadPt rfl (by rfl) pt_ (by rfl) rfl ?_ | refine LQ_loadPt2 rfl (by rfl) pt_ (by rfl) rfl ?_ | refine LQ_loadPt0 rfl pt_ (by rfl) rfl ?_ | refine LQ_loadAgg rfl pt_ (by rfl) rfl ?_ | refine LQ_loadSub rfl (by rfl) pt_ (by rfl) rfl ?_) | refine LQ_assign rfl rfl ?_ | refine LQ_do rfl rfl rfl (fun _ _ => do_pick_true rfl rfl) ?_ | refine LQ_do rfl rfl rfl (fun _ _ => do_pick_false rfl rfl) ?_ | refine LQ_do rfl rfl rfl (fun _ _ => do_notDec rfl) ?_ | refine LQ_do rfl rfl rfl (fun _ _ => do_not rfl) ?_ | refine LQ_do rfl rfl rfl (fun _ _ => do_fieldAddr rfl) ?_ | refine LQ_indexL rfl rfl rd_ (by rfl) om_ om_ rfl (fun a y hy hab hp => ?_)) | (apply isW; first | apply W_seq | apply W_region | refine W_region_Q mixed (by kernel_rfl) ?_ | refine W_cond_dec rfl (fun hg => ?_) (fun hg => ?_) | refine W_cond_true rfl ?_ | refine W_cond_false rfl ?_ | refine W_cond rfl (fun hg => ?_) (fun hg => ?_) | apply W_skip | apply W_ret | apply W_exit | apply W_block) | (apply isLM) | (apply isAt; first | apply At_then | apply At_then_ret | apply At_then_exit | apply At_block_normal | apply At_block_ret | apply At_block_hit | refine At_block_miss rfl ?_ | refine At_end1 rfl rfl ?_ | refine At_end1n rfl rfl ?_ | refine At_end2 rfl rfl rfl ?_ | refine At_end3 rfl rfl rfl rfl ?_ | refine At_end4 rfl rfl rfl rfl rfl ?_ | refine At_mix kp_ ?_))
  refine W_loopF (fun m fr w' => ∃ (k : Nat), m = rows.length - k ∧ k ≤ rows.length ∧ fr = [(0, v), (3, .int .i64 k)] ∧ Below w.heap.size w w' ∧ 0 ≤ prevName bs k ∧ prevName bs k ≤ 3 ∧ diskOk bs = diskFrom (prevName bs k) (bs.drop k)) rows.length
    [(0, v), (3, .int .i64 0)] sl_ ⟨0, rfl, Nat.zero_le _, rfl, bw_, by simp [prevName], by simp [prevName], rfl⟩ ?_
  rintro _ _ w' ⟨k, rfl, hk, rfl, hB, hl0, hl3, hf⟩
  repeat' (first | (apply isL; first | apply L_nil | refine L_move rfl rfl ?_ | (apply isGuarded; first | refine L_guard_dec rfl rfl (fun hg => ?_) (fun hg => ?_) | refine L_guard_yes rfl rfl ?_ | refine L_guard_no rfl rfl rfl rfl ?_ | refine L_guard_undef rfl rfl rfl ?_ | refine L_guard_split rfl rfl (fun hg => ?_) (fun hg => ?_)) | (apply isCall; first | refine L_lenL rfl rd_ rfl (fun hlen => ?_) ) | (apply isBin; first | refine L_do rfl rfl rfl (do_cmp rfl rfl rfl) ?_ | refine L_do rfl rfl rfl (do_add rfl rfl om_) ?_ | refine L_do rfl rfl rfl (do_sub rfl rfl om_) ?_ ) | (apply isLoad; first | refine L_loadPt rfl (by rfl) pt_ (by rfl) rfl ?_ | refine L_loadPt2 rfl (by rfl) pt_ (by rfl) rfl ?_ | refine L_loadPt0 rfl pt_ (by rfl) rfl ?_ | refine L_loadAgg rfl pt_ (by rfl) rfl ?_ | refine L_loadSub rfl (by rfl) pt_ (by rfl) rfl ?_) | refine L_assign rfl rfl ?_ | refine L_do rfl rfl rfl (do_pick_true rfl rfl) ?_ | refine L_do rfl rfl rfl (do_pick_false rfl rfl) ?_ | refine L_do rfl rfl rfl (do_notDec rfl) ?_ | refine L_do rfl rfl rfl (do_not rfl) ?_ | refine L_do rfl rfl rfl (do_fieldAddr rfl) ?_ | (apply isIndexAddr; refine L_indexL rfl rfl (xs := rows) rd_ (by rfl) om_ om_ rfl (fun a y hy hab hp => ?_); obtain ⟨b, hb, hbr⟩ := h.at_ k _ hy; have hs := hbr.safe; have hfr := hbr.fresh; have hbs := hsm.2 b (List.mem_of_getElem? hb); have hst := diskFrom_cons (last := prevName bs k) hb) | refine L_indexL rfl rfl rd_ (by rfl) om_ om_ rfl (fun a y hy hab hp => ?_) | (apply isAllocStore; refine L_allocStoreV (w0 := w) bw_ rfl rfl rfl rfl ?_ rfl (fun w1 hz1 hB hB1 hv => ?_); (focus (first | exact Ty.one _ _ | simp [Value.oneCell'])); have hp := pt_of_block hv) ) | (apply isLQ; first | refine LQ_nil (fun w1 hBq => ?_) | apply LQ_mix | refine LQ_move rfl rfl ?_ | (apply isGuardedQ; first | refine LQ_guard_dec rfl rfl (fun hg => ?_) (fun hg => ?_) | refine LQ_guard_yes rfl rfl ?_ | refine LQ_guard_no rfl rfl rfl rfl ?_ | refine LQ_guard_undef rfl rfl rfl ?_ | refine LQ_guard_split rfl rfl (fun hg => ?_) (fun hg => ?_)) | (apply isCallQ; first | refine LQ_lenL rfl rd_ rfl (fun hlen => ?_) | refine LQ_callV rfl rfl (fun w2 hB2 => c_l6In) ?_ | refine LQ_callV rfl rfl (fun w2 hB2 => c_l4Bytes (xs := b.safe) (RdL.ext rd_ hB2)) ?_ | refine LQ_callV rfl rfl (fun w2 hB2 => c_l4Bytes (xs := b.fresh) (RdL.ext rd_ hB2)) ?_ ) | (apply isBinQ; first | refine LQ_do rfl rfl rfl (fun _ _ => do_cmp rfl rfl rfl) ?_ | refine LQ_do rfl rfl rfl (fun _ _ => do_cmpStr rfl rfl rfl) ?_ | refine LQ_do rfl rfl rfl (fun _ _ => do_add rfl rfl om_) ?_ | refine LQ_do rfl rfl rfl (fun _ _ => do_sub rfl rfl om_) ?_ ) | (apply isLoadQ; first | refine LQ_loadPt rfl (by rfl) pt_ (by rfl) rfl ?_ | refine LQ_loadPt2 rfl (by rfl) pt_ (by rfl) rfl ?_ | refine LQ_loadPt0 rfl pt_ (by rfl) rfl ?_ | refine LQ_loadAgg rfl pt_ (by rfl) rfl ?_ | refine LQ_loadSub rfl (by rfl) pt_ (by rfl) rfl ?_) | refine LQ_assign rfl rfl ?_ | refine LQ_do rfl rfl rfl (fun _ _ => do_pick_true rfl rfl) ?_ | refine LQ_do rfl rfl rfl (fun _ _ => do_pick_false rfl rfl) ?_ | refine LQ_do rfl rfl rfl (fun _ _ => do_notDec rfl) ?_ | refine LQ_do rfl rfl rfl (fun _ _ => do_not rfl) ?_ | refine LQ_do rfl rfl rfl (fun _ _ => do_fieldAddr rfl) ?_ | refine LQ_indexL rfl rfl rd_ (by rfl) om_ om_ rfl (fun a y hy hab hp => ?_)) | (apply isW; first | apply W_seq | apply W_region | refine W_region_Q mixed (by kernel_rfl) ?_ | refine W_cond_dec rfl (fun hg => ?_) (fun hg => ?_) | refine W_cond_true rfl ?_ | refine W_cond_false rfl ?_ | refine W_cond rfl (fun hg => ?_) (fun hg => ?_) | apply W_skip | apply W_ret | apply W_exit | apply W_block) | (apply isLM) | (apply isAt; first | apply At_then | apply At_then_ret | apply At_then_exit | apply At_block_normal | apply At_block_ret | apply At_block_hit | refine At_block_miss rfl ?_ | refine At_end1 rfl rfl ?_ | refine At_end1n rfl rfl ?_ | refine At_end2 rfl rfl rfl ?_ | refine At_end3 rfl rfl rfl rfl ?_ | refine At_end4 rfl rfl rfl rfl rfl ?_ | refine At_mix kp_ ?_))
  · refine ⟨?_, bw_⟩
    have h1 : ¬ (prevName bs k + 1 ≤ b.name ∧ b.name ≤ 3) := by rw [← hbr.name]; omega
    rw [hf, hst, decide_eq_false h1]; rfl
  · refine ⟨?_, bw_⟩
    have h1 : bytesOk b.safe = false := by have : (!bytesOk b.safe) = true := by assumption
                                           simpa using this
    rw [hf, hst]; simp [blOk, h1]
  · refine ⟨?_, bw_⟩
    have h1 : bytesOk b.fresh = false := by have : (!bytesOk b.fresh) = true := by assumption
                                            simpa using this
    rw [hf, hst]; simp [blOk, h1]
  · refine ⟨?_, bw_⟩
    have h1 : ¬ b.safe.length + b.fresh.length ≤ 400 := by omega
    rw [hf, hst]; simp [blOk, h1]
  · refine ⟨?_, bw_⟩
    have hpv := prevName_eq h (by omega) rfl hy
    have h1 : ¬ (prevName bs k + 1 ≤ b.name ∧ b.name ≤ 3) := by rw [← hbr.name]; omega
    rw [hf, hst, decide_eq_false h1]; rfl
  · have hpv := prevName_eq h (by omega) rfl hy
    have hnm := hbr.name
    have h1 : b.safe.length + b.fresh.length ≤ 400 := by omega
    have h2 : prevName bs k + 1 ≤ b.name ∧ b.name ≤ 3 := by omega
    have h3 : bytesOk b.safe = true := by have : (!bytesOk b.safe) = false := by assumption
                                          simpa using this
    have h4 : bytesOk b.fresh = true := by have : (!bytesOk b.fresh) = false := by assumption
                                           simpa using this
    refine At_round _ [(0, v), (3, .int .i64 ((k + 1 : Nat) : Int))] sl_ (by omega) ⟨k + 1, rfl, by omega, rfl, bw_, by rw [prevName_succ hb]; omega, by rw [prevName_succ hb]; omega, ?_⟩
    rw [hf, hst, prevName_succ hb]; simp [blOk, h1, h2, h3, h4]
  · have hk0 : k = 0 := by omega
    have hnm := hbr.name
    have hp0 : prevName bs k = 0 := by subst hk0; rfl
    have h1 : b.safe.length + b.fresh.length ≤ 400 := by omega
    have h2 : prevName bs k + 1 ≤ b.name ∧ b.name ≤ 3 := by omega
    have h3 : bytesOk b.safe = true := by have : (!bytesOk b.safe) = false := by assumption
                                          simpa using this
    have h4 : bytesOk b.fresh = true := by have : (!bytesOk b.fresh) = false := by assumption
                                           simpa using this
    refine At_round _ [(0, v), (3, .int .i64 ((k + 1 : Nat) : Int))] sl_ (by omega) ⟨k + 1, rfl, by omega, rfl, bw_, by rw [prevName_succ hb]; omega, by rw [prevName_succ hb]; omega, ?_⟩
    rw [hf, hst, prevName_succ hb]; simp [blOk, h1, h2, h3, h4]
  · refine ⟨?_, hB⟩
    rw [hf, List.drop_eq_nil_of_le (by omega)]; rfl

/-- A disk's files that are in order: names from 1 to 3, sizes. -/
theorem diskFrom_at : ∀ (bs : List Bl) (l : Int), diskFrom l bs = true → ∀ b ∈ bs, l + 1 ≤ b.name ∧ b.name ≤ 3 ∧ blOk b = true
  | [], _, _, b, hb => by simp at hb
  | c :: r, l, h, b, hb => by
    simp only [diskFrom, Bool.and_eq_true, decide_eq_true_eq] at h
    rcases List.mem_cons.1 hb with rfl | hb
    · exact ⟨h.1.1.1, h.1.1.2, h.1.2⟩
    · have := diskFrom_at r c.name h.2 b hb
      exact ⟨by omega, this.2⟩
end Go.Proofs.YtpdkajcnnanocaaGreatDoor
