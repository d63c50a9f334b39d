/-
  Contracts: lists of commands: validity, sizes, copies, equality, marks; searches by a predicate.
-/
import Derived.Test.YtjobbcdolbhadaaGreatDoorCmBytes
import Derived.Test.YtjobbcdolbhadaaGreatDoorCmEq
import Derived.Test.YtjobbcdolbhadaaGreatDoorBlob
import Derived.Test.YtjobbcdolbhadaaGreatDoorMarks
namespace Go.Proofs.YtjobbcdolbhadaaGreatDoor
open Go Go.RowKit
set_option linter.unusedVariables false
set_option linter.unusedSimpArgs false

def ShortC (cs : List Cm) : Prop := ∀ c ∈ cs, c.path.length ≤ 1048576
/-- A list of commands that came in. -/
structure RdCms (w : World) (v : Value) (xs : List Cm) : Prop where
  rd : RdL tCm w v xs
  max : ∀ c ∈ xs, c.path.length ≤ 9223372036854775807
def logOk (cs : List Cm) : Bool := decide (cs.length ≤ 20) && cs.all cmOk
theorem ShortC.at_ {cs : List Cm} (h : ShortC cs) {i : Nat} {c : Cm} (hc : cs[i]? = some c) : c.path.length ≤ 1048576 := h c (List.mem_of_getElem? hc)

theorem c_IndexFunc_cm {v : Value} {xs : List Cm} {w : World} {f : FuncId} [Enters Tryz.prog f] {cap : List Value} (p : Cm → Bool) (h : RdL tCm w v xs)
    (hpr : ∀ x, x ∈ xs → ∀ w', Below w.heap.size w w' → Cl Tryz.prog f ([vCm x] ++ cap) w' (V w' (.bool (p x)))) :
    Cl Tryz.prog 35 [v, .func (.func f) #[] cap.toArray] w (V w (.int .i64 (idxOf p xs))) := by
  refine calls_start 19 Tryz.func35 rfl rfl rfl ?_
  have hml := h.maxLen
  repeat' (first | (apply isL; first | apply L_nil | refine L_move rfl rfl ?_ | (apply isCall; first | refine L_lenL rfl rd_ rfl (fun hlen => ?_) ) | (apply isBin; first | refine L_do rfl rfl rfl (do_cmp rfl rfl rfl) ?_ | refine L_do rfl rfl rfl (do_add rfl rfl om_) ?_ ) | (apply isLoad; first | refine L_loadPt rfl (by rfl) pt_ (by rfl) rfl ?_ | refine L_loadPt2 rfl (by rfl) pt_ (by rfl) rfl ?_ | refine L_loadPt0 rfl pt_ (by rfl) rfl ?_ | refine L_loadAgg rfl pt_ (by rfl) rfl ?_ | refine L_loadSub rfl (by rfl) pt_ (by rfl) rfl ?_) | refine L_assign rfl rfl ?_ | refine L_indexL rfl rfl rd_ (by rfl) om_ om_ rfl (fun a y hy hab hp => ?_) ) | (apply isW; first | apply W_seq | apply W_region | refine W_cond_dec rfl (fun hg => ?_) (fun hg => ?_) | refine W_cond_true rfl ?_ | refine W_cond_false rfl ?_ | refine W_cond rfl (fun hg => ?_) (fun hg => ?_) | apply W_skip | apply W_ret | apply W_exit | apply W_block) | (apply isAt; first | apply At_then | apply At_then_ret | apply At_then_exit | apply At_block_normal | apply At_block_ret | apply At_block_hit | refine At_block_miss rfl ?_ | refine At_end1 rfl rfl ?_ | refine At_end1n rfl rfl ?_ | refine At_end2 rfl rfl rfl ?_ | refine At_end3 rfl rfl rfl rfl ?_ | refine At_end4 rfl rfl rfl rfl rfl ?_ | refine At_end5 rfl rfl rfl rfl rfl rfl ?_ | refine At_mix kp_ ?_))
  refine W_loopF (fun m fr w' => ∃ k : Nat, m = xs.length - k ∧ k ≤ xs.length ∧ fr = [(0, v), (1, .func (.func f) #[] cap.toArray), (7, .int .i64 xs.length), (8, .int .i64 k)] ∧ Below w.heap.size w w' ∧ ∀ j x, j < k → xs[j]? = some x → p x = false) xs.length
    [(0, v), (1, .func (.func f) #[] cap.toArray), (7, .int .i64 xs.length), (8, .int .i64 0)] sl_ ⟨0, rfl, Nat.zero_le _, rfl, bw_, fun j x hj => absurd hj (by omega)⟩ ?_
  rintro _ _ w' ⟨k, rfl, hk, rfl, hB, hf⟩
  repeat' (first | (apply isL; first | apply L_nil | refine L_move rfl rfl ?_ | (apply isCall; first | refine L_lenL rfl rd_ rfl (fun hlen => ?_) | refine L_callFn rfl rfl rfl (hpr _ (List.mem_of_getElem? hy) _ bw_) (fun w2 hB2 => ?_) ) | (apply isBin; first | refine L_do rfl rfl rfl (do_cmp rfl rfl rfl) ?_ | refine L_do rfl rfl rfl (do_add rfl rfl om_) ?_ ) | (apply isLoad; first | refine L_loadPt rfl (by rfl) pt_ (by rfl) rfl ?_ | refine L_loadPt2 rfl (by rfl) pt_ (by rfl) rfl ?_ | refine L_loadPt0 rfl pt_ (by rfl) rfl ?_ | refine L_loadAgg rfl pt_ (by rfl) rfl ?_ | refine L_loadSub rfl (by rfl) pt_ (by rfl) rfl ?_) | refine L_assign rfl rfl ?_ | refine L_indexL rfl rfl rd_ (by rfl) om_ om_ rfl (fun a y hy hab hp => ?_) ) | (apply isW; first | apply W_seq | apply W_region | refine W_cond_dec rfl (fun hg => ?_) (fun hg => ?_) | refine W_cond_true rfl ?_ | refine W_cond_false rfl ?_ | refine W_cond rfl (fun hg => ?_) (fun hg => ?_) | apply W_skip | apply W_ret | apply W_exit | apply W_block) | (apply isAt; first | apply At_then | apply At_then_ret | apply At_then_exit | apply At_block_normal | apply At_block_ret | apply At_block_hit | refine At_block_miss rfl ?_ | refine At_end1 rfl rfl ?_ | refine At_end1n rfl rfl ?_ | refine At_end2 rfl rfl rfl ?_ | refine At_end3 rfl rfl rfl rfl ?_ | refine At_end4 rfl rfl rfl rfl rfl ?_ | refine At_end5 rfl rfl rfl rfl rfl rfl ?_ | refine At_mix kp_ ?_))
  · have hkk : idxOf p xs = k := idxOf_at hf hy hg
    exact ⟨by rw [hkk], bw_⟩
  · have hpy : p y = false := by assumption
    exact At_round _ [(0, v), (1, .func (.func f) #[] cap.toArray), (7, .int .i64 xs.length), (8, .int .i64 ((k + 1 : Nat) : Int))] sl_ (by omega) ⟨k + 1, rfl, by omega, rfl, bw_, fun j x hj hx => by
      by_cases e : j = k
      · subst e; rw [show y = x from Option.some.inj (hy.symm.trans hx)] at hpy; exact hpy
      · exact hf j x (by omega) hx⟩
  · exact ⟨by rw [idxOf_none (fun j x hj hx => hf j x (by omega) hx)], hB⟩
theorem c_ContainsFunc_cm {v : Value} {xs : List Cm} {w : World} {f : FuncId} [Enters Tryz.prog f] {cap : List Value} (p : Cm → Bool) (h : RdL tCm w v xs)
    (hpr : ∀ x, x ∈ xs → ∀ w', Below w.heap.size w w' → Cl Tryz.prog f ([vCm x] ++ cap) w' (V w' (.bool (p x)))) :
    Cl Tryz.prog 109 [v, .func (.func f) #[] cap.toArray] w (V w (.bool (xs.any p))) := by
  refine calls_start 9 Tryz.func109 rfl rfl rfl ?_
  repeat' (first | (apply isL; first | apply L_nil | refine L_move rfl rfl ?_ | (apply isCall; first | refine L_callV rfl rfl (c_IndexFunc_cm p h hpr) (fun w2 hB2 => ?_) ) | (apply isBin; first | refine L_do rfl rfl rfl (do_cmp rfl rfl rfl) ?_ ) | refine L_assign rfl rfl ?_ ) | (apply isW; first | apply W_seq | apply W_region | refine W_cond_dec rfl (fun hg => ?_) (fun hg => ?_) | refine W_cond_true rfl ?_ | refine W_cond_false rfl ?_ | refine W_cond rfl (fun hg => ?_) (fun hg => ?_) | apply W_skip | apply W_ret | apply W_exit | apply W_block) | (apply isAt; first | apply At_then | apply At_then_ret | apply At_then_exit | apply At_block_normal | apply At_block_ret | apply At_block_hit | refine At_block_miss rfl ?_ | refine At_end1 rfl rfl ?_ | refine At_end1n rfl rfl ?_ | refine At_end2 rfl rfl rfl ?_ | refine At_end3 rfl rfl rfl rfl ?_ | refine At_end4 rfl rfl rfl rfl rfl ?_ | refine At_end5 rfl rfl rfl rfl rfl rfl ?_ | refine At_mix kp_ ?_))
  exact ⟨by rw [idxOf_nonneg], hB2⟩

theorem not_any_not3 {α : Type} (p : α → Bool) (xs : List α) : (!xs.any fun n => !p n) = xs.all p := by
  induction xs with
  | nil => rfl
  | cons x r ih => simp only [List.any_cons, List.all_cons, Bool.not_or, Bool.not_not, ih]


theorem c_allValid1 {c : Cm} {w : World} (hm : MLen w) (hs : c.path.length ≤ 4294967280) : Cl Tryz.prog 110 [vCm c] w (V w (.bool (!cmOk c))) := by
  refine calls_start 6 Tryz.func110 rfl rfl rfl ?_
  repeat' (first | (apply isL; first | apply L_nil | refine L_move rfl rfl ?_ | (apply isCall; first | refine L_callV rfl rfl (c_implCommandValid (c := c) (hm.ext bw_) hs) (fun w2 hB2 => ?_) ) | (apply isLoad; first | refine L_loadPt rfl (by rfl) pt_ (by rfl) rfl ?_ | refine L_loadPt2 rfl (by rfl) pt_ (by rfl) rfl ?_ | refine L_loadPt0 rfl pt_ (by rfl) rfl ?_ | refine L_loadAgg rfl pt_ (by rfl) rfl ?_ | refine L_loadSub rfl (by rfl) pt_ (by rfl) rfl ?_) | refine L_assign rfl rfl ?_ | refine L_do rfl rfl rfl (do_notDec rfl) ?_ | refine L_do rfl rfl rfl (do_not rfl) ?_ | (apply isBox; refine L_boxV (w0 := w) bw_ rfl rfl (fun w1 hz1 hB hB1 hv => ?_); have hp := pt_of_block hv) ) | (apply isW; first | apply W_seq | apply W_region | refine W_cond_dec rfl (fun hg => ?_) (fun hg => ?_) | refine W_cond_true rfl ?_ | refine W_cond_false rfl ?_ | refine W_cond rfl (fun hg => ?_) (fun hg => ?_) | apply W_skip | apply W_ret | apply W_exit | apply W_block) | (apply isAt; first | apply At_then | apply At_then_ret | apply At_then_exit | apply At_block_normal | apply At_block_ret | apply At_block_hit | refine At_block_miss rfl ?_ | refine At_end1 rfl rfl ?_ | refine At_end1n rfl rfl ?_ | refine At_end2 rfl rfl rfl ?_ | refine At_end3 rfl rfl rfl rfl ?_ | refine At_end4 rfl rfl rfl rfl rfl ?_ | refine At_end5 rfl rfl rfl rfl rfl rfl ?_ | refine At_mix kp_ ?_))
  exact ⟨rfl, bw_⟩
theorem c_allValid {v : Value} {xs : List Cm} {w : World} (h : RdL tCm w v xs) (hm : MLen w) (hsm : ShortC xs) : Cl Tryz.prog 72 [v] w (V w (.bool (xs.all cmOk))) := by
  refine calls_start 6 Tryz.func72 rfl rfl rfl ?_
  repeat' (first | (apply isL; first | apply L_nil | refine L_move rfl rfl ?_ | (apply isCall; first | refine L_callV rfl rfl (c_ContainsFunc_cm (cap := []) (fun c => !cmOk c) h (fun x hx w' hB' => c_allValid1 (c := x) (hm.ext hB') (by have := hsm x hx; omega))) (fun w2 hB2 => ?_) ) | refine L_assign rfl rfl ?_ | refine L_do rfl rfl rfl (do_notDec rfl) ?_ | refine L_do rfl rfl rfl (do_not rfl) ?_ ) | (apply isW; first | apply W_seq | apply W_region | refine W_cond_dec rfl (fun hg => ?_) (fun hg => ?_) | refine W_cond_true rfl ?_ | refine W_cond_false rfl ?_ | refine W_cond rfl (fun hg => ?_) (fun hg => ?_) | apply W_skip | apply W_ret | apply W_exit | apply W_block) | (apply isAt; first | apply At_then | apply At_then_ret | apply At_then_exit | apply At_block_normal | apply At_block_ret | apply At_block_hit | refine At_block_miss rfl ?_ | refine At_end1 rfl rfl ?_ | refine At_end1n rfl rfl ?_ | refine At_end2 rfl rfl rfl ?_ | refine At_end3 rfl rfl rfl rfl ?_ | refine At_end4 rfl rfl rfl rfl rfl ?_ | refine At_end5 rfl rfl rfl rfl rfl rfl ?_ | refine At_mix kp_ ?_))
  exact ⟨by rw [not_any_not3], bw_⟩
theorem c_implLogValid {v : Value} {xs : List Cm} {w : World} (h : RdL tCm w v xs) (hm : MLen w) (hsm : ShortC xs) : Cl Tryz.prog 34 [v] w (V w (.bool (logOk xs))) := by
  refine calls_start 10 Tryz.func34 rfl rfl rfl ?_
  repeat' (first | (apply isL; first | apply L_nil | refine L_move rfl rfl ?_ | (apply isGuarded; first | refine L_guard_dec rfl rfl (fun hg => ?_) (fun hg => ?_) | refine L_guard_yes rfl rfl ?_ | refine L_guard_no rfl rfl rfl rfl ?_ | refine L_guard_undef rfl rfl rfl ?_ | refine L_guard_split rfl rfl (fun hg => ?_) (fun hg => ?_)) | (apply isCall; first | refine L_lenL rfl rd_ rfl (fun hlen => ?_) | refine L_callV rfl rfl (c_allValid (h.ext bw_) (hm.ext bw_) hsm) (fun w2 hB2 => ?_) ) | (apply isBin; first | refine L_do rfl rfl rfl (do_cmp rfl rfl rfl) ?_ ) | refine L_assign rfl rfl ?_ | refine L_do rfl rfl rfl (do_pick_true rfl rfl) ?_ | refine L_do rfl rfl rfl (do_pick_false rfl rfl) ?_ ) | (apply isW; first | apply W_seq | apply W_region | refine W_cond_dec rfl (fun hg => ?_) (fun hg => ?_) | refine W_cond_true rfl ?_ | refine W_cond_false rfl ?_ | refine W_cond rfl (fun hg => ?_) (fun hg => ?_) | apply W_skip | apply W_ret | apply W_exit | apply W_block) | (apply isAt; first | apply At_then | apply At_then_ret | apply At_then_exit | apply At_block_normal | apply At_block_ret | apply At_block_hit | refine At_block_miss rfl ?_ | refine At_end1 rfl rfl ?_ | refine At_end1n rfl rfl ?_ | refine At_end2 rfl rfl rfl ?_ | refine At_end3 rfl rfl rfl rfl ?_ | refine At_end4 rfl rfl rfl rfl rfl ?_ | refine At_end5 rfl rfl rfl rfl rfl rfl ?_ | refine At_mix kp_ ?_))
  · exact ⟨by rw [logOk, decide_eq_true (by omega), Bool.true_and], bw_⟩
  · exact ⟨by rw [logOk, decide_eq_false (by omega)]; rfl, bw_⟩
theorem c_specLogValid {v : Value} {xs : List Cm} {w : World} (h : RdL tCm w v xs) (hsm : ShortC xs) : Cl Tryz.prog 70 [v] w (V w (.bool (logOk xs))) := by
  refine calls_start 19 Tryz.func70 rfl rfl rfl ?_
  repeat' (first | (apply isL; first | apply L_nil | refine L_move rfl rfl ?_ | (apply isCall; first | refine L_lenL rfl rd_ rfl (fun hlen => ?_) ) | (apply isBin; first | refine L_do rfl rfl rfl (do_cmp rfl rfl rfl) ?_ | refine L_do rfl rfl rfl (do_add rfl rfl om_) ?_ ) | (apply isLoad; first | refine L_loadPt rfl (by rfl) pt_ (by rfl) rfl ?_ | refine L_loadPt2 rfl (by rfl) pt_ (by rfl) rfl ?_ | refine L_loadPt0 rfl pt_ (by rfl) rfl ?_ | refine L_loadAgg rfl pt_ (by rfl) rfl ?_ | refine L_loadSub rfl (by rfl) pt_ (by rfl) rfl ?_) | refine L_assign rfl rfl ?_ | refine L_do rfl rfl rfl (do_notDec rfl) ?_ | refine L_do rfl rfl rfl (do_not rfl) ?_ | refine L_indexL rfl rfl rd_ (by rfl) om_ om_ rfl (fun a y hy hab hp => ?_) ) | (apply isW; first | apply W_seq | apply W_region | refine W_cond_dec rfl (fun hg => ?_) (fun hg => ?_) | refine W_cond_true rfl ?_ | refine W_cond_false rfl ?_ | refine W_cond rfl (fun hg => ?_) (fun hg => ?_) | apply W_skip | apply W_ret | apply W_exit | apply W_block) | (apply isAt; first | apply At_then | apply At_then_ret | apply At_then_exit | apply At_block_normal | apply At_block_ret | apply At_block_hit | refine At_block_miss rfl ?_ | refine At_end1 rfl rfl ?_ | refine At_end1n rfl rfl ?_ | refine At_end2 rfl rfl rfl ?_ | refine At_end3 rfl rfl rfl rfl ?_ | refine At_end4 rfl rfl rfl rfl rfl ?_ | refine At_end5 rfl rfl rfl rfl rfl rfl ?_ | refine At_mix kp_ ?_))
  refine W_loopF (fun m fr w' => ∃ k : Nat, m = xs.length - k ∧ k ≤ xs.length ∧ fr = [(0, v), (3, .int .i64 k)] ∧ Below w.heap.size w w' ∧ (xs.take k).all cmOk = true) xs.length
    [(0, v), (3, .int .i64 0)] sl_ ⟨0, rfl, Nat.zero_le _, rfl, bw_, by simp⟩ ?_
  rintro _ _ w' ⟨k, rfl, hk, rfl, hB, hf⟩
  repeat' (first | (apply isL; first | apply L_nil | refine L_move rfl rfl ?_ | (apply isCall; first | refine L_lenL rfl rd_ rfl (fun hlen => ?_) | refine L_callV rfl rfl (c_specCommandValid (c := y) (by have := hsm.at_ hy; omega)) (fun w2 hB2 => ?_) ) | (apply isBin; first | refine L_do rfl rfl rfl (do_cmp rfl rfl rfl) ?_ | refine L_do rfl rfl rfl (do_add rfl rfl om_) ?_ ) | (apply isLoad; first | refine L_loadPt rfl (by rfl) pt_ (by rfl) rfl ?_ | refine L_loadPt2 rfl (by rfl) pt_ (by rfl) rfl ?_ | refine L_loadPt0 rfl pt_ (by rfl) rfl ?_ | refine L_loadAgg rfl pt_ (by rfl) rfl ?_ | refine L_loadSub rfl (by rfl) pt_ (by rfl) rfl ?_) | refine L_assign rfl rfl ?_ | refine L_do rfl rfl rfl (do_notDec rfl) ?_ | refine L_do rfl rfl rfl (do_not rfl) ?_ | refine L_indexL rfl rfl rd_ (by rfl) om_ om_ rfl (fun a y hy hab hp => ?_) ) | (apply isW; first | apply W_seq | apply W_region | refine W_cond_dec rfl (fun hg => ?_) (fun hg => ?_) | refine W_cond_true rfl ?_ | refine W_cond_false rfl ?_ | refine W_cond rfl (fun hg => ?_) (fun hg => ?_) | apply W_skip | apply W_ret | apply W_exit | apply W_block) | (apply isAt; first | apply At_then | apply At_then_ret | apply At_then_exit | apply At_block_normal | apply At_block_ret | apply At_block_hit | refine At_block_miss rfl ?_ | refine At_end1 rfl rfl ?_ | refine At_end1n rfl rfl ?_ | refine At_end2 rfl rfl rfl ?_ | refine At_end3 rfl rfl rfl rfl ?_ | refine At_end4 rfl rfl rfl rfl rfl ?_ | refine At_end5 rfl rfl rfl rfl rfl rfl ?_ | refine At_mix kp_ ?_))
  · have hyy : xs[k]? = some y := hy
    have h1 : cmOk y = false := by cases e : cmOk y <;> simp_all
    refine ⟨?_, bw_⟩
    have : xs.all cmOk = false := by
      cases e : xs.all cmOk
      · rfl
      · rw [List.all_eq_true.1 e y (List.mem_of_getElem? hyy)] at h1; exact h1
    rw [logOk, this, Bool.and_false]
  · have hyy : xs[k]? = some y := hy
    have h1 : cmOk y = true := by cases e : cmOk y <;> simp_all
    exact At_round _ [(0, v), (3, .int .i64 ((k + 1 : Nat) : Int))] sl_ (by omega) ⟨k + 1, rfl, by omega, rfl, bw_, by rw [List.take_add_one, hyy]; simp [hf, h1]⟩
  · rw [List.take_of_length_le (by omega)] at hf
    refine ⟨?_, bw_⟩
    rw [logOk, hf, Bool.and_true]; congr 1; rw [Bool.eq_iff_iff]; simp; omega
/-! ### Sizes and copies in an exact law -/
def cmZ : Cm := ⟨[], ⟨0, 0⟩, ⟨0, 0⟩⟩
end Go.Proofs.YtjobbcdolbhadaaGreatDoor
