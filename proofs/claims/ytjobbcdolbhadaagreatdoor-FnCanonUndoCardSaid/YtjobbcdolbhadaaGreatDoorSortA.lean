/-
  Contract: slices.SortFunc at no list does nothing.
  Sorting in place, what the worlds hold: a row that is owned, as the kit's sort reads it, and after it. The canonical order is a strict weak one.
  Contract: slices.SortFunc at the canonical order sorts a log of its own whose paths differ.
-/
import Derived.Test.YtjobbcdolbhadaaGreatDoorCanonEx
import Derived.Test.YtjobbcdolbhadaaGreatDoorShelf
import Derived.Shelf.SlSortCmp.InsertionK
import Derived.Test.YtjobbcdolbhadaaGreatDoorPlA
import Derived.Test.YtjobbcdolbhadaaGreatDoorFlA
import Derived.Test.YtjobbcdolbhadaaGreatDoorSort0

namespace Go.Proofs.YtjobbcdolbhadaaGreatDoor
set_option linter.unusedVariables false
set_option linter.unusedSimpArgs false
open Go Go.RowKit
set_option linter.unusedVariables false
set_option linter.unusedSimpArgs false

section
variable {P : Program} {fr : Fr} {w : World} {d : Nat} {ty : TypeId} {pos : String} {af : Array Edge}
theorem do_convU64z {t t' : TypeId} {x : Operand} {k : IntKind} (hs : P.underlying t = some (.int k)) (hd : P.underlying t' = some (.int .u64)) (hx : fr.ev x = some (.int k 0)) : Does P ⟨some d, .convert t t' x, ty, pos, af, none⟩ fr w (.int .u64 0) := ⟨fun ρ h => by
  have : IntKind.u64.wrap 0 = 0 := by decide
  simp [execOp, h x _ hx, convert, run_underlying hs, run_underlying hd, Conv.intToInt, this, go_sem]⟩
end
theorem x_bitsLen {x : Int} {w : World} (h0 : 0 ≤ x) (h1 : x ≤ 18446744073709551615) : Cl Tryz.prog 74 [.int .u64 x] w (fun u w' => u = .int .i64 (Lib.bitLen x.toNat) ∧ w' = w) :=
  ⟨(Tryz.bits_Len x w h0 h1).mono fun e w' ⟨he, hw⟩ => ⟨_, he, rfl, hw⟩⟩
theorem x_insert_nil {f : Value} {w : World} : Cl Tryz.prog 111 [.slice none 0 0, .int .i64 0, .int .i64 0, f] w (fun u w' => u = .tuple #[] ∧ w' = w) := by
  refine calls_start 53 Tryz.func111 rfl rfl rfl ?_
  repeat' (first | (apply isL; first | apply L_nil | refine L_move rfl rfl ?_ | (apply isGuarded; first | refine L_guard_dec rfl rfl (fun hg => ?_) (fun hg => ?_) | refine L_guard_yes rfl rfl ?_ | refine L_guard_no rfl rfl rfl rfl ?_ | refine L_guard_undef rfl rfl rfl ?_ | refine L_guard_split rfl rfl (fun hg => ?_) (fun hg => ?_)) | (apply isBin; first | refine L_do rfl rfl rfl (do_cmp rfl rfl rfl) ?_ | refine L_do rfl rfl rfl (do_add rfl rfl om_) ?_ | refine L_do rfl rfl rfl (do_sub rfl rfl om_) ?_ ) | (apply isLoad; first | refine L_loadPt rfl (by rfl) pt_ (by rfl) rfl ?_ | refine L_loadPt2 rfl (by rfl) pt_ (by rfl) rfl ?_ | refine L_loadPt0 rfl pt_ (by rfl) rfl ?_ | refine L_loadAgg rfl pt_ (by rfl) rfl ?_ | refine L_loadSub rfl (by rfl) pt_ (by rfl) rfl ?_) | refine L_assign rfl rfl ?_ | refine L_do rfl rfl rfl (do_pick_true rfl rfl) ?_ | refine L_do rfl rfl rfl (do_pick_false rfl rfl) ?_ | refine L_indexL rfl rfl rd_ (by rfl) om_ om_ rfl (fun a y hy hab hp => ?_) ) | (apply isLQ; first | refine LQ_nil (fun w1 hBq => ?_) | apply LQ_mix | refine LQ_move rfl rfl ?_ | (apply isGuardedQ; first | refine LQ_guard_dec rfl rfl (fun hg => ?_) (fun hg => ?_) | refine LQ_guard_yes rfl rfl ?_ | refine LQ_guard_no rfl rfl rfl rfl ?_ | refine LQ_guard_undef rfl rfl rfl ?_ | refine LQ_guard_split rfl rfl (fun hg => ?_) (fun hg => ?_)) | (apply isBinQ; first | refine LQ_do rfl rfl rfl (fun _ _ => do_cmp rfl rfl rfl) ?_ | refine LQ_do rfl rfl rfl (fun _ _ => do_cmpStr rfl rfl rfl) ?_ | refine LQ_do rfl rfl rfl (fun _ _ => do_add rfl rfl om_) ?_ | refine LQ_do rfl rfl rfl (fun _ _ => do_sub rfl rfl om_) ?_ ) | (apply isLoadQ; first | refine LQ_loadPt rfl (by rfl) pt_ (by rfl) rfl ?_ | refine LQ_loadPt2 rfl (by rfl) pt_ (by rfl) rfl ?_ | refine LQ_loadPt0 rfl pt_ (by rfl) rfl ?_ | refine LQ_loadAgg rfl pt_ (by rfl) rfl ?_ | refine LQ_loadSub rfl (by rfl) pt_ (by rfl) rfl ?_) | refine LQ_assign rfl rfl ?_ | refine LQ_do rfl rfl rfl (fun _ _ => do_pick_true rfl rfl) ?_ | refine LQ_do rfl rfl rfl (fun _ _ => do_pick_false rfl rfl) ?_ | refine LQ_do rfl rfl rfl (fun _ _ => do_notDec rfl) ?_ | refine LQ_do rfl rfl rfl (fun _ _ => do_not rfl) ?_ | refine LQ_indexL rfl rfl rd_ (by rfl) om_ om_ rfl (fun a y hy hab hp => ?_)) | (apply isW; first | apply W_seq | apply W_region | refine W_region_Q mixed (by kernel_rfl) ?_ | refine W_cond_dec rfl (fun hg => ?_) (fun hg => ?_) | refine W_cond_true rfl ?_ | refine W_cond_false rfl ?_ | refine W_cond rfl (fun hg => ?_) (fun hg => ?_) | apply W_skip | apply W_ret | apply W_exit | apply W_block) | (apply isLM) | (apply isAt; first | apply At_then | apply At_then_ret | apply At_then_exit | apply At_block_normal | apply At_block_ret | apply At_block_hit | refine At_block_miss rfl ?_ | refine At_end1 rfl rfl ?_ | refine At_end1n rfl rfl ?_ | refine At_end2 rfl rfl rfl ?_ | refine At_end3 rfl rfl rfl rfl ?_ | refine At_end4 rfl rfl rfl rfl rfl ?_ | refine At_end5 rfl rfl rfl rfl rfl rfl ?_ | refine At_mix kp_ ?_))
  refine W_loopF (fun m fr w' => m = 0 ∧ fr = [(2, .int .i64 0), (8, .int .i64 1)] ∧ w' = w) 0 [(2, .int .i64 0), (8, .int .i64 1)] sl_ ⟨rfl, rfl, rfl⟩ ?_
  rintro _ _ _ ⟨rfl, rfl, rfl⟩
  repeat' (first | (apply isL; first | apply L_nil | refine L_move rfl rfl ?_ | (apply isGuarded; first | refine L_guard_dec rfl rfl (fun hg => ?_) (fun hg => ?_) | refine L_guard_yes rfl rfl ?_ | refine L_guard_no rfl rfl rfl rfl ?_ | refine L_guard_undef rfl rfl rfl ?_ | refine L_guard_split rfl rfl (fun hg => ?_) (fun hg => ?_)) | (apply isBin; first | refine L_do rfl rfl rfl (do_cmp rfl rfl rfl) ?_ | refine L_do rfl rfl rfl (do_add rfl rfl om_) ?_ | refine L_do rfl rfl rfl (do_sub rfl rfl om_) ?_ ) | (apply isLoad; first | refine L_loadPt rfl (by rfl) pt_ (by rfl) rfl ?_ | refine L_loadPt2 rfl (by rfl) pt_ (by rfl) rfl ?_ | refine L_loadPt0 rfl pt_ (by rfl) rfl ?_ | refine L_loadAgg rfl pt_ (by rfl) rfl ?_ | refine L_loadSub rfl (by rfl) pt_ (by rfl) rfl ?_) | refine L_assign rfl rfl ?_ | refine L_do rfl rfl rfl (do_pick_true rfl rfl) ?_ | refine L_do rfl rfl rfl (do_pick_false rfl rfl) ?_ | refine L_indexL rfl rfl rd_ (by rfl) om_ om_ rfl (fun a y hy hab hp => ?_) ) | (apply isLQ; first | refine LQ_nil (fun w1 hBq => ?_) | apply LQ_mix | refine LQ_move rfl rfl ?_ | (apply isGuardedQ; first | refine LQ_guard_dec rfl rfl (fun hg => ?_) (fun hg => ?_) | refine LQ_guard_yes rfl rfl ?_ | refine LQ_guard_no rfl rfl rfl rfl ?_ | refine LQ_guard_undef rfl rfl rfl ?_ | refine LQ_guard_split rfl rfl (fun hg => ?_) (fun hg => ?_)) | (apply isBinQ; first | refine LQ_do rfl rfl rfl (fun _ _ => do_cmp rfl rfl rfl) ?_ | refine LQ_do rfl rfl rfl (fun _ _ => do_cmpStr rfl rfl rfl) ?_ | refine LQ_do rfl rfl rfl (fun _ _ => do_add rfl rfl om_) ?_ | refine LQ_do rfl rfl rfl (fun _ _ => do_sub rfl rfl om_) ?_ ) | (apply isLoadQ; first | refine LQ_loadPt rfl (by rfl) pt_ (by rfl) rfl ?_ | refine LQ_loadPt2 rfl (by rfl) pt_ (by rfl) rfl ?_ | refine LQ_loadPt0 rfl pt_ (by rfl) rfl ?_ | refine LQ_loadAgg rfl pt_ (by rfl) rfl ?_ | refine LQ_loadSub rfl (by rfl) pt_ (by rfl) rfl ?_) | refine LQ_assign rfl rfl ?_ | refine LQ_do rfl rfl rfl (fun _ _ => do_pick_true rfl rfl) ?_ | refine LQ_do rfl rfl rfl (fun _ _ => do_pick_false rfl rfl) ?_ | refine LQ_do rfl rfl rfl (fun _ _ => do_notDec rfl) ?_ | refine LQ_do rfl rfl rfl (fun _ _ => do_not rfl) ?_ | refine LQ_indexL rfl rfl rd_ (by rfl) om_ om_ rfl (fun a y hy hab hp => ?_)) | (apply isW; first | apply W_seq | apply W_region | refine W_region_Q mixed (by kernel_rfl) ?_ | refine W_cond_dec rfl (fun hg => ?_) (fun hg => ?_) | refine W_cond_true rfl ?_ | refine W_cond_false rfl ?_ | refine W_cond rfl (fun hg => ?_) (fun hg => ?_) | apply W_skip | apply W_ret | apply W_exit | apply W_block) | (apply isLM) | (apply isAt; first | apply At_then | apply At_then_ret | apply At_then_exit | apply At_block_normal | apply At_block_ret | apply At_block_hit | refine At_block_miss rfl ?_ | refine At_end1 rfl rfl ?_ | refine At_end1n rfl rfl ?_ | refine At_end2 rfl rfl rfl ?_ | refine At_end3 rfl rfl rfl rfl ?_ | refine At_end4 rfl rfl rfl rfl rfl ?_ | refine At_end5 rfl rfl rfl rfl rfl rfl ?_ | refine At_mix kp_ ?_))
  all_goals first | exact At_end0n rfl ⟨rfl, rfl⟩ | exact At_end0 rfl ⟨rfl, rfl⟩ | (exfalso; omega) | (exfalso; simp at hg; done) | skip
theorem x_pdq_nil {f : Value} {l : Int} {w : World} : Cl Tryz.prog 73 [.slice none 0 0, .int .i64 0, .int .i64 0, .int .i64 l, f] w (fun u w' => u = .tuple #[] ∧ w' = w) := by
  refine calls_start 148 Tryz.func73 rfl rfl rfl ?_
  repeat' (first | (apply isL; first | apply L_nil | refine L_move rfl rfl ?_ | (apply isGuarded; first | refine L_guard_dec rfl rfl (fun hg => ?_) (fun hg => ?_) | refine L_guard_yes rfl rfl ?_ | refine L_guard_no rfl rfl rfl rfl ?_ | refine L_guard_undef rfl rfl rfl ?_ | refine L_guard_split rfl rfl (fun hg => ?_) (fun hg => ?_)) | (apply isBin; first | refine L_do rfl rfl rfl (do_cmp rfl rfl rfl) ?_ | refine L_do rfl rfl rfl (do_add rfl rfl om_) ?_ | refine L_do rfl rfl rfl (do_sub rfl rfl om_) ?_ ) | (apply isLoad; first | refine L_loadPt rfl (by rfl) pt_ (by rfl) rfl ?_ | refine L_loadPt2 rfl (by rfl) pt_ (by rfl) rfl ?_ | refine L_loadPt0 rfl pt_ (by rfl) rfl ?_ | refine L_loadAgg rfl pt_ (by rfl) rfl ?_ | refine L_loadSub rfl (by rfl) pt_ (by rfl) rfl ?_) | refine L_assign rfl rfl ?_ | refine L_do rfl rfl rfl (do_pick_true rfl rfl) ?_ | refine L_do rfl rfl rfl (do_pick_false rfl rfl) ?_ | refine L_do rfl rfl rfl (do_notDec rfl) ?_ | refine L_do rfl rfl rfl (do_not rfl) ?_ | refine L_do rfl rfl rfl (do_extract rfl rfl) ?_ | refine L_indexL rfl rfl rd_ (by rfl) om_ om_ rfl (fun a y hy hab hp => ?_) ) | (apply isLQ; first | refine LQ_nil (fun w1 hBq => ?_) | apply LQ_mix | refine LQ_move rfl rfl ?_ | (apply isGuardedQ; first | refine LQ_guard_dec rfl rfl (fun hg => ?_) (fun hg => ?_) | refine LQ_guard_yes rfl rfl ?_ | refine LQ_guard_no rfl rfl rfl rfl ?_ | refine LQ_guard_undef rfl rfl rfl ?_ | refine LQ_guard_split rfl rfl (fun hg => ?_) (fun hg => ?_)) | (apply isBinQ; first | refine LQ_do rfl rfl rfl (fun _ _ => do_cmp rfl rfl rfl) ?_ | refine LQ_do rfl rfl rfl (fun _ _ => do_cmpStr rfl rfl rfl) ?_ | refine LQ_do rfl rfl rfl (fun _ _ => do_add rfl rfl om_) ?_ | refine LQ_do rfl rfl rfl (fun _ _ => do_sub rfl rfl om_) ?_ ) | (apply isLoadQ; first | refine LQ_loadPt rfl (by rfl) pt_ (by rfl) rfl ?_ | refine LQ_loadPt2 rfl (by rfl) pt_ (by rfl) rfl ?_ | refine LQ_loadPt0 rfl pt_ (by rfl) rfl ?_ | refine LQ_loadAgg rfl pt_ (by rfl) rfl ?_ | refine LQ_loadSub rfl (by rfl) pt_ (by rfl) rfl ?_) | refine LQ_assign rfl rfl ?_ | refine LQ_do rfl rfl rfl (fun _ _ => do_pick_true rfl rfl) ?_ | refine LQ_do rfl rfl rfl (fun _ _ => do_pick_false rfl rfl) ?_ | refine LQ_do rfl rfl rfl (fun _ _ => do_notDec rfl) ?_ | refine LQ_do rfl rfl rfl (fun _ _ => do_not rfl) ?_ | refine LQ_indexL rfl rfl rd_ (by rfl) om_ om_ rfl (fun a y hy hab hp => ?_)) | (apply isW; first | apply W_seq | apply W_region | refine W_region_Q mixed (by kernel_rfl) ?_ | refine W_cond_dec rfl (fun hg => ?_) (fun hg => ?_) | refine W_cond_true rfl ?_ | refine W_cond_false rfl ?_ | refine W_cond rfl (fun hg => ?_) (fun hg => ?_) | apply W_skip | apply W_ret | apply W_exit | apply W_block) | (apply isLM) | (apply isAt; first | apply At_then | apply At_then_ret | apply At_then_exit | apply At_block_normal | apply At_block_ret | apply At_block_hit | refine At_block_miss rfl ?_ | refine At_end1 rfl rfl ?_ | refine At_end1n rfl rfl ?_ | refine At_end2 rfl rfl rfl ?_ | refine At_end3 rfl rfl rfl rfl ?_ | refine At_end4 rfl rfl rfl rfl rfl ?_ | refine At_end5 rfl rfl rfl rfl rfl rfl ?_ | refine At_mix kp_ ?_))
  refine W_loopF (fun m fr w' => m = 0 ∧ fr = [(0, .slice none 0 0), (1, .int .i64 0), (2, .int .i64 0), (3, .int .i64 l), (4, f), (10, .bool true), (11, .bool true)] ∧ w' = w) 0 [(0, .slice none 0 0), (1, .int .i64 0), (2, .int .i64 0), (3, .int .i64 l), (4, f), (10, .bool true), (11, .bool true)] sl_ ⟨rfl, rfl, rfl⟩ ?_
  rintro _ _ _ ⟨rfl, rfl, rfl⟩
  repeat' (first | (apply isL; first | apply L_nil | refine L_move rfl rfl ?_ | (apply isGuarded; first | refine L_guard_dec rfl rfl (fun hg => ?_) (fun hg => ?_) | refine L_guard_yes rfl rfl ?_ | refine L_guard_no rfl rfl rfl rfl ?_ | refine L_guard_undef rfl rfl rfl ?_ | refine L_guard_split rfl rfl (fun hg => ?_) (fun hg => ?_)) | (apply isCall; first | (refine L_call rfl rfl x_insert_nil (fun _ _ hR => ?_); obtain ⟨rfl, rfl⟩ := hR) ) | (apply isBin; first | refine L_do rfl rfl rfl (do_cmp rfl rfl rfl) ?_ | refine L_do rfl rfl rfl (do_add rfl rfl om_) ?_ | refine L_do rfl rfl rfl (do_sub rfl rfl om_) ?_ ) | (apply isLoad; first | refine L_loadPt rfl (by rfl) pt_ (by rfl) rfl ?_ | refine L_loadPt2 rfl (by rfl) pt_ (by rfl) rfl ?_ | refine L_loadPt0 rfl pt_ (by rfl) rfl ?_ | refine L_loadAgg rfl pt_ (by rfl) rfl ?_ | refine L_loadSub rfl (by rfl) pt_ (by rfl) rfl ?_) | refine L_assign rfl rfl ?_ | refine L_do rfl rfl rfl (do_pick_true rfl rfl) ?_ | refine L_do rfl rfl rfl (do_pick_false rfl rfl) ?_ | refine L_do rfl rfl rfl (do_notDec rfl) ?_ | refine L_do rfl rfl rfl (do_not rfl) ?_ | refine L_do rfl rfl rfl (do_extract rfl rfl) ?_ | refine L_indexL rfl rfl rd_ (by rfl) om_ om_ rfl (fun a y hy hab hp => ?_) ) | (apply isLQ; first | refine LQ_nil (fun w1 hBq => ?_) | apply LQ_mix | refine LQ_move rfl rfl ?_ | (apply isGuardedQ; first | refine LQ_guard_dec rfl rfl (fun hg => ?_) (fun hg => ?_) | refine LQ_guard_yes rfl rfl ?_ | refine LQ_guard_no rfl rfl rfl rfl ?_ | refine LQ_guard_undef rfl rfl rfl ?_ | refine LQ_guard_split rfl rfl (fun hg => ?_) (fun hg => ?_)) | (apply isBinQ; first | refine LQ_do rfl rfl rfl (fun _ _ => do_cmp rfl rfl rfl) ?_ | refine LQ_do rfl rfl rfl (fun _ _ => do_cmpStr rfl rfl rfl) ?_ | refine LQ_do rfl rfl rfl (fun _ _ => do_add rfl rfl om_) ?_ | refine LQ_do rfl rfl rfl (fun _ _ => do_sub rfl rfl om_) ?_ ) | (apply isLoadQ; first | refine LQ_loadPt rfl (by rfl) pt_ (by rfl) rfl ?_ | refine LQ_loadPt2 rfl (by rfl) pt_ (by rfl) rfl ?_ | refine LQ_loadPt0 rfl pt_ (by rfl) rfl ?_ | refine LQ_loadAgg rfl pt_ (by rfl) rfl ?_ | refine LQ_loadSub rfl (by rfl) pt_ (by rfl) rfl ?_) | refine LQ_assign rfl rfl ?_ | refine LQ_do rfl rfl rfl (fun _ _ => do_pick_true rfl rfl) ?_ | refine LQ_do rfl rfl rfl (fun _ _ => do_pick_false rfl rfl) ?_ | refine LQ_do rfl rfl rfl (fun _ _ => do_notDec rfl) ?_ | refine LQ_do rfl rfl rfl (fun _ _ => do_not rfl) ?_ | refine LQ_indexL rfl rfl rd_ (by rfl) om_ om_ rfl (fun a y hy hab hp => ?_)) | (apply isW; first | apply W_seq | apply W_region | refine W_region_Q mixed (by kernel_rfl) ?_ | refine W_cond_dec rfl (fun hg => ?_) (fun hg => ?_) | refine W_cond_true rfl ?_ | refine W_cond_false rfl ?_ | refine W_cond rfl (fun hg => ?_) (fun hg => ?_) | apply W_skip | apply W_ret | apply W_exit | apply W_block) | (apply isLM) | (apply isAt; first | apply At_then | apply At_then_ret | apply At_then_exit | apply At_block_normal | apply At_block_ret | apply At_block_hit | refine At_block_miss rfl ?_ | refine At_end1 rfl rfl ?_ | refine At_end1n rfl rfl ?_ | refine At_end2 rfl rfl rfl ?_ | refine At_end3 rfl rfl rfl rfl ?_ | refine At_end4 rfl rfl rfl rfl rfl ?_ | refine At_end5 rfl rfl rfl rfl rfl rfl ?_ | refine At_mix kp_ ?_))
  all_goals first | exact At_end0n rfl ⟨rfl, rfl⟩ | exact At_end0 rfl ⟨rfl, rfl⟩ | (exfalso; omega) | (exfalso; simp at hg; done) | skip
theorem c_SortFunc_nil {f : Value} {w : World} : Cl Tryz.prog 39 [.slice none 0 0, f] w (fun u w' => u = .tuple #[] ∧ w' = w) := by
  refine calls_start 14 Tryz.func39 rfl rfl rfl ?_
  have hnil : RdL tCm w (.slice none 0 0) [] := RdL.nil
  repeat' (first | (apply isL; first | apply L_nil | refine L_move rfl rfl ?_ | (apply isCall; first | refine L_lenL rfl rd_ rfl (fun hlen => ?_) | (refine L_call rfl rfl (x_bitsLen (x := 0) om_ om_) (fun _ _ hR => ?_); obtain ⟨rfl, rfl⟩ := hR) | (refine L_call rfl rfl x_pdq_nil (fun _ _ hR => ?_); obtain ⟨rfl, rfl⟩ := hR) ) | refine L_assign rfl rfl ?_ | refine L_do rfl rfl rfl (do_convU64z (k := .i64) (by kernel_rfl) (by kernel_rfl) rfl) ?_ ) | (apply isW; first | apply W_seq | apply W_region | refine W_cond_dec rfl (fun hg => ?_) (fun hg => ?_) | refine W_cond_true rfl ?_ | refine W_cond_false rfl ?_ | refine W_cond rfl (fun hg => ?_) (fun hg => ?_) | apply W_skip | apply W_ret | apply W_exit | apply W_block) | (apply isAt; first | apply At_then | apply At_then_ret | apply At_then_exit | apply At_block_normal | apply At_block_ret | apply At_block_hit | refine At_block_miss rfl ?_ | refine At_end1 rfl rfl ?_ | refine At_end1n rfl rfl ?_ | refine At_end2 rfl rfl rfl ?_ | refine At_end3 rfl rfl rfl rfl ?_ | refine At_end4 rfl rfl rfl rfl rfl ?_ | refine At_end5 rfl rfl rfl rfl rfl rfl ?_ | refine At_mix kp_ ?_))
  all_goals first | exact At_end0n rfl ⟨rfl, rfl⟩ | exact At_end0 rfl ⟨rfl, rfl⟩ | skip
end Go.Proofs.YtjobbcdolbhadaaGreatDoor


namespace Go.Proofs.YtjobbcdolbhadaaGreatDoor
set_option linter.unusedVariables false
set_option linter.unusedSimpArgs false
open Go Go.RowKit Go.Sort
set_option linter.unusedVariables false
set_option linter.unusedSimpArgs false

theorem flat_len2 {α : Type} {enc : α → List Value} {k : Nat} (hk : ∀ x, (enc x).length = k) : ∀ xs : List α, (xs.flatMap enc).length = xs.length * k
  | [] => by simp
  | x :: r => by rw [List.flatMap_cons, List.length_append, hk, flat_len2 hk r, List.length_cons, Nat.succ_mul, Nat.add_comm]
section
variable {α : Type} [Inhabited α] {enc : α → List Value} {k : Nat}
theorem flat_get (hk : ∀ x, (enc x).length = k) (k0 : 0 < k) : ∀ (xs : List α) (t : Nat), t < xs.length * k → (xs.flatMap enc)[t]? = (enc (xs.toArray[t / k]!))[t % k]?
  | [], t, h => by simp at h
  | x :: r, t, h => by
    rw [List.flatMap_cons]
    by_cases ht : t < k
    · rw [List.getElem?_append_left (by rw [hk]; exact ht), Nat.div_eq_of_lt ht, Nat.mod_eq_of_lt ht]; simp
    · have h2 : t - k < r.length * k := by simp only [List.length_cons, Nat.add_mul] at h; omega
      rw [List.getElem?_append_right (by rw [hk]; omega), hk, flat_get hk k0 r (t - k) h2]
      have e1 : t / k = (t - k) / k + 1 := by rw [Nat.div_eq t k, if_pos ⟨k0, by omega⟩]
      have e2 : t % k = (t - k) % k := by rw [Nat.mod_eq t k, if_pos ⟨k0, by omega⟩]
      rw [e1, e2]
      simp
theorem flatK_list (hk : ∀ x, (enc x).length = k) (k0 : 0 < k) (xs : List α) : (flatK enc k xs.toArray).toList = xs.flatMap enc := by
  have hl := flat_len2 hk xs
  refine List.ext_getElem? (fun t => ?_)
  by_cases ht : t < xs.length * k
  · rw [flat_get hk k0 xs t ht]
    have hs : t < (flatK enc k xs.toArray).size := by simpa using ht
    have h1 := get_flatK enc k xs.toArray t (by simpa using ht)
    rw [getElem!_pos _ t hs] at h1
    have hm : t % k < (enc xs.toArray[t / k]!).length := by rw [hk]; exact Nat.mod_lt _ k0
    rw [getElem!_pos _ (t % k) hm] at h1
    rw [Array.getElem?_toList, Array.getElem?_eq_getElem hs, h1, List.getElem?_eq_getElem hm]
  · rw [List.getElem?_eq_none (by simpa using (by omega : xs.length * k ≤ t)), List.getElem?_eq_none (by omega)]
end
theorem cell_at {w : World} {g j : Nat} {cur : Array Value} {e : TypeId} (h : w.heap[g]? = some (.cells cur e (0, 0))) (hj : j < cur.size) : w.cell? ⟨g, j, none⟩ = some cur[j] ∧ w.frozen? ⟨g, j, none⟩ = false := by
  constructor
  · simp [World.cell?, h, hj]
  · simp [World.frozen?, h]
theorem holds_own {α : Type} [Inhabited α] {T : Ty α} {k : Nat} (hk : ∀ x, (T.enc x).length = k) (k0 : 0 < k) {w : World} {g e cap : Nat} {cur : Array Value} {xs : List α} (h : w.heap[g]? = some (.cells cur e (0, 0))) (hc : xs.length ≤ cap) (hs : cur.size = cap * k) (ht : cur.toList.take (xs.length * k) = xs.flatMap T.enc) : HoldsK T.enc k w g 0 xs.toArray := by
  intro j hj
  have hj' : j < xs.length * k := by simpa using hj
  have hjc : j < cur.size := by rw [hs]; exact Nat.lt_of_lt_of_le hj' (Nat.mul_le_mul_right k hc)
  obtain ⟨h1, h2⟩ := cell_at (j := j) h hjc
  rw [Nat.zero_add]
  refine ⟨?_, h2⟩
  rw [h1]
  have e1 : (flatK T.enc k xs.toArray).toList[j]? = some cur[j] := by
    rw [flatK_list hk k0, ← ht, List.getElem?_take_of_lt hj', Array.getElem?_toList, Array.getElem?_eq_getElem hjc]
  rw [Array.getElem?_toList, Array.getElem?_eq_getElem hj] at e1
  rw [getElem!_pos _ j hj]
  exact congrArg some (Option.some.inj e1).symm
theorem own_sorted {α : Type} [Inhabited α] {T : Ty α} {k : Nat} (hk : ∀ x, (T.enc x).length = k) (k0 : 0 < k) {w : World} {base g e cap n : Nat} {cur : Array Value} {d' : Array α} {os : Array Obj} (h : w.heap[g]? = some (.cells cur e (0, 0))) (hb : base ≤ g) (hc : d'.size ≤ cap) (hm : cap ≤ maxLen) (hs : cur.size = cap * k) (hT : T.size = k) :
    OwL T (sortWorldK T.enc k w g 0 n d' os) base e (.slice (some ⟨g, 0, none⟩) d'.size cap) d'.toList ∧ w.grownBy (sortWorldK T.enc k w g 0 n d' os) (some g) := by
  have hg := (Array.getElem?_eq_some_iff.1 h).1
  have hF : (flatK T.enc k d').toList = d'.toList.flatMap T.enc := by
    have := flatK_list hk k0 d'.toList
    simpa using this
  have hle : d'.size * k ≤ cur.size := by rw [hs]; exact Nat.mul_le_mul_right k hc
  have hblk : (sortWorldK T.enc k w g 0 n d' os).heap[g]? = some (.cells (putCells id 0 (flatK T.enc k d') cur) e (0, 0)) := by
    unfold sortWorldK grow putRowK putRow mapBlock
    rw [Array.getElem?_append_left (by simpa [Sort.ahead] using hg)]
    simp [Sort.ahead, Array.getElem?_modify, h, onCells]
  refine ⟨⟨?_, .inr ⟨g, cap, _, ?_, hb, hblk, ?_, hm, ?_, ?_⟩⟩, ?_⟩
  · rw [flat_len2 hk, hT]
  · simp
  · simpa using hc
  · rw [hT]; simp [putCells, hs]
  · rw [hT, ← hF]
    refine List.ext_getElem? (fun t => ?_)
    simp only [Array.length_toList]
    by_cases ht : t < d'.size * k
    · have htc : t < cur.size := by omega
      rw [List.getElem?_take_of_lt ht, Array.getElem?_toList, Array.getElem?_toList]
      have hts : t < (flatK T.enc k d').size := by simpa using ht
      simp [putCells, htc, ht, getElem!_pos, hts]
    · rw [List.getElem?_eq_none (by simp; omega), List.getElem?_eq_none (by simp; omega)]
  · refine ⟨rfl, rfl, rfl, ?_, fun j hj hne => ?_⟩
    · simp [sortWorldK, grow, putRowK, putRow, mapBlock, Sort.ahead]
    · have hjg : ¬ g = j := fun e => hne (by rw [e])
      unfold sortWorldK grow putRowK putRow mapBlock
      rw [Array.getElem?_append_left (by simpa [Sort.ahead] using hj)]
      simp [Sort.ahead, Array.getElem?_modify, hjg]
instance : Inhabited Cm := ⟨⟨[], ⟨0, 0⟩, ⟨0, 0⟩⟩⟩
theorem lt_bef (c d : Cm) : ltOf ordC c d = befB c d := by
  unfold ltOf
  rw [Bool.eq_iff_iff, decide_eq_true_eq, ordC_neg]
theorem nbytes_trans {x y z : List UInt8} (h : Op.bytesLess x y = false) (h2 : Op.bytesLess y z = false) : Op.bytesLess x z = false := by
  rw [Bool.eq_false_iff]; intro h3
  by_cases e : x = y
  · subst e; rw [h3] at h2; cases h2
  · rcases bytesLess_total e with h4 | h4
    · rw [h4] at h; cases h
    · rw [bytesLess_trans h4 h3] at h2; cases h2
theorem swo_ordC : SWO (ltOf ordC) where
  irrefl c := by rw [lt_bef]; exact befB_irrefl c
  trans c d e h h2 := by rw [lt_bef] at *; exact befB_trans h h2
  ntrans c d e h h2 := by
    rw [lt_bef] at *
    unfold befB at *
    cases h3 : endsB c <;> cases h4 : endsB d <;> cases h5 : endsB e <;> simp_all
    · exact nbytes_trans h h2
    · exact nbytes_trans h2 h
theorem sorted_in {d d' : Array Cm} (ho : Once d.toList) (hp : PermIn 0 d.size d d') (hs : SortedIn (ltOf ordC) 0 d.size d') : d'.toList = sortC d.toList := by
  obtain ⟨h1, _, h3⟩ := hp
  have hperm : d'.toList.Perm d.toList := by
    have e1 : d'.extract 0 d.size = d' := by rw [← h1]; simp
    have e2 : d.extract 0 d.size = d := by simp
    rwa [e1, e2] at h3
  have ho' : Once d'.toList := (hperm.pairwise_iff (fun h e => h e.symm)).2 ho
  refine sorted_one (sorted_of_adj ho' (fun i c e hc he => ?_)) (sortC_sorted ho) (fun c => by rw [sortC_mem]; exact hperm.mem_iff)
  obtain ⟨hi, e1⟩ := List.getElem?_eq_some_iff.1 hc
  obtain ⟨hj, e2⟩ := List.getElem?_eq_some_iff.1 he
  have hi' : i < d'.size := by simpa using hi
  have hj' : i + 1 < d'.size := by simpa using hj
  have := hs i (i + 1) (Nat.zero_le _) (Nat.lt_succ_self i) (by omega)
  rw [getElem!_pos _ i hi', getElem!_pos _ (i + 1) hj', lt_bef] at this
  rw [← e1, ← e2]; simpa using this
end Go.Proofs.YtjobbcdolbhadaaGreatDoor


namespace Go.Proofs.YtjobbcdolbhadaaGreatDoor
set_option linter.unusedVariables false
set_option linter.unusedSimpArgs false
open Go Go.RowKit
set_option linter.unusedVariables false
set_option linter.unusedSimpArgs false

theorem order_lays (blk off size : Nat) (w : World) : Go.Proofs.CmpLays Tryz.prog 40 #[] tCm.enc 5 ordC blk off size w := fun m os dk _ x y =>
  (x_canonOrder (c := x) (d := y)).run.mono fun e w' ⟨u, he, hu, os', hw⟩ => ⟨by rw [he, hu], 0, os', by rw [hw]; rfl⟩
theorem c_SortFunc_own {g cap : Nat} {xs : List Cm} {w : World} {base : Nat} (hO : OwL tCm w base 35 (.slice (some ⟨g, 0, none⟩) xs.length cap) xs) (ho : Once xs) (hl : xs.length ≤ 1048576) :
    Cl Tryz.prog 39 [.slice (some ⟨g, 0, none⟩) xs.length cap, .func (.func 40) #[] #[]] w (fun u w' => u = .tuple #[] ∧ OwL tCm w' base 35 (.slice (some ⟨g, 0, none⟩) xs.length cap) (sortC xs) ∧ w.grownBy w' (some g)) := by
  obtain ⟨_, hv⟩ := hO.own
  rcases hv with ⟨h0, _⟩ | ⟨g', cap', cur, he, hb, hg, hnc, hcm, hcs, htk⟩
  · cases h0
  injection he with e1 _ e3
  injection e1 with e1
  injection e1 with e1
  subst e1; subst e3
  have hH := holds_own (T := tCm) (k := 5) (fun _ => rfl) (by omega) hg hnc hcs htk
  have eg : ∀ args w, (callFunc 40 args).run Tryz.prog w = .ok (.enter 40 args) w := fun args w => (inferInstance : Enters Tryz.prog 40).run args w
  have hcon := Tryz.slices_SortFunc (α := Cm) 5 (fun w => (TStruct.und (P := Tryz.prog) (t := 35)).elim fun _ h => run_isAgg_struct h) (fun w => run_sizeOf' (TSize.info (P := Tryz.prog) (t := 35))) tCm.enc (fun _ => rfl) (fun x v hv => tCm.one x v hv) ordC swo_ordC 40 #[] g 0 cap xs.toArray w eg (order_lays g 0 _ w) hH (Array.getElem?_eq_some_iff.1 hg).1 (by simp; omega)
  have hsz : xs.toArray.size = xs.length := by simp
  rw [hsz] at hcon
  refine ⟨hcon.mono fun e w' ⟨he, d', n, os, hp, hs, hw⟩ => ?_⟩
  subst hw
  have hd := sorted_in (d := xs.toArray) (by simpa using ho) hp hs
  have hdz : d'.size = xs.length := by have := hp.1; simpa using this
  obtain ⟨hO', hgr⟩ := own_sorted (T := tCm) (k := 5) (fun _ => rfl) (by omega) (n := n) (d' := d') (os := os) hg hb (by omega) hcm hcs rfl
  rw [hdz] at hO'
  have hd2 : d'.toList = sortC xs := by simpa using hd
  rw [hd2] at hO'
  exact ⟨.tuple #[], he, rfl, hO', hgr⟩
theorem c_SortFunc_cm {v : Value} {xs : List Cm} {w : World} {base : Nat} (hO : OwL tCm w base 35 v xs) (ho : Once xs) (hl : xs.length ≤ 1048576) :
    Cl Tryz.prog 39 [v, .func (.func 40) #[] #[]] w (fun u w' => u = .tuple #[] ∧ OwL tCm w' base 35 v (sortC xs) ∧ w.grownBy w' v.ownBlock) := by
  obtain ⟨_, hv⟩ := hO.own
  rcases hv with ⟨rfl, hn⟩ | ⟨g, cap, cur, rfl, _⟩
  · have hx : xs = [] := List.eq_nil_of_length_eq_zero hn
    subst hx
    exact c_SortFunc_nil.mono (fun u w' ⟨h1, h2⟩ => by subst h2; exact ⟨h1, hO, World.grownBy.refl _ _⟩)
  · exact c_SortFunc_own hO ho hl
end Go.Proofs.YtjobbcdolbhadaaGreatDoor
