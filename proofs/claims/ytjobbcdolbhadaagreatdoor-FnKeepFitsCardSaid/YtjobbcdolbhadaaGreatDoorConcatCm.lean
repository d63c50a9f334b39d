/-
  Contracts of the library's slices.Grow and Concat over commands, as the program uses them.
-/
import Derived.Test.YtjobbcdolbhadaaGreatDoorCmList
namespace Go.Proofs.YtjobbcdolbhadaaGreatDoor
open Go Go.RowKit
set_option linter.unusedVariables false

theorem c_Grow_cm {n : Nat} {w : World} (hsm : n ≤ 1048576) : Cl Tryz.prog 90 [.slice none 0 0, .int .i64 n] w (fun u w' => OwL tCm w' w.heap.size 35 u [] ∧ Below w.heap.size w w') := by
  refine calls_start 27 Tryz.func90 rfl rfl rfl ?_
  have hn : RdL tCm w (.slice none 0 0) [] := RdL.nil
  have hs0 : sliced none 0 (Int.toNat ((0 : Nat) : Int)) 0 5 = .slice none 0 0 := rfl
  have hno : ∀ w' : World, OwL tCm w' w.heap.size 35 (.slice none 0 0) [] := fun w' => ⟨by simp, .inl ⟨rfl, rfl⟩⟩
  repeat' (first | (apply isL; first | apply L_nil | refine L_move rfl rfl ?_ | (apply isCall; first | refine L_lenL rfl rd_ rfl (fun hlen => ?_) | refine L_do rfl rfl rfl (do_cap rfl) ?_ | refine L_appendZ0 (T := tCm) (y0 := ⟨[], ⟨0, 0⟩, ⟨0, 0⟩⟩) (k := n) rfl rfl (by kernel_rfl) om_ rfl rfl om_ om_ rfl (fun v1 w1 hO1 hB1 => ?_) ) | (apply isBin; first | refine L_do rfl rfl rfl (do_cmp rfl rfl rfl) ?_ | refine L_do rfl rfl rfl (do_sub rfl rfl om_) ?_ | refine L_do rfl rfl rfl (do_subE (r := 0) rfl rfl rfl om_) ?_ | refine L_do rfl rfl rfl (do_subE (r := n) rfl rfl (by simp) om_) ?_ ) | refine L_assign rfl rfl ?_ | (refine L_do rfl rfl rfl (do_sliceH (a := none) (cap := 0) rfl rfl om_ om_) ?_; rw [hs0]) | refine L_sliceOwnH rfl rfl hO1 rfl om_ (by simp) rfl (fun v2 hO2 hob2 => ?_) ) | (apply isW; first | apply W_seq | apply W_region | refine W_cond_dec rfl (fun hg => ?_) (fun hg => ?_) | refine W_cond_true rfl ?_ | refine W_cond_false rfl ?_ | refine W_cond rfl (fun hg => ?_) (fun hg => ?_) | apply W_skip | apply W_ret | apply W_exit | apply W_block) | (apply isAt; first | apply At_then | apply At_then_ret | apply At_then_exit | apply At_block_normal | apply At_block_ret | apply At_block_hit | refine At_block_miss rfl ?_ | refine At_end1 rfl rfl ?_ | refine At_end1n rfl rfl ?_ | refine At_end2 rfl rfl rfl ?_ | refine At_end3 rfl rfl rfl rfl ?_ | refine At_end4 rfl rfl rfl rfl rfl ?_ | refine At_end5 rfl rfl rfl rfl rfl rfl ?_ | refine At_mix kp_ ?_))
  · omega
  · exact ⟨hO2, hB1⟩
  · exact ⟨hno _, Below.refl _ _⟩

/-! ### A row of slices -/
structure Sl where
  v : Value
  one : v.oneCell' = true
def tSlD : Ty Sl := ⟨1, fun s => [s.v], fun _ => rfl, fun s u h => by simp at h; subst h; exact s.one⟩
structure RdSls (w : World) (v : Value) (ss : List Sl) (xss : List (List Cm)) : Prop where
  rd : RdL tSlD w v ss
  len : ss.length = xss.length
  at_ : ∀ (i : Nat) s, ss[i]? = some s → ∃ xs, xss[i]? = some xs ∧ RdL tCm w s.v xs
theorem flatten_step {xss : List (List Cm)} {k : Nat} {xs : List Cm} (h : xss[k]? = some xs) : (xss.take (k + 1)).flatten = (xss.take k).flatten ++ xs := by
  rw [List.take_add_one, h]; simp
theorem flatten_le {xss : List (List Cm)} (k : Nat) : (xss.take k).flatten.length ≤ xss.flatten.length := by
  conv => rhs; rw [← List.take_append_drop k xss, List.flatten_append, List.length_append]
  omega

theorem c_Concat_cm {v : Value} {ss : List Sl} {xss : List (List Cm)} {w : World} (h : RdSls w v ss xss) (hsm : xss.flatten.length ≤ 1048576) : Cl Tryz.prog 54 [v] w (fun u w' => OwL tCm w' w.heap.size 35 u xss.flatten ∧ Below w.heap.size w w') := by
  refine calls_start 36 Tryz.func54 rfl rfl rfl ?_
  have hrd := h.rd
  have hln := h.len
  have hml := hrd.maxLen
  repeat' (first | (apply isL; first | apply L_nil | refine L_move rfl rfl ?_ | (apply isCall; first | refine L_lenL rfl rd_ rfl (fun hlen => ?_) ) | (apply isBin; first | refine L_do rfl rfl rfl (do_cmp rfl rfl rfl) ?_ | refine L_do rfl rfl rfl (do_add rfl rfl om_) ?_ ) | (apply isLoad; first | refine L_loadPt rfl (by rfl) pt_ (by rfl) rfl ?_ | refine L_loadPt2 rfl (by rfl) pt_ (by rfl) rfl ?_ | refine L_loadPt0 rfl pt_ (by rfl) rfl ?_ | refine L_loadAgg rfl pt_ (by rfl) rfl ?_ | refine L_loadSub rfl (by rfl) pt_ (by rfl) rfl ?_) | refine L_assign rfl rfl ?_ | refine L_indexL rfl rfl rd_ (by rfl) om_ om_ rfl (fun a y hy hab hp => ?_) ) | (apply isW; first | apply W_seq | apply W_region | refine W_cond_dec rfl (fun hg => ?_) (fun hg => ?_) | refine W_cond_true rfl ?_ | refine W_cond_false rfl ?_ | refine W_cond rfl (fun hg => ?_) (fun hg => ?_) | apply W_skip | apply W_ret | apply W_exit | apply W_block) | (apply isAt; first | apply At_then | apply At_then_ret | apply At_then_exit | apply At_block_normal | apply At_block_ret | apply At_block_hit | refine At_block_miss rfl ?_ | refine At_end1 rfl rfl ?_ | refine At_end1n rfl rfl ?_ | refine At_end2 rfl rfl rfl ?_ | refine At_end3 rfl rfl rfl rfl ?_ | refine At_end4 rfl rfl rfl rfl rfl ?_ | refine At_end5 rfl rfl rfl rfl rfl rfl ?_ | refine At_mix kp_ ?_))
  refine W_loopF (fun m fr w' => ∃ k : Nat, m = ss.length - k ∧ k ≤ ss.length ∧ fr = [(0, v), (3, .int .i64 ((xss.take k).flatten.length : Nat)), (9, v), (10, .int .i64 ss.length), (11, .int .i64 k)] ∧ Below w.heap.size w w') ss.length
    [(0, v), (3, .int .i64 0), (9, v), (10, .int .i64 ss.length), (11, .int .i64 0)] sl_ ⟨0, rfl, Nat.zero_le _, rfl, bw_⟩ ?_
  rintro _ _ w' ⟨k, rfl, hk, rfl, hB⟩
  have hfl := flatten_le (xss := xss) k
  repeat' (first | (apply isL; first | apply L_nil | refine L_move rfl rfl ?_ | (apply isCall; first | refine L_lenL rfl rd_ rfl (fun hlen => ?_) | (obtain ⟨xs, hxs0, hxr⟩ := h.at_ _ _ hy; have hxs : xss[k]? = some xs := hxs0; have hst := flatten_step hxs; have hfl1 := flatten_le (xss := xss) (k + 1); have hsl := congrArg List.length hst; rw [List.length_append] at hsl; refine L_lenL rfl (hxr.ext bw_) rfl (fun hlen => ?_)) ) | (apply isBin; first | refine L_do rfl rfl rfl (do_cmp rfl rfl rfl) ?_ | refine L_do rfl rfl rfl (do_add rfl rfl om_) ?_ ) | (apply isLoad; first | refine L_loadPt rfl (by rfl) pt_ (by rfl) rfl ?_ | refine L_loadPt2 rfl (by rfl) pt_ (by rfl) rfl ?_ | refine L_loadPt0 rfl pt_ (by rfl) rfl ?_ | refine L_loadAgg rfl pt_ (by rfl) rfl ?_ | refine L_loadSub rfl (by rfl) pt_ (by rfl) rfl ?_) | refine L_assign rfl rfl ?_ | refine L_indexL rfl rfl rd_ (by rfl) om_ om_ rfl (fun a y hy hab hp => ?_) ) | (apply isW; first | apply W_seq | apply W_region | refine W_cond_dec rfl (fun hg => ?_) (fun hg => ?_) | refine W_cond_true rfl ?_ | refine W_cond_false rfl ?_ | refine W_cond rfl (fun hg => ?_) (fun hg => ?_) | apply W_skip | apply W_ret | apply W_exit | apply W_block) | (apply isAt; first | apply At_then | apply At_then_ret | apply At_then_exit | apply At_block_normal | apply At_block_ret | apply At_block_hit | refine At_block_miss rfl ?_ | refine At_end1 rfl rfl ?_ | refine At_end1n rfl rfl ?_ | refine At_end2 rfl rfl rfl ?_ | refine At_end3 rfl rfl rfl rfl ?_ | refine At_end4 rfl rfl rfl rfl rfl ?_ | refine At_end5 rfl rfl rfl rfl rfl rfl ?_ | refine At_mix kp_ ?_))
  · exfalso; omega
  · exact At_round _ [(0, v), (3, .int .i64 ((xss.take (k + 1)).flatten.length : Nat)), (9, v), (10, .int .i64 ss.length), (11, .int .i64 ((k + 1 : Nat) : Int))] (by rw [hsl]; repeat (first | exact get_nil_slots _ | refine get_cons_slots rfl ?_)) (by omega) ⟨k + 1, rfl, by omega, rfl, bw_⟩
  · repeat' (first | (apply isL; first | apply L_nil | refine L_move rfl rfl ?_ | (apply isCall; first | refine L_lenL rfl rd_ rfl (fun hlen => ?_) | (refine L_call rfl rfl (c_Grow_cm om_) (fun v1 w1 hR => ?_); obtain ⟨hO1, hB1⟩ := hR) ) | (apply isBin; first | refine L_do rfl rfl rfl (do_cmp rfl rfl rfl) ?_ | refine L_do rfl rfl rfl (do_add rfl rfl om_) ?_ ) | (apply isLoad; first | refine L_loadPt rfl (by rfl) pt_ (by rfl) rfl ?_ | refine L_loadPt2 rfl (by rfl) pt_ (by rfl) rfl ?_ | refine L_loadPt0 rfl pt_ (by rfl) rfl ?_ | refine L_loadAgg rfl pt_ (by rfl) rfl ?_ | refine L_loadSub rfl (by rfl) pt_ (by rfl) rfl ?_) | refine L_assign rfl rfl ?_ | refine L_indexL rfl rfl rd_ (by rfl) om_ om_ rfl (fun a y hy hab hp => ?_) ) | (apply isW; first | apply W_seq | apply W_region | refine W_cond_dec rfl (fun hg => ?_) (fun hg => ?_) | refine W_cond_true rfl ?_ | refine W_cond_false rfl ?_ | refine W_cond rfl (fun hg => ?_) (fun hg => ?_) | apply W_skip | apply W_ret | apply W_exit | apply W_block) | (apply isAt; first | apply At_then | apply At_then_ret | apply At_then_exit | apply At_block_normal | apply At_block_ret | apply At_block_hit | refine At_block_miss rfl ?_ | refine At_end1 rfl rfl ?_ | refine At_end1n rfl rfl ?_ | refine At_end2 rfl rfl rfl ?_ | refine At_end3 rfl rfl rfl rfl ?_ | refine At_end4 rfl rfl rfl rfl rfl ?_ | refine At_end5 rfl rfl rfl rfl rfl rfl ?_ | refine At_mix kp_ ?_))
    have hB0 : Below w.heap.size w w1 := bw_
    have hsz1 := hB0.size
    refine W_loopF (fun m fr w' => ∃ (k : Nat) (u : Value), m = ss.length - k ∧ k ≤ ss.length ∧ fr = [(0, v), (6, u), (25, v), (26, .int .i64 ss.length), (27, .int .i64 k)] ∧ Below w.heap.size w w' ∧ OwL tCm w' w.heap.size 35 u (xss.take k).flatten) ss.length
      [(0, v), (6, v1), (25, v), (26, .int .i64 ss.length), (27, .int .i64 0)] sl_ ⟨0, v1, rfl, Nat.zero_le _, rfl, hB0, hO1.rebase hB.size⟩ ?_
    clear hB0 hB1 hO1 hB hsz1 hfl hg
    rintro _ _ w' ⟨k, u, rfl, hk, rfl, hB, hO⟩
    have hfl := flatten_le (xss := xss) k
    repeat' (first | (apply isL; first | apply L_nil | refine L_move rfl rfl ?_ | (apply isCall; first | refine L_lenL rfl rd_ rfl (fun hlen => ?_) | (obtain ⟨xs, hxs0, hxr⟩ := h.at_ _ _ hy; have hxs : xss[k]? = some xs := hxs0; have hst := flatten_step hxs; have hfl1 := flatten_le (xss := xss) (k + 1); have hsl := congrArg List.length hst; rw [List.length_append] at hsl; refine L_append rfl rfl hB hO (hxr.ext hB) rfl om_ om_ rfl (fun v2 w2 hO2 hB2 hg2 => ?_)) ) | (apply isBin; first | refine L_do rfl rfl rfl (do_cmp rfl rfl rfl) ?_ | refine L_do rfl rfl rfl (do_add rfl rfl om_) ?_ ) | (apply isLoad; first | refine L_loadPt rfl (by rfl) pt_ (by rfl) rfl ?_ | refine L_loadPt2 rfl (by rfl) pt_ (by rfl) rfl ?_ | refine L_loadPt0 rfl pt_ (by rfl) rfl ?_ | refine L_loadAgg rfl pt_ (by rfl) rfl ?_ | refine L_loadSub rfl (by rfl) pt_ (by rfl) rfl ?_) | refine L_assign rfl rfl ?_ | refine L_indexL rfl rfl rd_ (by rfl) om_ om_ rfl (fun a y hy hab hp => ?_) ) | (apply isW; first | apply W_seq | apply W_region | refine W_cond_dec rfl (fun hg => ?_) (fun hg => ?_) | refine W_cond_true rfl ?_ | refine W_cond_false rfl ?_ | refine W_cond rfl (fun hg => ?_) (fun hg => ?_) | apply W_skip | apply W_ret | apply W_exit | apply W_block) | (apply isAt; first | apply At_then | apply At_then_ret | apply At_then_exit | apply At_block_normal | apply At_block_ret | apply At_block_hit | refine At_block_miss rfl ?_ | refine At_end1 rfl rfl ?_ | refine At_end1n rfl rfl ?_ | refine At_end2 rfl rfl rfl ?_ | refine At_end3 rfl rfl rfl rfl ?_ | refine At_end4 rfl rfl rfl rfl rfl ?_ | refine At_end5 rfl rfl rfl rfl rfl rfl ?_ | refine At_mix kp_ ?_))
    · exact At_round _ [(0, v), (6, v2), (25, v), (26, .int .i64 ss.length), (27, .int .i64 ((k + 1 : Nat) : Int))] sl_ (by omega) ⟨k + 1, v2, rfl, by omega, rfl, hB2, by rw [hst]; exact hO2⟩
    · rw [List.take_of_length_le (by omega)] at hO
      exact ⟨hO, hB⟩
theorem two_sls {w : World} {v : Value} {s1 s2 : Sl} {xs ys : List Cm} (h : RdL tSlD w v [s1, s2]) (h1 : RdL tCm w s1.v xs) (h2 : RdL tCm w s2.v ys) : RdSls w v [s1, s2] [xs, ys] :=
  ⟨h, rfl, fun i s hs => match i, hs with
    | 0, hs => by simp at hs; subst hs; exact ⟨xs, rfl, h1⟩
    | 1, hs => by simp at hs; subst hs; exact ⟨ys, rfl, h2⟩
    | i + 2, hs => by simp at hs⟩
end Go.Proofs.YtjobbcdolbhadaaGreatDoor
