/-
  Contracts: books in an exact law: sizes, copies, equality, marks.
-/
import Derived.Test.YtpdkajcnnanocaaDoorBooks
import Derived.Test.YtpdkajcnnanocaaDoorCmMarks
import Derived.Test.YtpdkajcnnanocaaDoorApart
namespace Go.Proofs.YtpdkajcnnanocaaDoor
open Go Go.RowKit
set_option linter.unusedVariables false
set_option linter.unusedSimpArgs false

theorem own_other {α : Type} {T : Ty α} {w : World} {base e b e' : Nat} {v : Value} {xs : List α} {cs : Array Value} {f : Nat × Nat} (h : OwL T w base e v xs) (hb : w.heap[b]? = some (.cells cs e' f)) (hne : e ≠ e') : v.ownBlock = none ∨ v.ownBlock ≠ some b := by
  rcases h.own.2 with ⟨rfl, hn⟩ | ⟨g, cap, cur, rfl, hbase, hcell, _⟩
  · exact .inl rfl
  · refine .inr (fun e1 => ?_)
    cases e1
    rw [hcell] at hb
    injection hb with hb
    injection hb with _ hb _
    exact hne hb
theorem c_eqBook_self {e : Int} {v v2 : Value} {l : List Cm} {w : World} (h : RdL tCm w v l) (h2 : RdL tCm w v2 l) : Cl Tryd.prog 9 [vBk e v, vBk e v2] w (V w (.bool true)) := by
  obtain ⟨a1, c1, rfl, _, _⟩ := h.slice
  obtain ⟨a2, c2, rfl, _, _⟩ := h2.slice
  refine calls_start 16 Tryd.func9 rfl rfl rfl ?_
  repeat' (first | (apply isL; first | apply L_nil | refine L_move rfl rfl ?_ | (apply isCall; first | refine L_callV rfl rfl (c_eqCommandS_self (h.ext bw_) (h2.ext bw_)) (fun w7 hB7 => ?_) ) | (apply isBin; first | refine L_do rfl rfl rfl (do_cmp rfl rfl rfl) ?_ ) | (apply isLoad; first | refine L_loadPt rfl (by rfl) pt_ (by rfl) rfl ?_ | refine L_loadPt2 rfl (by rfl) pt_ (by rfl) rfl ?_ | refine L_loadPt0 rfl pt_ (by rfl) rfl ?_ | refine L_loadAgg rfl pt_ (by rfl) rfl ?_ | refine L_loadSub rfl (by rfl) pt_ (by rfl) rfl ?_) | refine L_assign rfl rfl ?_ | refine L_do rfl rfl rfl (do_notDec rfl) ?_ | refine L_do rfl rfl rfl (do_not rfl) ?_ | refine L_do rfl rfl rfl (do_fieldAddr rfl) ?_ | (apply isBox; refine L_boxV (w0 := w) bw_ rfl rfl (fun w1 hz1 hB hB1 hv => ?_); have hp := pt_of_block hv) ) | (apply isW; first | apply W_seq | apply W_region | refine W_cond_dec rfl (fun hg => ?_) (fun hg => ?_) | refine W_cond_true rfl ?_ | refine W_cond_false rfl ?_ | refine W_cond rfl (fun hg => ?_) (fun hg => ?_) | apply W_skip | apply W_ret | apply W_exit | apply W_block) | (apply isAt; first | apply At_then | apply At_then_ret | apply At_then_exit | apply At_block_normal | apply At_block_ret | apply At_block_hit | refine At_block_miss rfl ?_ | refine At_end1 rfl rfl ?_ | refine At_end1n rfl rfl ?_ | refine At_end2 rfl rfl rfl ?_ | refine At_end3 rfl rfl rfl rfl ?_ | refine At_end4 rfl rfl rfl rfl rfl ?_ | refine At_mix kp_ ?_))
  all_goals first
    | exact ⟨rfl, bw_⟩
    | exact absurd rfl hg
   
theorem c_markBook {e : Int} {v : Value} {xs : List Cm} {w : World} {base : Nat} {k0 : Int} (h : OwL tCm w base 69 v xs) (h0 : 0 < k0) (h1 : k0 + 5 * xs.length ≤ 4611686018427387904) :
    Cl Tryd.prog 12 [vBk e v, .int .i64 k0] w (fun u w' => u = .int .i64 (k0 + 5 * xs.length) ∧ OwL tCm w' base 69 v (marksC k0 xs.length) ∧ w.grownBy w' v.ownBlock) := by
  obtain ⟨a, c, rfl, _, _⟩ := h.rd.slice
  refine calls_start 10 Tryd.func12 rfl rfl rfl ?_
  repeat' (first | (apply isL; first | apply L_nil | refine L_move rfl rfl ?_ | (apply isCall; first | (refine L_call rfl rfl (c_markCommandS (h.ext hB1) h0 h1) (fun _ w3 hR => ?_); obtain ⟨rfl, hO3, hg3⟩ := hR) ) | (apply isLoad; first | refine L_loadPt rfl (by rfl) pt_ (by rfl) rfl ?_ | refine L_loadPt2 rfl (by rfl) pt_ (by rfl) rfl ?_ | refine L_loadPt0 rfl pt_ (by rfl) rfl ?_ | refine L_loadAgg rfl pt_ (by rfl) rfl ?_ | refine L_loadSub rfl (by rfl) pt_ (by rfl) rfl ?_) | refine L_assign rfl rfl ?_ | refine L_do rfl rfl rfl (do_fieldAddr rfl) ?_ | (apply isBox; refine L_boxV (w0 := w) (Below.refl _ _) rfl rfl (fun w1 hz1 hB hB1 hv => ?_); have hp1 := pt_of_block hv) | (apply isBox; refine L_boxV (w0 := w) bw_ rfl rfl (fun w1 hz1 hB hB1 hv => ?_); have hp := pt_of_block hv) ) | (apply isW; first | apply W_seq | apply W_region | refine W_cond_dec rfl (fun hg => ?_) (fun hg => ?_) | refine W_cond_true rfl ?_ | refine W_cond_false rfl ?_ | refine W_cond rfl (fun hg => ?_) (fun hg => ?_) | apply W_skip | apply W_ret | apply W_exit | apply W_block) | (apply isAt; first | apply At_then | apply At_then_ret | apply At_then_exit | apply At_block_normal | apply At_block_ret | apply At_block_hit | refine At_block_miss rfl ?_ | refine At_end1 rfl rfl ?_ | refine At_end1n rfl rfl ?_ | refine At_end2 rfl rfl rfl ?_ | refine At_end3 rfl rfl rfl rfl ?_ | refine At_end4 rfl rfl rfl rfl rfl ?_ | refine At_mix kp_ ?_))
  exact ⟨rfl, hO3, kp_row (kp_below (World.grownBy.refl _ _) hB1) hg3⟩
theorem c_heldBook {e : Int} {v : Value} {n : Nat} {w : World} {k0 : Int} (h : RdL tCm w v (marksC k0 n)) (h0 : 0 < k0) (h1 : k0 + 5 * n ≤ 4611686018427387904) :
    Cl Tryd.prog 13 [vBk e v, .int .i64 k0] w (V w (.int .i64 (k0 + 5 * n))) := by
  obtain ⟨a, c, rfl, _, _⟩ := h.slice
  refine calls_start 12 Tryd.func13 rfl rfl rfl ?_
  repeat' (first | (apply isL; first | apply L_nil | refine L_move rfl rfl ?_ | (apply isCall; first | refine L_callV rfl rfl (c_heldCommandS (h.ext bw_) h0 h1) (fun w7 hB7 => ?_) ) | (apply isBin; first | refine L_do rfl rfl rfl (do_cmp rfl rfl rfl) ?_ ) | (apply isLoad; first | refine L_loadPt rfl (by rfl) pt_ (by rfl) rfl ?_ | refine L_loadPt2 rfl (by rfl) pt_ (by rfl) rfl ?_ | refine L_loadPt0 rfl pt_ (by rfl) rfl ?_ | refine L_loadAgg rfl pt_ (by rfl) rfl ?_ | refine L_loadSub rfl (by rfl) pt_ (by rfl) rfl ?_) | refine L_assign rfl rfl ?_ | refine L_do rfl rfl rfl (do_fieldAddr rfl) ?_ | (apply isBox; refine L_boxV (w0 := w) bw_ rfl rfl (fun w1 hz1 hB hB1 hv => ?_); have hp := pt_of_block hv) ) | (apply isW; first | apply W_seq | apply W_region | refine W_cond_dec rfl (fun hg => ?_) (fun hg => ?_) | refine W_cond_true rfl ?_ | refine W_cond_false rfl ?_ | refine W_cond rfl (fun hg => ?_) (fun hg => ?_) | apply W_skip | apply W_ret | apply W_exit | apply W_block) | (apply isAt; first | apply At_then | apply At_then_ret | apply At_then_exit | apply At_block_normal | apply At_block_ret | apply At_block_hit | refine At_block_miss rfl ?_ | refine At_end1 rfl rfl ?_ | refine At_end1n rfl rfl ?_ | refine At_end2 rfl rfl rfl ?_ | refine At_end3 rfl rfl rfl rfl ?_ | refine At_end4 rfl rfl rfl rfl rfl ?_ | refine At_mix kp_ ?_))
  all_goals first
    | (exfalso; omega)
    | exact ⟨rfl, bw_⟩
   
end Go.Proofs.YtpdkajcnnanocaaDoor
