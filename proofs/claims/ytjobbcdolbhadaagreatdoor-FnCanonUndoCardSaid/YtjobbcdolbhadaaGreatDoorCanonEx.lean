/-
  Contracts told in full: the canonical order changes nothing of what was there, and nothing but new blocks comes.
-/
import Derived.Sort.Grow
import Derived.Test.YtjobbcdolbhadaaGreatDoorImplCanon
namespace Go.Proofs.YtjobbcdolbhadaaGreatDoor
open Go Go.RowKit
set_option linter.unusedVariables false
set_option linter.unusedSimpArgs false

/-- Nothing but new blocks. -/
def Gr (w w' : World) : Prop := ∃ os : Array Obj, w' = Go.Sort.grow w os
theorem Gr.refl (w : World) : Gr w w := ⟨#[], by simp⟩
theorem Gr.trans {a b c : World} (h : Gr a b) (k : Gr b c) : Gr a c := by
  obtain ⟨x, rfl⟩ := h
  obtain ⟨y, rfl⟩ := k
  exact ⟨x ++ y, Go.Sort.grow_grow _ _ _⟩
theorem Gr.alloc (w : World) (o : Obj) : Gr w (w.alloc o) := ⟨#[o], Go.Sort.alloc_eq_grow _ _⟩
theorem Gr.below {w w' : World} (h : Gr w w') : Below w.heap.size w w' := by
  obtain ⟨x, rfl⟩ := h
  refine ⟨rfl, rfl, rfl, by simp [Go.Sort.grow], fun k hk => ?_⟩
  simp [Go.Sort.grow, Array.getElem?_append_left hk]
section
variable {P : Program} {ops : Array Oper} {Q : Exit → Act → World → Prop} {n : Nat} {fr : Fr} {w : World} {rest : List Oper}
variable {d : Nat} {ty : TypeId} {pos : String} {af : Array Edge}
theorem L_boxX {e : TypeId} {x : Operand} {v : Value} (hx : fr.ev x = some v) (hdn : Nat.blt d n = true)
    (kk : ∀ w', Gr w w' → w'.heap[w.heap.size]? = some (.cells v.cells e (0, 0)) → L P ops Q n rest ((d, .pointer (some ⟨w.heap.size, 0, none⟩)) :: fr) w') :
    L P ops Q n (⟨some d, .box e x, ty, pos, af, none⟩ :: rest) fr w :=
  L_box hx hdn (kk _ (Gr.alloc _ _) (heap_alloc_new w _))
end
theorem x_isNaN {x : Str} {w : World} : Cl Tryz.prog 121 [.string (mk x)] w (fun u w' => u = .bool false ∧ w' = w) := by
  refine calls_start 6 Tryz.func121 rfl rfl rfl ?_
  repeat' (first | (apply isL; first | apply L_nil | refine L_move rfl rfl ?_ | (apply isBin; first | refine L_do rfl rfl rfl (do_cmpStr rfl rfl rfl) ?_ ) | refine L_assign rfl rfl ?_ ) | (apply isW; first | apply W_seq | apply W_region | refine W_cond_dec rfl (fun hg => ?_) (fun hg => ?_) | refine W_cond_true rfl ?_ | refine W_cond_false rfl ?_ | refine W_cond rfl (fun hg => ?_) (fun hg => ?_) | apply W_skip | apply W_ret | apply W_exit | apply W_block) | (apply isAt; first | apply At_then | apply At_then_ret | apply At_then_exit | apply At_block_normal | apply At_block_ret | apply At_block_hit | refine At_block_miss rfl ?_ | refine At_end1 rfl rfl ?_ | refine At_end1n rfl rfl ?_ | refine At_end2 rfl rfl rfl ?_ | refine At_end3 rfl rfl rfl rfl ?_ | refine At_end4 rfl rfl rfl rfl rfl ?_ | refine At_end5 rfl rfl rfl rfl rfl rfl ?_ | refine At_mix kp_ ?_))
  exact ⟨by simp, rfl⟩
theorem x_Compare {x y : Str} {w : World} : Cl Tryz.prog 76 [.string (mk x), .string (mk y)] w (fun u w' => u = .int .i64 (ordS x y) ∧ w' = w) := by
  refine calls_start 20 Tryz.func76 rfl rfl rfl ?_
  repeat' (first | (apply isL; first | apply L_nil | refine L_move rfl rfl ?_ | (apply isCall; first | (refine L_call rfl rfl x_isNaN (fun _ _ hR => ?_); obtain ⟨rfl, rfl⟩ := hR) ) | (apply isBin; first | refine L_do rfl rfl rfl (do_cmpStr rfl rfl rfl) ?_ ) | refine L_assign rfl rfl ?_ ) | (apply isW; first | apply W_seq | apply W_region | refine W_cond_dec rfl (fun hg => ?_) (fun hg => ?_) | refine W_cond_true rfl ?_ | refine W_cond_false rfl ?_ | refine W_cond rfl (fun hg => ?_) (fun hg => ?_) | apply W_skip | apply W_ret | apply W_exit | apply W_block) | (apply isAt; first | apply At_then | apply At_then_ret | apply At_then_exit | apply At_block_normal | apply At_block_ret | apply At_block_hit | refine At_block_miss rfl ?_ | refine At_end1 rfl rfl ?_ | refine At_end1n rfl rfl ?_ | refine At_end2 rfl rfl rfl ?_ | refine At_end3 rfl rfl rfl rfl ?_ | refine At_end4 rfl rfl rfl rfl rfl ?_ | refine At_end5 rfl rfl rfl rfl rfl rfl ?_ | refine At_mix kp_ ?_))
  all_goals first | (refine ⟨?_, rfl⟩; rw [less_or] at hg; simp at hg; simp [ordS, *]; done) | (refine ⟨?_, rfl⟩; simp [ordS, *]; done)
theorem x_ends {c : Cm} {w : World} : Cl Tryz.prog 75 [vCm c] w (fun u w' => u = .bool (endsB c) ∧ Gr w w') := by
  refine calls_start 13 Tryz.func75 rfl rfl rfl ?_
  repeat' (first | (apply isL; first | apply L_nil | refine L_move rfl rfl ?_ | (apply isGuarded; first | refine L_guard_dec rfl rfl (fun hg => ?_) (fun hg => ?_) | refine L_guard_yes rfl rfl ?_ | refine L_guard_no rfl rfl rfl rfl ?_ | refine L_guard_undef rfl rfl rfl ?_ | refine L_guard_split rfl rfl (fun hg => ?_) (fun hg => ?_)) | (apply isBin; first | refine L_do rfl rfl rfl (do_cmp rfl rfl rfl) ?_ ) | (apply isLoad; first | refine L_loadPt rfl (by rfl) pt_ (by rfl) rfl ?_ | refine L_loadPt2 rfl (by rfl) pt_ (by rfl) rfl ?_ | refine L_loadPt0 rfl pt_ (by rfl) rfl ?_ | refine L_loadAgg rfl pt_ (by rfl) rfl ?_ | refine L_loadSub rfl (by rfl) pt_ (by rfl) rfl ?_) | refine L_assign rfl rfl ?_ | refine L_do rfl rfl rfl (do_pick_true rfl rfl) ?_ | refine L_do rfl rfl rfl (do_pick_false rfl rfl) ?_ | refine L_do rfl rfl rfl (do_fieldAddr rfl) ?_ | (apply isBox; refine L_boxX rfl rfl (fun wb hGb hvb => ?_); have hpb := pt_of_block hvb) | (apply isBox; refine L_boxV (w0 := w) bw_ rfl rfl (fun w1 hz1 hB hB1 hv => ?_); have hp := pt_of_block hv) ) | (apply isW; first | apply W_seq | apply W_region | refine W_cond_dec rfl (fun hg => ?_) (fun hg => ?_) | refine W_cond_true rfl ?_ | refine W_cond_false rfl ?_ | refine W_cond rfl (fun hg => ?_) (fun hg => ?_) | apply W_skip | apply W_ret | apply W_exit | apply W_block) | (apply isAt; first | apply At_then | apply At_then_ret | apply At_then_exit | apply At_block_normal | apply At_block_ret | apply At_block_hit | refine At_block_miss rfl ?_ | refine At_end1 rfl rfl ?_ | refine At_end1n rfl rfl ?_ | refine At_end2 rfl rfl rfl ?_ | refine At_end3 rfl rfl rfl rfl ?_ | refine At_end4 rfl rfl rfl rfl rfl ?_ | refine At_end5 rfl rfl rfl rfl rfl rfl ?_ | refine At_mix kp_ ?_))
  all_goals exact ⟨by simp [endsB, *], hGb⟩
theorem x_canonOrder {c d : Cm} {w : World} : Cl Tryz.prog 40 [vCm c, vCm d] w (fun u w' => u = .int .i64 (ordC c d) ∧ Gr w w') := by
  refine calls_start 28 Tryz.func40 rfl rfl rfl ?_
  have tok : True := trivial
  cases hc : endsB c <;> cases hd : endsB d
  all_goals
    repeat' (first | (apply isL; first | apply L_nil | refine L_move rfl rfl ?_ | (apply isGuarded; first | refine L_guard_dec rfl rfl (fun hg => ?_) (fun hg => ?_) | refine L_guard_yes rfl rfl ?_ | refine L_guard_no rfl rfl rfl rfl ?_ | refine L_guard_undef rfl rfl rfl ?_ | refine L_guard_split rfl rfl (fun hg => ?_) (fun hg => ?_)) | (apply isCall; first | (refine L_call rfl rfl (x_ends (c := c)) (fun _ w2 hR => ?_); obtain ⟨rfl, hG2⟩ := hR; rw [hc]; replace hpb := hpb.ext hG2.below; replace hpc := hpc.ext hG2.below; replace hG := hG.trans hG2; clear hG2) | (refine L_call rfl rfl (x_ends (c := d)) (fun _ w2 hR => ?_); obtain ⟨rfl, hG2⟩ := hR; rw [hd]; replace hpb := hpb.ext hG2.below; replace hpc := hpc.ext hG2.below; replace hG := hG.trans hG2; clear hG2) | (refine L_call rfl rfl x_Compare (fun _ _ hR => ?_); obtain ⟨rfl, rfl⟩ := hR) ) | (apply isLoad; first | refine L_loadPt rfl (by rfl) pt_ (by rfl) rfl ?_ | refine L_loadPt2 rfl (by rfl) pt_ (by rfl) rfl ?_ | refine L_loadPt0 rfl pt_ (by rfl) rfl ?_ | refine L_loadAgg rfl pt_ (by rfl) rfl ?_ | refine L_loadSub rfl (by rfl) pt_ (by rfl) rfl ?_) | refine L_assign rfl rfl ?_ | refine L_do rfl rfl rfl (do_pick_true rfl rfl) ?_ | refine L_do rfl rfl rfl (do_pick_false rfl rfl) ?_ | refine L_do rfl rfl rfl (do_fieldAddr rfl) ?_ | (have := tok; clear this tok; apply isBox; refine L_boxX rfl rfl (fun wb hGb hvb => ?_); have hpb := pt_of_block hvb; have hG := hGb; clear hGb hvb) | (apply isBox; refine L_boxX rfl rfl (fun wc hGc hvc => ?_); have hpc := pt_of_block hvc; replace hpb := hpb.ext hGc.below; replace hG := hG.trans hGc; clear hGc hvc) | (apply isBox; refine L_boxV (w0 := w) bw_ rfl rfl (fun w1 hz1 hB hB1 hv => ?_); have hp := pt_of_block hv) ) | (apply isW; first | apply W_seq | apply W_region | refine W_cond_dec rfl (fun hg => ?_) (fun hg => ?_) | refine W_cond_true rfl ?_ | refine W_cond_false rfl ?_ | refine W_cond rfl (fun hg => ?_) (fun hg => ?_) | apply W_skip | apply W_ret | apply W_exit | apply W_block) | (apply isAt; first | apply At_then | apply At_then_ret | apply At_then_exit | apply At_block_normal | apply At_block_ret | apply At_block_hit | refine At_block_miss rfl ?_ | refine At_end1 rfl rfl ?_ | refine At_end1n rfl rfl ?_ | refine At_end2 rfl rfl rfl ?_ | refine At_end3 rfl rfl rfl rfl ?_ | refine At_end4 rfl rfl rfl rfl rfl ?_ | refine At_end5 rfl rfl rfl rfl rfl rfl ?_ | refine At_mix kp_ ?_))
  all_goals first | exact ⟨by simp [ordC, hc, hd], hG⟩ | (exfalso; simp at hg; done)
end Go.Proofs.YtjobbcdolbhadaaGreatDoor
