/-
  Contracts: what takes a command back, by both sides.
-/
import Derived.Test.YtjobbcdolbhadaaGreatDoorCmList
import Derived.Test.YtjobbcdolbhadaaGreatDoorPlA
import Derived.Test.YtjobbcdolbhadaaGreatDoorFlB
namespace Go.Proofs.YtjobbcdolbhadaaGreatDoor
open Go Go.RowKit
set_option linter.unusedVariables false
set_option linter.unusedSimpArgs false

theorem c_implCommandUndo {c : Cm} {w : World} (hk : cmOk c = true) (hm : MLen w) (hs : c.path.length ≤ 1048576) : Cl Tryz.prog 16 [vCm c] w (V w (vCm (undoC c))) := by
  refine calls_start 14 Tryz.func16 rfl rfl rfl ?_
  repeat' (first | (apply isL; first | apply L_nil | refine L_move rfl rfl ?_ | (apply isCall; first | (refine L_callV rfl rfl (c_implCommandValid (c := c) (hm.ext bw_) om_) (fun w2 hB2 => ?_); rw [hk]; replace hpb := hpb.ext hB2; replace hvc := (hB2.block _ om_).trans hvc) ) | (apply isLoad; first | refine L_loadPt rfl (by rfl) pt_ (by rfl) rfl ?_ | refine L_loadPt2 rfl (by rfl) pt_ (by rfl) rfl ?_ | refine L_loadPt0 rfl pt_ (by rfl) rfl ?_ | refine L_loadAgg rfl pt_ (by rfl) rfl ?_ | refine L_loadSub rfl (by rfl) pt_ (by rfl) rfl ?_) | refine L_assign rfl rfl ?_ | refine L_do rfl rfl rfl (do_notDec rfl) ?_ | refine L_do rfl rfl rfl (do_not rfl) ?_ | refine L_do rfl rfl rfl (do_fieldAddr rfl) ?_ | (apply isBox; refine L_boxV (w0 := w) (Below.refl _ _) rfl rfl (fun wb hzb hBb' hBb hvb => ?_); have hpb := pt_of_block hvb; clear hBb') | (apply isAlloc; refine L_allocV (w0 := wb) (Below.refl _ _) rfl (fun wc hzc hBc' hBc hvc => ?_); replace hpb := hpb.ext hBc; clear hBc') | refine L_do rfl rfl rfl (do_build (t := 35) (cells := #[.string (mk c.path), .int .i64 c.to.kind, .int .i64 c.to.value, .int .i64 c.fr.kind, .int .i64 c.fr.value]) rfl (by kernel_rfl)) ?_ | (apply isStore; refine L_storeAt (b := wb.heap.size) (off := 0) (cs := tCm.enc (undoC c)) rfl rfl rfl rfl (tCm.one _) hvc (Nat.le_of_ble_eq_true rfl) (cur' := tCm.enc (undoC c)) rfl (fun w3 hv3 hg3 hz3 => ?_)) | (apply isBox; refine L_boxV (w0 := w) bw_ rfl rfl (fun w1 hz1 hB hB1 hv => ?_); have hp := pt_of_block hv) | (apply isAllocStore; refine L_allocStoreV (w0 := w) bw_ rfl rfl rfl rfl ?_ rfl (fun w1 hz1 hB hB1 hv => ?_); (focus (first | exact Ty.one _ _ | simp [Value.oneCell'])); have hp := pt_of_block hv) ) | (apply isW; first | apply W_seq | apply W_region | refine W_cond_dec rfl (fun hg => ?_) (fun hg => ?_) | refine W_cond_true rfl ?_ | refine W_cond_false rfl ?_ | refine W_cond rfl (fun hg => ?_) (fun hg => ?_) | apply W_skip | apply W_ret | apply W_exit | apply W_block) | (apply isAt; first | apply At_then | apply At_then_ret | apply At_then_exit | apply At_block_normal | apply At_block_ret | apply At_block_hit | refine At_block_miss rfl ?_ | refine At_end1 rfl rfl ?_ | refine At_end1n rfl rfl ?_ | refine At_end2 rfl rfl rfl ?_ | refine At_end3 rfl rfl rfl rfl ?_ | refine At_end4 rfl rfl rfl rfl rfl ?_ | refine At_end5 rfl rfl rfl rfl rfl rfl ?_ | refine At_mix kp_ ?_))
  all_goals first | (exfalso; simp at hg; done) | skip
  exact At_endCell rfl rfl hv3 rfl ⟨rfl, below_grow0 (below_step (below_step hBb hBc) hB2) hg3 (fun k hk => by cases hk; omega)⟩
end Go.Proofs.YtjobbcdolbhadaaGreatDoor
