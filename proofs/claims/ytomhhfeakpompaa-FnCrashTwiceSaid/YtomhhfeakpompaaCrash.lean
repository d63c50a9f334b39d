/-
  Contracts: copies of a disk; the crash of a disk, by the program's function and by the reference's; a drawn crash; equality of disks.
-/
import Derived.Test.YtomhhfeakpompaaSlices
import Derived.Test.YtomhhfeakpompaaLawPart
namespace Go.Proofs.Ytomhhfeakpompaa
open Go Go.RowKit
set_option linter.unusedVariables false

theorem c_blobClone {r : Row3} {b : Bl} {w : World} (h : BlOf w r b) (hs1 : b.safe.length ≤ 1048576) (hs2 : b.fresh.length ≤ 1048576) :
    Cl Try.prog 51 [.agg #[.int .i64 r.name, r.safe, r.fresh]] w (fun u w' => ∃ r' : Row3, u = .agg #[.int .i64 r'.name, r'.safe, r'.fresh] ∧ r'.name = b.name ∧ InL w' w.heap.size r'.safe b.safe ∧ InL w' w.heap.size r'.fresh b.fresh ∧ Below w.heap.size w w') := by
  refine calls_start 12 Try.func51 rfl rfl rfl ?_
  have hs := h.safe
  have hf := h.fresh
  repeat' (first
    | (apply isL
       first
         | apply L_nil
         | refine L_move rfl rfl ?_
         | (apply isGuarded
            first
              | refine L_guard_dec rfl rfl (fun hg => ?_) (fun hg => ?_)
              | refine L_guard_yes rfl rfl ?_
              | refine L_guard_no rfl rfl rfl rfl ?_
              | refine L_guard_undef rfl rfl rfl ?_
              | refine L_guard_split rfl rfl (fun hg => ?_) (fun hg => ?_))
         | (apply isCall
            first
              | refine L_lenL rfl (by (first | assumption | exact RdL.ext (by assumption) (by (repeat (first | assumption | refine below_step ?_ (by assumption))); first | done | fail) | exact OwL.rd (by assumption))) rfl (fun hlen => ?_)
              | refine L_do rfl rfl rfl (do_lenStr rfl) ?_
              | (refine L_call rfl rfl (c_Clone_int (hs.ext (by (repeat (first | assumption | exact Below.refl _ _ | refine below_step ?_ (by assumption))); first | done | fail)) hs1) (fun v4 w4 hR => ?_); obtain ⟨hI4, hB4⟩ := hR; obtain ⟨a4, c4, rfl, _, _⟩ := hI4.rd.slice; have hz4 := hB4.size; have hv4 : w4.heap[w1.heap.size]? = _ := (hB4.block _ (by omega)).trans hv3)
              | (refine L_call rfl rfl (c_Clone_int (hf.ext (by (repeat (first | assumption | exact Below.refl _ _ | refine below_step ?_ (by assumption))); first | done | fail)) hs2) (fun v5 w5 hR => ?_); obtain ⟨hI5, hB5⟩ := hR; obtain ⟨a5, c5, rfl, _, _⟩ := hI5.rd.slice; have hz5 := hB5.size; have hv5 : w5.heap[w1.heap.size]? = _ := (hB5.block _ (by omega)).trans hv4)
              )
         | (apply isBin
            first
              | refine L_do rfl rfl rfl (do_cmp rfl rfl rfl) ?_
              | refine L_do rfl rfl rfl (do_cmpStr rfl rfl rfl) ?_
              | refine L_do rfl rfl rfl (do_add rfl rfl (by omega)) ?_
              | refine L_do rfl rfl rfl (do_sub rfl rfl (by omega)) ?_
              | refine L_do rfl rfl rfl (do_eqBool TBool.und rfl rfl) ?_
              | refine L_do rfl rfl rfl (do_neBool TBool.und rfl rfl) ?_
              )
         | (apply isLoad
            first
              | refine L_loadPt rfl (by rfl) (by (first | assumption | exact Pt.ext (by assumption) (by (repeat (first | assumption | refine below_step ?_ (by assumption))); first | done | fail))) (by rfl) rfl ?_
              | refine L_loadPt0 rfl (by (first | assumption | exact Pt.ext (by assumption) (by (repeat (first | assumption | refine below_step ?_ (by assumption))); first | done | fail))) (by rfl) rfl ?_
              | refine L_loadAgg rfl (by (first | assumption | exact Pt.ext (by assumption) (by (repeat (first | assumption | refine below_step ?_ (by assumption))); first | done | fail))) (by rfl) rfl ?_)
         | refine L_assign rfl rfl ?_
         | refine L_do rfl rfl rfl (do_pick_true rfl rfl) ?_
         | refine L_do rfl rfl rfl (do_pick_false rfl rfl) ?_
         | refine L_do rfl rfl rfl (do_notDec rfl) ?_
         | refine L_do rfl rfl rfl (do_not rfl) ?_
         | refine L_do rfl rfl rfl (do_extract rfl rfl) ?_
         | refine L_do rfl rfl rfl (do_fieldAddr rfl) ?_
         | (apply isAlloc; refine L_allocV (w0 := w) (by (repeat (first | assumption | exact Below.refl _ _ | refine below_step ?_ (by assumption))); first | done | fail) rfl (fun w2 hz2 hB2 hB2' hv2 => ?_))
         | refine L_do rfl rfl rfl (do_buildS rfl (by kernel_rfl)) ?_
         | (apply isStore; refine L_storeAt (b := w1.heap.size) (off := 0) rfl rfl (cs := [.int .i64 r.name, .slice a4 b.safe.length c4, .slice a5 b.fresh.length c5]) rfl rfl (by simp [Value.oneCell']) hv5 (Nat.le_of_ble_eq_true rfl) rfl (fun w6 hv6 hg6 hz6 => ?_))
         | refine L_indexL rfl rfl (by (first | assumption | exact RdL.ext (by assumption) (by (repeat (first | assumption | refine below_step ?_ (by assumption))); first | done | fail) | exact OwL.rd (by assumption))) (by rfl) (by omega) (by omega) rfl (fun a y hy hab hp => ?_)
         | (apply isBox; refine L_boxV (w0 := w) (by (repeat (first | assumption | exact Below.refl _ _ | refine below_step ?_ (by assumption))); first | done | fail) rfl rfl (fun w1 hz1 hB hB1 hv => ?_); have hp := pt_of_block hv)
         | (apply isAllocStore; refine L_allocStoreV (w0 := w) (by (repeat (first | assumption | exact Below.refl _ _ | refine below_step ?_ (by assumption))); first | done | fail) rfl rfl rfl rfl ?_ rfl (fun w1 hz1 hB hB1 hv => ?_); (focus (first | exact Ty.one _ _ | simp [Value.oneCell'])); have hp := pt_of_block hv)
         )
    | (apply isLQ
       first
         | refine LQ_nil (fun w1 hBq => ?_)
         | apply LQ_mix
         | refine LQ_move rfl rfl ?_
         | (apply isGuardedQ
            first
              | refine LQ_guard_dec rfl rfl (fun hg => ?_) (fun hg => ?_)
              | refine LQ_guard_yes rfl rfl ?_
              | refine LQ_guard_no rfl rfl rfl rfl ?_
              | refine LQ_guard_undef rfl rfl rfl ?_
              | refine LQ_guard_split rfl rfl (fun hg => ?_) (fun hg => ?_))
         | (apply isCallQ
            first
              | refine LQ_lenL rfl (by (first | assumption | exact RdL.ext (by assumption) (by (repeat (first | assumption | refine below_step ?_ (by assumption))); first | done | fail) | exact OwL.rd (by assumption))) rfl (fun hlen => ?_)
              | refine LQ_do rfl rfl rfl (fun _ _ => do_lenStr rfl) ?_
              )
         | (apply isBinQ
            first
              | refine LQ_do rfl rfl rfl (fun _ _ => do_cmp rfl rfl rfl) ?_
              | refine LQ_do rfl rfl rfl (fun _ _ => do_cmpStr rfl rfl rfl) ?_
              | refine LQ_do rfl rfl rfl (fun _ _ => do_add rfl rfl (by omega)) ?_
              | refine LQ_do rfl rfl rfl (fun _ _ => do_sub rfl rfl (by omega)) ?_
              | refine LQ_do rfl rfl rfl (fun _ _ => do_eqBool TBool.und rfl rfl) ?_
              | refine LQ_do rfl rfl rfl (fun _ _ => do_neBool TBool.und rfl rfl) ?_
              )
         | (apply isLoadQ
            first
              | refine LQ_loadPt rfl (by rfl) (by (first | assumption | exact Pt.ext (by assumption) (by (repeat (first | assumption | refine below_step ?_ (by assumption))); first | done | fail))) (by rfl) rfl ?_
              | refine LQ_loadPt0 rfl (by (first | assumption | exact Pt.ext (by assumption) (by (repeat (first | assumption | refine below_step ?_ (by assumption))); first | done | fail))) (by rfl) rfl ?_
              | refine LQ_loadAgg rfl (by (first | assumption | exact Pt.ext (by assumption) (by (repeat (first | assumption | refine below_step ?_ (by assumption))); first | done | fail))) (by rfl) rfl ?_
              | refine RLQ_loadPt rfl (by rfl) (by (first | assumption | exact Pt.ext (by assumption) (by (repeat (first | assumption | refine below_step ?_ (by assumption))); first | done | fail))) (by rfl) (by first | assumption | (intro e; simp_all; done)) rfl ?_
              | refine RLQ_loadPt0 rfl (by (first | assumption | exact Pt.ext (by assumption) (by (repeat (first | assumption | refine below_step ?_ (by assumption))); first | done | fail))) (by rfl) (by first | assumption | (intro e; simp_all; done)) rfl ?_
              | refine RLQ_loadAgg rfl (by (first | assumption | exact Pt.ext (by assumption) (by (repeat (first | assumption | refine below_step ?_ (by assumption))); first | done | fail))) (by rfl) (by first | assumption | (intro e; simp_all; done)) rfl ?_)
         | refine LQ_assign rfl rfl ?_
         | refine LQ_do rfl rfl rfl (fun _ _ => do_pick_true rfl rfl) ?_
         | refine LQ_do rfl rfl rfl (fun _ _ => do_pick_false rfl rfl) ?_
         | refine LQ_do rfl rfl rfl (fun _ _ => do_notDec rfl) ?_
         | refine LQ_do rfl rfl rfl (fun _ _ => do_not rfl) ?_
         | refine LQ_do rfl rfl rfl (fun _ _ => do_extract rfl rfl) ?_
         | refine LQ_do rfl rfl rfl (fun _ _ => do_fieldAddr rfl) ?_
         | refine LQ_do rfl rfl rfl (fun _ _ => do_buildS rfl (by kernel_rfl)) ?_
         | refine LQ_indexL rfl rfl (by (first | assumption | exact RdL.ext (by assumption) (by (repeat (first | assumption | refine below_step ?_ (by assumption))); first | done | fail) | exact OwL.rd (by assumption))) (by rfl) (by omega) (by omega) rfl (fun a y hy hab hp => ?_))
    | (apply isW
       first
         | apply W_seq
         | apply W_region
         | (refine W_region_R (id := 1) (some w1.heap.size) (.look 0 (.look 1 (.look 2 (.look 3 (.look 5 (.look 6 (.act 4 (.act 7 (.look 8 (.act 9 .done)))))))))) mixed (by kernel_rfl) (by kernel_rfl) (by rintro _ _ _ _ _ ⟨_, _, hh, _⟩; cases hh) (fun w3 hBm hBm' hzm => ?_); have hv3 : w3.heap[w1.heap.size]? = _ := (hBm'.block _ (by omega)).trans hv2)
         | refine W_region_Q mixed (by kernel_rfl) ?_
         | refine W_cond_dec rfl (fun hg => ?_) (fun hg => ?_)
         | refine W_cond_true rfl ?_
         | refine W_cond_false rfl ?_
         | refine W_cond rfl (fun hg => ?_) (fun hg => ?_)
         | apply W_skip
         | apply W_ret
         | apply W_exit
         | apply W_block)
    | (apply isLM
       first
         | apply LM_nil
         | refine LM_look rfl rfl ?_
         | refine LM_act rfl ?_
         | refine LM_both rfl rfl ?_ ?_
         | refine LM_do rfl rfl rfl rfl (fun _ _ => do_nilCheck rfl) ?_)
    | (apply isAt
       first
         | apply At_then
         | apply At_then_ret
         | apply At_then_exit
         | apply At_block_normal
         | apply At_block_ret
         | apply At_block_hit
         | refine At_block_miss rfl ?_
         | refine At_end1 rfl rfl ?_
         | refine At_end1n rfl rfl ?_
         | refine At_end2 rfl rfl rfl ?_
         | refine At_mix (by (repeat (first | assumption | exact Below.refl _ _ | refine below_step ?_ (by assumption) | exact World.grownBy.refl _ _ | refine kp_below ?_ (by assumption) | refine kp_row ?_ (by assumption))); first | done | fail) ?_))
  refine At_endCell rfl rfl hv6 rfl ⟨⟨r.name, .slice a4 b.safe.length c4, .slice a5 b.fresh.length c5, rfl, rfl⟩, rfl, h.name, ?_, ?_, ?_⟩
  · exact (((hI4.ext hB5).kept hg6 (·.ne_ (by omega))).rebase (by omega))
  · exact ((hI5.kept hg6 (·.ne_ (by omega))).rebase (by omega))
  · exact below_grow0 (below_step (below_step (below_step hB2 hBm') hB4) hB5) hg6 (fun k hk => by cases hk; omega)

theorem c_cloneDisk {v : Value} {rows : List Row3} {bs : List Bl} {w : World} (h : RdBl w v rows bs) (hsm : Small bs) :
    Cl Try.prog 41 [v] w (fun u w' => ∃ rows', OwBl w' w.heap.size u rows' bs ∧ Below w.heap.size w w') := by
  refine calls_start 19 Try.func41 rfl rfl rfl ?_
  have hrd := h.rd
  have hln := h.len
  have hsz := hsm.1
  repeat' (first
    | (apply isL
       first
         | apply L_nil
         | refine L_move rfl rfl ?_
         | (apply isGuarded
            first
              | refine L_guard_dec rfl rfl (fun hg => ?_) (fun hg => ?_)
              | refine L_guard_yes rfl rfl ?_
              | refine L_guard_no rfl rfl rfl rfl ?_
              | refine L_guard_undef rfl rfl rfl ?_
              | refine L_guard_split rfl rfl (fun hg => ?_) (fun hg => ?_))
         | (apply isCall
            first
              | refine L_lenL rfl (by (first | assumption | exact RdL.ext (by assumption) (by (repeat (first | assumption | refine below_step ?_ (by assumption))); first | done | fail) | exact OwL.rd (by assumption))) rfl (fun hlen => ?_)
              | refine L_do rfl rfl rfl (do_lenStr rfl) ?_
              )
         | (apply isBin
            first
              | refine L_do rfl rfl rfl (do_cmp rfl rfl rfl) ?_
              | refine L_do rfl rfl rfl (do_cmpStr rfl rfl rfl) ?_
              | refine L_do rfl rfl rfl (do_add rfl rfl (by omega)) ?_
              | refine L_do rfl rfl rfl (do_sub rfl rfl (by omega)) ?_
              | refine L_do rfl rfl rfl (do_eqBool TBool.und rfl rfl) ?_
              | refine L_do rfl rfl rfl (do_neBool TBool.und rfl rfl) ?_
              )
         | (apply isLoad
            first
              | refine L_loadPt rfl (by rfl) (by (first | assumption | exact Pt.ext (by assumption) (by (repeat (first | assumption | refine below_step ?_ (by assumption))); first | done | fail))) (by rfl) rfl ?_
              | refine L_loadPt0 rfl (by (first | assumption | exact Pt.ext (by assumption) (by (repeat (first | assumption | refine below_step ?_ (by assumption))); first | done | fail))) (by rfl) rfl ?_
              | refine L_loadAgg rfl (by (first | assumption | exact Pt.ext (by assumption) (by (repeat (first | assumption | refine below_step ?_ (by assumption))); first | done | fail))) (by rfl) rfl ?_)
         | refine L_assign rfl rfl ?_
         | refine L_do rfl rfl rfl (do_pick_true rfl rfl) ?_
         | refine L_do rfl rfl rfl (do_pick_false rfl rfl) ?_
         | refine L_do rfl rfl rfl (do_notDec rfl) ?_
         | refine L_do rfl rfl rfl (do_not rfl) ?_
         | refine L_do rfl rfl rfl (do_extract rfl rfl) ?_
         | refine L_do rfl rfl rfl (do_fieldAddr rfl) ?_
         | refine L_indexL rfl rfl (by (first | assumption | exact RdL.ext (by assumption) (by (repeat (first | assumption | refine below_step ?_ (by assumption))); first | done | fail) | exact OwL.rd (by assumption))) (by rfl) (by omega) (by omega) rfl (fun a y hy hab hp => ?_)
         | (apply isBox; refine L_boxV (w0 := w) (by (repeat (first | assumption | exact Below.refl _ _ | refine below_step ?_ (by assumption))); first | done | fail) rfl rfl (fun w1 hz1 hB hB1 hv => ?_); have hp := pt_of_block hv)
         | (apply isAllocStore; refine L_allocStoreV (w0 := w) (by (repeat (first | assumption | exact Below.refl _ _ | refine below_step ?_ (by assumption))); first | done | fail) rfl rfl rfl rfl ?_ rfl (fun w1 hz1 hB hB1 hv => ?_); (focus (first | exact Ty.one _ _ | simp [Value.oneCell'])); have hp := pt_of_block hv)
         )
    | (apply isLQ
       first
         | refine LQ_nil (fun w1 hBq => ?_)
         | apply LQ_mix
         | refine LQ_move rfl rfl ?_
         | (apply isGuardedQ
            first
              | refine LQ_guard_dec rfl rfl (fun hg => ?_) (fun hg => ?_)
              | refine LQ_guard_yes rfl rfl ?_
              | refine LQ_guard_no rfl rfl rfl rfl ?_
              | refine LQ_guard_undef rfl rfl rfl ?_
              | refine LQ_guard_split rfl rfl (fun hg => ?_) (fun hg => ?_))
         | (apply isCallQ
            first
              | refine LQ_lenL rfl (by (first | assumption | exact RdL.ext (by assumption) (by (repeat (first | assumption | refine below_step ?_ (by assumption))); first | done | fail) | exact OwL.rd (by assumption))) rfl (fun hlen => ?_)
              | refine LQ_do rfl rfl rfl (fun _ _ => do_lenStr rfl) ?_
              )
         | (apply isBinQ
            first
              | refine LQ_do rfl rfl rfl (fun _ _ => do_cmp rfl rfl rfl) ?_
              | refine LQ_do rfl rfl rfl (fun _ _ => do_cmpStr rfl rfl rfl) ?_
              | refine LQ_do rfl rfl rfl (fun _ _ => do_add rfl rfl (by omega)) ?_
              | refine LQ_do rfl rfl rfl (fun _ _ => do_sub rfl rfl (by omega)) ?_
              | refine LQ_do rfl rfl rfl (fun _ _ => do_eqBool TBool.und rfl rfl) ?_
              | refine LQ_do rfl rfl rfl (fun _ _ => do_neBool TBool.und rfl rfl) ?_
              )
         | (apply isLoadQ
            first
              | refine LQ_loadPt rfl (by rfl) (by (first | assumption | exact Pt.ext (by assumption) (by (repeat (first | assumption | refine below_step ?_ (by assumption))); first | done | fail))) (by rfl) rfl ?_
              | refine LQ_loadPt0 rfl (by (first | assumption | exact Pt.ext (by assumption) (by (repeat (first | assumption | refine below_step ?_ (by assumption))); first | done | fail))) (by rfl) rfl ?_
              | refine LQ_loadAgg rfl (by (first | assumption | exact Pt.ext (by assumption) (by (repeat (first | assumption | refine below_step ?_ (by assumption))); first | done | fail))) (by rfl) rfl ?_
              | refine RLQ_loadPt rfl (by rfl) (by (first | assumption | exact Pt.ext (by assumption) (by (repeat (first | assumption | refine below_step ?_ (by assumption))); first | done | fail))) (by rfl) (by first | assumption | (intro e; simp_all; done)) rfl ?_
              | refine RLQ_loadPt0 rfl (by (first | assumption | exact Pt.ext (by assumption) (by (repeat (first | assumption | refine below_step ?_ (by assumption))); first | done | fail))) (by rfl) (by first | assumption | (intro e; simp_all; done)) rfl ?_
              | refine RLQ_loadAgg rfl (by (first | assumption | exact Pt.ext (by assumption) (by (repeat (first | assumption | refine below_step ?_ (by assumption))); first | done | fail))) (by rfl) (by first | assumption | (intro e; simp_all; done)) rfl ?_)
         | refine LQ_assign rfl rfl ?_
         | refine LQ_do rfl rfl rfl (fun _ _ => do_pick_true rfl rfl) ?_
         | refine LQ_do rfl rfl rfl (fun _ _ => do_pick_false rfl rfl) ?_
         | refine LQ_do rfl rfl rfl (fun _ _ => do_notDec rfl) ?_
         | refine LQ_do rfl rfl rfl (fun _ _ => do_not rfl) ?_
         | refine LQ_do rfl rfl rfl (fun _ _ => do_extract rfl rfl) ?_
         | refine LQ_do rfl rfl rfl (fun _ _ => do_fieldAddr rfl) ?_
         | refine LQ_do rfl rfl rfl (fun _ _ => do_buildS rfl (by kernel_rfl)) ?_
         | refine LQ_indexL rfl rfl (by (first | assumption | exact RdL.ext (by assumption) (by (repeat (first | assumption | refine below_step ?_ (by assumption))); first | done | fail) | exact OwL.rd (by assumption))) (by rfl) (by omega) (by omega) rfl (fun a y hy hab hp => ?_))
    | (apply isW
       first
         | apply W_seq
         | apply W_region
         | refine W_region_Q mixed (by kernel_rfl) ?_
         | refine W_cond_dec rfl (fun hg => ?_) (fun hg => ?_)
         | refine W_cond_true rfl ?_
         | refine W_cond_false rfl ?_
         | refine W_cond rfl (fun hg => ?_) (fun hg => ?_)
         | apply W_skip
         | apply W_ret
         | apply W_exit
         | apply W_block)
    | (apply isLM
       first
         | apply LM_nil
         | refine LM_look rfl rfl ?_
         | refine LM_act rfl ?_
         | refine LM_both rfl rfl ?_ ?_
         | refine LM_do rfl rfl rfl rfl (fun _ _ => do_nilCheck rfl) ?_)
    | (apply isAt
       first
         | apply At_then
         | apply At_then_ret
         | apply At_then_exit
         | apply At_block_normal
         | apply At_block_ret
         | apply At_block_hit
         | refine At_block_miss rfl ?_
         | refine At_end1 rfl rfl ?_
         | refine At_end1n rfl rfl ?_
         | refine At_end2 rfl rfl rfl ?_
         | refine At_mix (by (repeat (first | assumption | exact Below.refl _ _ | refine below_step ?_ (by assumption) | exact World.grownBy.refl _ _ | refine kp_below ?_ (by assumption) | refine kp_row ?_ (by assumption))); first | done | fail) ?_))
  refine W_loopF (fun m fr w' => ∃ (k : Nat) (u : Value) (out : List Row3), m = rows.length - k ∧ k ≤ rows.length ∧ fr = [(3, u), (6, v), (7, .int .i64 rows.length), (8, .int .i64 k)] ∧ Below w.heap.size w w' ∧ OwBl w' w.heap.size u out (bs.take k)) rows.length
    [(3, .slice none 0 0), (6, v), (7, .int .i64 rows.length), (8, .int .i64 0)] (by repeat (first | exact get_nil_slots _ | refine get_cons_slots rfl ?_)) ⟨0, _, [], rfl, Nat.zero_le _, rfl, (by (repeat (first | assumption | exact Below.refl _ _ | refine below_step ?_ (by assumption))); first | done | fail), ⟨⟨by simp, .inl ⟨rfl, rfl⟩⟩, rfl, fun i r hr => by simp at hr⟩⟩ ?_
  rintro _ _ w' ⟨k, u, out, rfl, hk, rfl, hB, hO⟩
  have hol := hO.len
  rw [List.length_take] at hol
  have hz0 := hB.size
  repeat' (first
    | (apply isL
       first
         | apply L_nil
         | refine L_move rfl rfl ?_
         | (apply isGuarded
            first
              | refine L_guard_dec rfl rfl (fun hg => ?_) (fun hg => ?_)
              | refine L_guard_yes rfl rfl ?_
              | refine L_guard_no rfl rfl rfl rfl ?_
              | refine L_guard_undef rfl rfl rfl ?_
              | refine L_guard_split rfl rfl (fun hg => ?_) (fun hg => ?_))
         | (apply isCall
            first
              | refine L_lenL rfl (by (first | assumption | exact RdL.ext (by assumption) (by (repeat (first | assumption | refine below_step ?_ (by assumption))); first | done | fail) | exact OwL.rd (by assumption))) rfl (fun hlen => ?_)
              | refine L_do rfl rfl rfl (do_lenStr rfl) ?_
              | (obtain ⟨b, hb0, hbr⟩ := h.at_ _ _ hy; have hb : bs[k]? = some b := hb0; have hbs := hsm.2 b (List.mem_of_getElem? hb); refine L_call rfl rfl (c_blobClone (hbr.ext (by (repeat (first | assumption | exact Below.refl _ _ | refine below_step ?_ (by assumption))); first | done | fail)) hbs.1 hbs.2) (fun _ w2 hR => ?_); obtain ⟨r', rfl, hn2, hs2, hf2, hB2⟩ := hR; have hz2 := hB2.size; have hz1' := hB1.size)
              | (have hO3' := (hO.ext (below_step hB1 (below_step hB2 hB3))); refine L_append (w0 := w) rfl rfl (by (repeat (first | assumption | exact Below.refl _ _ | refine below_step ?_ (by assumption))); first | done | fail) hO3'.own hO3.rd rfl (by simp; omega) (by simp; omega) rfl (fun v4 w4 hO4 hB4 hg4 => ?_))
              )
         | (apply isBin
            first
              | refine L_do rfl rfl rfl (do_cmp rfl rfl rfl) ?_
              | refine L_do rfl rfl rfl (do_cmpStr rfl rfl rfl) ?_
              | refine L_do rfl rfl rfl (do_add rfl rfl (by omega)) ?_
              | refine L_do rfl rfl rfl (do_sub rfl rfl (by omega)) ?_
              | refine L_do rfl rfl rfl (do_eqBool TBool.und rfl rfl) ?_
              | refine L_do rfl rfl rfl (do_neBool TBool.und rfl rfl) ?_
              )
         | (apply isLoad
            first
              | refine L_loadPt rfl (by rfl) (by (first | assumption | exact Pt.ext (by assumption) (by (repeat (first | assumption | refine below_step ?_ (by assumption))); first | done | fail))) (by rfl) rfl ?_
              | refine L_loadPt0 rfl (by (first | assumption | exact Pt.ext (by assumption) (by (repeat (first | assumption | refine below_step ?_ (by assumption))); first | done | fail))) (by rfl) rfl ?_
              | refine L_loadAgg rfl (by (first | assumption | exact Pt.ext (by assumption) (by (repeat (first | assumption | refine below_step ?_ (by assumption))); first | done | fail))) (by rfl) rfl ?_)
         | refine L_assign rfl rfl ?_
         | refine L_do rfl rfl rfl (do_pick_true rfl rfl) ?_
         | refine L_do rfl rfl rfl (do_pick_false rfl rfl) ?_
         | refine L_do rfl rfl rfl (do_notDec rfl) ?_
         | refine L_do rfl rfl rfl (do_not rfl) ?_
         | refine L_do rfl rfl rfl (do_extract rfl rfl) ?_
         | refine L_do rfl rfl rfl (do_fieldAddr rfl) ?_
         | refine L_buildSliceKG tRow3 [r'] w2.heap.size (Nat.le_refl _) rfl rfl rfl rfl rfl (by exact fillR _ _ _) rfl rfl (fun w3 hO3 hB3 => ?_)
         | refine L_indexL rfl rfl (by (first | assumption | exact RdL.ext (by assumption) (by (repeat (first | assumption | refine below_step ?_ (by assumption))); first | done | fail) | exact OwL.rd (by assumption))) (by rfl) (by omega) (by omega) rfl (fun a y hy hab hp => ?_)
         | (apply isBox; refine L_boxV (w0 := w) (by (repeat (first | assumption | exact Below.refl _ _ | refine below_step ?_ (by assumption))); first | done | fail) rfl rfl (fun w1 hz1 hB hB1 hv => ?_); have hp := pt_of_block hv)
         | (apply isAllocStore; refine L_allocStoreV (w0 := w) (by (repeat (first | assumption | exact Below.refl _ _ | refine below_step ?_ (by assumption))); first | done | fail) rfl rfl rfl rfl ?_ rfl (fun w1 hz1 hB hB1 hv => ?_); (focus (first | exact Ty.one _ _ | simp [Value.oneCell'])); have hp := pt_of_block hv)
         )
    | (apply isLQ
       first
         | refine LQ_nil (fun w1 hBq => ?_)
         | apply LQ_mix
         | refine LQ_move rfl rfl ?_
         | (apply isGuardedQ
            first
              | refine LQ_guard_dec rfl rfl (fun hg => ?_) (fun hg => ?_)
              | refine LQ_guard_yes rfl rfl ?_
              | refine LQ_guard_no rfl rfl rfl rfl ?_
              | refine LQ_guard_undef rfl rfl rfl ?_
              | refine LQ_guard_split rfl rfl (fun hg => ?_) (fun hg => ?_))
         | (apply isCallQ
            first
              | refine LQ_lenL rfl (by (first | assumption | exact RdL.ext (by assumption) (by (repeat (first | assumption | refine below_step ?_ (by assumption))); first | done | fail) | exact OwL.rd (by assumption))) rfl (fun hlen => ?_)
              | refine LQ_do rfl rfl rfl (fun _ _ => do_lenStr rfl) ?_
              )
         | (apply isBinQ
            first
              | refine LQ_do rfl rfl rfl (fun _ _ => do_cmp rfl rfl rfl) ?_
              | refine LQ_do rfl rfl rfl (fun _ _ => do_cmpStr rfl rfl rfl) ?_
              | refine LQ_do rfl rfl rfl (fun _ _ => do_add rfl rfl (by omega)) ?_
              | refine LQ_do rfl rfl rfl (fun _ _ => do_sub rfl rfl (by omega)) ?_
              | refine LQ_do rfl rfl rfl (fun _ _ => do_eqBool TBool.und rfl rfl) ?_
              | refine LQ_do rfl rfl rfl (fun _ _ => do_neBool TBool.und rfl rfl) ?_
              )
         | (apply isLoadQ
            first
              | refine LQ_loadPt rfl (by rfl) (by (first | assumption | exact Pt.ext (by assumption) (by (repeat (first | assumption | refine below_step ?_ (by assumption))); first | done | fail))) (by rfl) rfl ?_
              | refine LQ_loadPt0 rfl (by (first | assumption | exact Pt.ext (by assumption) (by (repeat (first | assumption | refine below_step ?_ (by assumption))); first | done | fail))) (by rfl) rfl ?_
              | refine LQ_loadAgg rfl (by (first | assumption | exact Pt.ext (by assumption) (by (repeat (first | assumption | refine below_step ?_ (by assumption))); first | done | fail))) (by rfl) rfl ?_
              | refine RLQ_loadPt rfl (by rfl) (by (first | assumption | exact Pt.ext (by assumption) (by (repeat (first | assumption | refine below_step ?_ (by assumption))); first | done | fail))) (by rfl) (by first | assumption | (intro e; simp_all; done)) rfl ?_
              | refine RLQ_loadPt0 rfl (by (first | assumption | exact Pt.ext (by assumption) (by (repeat (first | assumption | refine below_step ?_ (by assumption))); first | done | fail))) (by rfl) (by first | assumption | (intro e; simp_all; done)) rfl ?_
              | refine RLQ_loadAgg rfl (by (first | assumption | exact Pt.ext (by assumption) (by (repeat (first | assumption | refine below_step ?_ (by assumption))); first | done | fail))) (by rfl) (by first | assumption | (intro e; simp_all; done)) rfl ?_)
         | refine LQ_assign rfl rfl ?_
         | refine LQ_do rfl rfl rfl (fun _ _ => do_pick_true rfl rfl) ?_
         | refine LQ_do rfl rfl rfl (fun _ _ => do_pick_false rfl rfl) ?_
         | refine LQ_do rfl rfl rfl (fun _ _ => do_notDec rfl) ?_
         | refine LQ_do rfl rfl rfl (fun _ _ => do_not rfl) ?_
         | refine LQ_do rfl rfl rfl (fun _ _ => do_extract rfl rfl) ?_
         | refine LQ_do rfl rfl rfl (fun _ _ => do_fieldAddr rfl) ?_
         | refine LQ_do rfl rfl rfl (fun _ _ => do_buildS rfl (by kernel_rfl)) ?_
         | refine LQ_indexL rfl rfl (by (first | assumption | exact RdL.ext (by assumption) (by (repeat (first | assumption | refine below_step ?_ (by assumption))); first | done | fail) | exact OwL.rd (by assumption))) (by rfl) (by omega) (by omega) rfl (fun a y hy hab hp => ?_))
    | (apply isW
       first
         | apply W_seq
         | apply W_region
         | refine W_region_Q mixed (by kernel_rfl) ?_
         | refine W_cond_dec rfl (fun hg => ?_) (fun hg => ?_)
         | refine W_cond_true rfl ?_
         | refine W_cond_false rfl ?_
         | refine W_cond rfl (fun hg => ?_) (fun hg => ?_)
         | apply W_skip
         | apply W_ret
         | apply W_exit
         | apply W_block)
    | (apply isLM
       first
         | apply LM_nil
         | refine LM_look rfl rfl ?_
         | refine LM_act rfl ?_
         | refine LM_both rfl rfl ?_ ?_
         | refine LM_do rfl rfl rfl rfl (fun _ _ => do_nilCheck rfl) ?_)
    | (apply isAt
       first
         | apply At_then
         | apply At_then_ret
         | apply At_then_exit
         | apply At_block_normal
         | apply At_block_ret
         | apply At_block_hit
         | refine At_block_miss rfl ?_
         | refine At_end1 rfl rfl ?_
         | refine At_end1n rfl rfl ?_
         | refine At_end2 rfl rfl rfl ?_
         | refine At_mix (by (repeat (first | assumption | exact Below.refl _ _ | refine below_step ?_ (by assumption) | exact World.grownBy.refl _ _ | refine kp_below ?_ (by assumption) | refine kp_row ?_ (by assumption))); first | done | fail) ?_))
  · refine At_round _ [(3, v4), (6, v), (7, .int .i64 rows.length), (8, .int .i64 ((k + 1 : Nat) : Int))] (by repeat (first | exact get_nil_slots _ | refine get_cons_slots rfl ?_)) (by omega) ⟨k + 1, v4, out ++ [r'], rfl, by omega, rfl, hB4, ?_⟩
    rw [List.take_add_one, hb]
    exact OwBl.app hO3' hg4 hO4 hn2 ((hs2.ext hB3).rebase (by omega)) ((hf2.ext hB3).rebase (by omega))
  · rw [List.take_of_length_le (by omega)] at hO
    exact ⟨_, hO, hB⟩

/-! ### The crash -/
def keepOk (n : Int) : Bool := decide (0 ≤ n ∧ n ≤ 400)
def kOf (keep : List Int) (b : Bl) : Int := if b.name ≤ keep.length then min (keep.getD (b.name - 1).toNat 0) b.fresh.length else 0
def crashBl (keep : List Int) (b : Bl) : Bl := ⟨b.name, b.safe ++ b.fresh.take (kOf keep b).toNat, []⟩
def crashOk (bs : List Bl) (keep : List Int) : Bool := diskOk bs && decide (keep.length ≤ 3) && keep.all keepOk
def crash (bs : List Bl) (keep : List Int) : List Bl := if crashOk bs keep then bs.map (crashBl keep) else []

theorem c_DiskCrash1 {n : Int} {w : World} : Cl Try.prog 40 [.int .i64 n] w (V w (.bool (!keepOk n))) := by
  refine calls_start 6 Try.func40 rfl rfl rfl ?_
  repeat' (first
    | (apply isL
       first
         | apply L_nil
         | refine L_move rfl rfl ?_
         | (apply isGuarded
            first
              | refine L_guard_dec rfl rfl (fun hg => ?_) (fun hg => ?_)
              | refine L_guard_yes rfl rfl ?_
              | refine L_guard_no rfl rfl rfl rfl ?_
              | refine L_guard_undef rfl rfl rfl ?_
              | refine L_guard_split rfl rfl (fun hg => ?_) (fun hg => ?_))
         | (apply isCall
            first
              | refine L_lenL rfl (by (first | assumption | exact RdL.ext (by assumption) (by (repeat (first | assumption | refine below_step ?_ (by assumption))); first | done | fail) | exact OwL.rd (by assumption))) rfl (fun hlen => ?_)
              | refine L_do rfl rfl rfl (do_lenStr rfl) ?_
              | refine L_callV rfl rfl c_in (fun w2 hB2 => ?_)
              )
         | (apply isBin
            first
              | refine L_do rfl rfl rfl (do_cmp rfl rfl rfl) ?_
              | refine L_do rfl rfl rfl (do_cmpStr rfl rfl rfl) ?_
              | refine L_do rfl rfl rfl (do_add rfl rfl (by omega)) ?_
              | refine L_do rfl rfl rfl (do_sub rfl rfl (by omega)) ?_
              | refine L_do rfl rfl rfl (do_eqBool TBool.und rfl rfl) ?_
              | refine L_do rfl rfl rfl (do_neBool TBool.und rfl rfl) ?_
              )
         | (apply isLoad
            first
              | refine L_loadPt rfl (by rfl) (by (first | assumption | exact Pt.ext (by assumption) (by (repeat (first | assumption | refine below_step ?_ (by assumption))); first | done | fail))) (by rfl) rfl ?_
              | refine L_loadPt0 rfl (by (first | assumption | exact Pt.ext (by assumption) (by (repeat (first | assumption | refine below_step ?_ (by assumption))); first | done | fail))) (by rfl) rfl ?_
              | refine L_loadAgg rfl (by (first | assumption | exact Pt.ext (by assumption) (by (repeat (first | assumption | refine below_step ?_ (by assumption))); first | done | fail))) (by rfl) rfl ?_)
         | refine L_assign rfl rfl ?_
         | refine L_do rfl rfl rfl (do_pick_true rfl rfl) ?_
         | refine L_do rfl rfl rfl (do_pick_false rfl rfl) ?_
         | refine L_do rfl rfl rfl (do_notDec rfl) ?_
         | refine L_do rfl rfl rfl (do_not rfl) ?_
         | refine L_do rfl rfl rfl (do_extract rfl rfl) ?_
         | refine L_do rfl rfl rfl (do_fieldAddr rfl) ?_
         | refine L_indexL rfl rfl (by (first | assumption | exact RdL.ext (by assumption) (by (repeat (first | assumption | refine below_step ?_ (by assumption))); first | done | fail) | exact OwL.rd (by assumption))) (by rfl) (by omega) (by omega) rfl (fun a y hy hab hp => ?_)
         | (apply isBox; refine L_boxV (w0 := w) (by (repeat (first | assumption | exact Below.refl _ _ | refine below_step ?_ (by assumption))); first | done | fail) rfl rfl (fun w1 hz1 hB hB1 hv => ?_); have hp := pt_of_block hv)
         | (apply isAllocStore; refine L_allocStoreV (w0 := w) (by (repeat (first | assumption | exact Below.refl _ _ | refine below_step ?_ (by assumption))); first | done | fail) rfl rfl rfl rfl ?_ rfl (fun w1 hz1 hB hB1 hv => ?_); (focus (first | exact Ty.one _ _ | simp [Value.oneCell'])); have hp := pt_of_block hv)
         )
    | (apply isLQ
       first
         | refine LQ_nil (fun w1 hBq => ?_)
         | apply LQ_mix
         | refine LQ_move rfl rfl ?_
         | (apply isGuardedQ
            first
              | refine LQ_guard_dec rfl rfl (fun hg => ?_) (fun hg => ?_)
              | refine LQ_guard_yes rfl rfl ?_
              | refine LQ_guard_no rfl rfl rfl rfl ?_
              | refine LQ_guard_undef rfl rfl rfl ?_
              | refine LQ_guard_split rfl rfl (fun hg => ?_) (fun hg => ?_))
         | (apply isCallQ
            first
              | refine LQ_lenL rfl (by (first | assumption | exact RdL.ext (by assumption) (by (repeat (first | assumption | refine below_step ?_ (by assumption))); first | done | fail) | exact OwL.rd (by assumption))) rfl (fun hlen => ?_)
              | refine LQ_do rfl rfl rfl (fun _ _ => do_lenStr rfl) ?_
              )
         | (apply isBinQ
            first
              | refine LQ_do rfl rfl rfl (fun _ _ => do_cmp rfl rfl rfl) ?_
              | refine LQ_do rfl rfl rfl (fun _ _ => do_cmpStr rfl rfl rfl) ?_
              | refine LQ_do rfl rfl rfl (fun _ _ => do_add rfl rfl (by omega)) ?_
              | refine LQ_do rfl rfl rfl (fun _ _ => do_sub rfl rfl (by omega)) ?_
              | refine LQ_do rfl rfl rfl (fun _ _ => do_eqBool TBool.und rfl rfl) ?_
              | refine LQ_do rfl rfl rfl (fun _ _ => do_neBool TBool.und rfl rfl) ?_
              )
         | (apply isLoadQ
            first
              | refine LQ_loadPt rfl (by rfl) (by (first | assumption | exact Pt.ext (by assumption) (by (repeat (first | assumption | refine below_step ?_ (by assumption))); first | done | fail))) (by rfl) rfl ?_
              | refine LQ_loadPt0 rfl (by (first | assumption | exact Pt.ext (by assumption) (by (repeat (first | assumption | refine below_step ?_ (by assumption))); first | done | fail))) (by rfl) rfl ?_
              | refine LQ_loadAgg rfl (by (first | assumption | exact Pt.ext (by assumption) (by (repeat (first | assumption | refine below_step ?_ (by assumption))); first | done | fail))) (by rfl) rfl ?_
              | refine RLQ_loadPt rfl (by rfl) (by (first | assumption | exact Pt.ext (by assumption) (by (repeat (first | assumption | refine below_step ?_ (by assumption))); first | done | fail))) (by rfl) (by first | assumption | (intro e; simp_all; done)) rfl ?_
              | refine RLQ_loadPt0 rfl (by (first | assumption | exact Pt.ext (by assumption) (by (repeat (first | assumption | refine below_step ?_ (by assumption))); first | done | fail))) (by rfl) (by first | assumption | (intro e; simp_all; done)) rfl ?_
              | refine RLQ_loadAgg rfl (by (first | assumption | exact Pt.ext (by assumption) (by (repeat (first | assumption | refine below_step ?_ (by assumption))); first | done | fail))) (by rfl) (by first | assumption | (intro e; simp_all; done)) rfl ?_)
         | refine LQ_assign rfl rfl ?_
         | refine LQ_do rfl rfl rfl (fun _ _ => do_pick_true rfl rfl) ?_
         | refine LQ_do rfl rfl rfl (fun _ _ => do_pick_false rfl rfl) ?_
         | refine LQ_do rfl rfl rfl (fun _ _ => do_notDec rfl) ?_
         | refine LQ_do rfl rfl rfl (fun _ _ => do_not rfl) ?_
         | refine LQ_do rfl rfl rfl (fun _ _ => do_extract rfl rfl) ?_
         | refine LQ_do rfl rfl rfl (fun _ _ => do_fieldAddr rfl) ?_
         | refine LQ_do rfl rfl rfl (fun _ _ => do_buildS rfl (by kernel_rfl)) ?_
         | refine LQ_indexL rfl rfl (by (first | assumption | exact RdL.ext (by assumption) (by (repeat (first | assumption | refine below_step ?_ (by assumption))); first | done | fail) | exact OwL.rd (by assumption))) (by rfl) (by omega) (by omega) rfl (fun a y hy hab hp => ?_))
    | (apply isW
       first
         | apply W_seq
         | apply W_region
         | refine W_region_Q mixed (by kernel_rfl) ?_
         | refine W_cond_dec rfl (fun hg => ?_) (fun hg => ?_)
         | refine W_cond_true rfl ?_
         | refine W_cond_false rfl ?_
         | refine W_cond rfl (fun hg => ?_) (fun hg => ?_)
         | apply W_skip
         | apply W_ret
         | apply W_exit
         | apply W_block)
    | (apply isLM
       first
         | apply LM_nil
         | refine LM_look rfl rfl ?_
         | refine LM_act rfl ?_
         | refine LM_both rfl rfl ?_ ?_
         | refine LM_do rfl rfl rfl rfl (fun _ _ => do_nilCheck rfl) ?_)
    | (apply isAt
       first
         | apply At_then
         | apply At_then_ret
         | apply At_then_exit
         | apply At_block_normal
         | apply At_block_ret
         | apply At_block_hit
         | refine At_block_miss rfl ?_
         | refine At_end1 rfl rfl ?_
         | refine At_end1n rfl rfl ?_
         | refine At_end2 rfl rfl rfl ?_
         | refine At_mix (by (repeat (first | assumption | exact Below.refl _ _ | refine below_step ?_ (by assumption) | exact World.grownBy.refl _ _ | refine kp_below ?_ (by assumption) | refine kp_row ?_ (by assumption))); first | done | fail) ?_))
  exact ⟨by rw [decide_not]; rfl, hB2⟩
theorem not_any_not {α : Type} (p : α → Bool) (xs : List α) : (xs.any fun n => !p n) = !xs.all p := by
  induction xs with
  | nil => rfl
  | cons x r ih => simp only [List.any_cons, List.all_cons, Bool.not_and, ih]

/-- A disk's files that are in order: names from 1 to 3, sizes. -/
theorem diskFrom_at : ∀ (bs : List Bl) (l : Int), diskFrom l bs = true → ∀ b ∈ bs, l + 1 ≤ b.name ∧ b.name ≤ 3 ∧ blOk b = true
  | [], _, _, b, hb => by simp at hb
  | c :: r, l, h, b, hb => by
    simp only [diskFrom, Bool.and_eq_true, decide_eq_true_eq] at h
    rcases List.mem_cons.1 hb with rfl | hb
    · exact ⟨h.1.1.1, h.1.1.2, h.1.2⟩
    · have := diskFrom_at r c.name h.2 b hb
      exact ⟨by omega, this.2⟩
theorem kOf_bd {keep : List Int} {b : Bl} (hk : keep.all keepOk = true) (h1 : 1 ≤ b.name) : 0 ≤ kOf keep b ∧ kOf keep b ≤ b.fresh.length := by
  unfold kOf
  split
  · rename_i h
    have hlt : (b.name - 1).toNat < keep.length := by omega
    have hm := List.all_eq_true.1 hk _ (List.getElem_mem hlt)
    simp only [keepOk, decide_eq_true_eq] at hm
    rw [List.getD_eq_getElem?_getD, List.getElem?_eq_getElem hlt, Option.getD_some]
    omega
  · omega

/-- A file's fields are written. -/
theorem OwBl.set {w w' : World} {base : Nat} {v : Value} {rows : List Row3} {bs : List Bl} {i : Nat} {r : Row3} {b : Bl} (h : OwBl w base v rows bs) (hr : i < rows.length) (hB : w.grownBy w' v.ownBlock)
    (hO : OwL tRow3 w' base 44 v (rows.set i r)) (hn : r.name = b.name) (h2 : InL w base r.safe b.safe) (h3 : InL w base r.fresh b.fresh) : OwBl w' base v (rows.set i r) (bs.set i b) := by
  have hi' : i < bs.length := by rw [← h.len]; exact hr
  refine ⟨hO, by simp [h.len], fun j r' hr' => ?_⟩
  by_cases e : i = j
  · subst e
    rw [List.getElem?_set_self hr] at hr'
    cases hr'
    exact ⟨_, List.getElem?_set_self hi', hn, h2.kept hB (·.ne_ty h.own (by decide)), h3.kept hB (·.ne_ty h.own (by decide))⟩
  · rw [List.getElem?_set_ne e] at hr'
    obtain ⟨b', hb', k1, k2, k3⟩ := h.at_ j r' hr'
    exact ⟨b', by rw [List.getElem?_set_ne e]; exact hb', k1, k2.kept hB (·.ne_ty h.own (by decide)), k3.kept hB (·.ne_ty h.own (by decide))⟩

theorem mid_at {α : Type} (f : α → α) {ys : List α} {k : Nat} (hk : k ≤ ys.length) : ((ys.take k).map f ++ ys.drop k)[k]? = ys[k]? := by
  rw [List.getElem?_append_right (by simp; omega), List.getElem?_drop]
  congr 1; simp; omega
theorem mid_set {α : Type} (f : α → α) {ys : List α} {k : Nat} {y z : α} (hy : ys[k]? = some y) (hz : z = f y) : ((ys.take k).map f ++ ys.drop k).set k z = (ys.take (k + 1)).map f ++ ys.drop (k + 1) := by
  subst hz
  obtain ⟨hk, he⟩ := List.getElem?_eq_some_iff.1 hy
  rw [List.set_append_right _ _ (by simp; omega), List.take_add_one, hy, List.drop_eq_getElem_cons hk, he]
  have : k - ((ys.take k).map f).length = 0 := by simp; omega
  rw [this]; simp

theorem two_sls {w : World} {v : Value} {s1 s2 : Sl} {xs ys : List Int} (h : RdL tSl w v [s1, s2]) (h1 : RdL tInt w s1.v xs) (h2 : RdL tInt w s2.v ys) : RdSls w v [s1, s2] [xs, ys] :=
  ⟨h, rfl, fun i s hs => match i, hs with
    | 0, hs => by simp at hs; subst hs; exact ⟨xs, rfl, h1⟩
    | 1, hs => by simp at hs; subst hs; exact ⟨ys, rfl, h2⟩
    | i + 2, hs => by simp at hs⟩
theorem c_implDiskCrash {v v2 : Value} {rows : List Row3} {bs : List Bl} {keep : List Int} {w : World} (h : RdBl w v rows bs) (hsm : Small bs) (h2 : RdL tInt w v2 keep) :
    Cl Try.prog 21 [v, v2] w (fun u w' => ∃ x rows', u = .tuple #[x, .bool (crashOk bs keep)] ∧ RdBl w' x rows' (crash bs keep) ∧ Below w.heap.size w w') := by
  refine calls_start 64 Try.func21 rfl rfl rfl ?_
  have hkl := h2.maxLen
  have hsz := hsm.1
  repeat' (first
    | (apply isL
       first
         | apply L_nil
         | refine L_move rfl rfl ?_
         | (apply isGuarded
            first
              | refine L_guard_dec rfl rfl (fun hg => ?_) (fun hg => ?_)
              | refine L_guard_yes rfl rfl ?_
              | refine L_guard_no rfl rfl rfl rfl ?_
              | refine L_guard_undef rfl rfl rfl ?_
              | refine L_guard_split rfl rfl (fun hg => ?_) (fun hg => ?_))
         | (apply isCall
            first
              | refine L_lenL rfl (by (first | assumption | exact RdL.ext (by assumption) (by (repeat (first | assumption | refine below_step ?_ (by assumption))); first | done | fail) | exact OwL.rd (by assumption))) rfl (fun hlen => ?_)
              | refine L_do rfl rfl rfl (do_lenStr rfl) ?_
              | refine L_callV rfl rfl (c_implDiskValid h hsm) (fun w2 hB2 => ?_)
              | refine L_callV rfl rfl (c_ContainsFunc_int (cap := []) (fun n => !keepOk n) (h2.ext (by (repeat (first | assumption | exact Below.refl _ _ | refine below_step ?_ (by assumption))); first | done | fail)) (fun x _ w' _ => c_DiskCrash1)) (fun w3 hB3 => ?_)
              | (refine L_call rfl rfl (c_cloneDisk (h.ext (by (repeat (first | assumption | exact Below.refl _ _ | refine below_step ?_ (by assumption))); first | done | fail)) hsm) (fun u w4 hR => ?_); obtain ⟨rows4, hO4, hB4⟩ := hR; have hrd4 := hO4.own.rd)
              )
         | (apply isBin
            first
              | refine L_do rfl rfl rfl (do_cmp rfl rfl rfl) ?_
              | refine L_do rfl rfl rfl (do_cmpStr rfl rfl rfl) ?_
              | refine L_do rfl rfl rfl (do_add rfl rfl (by omega)) ?_
              | refine L_do rfl rfl rfl (do_sub rfl rfl (by omega)) ?_
              | refine L_do rfl rfl rfl (do_eqBool TBool.und rfl rfl) ?_
              | refine L_do rfl rfl rfl (do_neBool TBool.und rfl rfl) ?_
              )
         | (apply isLoad
            first
              | refine L_loadPt rfl (by rfl) (by (first | assumption | exact Pt.ext (by assumption) (by (repeat (first | assumption | refine below_step ?_ (by assumption))); first | done | fail))) (by rfl) rfl ?_
              | refine L_loadPt0 rfl (by (first | assumption | exact Pt.ext (by assumption) (by (repeat (first | assumption | refine below_step ?_ (by assumption))); first | done | fail))) (by rfl) rfl ?_
              | refine L_loadAgg rfl (by (first | assumption | exact Pt.ext (by assumption) (by (repeat (first | assumption | refine below_step ?_ (by assumption))); first | done | fail))) (by rfl) rfl ?_)
         | refine L_assign rfl rfl ?_
         | refine L_do rfl rfl rfl (do_pick_true rfl rfl) ?_
         | refine L_do rfl rfl rfl (do_pick_false rfl rfl) ?_
         | refine L_do rfl rfl rfl (do_notDec rfl) ?_
         | refine L_do rfl rfl rfl (do_not rfl) ?_
         | refine L_do rfl rfl rfl (do_extract rfl rfl) ?_
         | refine L_do rfl rfl rfl (do_fieldAddr rfl) ?_
         | refine L_indexL rfl rfl (by (first | assumption | exact RdL.ext (by assumption) (by (repeat (first | assumption | refine below_step ?_ (by assumption))); first | done | fail) | exact OwL.rd (by assumption))) (by rfl) (by omega) (by omega) rfl (fun a y hy hab hp => ?_)
         | (apply isBox; refine L_boxV (w0 := w) (by (repeat (first | assumption | exact Below.refl _ _ | refine below_step ?_ (by assumption))); first | done | fail) rfl rfl (fun w1 hz1 hB hB1 hv => ?_); have hp := pt_of_block hv)
         | (apply isAllocStore; refine L_allocStoreV (w0 := w) (by (repeat (first | assumption | exact Below.refl _ _ | refine below_step ?_ (by assumption))); first | done | fail) rfl rfl rfl rfl ?_ rfl (fun w1 hz1 hB hB1 hv => ?_); (focus (first | exact Ty.one _ _ | simp [Value.oneCell'])); have hp := pt_of_block hv)
         )
    | (apply isLQ
       first
         | refine LQ_nil (fun w1 hBq => ?_)
         | apply LQ_mix
         | refine LQ_move rfl rfl ?_
         | (apply isGuardedQ
            first
              | refine LQ_guard_dec rfl rfl (fun hg => ?_) (fun hg => ?_)
              | refine LQ_guard_yes rfl rfl ?_
              | refine LQ_guard_no rfl rfl rfl rfl ?_
              | refine LQ_guard_undef rfl rfl rfl ?_
              | refine LQ_guard_split rfl rfl (fun hg => ?_) (fun hg => ?_))
         | (apply isCallQ
            first
              | refine LQ_lenL rfl (by (first | assumption | exact RdL.ext (by assumption) (by (repeat (first | assumption | refine below_step ?_ (by assumption))); first | done | fail) | exact OwL.rd (by assumption))) rfl (fun hlen => ?_)
              | refine LQ_do rfl rfl rfl (fun _ _ => do_lenStr rfl) ?_
              )
         | (apply isBinQ
            first
              | refine LQ_do rfl rfl rfl (fun _ _ => do_cmp rfl rfl rfl) ?_
              | refine LQ_do rfl rfl rfl (fun _ _ => do_cmpStr rfl rfl rfl) ?_
              | refine LQ_do rfl rfl rfl (fun _ _ => do_add rfl rfl (by omega)) ?_
              | refine LQ_do rfl rfl rfl (fun _ _ => do_sub rfl rfl (by omega)) ?_
              | refine LQ_do rfl rfl rfl (fun _ _ => do_eqBool TBool.und rfl rfl) ?_
              | refine LQ_do rfl rfl rfl (fun _ _ => do_neBool TBool.und rfl rfl) ?_
              )
         | (apply isLoadQ
            first
              | refine LQ_loadPt rfl (by rfl) (by (first | assumption | exact Pt.ext (by assumption) (by (repeat (first | assumption | refine below_step ?_ (by assumption))); first | done | fail))) (by rfl) rfl ?_
              | refine LQ_loadPt0 rfl (by (first | assumption | exact Pt.ext (by assumption) (by (repeat (first | assumption | refine below_step ?_ (by assumption))); first | done | fail))) (by rfl) rfl ?_
              | refine LQ_loadAgg rfl (by (first | assumption | exact Pt.ext (by assumption) (by (repeat (first | assumption | refine below_step ?_ (by assumption))); first | done | fail))) (by rfl) rfl ?_
              | refine RLQ_loadPt rfl (by rfl) (by (first | assumption | exact Pt.ext (by assumption) (by (repeat (first | assumption | refine below_step ?_ (by assumption))); first | done | fail))) (by rfl) (by first | assumption | (intro e; simp_all; done)) rfl ?_
              | refine RLQ_loadPt0 rfl (by (first | assumption | exact Pt.ext (by assumption) (by (repeat (first | assumption | refine below_step ?_ (by assumption))); first | done | fail))) (by rfl) (by first | assumption | (intro e; simp_all; done)) rfl ?_
              | refine RLQ_loadAgg rfl (by (first | assumption | exact Pt.ext (by assumption) (by (repeat (first | assumption | refine below_step ?_ (by assumption))); first | done | fail))) (by rfl) (by first | assumption | (intro e; simp_all; done)) rfl ?_)
         | refine LQ_assign rfl rfl ?_
         | refine LQ_do rfl rfl rfl (fun _ _ => do_pick_true rfl rfl) ?_
         | refine LQ_do rfl rfl rfl (fun _ _ => do_pick_false rfl rfl) ?_
         | refine LQ_do rfl rfl rfl (fun _ _ => do_notDec rfl) ?_
         | refine LQ_do rfl rfl rfl (fun _ _ => do_not rfl) ?_
         | refine LQ_do rfl rfl rfl (fun _ _ => do_extract rfl rfl) ?_
         | refine LQ_do rfl rfl rfl (fun _ _ => do_fieldAddr rfl) ?_
         | refine LQ_do rfl rfl rfl (fun _ _ => do_buildS rfl (by kernel_rfl)) ?_
         | refine LQ_indexL rfl rfl (by (first | assumption | exact RdL.ext (by assumption) (by (repeat (first | assumption | refine below_step ?_ (by assumption))); first | done | fail) | exact OwL.rd (by assumption))) (by rfl) (by omega) (by omega) rfl (fun a y hy hab hp => ?_))
    | (apply isW
       first
         | apply W_seq
         | apply W_region
         | refine W_region_Q mixed (by kernel_rfl) ?_
         | refine W_cond_dec rfl (fun hg => ?_) (fun hg => ?_)
         | refine W_cond_true rfl ?_
         | refine W_cond_false rfl ?_
         | refine W_cond rfl (fun hg => ?_) (fun hg => ?_)
         | apply W_skip
         | apply W_ret
         | apply W_exit
         | apply W_block)
    | (apply isLM
       first
         | apply LM_nil
         | refine LM_look rfl rfl ?_
         | refine LM_act rfl ?_
         | refine LM_both rfl rfl ?_ ?_
         | refine LM_do rfl rfl rfl rfl (fun _ _ => do_nilCheck rfl) ?_)
    | (apply isAt
       first
         | apply At_then
         | apply At_then_ret
         | apply At_then_exit
         | apply At_block_normal
         | apply At_block_ret
         | apply At_block_hit
         | refine At_block_miss rfl ?_
         | refine At_end1 rfl rfl ?_
         | refine At_end1n rfl rfl ?_
         | refine At_end2 rfl rfl rfl ?_
         | refine At_mix (by (repeat (first | assumption | exact Below.refl _ _ | refine below_step ?_ (by assumption) | exact World.grownBy.refl _ _ | refine kp_below ?_ (by assumption) | refine kp_row ?_ (by assumption))); first | done | fail) ?_))
  · have e : crashOk bs keep = false := by unfold crashOk; have : diskOk bs = false := by simpa using hg
                                           rw [this]; rfl
    exact ⟨_, [], by rw [e], by rw [crash, e]; exact ⟨RdL.nil, rfl, fun i r hr => by simp at hr⟩, (by (repeat (first | assumption | exact Below.refl _ _ | refine below_step ?_ (by assumption))); first | done | fail)⟩
  · have e : crashOk bs keep = false := by unfold crashOk; rw [decide_eq_false (by omega)]; simp
    exact ⟨_, [], by rw [e], by rw [crash, e]; exact ⟨RdL.nil, rfl, fun i r hr => by simp at hr⟩, (by (repeat (first | assumption | exact Below.refl _ _ | refine below_step ?_ (by assumption))); first | done | fail)⟩
  · have e : crashOk bs keep = false := by
      rw [not_any_not] at hg
      unfold crashOk
      have : keep.all keepOk = false := by simpa using hg
      rw [this, Bool.and_false]
    exact ⟨_, [], by rw [e], by rw [crash, e]; exact ⟨RdL.nil, rfl, fun i r hr => by simp at hr⟩, (by (repeat (first | assumption | exact Below.refl _ _ | refine below_step ?_ (by assumption))); first | done | fail)⟩
  have hall : keep.all keepOk = true := by rw [not_any_not] at hg; simpa using hg
  have hdk : diskFrom 0 bs = true := by have : (!diskOk bs) = false := by assumption
                                        simpa [diskOk] using this
  have e : crashOk bs keep = true := by unfold crashOk diskOk; rw [hdk, hall, decide_eq_true (by omega)]; rfl
  have hB04 : Below w.heap.size w w4 := (by (repeat (first | assumption | exact Below.refl _ _ | refine below_step ?_ (by assumption))); first | done | fail)
  have hk2 := h2.ext hB04
  have hle3 : w.heap.size ≤ w3.heap.size := by have := hB2.size; have := hB3.size; omega
  have hl4 := hO4.len
  have hz34 := hB4.size
  clear hB2 hB3 hB4
  refine W_loopF (fun m fr w' => ∃ (k : Nat) (rs : List Row3), m = bs.length - k ∧ k ≤ bs.length ∧ fr = [(1, v2), (6, u), (24, u), (25, .int .i64 bs.length), (26, .int .i64 k)] ∧ Below w.heap.size w w' ∧ w3.heap.size ≤ w'.heap.size ∧ OwBl w' w3.heap.size u rs ((bs.take k).map (crashBl keep) ++ bs.drop k)) bs.length
    [(1, v2), (6, u), (24, u), (25, .int .i64 bs.length), (26, .int .i64 0)] (by rw [← hl4]; repeat (first | exact get_nil_slots _ | refine get_cons_slots rfl ?_)) ⟨0, rows4, rfl, Nat.zero_le _, rfl, hB04, hz34, by simpa using hO4⟩ ?_
  clear hO4 hrd4 hlen hk2
  rintro _ _ w' ⟨k, rs, rfl, hk, rfl, hB, hz3w, hO⟩
  have hlr := hO.len
  simp only [List.length_append, List.length_map, List.length_take, List.length_drop] at hlr
  have hz' := hB.size
  have hrdk := hO.own.rd
  repeat' (first
    | (apply isL
       first
         | apply L_nil
         | refine L_move rfl rfl ?_
         | (apply isGuarded
            first
              | refine L_guard_dec rfl rfl (fun hg => ?_) (fun hg => ?_)
              | refine L_guard_yes rfl rfl ?_
              | refine L_guard_no rfl rfl rfl rfl ?_
              | refine L_guard_undef rfl rfl rfl ?_
              | refine L_guard_split rfl rfl (fun hg => ?_) (fun hg => ?_))
         | (apply isCall
            first
              | refine L_lenL rfl (by (first | assumption | exact RdL.ext (by assumption) (by (repeat (first | assumption | refine below_step ?_ (by assumption))); first | done | fail) | exact OwL.rd (by assumption))) rfl (fun hlen => ?_)
              | refine L_do rfl rfl rfl (do_lenStr rfl) ?_
              )
         | (apply isBin
            first
              | refine L_do rfl rfl rfl (do_cmp rfl rfl rfl) ?_
              | refine L_do rfl rfl rfl (do_cmpStr rfl rfl rfl) ?_
              | refine L_do rfl rfl rfl (do_add rfl rfl (by omega)) ?_
              | refine L_do rfl rfl rfl (do_sub rfl rfl (by omega)) ?_
              | refine L_do rfl rfl rfl (do_eqBool TBool.und rfl rfl) ?_
              | refine L_do rfl rfl rfl (do_neBool TBool.und rfl rfl) ?_
              )
         | (apply isLoad
            first
              | refine L_loadPt rfl (by rfl) (by (first | assumption | exact Pt.ext (by assumption) (by (repeat (first | assumption | refine below_step ?_ (by assumption))); first | done | fail))) (by rfl) rfl ?_
              | refine L_loadPt0 rfl (by (first | assumption | exact Pt.ext (by assumption) (by (repeat (first | assumption | refine below_step ?_ (by assumption))); first | done | fail))) (by rfl) rfl ?_
              | refine L_loadAgg rfl (by (first | assumption | exact Pt.ext (by assumption) (by (repeat (first | assumption | refine below_step ?_ (by assumption))); first | done | fail))) (by rfl) rfl ?_)
         | refine L_assign rfl rfl ?_
         | refine L_do rfl rfl rfl (do_pick_true rfl rfl) ?_
         | refine L_do rfl rfl rfl (do_pick_false rfl rfl) ?_
         | refine L_do rfl rfl rfl (do_notDec rfl) ?_
         | refine L_do rfl rfl rfl (do_not rfl) ?_
         | refine L_do rfl rfl rfl (do_extract rfl rfl) ?_
         | refine L_do rfl rfl rfl (do_fieldAddr rfl) ?_
         | (refine L_indexL rfl rfl hrdk rfl (by omega) (by omega) rfl (fun ar yr hyr habr hpr => ?_); obtain ⟨b, hb0, hnm, hsI, hfI⟩ := hO.at_ _ _ hyr; have hb : bs[k]? = some b := (mid_at (crashBl keep) hk).symm.trans hb0; have hbd := diskFrom_at bs 0 hdk b (List.mem_of_getElem? hb); have hfr := hfI.rd)
         | (apply isAlloc; refine L_allocV (w0 := w) (by (repeat (first | assumption | exact Below.refl _ _ | refine below_step ?_ (by assumption))); first | done | fail) rfl (fun wa hza hBa hCa hva => ?_))
         | (apply isStore; refine L_storeAt (off := 0) (cs := tRow3.enc yr) rfl rfl rfl rfl (tRow3.one yr) hva (Nat.le_of_ble_eq_true rfl) rfl (fun w5 hv5 hg5 hz5 => ?_); have hp5 : Pt w5 ⟨w'.heap.size, 0, none⟩ [.int .i64 yr.name, yr.safe, yr.fresh] := pt_of_block hv5; have hB5 : Below w.heap.size w w5 := below_grow0 hBa hg5 (fun k hk => by cases hk; exact hz'); have hC5 : Below w'.heap.size w' w5 := below_grow0 hCa hg5 (fun k hk => by cases hk; exact Nat.le_refl _))
         | refine L_indexL rfl rfl (by (first | assumption | exact RdL.ext (by assumption) (by (repeat (first | assumption | refine below_step ?_ (by assumption))); first | done | fail) | exact OwL.rd (by assumption))) (by rfl) (by omega) (by omega) rfl (fun a y hy hab hp => ?_)
         | (apply isBox; refine L_boxV (w0 := w) (by (repeat (first | assumption | exact Below.refl _ _ | refine below_step ?_ (by assumption))); first | done | fail) rfl rfl (fun w1 hz1 hB hB1 hv => ?_); have hp := pt_of_block hv)
         | (apply isAllocStore; refine L_allocStoreV (w0 := w) (by (repeat (first | assumption | exact Below.refl _ _ | refine below_step ?_ (by assumption))); first | done | fail) rfl rfl rfl rfl ?_ rfl (fun w1 hz1 hB hB1 hv => ?_); (focus (first | exact Ty.one _ _ | simp [Value.oneCell'])); have hp := pt_of_block hv)
         )
    | (apply isLQ
       first
         | refine LQ_nil (fun w1 hBq => ?_)
         | apply LQ_mix
         | refine LQ_move rfl rfl ?_
         | (apply isGuardedQ
            first
              | refine LQ_guard_dec rfl rfl (fun hg => ?_) (fun hg => ?_)
              | refine LQ_guard_yes rfl rfl ?_
              | refine LQ_guard_no rfl rfl rfl rfl ?_
              | refine LQ_guard_undef rfl rfl rfl ?_
              | refine LQ_guard_split rfl rfl (fun hg => ?_) (fun hg => ?_))
         | (apply isCallQ
            first
              | refine LQ_lenL rfl (by (first | assumption | exact RdL.ext (by assumption) (by (repeat (first | assumption | refine below_step ?_ (by assumption))); first | done | fail) | exact OwL.rd (by assumption))) rfl (fun hlen => ?_)
              | refine LQ_do rfl rfl rfl (fun _ _ => do_lenStr rfl) ?_
              | refine LQ_do rfl rfl rfl (fun _ _ => do_min2 rfl rfl) ?_
              )
         | (apply isBinQ
            first
              | refine LQ_do rfl rfl rfl (fun _ _ => do_cmp rfl rfl rfl) ?_
              | refine LQ_do rfl rfl rfl (fun _ _ => do_cmpStr rfl rfl rfl) ?_
              | refine LQ_do rfl rfl rfl (fun _ _ => do_add rfl rfl (by omega)) ?_
              | refine LQ_do rfl rfl rfl (fun _ _ => do_sub rfl rfl (by omega)) ?_
              | refine LQ_do rfl rfl rfl (fun _ _ => do_eqBool TBool.und rfl rfl) ?_
              | refine LQ_do rfl rfl rfl (fun _ _ => do_neBool TBool.und rfl rfl) ?_
              )
         | (apply isLoadQ
            first
              | refine LQ_loadPt rfl (by rfl) (by (first | assumption | exact Pt.ext (by assumption) (by (repeat (first | assumption | refine below_step ?_ (by assumption))); first | done | fail))) (by rfl) rfl ?_
              | refine LQ_loadPt0 rfl (by (first | assumption | exact Pt.ext (by assumption) (by (repeat (first | assumption | refine below_step ?_ (by assumption))); first | done | fail))) (by rfl) rfl ?_
              | refine LQ_loadAgg rfl (by (first | assumption | exact Pt.ext (by assumption) (by (repeat (first | assumption | refine below_step ?_ (by assumption))); first | done | fail))) (by rfl) rfl ?_
              | refine RLQ_loadPt rfl (by rfl) (by (first | assumption | exact Pt.ext (by assumption) (by (repeat (first | assumption | refine below_step ?_ (by assumption))); first | done | fail))) (by rfl) (by first | assumption | (intro e; simp_all; done)) rfl ?_
              | refine RLQ_loadPt0 rfl (by (first | assumption | exact Pt.ext (by assumption) (by (repeat (first | assumption | refine below_step ?_ (by assumption))); first | done | fail))) (by rfl) (by first | assumption | (intro e; simp_all; done)) rfl ?_
              | refine RLQ_loadAgg rfl (by (first | assumption | exact Pt.ext (by assumption) (by (repeat (first | assumption | refine below_step ?_ (by assumption))); first | done | fail))) (by rfl) (by first | assumption | (intro e; simp_all; done)) rfl ?_)
         | refine LQ_assign rfl rfl ?_
         | refine LQ_do rfl rfl rfl (fun _ _ => do_pick_true rfl rfl) ?_
         | refine LQ_do rfl rfl rfl (fun _ _ => do_pick_false rfl rfl) ?_
         | refine LQ_do rfl rfl rfl (fun _ _ => do_notDec rfl) ?_
         | refine LQ_do rfl rfl rfl (fun _ _ => do_not rfl) ?_
         | refine LQ_do rfl rfl rfl (fun _ _ => do_extract rfl rfl) ?_
         | refine LQ_do rfl rfl rfl (fun _ _ => do_fieldAddr rfl) ?_
         | refine LQ_do rfl rfl rfl (fun _ _ => do_buildS rfl (by kernel_rfl)) ?_
         | refine LQ_indexL rfl rfl (by (first | assumption | exact RdL.ext (by assumption) (by (repeat (first | assumption | refine below_step ?_ (by assumption))); first | done | fail) | exact OwL.rd (by assumption))) (by rfl) (by omega) (by omega) rfl (fun a y hy hab hp => ?_))
    | (apply isW
       first
         | apply W_seq
         | apply W_region
         | refine W_hold (id := 10) ?_
         | refine W_region_Q mixed (by kernel_rfl) ?_
         | refine W_cond_dec rfl (fun hg => ?_) (fun hg => ?_)
         | refine W_cond_true rfl ?_
         | refine W_cond_false rfl ?_
         | refine W_cond rfl (fun hg => ?_) (fun hg => ?_)
         | apply W_skip
         | apply W_ret
         | apply W_exit
         | apply W_block)
    | (apply isLM
       first
         | apply LM_nil
         | refine LM_look rfl rfl ?_
         | refine LM_act rfl ?_
         | refine LM_both rfl rfl ?_ ?_
         | refine LM_do rfl rfl rfl rfl (fun _ _ => do_nilCheck rfl) ?_)
    | (apply isAt
       first
         | apply At_then
         | apply At_then_ret
         | apply At_then_exit
         | apply At_block_normal
         | apply At_block_ret
         | apply At_block_hit
         | refine At_block_miss rfl ?_
         | refine At_end1 rfl rfl ?_
         | refine At_end1n rfl rfl ?_
         | refine At_end2 rfl rfl rfl ?_
         | refine At_mix (by (repeat (first | assumption | exact Below.refl _ _ | refine below_step ?_ (by assumption) | exact World.grownBy.refl _ _ | refine kp_below ?_ (by assumption) | refine kp_row ?_ (by assumption))); first | done | fail) ?_))
  rotate_right
  · have hk2 : k = bs.length := by omega
    subst hk2
    refine ⟨u, rs, by rw [e], ?_, hB⟩
    have := hO.rd
    rw [List.take_length, List.drop_length, List.append_nil] at this
    rw [crash, e]; exact this
  focus
    have hx : keep[(yr.name - 1).toNat]? = some y := hy
    have hkk : min y (b.fresh.length : Int) = kOf keep b := by
      unfold kOf
      rw [if_pos (by omega), ← hnm, List.getD_eq_getElem?_getD, hx, Option.getD_some]
    refine ⟨?_⟩
    refine W_forget [(1, v2), (6, u), (7, .int .i64 k), (8, .pointer (some ⟨w'.heap.size, 0, none⟩)), (9, .int .i64 (kOf keep b)), (24, u), (25, .int .i64 bs.length), (26, .int .i64 k)] (by rw [← hkk]; repeat (first | exact get_nil_slots _ | refine get_cons_slots rfl ?_)) ?_
    obtain ⟨w6, hw6⟩ : ∃ w6, w6 = w1 := ⟨_, rfl⟩
    rw [← hw6]
    have hB6 : Below w.heap.size w w6 := by rw [hw6]; exact below_step hB5 hBq
    have hC6 : Below w'.heap.size w' w6 := by rw [hw6]; exact below_step hC5 hBq
    have hp6 : Pt w6 ⟨w'.heap.size, 0, none⟩ [.int .i64 yr.name, yr.safe, yr.fresh] := by rw [hw6]; exact hp5.ext hBq
    clear hw6 hBq
  rotate_left
  focus
    have hkk : (0 : Int) = kOf keep b := by
      unfold kOf
      rw [if_neg (by omega)]
    refine ⟨?_⟩
    refine W_forget [(1, v2), (6, u), (7, .int .i64 k), (8, .pointer (some ⟨w'.heap.size, 0, none⟩)), (9, .int .i64 (kOf keep b)), (24, u), (25, .int .i64 bs.length), (26, .int .i64 k)] (by rw [← hkk]; repeat (first | exact get_nil_slots _ | refine get_cons_slots rfl ?_)) ?_
    obtain ⟨w6, hw6⟩ : ∃ w6, w6 = w5 := ⟨_, rfl⟩
    rw [← hw6]
    have hB6 : Below w.heap.size w w6 := by rw [hw6]; exact hB5
    have hC6 : Below w'.heap.size w' w6 := by rw [hw6]; exact hC5
    have hp6 : Pt w6 ⟨w'.heap.size, 0, none⟩ [.int .i64 yr.name, yr.safe, yr.fresh] := by rw [hw6]; exact hp5
    clear hw6
  all_goals
    clear hB5 hC5 hp5 hv5 hg5 hz5 hva hBa hCa hza
    have hne6 : some w'.heap.size ≠ u.ownBlock := by intro e; have := (hO.own.lt _ e.symm).2; omega
    have hO6 := hO.ext hC6
    have hkb := kOf_bd hall (b := b) (by omega)
    have hbl := hsm.2 b (List.mem_of_getElem? hb)
    have h400 : b.safe.length + b.fresh.length ≤ 400 := by have := hbd.2.2; simp only [blOk, Bool.and_eq_true, decide_eq_true_eq] at this; exact this.2
    have hz6 := hC6.size
    have hcy : yr.safe.cells = #[yr.safe] := by obtain ⟨a, c, e, _⟩ := hsI.rd.slice; rw [e]; rfl
    repeat' (first
      | (apply isL
         first
           | apply L_nil
           | refine L_move rfl rfl ?_
           | (apply isGuarded
              first
                | refine L_guard_dec rfl rfl (fun hg => ?_) (fun hg => ?_)
                | refine L_guard_yes rfl rfl ?_
                | refine L_guard_no rfl rfl rfl rfl ?_
                | refine L_guard_undef rfl rfl rfl ?_
                | refine L_guard_split rfl rfl (fun hg => ?_) (fun hg => ?_))
           | (apply isCall
              first
                | refine L_lenL rfl (by (first | assumption | exact RdL.ext (by assumption) (by (repeat (first | assumption | refine below_step ?_ (by assumption))); first | done | fail) | exact OwL.rd (by assumption))) rfl (fun hlen => ?_)
                | refine L_do rfl rfl rfl (do_lenStr rfl) ?_
                | (refine L_call rfl rfl (c_Concat_int (xss := [b.safe, b.fresh.take (kOf keep b).toNat]) (two_sls hO8.rd (hsI.rd.ext (by (repeat (first | assumption | exact Below.refl _ _ | refine below_step ?_ (by assumption))); first | done | fail)) (hsl.ext (by (repeat (first | assumption | exact Below.refl _ _ | refine below_step ?_ (by assumption))); first | done | fail))) (by simp; omega)) (fun cv w9 hR => ?_); obtain ⟨hO9, hB9⟩ := hR; have hcv : cv.cells = #[cv] := (by obtain ⟨a, c, e, _⟩ := hO9.rd.slice; rw [e]; rfl); have hov : cv.oneCell' = true := (by obtain ⟨a, c, e, _⟩ := hO9.rd.slice; rw [e]; rfl); have hz9 := hB9.size; have hz8 := hB8.size; have hP9 := ((hO6.ext hBm').ext hB8).ext hB9)
                )
           | (apply isBin
              first
                | refine L_do rfl rfl rfl (do_cmp rfl rfl rfl) ?_
                | refine L_do rfl rfl rfl (do_cmpStr rfl rfl rfl) ?_
                | refine L_do rfl rfl rfl (do_add rfl rfl (by omega)) ?_
                | refine L_do rfl rfl rfl (do_sub rfl rfl (by omega)) ?_
                | refine L_do rfl rfl rfl (do_eqBool TBool.und rfl rfl) ?_
                | refine L_do rfl rfl rfl (do_neBool TBool.und rfl rfl) ?_
                )
           | (apply isLoad
              first
                | refine L_loadPt rfl (by rfl) (by (first | assumption | exact Pt.ext (by assumption) (by (repeat (first | assumption | refine below_step ?_ (by assumption))); first | done | fail))) (by rfl) rfl ?_
                | refine L_loadPt0 rfl (by (first | assumption | exact Pt.ext (by assumption) (by (repeat (first | assumption | refine below_step ?_ (by assumption))); first | done | fail))) (by rfl) rfl ?_
                | refine L_loadAgg rfl (by (first | assumption | exact Pt.ext (by assumption) (by (repeat (first | assumption | refine below_step ?_ (by assumption))); first | done | fail))) (by rfl) rfl ?_)
           | refine L_assign rfl rfl ?_
           | refine L_do rfl rfl rfl (do_pick_true rfl rfl) ?_
           | refine L_do rfl rfl rfl (do_pick_false rfl rfl) ?_
           | refine L_do rfl rfl rfl (do_notDec rfl) ?_
           | refine L_do rfl rfl rfl (do_not rfl) ?_
           | refine L_do rfl rfl rfl (do_extract rfl rfl) ?_
           | refine L_do rfl rfl rfl (do_fieldAddr rfl) ?_
           | refine L_buildSliceL tSl [⟨yr.safe, yr.s1⟩, ⟨sv, hos⟩] rfl rfl rfl rfl rfl rfl (by simp [hcy, hcs, tSl]) rfl (fun w8 hO8 hB8 => ?_)
           | (apply isStore; refine L_storeElemG (off := 1) (k := k) rfl rfl hP9.own (addr_add0 _ _ _) hg0 hyr (cs := [cv]) hcv rfl (by simp [hov]) (Nat.le_of_ble_eq_true rfl) (y1 := ⟨y0.name, cv, y0.fresh, hov, y0.s2⟩) rfl (fun w10 hO10 hg10 hz10 => ?_); rw [← hg0] at hg10; have hQ10 := hP9.set (b := ⟨b.name, b.safe ++ b.fresh.take (kOf keep b).toNat, b.fresh⟩) (by omega) hg10 hO10 hnm (.of (by simpa using hO9.rebase (by omega))) (hfI.ext (by (repeat (first | assumption | exact Below.refl _ _ | refine below_step ?_ (by assumption))); first | done | fail)))
           | refine L_indexOwn rfl rfl hO10 rfl (by omega) (by simp; omega) rfl (fun g1 y1 hy1 hg1 => ?_)
           | (apply isStore; refine L_storeElemG (off := 2) (k := k) rfl rfl hO10 (addr_add0 _ _ _) hg1 hy1 (cs := [.slice none 0 0]) rfl rfl (by simp [Value.oneCell']) (Nat.le_of_ble_eq_true rfl) (y1 := ⟨y1.name, y1.safe, .slice none 0 0, y1.s1, rfl⟩) rfl (fun w11 hO11 hg11 hz11 => ?_))
           | refine L_indexL rfl rfl (by (first | assumption | exact RdL.ext (by assumption) (by (repeat (first | assumption | refine below_step ?_ (by assumption))); first | done | fail) | exact OwL.rd (by assumption))) (by rfl) (by omega) (by omega) rfl (fun a y hy hab hp => ?_)
           | (apply isBox; refine L_boxV (w0 := w) (by (repeat (first | assumption | exact Below.refl _ _ | refine below_step ?_ (by assumption))); first | done | fail) rfl rfl (fun w1 hz1 hB hB1 hv => ?_); have hp := pt_of_block hv)
           | (apply isAllocStore; refine L_allocStoreV (w0 := w) (by (repeat (first | assumption | exact Below.refl _ _ | refine below_step ?_ (by assumption))); first | done | fail) rfl rfl rfl rfl ?_ rfl (fun w1 hz1 hB hB1 hv => ?_); (focus (first | exact Ty.one _ _ | simp [Value.oneCell'])); have hp := pt_of_block hv)
           )
      | (apply isLQ
         first
           | refine LQ_nil (fun w1 hBq => ?_)
           | apply LQ_mix
           | refine LQ_move rfl rfl ?_
           | (apply isGuardedQ
              first
                | refine LQ_guard_dec rfl rfl (fun hg => ?_) (fun hg => ?_)
                | refine LQ_guard_yes rfl rfl ?_
                | refine LQ_guard_no rfl rfl rfl rfl ?_
                | refine LQ_guard_undef rfl rfl rfl ?_
                | refine LQ_guard_split rfl rfl (fun hg => ?_) (fun hg => ?_))
           | (apply isCallQ
              first
                | refine LQ_lenL rfl (by (first | assumption | exact RdL.ext (by assumption) (by (repeat (first | assumption | refine below_step ?_ (by assumption))); first | done | fail) | exact OwL.rd (by assumption))) rfl (fun hlen => ?_)
                | refine LQ_do rfl rfl rfl (fun _ _ => do_lenStr rfl) ?_
                )
           | (apply isBinQ
              first
                | refine LQ_do rfl rfl rfl (fun _ _ => do_cmp rfl rfl rfl) ?_
                | refine LQ_do rfl rfl rfl (fun _ _ => do_cmpStr rfl rfl rfl) ?_
                | refine LQ_do rfl rfl rfl (fun _ _ => do_add rfl rfl (by omega)) ?_
                | refine LQ_do rfl rfl rfl (fun _ _ => do_sub rfl rfl (by omega)) ?_
                | refine LQ_do rfl rfl rfl (fun _ _ => do_eqBool TBool.und rfl rfl) ?_
                | refine LQ_do rfl rfl rfl (fun _ _ => do_neBool TBool.und rfl rfl) ?_
                )
           | (apply isLoadQ
              first
                | refine LQ_loadPt rfl (by rfl) (by (first | assumption | exact Pt.ext (by assumption) (by (repeat (first | assumption | refine below_step ?_ (by assumption))); first | done | fail))) (by rfl) rfl ?_
                | refine LQ_loadPt0 rfl (by (first | assumption | exact Pt.ext (by assumption) (by (repeat (first | assumption | refine below_step ?_ (by assumption))); first | done | fail))) (by rfl) rfl ?_
                | refine LQ_loadAgg rfl (by (first | assumption | exact Pt.ext (by assumption) (by (repeat (first | assumption | refine below_step ?_ (by assumption))); first | done | fail))) (by rfl) rfl ?_
                | refine RLQ_loadPt rfl (by rfl) (by (first | assumption | exact Pt.ext (by assumption) (by (repeat (first | assumption | refine below_step ?_ (by assumption))); first | done | fail))) (by rfl) (by first | assumption | (intro e; simp_all; done)) rfl ?_
                | refine RLQ_loadPt0 rfl (by (first | assumption | exact Pt.ext (by assumption) (by (repeat (first | assumption | refine below_step ?_ (by assumption))); first | done | fail))) (by rfl) (by first | assumption | (intro e; simp_all; done)) rfl ?_
                | refine RLQ_loadAgg rfl (by (first | assumption | exact Pt.ext (by assumption) (by (repeat (first | assumption | refine below_step ?_ (by assumption))); first | done | fail))) (by rfl) (by first | assumption | (intro e; simp_all; done)) rfl ?_)
           | refine LQ_assign rfl rfl ?_
           | refine LQ_do rfl rfl rfl (fun _ _ => do_pick_true rfl rfl) ?_
           | refine LQ_do rfl rfl rfl (fun _ _ => do_pick_false rfl rfl) ?_
           | refine LQ_do rfl rfl rfl (fun _ _ => do_notDec rfl) ?_
           | refine LQ_do rfl rfl rfl (fun _ _ => do_not rfl) ?_
           | refine LQ_do rfl rfl rfl (fun _ _ => do_extract rfl rfl) ?_
           | refine LQ_do rfl rfl rfl (fun _ _ => do_fieldAddr rfl) ?_
           | refine LQ_do rfl rfl rfl (fun _ _ => do_buildS rfl (by kernel_rfl)) ?_
           | (refine LQ_sliceH rfl rfl hfr rfl (by omega) (by omega) rfl (fun sv hsl hob => ?_); have hcs : sv.cells = #[sv] := (by obtain ⟨a, c, e, _⟩ := hsl.slice; rw [e]; rfl); have hos : sv.oneCell' = true := (by obtain ⟨a, c, e, _⟩ := hsl.slice; rw [e]; rfl))
           | (refine LQ_indexOwn rfl rfl hO6.own rfl (by omega) (by omega) rfl (fun g y0 hy0 hg0 => ?_); obtain rfl := Option.some.inj (hy0.symm.trans hyr))
           | refine LQ_indexL rfl rfl (by (first | assumption | exact RdL.ext (by assumption) (by (repeat (first | assumption | refine below_step ?_ (by assumption))); first | done | fail) | exact OwL.rd (by assumption))) (by rfl) (by omega) (by omega) rfl (fun a y hy hab hp => ?_))
      | (apply isW
         first
           | apply W_seq
           | apply W_region
           | refine W_region_R (id := 10) u.ownBlock (.look 0 (.look 1 (.look 2 (.look 3 (.look 4 (.look 5 (.look 6 (.look 7 (.act 8 (.act 9 (.look 10 (.look 11 (.act 12 .done))))))))))))) mixed (by kernel_rfl) (by kernel_rfl) (by rintro _ _ _ _ _ ⟨_, _, hh, _⟩; cases hh) (fun w7 hBm hBm' hzm => ?_)
           | refine W_region_Q mixed (by kernel_rfl) ?_
           | refine W_cond_dec rfl (fun hg => ?_) (fun hg => ?_)
           | refine W_cond_true rfl ?_
           | refine W_cond_false rfl ?_
           | refine W_cond rfl (fun hg => ?_) (fun hg => ?_)
           | apply W_skip
           | apply W_ret
           | apply W_exit
           | apply W_block)
      | (apply isLM
         first
           | apply LM_nil
           | refine LM_look rfl rfl ?_
           | refine LM_act rfl ?_
           | refine LM_both rfl rfl ?_ ?_
           | refine LM_do rfl rfl rfl rfl (fun _ _ => do_nilCheck rfl) ?_)
      | (apply isAt
         first
           | apply At_then
           | apply At_then_ret
           | apply At_then_exit
           | apply At_block_normal
           | apply At_block_ret
           | apply At_block_hit
           | refine At_block_miss rfl ?_
           | refine At_end1 rfl rfl ?_
           | refine At_end1n rfl rfl ?_
           | refine At_end2 rfl rfl rfl ?_
           | refine At_mix (by (repeat (first | assumption | exact Below.refl _ _ | refine below_step ?_ (by assumption) | exact World.grownBy.refl _ _ | refine kp_below ?_ (by assumption) | refine kp_row ?_ (by assumption))); first | done | fail) ?_))
    · have hk3 : (↑k : Int).toNat = k := rfl
      have hlk : k < rs.length := by omega
      have e1 := List.getElem?_set_self (a := (⟨y0.name, cv, y0.fresh, hov, y0.s2⟩ : Row3)) hlk
      obtain rfl := Option.some.inj (e1.symm.trans hy1)
      rw [← hg1] at hg11
      have hV10 : OwL tInt w10 w3.heap.size 3 cv (b.safe ++ b.fresh.take (kOf keep b).toNat) := by
        have := (hO9.kept hg10 (hO9.ne_ty hP9.own (by decide))).rebase (base' := w3.heap.size) (by omega)
        simpa using this
      have hQ11 := hQ10.set (b := crashBl keep b) (by simp; omega) hg11 hO11 hnm (.of hV10) (.empty RdL.nil)
      rw [List.set_set, List.set_set, mid_set (crashBl keep) hb rfl] at hQ11
      have hge : w3.heap.size ≤ g := (hO.own.lt _ hg0).1
      have hB11 : Below w.heap.size w w11 := below_grow0 (below_grow0 (below_step (below_step (below_step hB6 hBm') hB8) hB9) hg10 (fun k hk => by rw [hg0] at hk; cases hk; omega)) hg11 (fun k hk => by rw [hg0] at hk; cases hk; omega)
      have hz11' : w3.heap.size ≤ w11.heap.size := by omega
      refine At_round _ [(1, v2), (6, u), (24, u), (25, .int .i64 bs.length), (26, .int .i64 ((k + 1 : Nat) : Int))] (by repeat (first | exact get_nil_slots _ | refine get_cons_slots rfl ?_)) (by omega) ⟨k + 1, _, rfl, by omega, rfl, hB11, hz11', hQ11⟩
end Go.Proofs.Ytomhhfeakpompaa
