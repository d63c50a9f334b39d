/-
  Contracts on disks: equality, validity.
-/
import Derived.Test.YtomhhfeakpompaaBlob
namespace Go.Proofs.Ytomhhfeakpompaa
open Go Go.RowKit
set_option linter.unusedVariables false

theorem c_eqBlobS {v v2 : Value} {rows rows2 : List Row3} {bs bs2 : List Bl} {w : World} (h : RdBl w v rows bs) (h2 : RdBl w v2 rows2 bs2) : Cl Try.prog 13 [v, v2] w (V w (.bool (decide (bs = bs2)))) := by
  refine calls_start 27 Try.func13 rfl rfl rfl ?_
  have hrd := h.rd
  have hrd2 := h2.rd
  have hln := h.len
  have hln2 := h2.len
  repeat' (first
    | (apply isL
       first
         | apply L_nil
         | refine L_move rfl rfl ?_
         | (apply isGuarded
            first
              | refine L_guard_dec rfl rfl (fun hg => ?_) (fun hg => ?_)
              | refine L_guard_yes rfl rfl ?_
              | refine L_guard_no rfl rfl rfl rfl ?_
              | refine L_guard_undef rfl rfl rfl ?_
              | refine L_guard_split rfl rfl (fun hg => ?_) (fun hg => ?_))
         | (apply isCall
            first
              | refine L_lenL rfl (by (first | assumption | exact RdL.ext (by assumption) (by (repeat (first | assumption | refine below_step ?_ (by assumption))); first | done | fail) | exact OwL.rd (by assumption))) rfl (fun hlen => ?_)
              | refine L_do rfl rfl rfl (do_lenStr rfl) ?_
              )
         | (apply isBin
            first
              | refine L_do rfl rfl rfl (do_cmp rfl rfl rfl) ?_
              | refine L_do rfl rfl rfl (do_cmpStr rfl rfl rfl) ?_
              | refine L_do rfl rfl rfl (do_add rfl rfl (by omega)) ?_
              | refine L_do rfl rfl rfl (do_sub rfl rfl (by omega)) ?_
              | refine L_do rfl rfl rfl (do_eqBool TBool.und rfl rfl) ?_
              | refine L_do rfl rfl rfl (do_neBool TBool.und rfl rfl) ?_
              )
         | (apply isLoad
            first
              | refine L_loadPt rfl (by rfl) (by (first | assumption | exact Pt.ext (by assumption) (by (repeat (first | assumption | refine below_step ?_ (by assumption))); first | done | fail))) (by rfl) rfl ?_
              | refine L_loadPt0 rfl (by (first | assumption | exact Pt.ext (by assumption) (by (repeat (first | assumption | refine below_step ?_ (by assumption))); first | done | fail))) (by rfl) rfl ?_
              | refine L_loadAgg rfl (by (first | assumption | exact Pt.ext (by assumption) (by (repeat (first | assumption | refine below_step ?_ (by assumption))); first | done | fail))) (by rfl) rfl ?_)
         | refine L_assign rfl rfl ?_
         | refine L_do rfl rfl rfl (do_pick_true rfl rfl) ?_
         | refine L_do rfl rfl rfl (do_pick_false rfl rfl) ?_
         | refine L_do rfl rfl rfl (do_notDec rfl) ?_
         | refine L_do rfl rfl rfl (do_not rfl) ?_
         | refine L_do rfl rfl rfl (do_extract rfl rfl) ?_
         | refine L_do rfl rfl rfl (do_fieldAddr rfl) ?_
         | refine L_indexL rfl rfl (by (first | assumption | exact RdL.ext (by assumption) (by (repeat (first | assumption | refine below_step ?_ (by assumption))); first | done | fail) | exact OwL.rd (by assumption))) (by rfl) (by omega) (by omega) rfl (fun a y hy hab hp => ?_)
         | (apply isBox; refine L_boxV (w0 := w) (by (repeat (first | assumption | exact Below.refl _ _ | refine below_step ?_ (by assumption))); first | done | fail) rfl rfl (fun w1 hz1 hB hB1 hv => ?_); have hp := pt_of_block hv)
         | (apply isAllocStore; refine L_allocStoreV (w0 := w) (by (repeat (first | assumption | exact Below.refl _ _ | refine below_step ?_ (by assumption))); first | done | fail) rfl rfl rfl rfl ?_ rfl (fun w1 hz1 hB hB1 hv => ?_); (focus (first | exact Ty.one _ _ | simp [Value.oneCell'])); have hp := pt_of_block hv)
         )
    | (apply isLQ
       first
         | refine LQ_nil (fun w1 hBq => ?_)
         | apply LQ_mix
         | refine LQ_move rfl rfl ?_
         | (apply isGuardedQ
            first
              | refine LQ_guard_dec rfl rfl (fun hg => ?_) (fun hg => ?_)
              | refine LQ_guard_yes rfl rfl ?_
              | refine LQ_guard_no rfl rfl rfl rfl ?_
              | refine LQ_guard_undef rfl rfl rfl ?_
              | refine LQ_guard_split rfl rfl (fun hg => ?_) (fun hg => ?_))
         | (apply isCallQ
            first
              | refine LQ_lenL rfl (by (first | assumption | exact RdL.ext (by assumption) (by (repeat (first | assumption | refine below_step ?_ (by assumption))); first | done | fail) | exact OwL.rd (by assumption))) rfl (fun hlen => ?_)
              | refine LQ_do rfl rfl rfl (fun _ _ => do_lenStr rfl) ?_
              )
         | (apply isBinQ
            first
              | refine LQ_do rfl rfl rfl (fun _ _ => do_cmp rfl rfl rfl) ?_
              | refine LQ_do rfl rfl rfl (fun _ _ => do_cmpStr rfl rfl rfl) ?_
              | refine LQ_do rfl rfl rfl (fun _ _ => do_add rfl rfl (by omega)) ?_
              | refine LQ_do rfl rfl rfl (fun _ _ => do_sub rfl rfl (by omega)) ?_
              | refine LQ_do rfl rfl rfl (fun _ _ => do_eqBool TBool.und rfl rfl) ?_
              | refine LQ_do rfl rfl rfl (fun _ _ => do_neBool TBool.und rfl rfl) ?_
              )
         | (apply isLoadQ
            first
              | refine LQ_loadPt rfl (by rfl) (by (first | assumption | exact Pt.ext (by assumption) (by (repeat (first | assumption | refine below_step ?_ (by assumption))); first | done | fail))) (by rfl) rfl ?_
              | refine LQ_loadPt0 rfl (by (first | assumption | exact Pt.ext (by assumption) (by (repeat (first | assumption | refine below_step ?_ (by assumption))); first | done | fail))) (by rfl) rfl ?_
              | refine LQ_loadAgg rfl (by (first | assumption | exact Pt.ext (by assumption) (by (repeat (first | assumption | refine below_step ?_ (by assumption))); first | done | fail))) (by rfl) rfl ?_
              | refine RLQ_loadPt rfl (by rfl) (by (first | assumption | exact Pt.ext (by assumption) (by (repeat (first | assumption | refine below_step ?_ (by assumption))); first | done | fail))) (by rfl) (by first | assumption | (intro e; simp_all; done)) rfl ?_
              | refine RLQ_loadPt0 rfl (by (first | assumption | exact Pt.ext (by assumption) (by (repeat (first | assumption | refine below_step ?_ (by assumption))); first | done | fail))) (by rfl) (by first | assumption | (intro e; simp_all; done)) rfl ?_
              | refine RLQ_loadAgg rfl (by (first | assumption | exact Pt.ext (by assumption) (by (repeat (first | assumption | refine below_step ?_ (by assumption))); first | done | fail))) (by rfl) (by first | assumption | (intro e; simp_all; done)) rfl ?_)
         | refine LQ_assign rfl rfl ?_
         | refine LQ_do rfl rfl rfl (fun _ _ => do_pick_true rfl rfl) ?_
         | refine LQ_do rfl rfl rfl (fun _ _ => do_pick_false rfl rfl) ?_
         | refine LQ_do rfl rfl rfl (fun _ _ => do_notDec rfl) ?_
         | refine LQ_do rfl rfl rfl (fun _ _ => do_not rfl) ?_
         | refine LQ_do rfl rfl rfl (fun _ _ => do_extract rfl rfl) ?_
         | refine LQ_do rfl rfl rfl (fun _ _ => do_fieldAddr rfl) ?_
         | refine LQ_do rfl rfl rfl (fun _ _ => do_buildS rfl (by kernel_rfl)) ?_
         | refine LQ_indexL rfl rfl (by (first | assumption | exact RdL.ext (by assumption) (by (repeat (first | assumption | refine below_step ?_ (by assumption))); first | done | fail) | exact OwL.rd (by assumption))) (by rfl) (by omega) (by omega) rfl (fun a y hy hab hp => ?_))
    | (apply isW
       first
         | apply W_seq
         | apply W_region
         | refine W_region_Q mixed (by kernel_rfl) ?_
         | refine W_cond_dec rfl (fun hg => ?_) (fun hg => ?_)
         | refine W_cond_true rfl ?_
         | refine W_cond_false rfl ?_
         | refine W_cond rfl (fun hg => ?_) (fun hg => ?_)
         | apply W_skip
         | apply W_ret
         | apply W_exit
         | apply W_block)
    | (apply isLM
       first
         | apply LM_nil
         | refine LM_look rfl rfl ?_
         | refine LM_act rfl ?_
         | refine LM_both rfl rfl ?_ ?_
         | refine LM_do rfl rfl rfl rfl (fun _ _ => do_nilCheck rfl) ?_)
    | (apply isAt
       first
         | apply At_then
         | apply At_then_ret
         | apply At_then_exit
         | apply At_block_normal
         | apply At_block_ret
         | apply At_block_hit
         | refine At_block_miss rfl ?_
         | refine At_end1 rfl rfl ?_
         | refine At_end1n rfl rfl ?_
         | refine At_end2 rfl rfl rfl ?_
         | refine At_mix (by (repeat (first | assumption | exact Below.refl _ _ | refine below_step ?_ (by assumption) | exact World.grownBy.refl _ _ | refine kp_below ?_ (by assumption) | refine kp_row ?_ (by assumption))); first | done | fail) ?_))
  · exact ⟨by rw [decide_eq_false (fun e => hg (by subst e; omega))], (by (repeat (first | assumption | exact Below.refl _ _ | refine below_step ?_ (by assumption))); first | done | fail)⟩
  refine W_loopF (fun m fr w' => ∃ k : Nat, m = rows.length - k ∧ k ≤ rows.length ∧ fr = [(0, v), (1, v2), (5, .int .i64 k)] ∧ Below w.heap.size w w' ∧ bs.take k = bs2.take k) rows.length
    [(0, v), (1, v2), (5, .int .i64 0)] (by repeat (first | exact get_nil_slots _ | refine get_cons_slots rfl ?_)) ⟨0, rfl, Nat.zero_le _, rfl, (by (repeat (first | assumption | exact Below.refl _ _ | refine below_step ?_ (by assumption))); first | done | fail), rfl⟩ ?_
  rintro _ _ w' ⟨k, rfl, hk, rfl, hB, hf⟩
  repeat' (first
    | (apply isL
       first
         | apply L_nil
         | refine L_move rfl rfl ?_
         | (apply isGuarded
            first
              | refine L_guard_dec rfl rfl (fun hg => ?_) (fun hg => ?_)
              | refine L_guard_yes rfl rfl ?_
              | refine L_guard_no rfl rfl rfl rfl ?_
              | refine L_guard_undef rfl rfl rfl ?_
              | refine L_guard_split rfl rfl (fun hg => ?_) (fun hg => ?_))
         | (apply isCall
            first
              | refine L_lenL rfl (by (first | assumption | exact RdL.ext (by assumption) (by (repeat (first | assumption | refine below_step ?_ (by assumption))); first | done | fail) | exact OwL.rd (by assumption))) rfl (fun hlen => ?_)
              | refine L_do rfl rfl rfl (do_lenStr rfl) ?_
              )
         | (apply isBin
            first
              | refine L_do rfl rfl rfl (do_cmp rfl rfl rfl) ?_
              | refine L_do rfl rfl rfl (do_cmpStr rfl rfl rfl) ?_
              | refine L_do rfl rfl rfl (do_add rfl rfl (by omega)) ?_
              | refine L_do rfl rfl rfl (do_sub rfl rfl (by omega)) ?_
              | refine L_do rfl rfl rfl (do_eqBool TBool.und rfl rfl) ?_
              | refine L_do rfl rfl rfl (do_neBool TBool.und rfl rfl) ?_
              )
         | (apply isLoad
            first
              | refine L_loadPt rfl (by rfl) (by (first | assumption | exact Pt.ext (by assumption) (by (repeat (first | assumption | refine below_step ?_ (by assumption))); first | done | fail))) (by rfl) rfl ?_
              | refine L_loadPt0 rfl (by (first | assumption | exact Pt.ext (by assumption) (by (repeat (first | assumption | refine below_step ?_ (by assumption))); first | done | fail))) (by rfl) rfl ?_
              | refine L_loadAgg rfl (by (first | assumption | exact Pt.ext (by assumption) (by (repeat (first | assumption | refine below_step ?_ (by assumption))); first | done | fail))) (by rfl) rfl ?_)
         | refine L_assign rfl rfl ?_
         | refine L_do rfl rfl rfl (do_pick_true rfl rfl) ?_
         | refine L_do rfl rfl rfl (do_pick_false rfl rfl) ?_
         | refine L_do rfl rfl rfl (do_notDec rfl) ?_
         | refine L_do rfl rfl rfl (do_not rfl) ?_
         | refine L_do rfl rfl rfl (do_extract rfl rfl) ?_
         | refine L_do rfl rfl rfl (do_fieldAddr rfl) ?_
         | refine L_indexL rfl rfl (by (first | assumption | exact RdL.ext (by assumption) (by (repeat (first | assumption | refine below_step ?_ (by assumption))); first | done | fail) | exact OwL.rd (by assumption))) (by rfl) (by omega) (by omega) rfl (fun a y hy hab hp => ?_)
         | (apply isBox; refine L_boxV (w0 := w) (by (repeat (first | assumption | exact Below.refl _ _ | refine below_step ?_ (by assumption))); first | done | fail) rfl rfl (fun w1 hz1 hB hB1 hv => ?_); have hp := pt_of_block hv)
         | (apply isAllocStore; refine L_allocStoreV (w0 := w) (by (repeat (first | assumption | exact Below.refl _ _ | refine below_step ?_ (by assumption))); first | done | fail) rfl rfl rfl rfl ?_ rfl (fun w1 hz1 hB hB1 hv => ?_); (focus (first | exact Ty.one _ _ | simp [Value.oneCell'])); have hp := pt_of_block hv)
         )
    | (apply isLQ
       first
         | refine LQ_nil (fun w1 hBq => ?_)
         | apply LQ_mix
         | refine LQ_move rfl rfl ?_
         | (apply isGuardedQ
            first
              | refine LQ_guard_dec rfl rfl (fun hg => ?_) (fun hg => ?_)
              | refine LQ_guard_yes rfl rfl ?_
              | refine LQ_guard_no rfl rfl rfl rfl ?_
              | refine LQ_guard_undef rfl rfl rfl ?_
              | refine LQ_guard_split rfl rfl (fun hg => ?_) (fun hg => ?_))
         | (apply isCallQ
            first
              | refine LQ_lenL rfl (by (first | assumption | exact RdL.ext (by assumption) (by (repeat (first | assumption | refine below_step ?_ (by assumption))); first | done | fail) | exact OwL.rd (by assumption))) rfl (fun hlen => ?_)
              | refine LQ_do rfl rfl rfl (fun _ _ => do_lenStr rfl) ?_
              | refine LQ_callV rfl rfl (fun w2 hB2 => c_eqBlob (b1 := (bs[k]?).getD ⟨0, [], []⟩) (b2 := (bs2[k]?).getD ⟨0, [], []⟩) (by obtain ⟨b, hb, hr⟩ := h.at_ k _ (by assumption); rw [hb]; exact (hr.ext (by (repeat (first | assumption | exact Below.refl _ _ | refine below_step ?_ (by assumption))); first | done | fail)).ext hB2) (by obtain ⟨b, hb, hr⟩ := h2.at_ k _ (by assumption); rw [hb]; exact (hr.ext (by (repeat (first | assumption | exact Below.refl _ _ | refine below_step ?_ (by assumption))); first | done | fail)).ext hB2)) ?_
              )
         | (apply isBinQ
            first
              | refine LQ_do rfl rfl rfl (fun _ _ => do_cmp rfl rfl rfl) ?_
              | refine LQ_do rfl rfl rfl (fun _ _ => do_cmpStr rfl rfl rfl) ?_
              | refine LQ_do rfl rfl rfl (fun _ _ => do_add rfl rfl (by omega)) ?_
              | refine LQ_do rfl rfl rfl (fun _ _ => do_sub rfl rfl (by omega)) ?_
              | refine LQ_do rfl rfl rfl (fun _ _ => do_eqBool TBool.und rfl rfl) ?_
              | refine LQ_do rfl rfl rfl (fun _ _ => do_neBool TBool.und rfl rfl) ?_
              )
         | (apply isLoadQ
            first
              | refine LQ_loadPt rfl (by rfl) (by (first | assumption | exact Pt.ext (by assumption) (by (repeat (first | assumption | refine below_step ?_ (by assumption))); first | done | fail))) (by rfl) rfl ?_
              | refine LQ_loadPt0 rfl (by (first | assumption | exact Pt.ext (by assumption) (by (repeat (first | assumption | refine below_step ?_ (by assumption))); first | done | fail))) (by rfl) rfl ?_
              | refine LQ_loadAgg rfl (by (first | assumption | exact Pt.ext (by assumption) (by (repeat (first | assumption | refine below_step ?_ (by assumption))); first | done | fail))) (by rfl) rfl ?_
              | refine RLQ_loadPt rfl (by rfl) (by (first | assumption | exact Pt.ext (by assumption) (by (repeat (first | assumption | refine below_step ?_ (by assumption))); first | done | fail))) (by rfl) (by first | assumption | (intro e; simp_all; done)) rfl ?_
              | refine RLQ_loadPt0 rfl (by (first | assumption | exact Pt.ext (by assumption) (by (repeat (first | assumption | refine below_step ?_ (by assumption))); first | done | fail))) (by rfl) (by first | assumption | (intro e; simp_all; done)) rfl ?_
              | refine RLQ_loadAgg rfl (by (first | assumption | exact Pt.ext (by assumption) (by (repeat (first | assumption | refine below_step ?_ (by assumption))); first | done | fail))) (by rfl) (by first | assumption | (intro e; simp_all; done)) rfl ?_)
         | refine LQ_assign rfl rfl ?_
         | refine LQ_do rfl rfl rfl (fun _ _ => do_pick_true rfl rfl) ?_
         | refine LQ_do rfl rfl rfl (fun _ _ => do_pick_false rfl rfl) ?_
         | refine LQ_do rfl rfl rfl (fun _ _ => do_notDec rfl) ?_
         | refine LQ_do rfl rfl rfl (fun _ _ => do_not rfl) ?_
         | refine LQ_do rfl rfl rfl (fun _ _ => do_extract rfl rfl) ?_
         | refine LQ_do rfl rfl rfl (fun _ _ => do_fieldAddr rfl) ?_
         | refine LQ_do rfl rfl rfl (fun _ _ => do_buildS rfl (by kernel_rfl)) ?_
         | refine LQ_indexL rfl rfl (by (first | assumption | exact RdL.ext (by assumption) (by (repeat (first | assumption | refine below_step ?_ (by assumption))); first | done | fail) | exact OwL.rd (by assumption))) (by rfl) (by omega) (by omega) rfl (fun a y hy hab hp => ?_))
    | (apply isW
       first
         | apply W_seq
         | apply W_region
         | refine W_region_Q mixed (by kernel_rfl) ?_
         | refine W_cond_dec rfl (fun hg => ?_) (fun hg => ?_)
         | refine W_cond_true rfl ?_
         | refine W_cond_false rfl ?_
         | refine W_cond rfl (fun hg => ?_) (fun hg => ?_)
         | apply W_skip
         | apply W_ret
         | apply W_exit
         | apply W_block)
    | (apply isLM
       first
         | apply LM_nil
         | refine LM_look rfl rfl ?_
         | refine LM_act rfl ?_
         | refine LM_both rfl rfl ?_ ?_
         | refine LM_do rfl rfl rfl rfl (fun _ _ => do_nilCheck rfl) ?_)
    | (apply isAt
       first
         | apply At_then
         | apply At_then_ret
         | apply At_then_exit
         | apply At_block_normal
         | apply At_block_ret
         | apply At_block_hit
         | refine At_block_miss rfl ?_
         | refine At_end1 rfl rfl ?_
         | refine At_end1n rfl rfl ?_
         | refine At_end2 rfl rfl rfl ?_
         | refine At_mix (by (repeat (first | assumption | exact Below.refl _ _ | refine below_step ?_ (by assumption) | exact World.grownBy.refl _ _ | refine kp_below ?_ (by assumption) | refine kp_row ?_ (by assumption))); first | done | fail) ?_))
  · have hk1 : k < bs.length := by omega
    have hk2 : k < bs2.length := by omega
    refine ⟨?_, (by (repeat (first | assumption | exact Below.refl _ _ | refine below_step ?_ (by assumption))); first | done | fail)⟩
    rw [decide_eq_false]; rintro rfl; exact hg rfl
  · have hk1 : k < bs.length := by omega
    have hk2 : k < bs2.length := by omega
    have e := Classical.not_not.1 hg
    rw [List.getElem?_eq_getElem hk1, List.getElem?_eq_getElem hk2] at e
    exact At_round _ [(0, v), (1, v2), (5, .int .i64 ((k + 1 : Nat) : Int))] (by repeat (first | exact get_nil_slots _ | refine get_cons_slots rfl ?_)) (by omega) ⟨k + 1, rfl, by omega, rfl, (by (repeat (first | assumption | exact Below.refl _ _ | refine below_step ?_ (by assumption))); first | done | fail), take_eq_step hf (List.getElem?_eq_getElem hk1) (List.getElem?_eq_getElem hk2) e⟩
  · exact ⟨by rw [decide_eq_true (eq_of_take hf (by omega) (by omega))], hB⟩

/-! ### Valid disks -/
def blOk (b : Bl) : Bool := bytesOk b.safe && bytesOk b.fresh && decide (b.safe.length + b.fresh.length ≤ 400)
def diskFrom (last : Int) : List Bl → Bool
  | [] => true
  | b :: r => decide (last + 1 ≤ b.name ∧ b.name ≤ 3) && blOk b && diskFrom b.name r
def diskOk (bs : List Bl) : Bool := diskFrom 0 bs

theorem diskFrom_cons {last : Int} {bs : List Bl} {k : Nat} {b : Bl} (hb : bs[k]? = some b) : diskFrom last (bs.drop k) = (decide (last + 1 ≤ b.name ∧ b.name ≤ 3) && blOk b && diskFrom b.name (bs.drop (k + 1))) := by
  obtain ⟨hk, rfl⟩ := List.getElem?_eq_some_iff.1 hb
  rw [List.drop_eq_getElem_cons hk]; rfl

theorem c_implDiskValid {v : Value} {rows : List Row3} {bs : List Bl} {w : World} (h : RdBl w v rows bs) (hsm : Small bs) : Cl Try.prog 9 [v] w (V w (.bool (diskOk bs))) := by
  refine calls_start 43 Try.func9 rfl rfl rfl ?_
  have hrd := h.rd
  have hln := h.len
  have hsz := hsm.1
  repeat' (first
    | (apply isL
       first
         | apply L_nil
         | refine L_move rfl rfl ?_
         | (apply isGuarded
            first
              | refine L_guard_dec rfl rfl (fun hg => ?_) (fun hg => ?_)
              | refine L_guard_yes rfl rfl ?_
              | refine L_guard_no rfl rfl rfl rfl ?_
              | refine L_guard_undef rfl rfl rfl ?_
              | refine L_guard_split rfl rfl (fun hg => ?_) (fun hg => ?_))
         | (apply isCall
            first
              | refine L_lenL rfl (by (first | assumption | exact RdL.ext (by assumption) (by (repeat (first | assumption | refine below_step ?_ (by assumption))); first | done | fail) | exact OwL.rd (by assumption))) rfl (fun hlen => ?_)
              | refine L_do rfl rfl rfl (do_lenStr rfl) ?_
              )
         | (apply isBin
            first
              | refine L_do rfl rfl rfl (do_cmp rfl rfl rfl) ?_
              | refine L_do rfl rfl rfl (do_cmpStr rfl rfl rfl) ?_
              | refine L_do rfl rfl rfl (do_add rfl rfl (by omega)) ?_
              | refine L_do rfl rfl rfl (do_sub rfl rfl (by omega)) ?_
              | refine L_do rfl rfl rfl (do_eqBool TBool.und rfl rfl) ?_
              | refine L_do rfl rfl rfl (do_neBool TBool.und rfl rfl) ?_
              )
         | (apply isLoad
            first
              | refine L_loadPt rfl (by rfl) (by (first | assumption | exact Pt.ext (by assumption) (by (repeat (first | assumption | refine below_step ?_ (by assumption))); first | done | fail))) (by rfl) rfl ?_
              | refine L_loadPt0 rfl (by (first | assumption | exact Pt.ext (by assumption) (by (repeat (first | assumption | refine below_step ?_ (by assumption))); first | done | fail))) (by rfl) rfl ?_
              | refine L_loadAgg rfl (by (first | assumption | exact Pt.ext (by assumption) (by (repeat (first | assumption | refine below_step ?_ (by assumption))); first | done | fail))) (by rfl) rfl ?_)
         | refine L_assign rfl rfl ?_
         | refine L_do rfl rfl rfl (do_pick_true rfl rfl) ?_
         | refine L_do rfl rfl rfl (do_pick_false rfl rfl) ?_
         | refine L_do rfl rfl rfl (do_notDec rfl) ?_
         | refine L_do rfl rfl rfl (do_not rfl) ?_
         | refine L_do rfl rfl rfl (do_extract rfl rfl) ?_
         | refine L_do rfl rfl rfl (do_fieldAddr rfl) ?_
         | refine L_indexL rfl rfl (by (first | assumption | exact RdL.ext (by assumption) (by (repeat (first | assumption | refine below_step ?_ (by assumption))); first | done | fail) | exact OwL.rd (by assumption))) (by rfl) (by omega) (by omega) rfl (fun a y hy hab hp => ?_)
         | (apply isBox; refine L_boxV (w0 := w) (by (repeat (first | assumption | exact Below.refl _ _ | refine below_step ?_ (by assumption))); first | done | fail) rfl rfl (fun w1 hz1 hB hB1 hv => ?_); have hp := pt_of_block hv)
         | (apply isAllocStore; refine L_allocStoreV (w0 := w) (by (repeat (first | assumption | exact Below.refl _ _ | refine below_step ?_ (by assumption))); first | done | fail) rfl rfl rfl rfl ?_ rfl (fun w1 hz1 hB hB1 hv => ?_); (focus (first | exact Ty.one _ _ | simp [Value.oneCell'])); have hp := pt_of_block hv)
         )
    | (apply isLQ
       first
         | refine LQ_nil (fun w1 hBq => ?_)
         | apply LQ_mix
         | refine LQ_move rfl rfl ?_
         | (apply isGuardedQ
            first
              | refine LQ_guard_dec rfl rfl (fun hg => ?_) (fun hg => ?_)
              | refine LQ_guard_yes rfl rfl ?_
              | refine LQ_guard_no rfl rfl rfl rfl ?_
              | refine LQ_guard_undef rfl rfl rfl ?_
              | refine LQ_guard_split rfl rfl (fun hg => ?_) (fun hg => ?_))
         | (apply isCallQ
            first
              | refine LQ_lenL rfl (by (first | assumption | exact RdL.ext (by assumption) (by (repeat (first | assumption | refine below_step ?_ (by assumption))); first | done | fail) | exact OwL.rd (by assumption))) rfl (fun hlen => ?_)
              | refine LQ_do rfl rfl rfl (fun _ _ => do_lenStr rfl) ?_
              )
         | (apply isBinQ
            first
              | refine LQ_do rfl rfl rfl (fun _ _ => do_cmp rfl rfl rfl) ?_
              | refine LQ_do rfl rfl rfl (fun _ _ => do_cmpStr rfl rfl rfl) ?_
              | refine LQ_do rfl rfl rfl (fun _ _ => do_add rfl rfl (by omega)) ?_
              | refine LQ_do rfl rfl rfl (fun _ _ => do_sub rfl rfl (by omega)) ?_
              | refine LQ_do rfl rfl rfl (fun _ _ => do_eqBool TBool.und rfl rfl) ?_
              | refine LQ_do rfl rfl rfl (fun _ _ => do_neBool TBool.und rfl rfl) ?_
              )
         | (apply isLoadQ
            first
              | refine LQ_loadPt rfl (by rfl) (by (first | assumption | exact Pt.ext (by assumption) (by (repeat (first | assumption | refine below_step ?_ (by assumption))); first | done | fail))) (by rfl) rfl ?_
              | refine LQ_loadPt0 rfl (by (first | assumption | exact Pt.ext (by assumption) (by (repeat (first | assumption | refine below_step ?_ (by assumption))); first | done | fail))) (by rfl) rfl ?_
              | refine LQ_loadAgg rfl (by (first | assumption | exact Pt.ext (by assumption) (by (repeat (first | assumption | refine below_step ?_ (by assumption))); first | done | fail))) (by rfl) rfl ?_
              | refine RLQ_loadPt rfl (by rfl) (by (first | assumption | exact Pt.ext (by assumption) (by (repeat (first | assumption | refine below_step ?_ (by assumption))); first | done | fail))) (by rfl) (by first | assumption | (intro e; simp_all; done)) rfl ?_
              | refine RLQ_loadPt0 rfl (by (first | assumption | exact Pt.ext (by assumption) (by (repeat (first | assumption | refine below_step ?_ (by assumption))); first | done | fail))) (by rfl) (by first | assumption | (intro e; simp_all; done)) rfl ?_
              | refine RLQ_loadAgg rfl (by (first | assumption | exact Pt.ext (by assumption) (by (repeat (first | assumption | refine below_step ?_ (by assumption))); first | done | fail))) (by rfl) (by first | assumption | (intro e; simp_all; done)) rfl ?_)
         | refine LQ_assign rfl rfl ?_
         | refine LQ_do rfl rfl rfl (fun _ _ => do_pick_true rfl rfl) ?_
         | refine LQ_do rfl rfl rfl (fun _ _ => do_pick_false rfl rfl) ?_
         | refine LQ_do rfl rfl rfl (fun _ _ => do_notDec rfl) ?_
         | refine LQ_do rfl rfl rfl (fun _ _ => do_not rfl) ?_
         | refine LQ_do rfl rfl rfl (fun _ _ => do_extract rfl rfl) ?_
         | refine LQ_do rfl rfl rfl (fun _ _ => do_fieldAddr rfl) ?_
         | refine LQ_do rfl rfl rfl (fun _ _ => do_buildS rfl (by kernel_rfl)) ?_
         | refine LQ_indexL rfl rfl (by (first | assumption | exact RdL.ext (by assumption) (by (repeat (first | assumption | refine below_step ?_ (by assumption))); first | done | fail) | exact OwL.rd (by assumption))) (by rfl) (by omega) (by omega) rfl (fun a y hy hab hp => ?_))
    | (apply isW
       first
         | apply W_seq
         | apply W_region
         | refine W_region_Q mixed (by kernel_rfl) ?_
         | refine W_cond_dec rfl (fun hg => ?_) (fun hg => ?_)
         | refine W_cond_true rfl ?_
         | refine W_cond_false rfl ?_
         | refine W_cond rfl (fun hg => ?_) (fun hg => ?_)
         | apply W_skip
         | apply W_ret
         | apply W_exit
         | apply W_block)
    | (apply isLM
       first
         | apply LM_nil
         | refine LM_look rfl rfl ?_
         | refine LM_act rfl ?_
         | refine LM_both rfl rfl ?_ ?_
         | refine LM_do rfl rfl rfl rfl (fun _ _ => do_nilCheck rfl) ?_)
    | (apply isAt
       first
         | apply At_then
         | apply At_then_ret
         | apply At_then_exit
         | apply At_block_normal
         | apply At_block_ret
         | apply At_block_hit
         | refine At_block_miss rfl ?_
         | refine At_end1 rfl rfl ?_
         | refine At_end1n rfl rfl ?_
         | refine At_end2 rfl rfl rfl ?_
         | refine At_mix (by (repeat (first | assumption | exact Below.refl _ _ | refine below_step ?_ (by assumption) | exact World.grownBy.refl _ _ | refine kp_below ?_ (by assumption) | refine kp_row ?_ (by assumption))); first | done | fail) ?_))
  refine W_loopF (fun m fr w' => ∃ (k : Nat) (last : Int), m = rows.length - k ∧ k ≤ rows.length ∧ fr = [(0, v), (3, .int .i64 last), (6, v), (7, .int .i64 rows.length), (8, .int .i64 k)] ∧ Below w.heap.size w w' ∧ 0 ≤ last ∧ last ≤ 3 ∧ diskOk bs = diskFrom last (bs.drop k)) rows.length
    [(0, v), (3, .int .i64 0), (6, v), (7, .int .i64 rows.length), (8, .int .i64 0)] (by repeat (first | exact get_nil_slots _ | refine get_cons_slots rfl ?_)) ⟨0, 0, rfl, Nat.zero_le _, rfl, (by (repeat (first | assumption | exact Below.refl _ _ | refine below_step ?_ (by assumption))); first | done | fail), by omega, by omega, rfl⟩ ?_
  rintro _ _ w' ⟨k, last, rfl, hk, rfl, hB, hl0, hl3, hf⟩
  repeat' (first
    | (apply isL
       first
         | apply L_nil
         | refine L_move rfl rfl ?_
         | (apply isGuarded
            first
              | refine L_guard_dec rfl rfl (fun hg => ?_) (fun hg => ?_)
              | refine L_guard_yes rfl rfl ?_
              | refine L_guard_no rfl rfl rfl rfl ?_
              | refine L_guard_undef rfl rfl rfl ?_
              | refine L_guard_split rfl rfl (fun hg => ?_) (fun hg => ?_))
         | (apply isCall
            first
              | refine L_lenL rfl (by (first | assumption | exact RdL.ext (by assumption) (by (repeat (first | assumption | refine below_step ?_ (by assumption))); first | done | fail) | exact OwL.rd (by assumption))) rfl (fun hlen => ?_)
              | refine L_do rfl rfl rfl (do_lenStr rfl) ?_
              | refine L_callV rfl rfl c_in (fun w2 hB2 => ?_)
              | refine L_callV rfl rfl (c_bytesValid (xs := b.safe) (by (first | assumption | exact RdL.ext (by assumption) (by (repeat (first | assumption | refine below_step ?_ (by assumption))); first | done | fail) | exact OwL.rd (by assumption)))) (fun w2 hB2 => ?_)
              | refine L_callV rfl rfl (c_bytesValid (xs := b.fresh) (by (first | assumption | exact RdL.ext (by assumption) (by (repeat (first | assumption | refine below_step ?_ (by assumption))); first | done | fail) | exact OwL.rd (by assumption)))) (fun w2 hB2 => ?_)
              )
         | (apply isBin
            first
              | refine L_do rfl rfl rfl (do_cmp rfl rfl rfl) ?_
              | refine L_do rfl rfl rfl (do_cmpStr rfl rfl rfl) ?_
              | refine L_do rfl rfl rfl (do_add rfl rfl (by omega)) ?_
              | refine L_do rfl rfl rfl (do_sub rfl rfl (by omega)) ?_
              | refine L_do rfl rfl rfl (do_eqBool TBool.und rfl rfl) ?_
              | refine L_do rfl rfl rfl (do_neBool TBool.und rfl rfl) ?_
              )
         | (apply isLoad
            first
              | refine L_loadPt rfl (by rfl) (by (first | assumption | exact Pt.ext (by assumption) (by (repeat (first | assumption | refine below_step ?_ (by assumption))); first | done | fail))) (by rfl) rfl ?_
              | refine L_loadPt0 rfl (by (first | assumption | exact Pt.ext (by assumption) (by (repeat (first | assumption | refine below_step ?_ (by assumption))); first | done | fail))) (by rfl) rfl ?_
              | refine L_loadAgg rfl (by (first | assumption | exact Pt.ext (by assumption) (by (repeat (first | assumption | refine below_step ?_ (by assumption))); first | done | fail))) (by rfl) rfl ?_)
         | refine L_assign rfl rfl ?_
         | refine L_do rfl rfl rfl (do_pick_true rfl rfl) ?_
         | refine L_do rfl rfl rfl (do_pick_false rfl rfl) ?_
         | refine L_do rfl rfl rfl (do_notDec rfl) ?_
         | refine L_do rfl rfl rfl (do_not rfl) ?_
         | refine L_do rfl rfl rfl (do_extract rfl rfl) ?_
         | refine L_do rfl rfl rfl (do_fieldAddr rfl) ?_
         | (apply isIndexAddr; refine L_indexL rfl rfl (xs := rows) (by (first | assumption | exact RdL.ext (by assumption) (by (repeat (first | assumption | refine below_step ?_ (by assumption))); first | done | fail) | exact OwL.rd (by assumption))) (by rfl) (by omega) (by omega) rfl (fun a y hy hab hp => ?_); obtain ⟨b, hb, hbr⟩ := h.at_ k _ hy; have hs := hbr.safe; have hfr := hbr.fresh; have hbs := hsm.2 b (List.mem_of_getElem? hb); have hst := diskFrom_cons (last := last) hb)
         | refine L_indexL rfl rfl (by (first | assumption | exact RdL.ext (by assumption) (by (repeat (first | assumption | refine below_step ?_ (by assumption))); first | done | fail) | exact OwL.rd (by assumption))) (by rfl) (by omega) (by omega) rfl (fun a y hy hab hp => ?_)
         | (apply isBox; refine L_boxV (w0 := w) (by (repeat (first | assumption | exact Below.refl _ _ | refine below_step ?_ (by assumption))); first | done | fail) rfl rfl (fun w1 hz1 hB hB1 hv => ?_); have hp := pt_of_block hv)
         | (apply isAllocStore; refine L_allocStoreV (w0 := w) (by (repeat (first | assumption | exact Below.refl _ _ | refine below_step ?_ (by assumption))); first | done | fail) rfl rfl rfl rfl ?_ rfl (fun w1 hz1 hB hB1 hv => ?_); (focus (first | exact Ty.one _ _ | simp [Value.oneCell'])); have hp := pt_of_block hv)
         )
    | (apply isLQ
       first
         | refine LQ_nil (fun w1 hBq => ?_)
         | apply LQ_mix
         | refine LQ_move rfl rfl ?_
         | (apply isGuardedQ
            first
              | refine LQ_guard_dec rfl rfl (fun hg => ?_) (fun hg => ?_)
              | refine LQ_guard_yes rfl rfl ?_
              | refine LQ_guard_no rfl rfl rfl rfl ?_
              | refine LQ_guard_undef rfl rfl rfl ?_
              | refine LQ_guard_split rfl rfl (fun hg => ?_) (fun hg => ?_))
         | (apply isCallQ
            first
              | refine LQ_lenL rfl (by (first | assumption | exact RdL.ext (by assumption) (by (repeat (first | assumption | refine below_step ?_ (by assumption))); first | done | fail) | exact OwL.rd (by assumption))) rfl (fun hlen => ?_)
              | refine LQ_do rfl rfl rfl (fun _ _ => do_lenStr rfl) ?_
              )
         | (apply isBinQ
            first
              | refine LQ_do rfl rfl rfl (fun _ _ => do_cmp rfl rfl rfl) ?_
              | refine LQ_do rfl rfl rfl (fun _ _ => do_cmpStr rfl rfl rfl) ?_
              | refine LQ_do rfl rfl rfl (fun _ _ => do_add rfl rfl (by omega)) ?_
              | refine LQ_do rfl rfl rfl (fun _ _ => do_sub rfl rfl (by omega)) ?_
              | refine LQ_do rfl rfl rfl (fun _ _ => do_eqBool TBool.und rfl rfl) ?_
              | refine LQ_do rfl rfl rfl (fun _ _ => do_neBool TBool.und rfl rfl) ?_
              )
         | (apply isLoadQ
            first
              | refine LQ_loadPt rfl (by rfl) (by (first | assumption | exact Pt.ext (by assumption) (by (repeat (first | assumption | refine below_step ?_ (by assumption))); first | done | fail))) (by rfl) rfl ?_
              | refine LQ_loadPt0 rfl (by (first | assumption | exact Pt.ext (by assumption) (by (repeat (first | assumption | refine below_step ?_ (by assumption))); first | done | fail))) (by rfl) rfl ?_
              | refine LQ_loadAgg rfl (by (first | assumption | exact Pt.ext (by assumption) (by (repeat (first | assumption | refine below_step ?_ (by assumption))); first | done | fail))) (by rfl) rfl ?_
              | refine RLQ_loadPt rfl (by rfl) (by (first | assumption | exact Pt.ext (by assumption) (by (repeat (first | assumption | refine below_step ?_ (by assumption))); first | done | fail))) (by rfl) (by first | assumption | (intro e; simp_all; done)) rfl ?_
              | refine RLQ_loadPt0 rfl (by (first | assumption | exact Pt.ext (by assumption) (by (repeat (first | assumption | refine below_step ?_ (by assumption))); first | done | fail))) (by rfl) (by first | assumption | (intro e; simp_all; done)) rfl ?_
              | refine RLQ_loadAgg rfl (by (first | assumption | exact Pt.ext (by assumption) (by (repeat (first | assumption | refine below_step ?_ (by assumption))); first | done | fail))) (by rfl) (by first | assumption | (intro e; simp_all; done)) rfl ?_)
         | refine LQ_assign rfl rfl ?_
         | refine LQ_do rfl rfl rfl (fun _ _ => do_pick_true rfl rfl) ?_
         | refine LQ_do rfl rfl rfl (fun _ _ => do_pick_false rfl rfl) ?_
         | refine LQ_do rfl rfl rfl (fun _ _ => do_notDec rfl) ?_
         | refine LQ_do rfl rfl rfl (fun _ _ => do_not rfl) ?_
         | refine LQ_do rfl rfl rfl (fun _ _ => do_extract rfl rfl) ?_
         | refine LQ_do rfl rfl rfl (fun _ _ => do_fieldAddr rfl) ?_
         | refine LQ_do rfl rfl rfl (fun _ _ => do_buildS rfl (by kernel_rfl)) ?_
         | refine LQ_indexL rfl rfl (by (first | assumption | exact RdL.ext (by assumption) (by (repeat (first | assumption | refine below_step ?_ (by assumption))); first | done | fail) | exact OwL.rd (by assumption))) (by rfl) (by omega) (by omega) rfl (fun a y hy hab hp => ?_))
    | (apply isW
       first
         | apply W_seq
         | apply W_region
         | refine W_region_Q mixed (by kernel_rfl) ?_
         | refine W_cond_dec rfl (fun hg => ?_) (fun hg => ?_)
         | refine W_cond_true rfl ?_
         | refine W_cond_false rfl ?_
         | refine W_cond rfl (fun hg => ?_) (fun hg => ?_)
         | apply W_skip
         | apply W_ret
         | apply W_exit
         | apply W_block)
    | (apply isLM
       first
         | apply LM_nil
         | refine LM_look rfl rfl ?_
         | refine LM_act rfl ?_
         | refine LM_both rfl rfl ?_ ?_
         | refine LM_do rfl rfl rfl rfl (fun _ _ => do_nilCheck rfl) ?_)
    | (apply isAt
       first
         | apply At_then
         | apply At_then_ret
         | apply At_then_exit
         | apply At_block_normal
         | apply At_block_ret
         | apply At_block_hit
         | refine At_block_miss rfl ?_
         | refine At_end1 rfl rfl ?_
         | refine At_end1n rfl rfl ?_
         | refine At_end2 rfl rfl rfl ?_
         | refine At_mix (by (repeat (first | assumption | exact Below.refl _ _ | refine below_step ?_ (by assumption) | exact World.grownBy.refl _ _ | refine kp_below ?_ (by assumption) | refine kp_row ?_ (by assumption))); first | done | fail) ?_))
  · refine ⟨?_, (by (repeat (first | assumption | exact Below.refl _ _ | refine below_step ?_ (by assumption))); first | done | fail)⟩
    rw [hf, hst, ← hbr.name, decide_eq_false hg]; rfl
  · refine ⟨?_, (by (repeat (first | assumption | exact Below.refl _ _ | refine below_step ?_ (by assumption))); first | done | fail)⟩
    have h1 : bytesOk b.safe = false := by simpa using hg
    rw [hf, hst]; simp [blOk, h1]
  · refine ⟨?_, (by (repeat (first | assumption | exact Below.refl _ _ | refine below_step ?_ (by assumption))); first | done | fail)⟩
    have h1 : bytesOk b.fresh = false := by simpa using hg
    rw [hf, hst]; simp [blOk, h1]
  · refine ⟨?_, (by (repeat (first | assumption | exact Below.refl _ _ | refine below_step ?_ (by assumption))); first | done | fail)⟩
    have h1 : ¬ b.safe.length + b.fresh.length ≤ 400 := by omega
    rw [hf, hst]; simp [blOk, h1]
  · have h1 : b.safe.length + b.fresh.length ≤ 400 := by omega
    have h2 : last + 1 ≤ b.name ∧ b.name ≤ 3 := by rw [← hbr.name]; exact Classical.not_not.1 (by assumption)
    have h3 : bytesOk b.safe = true := by have : (!bytesOk b.safe) = false := by assumption
                                          simpa using this
    have h4 : bytesOk b.fresh = true := by have : (!bytesOk b.fresh) = false := by assumption
                                           simpa using this
    refine At_round _ [(0, v), (3, .int .i64 b.name), (6, v), (7, .int .i64 rows.length), (8, .int .i64 ((k + 1 : Nat) : Int))] (by rw [← hbr.name]; exact (by repeat (first | exact get_nil_slots _ | refine get_cons_slots rfl ?_))) (by omega) ⟨k + 1, b.name, rfl, by omega, rfl, (by (repeat (first | assumption | exact Below.refl _ _ | refine below_step ?_ (by assumption))); first | done | fail), by omega, by omega, ?_⟩
    rw [hf, hst]; simp [blOk, h1, h2, h3, h4]
  · refine ⟨?_, hB⟩
    rw [hf, List.drop_eq_nil_of_le (by omega)]; rfl

/-- the name before place k -/
def prevName (bs : List Bl) : Nat → Int
  | 0 => 0
  | k + 1 => ((bs[k]?).map (·.name)).getD 0
theorem prevName_eq {v : Value} {rows : List Row3} {bs : List Bl} {w : World} (h : RdBl w v rows bs) {k : Nat} (hk : 0 < k) {y : Row3} {i : Int} (hi : i = (k : Int) - 1) (hy : rows[i.toNat]? = some y) : prevName bs k = y.name := by
  obtain ⟨j, rfl⟩ : ∃ j, k = j + 1 := ⟨k - 1, by omega⟩
  have e : i.toNat = j := by omega
  rw [e] at hy
  obtain ⟨b, hb, hr⟩ := h.at_ j y hy
  simp [prevName, hb, hr.name]
theorem prevName_succ {bs : List Bl} {k : Nat} {b : Bl} (hb : bs[k]? = some b) : prevName bs (k + 1) = b.name := by simp [prevName, hb]
theorem c_specDiskValid {v : Value} {rows : List Row3} {bs : List Bl} {w : World} (h : RdBl w v rows bs) (hsm : Small bs) : Cl Try.prog 10 [v] w (V w (.bool (diskOk bs))) := by
  refine calls_start 56 Try.func10 rfl rfl rfl ?_
  have hrd := h.rd
  have hln := h.len
  have hsz := hsm.1
  repeat' (first
    | (apply isL
       first
         | apply L_nil
         | refine L_move rfl rfl ?_
         | (apply isGuarded
            first
              | refine L_guard_dec rfl rfl (fun hg => ?_) (fun hg => ?_)
              | refine L_guard_yes rfl rfl ?_
              | refine L_guard_no rfl rfl rfl rfl ?_
              | refine L_guard_undef rfl rfl rfl ?_
              | refine L_guard_split rfl rfl (fun hg => ?_) (fun hg => ?_))
         | (apply isCall
            first
              | refine L_lenL rfl (by (first | assumption | exact RdL.ext (by assumption) (by (repeat (first | assumption | refine below_step ?_ (by assumption))); first | done | fail) | exact OwL.rd (by assumption))) rfl (fun hlen => ?_)
              | refine L_do rfl rfl rfl (do_lenStr rfl) ?_
              )
         | (apply isBin
            first
              | refine L_do rfl rfl rfl (do_cmp rfl rfl rfl) ?_
              | refine L_do rfl rfl rfl (do_cmpStr rfl rfl rfl) ?_
              | refine L_do rfl rfl rfl (do_add rfl rfl (by omega)) ?_
              | refine L_do rfl rfl rfl (do_sub rfl rfl (by omega)) ?_
              | refine L_do rfl rfl rfl (do_eqBool TBool.und rfl rfl) ?_
              | refine L_do rfl rfl rfl (do_neBool TBool.und rfl rfl) ?_
              )
         | (apply isLoad
            first
              | refine L_loadPt rfl (by rfl) (by (first | assumption | exact Pt.ext (by assumption) (by (repeat (first | assumption | refine below_step ?_ (by assumption))); first | done | fail))) (by rfl) rfl ?_
              | refine L_loadPt0 rfl (by (first | assumption | exact Pt.ext (by assumption) (by (repeat (first | assumption | refine below_step ?_ (by assumption))); first | done | fail))) (by rfl) rfl ?_
              | refine L_loadAgg rfl (by (first | assumption | exact Pt.ext (by assumption) (by (repeat (first | assumption | refine below_step ?_ (by assumption))); first | done | fail))) (by rfl) rfl ?_)
         | refine L_assign rfl rfl ?_
         | refine L_do rfl rfl rfl (do_pick_true rfl rfl) ?_
         | refine L_do rfl rfl rfl (do_pick_false rfl rfl) ?_
         | refine L_do rfl rfl rfl (do_notDec rfl) ?_
         | refine L_do rfl rfl rfl (do_not rfl) ?_
         | refine L_do rfl rfl rfl (do_extract rfl rfl) ?_
         | refine L_do rfl rfl rfl (do_fieldAddr rfl) ?_
         | refine L_indexL rfl rfl (by (first | assumption | exact RdL.ext (by assumption) (by (repeat (first | assumption | refine below_step ?_ (by assumption))); first | done | fail) | exact OwL.rd (by assumption))) (by rfl) (by omega) (by omega) rfl (fun a y hy hab hp => ?_)
         | (apply isBox; refine L_boxV (w0 := w) (by (repeat (first | assumption | exact Below.refl _ _ | refine below_step ?_ (by assumption))); first | done | fail) rfl rfl (fun w1 hz1 hB hB1 hv => ?_); have hp := pt_of_block hv)
         | (apply isAllocStore; refine L_allocStoreV (w0 := w) (by (repeat (first | assumption | exact Below.refl _ _ | refine below_step ?_ (by assumption))); first | done | fail) rfl rfl rfl rfl ?_ rfl (fun w1 hz1 hB hB1 hv => ?_); (focus (first | exact Ty.one _ _ | simp [Value.oneCell'])); have hp := pt_of_block hv)
         )
    | (apply isLQ
       first
         | refine LQ_nil (fun w1 hBq => ?_)
         | apply LQ_mix
         | refine LQ_move rfl rfl ?_
         | (apply isGuardedQ
            first
              | refine LQ_guard_dec rfl rfl (fun hg => ?_) (fun hg => ?_)
              | refine LQ_guard_yes rfl rfl ?_
              | refine LQ_guard_no rfl rfl rfl rfl ?_
              | refine LQ_guard_undef rfl rfl rfl ?_
              | refine LQ_guard_split rfl rfl (fun hg => ?_) (fun hg => ?_))
         | (apply isCallQ
            first
              | refine LQ_lenL rfl (by (first | assumption | exact RdL.ext (by assumption) (by (repeat (first | assumption | refine below_step ?_ (by assumption))); first | done | fail) | exact OwL.rd (by assumption))) rfl (fun hlen => ?_)
              | refine LQ_do rfl rfl rfl (fun _ _ => do_lenStr rfl) ?_
              )
         | (apply isBinQ
            first
              | refine LQ_do rfl rfl rfl (fun _ _ => do_cmp rfl rfl rfl) ?_
              | refine LQ_do rfl rfl rfl (fun _ _ => do_cmpStr rfl rfl rfl) ?_
              | refine LQ_do rfl rfl rfl (fun _ _ => do_add rfl rfl (by omega)) ?_
              | refine LQ_do rfl rfl rfl (fun _ _ => do_sub rfl rfl (by omega)) ?_
              | refine LQ_do rfl rfl rfl (fun _ _ => do_eqBool TBool.und rfl rfl) ?_
              | refine LQ_do rfl rfl rfl (fun _ _ => do_neBool TBool.und rfl rfl) ?_
              )
         | (apply isLoadQ
            first
              | refine LQ_loadPt rfl (by rfl) (by (first | assumption | exact Pt.ext (by assumption) (by (repeat (first | assumption | refine below_step ?_ (by assumption))); first | done | fail))) (by rfl) rfl ?_
              | refine LQ_loadPt0 rfl (by (first | assumption | exact Pt.ext (by assumption) (by (repeat (first | assumption | refine below_step ?_ (by assumption))); first | done | fail))) (by rfl) rfl ?_
              | refine LQ_loadAgg rfl (by (first | assumption | exact Pt.ext (by assumption) (by (repeat (first | assumption | refine below_step ?_ (by assumption))); first | done | fail))) (by rfl) rfl ?_
              | refine RLQ_loadPt rfl (by rfl) (by (first | assumption | exact Pt.ext (by assumption) (by (repeat (first | assumption | refine below_step ?_ (by assumption))); first | done | fail))) (by rfl) (by first | assumption | (intro e; simp_all; done)) rfl ?_
              | refine RLQ_loadPt0 rfl (by (first | assumption | exact Pt.ext (by assumption) (by (repeat (first | assumption | refine below_step ?_ (by assumption))); first | done | fail))) (by rfl) (by first | assumption | (intro e; simp_all; done)) rfl ?_
              | refine RLQ_loadAgg rfl (by (first | assumption | exact Pt.ext (by assumption) (by (repeat (first | assumption | refine below_step ?_ (by assumption))); first | done | fail))) (by rfl) (by first | assumption | (intro e; simp_all; done)) rfl ?_)
         | refine LQ_assign rfl rfl ?_
         | refine LQ_do rfl rfl rfl (fun _ _ => do_pick_true rfl rfl) ?_
         | refine LQ_do rfl rfl rfl (fun _ _ => do_pick_false rfl rfl) ?_
         | refine LQ_do rfl rfl rfl (fun _ _ => do_notDec rfl) ?_
         | refine LQ_do rfl rfl rfl (fun _ _ => do_not rfl) ?_
         | refine LQ_do rfl rfl rfl (fun _ _ => do_extract rfl rfl) ?_
         | refine LQ_do rfl rfl rfl (fun _ _ => do_fieldAddr rfl) ?_
         | refine LQ_do rfl rfl rfl (fun _ _ => do_buildS rfl (by kernel_rfl)) ?_
         | refine LQ_indexL rfl rfl (by (first | assumption | exact RdL.ext (by assumption) (by (repeat (first | assumption | refine below_step ?_ (by assumption))); first | done | fail) | exact OwL.rd (by assumption))) (by rfl) (by omega) (by omega) rfl (fun a y hy hab hp => ?_))
    | (apply isW
       first
         | apply W_seq
         | apply W_region
         | refine W_region_Q mixed (by kernel_rfl) ?_
         | refine W_cond_dec rfl (fun hg => ?_) (fun hg => ?_)
         | refine W_cond_true rfl ?_
         | refine W_cond_false rfl ?_
         | refine W_cond rfl (fun hg => ?_) (fun hg => ?_)
         | apply W_skip
         | apply W_ret
         | apply W_exit
         | apply W_block)
    | (apply isLM
       first
         | apply LM_nil
         | refine LM_look rfl rfl ?_
         | refine LM_act rfl ?_
         | refine LM_both rfl rfl ?_ ?_
         | refine LM_do rfl rfl rfl rfl (fun _ _ => do_nilCheck rfl) ?_)
    | (apply isAt
       first
         | apply At_then
         | apply At_then_ret
         | apply At_then_exit
         | apply At_block_normal
         | apply At_block_ret
         | apply At_block_hit
         | refine At_block_miss rfl ?_
         | refine At_end1 rfl rfl ?_
         | refine At_end1n rfl rfl ?_
         | refine At_end2 rfl rfl rfl ?_
         | refine At_mix (by (repeat (first | assumption | exact Below.refl _ _ | refine below_step ?_ (by assumption) | exact World.grownBy.refl _ _ | refine kp_below ?_ (by assumption) | refine kp_row ?_ (by assumption))); first | done | fail) ?_))
  refine W_loopF (fun m fr w' => ∃ (k : Nat), m = rows.length - k ∧ k ≤ rows.length ∧ fr = [(0, v), (3, .int .i64 k)] ∧ Below w.heap.size w w' ∧ 0 ≤ prevName bs k ∧ prevName bs k ≤ 3 ∧ diskOk bs = diskFrom (prevName bs k) (bs.drop k)) rows.length
    [(0, v), (3, .int .i64 0)] (by repeat (first | exact get_nil_slots _ | refine get_cons_slots rfl ?_)) ⟨0, rfl, Nat.zero_le _, rfl, (by (repeat (first | assumption | exact Below.refl _ _ | refine below_step ?_ (by assumption))); first | done | fail), by simp [prevName], by simp [prevName], rfl⟩ ?_
  rintro _ _ w' ⟨k, rfl, hk, rfl, hB, hl0, hl3, hf⟩
  repeat' (first
    | (apply isL
       first
         | apply L_nil
         | refine L_move rfl rfl ?_
         | (apply isGuarded
            first
              | refine L_guard_dec rfl rfl (fun hg => ?_) (fun hg => ?_)
              | refine L_guard_yes rfl rfl ?_
              | refine L_guard_no rfl rfl rfl rfl ?_
              | refine L_guard_undef rfl rfl rfl ?_
              | refine L_guard_split rfl rfl (fun hg => ?_) (fun hg => ?_))
         | (apply isCall
            first
              | refine L_lenL rfl (by (first | assumption | exact RdL.ext (by assumption) (by (repeat (first | assumption | refine below_step ?_ (by assumption))); first | done | fail) | exact OwL.rd (by assumption))) rfl (fun hlen => ?_)
              | refine L_do rfl rfl rfl (do_lenStr rfl) ?_
              )
         | (apply isBin
            first
              | refine L_do rfl rfl rfl (do_cmp rfl rfl rfl) ?_
              | refine L_do rfl rfl rfl (do_cmpStr rfl rfl rfl) ?_
              | refine L_do rfl rfl rfl (do_add rfl rfl (by omega)) ?_
              | refine L_do rfl rfl rfl (do_sub rfl rfl (by omega)) ?_
              | refine L_do rfl rfl rfl (do_eqBool TBool.und rfl rfl) ?_
              | refine L_do rfl rfl rfl (do_neBool TBool.und rfl rfl) ?_
              )
         | (apply isLoad
            first
              | refine L_loadPt rfl (by rfl) (by (first | assumption | exact Pt.ext (by assumption) (by (repeat (first | assumption | refine below_step ?_ (by assumption))); first | done | fail))) (by rfl) rfl ?_
              | refine L_loadPt0 rfl (by (first | assumption | exact Pt.ext (by assumption) (by (repeat (first | assumption | refine below_step ?_ (by assumption))); first | done | fail))) (by rfl) rfl ?_
              | refine L_loadAgg rfl (by (first | assumption | exact Pt.ext (by assumption) (by (repeat (first | assumption | refine below_step ?_ (by assumption))); first | done | fail))) (by rfl) rfl ?_)
         | refine L_assign rfl rfl ?_
         | refine L_do rfl rfl rfl (do_pick_true rfl rfl) ?_
         | refine L_do rfl rfl rfl (do_pick_false rfl rfl) ?_
         | refine L_do rfl rfl rfl (do_notDec rfl) ?_
         | refine L_do rfl rfl rfl (do_not rfl) ?_
         | refine L_do rfl rfl rfl (do_extract rfl rfl) ?_
         | refine L_do rfl rfl rfl (do_fieldAddr rfl) ?_
         | (apply isIndexAddr; refine L_indexL rfl rfl (xs := rows) (by (first | assumption | exact RdL.ext (by assumption) (by (repeat (first | assumption | refine below_step ?_ (by assumption))); first | done | fail) | exact OwL.rd (by assumption))) (by rfl) (by omega) (by omega) rfl (fun a y hy hab hp => ?_); obtain ⟨b, hb, hbr⟩ := h.at_ k _ hy; have hs := hbr.safe; have hfr := hbr.fresh; have hbs := hsm.2 b (List.mem_of_getElem? hb); have hst := diskFrom_cons (last := prevName bs k) hb)
         | refine L_indexL rfl rfl (by (first | assumption | exact RdL.ext (by assumption) (by (repeat (first | assumption | refine below_step ?_ (by assumption))); first | done | fail) | exact OwL.rd (by assumption))) (by rfl) (by omega) (by omega) rfl (fun a y hy hab hp => ?_)
         | (apply isBox; refine L_boxV (w0 := w) (by (repeat (first | assumption | exact Below.refl _ _ | refine below_step ?_ (by assumption))); first | done | fail) rfl rfl (fun w1 hz1 hB hB1 hv => ?_); have hp := pt_of_block hv)
         | (apply isAllocStore; refine L_allocStoreV (w0 := w) (by (repeat (first | assumption | exact Below.refl _ _ | refine below_step ?_ (by assumption))); first | done | fail) rfl rfl rfl rfl ?_ rfl (fun w1 hz1 hB hB1 hv => ?_); (focus (first | exact Ty.one _ _ | simp [Value.oneCell'])); have hp := pt_of_block hv)
         )
    | (apply isLQ
       first
         | refine LQ_nil (fun w1 hBq => ?_)
         | apply LQ_mix
         | refine LQ_move rfl rfl ?_
         | (apply isGuardedQ
            first
              | refine LQ_guard_dec rfl rfl (fun hg => ?_) (fun hg => ?_)
              | refine LQ_guard_yes rfl rfl ?_
              | refine LQ_guard_no rfl rfl rfl rfl ?_
              | refine LQ_guard_undef rfl rfl rfl ?_
              | refine LQ_guard_split rfl rfl (fun hg => ?_) (fun hg => ?_))
         | (apply isCallQ
            first
              | refine LQ_lenL rfl (by (first | assumption | exact RdL.ext (by assumption) (by (repeat (first | assumption | refine below_step ?_ (by assumption))); first | done | fail) | exact OwL.rd (by assumption))) rfl (fun hlen => ?_)
              | refine LQ_do rfl rfl rfl (fun _ _ => do_lenStr rfl) ?_
              | refine LQ_callV rfl rfl (fun w2 hB2 => c_l6In) ?_
              | refine LQ_callV rfl rfl (fun w2 hB2 => c_l4Bytes (xs := b.safe) (RdL.ext (by (first | assumption | exact RdL.ext (by assumption) (by (repeat (first | assumption | refine below_step ?_ (by assumption))); first | done | fail) | exact OwL.rd (by assumption))) hB2)) ?_
              | refine LQ_callV rfl rfl (fun w2 hB2 => c_l4Bytes (xs := b.fresh) (RdL.ext (by (first | assumption | exact RdL.ext (by assumption) (by (repeat (first | assumption | refine below_step ?_ (by assumption))); first | done | fail) | exact OwL.rd (by assumption))) hB2)) ?_
              )
         | (apply isBinQ
            first
              | refine LQ_do rfl rfl rfl (fun _ _ => do_cmp rfl rfl rfl) ?_
              | refine LQ_do rfl rfl rfl (fun _ _ => do_cmpStr rfl rfl rfl) ?_
              | refine LQ_do rfl rfl rfl (fun _ _ => do_add rfl rfl (by omega)) ?_
              | refine LQ_do rfl rfl rfl (fun _ _ => do_sub rfl rfl (by omega)) ?_
              | refine LQ_do rfl rfl rfl (fun _ _ => do_eqBool TBool.und rfl rfl) ?_
              | refine LQ_do rfl rfl rfl (fun _ _ => do_neBool TBool.und rfl rfl) ?_
              )
         | (apply isLoadQ
            first
              | refine LQ_loadPt rfl (by rfl) (by (first | assumption | exact Pt.ext (by assumption) (by (repeat (first | assumption | refine below_step ?_ (by assumption))); first | done | fail))) (by rfl) rfl ?_
              | refine LQ_loadPt0 rfl (by (first | assumption | exact Pt.ext (by assumption) (by (repeat (first | assumption | refine below_step ?_ (by assumption))); first | done | fail))) (by rfl) rfl ?_
              | refine LQ_loadAgg rfl (by (first | assumption | exact Pt.ext (by assumption) (by (repeat (first | assumption | refine below_step ?_ (by assumption))); first | done | fail))) (by rfl) rfl ?_
              | refine RLQ_loadPt rfl (by rfl) (by (first | assumption | exact Pt.ext (by assumption) (by (repeat (first | assumption | refine below_step ?_ (by assumption))); first | done | fail))) (by rfl) (by first | assumption | (intro e; simp_all; done)) rfl ?_
              | refine RLQ_loadPt0 rfl (by (first | assumption | exact Pt.ext (by assumption) (by (repeat (first | assumption | refine below_step ?_ (by assumption))); first | done | fail))) (by rfl) (by first | assumption | (intro e; simp_all; done)) rfl ?_
              | refine RLQ_loadAgg rfl (by (first | assumption | exact Pt.ext (by assumption) (by (repeat (first | assumption | refine below_step ?_ (by assumption))); first | done | fail))) (by rfl) (by first | assumption | (intro e; simp_all; done)) rfl ?_)
         | refine LQ_assign rfl rfl ?_
         | refine LQ_do rfl rfl rfl (fun _ _ => do_pick_true rfl rfl) ?_
         | refine LQ_do rfl rfl rfl (fun _ _ => do_pick_false rfl rfl) ?_
         | refine LQ_do rfl rfl rfl (fun _ _ => do_notDec rfl) ?_
         | refine LQ_do rfl rfl rfl (fun _ _ => do_not rfl) ?_
         | refine LQ_do rfl rfl rfl (fun _ _ => do_extract rfl rfl) ?_
         | refine LQ_do rfl rfl rfl (fun _ _ => do_fieldAddr rfl) ?_
         | refine LQ_do rfl rfl rfl (fun _ _ => do_buildS rfl (by kernel_rfl)) ?_
         | refine LQ_indexL rfl rfl (by (first | assumption | exact RdL.ext (by assumption) (by (repeat (first | assumption | refine below_step ?_ (by assumption))); first | done | fail) | exact OwL.rd (by assumption))) (by rfl) (by omega) (by omega) rfl (fun a y hy hab hp => ?_))
    | (apply isW
       first
         | apply W_seq
         | apply W_region
         | refine W_region_Q mixed (by kernel_rfl) ?_
         | refine W_cond_dec rfl (fun hg => ?_) (fun hg => ?_)
         | refine W_cond_true rfl ?_
         | refine W_cond_false rfl ?_
         | refine W_cond rfl (fun hg => ?_) (fun hg => ?_)
         | apply W_skip
         | apply W_ret
         | apply W_exit
         | apply W_block)
    | (apply isLM
       first
         | apply LM_nil
         | refine LM_look rfl rfl ?_
         | refine LM_act rfl ?_
         | refine LM_both rfl rfl ?_ ?_
         | refine LM_do rfl rfl rfl rfl (fun _ _ => do_nilCheck rfl) ?_)
    | (apply isAt
       first
         | apply At_then
         | apply At_then_ret
         | apply At_then_exit
         | apply At_block_normal
         | apply At_block_ret
         | apply At_block_hit
         | refine At_block_miss rfl ?_
         | refine At_end1 rfl rfl ?_
         | refine At_end1n rfl rfl ?_
         | refine At_end2 rfl rfl rfl ?_
         | refine At_mix (by (repeat (first | assumption | exact Below.refl _ _ | refine below_step ?_ (by assumption) | exact World.grownBy.refl _ _ | refine kp_below ?_ (by assumption) | refine kp_row ?_ (by assumption))); first | done | fail) ?_))
  · refine ⟨?_, (by (repeat (first | assumption | exact Below.refl _ _ | refine below_step ?_ (by assumption))); first | done | fail)⟩
    have h1 : ¬ (prevName bs k + 1 ≤ b.name ∧ b.name ≤ 3) := by rw [← hbr.name]; omega
    rw [hf, hst, decide_eq_false h1]; rfl
  · refine ⟨?_, (by (repeat (first | assumption | exact Below.refl _ _ | refine below_step ?_ (by assumption))); first | done | fail)⟩
    have h1 : bytesOk b.safe = false := by have : (!bytesOk b.safe) = true := by assumption
                                           simpa using this
    rw [hf, hst]; simp [blOk, h1]
  · refine ⟨?_, (by (repeat (first | assumption | exact Below.refl _ _ | refine below_step ?_ (by assumption))); first | done | fail)⟩
    have h1 : bytesOk b.fresh = false := by have : (!bytesOk b.fresh) = true := by assumption
                                            simpa using this
    rw [hf, hst]; simp [blOk, h1]
  · refine ⟨?_, (by (repeat (first | assumption | exact Below.refl _ _ | refine below_step ?_ (by assumption))); first | done | fail)⟩
    have h1 : ¬ b.safe.length + b.fresh.length ≤ 400 := by omega
    rw [hf, hst]; simp [blOk, h1]
  · refine ⟨?_, (by (repeat (first | assumption | exact Below.refl _ _ | refine below_step ?_ (by assumption))); first | done | fail)⟩
    have hpv := prevName_eq h (by omega) rfl hy
    have h1 : ¬ (prevName bs k + 1 ≤ b.name ∧ b.name ≤ 3) := by rw [← hbr.name]; omega
    rw [hf, hst, decide_eq_false h1]; rfl
  · have hpv := prevName_eq h (by omega) rfl hy
    have hnm := hbr.name
    have h1 : b.safe.length + b.fresh.length ≤ 400 := by omega
    have h2 : prevName bs k + 1 ≤ b.name ∧ b.name ≤ 3 := by omega
    have h3 : bytesOk b.safe = true := by have : (!bytesOk b.safe) = false := by assumption
                                          simpa using this
    have h4 : bytesOk b.fresh = true := by have : (!bytesOk b.fresh) = false := by assumption
                                           simpa using this
    refine At_round _ [(0, v), (3, .int .i64 ((k + 1 : Nat) : Int))] (by repeat (first | exact get_nil_slots _ | refine get_cons_slots rfl ?_)) (by omega) ⟨k + 1, rfl, by omega, rfl, (by (repeat (first | assumption | exact Below.refl _ _ | refine below_step ?_ (by assumption))); first | done | fail), by rw [prevName_succ hb]; omega, by rw [prevName_succ hb]; omega, ?_⟩
    rw [hf, hst, prevName_succ hb]; simp [blOk, h1, h2, h3, h4]
  · have hk0 : k = 0 := by omega
    have hnm := hbr.name
    have hp0 : prevName bs k = 0 := by subst hk0; rfl
    have h1 : b.safe.length + b.fresh.length ≤ 400 := by omega
    have h2 : prevName bs k + 1 ≤ b.name ∧ b.name ≤ 3 := by omega
    have h3 : bytesOk b.safe = true := by have : (!bytesOk b.safe) = false := by assumption
                                          simpa using this
    have h4 : bytesOk b.fresh = true := by have : (!bytesOk b.fresh) = false := by assumption
                                           simpa using this
    refine At_round _ [(0, v), (3, .int .i64 ((k + 1 : Nat) : Int))] (by repeat (first | exact get_nil_slots _ | refine get_cons_slots rfl ?_)) (by omega) ⟨k + 1, rfl, by omega, rfl, (by (repeat (first | assumption | exact Below.refl _ _ | refine below_step ?_ (by assumption))); first | done | fail), by rw [prevName_succ hb]; omega, by rw [prevName_succ hb]; omega, ?_⟩
    rw [hf, hst, prevName_succ hb]; simp [blOk, h1, h2, h3, h4]
  · refine ⟨?_, hB⟩
    rw [hf, List.drop_eq_nil_of_le (by omega)]; rfl

end Go.Proofs.Ytomhhfeakpompaa
