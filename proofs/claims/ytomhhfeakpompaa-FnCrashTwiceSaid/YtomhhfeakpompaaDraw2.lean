/-
  Contracts of the draws: bytes, a disk.
-/
import Derived.Test.YtomhhfeakpompaaDraw
namespace Go.Proofs.Ytomhhfeakpompaa
open Go Go.RowKit
set_option linter.unusedVariables false

theorem Rdr.ext {w w' : World} {g p : Nat} (h : Rdr w g p) (hB : Below w.heap.size w w') : Rdr w' g p := by
  obtain ⟨v, bs, h1, h2, h3⟩ := h.blk
  exact ⟨v, bs, (hB.block g (Array.getElem?_eq_some_iff.1 h1).1).trans h1, h2.ext hB, h3⟩
theorem Rdr.lt {w : World} {g p : Nat} (h : Rdr w g p) : g < w.heap.size := by
  obtain ⟨v, bs, h1, _⟩ := h.blk
  exact (Array.getElem?_eq_some_iff.1 h1).1
/-- Another block changes. -/
theorem Rdr.grown {w w' : World} {g p base e : Nat} {α : Type} {T : Ty α} {v : Value} {xs : List α} (h : Rdr w g p) (hO : OwL T w base e v xs) (hb : g < base) (hg : w.grownBy w' v.ownBlock) : Rdr w' g p := by
  obtain ⟨u, bs, h1, h2, h3, h4⟩ := h.blk
  refine ⟨u, bs, (hg.block g (Array.getElem?_eq_some_iff.1 h1).1 (fun e => by have := (hO.lt g e.symm).1; omega)).trans h1, ?_, h3, h4⟩
  by_cases he : bs = []
  · exact rdl_empty h2 he
  · exact h2.grown hg (fun b hb' e => by have := (hO.lt b e.symm).1; have := h3 he b hb'; omega)

theorem c_l92Bytes {g p : Nat} {w : World} (h : Rdr w g p) (hp : p ≤ 1000000) :
    Cl Try.prog 42 [.pointer (some ⟨g, 0, none⟩)] w (fun u w' => ∃ (xs : List Int) (p' : Nat), OwL tInt w' w.heap.size 3 u xs ∧ xs.length ≤ 200 ∧ Rdr w' g p' ∧ p' ≤ p + 210 ∧ w.grownBy w' (some g)) := by
  refine calls_start 40 Try.func42 rfl rfl rfl ?_
  repeat' (first
    | (apply isL
       first
         | apply L_nil
         | refine L_move rfl rfl ?_
         | (apply isGuarded
            first
              | refine L_guard_dec rfl rfl (fun hg => ?_) (fun hg => ?_)
              | refine L_guard_yes rfl rfl ?_
              | refine L_guard_no rfl rfl rfl rfl ?_
              | refine L_guard_undef rfl rfl rfl ?_
              | refine L_guard_split rfl rfl (fun hg => ?_) (fun hg => ?_))
         | (apply isCall
            first
              | refine L_lenL rfl (by (first | assumption | exact RdL.ext (by assumption) (by (repeat (first | assumption | refine below_step ?_ (by assumption))); first | done | fail) | exact OwL.rd (by assumption))) rfl (fun hlen => ?_)
              | refine L_do rfl rfl rfl (do_lenStr rfl) ?_
              | (refine L_call rfl rfl (c_pick (by first | assumption | exact Rdr.ext (by assumption) (by assumption)) (by omega) (by omega)) (fun _ w2 hR => ?_); obtain ⟨k2, rfl, hk0, hkn, hr2, hg2⟩ := hR)
              )
         | (apply isBin
            first
              | refine L_do rfl rfl rfl (do_cmp rfl rfl rfl) ?_
              | refine L_do rfl rfl rfl (do_cmpStr rfl rfl rfl) ?_
              | refine L_do rfl rfl rfl (do_add rfl rfl (by omega)) ?_
              | refine L_do rfl rfl rfl (do_sub rfl rfl (by omega)) ?_
              | refine L_do rfl rfl rfl (do_eqBool TBool.und rfl rfl) ?_
              | refine L_do rfl rfl rfl (do_neBool TBool.und rfl rfl) ?_
              )
         | (apply isLoad
            first
              | refine L_loadPt rfl (by rfl) (by (first | assumption | exact Pt.ext (by assumption) (by (repeat (first | assumption | refine below_step ?_ (by assumption))); first | done | fail))) (by rfl) rfl ?_
              | refine L_loadPt0 rfl (by (first | assumption | exact Pt.ext (by assumption) (by (repeat (first | assumption | refine below_step ?_ (by assumption))); first | done | fail))) (by rfl) rfl ?_
              | refine L_loadAgg rfl (by (first | assumption | exact Pt.ext (by assumption) (by (repeat (first | assumption | refine below_step ?_ (by assumption))); first | done | fail))) (by rfl) rfl ?_)
         | refine L_assign rfl rfl ?_
         | refine L_do rfl rfl rfl (do_pick_true rfl rfl) ?_
         | refine L_do rfl rfl rfl (do_pick_false rfl rfl) ?_
         | refine L_do rfl rfl rfl (do_notDec rfl) ?_
         | refine L_do rfl rfl rfl (do_not rfl) ?_
         | refine L_do rfl rfl rfl (do_extract rfl rfl) ?_
         | refine L_do rfl rfl rfl (do_fieldAddr rfl) ?_
         | refine L_buildSlice0G tInt w.heap.size (Nat.le_refl _) rfl (fun w1 hO1 hB1 => ?_)
         | refine L_indexL rfl rfl (by (first | assumption | exact RdL.ext (by assumption) (by (repeat (first | assumption | refine below_step ?_ (by assumption))); first | done | fail) | exact OwL.rd (by assumption))) (by rfl) (by omega) (by omega) rfl (fun a y hy hab hp => ?_)
         | (apply isBox; refine L_boxV (w0 := w) (by (repeat (first | assumption | exact Below.refl _ _ | refine below_step ?_ (by assumption))); first | done | fail) rfl rfl (fun w1 hz1 hB hB1 hv => ?_); have hp := pt_of_block hv)
         | (apply isAllocStore; refine L_allocStoreV (w0 := w) (by (repeat (first | assumption | exact Below.refl _ _ | refine below_step ?_ (by assumption))); first | done | fail) rfl rfl rfl rfl ?_ rfl (fun w1 hz1 hB hB1 hv => ?_); (focus (first | exact Ty.one _ _ | simp [Value.oneCell'])); have hp := pt_of_block hv)
         )
    | (apply isLQ
       first
         | refine LQ_nil (fun w1 hBq => ?_)
         | apply LQ_mix
         | refine LQ_move rfl rfl ?_
         | (apply isGuardedQ
            first
              | refine LQ_guard_dec rfl rfl (fun hg => ?_) (fun hg => ?_)
              | refine LQ_guard_yes rfl rfl ?_
              | refine LQ_guard_no rfl rfl rfl rfl ?_
              | refine LQ_guard_undef rfl rfl rfl ?_
              | refine LQ_guard_split rfl rfl (fun hg => ?_) (fun hg => ?_))
         | (apply isCallQ
            first
              | refine LQ_lenL rfl (by (first | assumption | exact RdL.ext (by assumption) (by (repeat (first | assumption | refine below_step ?_ (by assumption))); first | done | fail) | exact OwL.rd (by assumption))) rfl (fun hlen => ?_)
              | refine LQ_do rfl rfl rfl (fun _ _ => do_lenStr rfl) ?_
              )
         | (apply isBinQ
            first
              | refine LQ_do rfl rfl rfl (fun _ _ => do_cmp rfl rfl rfl) ?_
              | refine LQ_do rfl rfl rfl (fun _ _ => do_cmpStr rfl rfl rfl) ?_
              | refine LQ_do rfl rfl rfl (fun _ _ => do_add rfl rfl (by omega)) ?_
              | refine LQ_do rfl rfl rfl (fun _ _ => do_sub rfl rfl (by omega)) ?_
              | refine LQ_do rfl rfl rfl (fun _ _ => do_eqBool TBool.und rfl rfl) ?_
              | refine LQ_do rfl rfl rfl (fun _ _ => do_neBool TBool.und rfl rfl) ?_
              )
         | (apply isLoadQ
            first
              | refine LQ_loadPt rfl (by rfl) (by (first | assumption | exact Pt.ext (by assumption) (by (repeat (first | assumption | refine below_step ?_ (by assumption))); first | done | fail))) (by rfl) rfl ?_
              | refine LQ_loadPt0 rfl (by (first | assumption | exact Pt.ext (by assumption) (by (repeat (first | assumption | refine below_step ?_ (by assumption))); first | done | fail))) (by rfl) rfl ?_
              | refine LQ_loadAgg rfl (by (first | assumption | exact Pt.ext (by assumption) (by (repeat (first | assumption | refine below_step ?_ (by assumption))); first | done | fail))) (by rfl) rfl ?_
              | refine RLQ_loadPt rfl (by rfl) (by (first | assumption | exact Pt.ext (by assumption) (by (repeat (first | assumption | refine below_step ?_ (by assumption))); first | done | fail))) (by rfl) (by first | assumption | (intro e; simp_all; done)) rfl ?_
              | refine RLQ_loadPt0 rfl (by (first | assumption | exact Pt.ext (by assumption) (by (repeat (first | assumption | refine below_step ?_ (by assumption))); first | done | fail))) (by rfl) (by first | assumption | (intro e; simp_all; done)) rfl ?_
              | refine RLQ_loadAgg rfl (by (first | assumption | exact Pt.ext (by assumption) (by (repeat (first | assumption | refine below_step ?_ (by assumption))); first | done | fail))) (by rfl) (by first | assumption | (intro e; simp_all; done)) rfl ?_)
         | refine LQ_assign rfl rfl ?_
         | refine LQ_do rfl rfl rfl (fun _ _ => do_pick_true rfl rfl) ?_
         | refine LQ_do rfl rfl rfl (fun _ _ => do_pick_false rfl rfl) ?_
         | refine LQ_do rfl rfl rfl (fun _ _ => do_notDec rfl) ?_
         | refine LQ_do rfl rfl rfl (fun _ _ => do_not rfl) ?_
         | refine LQ_do rfl rfl rfl (fun _ _ => do_extract rfl rfl) ?_
         | refine LQ_do rfl rfl rfl (fun _ _ => do_fieldAddr rfl) ?_
         | refine LQ_do rfl rfl rfl (fun _ _ => do_buildS rfl (by kernel_rfl)) ?_
         | refine LQ_indexL rfl rfl (by (first | assumption | exact RdL.ext (by assumption) (by (repeat (first | assumption | refine below_step ?_ (by assumption))); first | done | fail) | exact OwL.rd (by assumption))) (by rfl) (by omega) (by omega) rfl (fun a y hy hab hp => ?_))
    | (apply isW
       first
         | apply W_seq
         | apply W_region
         | refine W_region_Q mixed (by kernel_rfl) ?_
         | refine W_cond_dec rfl (fun hg => ?_) (fun hg => ?_)
         | refine W_cond_true rfl ?_
         | refine W_cond_false rfl ?_
         | refine W_cond rfl (fun hg => ?_) (fun hg => ?_)
         | apply W_skip
         | apply W_ret
         | apply W_exit
         | apply W_block)
    | (apply isLM
       first
         | apply LM_nil
         | refine LM_look rfl rfl ?_
         | refine LM_act rfl ?_
         | refine LM_both rfl rfl ?_ ?_
         | refine LM_do rfl rfl rfl rfl (fun _ _ => do_nilCheck rfl) ?_)
    | (apply isAt
       first
         | apply At_then
         | apply At_then_ret
         | apply At_then_exit
         | apply At_block_normal
         | apply At_block_ret
         | apply At_block_hit
         | refine At_block_miss rfl ?_
         | refine At_end1 rfl rfl ?_
         | refine At_end1n rfl rfl ?_
         | refine At_end2 rfl rfl rfl ?_
         | refine At_mix (by (repeat (first | assumption | exact Below.refl _ _ | refine below_step ?_ (by assumption) | exact World.grownBy.refl _ _ | refine kp_below ?_ (by assumption) | refine kp_row ?_ (by assumption))); first | done | fail) ?_))
  focus (rename_i w0 k0 hk00 hkn0 hr0 hg0; generalize hN0 : (200 : Int) = N0; have hN : 0 ≤ N0 ∧ N0 ≤ 200 := by omega)
  rotate_left
  focus (rename_i w0 N0 hk00 hkn0 hr0 hg0; have hN : 0 ≤ N0 ∧ N0 ≤ 200 := by omega)
  all_goals
    have hO2 := ((hO1.kept hg0 (hO1.ne_ h.lt)).kept hg2 (OwL.ne_ (hO1.kept hg0 (hO1.ne_ h.lt)) h.lt))
    refine W_loopF (fun m fr w' => ∃ (k : Nat) (v : Value) (xs : List Int) (p' : Nat), m = 200 - k ∧ (k : Int) ≤ N0 ∧ fr = [(0, .pointer (some ⟨g, 0, none⟩)), (3, v), (4, .int .i64 N0), (5, .int .i64 k)] ∧ OwL tInt w' w.heap.size 3 v xs ∧ xs.length = k ∧ Rdr w' g p' ∧ p' ≤ p + 2 + k ∧ w.grownBy w' (some g)) 200
      [(0, .pointer (some ⟨g, 0, none⟩)), (3, .slice (some ⟨w.heap.size, 0, none⟩) 0 0), (4, .int .i64 N0), (5, .int .i64 0)] (by repeat (first | exact get_nil_slots _ | refine get_cons_slots rfl ?_)) ⟨0, _, [], _, rfl, by omega, rfl, hO2, rfl, hr2, by omega, kp_row (kp_row (kp_below (World.grownBy.refl _ _) hB1) hg0) hg2⟩ ?_
    clear hO2 hr2 hg2 hr0 hg0 hO1 hB1
    rintro _ _ w' ⟨k, v, xs, p', rfl, hk, rfl, hO, hxl, hr', hp', hgw⟩
    repeat' (first
      | (apply isL
         first
           | apply L_nil
           | refine L_move rfl rfl ?_
           | (apply isGuarded
              first
                | refine L_guard_dec rfl rfl (fun hg => ?_) (fun hg => ?_)
                | refine L_guard_yes rfl rfl ?_
                | refine L_guard_no rfl rfl rfl rfl ?_
                | refine L_guard_undef rfl rfl rfl ?_
                | refine L_guard_split rfl rfl (fun hg => ?_) (fun hg => ?_))
           | (apply isCall
              first
                | refine L_lenL rfl (by (first | assumption | exact RdL.ext (by assumption) (by (repeat (first | assumption | refine below_step ?_ (by assumption))); first | done | fail) | exact OwL.rd (by assumption))) rfl (fun hlen => ?_)
                | refine L_do rfl rfl rfl (do_lenStr rfl) ?_
                | (refine L_call rfl rfl (c_pick hr' (by omega) (by omega)) (fun _ w2 hR => ?_); obtain ⟨k2, rfl, hk0, hkn, hr2, hg2⟩ := hR; have hO2 := hO.kept hg2 (hO.ne_ h.lt))
                | refine L_appendG rfl rfl (Nat.le_trans hgw.size (Nat.le_trans hg2.size hB3.size)) (hO2.ext hB3) hO3.rd rfl (by simp; omega) (by simp; omega) rfl (fun v4 w4 hO4 hg4 => ?_)
                )
           | (apply isBin
              first
                | refine L_do rfl rfl rfl (do_cmp rfl rfl rfl) ?_
                | refine L_do rfl rfl rfl (do_cmpStr rfl rfl rfl) ?_
                | refine L_do rfl rfl rfl (do_add rfl rfl (by omega)) ?_
                | refine L_do rfl rfl rfl (do_sub rfl rfl (by omega)) ?_
                | refine L_do rfl rfl rfl (do_eqBool TBool.und rfl rfl) ?_
                | refine L_do rfl rfl rfl (do_neBool TBool.und rfl rfl) ?_
                )
           | (apply isLoad
              first
                | refine L_loadPt rfl (by rfl) (by (first | assumption | exact Pt.ext (by assumption) (by (repeat (first | assumption | refine below_step ?_ (by assumption))); first | done | fail))) (by rfl) rfl ?_
                | refine L_loadPt0 rfl (by (first | assumption | exact Pt.ext (by assumption) (by (repeat (first | assumption | refine below_step ?_ (by assumption))); first | done | fail))) (by rfl) rfl ?_
                | refine L_loadAgg rfl (by (first | assumption | exact Pt.ext (by assumption) (by (repeat (first | assumption | refine below_step ?_ (by assumption))); first | done | fail))) (by rfl) rfl ?_)
           | refine L_assign rfl rfl ?_
           | refine L_do rfl rfl rfl (do_pick_true rfl rfl) ?_
           | refine L_do rfl rfl rfl (do_pick_false rfl rfl) ?_
           | refine L_do rfl rfl rfl (do_notDec rfl) ?_
           | refine L_do rfl rfl rfl (do_not rfl) ?_
           | refine L_do rfl rfl rfl (do_extract rfl rfl) ?_
           | refine L_do rfl rfl rfl (do_fieldAddr rfl) ?_
           | refine L_buildSliceKG tInt [k2] w2.heap.size (Nat.le_refl _) rfl rfl rfl rfl rfl (by exact fill1 _) rfl rfl (fun w3 hO3 hB3 => ?_)
           | refine L_indexL rfl rfl (by (first | assumption | exact RdL.ext (by assumption) (by (repeat (first | assumption | refine below_step ?_ (by assumption))); first | done | fail) | exact OwL.rd (by assumption))) (by rfl) (by omega) (by omega) rfl (fun a y hy hab hp => ?_)
           | (apply isBox; refine L_boxV (w0 := w) (by (repeat (first | assumption | exact Below.refl _ _ | refine below_step ?_ (by assumption))); first | done | fail) rfl rfl (fun w1 hz1 hB hB1 hv => ?_); have hp := pt_of_block hv)
           | (apply isAllocStore; refine L_allocStoreV (w0 := w) (by (repeat (first | assumption | exact Below.refl _ _ | refine below_step ?_ (by assumption))); first | done | fail) rfl rfl rfl rfl ?_ rfl (fun w1 hz1 hB hB1 hv => ?_); (focus (first | exact Ty.one _ _ | simp [Value.oneCell'])); have hp := pt_of_block hv)
           )
      | (apply isLQ
         first
           | refine LQ_nil (fun w1 hBq => ?_)
           | apply LQ_mix
           | refine LQ_move rfl rfl ?_
           | (apply isGuardedQ
              first
                | refine LQ_guard_dec rfl rfl (fun hg => ?_) (fun hg => ?_)
                | refine LQ_guard_yes rfl rfl ?_
                | refine LQ_guard_no rfl rfl rfl rfl ?_
                | refine LQ_guard_undef rfl rfl rfl ?_
                | refine LQ_guard_split rfl rfl (fun hg => ?_) (fun hg => ?_))
           | (apply isCallQ
              first
                | refine LQ_lenL rfl (by (first | assumption | exact RdL.ext (by assumption) (by (repeat (first | assumption | refine below_step ?_ (by assumption))); first | done | fail) | exact OwL.rd (by assumption))) rfl (fun hlen => ?_)
                | refine LQ_do rfl rfl rfl (fun _ _ => do_lenStr rfl) ?_
                )
           | (apply isBinQ
              first
                | refine LQ_do rfl rfl rfl (fun _ _ => do_cmp rfl rfl rfl) ?_
                | refine LQ_do rfl rfl rfl (fun _ _ => do_cmpStr rfl rfl rfl) ?_
                | refine LQ_do rfl rfl rfl (fun _ _ => do_add rfl rfl (by omega)) ?_
                | refine LQ_do rfl rfl rfl (fun _ _ => do_sub rfl rfl (by omega)) ?_
                | refine LQ_do rfl rfl rfl (fun _ _ => do_eqBool TBool.und rfl rfl) ?_
                | refine LQ_do rfl rfl rfl (fun _ _ => do_neBool TBool.und rfl rfl) ?_
                )
           | (apply isLoadQ
              first
                | refine LQ_loadPt rfl (by rfl) (by (first | assumption | exact Pt.ext (by assumption) (by (repeat (first | assumption | refine below_step ?_ (by assumption))); first | done | fail))) (by rfl) rfl ?_
                | refine LQ_loadPt0 rfl (by (first | assumption | exact Pt.ext (by assumption) (by (repeat (first | assumption | refine below_step ?_ (by assumption))); first | done | fail))) (by rfl) rfl ?_
                | refine LQ_loadAgg rfl (by (first | assumption | exact Pt.ext (by assumption) (by (repeat (first | assumption | refine below_step ?_ (by assumption))); first | done | fail))) (by rfl) rfl ?_
                | refine RLQ_loadPt rfl (by rfl) (by (first | assumption | exact Pt.ext (by assumption) (by (repeat (first | assumption | refine below_step ?_ (by assumption))); first | done | fail))) (by rfl) (by first | assumption | (intro e; simp_all; done)) rfl ?_
                | refine RLQ_loadPt0 rfl (by (first | assumption | exact Pt.ext (by assumption) (by (repeat (first | assumption | refine below_step ?_ (by assumption))); first | done | fail))) (by rfl) (by first | assumption | (intro e; simp_all; done)) rfl ?_
                | refine RLQ_loadAgg rfl (by (first | assumption | exact Pt.ext (by assumption) (by (repeat (first | assumption | refine below_step ?_ (by assumption))); first | done | fail))) (by rfl) (by first | assumption | (intro e; simp_all; done)) rfl ?_)
           | refine LQ_assign rfl rfl ?_
           | refine LQ_do rfl rfl rfl (fun _ _ => do_pick_true rfl rfl) ?_
           | refine LQ_do rfl rfl rfl (fun _ _ => do_pick_false rfl rfl) ?_
           | refine LQ_do rfl rfl rfl (fun _ _ => do_notDec rfl) ?_
           | refine LQ_do rfl rfl rfl (fun _ _ => do_not rfl) ?_
           | refine LQ_do rfl rfl rfl (fun _ _ => do_extract rfl rfl) ?_
           | refine LQ_do rfl rfl rfl (fun _ _ => do_fieldAddr rfl) ?_
           | refine LQ_do rfl rfl rfl (fun _ _ => do_buildS rfl (by kernel_rfl)) ?_
           | refine LQ_indexL rfl rfl (by (first | assumption | exact RdL.ext (by assumption) (by (repeat (first | assumption | refine below_step ?_ (by assumption))); first | done | fail) | exact OwL.rd (by assumption))) (by rfl) (by omega) (by omega) rfl (fun a y hy hab hp => ?_))
      | (apply isW
         first
           | apply W_seq
           | apply W_region
           | refine W_region_Q mixed (by kernel_rfl) ?_
           | refine W_cond_dec rfl (fun hg => ?_) (fun hg => ?_)
           | refine W_cond_true rfl ?_
           | refine W_cond_false rfl ?_
           | refine W_cond rfl (fun hg => ?_) (fun hg => ?_)
           | apply W_skip
           | apply W_ret
           | apply W_exit
           | apply W_block)
      | (apply isLM
         first
           | apply LM_nil
           | refine LM_look rfl rfl ?_
           | refine LM_act rfl ?_
           | refine LM_both rfl rfl ?_ ?_
           | refine LM_do rfl rfl rfl rfl (fun _ _ => do_nilCheck rfl) ?_)
      | (apply isAt
         first
           | apply At_then
           | apply At_then_ret
           | apply At_then_exit
           | apply At_block_normal
           | apply At_block_ret
           | apply At_block_hit
           | refine At_block_miss rfl ?_
           | refine At_end1 rfl rfl ?_
           | refine At_end1n rfl rfl ?_
           | refine At_end2 rfl rfl rfl ?_
           | refine At_mix (by (repeat (first | assumption | exact Below.refl _ _ | refine below_step ?_ (by assumption) | exact World.grownBy.refl _ _ | refine kp_below ?_ (by assumption) | refine kp_row ?_ (by assumption))); first | done | fail) ?_))
    · refine At_round _ [(0, .pointer (some ⟨g, 0, none⟩)), (3, v4), (4, .int .i64 N0), (5, .int .i64 ((k + 1 : Nat) : Int))] (by repeat (first | exact get_nil_slots _ | refine get_cons_slots rfl ?_)) (by omega) ⟨k + 1, v4, xs ++ [k2], p' + 1, rfl, by omega, rfl, hO4, by simp; omega, (hr2.ext hB3).grown (hO2.ext hB3) h.lt hg4, by omega, ?_⟩
      exact kp_own (kp_below (kp_row hgw hg2) hB3) hg4 (fun b hb => ((hO2.ext hB3).lt b hb).1)
    · repeat' (first
        | (apply isL
           first
             | apply L_nil
             | refine L_move rfl rfl ?_
             | (apply isGuarded
                first
                  | refine L_guard_dec rfl rfl (fun hg => ?_) (fun hg => ?_)
                  | refine L_guard_yes rfl rfl ?_
                  | refine L_guard_no rfl rfl rfl rfl ?_
                  | refine L_guard_undef rfl rfl rfl ?_
                  | refine L_guard_split rfl rfl (fun hg => ?_) (fun hg => ?_))
             | (apply isCall
                first
                  | refine L_lenL rfl (by (first | assumption | exact RdL.ext (by assumption) (by (repeat (first | assumption | refine below_step ?_ (by assumption))); first | done | fail) | exact OwL.rd (by assumption))) rfl (fun hlen => ?_)
                  | refine L_do rfl rfl rfl (do_lenStr rfl) ?_
                  | (refine L_call rfl rfl (c_pick hr2 (by omega) (by omega)) (fun _ w5 hR => ?_); obtain ⟨k5, rfl, hk50, hk5n, hr5, hg5⟩ := hR; have hO5 := hO2.kept hg5 (hO2.ne_ h.lt))
                  | (refine L_call rfl rfl (c_pick (hr5.ext hB6) (by omega) (by omega)) (fun _ w7 hR => ?_); obtain ⟨k7, rfl, hk70, hk7n, hr7, hg7⟩ := hR; have hR7 := (hO6.kept hg7 (hO6.ne_ (Nat.lt_of_lt_of_le hr2.lt hg5.size))).rd; have hO7 := (hO5.ext hB6).kept hg7 ((hO5.ext hB6).ne_ h.lt))
                  )
             | (apply isBin
                first
                  | refine L_do rfl rfl rfl (do_cmp rfl rfl rfl) ?_
                  | refine L_do rfl rfl rfl (do_cmpStr rfl rfl rfl) ?_
                  | refine L_do rfl rfl rfl (do_add rfl rfl (by omega)) ?_
                  | refine L_do rfl rfl rfl (do_sub rfl rfl (by omega)) ?_
                  | refine L_do rfl rfl rfl (do_eqBool TBool.und rfl rfl) ?_
                  | refine L_do rfl rfl rfl (do_neBool TBool.und rfl rfl) ?_
                  )
             | (apply isLoad
                first
                  | refine L_loadPt rfl (by rfl) (by (first | assumption | exact Pt.ext (by assumption) (by (repeat (first | assumption | refine below_step ?_ (by assumption))); first | done | fail))) (by rfl) rfl ?_
                  | refine L_loadPt0 rfl (by (first | assumption | exact Pt.ext (by assumption) (by (repeat (first | assumption | refine below_step ?_ (by assumption))); first | done | fail))) (by rfl) rfl ?_
                  | refine L_loadAgg rfl (by (first | assumption | exact Pt.ext (by assumption) (by (repeat (first | assumption | refine below_step ?_ (by assumption))); first | done | fail))) (by rfl) rfl ?_)
             | refine L_assign rfl rfl ?_
             | refine L_do rfl rfl rfl (do_pick_true rfl rfl) ?_
             | refine L_do rfl rfl rfl (do_pick_false rfl rfl) ?_
             | refine L_do rfl rfl rfl (do_notDec rfl) ?_
             | refine L_do rfl rfl rfl (do_not rfl) ?_
             | refine L_do rfl rfl rfl (do_extract rfl rfl) ?_
             | refine L_do rfl rfl rfl (do_fieldAddr rfl) ?_
             | refine L_buildSliceKG tInt [-1, 256] w5.heap.size (Nat.le_refl _) rfl rfl rfl rfl rfl (by exact fill2 _ _) rfl rfl (fun w6 hO6 hB6 => ?_)
             | refine L_indexL rfl rfl hR7 (by rfl) (by omega) (by simp; omega) rfl (fun a y hy hab hp => ?_)
             | refine L_indexOwn rfl rfl hO7 rfl (by omega) (by omega) rfl (fun ge ye hye hge => ?_)
             | refine L_storeElemG (off := 0) rfl rfl hO7 rfl hge hye (cs := [.int .i64 y]) rfl rfl (by simp [Value.oneCell']) (Nat.le_of_ble_eq_true rfl) (y1 := y) rfl (fun w8 hO8 hg8 hz8 => ?_)
             | refine L_indexL rfl rfl (by (first | assumption | exact RdL.ext (by assumption) (by (repeat (first | assumption | refine below_step ?_ (by assumption))); first | done | fail) | exact OwL.rd (by assumption))) (by rfl) (by omega) (by omega) rfl (fun a y hy hab hp => ?_)
             | (apply isBox; refine L_boxV (w0 := w) (by (repeat (first | assumption | exact Below.refl _ _ | refine below_step ?_ (by assumption))); first | done | fail) rfl rfl (fun w1 hz1 hB hB1 hv => ?_); have hp := pt_of_block hv)
             | (apply isAllocStore; refine L_allocStoreV (w0 := w) (by (repeat (first | assumption | exact Below.refl _ _ | refine below_step ?_ (by assumption))); first | done | fail) rfl rfl rfl rfl ?_ rfl (fun w1 hz1 hB hB1 hv => ?_); (focus (first | exact Ty.one _ _ | simp [Value.oneCell'])); have hp := pt_of_block hv)
             )
        | (apply isLQ
           first
             | refine LQ_nil (fun w1 hBq => ?_)
             | apply LQ_mix
             | refine LQ_move rfl rfl ?_
             | (apply isGuardedQ
                first
                  | refine LQ_guard_dec rfl rfl (fun hg => ?_) (fun hg => ?_)
                  | refine LQ_guard_yes rfl rfl ?_
                  | refine LQ_guard_no rfl rfl rfl rfl ?_
                  | refine LQ_guard_undef rfl rfl rfl ?_
                  | refine LQ_guard_split rfl rfl (fun hg => ?_) (fun hg => ?_))
             | (apply isCallQ
                first
                  | refine LQ_lenL rfl (by (first | assumption | exact RdL.ext (by assumption) (by (repeat (first | assumption | refine below_step ?_ (by assumption))); first | done | fail) | exact OwL.rd (by assumption))) rfl (fun hlen => ?_)
                  | refine LQ_do rfl rfl rfl (fun _ _ => do_lenStr rfl) ?_
                  )
             | (apply isBinQ
                first
                  | refine LQ_do rfl rfl rfl (fun _ _ => do_cmp rfl rfl rfl) ?_
                  | refine LQ_do rfl rfl rfl (fun _ _ => do_cmpStr rfl rfl rfl) ?_
                  | refine LQ_do rfl rfl rfl (fun _ _ => do_add rfl rfl (by omega)) ?_
                  | refine LQ_do rfl rfl rfl (fun _ _ => do_sub rfl rfl (by omega)) ?_
                  | refine LQ_do rfl rfl rfl (fun _ _ => do_eqBool TBool.und rfl rfl) ?_
                  | refine LQ_do rfl rfl rfl (fun _ _ => do_neBool TBool.und rfl rfl) ?_
                  )
             | (apply isLoadQ
                first
                  | refine LQ_loadPt rfl (by rfl) (by (first | assumption | exact Pt.ext (by assumption) (by (repeat (first | assumption | refine below_step ?_ (by assumption))); first | done | fail))) (by rfl) rfl ?_
                  | refine LQ_loadPt0 rfl (by (first | assumption | exact Pt.ext (by assumption) (by (repeat (first | assumption | refine below_step ?_ (by assumption))); first | done | fail))) (by rfl) rfl ?_
                  | refine LQ_loadAgg rfl (by (first | assumption | exact Pt.ext (by assumption) (by (repeat (first | assumption | refine below_step ?_ (by assumption))); first | done | fail))) (by rfl) rfl ?_
                  | refine RLQ_loadPt rfl (by rfl) (by (first | assumption | exact Pt.ext (by assumption) (by (repeat (first | assumption | refine below_step ?_ (by assumption))); first | done | fail))) (by rfl) (by first | assumption | (intro e; simp_all; done)) rfl ?_
                  | refine RLQ_loadPt0 rfl (by (first | assumption | exact Pt.ext (by assumption) (by (repeat (first | assumption | refine below_step ?_ (by assumption))); first | done | fail))) (by rfl) (by first | assumption | (intro e; simp_all; done)) rfl ?_
                  | refine RLQ_loadAgg rfl (by (first | assumption | exact Pt.ext (by assumption) (by (repeat (first | assumption | refine below_step ?_ (by assumption))); first | done | fail))) (by rfl) (by first | assumption | (intro e; simp_all; done)) rfl ?_)
             | refine LQ_assign rfl rfl ?_
             | refine LQ_do rfl rfl rfl (fun _ _ => do_pick_true rfl rfl) ?_
             | refine LQ_do rfl rfl rfl (fun _ _ => do_pick_false rfl rfl) ?_
             | refine LQ_do rfl rfl rfl (fun _ _ => do_notDec rfl) ?_
             | refine LQ_do rfl rfl rfl (fun _ _ => do_not rfl) ?_
             | refine LQ_do rfl rfl rfl (fun _ _ => do_extract rfl rfl) ?_
             | refine LQ_do rfl rfl rfl (fun _ _ => do_fieldAddr rfl) ?_
             | refine LQ_do rfl rfl rfl (fun _ _ => do_buildS rfl (by kernel_rfl)) ?_
             | refine LQ_indexL rfl rfl (by (first | assumption | exact RdL.ext (by assumption) (by (repeat (first | assumption | refine below_step ?_ (by assumption))); first | done | fail) | exact OwL.rd (by assumption))) (by rfl) (by omega) (by omega) rfl (fun a y hy hab hp => ?_))
        | (apply isW
           first
             | apply W_seq
             | apply W_region
             | refine W_region_Q mixed (by kernel_rfl) ?_
             | refine W_cond_dec rfl (fun hg => ?_) (fun hg => ?_)
             | refine W_cond_true rfl ?_
             | refine W_cond_false rfl ?_
             | refine W_cond rfl (fun hg => ?_) (fun hg => ?_)
             | apply W_skip
             | apply W_ret
             | apply W_exit
             | apply W_block)
        | (apply isLM
           first
             | apply LM_nil
             | refine LM_look rfl rfl ?_
             | refine LM_act rfl ?_
             | refine LM_both rfl rfl ?_ ?_
             | refine LM_do rfl rfl rfl rfl (fun _ _ => do_nilCheck rfl) ?_)
        | (apply isAt
           first
             | apply At_then
             | apply At_then_ret
             | apply At_then_exit
             | apply At_block_normal
             | apply At_block_ret
             | apply At_block_hit
             | refine At_block_miss rfl ?_
             | refine At_end1 rfl rfl ?_
             | refine At_end1n rfl rfl ?_
             | refine At_end2 rfl rfl rfl ?_
             | refine At_mix (by (repeat (first | assumption | exact Below.refl _ _ | refine below_step ?_ (by assumption) | exact World.grownBy.refl _ _ | refine kp_below ?_ (by assumption) | refine kp_row ?_ (by assumption))); first | done | fail) ?_))
      refine ⟨_, _, hO8, by simp; omega, hr7.grown hO7 h.lt (by rw [hge]; exact hg8), by omega, ?_⟩
      exact kp_own (kp_row (kp_below (kp_row (kp_row hgw hg2) hg5) hB6) hg7) hg8 (fun b hb => (hO7.lt b (hge.trans hb)).1)
    · exact ⟨_, _, hO2, by omega, hr2, by omega, kp_row hgw hg2⟩
    · exact ⟨_, _, hO, by omega, hr', by omega, hgw⟩

/-! ### Files -/
def Few (n : Nat) (bs : List Bl) : Prop := bs.length ≤ n ∧ ∀ b ∈ bs, b.safe.length ≤ 200 ∧ b.fresh.length ≤ 200

theorem Few.app {n : Nat} {bs : List Bl} {b : Bl} (h : Few n bs) (h1 : b.safe.length ≤ 200) (h2 : b.fresh.length ≤ 200) : Few (n + 1) (bs ++ [b]) := by
  refine ⟨by simp; exact h.1, fun c hc => ?_⟩
  rcases List.mem_append.1 hc with hc | hc
  · exact h.2 c hc
  · simp at hc; subst hc; exact ⟨h1, h2⟩
theorem Few.mono {m n : Nat} {bs : List Bl} (h : Few m bs) (hmn : m ≤ n) : Few n bs := ⟨Nat.le_trans h.1 hmn, h.2⟩
theorem c_l92Disk {g p : Nat} {w : World} (h : Rdr w g p) (hp : p ≤ 100000) :
    Cl Try.prog 25 [.pointer (some ⟨g, 0, none⟩)] w (fun u w' => ∃ (rows : List Row3) (bs : List Bl) (p' : Nat), OwBl w' w.heap.size u rows bs ∧ Few 4 bs ∧ Rdr w' g p' ∧ p' ≤ p + 2000 ∧ w.grownBy w' (some g)) := by
  refine calls_start 48 Try.func25 rfl rfl rfl ?_
  repeat' (first
    | (apply isL
       first
         | apply L_nil
         | refine L_move rfl rfl ?_
         | (apply isGuarded
            first
              | refine L_guard_dec rfl rfl (fun hg => ?_) (fun hg => ?_)
              | refine L_guard_yes rfl rfl ?_
              | refine L_guard_no rfl rfl rfl rfl ?_
              | refine L_guard_undef rfl rfl rfl ?_
              | refine L_guard_split rfl rfl (fun hg => ?_) (fun hg => ?_))
         | (apply isCall
            first
              | refine L_lenL rfl (by (first | assumption | exact RdL.ext (by assumption) (by (repeat (first | assumption | refine below_step ?_ (by assumption))); first | done | fail) | exact OwL.rd (by assumption))) rfl (fun hlen => ?_)
              | refine L_do rfl rfl rfl (do_lenStr rfl) ?_
              )
         | (apply isBin
            first
              | refine L_do rfl rfl rfl (do_cmp rfl rfl rfl) ?_
              | refine L_do rfl rfl rfl (do_cmpStr rfl rfl rfl) ?_
              | refine L_do rfl rfl rfl (do_add rfl rfl (by omega)) ?_
              | refine L_do rfl rfl rfl (do_sub rfl rfl (by omega)) ?_
              | refine L_do rfl rfl rfl (do_eqBool TBool.und rfl rfl) ?_
              | refine L_do rfl rfl rfl (do_neBool TBool.und rfl rfl) ?_
              )
         | (apply isLoad
            first
              | refine L_loadPt rfl (by rfl) (by (first | assumption | exact Pt.ext (by assumption) (by (repeat (first | assumption | refine below_step ?_ (by assumption))); first | done | fail))) (by rfl) rfl ?_
              | refine L_loadPt0 rfl (by (first | assumption | exact Pt.ext (by assumption) (by (repeat (first | assumption | refine below_step ?_ (by assumption))); first | done | fail))) (by rfl) rfl ?_
              | refine L_loadAgg rfl (by (first | assumption | exact Pt.ext (by assumption) (by (repeat (first | assumption | refine below_step ?_ (by assumption))); first | done | fail))) (by rfl) rfl ?_)
         | refine L_assign rfl rfl ?_
         | refine L_do rfl rfl rfl (do_pick_true rfl rfl) ?_
         | refine L_do rfl rfl rfl (do_pick_false rfl rfl) ?_
         | refine L_do rfl rfl rfl (do_notDec rfl) ?_
         | refine L_do rfl rfl rfl (do_not rfl) ?_
         | refine L_do rfl rfl rfl (do_extract rfl rfl) ?_
         | refine L_do rfl rfl rfl (do_fieldAddr rfl) ?_
         | refine L_buildSlice0G tRow3 w.heap.size (Nat.le_refl _) rfl (fun w1 hO1 hB1 => ?_)
         | refine L_indexL rfl rfl (by (first | assumption | exact RdL.ext (by assumption) (by (repeat (first | assumption | refine below_step ?_ (by assumption))); first | done | fail) | exact OwL.rd (by assumption))) (by rfl) (by omega) (by omega) rfl (fun a y hy hab hp => ?_)
         | (apply isBox; refine L_boxV (w0 := w) (by (repeat (first | assumption | exact Below.refl _ _ | refine below_step ?_ (by assumption))); first | done | fail) rfl rfl (fun w1 hz1 hB hB1 hv => ?_); have hp := pt_of_block hv)
         | (apply isAllocStore; refine L_allocStoreV (w0 := w) (by (repeat (first | assumption | exact Below.refl _ _ | refine below_step ?_ (by assumption))); first | done | fail) rfl rfl rfl rfl ?_ rfl (fun w1 hz1 hB hB1 hv => ?_); (focus (first | exact Ty.one _ _ | simp [Value.oneCell'])); have hp := pt_of_block hv)
         )
    | (apply isLQ
       first
         | refine LQ_nil (fun w1 hBq => ?_)
         | apply LQ_mix
         | refine LQ_move rfl rfl ?_
         | (apply isGuardedQ
            first
              | refine LQ_guard_dec rfl rfl (fun hg => ?_) (fun hg => ?_)
              | refine LQ_guard_yes rfl rfl ?_
              | refine LQ_guard_no rfl rfl rfl rfl ?_
              | refine LQ_guard_undef rfl rfl rfl ?_
              | refine LQ_guard_split rfl rfl (fun hg => ?_) (fun hg => ?_))
         | (apply isCallQ
            first
              | refine LQ_lenL rfl (by (first | assumption | exact RdL.ext (by assumption) (by (repeat (first | assumption | refine below_step ?_ (by assumption))); first | done | fail) | exact OwL.rd (by assumption))) rfl (fun hlen => ?_)
              | refine LQ_do rfl rfl rfl (fun _ _ => do_lenStr rfl) ?_
              )
         | (apply isBinQ
            first
              | refine LQ_do rfl rfl rfl (fun _ _ => do_cmp rfl rfl rfl) ?_
              | refine LQ_do rfl rfl rfl (fun _ _ => do_cmpStr rfl rfl rfl) ?_
              | refine LQ_do rfl rfl rfl (fun _ _ => do_add rfl rfl (by omega)) ?_
              | refine LQ_do rfl rfl rfl (fun _ _ => do_sub rfl rfl (by omega)) ?_
              | refine LQ_do rfl rfl rfl (fun _ _ => do_eqBool TBool.und rfl rfl) ?_
              | refine LQ_do rfl rfl rfl (fun _ _ => do_neBool TBool.und rfl rfl) ?_
              )
         | (apply isLoadQ
            first
              | refine LQ_loadPt rfl (by rfl) (by (first | assumption | exact Pt.ext (by assumption) (by (repeat (first | assumption | refine below_step ?_ (by assumption))); first | done | fail))) (by rfl) rfl ?_
              | refine LQ_loadPt0 rfl (by (first | assumption | exact Pt.ext (by assumption) (by (repeat (first | assumption | refine below_step ?_ (by assumption))); first | done | fail))) (by rfl) rfl ?_
              | refine LQ_loadAgg rfl (by (first | assumption | exact Pt.ext (by assumption) (by (repeat (first | assumption | refine below_step ?_ (by assumption))); first | done | fail))) (by rfl) rfl ?_
              | refine RLQ_loadPt rfl (by rfl) (by (first | assumption | exact Pt.ext (by assumption) (by (repeat (first | assumption | refine below_step ?_ (by assumption))); first | done | fail))) (by rfl) (by first | assumption | (intro e; simp_all; done)) rfl ?_
              | refine RLQ_loadPt0 rfl (by (first | assumption | exact Pt.ext (by assumption) (by (repeat (first | assumption | refine below_step ?_ (by assumption))); first | done | fail))) (by rfl) (by first | assumption | (intro e; simp_all; done)) rfl ?_
              | refine RLQ_loadAgg rfl (by (first | assumption | exact Pt.ext (by assumption) (by (repeat (first | assumption | refine below_step ?_ (by assumption))); first | done | fail))) (by rfl) (by first | assumption | (intro e; simp_all; done)) rfl ?_)
         | refine LQ_assign rfl rfl ?_
         | refine LQ_do rfl rfl rfl (fun _ _ => do_pick_true rfl rfl) ?_
         | refine LQ_do rfl rfl rfl (fun _ _ => do_pick_false rfl rfl) ?_
         | refine LQ_do rfl rfl rfl (fun _ _ => do_notDec rfl) ?_
         | refine LQ_do rfl rfl rfl (fun _ _ => do_not rfl) ?_
         | refine LQ_do rfl rfl rfl (fun _ _ => do_extract rfl rfl) ?_
         | refine LQ_do rfl rfl rfl (fun _ _ => do_fieldAddr rfl) ?_
         | refine LQ_do rfl rfl rfl (fun _ _ => do_buildS rfl (by kernel_rfl)) ?_
         | refine LQ_indexL rfl rfl (by (first | assumption | exact RdL.ext (by assumption) (by (repeat (first | assumption | refine below_step ?_ (by assumption))); first | done | fail) | exact OwL.rd (by assumption))) (by rfl) (by omega) (by omega) rfl (fun a y hy hab hp => ?_))
    | (apply isW
       first
         | apply W_seq
         | apply W_region
         | refine W_region_Q mixed (by kernel_rfl) ?_
         | refine W_cond_dec rfl (fun hg => ?_) (fun hg => ?_)
         | refine W_cond_true rfl ?_
         | refine W_cond_false rfl ?_
         | refine W_cond rfl (fun hg => ?_) (fun hg => ?_)
         | apply W_skip
         | apply W_ret
         | apply W_exit
         | apply W_block)
    | (apply isLM
       first
         | apply LM_nil
         | refine LM_look rfl rfl ?_
         | refine LM_act rfl ?_
         | refine LM_both rfl rfl ?_ ?_
         | refine LM_do rfl rfl rfl rfl (fun _ _ => do_nilCheck rfl) ?_)
    | (apply isAt
       first
         | apply At_then
         | apply At_then_ret
         | apply At_then_exit
         | apply At_block_normal
         | apply At_block_ret
         | apply At_block_hit
         | refine At_block_miss rfl ?_
         | refine At_end1 rfl rfl ?_
         | refine At_end1n rfl rfl ?_
         | refine At_end2 rfl rfl rfl ?_
         | refine At_mix (by (repeat (first | assumption | exact Below.refl _ _ | refine below_step ?_ (by assumption) | exact World.grownBy.refl _ _ | refine kp_below ?_ (by assumption) | refine kp_row ?_ (by assumption))); first | done | fail) ?_))
  refine W_loopF (fun m fr w' => ∃ (k : Nat) (v : Value) (rows : List Row3) (bs : List Bl) (p' : Nat), m = 3 - k ∧ k ≤ 3 ∧ fr = [(0, .pointer (some ⟨g, 0, none⟩)), (3, v), (4, .int .i64 ((k + 1 : Nat) : Int))] ∧ OwBl w' w.heap.size v rows bs ∧ Few k bs ∧ Rdr w' g p' ∧ p' ≤ p + 421 * k ∧ w.grownBy w' (some g)) 3
    [(0, .pointer (some ⟨g, 0, none⟩)), (3, .slice (some ⟨w.heap.size, 0, none⟩) 0 0), (4, .int .i64 1)] (by repeat (first | exact get_nil_slots _ | refine get_cons_slots rfl ?_)) ⟨0, _, [], [], p, rfl, Nat.zero_le _, rfl, ⟨hO1, rfl, fun i r hr => by simp at hr⟩, ⟨Nat.le_refl _, fun b hb => by simp at hb⟩, h.ext hB1, by omega, kp_below (World.grownBy.refl _ _) hB1⟩ ?_
  clear hO1 hB1
  rintro _ _ w' ⟨k, v, rows, bs, p', rfl, hk, rfl, hO, hF, hr', hp', hgw⟩
  have hlb := hO.len
  have hlf := hF.1
  have hrd := hO.own.rd
  repeat' (first
    | (apply isL
       first
         | apply L_nil
         | refine L_move rfl rfl ?_
         | (apply isGuarded
            first
              | refine L_guard_dec rfl rfl (fun hg => ?_) (fun hg => ?_)
              | refine L_guard_yes rfl rfl ?_
              | refine L_guard_no rfl rfl rfl rfl ?_
              | refine L_guard_undef rfl rfl rfl ?_
              | refine L_guard_split rfl rfl (fun hg => ?_) (fun hg => ?_))
         | (apply isCall
            first
              | refine L_lenL rfl (by (first | assumption | exact RdL.ext (by assumption) (by (repeat (first | assumption | refine below_step ?_ (by assumption))); first | done | fail) | exact OwL.rd (by assumption))) rfl (fun hlen => ?_)
              | refine L_do rfl rfl rfl (do_lenStr rfl) ?_
              | (refine L_call rfl rfl (c_pick hr' (by omega) (by omega)) (fun _ w2 hR => ?_); obtain ⟨k2, rfl, hk0, hkn, hr2, hg2⟩ := hR; have hO2 := hO.keptG h.lt hg2; have hrd2 := hO2.own.rd)
              | (refine L_call rfl rfl (c_l92Bytes hr2 (by omega)) (fun _ w3 hR => ?_); obtain ⟨xs, p3, hx3, hxl, hr3, hp3, hg3⟩ := hR; have hO3 := hO2.keptG h.lt hg3; have hz3 := hg2.size)
              | (refine L_call rfl rfl (c_l92Bytes hr3 (by omega)) (fun _ w4 hR => ?_); obtain ⟨ys, p4, hx4, hyl, hr4, hp4, hg4⟩ := hR; have hO4 := hO3.keptG h.lt hg4; have hz4 := hg3.size; have hx3' := hx3.kept hg4 (hx3.ne_ hr2.lt); obtain ⟨a3, c3, rfl, _, _⟩ := hx3.rd.slice; obtain ⟨a4, c4, rfl, _, _⟩ := hx4.rd.slice)
              | (have hO5' := hO4.ext hB5; refine L_appendG rfl rfl (Nat.le_trans hgw.size (Nat.le_trans hg2.size (Nat.le_trans hg3.size (Nat.le_trans hg4.size hB5.size)))) hO5'.own hO5.rd rfl (by simp; omega) (by simp; omega) rfl (fun v6 w6 hO6 hg6 => ?_))
              )
         | (apply isBin
            first
              | refine L_do rfl rfl rfl (do_cmp rfl rfl rfl) ?_
              | refine L_do rfl rfl rfl (do_cmpStr rfl rfl rfl) ?_
              | refine L_do rfl rfl rfl (do_add rfl rfl (by omega)) ?_
              | refine L_do rfl rfl rfl (do_sub rfl rfl (by omega)) ?_
              | refine L_do rfl rfl rfl (do_eqBool TBool.und rfl rfl) ?_
              | refine L_do rfl rfl rfl (do_neBool TBool.und rfl rfl) ?_
              )
         | (apply isLoad
            first
              | refine L_loadPt rfl (by rfl) (by (first | assumption | exact Pt.ext (by assumption) (by (repeat (first | assumption | refine below_step ?_ (by assumption))); first | done | fail))) (by rfl) rfl ?_
              | refine L_loadPt0 rfl (by (first | assumption | exact Pt.ext (by assumption) (by (repeat (first | assumption | refine below_step ?_ (by assumption))); first | done | fail))) (by rfl) rfl ?_
              | refine L_loadAgg rfl (by (first | assumption | exact Pt.ext (by assumption) (by (repeat (first | assumption | refine below_step ?_ (by assumption))); first | done | fail))) (by rfl) rfl ?_)
         | refine L_assign rfl rfl ?_
         | refine L_do rfl rfl rfl (do_pick_true rfl rfl) ?_
         | refine L_do rfl rfl rfl (do_pick_false rfl rfl) ?_
         | refine L_do rfl rfl rfl (do_notDec rfl) ?_
         | refine L_do rfl rfl rfl (do_not rfl) ?_
         | refine L_do rfl rfl rfl (do_extract rfl rfl) ?_
         | refine L_do rfl rfl rfl (do_fieldAddr rfl) ?_
         | refine L_do rfl rfl rfl (do_buildS rfl (by kernel_rfl)) ?_
         | refine L_buildSliceKG tRow3 [⟨(k + 1 : Nat), .slice a3 xs.length c3, .slice a4 ys.length c4, rfl, rfl⟩] w4.heap.size (Nat.le_refl _) rfl rfl rfl rfl rfl (by exact fillR _ _ _) rfl rfl (fun w5 hO5 hB5 => ?_)
         | refine L_indexL rfl rfl (by (first | assumption | exact RdL.ext (by assumption) (by (repeat (first | assumption | refine below_step ?_ (by assumption))); first | done | fail) | exact OwL.rd (by assumption))) (by rfl) (by omega) (by omega) rfl (fun a y hy hab hp => ?_)
         | (apply isBox; refine L_boxV (w0 := w) (by (repeat (first | assumption | exact Below.refl _ _ | refine below_step ?_ (by assumption))); first | done | fail) rfl rfl (fun w1 hz1 hB hB1 hv => ?_); have hp := pt_of_block hv)
         | (apply isAllocStore; refine L_allocStoreV (w0 := w) (by (repeat (first | assumption | exact Below.refl _ _ | refine below_step ?_ (by assumption))); first | done | fail) rfl rfl rfl rfl ?_ rfl (fun w1 hz1 hB hB1 hv => ?_); (focus (first | exact Ty.one _ _ | simp [Value.oneCell'])); have hp := pt_of_block hv)
         )
    | (apply isLQ
       first
         | refine LQ_nil (fun w1 hBq => ?_)
         | apply LQ_mix
         | refine LQ_move rfl rfl ?_
         | (apply isGuardedQ
            first
              | refine LQ_guard_dec rfl rfl (fun hg => ?_) (fun hg => ?_)
              | refine LQ_guard_yes rfl rfl ?_
              | refine LQ_guard_no rfl rfl rfl rfl ?_
              | refine LQ_guard_undef rfl rfl rfl ?_
              | refine LQ_guard_split rfl rfl (fun hg => ?_) (fun hg => ?_))
         | (apply isCallQ
            first
              | refine LQ_lenL rfl (by (first | assumption | exact RdL.ext (by assumption) (by (repeat (first | assumption | refine below_step ?_ (by assumption))); first | done | fail) | exact OwL.rd (by assumption))) rfl (fun hlen => ?_)
              | refine LQ_do rfl rfl rfl (fun _ _ => do_lenStr rfl) ?_
              )
         | (apply isBinQ
            first
              | refine LQ_do rfl rfl rfl (fun _ _ => do_cmp rfl rfl rfl) ?_
              | refine LQ_do rfl rfl rfl (fun _ _ => do_cmpStr rfl rfl rfl) ?_
              | refine LQ_do rfl rfl rfl (fun _ _ => do_add rfl rfl (by omega)) ?_
              | refine LQ_do rfl rfl rfl (fun _ _ => do_sub rfl rfl (by omega)) ?_
              | refine LQ_do rfl rfl rfl (fun _ _ => do_eqBool TBool.und rfl rfl) ?_
              | refine LQ_do rfl rfl rfl (fun _ _ => do_neBool TBool.und rfl rfl) ?_
              )
         | (apply isLoadQ
            first
              | refine LQ_loadPt rfl (by rfl) (by (first | assumption | exact Pt.ext (by assumption) (by (repeat (first | assumption | refine below_step ?_ (by assumption))); first | done | fail))) (by rfl) rfl ?_
              | refine LQ_loadPt0 rfl (by (first | assumption | exact Pt.ext (by assumption) (by (repeat (first | assumption | refine below_step ?_ (by assumption))); first | done | fail))) (by rfl) rfl ?_
              | refine LQ_loadAgg rfl (by (first | assumption | exact Pt.ext (by assumption) (by (repeat (first | assumption | refine below_step ?_ (by assumption))); first | done | fail))) (by rfl) rfl ?_
              | refine RLQ_loadPt rfl (by rfl) (by (first | assumption | exact Pt.ext (by assumption) (by (repeat (first | assumption | refine below_step ?_ (by assumption))); first | done | fail))) (by rfl) (by first | assumption | (intro e; simp_all; done)) rfl ?_
              | refine RLQ_loadPt0 rfl (by (first | assumption | exact Pt.ext (by assumption) (by (repeat (first | assumption | refine below_step ?_ (by assumption))); first | done | fail))) (by rfl) (by first | assumption | (intro e; simp_all; done)) rfl ?_
              | refine RLQ_loadAgg rfl (by (first | assumption | exact Pt.ext (by assumption) (by (repeat (first | assumption | refine below_step ?_ (by assumption))); first | done | fail))) (by rfl) (by first | assumption | (intro e; simp_all; done)) rfl ?_)
         | refine LQ_assign rfl rfl ?_
         | refine LQ_do rfl rfl rfl (fun _ _ => do_pick_true rfl rfl) ?_
         | refine LQ_do rfl rfl rfl (fun _ _ => do_pick_false rfl rfl) ?_
         | refine LQ_do rfl rfl rfl (fun _ _ => do_notDec rfl) ?_
         | refine LQ_do rfl rfl rfl (fun _ _ => do_not rfl) ?_
         | refine LQ_do rfl rfl rfl (fun _ _ => do_extract rfl rfl) ?_
         | refine LQ_do rfl rfl rfl (fun _ _ => do_fieldAddr rfl) ?_
         | refine LQ_do rfl rfl rfl (fun _ _ => do_buildS rfl (by kernel_rfl)) ?_
         | refine LQ_indexL rfl rfl (by (first | assumption | exact RdL.ext (by assumption) (by (repeat (first | assumption | refine below_step ?_ (by assumption))); first | done | fail) | exact OwL.rd (by assumption))) (by rfl) (by omega) (by omega) rfl (fun a y hy hab hp => ?_))
    | (apply isW
       first
         | apply W_seq
         | apply W_region
         | refine W_region_Q mixed (by kernel_rfl) ?_
         | refine W_cond_dec rfl (fun hg => ?_) (fun hg => ?_)
         | refine W_cond_true rfl ?_
         | refine W_cond_false rfl ?_
         | refine W_cond rfl (fun hg => ?_) (fun hg => ?_)
         | apply W_skip
         | apply W_ret
         | apply W_exit
         | apply W_block)
    | (apply isLM
       first
         | apply LM_nil
         | refine LM_look rfl rfl ?_
         | refine LM_act rfl ?_
         | refine LM_both rfl rfl ?_ ?_
         | refine LM_do rfl rfl rfl rfl (fun _ _ => do_nilCheck rfl) ?_)
    | (apply isAt
       first
         | apply At_then
         | apply At_then_ret
         | apply At_then_exit
         | apply At_block_normal
         | apply At_block_ret
         | apply At_block_hit
         | refine At_block_miss rfl ?_
         | refine At_end1 rfl rfl ?_
         | refine At_end1n rfl rfl ?_
         | refine At_end2 rfl rfl rfl ?_
         | refine At_mix (by (repeat (first | assumption | exact Below.refl _ _ | refine below_step ?_ (by assumption) | exact World.grownBy.refl _ _ | refine kp_below ?_ (by assumption) | refine kp_row ?_ (by assumption))); first | done | fail) ?_))
  · have hz := hgw.size
    have hlt2 := Nat.lt_of_lt_of_le hr2.lt hg3.size
    refine At_round _ [(0, .pointer (some ⟨g, 0, none⟩)), (3, v6), (4, .int .i64 (((k + 1) + 1 : Nat) : Int))] (by repeat (first | exact get_nil_slots _ | refine get_cons_slots rfl ?_)) (by omega) ⟨k + 1, v6, _, bs ++ [⟨(k + 1 : Nat), xs, ys⟩], p4, rfl, by omega, rfl,
      OwBl.app hO5' hg6 hO6 rfl (.of ((hx3'.ext hB5).rebase (by omega))) (.of ((hx4.ext hB5).rebase (by omega))), hF.app hxl hyl, (hr4.ext hB5).grown hO5'.own h.lt hg6, arith1 hp4 hp3 hp', ?_⟩
    exact kp_own (kp_below (kp_row (kp_row (kp_row hgw hg2) hg3) hg4) hB5) hg6 (fun b hb => (hO5'.own.lt b hb).1)
  · exact At_round _ [(0, .pointer (some ⟨g, 0, none⟩)), (3, v), (4, .int .i64 (((k + 1) + 1 : Nat) : Int))] (by repeat (first | exact get_nil_slots _ | refine get_cons_slots rfl ?_)) (by omega) ⟨k + 1, v, rows, bs, p' + 1, rfl, by omega, rfl, hO2, hF.mono (by omega), hr2, arith2 hp', kp_row hgw hg2⟩
  · have hlt0 : 0 < rows.length := by omega
    obtain ⟨r0, hr0⟩ : ∃ r0, rows[0]? = some r0 := ⟨_, List.getElem?_eq_getElem hlt0⟩
    obtain ⟨b0, hb0, _⟩ := hO2.at_ 0 r0 hr0
    repeat' (first
      | (apply isL
         first
           | apply L_nil
           | refine L_move rfl rfl ?_
           | (apply isGuarded
              first
                | refine L_guard_dec rfl rfl (fun hg => ?_) (fun hg => ?_)
                | refine L_guard_yes rfl rfl ?_
                | refine L_guard_no rfl rfl rfl rfl ?_
                | refine L_guard_undef rfl rfl rfl ?_
                | refine L_guard_split rfl rfl (fun hg => ?_) (fun hg => ?_))
           | (apply isCall
              first
                | refine L_lenL rfl (by (first | assumption | exact RdL.ext (by assumption) (by (repeat (first | assumption | refine below_step ?_ (by assumption))); first | done | fail) | exact OwL.rd (by assumption))) rfl (fun hlen => ?_)
                | refine L_do rfl rfl rfl (do_lenStr rfl) ?_
                | (refine L_call rfl rfl (c_pick (hr2.ext hB6) (by omega) (by omega)) (fun _ w7 hR => ?_); obtain ⟨k7, rfl, hk70, hk7n, hr7, hg7⟩ := hR; have hR7 := (hO6.kept hg7 (hO6.ne_ hr2.lt)).rd; have hO7 := (hO2.ext hB6).keptG h.lt hg7)
                )
           | (apply isBin
              first
                | refine L_do rfl rfl rfl (do_cmp rfl rfl rfl) ?_
                | refine L_do rfl rfl rfl (do_cmpStr rfl rfl rfl) ?_
                | refine L_do rfl rfl rfl (do_add rfl rfl (by omega)) ?_
                | refine L_do rfl rfl rfl (do_sub rfl rfl (by omega)) ?_
                | refine L_do rfl rfl rfl (do_eqBool TBool.und rfl rfl) ?_
                | refine L_do rfl rfl rfl (do_neBool TBool.und rfl rfl) ?_
                )
           | (apply isLoad
              first
                | refine L_loadPt rfl (by rfl) (by (first | assumption | exact Pt.ext (by assumption) (by (repeat (first | assumption | refine below_step ?_ (by assumption))); first | done | fail))) (by rfl) rfl ?_
                | refine L_loadPt0 rfl (by (first | assumption | exact Pt.ext (by assumption) (by (repeat (first | assumption | refine below_step ?_ (by assumption))); first | done | fail))) (by rfl) rfl ?_
                | refine L_loadAgg rfl (by (first | assumption | exact Pt.ext (by assumption) (by (repeat (first | assumption | refine below_step ?_ (by assumption))); first | done | fail))) (by rfl) rfl ?_)
           | refine L_assign rfl rfl ?_
           | refine L_do rfl rfl rfl (do_pick_true rfl rfl) ?_
           | refine L_do rfl rfl rfl (do_pick_false rfl rfl) ?_
           | refine L_do rfl rfl rfl (do_notDec rfl) ?_
           | refine L_do rfl rfl rfl (do_not rfl) ?_
           | refine L_do rfl rfl rfl (do_extract rfl rfl) ?_
           | refine L_do rfl rfl rfl (do_fieldAddr rfl) ?_
           | refine L_buildSliceKG tInt [0, 3, 4] w2.heap.size (Nat.le_refl _) rfl rfl rfl rfl rfl (by exact fill3 _ _ _) rfl rfl (fun w6 hO6 hB6 => ?_)
           | refine L_indexL rfl rfl hR7 (by rfl) (by omega) (by simp; omega) rfl (fun a y hy hab hp => ?_)
           | refine L_indexOwn rfl rfl hO7.own rfl (by omega) (by omega) rfl (fun ge ye hye hge => ?_)
           | (obtain rfl := Option.some.inj (hye.symm.trans hr0); refine L_storeElemG (off := 0) rfl rfl hO7.own (k := 0) (addr_add0 _ _ _) hge hye (cs := [.int .i64 y]) rfl rfl (by simp [Value.oneCell']) (Nat.le_of_ble_eq_true rfl) (y1 := ⟨y, ye.safe, ye.fresh, ye.s1, ye.s2⟩) rfl (fun w8 hO8 hg8 hz8 => ?_))
           | refine L_indexL rfl rfl (by (first | assumption | exact RdL.ext (by assumption) (by (repeat (first | assumption | refine below_step ?_ (by assumption))); first | done | fail) | exact OwL.rd (by assumption))) (by rfl) (by omega) (by omega) rfl (fun a y hy hab hp => ?_)
           | (apply isBox; refine L_boxV (w0 := w) (by (repeat (first | assumption | exact Below.refl _ _ | refine below_step ?_ (by assumption))); first | done | fail) rfl rfl (fun w1 hz1 hB hB1 hv => ?_); have hp := pt_of_block hv)
           | (apply isAllocStore; refine L_allocStoreV (w0 := w) (by (repeat (first | assumption | exact Below.refl _ _ | refine below_step ?_ (by assumption))); first | done | fail) rfl rfl rfl rfl ?_ rfl (fun w1 hz1 hB hB1 hv => ?_); (focus (first | exact Ty.one _ _ | simp [Value.oneCell'])); have hp := pt_of_block hv)
           )
      | (apply isLQ
         first
           | refine LQ_nil (fun w1 hBq => ?_)
           | apply LQ_mix
           | refine LQ_move rfl rfl ?_
           | (apply isGuardedQ
              first
                | refine LQ_guard_dec rfl rfl (fun hg => ?_) (fun hg => ?_)
                | refine LQ_guard_yes rfl rfl ?_
                | refine LQ_guard_no rfl rfl rfl rfl ?_
                | refine LQ_guard_undef rfl rfl rfl ?_
                | refine LQ_guard_split rfl rfl (fun hg => ?_) (fun hg => ?_))
           | (apply isCallQ
              first
                | refine LQ_lenL rfl (by (first | assumption | exact RdL.ext (by assumption) (by (repeat (first | assumption | refine below_step ?_ (by assumption))); first | done | fail) | exact OwL.rd (by assumption))) rfl (fun hlen => ?_)
                | refine LQ_do rfl rfl rfl (fun _ _ => do_lenStr rfl) ?_
                )
           | (apply isBinQ
              first
                | refine LQ_do rfl rfl rfl (fun _ _ => do_cmp rfl rfl rfl) ?_
                | refine LQ_do rfl rfl rfl (fun _ _ => do_cmpStr rfl rfl rfl) ?_
                | refine LQ_do rfl rfl rfl (fun _ _ => do_add rfl rfl (by omega)) ?_
                | refine LQ_do rfl rfl rfl (fun _ _ => do_sub rfl rfl (by omega)) ?_
                | refine LQ_do rfl rfl rfl (fun _ _ => do_eqBool TBool.und rfl rfl) ?_
                | refine LQ_do rfl rfl rfl (fun _ _ => do_neBool TBool.und rfl rfl) ?_
                )
           | (apply isLoadQ
              first
                | refine LQ_loadPt rfl (by rfl) (by (first | assumption | exact Pt.ext (by assumption) (by (repeat (first | assumption | refine below_step ?_ (by assumption))); first | done | fail))) (by rfl) rfl ?_
                | refine LQ_loadPt0 rfl (by (first | assumption | exact Pt.ext (by assumption) (by (repeat (first | assumption | refine below_step ?_ (by assumption))); first | done | fail))) (by rfl) rfl ?_
                | refine LQ_loadAgg rfl (by (first | assumption | exact Pt.ext (by assumption) (by (repeat (first | assumption | refine below_step ?_ (by assumption))); first | done | fail))) (by rfl) rfl ?_
                | refine RLQ_loadPt rfl (by rfl) (by (first | assumption | exact Pt.ext (by assumption) (by (repeat (first | assumption | refine below_step ?_ (by assumption))); first | done | fail))) (by rfl) (by first | assumption | (intro e; simp_all; done)) rfl ?_
                | refine RLQ_loadPt0 rfl (by (first | assumption | exact Pt.ext (by assumption) (by (repeat (first | assumption | refine below_step ?_ (by assumption))); first | done | fail))) (by rfl) (by first | assumption | (intro e; simp_all; done)) rfl ?_
                | refine RLQ_loadAgg rfl (by (first | assumption | exact Pt.ext (by assumption) (by (repeat (first | assumption | refine below_step ?_ (by assumption))); first | done | fail))) (by rfl) (by first | assumption | (intro e; simp_all; done)) rfl ?_)
           | refine LQ_assign rfl rfl ?_
           | refine LQ_do rfl rfl rfl (fun _ _ => do_pick_true rfl rfl) ?_
           | refine LQ_do rfl rfl rfl (fun _ _ => do_pick_false rfl rfl) ?_
           | refine LQ_do rfl rfl rfl (fun _ _ => do_notDec rfl) ?_
           | refine LQ_do rfl rfl rfl (fun _ _ => do_not rfl) ?_
           | refine LQ_do rfl rfl rfl (fun _ _ => do_extract rfl rfl) ?_
           | refine LQ_do rfl rfl rfl (fun _ _ => do_fieldAddr rfl) ?_
           | refine LQ_do rfl rfl rfl (fun _ _ => do_buildS rfl (by kernel_rfl)) ?_
           | refine LQ_indexL rfl rfl (by (first | assumption | exact RdL.ext (by assumption) (by (repeat (first | assumption | refine below_step ?_ (by assumption))); first | done | fail) | exact OwL.rd (by assumption))) (by rfl) (by omega) (by omega) rfl (fun a y hy hab hp => ?_))
      | (apply isW
         first
           | apply W_seq
           | apply W_region
           | refine W_region_Q mixed (by kernel_rfl) ?_
           | refine W_cond_dec rfl (fun hg => ?_) (fun hg => ?_)
           | refine W_cond_true rfl ?_
           | refine W_cond_false rfl ?_
           | refine W_cond rfl (fun hg => ?_) (fun hg => ?_)
           | apply W_skip
           | apply W_ret
           | apply W_exit
           | apply W_block)
      | (apply isLM
         first
           | apply LM_nil
           | refine LM_look rfl rfl ?_
           | refine LM_act rfl ?_
           | refine LM_both rfl rfl ?_ ?_
           | refine LM_do rfl rfl rfl rfl (fun _ _ => do_nilCheck rfl) ?_)
      | (apply isAt
         first
           | apply At_then
           | apply At_then_ret
           | apply At_then_exit
           | apply At_block_normal
           | apply At_block_ret
           | apply At_block_hit
           | refine At_block_miss rfl ?_
           | refine At_end1 rfl rfl ?_
           | refine At_end1n rfl rfl ?_
           | refine At_end2 rfl rfl rfl ?_
           | refine At_mix (by (repeat (first | assumption | exact Below.refl _ _ | refine below_step ?_ (by assumption) | exact World.grownBy.refl _ _ | refine kp_below ?_ (by assumption) | refine kp_row ?_ (by assumption))); first | done | fail) ?_))
    have hlt7 := (hO7.own.lt _ hge).1
    refine ⟨_, _, _, OwBl.named hO7 hye hb0 (by rw [hge]; exact hg8) hO8, ?_, hr7.grown hO7.own h.lt (by rw [hge]; exact hg8), by omega, ?_⟩
    · refine ⟨by simp; omega, fun b hb => ?_⟩
      rcases List.mem_or_eq_of_mem_set hb with hb | rfl
      · exact hF.2 b hb
      · exact hF.2 b0 (List.mem_of_getElem? hb0)
    · exact kp_own (kp_row (kp_below (kp_row hgw hg2) hB6) hg7) hg8 (fun b hb => by cases hb; exact hlt7)
  · have hy0 : rows[0]? = some y := hy
    obtain ⟨b0, hb0, hn0, hs0, hf0⟩ := hO2.at_ 0 y hy0
    have hmem := hF.2 b0 (List.mem_of_getElem? hb0)
    repeat' (first
      | (apply isL
         first
           | apply L_nil
           | refine L_move rfl rfl ?_
           | (apply isGuarded
              first
                | refine L_guard_dec rfl rfl (fun hg => ?_) (fun hg => ?_)
                | refine L_guard_yes rfl rfl ?_
                | refine L_guard_no rfl rfl rfl rfl ?_
                | refine L_guard_undef rfl rfl rfl ?_
                | refine L_guard_split rfl rfl (fun hg => ?_) (fun hg => ?_))
           | (apply isCall
              first
                | refine L_lenL rfl (by (first | assumption | exact RdL.ext (by assumption) (by (repeat (first | assumption | refine below_step ?_ (by assumption))); first | done | fail) | exact OwL.rd (by assumption))) rfl (fun hlen => ?_)
                | refine L_do rfl rfl rfl (do_lenStr rfl) ?_
                | (have hO5' := hO2.ext hB5; refine L_appendG rfl rfl (Nat.le_trans hgw.size (Nat.le_trans hg2.size hB5.size)) hO5'.own hO5.rd rfl (by simp; omega) (by simp; omega) rfl (fun v6 w6 hO6 hg6 => ?_))
                )
           | (apply isBin
              first
                | refine L_do rfl rfl rfl (do_cmp rfl rfl rfl) ?_
                | refine L_do rfl rfl rfl (do_cmpStr rfl rfl rfl) ?_
                | refine L_do rfl rfl rfl (do_add rfl rfl (by omega)) ?_
                | refine L_do rfl rfl rfl (do_sub rfl rfl (by omega)) ?_
                | refine L_do rfl rfl rfl (do_eqBool TBool.und rfl rfl) ?_
                | refine L_do rfl rfl rfl (do_neBool TBool.und rfl rfl) ?_
                )
           | (apply isLoad
              first
                | refine L_loadPt rfl (by rfl) (by (first | assumption | exact Pt.ext (by assumption) (by (repeat (first | assumption | refine below_step ?_ (by assumption))); first | done | fail))) (by rfl) rfl ?_
                | refine L_loadPt0 rfl (by (first | assumption | exact Pt.ext (by assumption) (by (repeat (first | assumption | refine below_step ?_ (by assumption))); first | done | fail))) (by rfl) rfl ?_
                | refine L_loadAgg rfl (by (first | assumption | exact Pt.ext (by assumption) (by (repeat (first | assumption | refine below_step ?_ (by assumption))); first | done | fail))) (by rfl) rfl ?_)
           | refine L_assign rfl rfl ?_
           | refine L_do rfl rfl rfl (do_pick_true rfl rfl) ?_
           | refine L_do rfl rfl rfl (do_pick_false rfl rfl) ?_
           | refine L_do rfl rfl rfl (do_notDec rfl) ?_
           | refine L_do rfl rfl rfl (do_not rfl) ?_
           | refine L_do rfl rfl rfl (do_extract rfl rfl) ?_
           | refine L_do rfl rfl rfl (do_fieldAddr rfl) ?_
           | refine L_buildSliceKG tRow3 [y] w2.heap.size (Nat.le_refl _) rfl rfl rfl rfl rfl (by exact fillR _ _ _) rfl rfl (fun w5 hO5 hB5 => ?_)
           | refine L_indexL rfl rfl (by (first | assumption | exact RdL.ext (by assumption) (by (repeat (first | assumption | refine below_step ?_ (by assumption))); first | done | fail) | exact OwL.rd (by assumption))) (by rfl) (by omega) (by omega) rfl (fun a y hy hab hp => ?_)
           | (apply isBox; refine L_boxV (w0 := w) (by (repeat (first | assumption | exact Below.refl _ _ | refine below_step ?_ (by assumption))); first | done | fail) rfl rfl (fun w1 hz1 hB hB1 hv => ?_); have hp := pt_of_block hv)
           | (apply isAllocStore; refine L_allocStoreV (w0 := w) (by (repeat (first | assumption | exact Below.refl _ _ | refine below_step ?_ (by assumption))); first | done | fail) rfl rfl rfl rfl ?_ rfl (fun w1 hz1 hB hB1 hv => ?_); (focus (first | exact Ty.one _ _ | simp [Value.oneCell'])); have hp := pt_of_block hv)
           )
      | (apply isLQ
         first
           | refine LQ_nil (fun w1 hBq => ?_)
           | apply LQ_mix
           | refine LQ_move rfl rfl ?_
           | (apply isGuardedQ
              first
                | refine LQ_guard_dec rfl rfl (fun hg => ?_) (fun hg => ?_)
                | refine LQ_guard_yes rfl rfl ?_
                | refine LQ_guard_no rfl rfl rfl rfl ?_
                | refine LQ_guard_undef rfl rfl rfl ?_
                | refine LQ_guard_split rfl rfl (fun hg => ?_) (fun hg => ?_))
           | (apply isCallQ
              first
                | refine LQ_lenL rfl (by (first | assumption | exact RdL.ext (by assumption) (by (repeat (first | assumption | refine below_step ?_ (by assumption))); first | done | fail) | exact OwL.rd (by assumption))) rfl (fun hlen => ?_)
                | refine LQ_do rfl rfl rfl (fun _ _ => do_lenStr rfl) ?_
                )
           | (apply isBinQ
              first
                | refine LQ_do rfl rfl rfl (fun _ _ => do_cmp rfl rfl rfl) ?_
                | refine LQ_do rfl rfl rfl (fun _ _ => do_cmpStr rfl rfl rfl) ?_
                | refine LQ_do rfl rfl rfl (fun _ _ => do_add rfl rfl (by omega)) ?_
                | refine LQ_do rfl rfl rfl (fun _ _ => do_sub rfl rfl (by omega)) ?_
                | refine LQ_do rfl rfl rfl (fun _ _ => do_eqBool TBool.und rfl rfl) ?_
                | refine LQ_do rfl rfl rfl (fun _ _ => do_neBool TBool.und rfl rfl) ?_
                )
           | (apply isLoadQ
              first
                | refine LQ_loadPt rfl (by rfl) (by (first | assumption | exact Pt.ext (by assumption) (by (repeat (first | assumption | refine below_step ?_ (by assumption))); first | done | fail))) (by rfl) rfl ?_
                | refine LQ_loadPt0 rfl (by (first | assumption | exact Pt.ext (by assumption) (by (repeat (first | assumption | refine below_step ?_ (by assumption))); first | done | fail))) (by rfl) rfl ?_
                | refine LQ_loadAgg rfl (by (first | assumption | exact Pt.ext (by assumption) (by (repeat (first | assumption | refine below_step ?_ (by assumption))); first | done | fail))) (by rfl) rfl ?_
                | refine RLQ_loadPt rfl (by rfl) (by (first | assumption | exact Pt.ext (by assumption) (by (repeat (first | assumption | refine below_step ?_ (by assumption))); first | done | fail))) (by rfl) (by first | assumption | (intro e; simp_all; done)) rfl ?_
                | refine RLQ_loadPt0 rfl (by (first | assumption | exact Pt.ext (by assumption) (by (repeat (first | assumption | refine below_step ?_ (by assumption))); first | done | fail))) (by rfl) (by first | assumption | (intro e; simp_all; done)) rfl ?_
                | refine RLQ_loadAgg rfl (by (first | assumption | exact Pt.ext (by assumption) (by (repeat (first | assumption | refine below_step ?_ (by assumption))); first | done | fail))) (by rfl) (by first | assumption | (intro e; simp_all; done)) rfl ?_)
           | refine LQ_assign rfl rfl ?_
           | refine LQ_do rfl rfl rfl (fun _ _ => do_pick_true rfl rfl) ?_
           | refine LQ_do rfl rfl rfl (fun _ _ => do_pick_false rfl rfl) ?_
           | refine LQ_do rfl rfl rfl (fun _ _ => do_notDec rfl) ?_
           | refine LQ_do rfl rfl rfl (fun _ _ => do_not rfl) ?_
           | refine LQ_do rfl rfl rfl (fun _ _ => do_extract rfl rfl) ?_
           | refine LQ_do rfl rfl rfl (fun _ _ => do_fieldAddr rfl) ?_
           | refine LQ_do rfl rfl rfl (fun _ _ => do_buildS rfl (by kernel_rfl)) ?_
           | refine LQ_indexL rfl rfl (by (first | assumption | exact RdL.ext (by assumption) (by (repeat (first | assumption | refine below_step ?_ (by assumption))); first | done | fail) | exact OwL.rd (by assumption))) (by rfl) (by omega) (by omega) rfl (fun a y hy hab hp => ?_))
      | (apply isW
         first
           | apply W_seq
           | apply W_region
           | refine W_region_Q mixed (by kernel_rfl) ?_
           | refine W_cond_dec rfl (fun hg => ?_) (fun hg => ?_)
           | refine W_cond_true rfl ?_
           | refine W_cond_false rfl ?_
           | refine W_cond rfl (fun hg => ?_) (fun hg => ?_)
           | apply W_skip
           | apply W_ret
           | apply W_exit
           | apply W_block)
      | (apply isLM
         first
           | apply LM_nil
           | refine LM_look rfl rfl ?_
           | refine LM_act rfl ?_
           | refine LM_both rfl rfl ?_ ?_
           | refine LM_do rfl rfl rfl rfl (fun _ _ => do_nilCheck rfl) ?_)
      | (apply isAt
         first
           | apply At_then
           | apply At_then_ret
           | apply At_then_exit
           | apply At_block_normal
           | apply At_block_ret
           | apply At_block_hit
           | refine At_block_miss rfl ?_
           | refine At_end1 rfl rfl ?_
           | refine At_end1n rfl rfl ?_
           | refine At_end2 rfl rfl rfl ?_
           | refine At_mix (by (repeat (first | assumption | exact Below.refl _ _ | refine below_step ?_ (by assumption) | exact World.grownBy.refl _ _ | refine kp_below ?_ (by assumption) | refine kp_row ?_ (by assumption))); first | done | fail) ?_))
    refine ⟨_, _, _, OwBl.app hO5' hg6 hO6 hn0 (hs0.ext hB5) (hf0.ext hB5), (hF.app hmem.1 hmem.2).mono (by omega), (hr2.ext hB5).grown hO5'.own h.lt hg6, by omega, ?_⟩
    exact kp_own (kp_below (kp_row hgw hg2) hB5) hg6 (fun b hb => (hO5'.own.lt b hb).1)
  · exact ⟨_, _, _, hO2, hF.mono (by omega), hr2, by omega, kp_row hgw hg2⟩
  · exact ⟨_, _, _, hO, hF.mono (by omega), hr', by omega, hgw⟩
end Go.Proofs.Ytomhhfeakpompaa
