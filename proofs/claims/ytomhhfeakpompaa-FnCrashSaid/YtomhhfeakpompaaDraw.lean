/-
  Contracts of the draws: the reader of a code, a drawn number, drawn bytes, a drawn disk. Of what is drawn only bounds are told.
-/
import Derived.Test.YtomhhfeakpompaaDisk
import Derived.Test.YtomhhfeakpompaaFlSl2
namespace Go.Proofs.Ytomhhfeakpompaa
open Go Go.RowKit
set_option linter.unusedVariables false

/-- In block g lies a reader of the code bs, at place p. -/
structure Rdr (w : World) (g : Nat) (p : Nat) : Prop where
  blk : ∃ (v : Value) (bs : List UInt8), w.heap[g]? = some (.cells #[v, .int .i64 p] 63 (0, 0)) ∧ RdL tU8 w v bs ∧ (bs ≠ [] → ∀ k, v.ownBlock = some k → k < g) ∧ v.oneCell' = true ∧ bs.length ≤ 2000

theorem rdl_store {α : Type} {T : Ty α} {w w' : World} {v : Value} {xs : List α} {g : Nat} (h : RdL T w v xs) (hg : w.grownBy w' (some g)) (hne : xs ≠ [] → v.ownBlock ≠ some g) : RdL T w' v xs := by
  by_cases he : xs = []
  · exact rdl_empty h he
  · exact h.grown hg (fun b hb e => hne he (by rw [hb, e]))

theorem c_pick {g p : Nat} {n : Int} {w : World} (h : Rdr w g p) (hp : p ≤ 1073741824) (hn : n ≤ 1073741824) :
    Cl Try.prog 38 [.pointer (some ⟨g, 0, none⟩), .int .i64 n] w (fun u w' => ∃ k : Int, u = .int .i64 k ∧ 0 ≤ k ∧ (1 ≤ n → k < n) ∧ Rdr w' g (p + 1) ∧ w.grownBy w' (some g)) := by
  obtain ⟨v, bs, hblk, hrd, hne, hone, hbl⟩ := h.blk
  have hpt := pt_of_block hblk
  refine calls_start 99 Try.func38 rfl rfl rfl ?_
  repeat' (first
    | (apply isL
       first
         | apply L_nil
         | refine L_move rfl rfl ?_
         | (apply isGuarded
            first
              | refine L_guard_dec rfl rfl (fun hg => ?_) (fun hg => ?_)
              | refine L_guard_yes rfl rfl ?_
              | refine L_guard_no rfl rfl rfl rfl ?_
              | refine L_guard_undef rfl rfl rfl ?_
              | refine L_guard_split rfl rfl (fun hg => ?_) (fun hg => ?_))
         | (apply isCall
            first
              | refine L_lenL rfl (by (first | assumption | exact RdL.ext (by assumption) (by (repeat (first | assumption | refine below_step ?_ (by assumption))); first | done | fail) | exact OwL.rd (by assumption))) rfl (fun hlen => ?_)
              | refine L_do rfl rfl rfl (do_lenStr rfl) ?_
              )
         | (apply isBin
            first
              | refine L_do rfl rfl rfl (do_cmp rfl rfl rfl) ?_
              | refine L_do rfl rfl rfl (do_cmpStr rfl rfl rfl) ?_
              | refine L_do rfl rfl rfl (do_add rfl rfl (by omega)) ?_
              | refine L_do rfl rfl rfl (do_sub rfl rfl (by omega)) ?_
              | refine L_do rfl rfl rfl (do_eqBool TBool.und rfl rfl) ?_
              | refine L_do rfl rfl rfl (do_neBool TBool.und rfl rfl) ?_
              | refine L_rem rfl rfl (by omega) (by omega) rfl (fun hm => ?_)
              | refine L_do rfl rfl rfl (do_quo rfl rfl ⟨by omega, by omega⟩ (by omega)) ?_
              | refine L_xor rfl rfl ⟨by omega, by omega⟩ ⟨by omega, by omega⟩ rfl (fun z hz0 hz2 => ?_)
              )
         | (apply isLoad
            first
              | refine L_loadPt rfl (by rfl) (by (first | assumption | exact Pt.ext (by assumption) (by (repeat (first | assumption | refine below_step ?_ (by assumption))); first | done | fail))) (by rfl) rfl ?_
              | refine L_loadPt0 rfl (by (first | assumption | exact Pt.ext (by assumption) (by (repeat (first | assumption | refine below_step ?_ (by assumption))); first | done | fail))) (by rfl) rfl ?_
              | refine L_loadAgg rfl (by (first | assumption | exact Pt.ext (by assumption) (by (repeat (first | assumption | refine below_step ?_ (by assumption))); first | done | fail))) (by rfl) rfl ?_)
         | refine L_assign rfl rfl ?_
         | refine L_do rfl rfl rfl (do_pick_true rfl rfl) ?_
         | refine L_do rfl rfl rfl (do_pick_false rfl rfl) ?_
         | refine L_do rfl rfl rfl (do_notDec rfl) ?_
         | refine L_do rfl rfl rfl (do_not rfl) ?_
         | refine L_do rfl rfl rfl (do_extract rfl rfl) ?_
         | refine L_do rfl rfl rfl (do_fieldAddr rfl) ?_
         | refine L_do rfl rfl rfl (do_nilCheck rfl) ?_
         | (apply isStore; refine L_storeAt (cs := [.int .i64 (p + 1 : Int)]) rfl rfl rfl rfl (by simp [Value.oneCell']) hblk (by simp) rfl (fun w1 hb1 hg1 hz1 => ?_); have hpt1 := pt_of_block hb1; have hrd1 := rdl_store hrd hg1 (fun he e => Nat.lt_irrefl _ (hne he _ e)))
         | (refine L_indexL (T := tU8) rfl rfl (by (first | assumption | exact RdL.ext (by assumption) (by (repeat (first | assumption | refine below_step ?_ (by assumption))); first | done | fail) | exact OwL.rd (by assumption))) (by rfl) (by omega) (by omega) rfl (fun a y hy hab hp => ?_); have h8 := y.toNat_lt)
         | refine L_do rfl rfl rfl (do_convInt (ds := .int .u8) (by kernel_rfl) (by kernel_rfl) rfl ⟨by omega, by omega⟩) ?_
         | refine L_indexL rfl rfl (by (first | assumption | exact RdL.ext (by assumption) (by (repeat (first | assumption | refine below_step ?_ (by assumption))); first | done | fail) | exact OwL.rd (by assumption))) (by rfl) (by omega) (by omega) rfl (fun a y hy hab hp => ?_)
         | (apply isBox; refine L_boxV (w0 := w) (by (repeat (first | assumption | exact Below.refl _ _ | refine below_step ?_ (by assumption))); first | done | fail) rfl rfl (fun w1 hz1 hB hB1 hv => ?_); have hp := pt_of_block hv)
         | (apply isAllocStore; refine L_allocStoreV (w0 := w) (by (repeat (first | assumption | exact Below.refl _ _ | refine below_step ?_ (by assumption))); first | done | fail) rfl rfl rfl rfl ?_ rfl (fun w1 hz1 hB hB1 hv => ?_); (focus (first | exact Ty.one _ _ | simp [Value.oneCell'])); have hp := pt_of_block hv)
         )
    | (apply isLQ
       first
         | refine LQ_nil (fun w1 hBq => ?_)
         | apply LQ_mix
         | refine LQ_move rfl rfl ?_
         | (apply isGuardedQ
            first
              | refine LQ_guard_dec rfl rfl (fun hg => ?_) (fun hg => ?_)
              | refine LQ_guard_yes rfl rfl ?_
              | refine LQ_guard_no rfl rfl rfl rfl ?_
              | refine LQ_guard_undef rfl rfl rfl ?_
              | refine LQ_guard_split rfl rfl (fun hg => ?_) (fun hg => ?_))
         | (apply isCallQ
            first
              | refine LQ_lenL rfl (by (first | assumption | exact RdL.ext (by assumption) (by (repeat (first | assumption | refine below_step ?_ (by assumption))); first | done | fail) | exact OwL.rd (by assumption))) rfl (fun hlen => ?_)
              | refine LQ_do rfl rfl rfl (fun _ _ => do_lenStr rfl) ?_
              )
         | (apply isBinQ
            first
              | refine LQ_do rfl rfl rfl (fun _ _ => do_cmp rfl rfl rfl) ?_
              | refine LQ_do rfl rfl rfl (fun _ _ => do_cmpStr rfl rfl rfl) ?_
              | refine LQ_do rfl rfl rfl (fun _ _ => do_add rfl rfl (by omega)) ?_
              | refine LQ_do rfl rfl rfl (fun _ _ => do_sub rfl rfl (by omega)) ?_
              | refine LQ_do rfl rfl rfl (fun _ _ => do_eqBool TBool.und rfl rfl) ?_
              | refine LQ_do rfl rfl rfl (fun _ _ => do_neBool TBool.und rfl rfl) ?_
              | refine LQ_rem rfl rfl (by omega) (by omega) rfl (fun hm => ?_)
              | refine LQ_quo rfl rfl ⟨by omega, by omega⟩ (by omega) rfl (fun hm => ?_)
              | refine LQ_do rfl rfl rfl (fun _ _ => do_mul rfl rfl ⟨by omega, by omega⟩) ?_
              )
         | (apply isLoadQ
            first
              | refine LQ_loadPt rfl (by rfl) (by (first | assumption | exact Pt.ext (by assumption) (by (repeat (first | assumption | refine below_step ?_ (by assumption))); first | done | fail))) (by rfl) rfl ?_
              | refine LQ_loadPt0 rfl (by (first | assumption | exact Pt.ext (by assumption) (by (repeat (first | assumption | refine below_step ?_ (by assumption))); first | done | fail))) (by rfl) rfl ?_
              | refine LQ_loadAgg rfl (by (first | assumption | exact Pt.ext (by assumption) (by (repeat (first | assumption | refine below_step ?_ (by assumption))); first | done | fail))) (by rfl) rfl ?_
              | refine RLQ_loadPt rfl (by rfl) (by (first | assumption | exact Pt.ext (by assumption) (by (repeat (first | assumption | refine below_step ?_ (by assumption))); first | done | fail))) (by rfl) (by first | assumption | (intro e; simp_all; done)) rfl ?_
              | refine RLQ_loadPt0 rfl (by (first | assumption | exact Pt.ext (by assumption) (by (repeat (first | assumption | refine below_step ?_ (by assumption))); first | done | fail))) (by rfl) (by first | assumption | (intro e; simp_all; done)) rfl ?_
              | refine RLQ_loadAgg rfl (by (first | assumption | exact Pt.ext (by assumption) (by (repeat (first | assumption | refine below_step ?_ (by assumption))); first | done | fail))) (by rfl) (by first | assumption | (intro e; simp_all; done)) rfl ?_)
         | refine LQ_assign rfl rfl ?_
         | refine LQ_do rfl rfl rfl (fun _ _ => do_pick_true rfl rfl) ?_
         | refine LQ_do rfl rfl rfl (fun _ _ => do_pick_false rfl rfl) ?_
         | refine LQ_do rfl rfl rfl (fun _ _ => do_notDec rfl) ?_
         | refine LQ_do rfl rfl rfl (fun _ _ => do_not rfl) ?_
         | refine LQ_do rfl rfl rfl (fun _ _ => do_extract rfl rfl) ?_
         | refine LQ_do rfl rfl rfl (fun _ _ => do_fieldAddr rfl) ?_
         | refine LQ_do rfl rfl rfl (fun _ _ => do_buildS rfl (by kernel_rfl)) ?_
         | refine LQ_do rfl rfl rfl (fun _ _ => do_nilCheck rfl) ?_
         | (refine LQ_indexL (T := tU8) rfl rfl (by (first | assumption | exact RdL.ext (by assumption) (by (repeat (first | assumption | refine below_step ?_ (by assumption))); first | done | fail) | exact OwL.rd (by assumption))) (by rfl) (by omega) (by omega) rfl (fun a y hy hab hp => ?_); have h8 := y.toNat_lt)
         | refine LQ_do rfl rfl rfl (fun _ _ => do_convInt (ds := .int .u8) (by kernel_rfl) (by kernel_rfl) rfl ⟨by omega, by omega⟩) ?_
         | refine LQ_indexL rfl rfl (by (first | assumption | exact RdL.ext (by assumption) (by (repeat (first | assumption | refine below_step ?_ (by assumption))); first | done | fail) | exact OwL.rd (by assumption))) (by rfl) (by omega) (by omega) rfl (fun a y hy hab hp => ?_))
    | (apply isW
       first
         | apply W_seq
         | apply W_region
         | refine W_region_Q mixed (by kernel_rfl) ?_
         | refine W_cond_dec rfl (fun hg => ?_) (fun hg => ?_)
         | refine W_cond_true rfl ?_
         | refine W_cond_false rfl ?_
         | refine W_cond rfl (fun hg => ?_) (fun hg => ?_)
         | apply W_skip
         | apply W_ret
         | apply W_exit
         | apply W_block)
    | (apply isLM
       first
         | apply LM_nil
         | refine LM_look rfl rfl ?_
         | refine LM_act rfl ?_
         | refine LM_both rfl rfl ?_ ?_
         | refine LM_do rfl rfl rfl rfl (fun _ _ => do_nilCheck rfl) ?_)
    | (apply isAt
       first
         | apply At_then
         | apply At_then_ret
         | apply At_then_exit
         | apply At_block_normal
         | apply At_block_ret
         | apply At_block_hit
         | refine At_block_miss rfl ?_
         | refine At_end1 rfl rfl ?_
         | refine At_end1n rfl rfl ?_
         | refine At_end2 rfl rfl rfl ?_
         | refine At_mix (by (repeat (first | assumption | exact Below.refl _ _ | refine below_step ?_ (by assumption) | exact World.grownBy.refl _ _ | refine kp_below ?_ (by assumption) | refine kp_row ?_ (by assumption))); first | done | fail) ?_))
  · exact ⟨0, rfl, by omega, by omega, ⟨v, bs, hb1, hrd1, hne, hone, hbl⟩, hg1⟩
  · exact ⟨0, rfl, by omega, by omega, ⟨v, bs, hb1, hrd1, hne, hone, hbl⟩, hg1⟩
  · exact ⟨_, rfl, hm.1, fun _ => hm.2, ⟨v, bs, hb1, hrd1, hne, hone, hbl⟩, hg1⟩
  · have hlt := (Array.getElem?_eq_some_iff.1 hblk).1
    exact ⟨_, rfl, hm.1, fun _ => hm.2, ⟨v, bs, (hBq.block g (by rw [hz1]; exact hlt)).trans hb1, hrd1.ext hBq, hne, hone, hbl⟩, kp_below hg1 hBq⟩

theorem c_l6Open {v : Value} {bs : List UInt8} {w : World} (h : RdL tU8 w v bs) : Cl Try.prog 26 [v] w (fun u w' => ∃ g, u = .pointer (some ⟨g, 0, none⟩) ∧ w.heap.size ≤ g ∧ g < w'.heap.size ∧ Rdr w' g 0 ∧ Below w.heap.size w w') := by
  obtain ⟨a0, c0, rfl, _, _⟩ := h.slice
  have hlt : ∀ k, (Value.slice a0 bs.length c0).ownBlock = some k → bs ≠ [] → k < w.heap.size := fun k hk hne => by
    obtain ⟨_, a, cap, e, _, _, h4⟩ := h.rd
    injection e with e1 e2 e3
    subst e1
    rcases h4 with ⟨rfl, _⟩ | ⟨b, rfl, hp⟩
    · cases hk
    · cases hk
      refine hp.lt ?_
      cases bs with
      | nil => exact absurd rfl hne
      | cons x r => simp [tU8]
  refine calls_start 11 Try.func26 rfl rfl rfl ?_
  repeat' (first
    | (apply isL
       first
         | apply L_nil
         | refine L_move rfl rfl ?_
         | (apply isGuarded
            first
              | refine L_guard_dec rfl rfl (fun hg => ?_) (fun hg => ?_)
              | refine L_guard_yes rfl rfl ?_
              | refine L_guard_no rfl rfl rfl rfl ?_
              | refine L_guard_undef rfl rfl rfl ?_
              | refine L_guard_split rfl rfl (fun hg => ?_) (fun hg => ?_))
         | (apply isCall
            first
              | refine L_lenL rfl (by (first | assumption | exact RdL.ext (by assumption) (by (repeat (first | assumption | refine below_step ?_ (by assumption))); first | done | fail) | exact OwL.rd (by assumption))) rfl (fun hlen => ?_)
              | refine L_do rfl rfl rfl (do_lenStr rfl) ?_
              )
         | (apply isBin
            first
              | refine L_do rfl rfl rfl (do_cmp rfl rfl rfl) ?_
              | refine L_do rfl rfl rfl (do_cmpStr rfl rfl rfl) ?_
              | refine L_do rfl rfl rfl (do_add rfl rfl (by omega)) ?_
              | refine L_do rfl rfl rfl (do_sub rfl rfl (by omega)) ?_
              | refine L_do rfl rfl rfl (do_eqBool TBool.und rfl rfl) ?_
              | refine L_do rfl rfl rfl (do_neBool TBool.und rfl rfl) ?_
              )
         | (apply isLoad
            first
              | refine L_loadPt rfl (by rfl) (by (first | assumption | exact Pt.ext (by assumption) (by (repeat (first | assumption | refine below_step ?_ (by assumption))); first | done | fail))) (by rfl) rfl ?_
              | refine L_loadPt0 rfl (by (first | assumption | exact Pt.ext (by assumption) (by (repeat (first | assumption | refine below_step ?_ (by assumption))); first | done | fail))) (by rfl) rfl ?_
              | refine L_loadAgg rfl (by (first | assumption | exact Pt.ext (by assumption) (by (repeat (first | assumption | refine below_step ?_ (by assumption))); first | done | fail))) (by rfl) rfl ?_)
         | refine L_assign rfl rfl ?_
         | refine L_do rfl rfl rfl (do_pick_true rfl rfl) ?_
         | refine L_do rfl rfl rfl (do_pick_false rfl rfl) ?_
         | refine L_do rfl rfl rfl (do_notDec rfl) ?_
         | refine L_do rfl rfl rfl (do_not rfl) ?_
         | refine L_do rfl rfl rfl (do_extract rfl rfl) ?_
         | refine L_do rfl rfl rfl (do_fieldAddr rfl) ?_
         | (refine L_sliceH rfl rfl h rfl (by omega) (by omega) rfl (fun v1 hsl hob => ?_); obtain ⟨a1, c1, rfl, _, _⟩ := hsl.slice)
         | refine L_do rfl rfl rfl (do_buildS rfl (by kernel_rfl)) ?_
         | refine L_indexL rfl rfl (by (first | assumption | exact RdL.ext (by assumption) (by (repeat (first | assumption | refine below_step ?_ (by assumption))); first | done | fail) | exact OwL.rd (by assumption))) (by rfl) (by omega) (by omega) rfl (fun a y hy hab hp => ?_)
         | (apply isBox; refine L_boxV (w0 := w) (by (repeat (first | assumption | exact Below.refl _ _ | refine below_step ?_ (by assumption))); first | done | fail) rfl rfl (fun w1 hz1 hB hB1 hv => ?_); have hp := pt_of_block hv)
         | (apply isAllocStore; refine L_allocStoreV (w0 := w) (by (repeat (first | assumption | exact Below.refl _ _ | refine below_step ?_ (by assumption))); first | done | fail) rfl rfl rfl rfl ?_ rfl (fun w1 hz1 hB hB1 hv => ?_); (focus (first | exact Ty.one _ _ | simp [Value.oneCell'])); have hp := pt_of_block hv)
         )
    | (apply isLQ
       first
         | refine LQ_nil (fun w1 hBq => ?_)
         | apply LQ_mix
         | refine LQ_move rfl rfl ?_
         | (apply isGuardedQ
            first
              | refine LQ_guard_dec rfl rfl (fun hg => ?_) (fun hg => ?_)
              | refine LQ_guard_yes rfl rfl ?_
              | refine LQ_guard_no rfl rfl rfl rfl ?_
              | refine LQ_guard_undef rfl rfl rfl ?_
              | refine LQ_guard_split rfl rfl (fun hg => ?_) (fun hg => ?_))
         | (apply isCallQ
            first
              | refine LQ_lenL rfl (by (first | assumption | exact RdL.ext (by assumption) (by (repeat (first | assumption | refine below_step ?_ (by assumption))); first | done | fail) | exact OwL.rd (by assumption))) rfl (fun hlen => ?_)
              | refine LQ_do rfl rfl rfl (fun _ _ => do_lenStr rfl) ?_
              )
         | (apply isBinQ
            first
              | refine LQ_do rfl rfl rfl (fun _ _ => do_cmp rfl rfl rfl) ?_
              | refine LQ_do rfl rfl rfl (fun _ _ => do_cmpStr rfl rfl rfl) ?_
              | refine LQ_do rfl rfl rfl (fun _ _ => do_add rfl rfl (by omega)) ?_
              | refine LQ_do rfl rfl rfl (fun _ _ => do_sub rfl rfl (by omega)) ?_
              | refine LQ_do rfl rfl rfl (fun _ _ => do_eqBool TBool.und rfl rfl) ?_
              | refine LQ_do rfl rfl rfl (fun _ _ => do_neBool TBool.und rfl rfl) ?_
              )
         | (apply isLoadQ
            first
              | refine LQ_loadPt rfl (by rfl) (by (first | assumption | exact Pt.ext (by assumption) (by (repeat (first | assumption | refine below_step ?_ (by assumption))); first | done | fail))) (by rfl) rfl ?_
              | refine LQ_loadPt0 rfl (by (first | assumption | exact Pt.ext (by assumption) (by (repeat (first | assumption | refine below_step ?_ (by assumption))); first | done | fail))) (by rfl) rfl ?_
              | refine LQ_loadAgg rfl (by (first | assumption | exact Pt.ext (by assumption) (by (repeat (first | assumption | refine below_step ?_ (by assumption))); first | done | fail))) (by rfl) rfl ?_
              | refine RLQ_loadPt rfl (by rfl) (by (first | assumption | exact Pt.ext (by assumption) (by (repeat (first | assumption | refine below_step ?_ (by assumption))); first | done | fail))) (by rfl) (by first | assumption | (intro e; simp_all; done)) rfl ?_
              | refine RLQ_loadPt0 rfl (by (first | assumption | exact Pt.ext (by assumption) (by (repeat (first | assumption | refine below_step ?_ (by assumption))); first | done | fail))) (by rfl) (by first | assumption | (intro e; simp_all; done)) rfl ?_
              | refine RLQ_loadAgg rfl (by (first | assumption | exact Pt.ext (by assumption) (by (repeat (first | assumption | refine below_step ?_ (by assumption))); first | done | fail))) (by rfl) (by first | assumption | (intro e; simp_all; done)) rfl ?_)
         | refine LQ_assign rfl rfl ?_
         | refine LQ_do rfl rfl rfl (fun _ _ => do_pick_true rfl rfl) ?_
         | refine LQ_do rfl rfl rfl (fun _ _ => do_pick_false rfl rfl) ?_
         | refine LQ_do rfl rfl rfl (fun _ _ => do_notDec rfl) ?_
         | refine LQ_do rfl rfl rfl (fun _ _ => do_not rfl) ?_
         | refine LQ_do rfl rfl rfl (fun _ _ => do_extract rfl rfl) ?_
         | refine LQ_do rfl rfl rfl (fun _ _ => do_fieldAddr rfl) ?_
         | refine LQ_do rfl rfl rfl (fun _ _ => do_buildS rfl (by kernel_rfl)) ?_
         | refine LQ_indexL rfl rfl (by (first | assumption | exact RdL.ext (by assumption) (by (repeat (first | assumption | refine below_step ?_ (by assumption))); first | done | fail) | exact OwL.rd (by assumption))) (by rfl) (by omega) (by omega) rfl (fun a y hy hab hp => ?_))
    | (apply isW
       first
         | apply W_seq
         | apply W_region
         | refine W_region_Q mixed (by kernel_rfl) ?_
         | refine W_cond_dec rfl (fun hg => ?_) (fun hg => ?_)
         | refine W_cond_true rfl ?_
         | refine W_cond_false rfl ?_
         | refine W_cond rfl (fun hg => ?_) (fun hg => ?_)
         | apply W_skip
         | apply W_ret
         | apply W_exit
         | apply W_block)
    | (apply isLM
       first
         | apply LM_nil
         | refine LM_look rfl rfl ?_
         | refine LM_act rfl ?_
         | refine LM_both rfl rfl ?_ ?_
         | refine LM_do rfl rfl rfl rfl (fun _ _ => do_nilCheck rfl) ?_)
    | (apply isAt
       first
         | apply At_then
         | apply At_then_ret
         | apply At_then_exit
         | apply At_block_normal
         | apply At_block_ret
         | apply At_block_hit
         | refine At_block_miss rfl ?_
         | refine At_end1 rfl rfl ?_
         | refine At_end1n rfl rfl ?_
         | refine At_end2 rfl rfl rfl ?_
         | refine At_mix (by (repeat (first | assumption | exact Below.refl _ _ | refine below_step ?_ (by assumption) | exact World.grownBy.refl _ _ | refine kp_below ?_ (by assumption) | refine kp_row ?_ (by assumption))); first | done | fail) ?_))
  · refine ⟨_, rfl, Nat.le_refl _, by omega, ⟨_, _, hv, hsl.ext hB1, fun hne k e => ?_, rfl, by simp; omega⟩, hB⟩
    rw [hob] at e
    exact hlt _ e (fun e => by subst e; simp at hne)
  · refine ⟨_, rfl, Nat.le_refl _, by omega, ⟨_, _, hv, h.ext hB1, fun hne k e => ?_, rfl, by omega⟩, hB⟩
    exact hlt _ e hne
end Go.Proofs.Ytomhhfeakpompaa
