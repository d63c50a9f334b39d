/-
  The law FnDiskPart: of a drawn disk a file may be missing, and no file may come twice; for all inputs the call returns true.
-/
import Derived.Test.YtomhhfeakpompaaDraw2
namespace Go.Proofs.Ytomhhfeakpompaa
open Go Go.RowKit
set_option linter.unusedVariables false

theorem Few.small {n : Nat} {bs : List Bl} (h : Few n bs) (hn : n ≤ 1048576) : Small bs := ⟨Nat.le_trans h.1 hn, fun b hb => ⟨by have := (h.2 b hb).1; omega, by have := (h.2 b hb).2; omega⟩⟩

theorem c_DrawDiskValid {v : Value} {cs : List UInt8} {w : World} (h : RdL tU8 w v cs) :
    Cl Try.prog 8 [v] w (fun u w' => ∃ (rows : List Row3) (bs : List Bl), RdBl w' u rows bs ∧ Few 4 bs ∧ Below w.heap.size w w') := by
  refine calls_start 6 Try.func8 rfl rfl rfl ?_
  repeat' (first
    | (apply isL
       first
         | apply L_nil
         | refine L_move rfl rfl ?_
         | (apply isGuarded
            first
              | refine L_guard_dec rfl rfl (fun hg => ?_) (fun hg => ?_)
              | refine L_guard_yes rfl rfl ?_
              | refine L_guard_no rfl rfl rfl rfl ?_
              | refine L_guard_undef rfl rfl rfl ?_
              | refine L_guard_split rfl rfl (fun hg => ?_) (fun hg => ?_))
         | (apply isCall
            first
              | refine L_lenL rfl (by (first | assumption | exact RdL.ext (by assumption) (by (repeat (first | assumption | refine below_step ?_ (by assumption))); first | done | fail) | exact OwL.rd (by assumption))) rfl (fun hlen => ?_)
              | refine L_do rfl rfl rfl (do_lenStr rfl) ?_
              | (refine L_call rfl rfl (c_l6Open h) (fun _ w2 hR => ?_); obtain ⟨g, rfl, hg0, hg1, hr2, hB2⟩ := hR)
              | (refine L_call rfl rfl (c_l92Disk hr2 (by omega)) (fun _ w3 hR => ?_); obtain ⟨rows, bs, p3, hO3, hF, hr3, hp3, hg3⟩ := hR)
              )
         | (apply isBin
            first
              | refine L_do rfl rfl rfl (do_cmp rfl rfl rfl) ?_
              | refine L_do rfl rfl rfl (do_cmpStr rfl rfl rfl) ?_
              | refine L_do rfl rfl rfl (do_add rfl rfl (by omega)) ?_
              | refine L_do rfl rfl rfl (do_sub rfl rfl (by omega)) ?_
              | refine L_do rfl rfl rfl (do_eqBool TBool.und rfl rfl) ?_
              | refine L_do rfl rfl rfl (do_neBool TBool.und rfl rfl) ?_
              )
         | (apply isLoad
            first
              | refine L_loadPt rfl (by rfl) (by (first | assumption | exact Pt.ext (by assumption) (by (repeat (first | assumption | refine below_step ?_ (by assumption))); first | done | fail))) (by rfl) rfl ?_
              | refine L_loadPt0 rfl (by (first | assumption | exact Pt.ext (by assumption) (by (repeat (first | assumption | refine below_step ?_ (by assumption))); first | done | fail))) (by rfl) rfl ?_
              | refine L_loadAgg rfl (by (first | assumption | exact Pt.ext (by assumption) (by (repeat (first | assumption | refine below_step ?_ (by assumption))); first | done | fail))) (by rfl) rfl ?_)
         | refine L_assign rfl rfl ?_
         | refine L_do rfl rfl rfl (do_pick_true rfl rfl) ?_
         | refine L_do rfl rfl rfl (do_pick_false rfl rfl) ?_
         | refine L_do rfl rfl rfl (do_notDec rfl) ?_
         | refine L_do rfl rfl rfl (do_not rfl) ?_
         | refine L_do rfl rfl rfl (do_extract rfl rfl) ?_
         | refine L_do rfl rfl rfl (do_fieldAddr rfl) ?_
         | refine L_indexL rfl rfl (by (first | assumption | exact RdL.ext (by assumption) (by (repeat (first | assumption | refine below_step ?_ (by assumption))); first | done | fail) | exact OwL.rd (by assumption))) (by rfl) (by omega) (by omega) rfl (fun a y hy hab hp => ?_)
         | (apply isBox; refine L_boxV (w0 := w) (by (repeat (first | assumption | exact Below.refl _ _ | refine below_step ?_ (by assumption))); first | done | fail) rfl rfl (fun w1 hz1 hB hB1 hv => ?_); have hp := pt_of_block hv)
         | (apply isAllocStore; refine L_allocStoreV (w0 := w) (by (repeat (first | assumption | exact Below.refl _ _ | refine below_step ?_ (by assumption))); first | done | fail) rfl rfl rfl rfl ?_ rfl (fun w1 hz1 hB hB1 hv => ?_); (focus (first | exact Ty.one _ _ | simp [Value.oneCell'])); have hp := pt_of_block hv)
         )
    | (apply isLQ
       first
         | refine LQ_nil (fun w1 hBq => ?_)
         | apply LQ_mix
         | refine LQ_move rfl rfl ?_
         | (apply isGuardedQ
            first
              | refine LQ_guard_dec rfl rfl (fun hg => ?_) (fun hg => ?_)
              | refine LQ_guard_yes rfl rfl ?_
              | refine LQ_guard_no rfl rfl rfl rfl ?_
              | refine LQ_guard_undef rfl rfl rfl ?_
              | refine LQ_guard_split rfl rfl (fun hg => ?_) (fun hg => ?_))
         | (apply isCallQ
            first
              | refine LQ_lenL rfl (by (first | assumption | exact RdL.ext (by assumption) (by (repeat (first | assumption | refine below_step ?_ (by assumption))); first | done | fail) | exact OwL.rd (by assumption))) rfl (fun hlen => ?_)
              | refine LQ_do rfl rfl rfl (fun _ _ => do_lenStr rfl) ?_
              )
         | (apply isBinQ
            first
              | refine LQ_do rfl rfl rfl (fun _ _ => do_cmp rfl rfl rfl) ?_
              | refine LQ_do rfl rfl rfl (fun _ _ => do_cmpStr rfl rfl rfl) ?_
              | refine LQ_do rfl rfl rfl (fun _ _ => do_add rfl rfl (by omega)) ?_
              | refine LQ_do rfl rfl rfl (fun _ _ => do_sub rfl rfl (by omega)) ?_
              | refine LQ_do rfl rfl rfl (fun _ _ => do_eqBool TBool.und rfl rfl) ?_
              | refine LQ_do rfl rfl rfl (fun _ _ => do_neBool TBool.und rfl rfl) ?_
              )
         | (apply isLoadQ
            first
              | refine LQ_loadPt rfl (by rfl) (by (first | assumption | exact Pt.ext (by assumption) (by (repeat (first | assumption | refine below_step ?_ (by assumption))); first | done | fail))) (by rfl) rfl ?_
              | refine LQ_loadPt0 rfl (by (first | assumption | exact Pt.ext (by assumption) (by (repeat (first | assumption | refine below_step ?_ (by assumption))); first | done | fail))) (by rfl) rfl ?_
              | refine LQ_loadAgg rfl (by (first | assumption | exact Pt.ext (by assumption) (by (repeat (first | assumption | refine below_step ?_ (by assumption))); first | done | fail))) (by rfl) rfl ?_
              | refine RLQ_loadPt rfl (by rfl) (by (first | assumption | exact Pt.ext (by assumption) (by (repeat (first | assumption | refine below_step ?_ (by assumption))); first | done | fail))) (by rfl) (by first | assumption | (intro e; simp_all; done)) rfl ?_
              | refine RLQ_loadPt0 rfl (by (first | assumption | exact Pt.ext (by assumption) (by (repeat (first | assumption | refine below_step ?_ (by assumption))); first | done | fail))) (by rfl) (by first | assumption | (intro e; simp_all; done)) rfl ?_
              | refine RLQ_loadAgg rfl (by (first | assumption | exact Pt.ext (by assumption) (by (repeat (first | assumption | refine below_step ?_ (by assumption))); first | done | fail))) (by rfl) (by first | assumption | (intro e; simp_all; done)) rfl ?_)
         | refine LQ_assign rfl rfl ?_
         | refine LQ_do rfl rfl rfl (fun _ _ => do_pick_true rfl rfl) ?_
         | refine LQ_do rfl rfl rfl (fun _ _ => do_pick_false rfl rfl) ?_
         | refine LQ_do rfl rfl rfl (fun _ _ => do_notDec rfl) ?_
         | refine LQ_do rfl rfl rfl (fun _ _ => do_not rfl) ?_
         | refine LQ_do rfl rfl rfl (fun _ _ => do_extract rfl rfl) ?_
         | refine LQ_do rfl rfl rfl (fun _ _ => do_fieldAddr rfl) ?_
         | refine LQ_do rfl rfl rfl (fun _ _ => do_buildS rfl (by kernel_rfl)) ?_
         | refine LQ_indexL rfl rfl (by (first | assumption | exact RdL.ext (by assumption) (by (repeat (first | assumption | refine below_step ?_ (by assumption))); first | done | fail) | exact OwL.rd (by assumption))) (by rfl) (by omega) (by omega) rfl (fun a y hy hab hp => ?_))
    | (apply isW
       first
         | apply W_seq
         | apply W_region
         | refine W_region_Q mixed (by kernel_rfl) ?_
         | refine W_cond_dec rfl (fun hg => ?_) (fun hg => ?_)
         | refine W_cond_true rfl ?_
         | refine W_cond_false rfl ?_
         | refine W_cond rfl (fun hg => ?_) (fun hg => ?_)
         | apply W_skip
         | apply W_ret
         | apply W_exit
         | apply W_block)
    | (apply isLM
       first
         | apply LM_nil
         | refine LM_look rfl rfl ?_
         | refine LM_act rfl ?_
         | refine LM_both rfl rfl ?_ ?_
         | refine LM_do rfl rfl rfl rfl (fun _ _ => do_nilCheck rfl) ?_)
    | (apply isAt
       first
         | apply At_then
         | apply At_then_ret
         | apply At_then_exit
         | apply At_block_normal
         | apply At_block_ret
         | apply At_block_hit
         | refine At_block_miss rfl ?_
         | refine At_end1 rfl rfl ?_
         | refine At_end1n rfl rfl ?_
         | refine At_end2 rfl rfl rfl ?_
         | refine At_mix (by (repeat (first | assumption | exact Below.refl _ _ | refine below_step ?_ (by assumption) | exact World.grownBy.refl _ _ | refine kp_below ?_ (by assumption) | refine kp_row ?_ (by assumption))); first | done | fail) ?_))
  exact ⟨rows, bs, hO3.rd, hF, below_grow0 hB2 hg3 (fun k hk => by cases hk; exact hg0)⟩

/-! ### The plain law -/
theorem diskFrom_le : ∀ (bs : List Bl) (l m : Int), l ≤ m → diskFrom m bs = true → diskFrom l bs = true
  | [], _, _, _, _ => rfl
  | b :: r, l, m, hlm, h => by
    simp only [diskFrom, Bool.and_eq_true, decide_eq_true_eq] at h ⊢
    exact ⟨⟨⟨by omega, h.1.1.2⟩, h.1.2⟩, h.2⟩
theorem diskFrom_without : ∀ (bs : List Bl) (k : Nat) (l : Int), diskFrom l bs = true → diskFrom l (bs.take k ++ bs.drop (k + 1)) = true
  | [], k, l, h => by simp [diskFrom]
  | b :: r, 0, l, h => by
    simp only [diskFrom, Bool.and_eq_true, decide_eq_true_eq] at h
    simp only [List.take_zero, List.nil_append, List.drop_succ_cons, List.drop_zero]
    exact diskFrom_le r l b.name (by omega) h.2
  | b :: r, k + 1, l, h => by
    simp only [diskFrom, Bool.and_eq_true] at h
    simp only [List.take_succ_cons, List.cons_append, List.drop_succ_cons, diskFrom, Bool.and_eq_true]
    exact ⟨h.1, diskFrom_without r k b.name h.2⟩
theorem diskFrom_twice : ∀ (bs : List Bl) (k : Nat) (l : Int), k < bs.length → diskFrom l (bs.take (k + 1) ++ bs.drop k) = false
  | [], k, l, h => by simp at h
  | b :: r, 0, l, h => by
    simp only [List.take_succ_cons, List.take_zero, List.cons_append, List.nil_append, List.drop_zero, diskFrom]
    have : ¬ (b.name + 1 ≤ b.name ∧ b.name ≤ 3) := by omega
    simp [this]
  | b :: r, k + 1, l, h => by
    have hr : k < r.length := by simpa using h
    simp only [List.take_succ_cons (i := k + 1), List.cons_append, List.drop_succ_cons, diskFrom]
    rw [diskFrom_twice r k b.name hr, Bool.and_false]

theorem RdBl.take_drop {w w' : World} {v v' : Value} {rows : List Row3} {bs : List Bl} (h : RdBl w v rows bs) {i j : Nat} (hR : RdL tRow3 w' v' (rows.take i ++ rows.drop j)) (hB : Below w.heap.size w w') : RdBl w' v' (rows.take i ++ rows.drop j) (bs.take i ++ bs.drop j) := by
  refine ⟨hR, by simp [h.len], fun k r hr => ?_⟩
  have hl := h.len
  rw [List.getElem?_append] at hr
  simp only [List.length_take, List.getElem?_take, List.getElem?_drop] at hr
  split at hr
  · rename_i h1
    rw [if_pos (by omega)] at hr
    obtain ⟨b, hb, hbr⟩ := h.at_ k r hr
    exact ⟨b, by rw [List.getElem?_append_left (by simp; omega), List.getElem?_take, if_pos (by omega)]; exact hb, hbr.ext hB⟩
  · rename_i h1
    obtain ⟨b, hb, hbr⟩ := h.at_ _ r hr
    exact ⟨b, by rw [List.getElem?_append_right (by simp; omega), List.getElem?_drop, List.length_take, ← hl]; exact hb, hbr.ext hB⟩

theorem Few.take_drop {n : Nat} {bs : List Bl} (h : Few n bs) (i j : Nat) : Small (bs.take i ++ bs.drop j) ∨ 100000 < n := by
  by_cases hn : 100000 < n
  · exact .inr hn
  · refine .inl ⟨?_, fun b hb => ?_⟩
    · have := h.1; simp; omega
    · have hm : b ∈ bs := by
        rcases List.mem_append.1 hb with hb | hb
        · exact List.mem_of_mem_take hb
        · exact List.mem_of_mem_drop hb
      have := h.2 b hm
      omega

theorem c_FnDiskPart {v v2 : Value} {cs ms : List UInt8} {w : World} (h : RdL tU8 w v cs) (h2 : RdL tU8 w v2 ms) : Cl Try.prog 3 [v, v2] w (V w (.bool true)) := by
  refine calls_start 72 Try.func3 rfl rfl rfl ?_
  repeat' (first
    | (apply isL
       first
         | apply L_nil
         | refine L_move rfl rfl ?_
         | (apply isGuarded
            first
              | refine L_guard_dec rfl rfl (fun hg => ?_) (fun hg => ?_)
              | refine L_guard_yes rfl rfl ?_
              | refine L_guard_no rfl rfl rfl rfl ?_
              | refine L_guard_undef rfl rfl rfl ?_
              | refine L_guard_split rfl rfl (fun hg => ?_) (fun hg => ?_))
         | (apply isCall
            first
              | refine L_lenL rfl (by (first | assumption | exact RdL.ext (by assumption) (by (repeat (first | assumption | refine below_step ?_ (by assumption))); first | done | fail) | exact OwL.rd (by assumption))) rfl (fun hlen => ?_)
              | refine L_do rfl rfl rfl (do_lenStr rfl) ?_
              | (refine L_call rfl rfl (c_DrawDiskValid h) (fun v w2 hR => ?_); obtain ⟨rows, bs, hbl, hF, hB2⟩ := hR; have hrd := hbl.rd; have hln := hbl.len; have hfl := hF.1)
              | refine L_callV rfl rfl (c_implDiskValid hbl (hF.small (by omega))) (fun w3 hB3 => ?_)
              | refine L_callV rfl rfl (c_specDiskValid (hbl.ext hB3) (hF.small (by omega))) (fun w4 hB4 => ?_)
              | refine L_append rfl rfl hB6 hO6 (by (first | assumption | exact RdL.ext (by assumption) (by (repeat (first | assumption | refine below_step ?_ (by assumption))); first | done | fail) | exact OwL.rd (by assumption))) rfl (by simp; omega) (by simp; omega) rfl (fun v7 w7 hO7 hB7 hg7 => ?_)
              | refine L_append rfl rfl hB5 hO5 (by (first | assumption | exact RdL.ext (by assumption) (by (repeat (first | assumption | refine below_step ?_ (by assumption))); first | done | fail) | exact OwL.rd (by assumption))) rfl (by simp; omega) (by simp; omega) rfl (fun v6 w6 hO6 hB6 hg6 => ?_)
              )
         | (apply isBin
            first
              | refine L_do rfl rfl rfl (do_cmp rfl rfl rfl) ?_
              | refine L_do rfl rfl rfl (do_cmpStr rfl rfl rfl) ?_
              | refine L_do rfl rfl rfl (do_add rfl rfl (by omega)) ?_
              | refine L_do rfl rfl rfl (do_sub rfl rfl (by omega)) ?_
              | refine L_do rfl rfl rfl (do_eqBool TBool.und rfl rfl) ?_
              | refine L_do rfl rfl rfl (do_neBool TBool.und rfl rfl) ?_
              | (refine L_rem rfl rfl (by omega) (by omega) rfl (fun hm => ?_); obtain ⟨k, hk⟩ := Int.eq_ofNat_of_zero_le hm.1; rw [hk] at hm ⊢)
              )
         | (apply isLoad
            first
              | refine L_loadPt rfl (by rfl) (by (first | assumption | exact Pt.ext (by assumption) (by (repeat (first | assumption | refine below_step ?_ (by assumption))); first | done | fail))) (by rfl) rfl ?_
              | refine L_loadPt0 rfl (by (first | assumption | exact Pt.ext (by assumption) (by (repeat (first | assumption | refine below_step ?_ (by assumption))); first | done | fail))) (by rfl) rfl ?_
              | refine L_loadAgg rfl (by (first | assumption | exact Pt.ext (by assumption) (by (repeat (first | assumption | refine below_step ?_ (by assumption))); first | done | fail))) (by rfl) rfl ?_)
         | refine L_assign rfl rfl ?_
         | refine L_do rfl rfl rfl (do_pick_true rfl rfl) ?_
         | refine L_do rfl rfl rfl (do_pick_false rfl rfl) ?_
         | refine L_do rfl rfl rfl (do_notDec rfl) ?_
         | refine L_do rfl rfl rfl (do_not rfl) ?_
         | refine L_do rfl rfl rfl (do_extract rfl rfl) ?_
         | refine L_do rfl rfl rfl (do_fieldAddr rfl) ?_
         | refine L_buildSlice0 tRow3 hBm rfl (fun w5 hO5 hB5 hC5 => ?_)
         | refine L_indexL rfl rfl (by (first | assumption | exact RdL.ext (by assumption) (by (repeat (first | assumption | refine below_step ?_ (by assumption))); first | done | fail) | exact OwL.rd (by assumption))) (by rfl) (by omega) (by omega) rfl (fun a y hy hab hp => ?_)
         | (apply isBox; refine L_boxV (w0 := w) (by (repeat (first | assumption | exact Below.refl _ _ | refine below_step ?_ (by assumption))); first | done | fail) rfl rfl (fun w1 hz1 hB hB1 hv => ?_); have hp := pt_of_block hv)
         | (apply isAllocStore; refine L_allocStoreV (w0 := w) (by (repeat (first | assumption | exact Below.refl _ _ | refine below_step ?_ (by assumption))); first | done | fail) rfl rfl rfl rfl ?_ rfl (fun w1 hz1 hB hB1 hv => ?_); (focus (first | exact Ty.one _ _ | simp [Value.oneCell'])); have hp := pt_of_block hv)
         )
    | (apply isLQ
       first
         | refine LQ_nil (fun w1 hBq => ?_)
         | apply LQ_mix
         | refine LQ_move rfl rfl ?_
         | (apply isGuardedQ
            first
              | refine LQ_guard_dec rfl rfl (fun hg => ?_) (fun hg => ?_)
              | refine LQ_guard_yes rfl rfl ?_
              | refine LQ_guard_no rfl rfl rfl rfl ?_
              | refine LQ_guard_undef rfl rfl rfl ?_
              | refine LQ_guard_split rfl rfl (fun hg => ?_) (fun hg => ?_))
         | (apply isCallQ
            first
              | refine LQ_lenL rfl (by (first | assumption | exact RdL.ext (by assumption) (by (repeat (first | assumption | refine below_step ?_ (by assumption))); first | done | fail) | exact OwL.rd (by assumption))) rfl (fun hlen => ?_)
              | refine LQ_do rfl rfl rfl (fun _ _ => do_lenStr rfl) ?_
              )
         | (apply isBinQ
            first
              | refine LQ_do rfl rfl rfl (fun _ _ => do_cmp rfl rfl rfl) ?_
              | refine LQ_do rfl rfl rfl (fun _ _ => do_cmpStr rfl rfl rfl) ?_
              | refine LQ_do rfl rfl rfl (fun _ _ => do_add rfl rfl (by omega)) ?_
              | refine LQ_do rfl rfl rfl (fun _ _ => do_sub rfl rfl (by omega)) ?_
              | refine LQ_do rfl rfl rfl (fun _ _ => do_eqBool TBool.und rfl rfl) ?_
              | refine LQ_do rfl rfl rfl (fun _ _ => do_neBool TBool.und rfl rfl) ?_
              )
         | (apply isLoadQ
            first
              | refine LQ_loadPt rfl (by rfl) (by (first | assumption | exact Pt.ext (by assumption) (by (repeat (first | assumption | refine below_step ?_ (by assumption))); first | done | fail))) (by rfl) rfl ?_
              | refine LQ_loadPt0 rfl (by (first | assumption | exact Pt.ext (by assumption) (by (repeat (first | assumption | refine below_step ?_ (by assumption))); first | done | fail))) (by rfl) rfl ?_
              | refine LQ_loadAgg rfl (by (first | assumption | exact Pt.ext (by assumption) (by (repeat (first | assumption | refine below_step ?_ (by assumption))); first | done | fail))) (by rfl) rfl ?_
              | refine RLQ_loadPt rfl (by rfl) (by (first | assumption | exact Pt.ext (by assumption) (by (repeat (first | assumption | refine below_step ?_ (by assumption))); first | done | fail))) (by rfl) (by first | assumption | (intro e; simp_all; done)) rfl ?_
              | refine RLQ_loadPt0 rfl (by (first | assumption | exact Pt.ext (by assumption) (by (repeat (first | assumption | refine below_step ?_ (by assumption))); first | done | fail))) (by rfl) (by first | assumption | (intro e; simp_all; done)) rfl ?_
              | refine RLQ_loadAgg rfl (by (first | assumption | exact Pt.ext (by assumption) (by (repeat (first | assumption | refine below_step ?_ (by assumption))); first | done | fail))) (by rfl) (by first | assumption | (intro e; simp_all; done)) rfl ?_)
         | refine LQ_assign rfl rfl ?_
         | refine LQ_do rfl rfl rfl (fun _ _ => do_pick_true rfl rfl) ?_
         | refine LQ_do rfl rfl rfl (fun _ _ => do_pick_false rfl rfl) ?_
         | refine LQ_do rfl rfl rfl (fun _ _ => do_notDec rfl) ?_
         | refine LQ_do rfl rfl rfl (fun _ _ => do_not rfl) ?_
         | refine LQ_do rfl rfl rfl (fun _ _ => do_extract rfl rfl) ?_
         | refine LQ_do rfl rfl rfl (fun _ _ => do_fieldAddr rfl) ?_
         | refine LQ_do rfl rfl rfl (fun _ _ => do_buildS rfl (by kernel_rfl)) ?_
         | refine LQ_sliceH rfl rfl hrd rfl (by omega) (by omega) rfl (fun sv hsl hob => ?_)
         | refine LQ_sliceL rfl rfl hrd rfl (by omega) (by omega) rfl (fun sv hsl hob => ?_)
         | refine LQ_indexL rfl rfl (by (first | assumption | exact RdL.ext (by assumption) (by (repeat (first | assumption | refine below_step ?_ (by assumption))); first | done | fail) | exact OwL.rd (by assumption))) (by rfl) (by omega) (by omega) rfl (fun a y hy hab hp => ?_))
    | (apply isW
       first
         | apply W_seq
         | apply W_region
         | refine W_region_M (id := 9) (.look 1 (.look 2 (.look 3 (.look 5 (.look 6 (.look 7 (.look 8 (.act 0 (.act 4 (.act 9 (.look 10 .done))))))))))) mixed (by kernel_rfl) (by kernel_rfl) (by rintro _ _ _ _ _ ⟨_, _, hh, _⟩; cases hh) (fun w1 hBm hzm => ?_)
         | (refine W_region_M (id := 10) (.look 1 (.look 2 (.look 3 (.look 4 (.look 6 (.look 7 (.look 8 (.act 0 (.act 5 (.act 9 (.look 10 .done))))))))))) mixed (by kernel_rfl) (by kernel_rfl) (by rintro _ _ _ _ _ ⟨_, _, hh, _⟩; cases hh) (fun w1 hBm hzm => ?_); have hL9 := hO7.rd)
         | refine W_region_Q mixed (by kernel_rfl) ?_
         | refine W_cond_dec rfl (fun hg => ?_) (fun hg => ?_)
         | refine W_cond_true rfl ?_
         | refine W_cond_false rfl ?_
         | refine W_cond rfl (fun hg => ?_) (fun hg => ?_)
         | apply W_skip
         | apply W_ret
         | apply W_exit
         | apply W_block)
    | (apply isLM
       first
         | apply LM_nil
         | refine LM_look rfl rfl ?_
         | refine LM_act rfl ?_
         | refine LM_both rfl rfl ?_ ?_
         | refine LM_do rfl rfl rfl rfl (fun _ _ => do_nilCheck rfl) ?_)
    | (apply isAt
       first
         | apply At_then
         | apply At_then_ret
         | apply At_then_exit
         | apply At_block_normal
         | apply At_block_ret
         | apply At_block_hit
         | refine At_block_miss rfl ?_
         | refine At_end1 rfl rfl ?_
         | refine At_end1n rfl rfl ?_
         | refine At_end2 rfl rfl rfl ?_
         | refine At_mix (by (repeat (first | assumption | exact Below.refl _ _ | refine below_step ?_ (by assumption) | exact World.grownBy.refl _ _ | refine kp_below ?_ (by assumption) | refine kp_row ?_ (by assumption))); first | done | fail) ?_))
  · exact ⟨rfl, Below.refl _ _⟩
  · exact ⟨rfl, Below.refl _ _⟩
  · exact ⟨by simp, (by (repeat (first | assumption | exact Below.refl _ _ | refine below_step ?_ (by assumption))); first | done | fail)⟩
  · exact ⟨by simp, (by (repeat (first | assumption | exact Below.refl _ _ | refine below_step ?_ (by assumption))); first | done | fail)⟩
  · exact ⟨by simp, (by (repeat (first | assumption | exact Below.refl _ _ | refine below_step ?_ (by assumption))); first | done | fail)⟩
  · have hok : diskFrom 0 bs = true := by
      have : (!diskOk bs) = false := by assumption
      simpa [diskOk] using this
    have hb2 : Below w2.heap.size w2 w7 := (by (repeat (first | assumption | exact Below.refl _ _ | refine below_step ?_ (by assumption))); first | done | fail)
    have hx : RdBl w7 _ _ (bs.take k ++ bs.drop (k + 1)) := hbl.take_drop (i := k) (j := k + 1) (hL9.ext hB7) hb2
    have hy : RdBl w7 _ _ (bs.take (k + 1) ++ bs.drop k) := hbl.take_drop (i := k + 1) (j := k) hO7.rd hb2
    have hsx : Small (bs.take k ++ bs.drop (k + 1)) := (hF.take_drop _ _).resolve_right (by omega)
    have hsy : Small (bs.take (k + 1) ++ bs.drop k) := (hF.take_drop _ _).resolve_right (by omega)
    have dx : diskOk (bs.take k ++ bs.drop (k + 1)) = true := diskFrom_without bs k 0 hok
    have dy : diskOk (bs.take (k + 1) ++ bs.drop k) = false := diskFrom_twice bs k 0 (by omega)
    have hw2 : Below w.heap.size w w7 := (by (repeat (first | assumption | exact Below.refl _ _ | refine below_step ?_ (by assumption))); first | done | fail)
    clear hB6 hB5 hC5 hBm hB2 hB3 hB4
    have hcx := c_implDiskValid hx hsx
    rw [dx] at hcx
    repeat' (first
      | (apply isL
         first
           | apply L_nil
           | refine L_move rfl rfl ?_
           | (apply isGuarded
              first
                | refine L_guard_dec rfl rfl (fun hg => ?_) (fun hg => ?_)
                | refine L_guard_yes rfl rfl ?_
                | refine L_guard_no rfl rfl rfl rfl ?_
                | refine L_guard_undef rfl rfl rfl ?_
                | refine L_guard_split rfl rfl (fun hg => ?_) (fun hg => ?_))
           | (apply isCall
              first
                | refine L_lenL rfl (by (first | assumption | exact RdL.ext (by assumption) (by (repeat (first | assumption | refine below_step ?_ (by assumption))); first | done | fail) | exact OwL.rd (by assumption))) rfl (fun hlen => ?_)
                | refine L_do rfl rfl rfl (do_lenStr rfl) ?_
                | refine L_callV rfl rfl hcx (fun w8 hB8 => ?_)
                | (have hcy := c_implDiskValid (hy.ext hB8) hsy; rw [dy] at hcy; refine L_callV rfl rfl hcy (fun w9 hB9 => ?_))
                )
           | (apply isBin
              first
                | refine L_do rfl rfl rfl (do_cmp rfl rfl rfl) ?_
                | refine L_do rfl rfl rfl (do_cmpStr rfl rfl rfl) ?_
                | refine L_do rfl rfl rfl (do_add rfl rfl (by omega)) ?_
                | refine L_do rfl rfl rfl (do_sub rfl rfl (by omega)) ?_
                | refine L_do rfl rfl rfl (do_eqBool TBool.und rfl rfl) ?_
                | refine L_do rfl rfl rfl (do_neBool TBool.und rfl rfl) ?_
                )
           | (apply isLoad
              first
                | refine L_loadPt rfl (by rfl) (by (first | assumption | exact Pt.ext (by assumption) (by (repeat (first | assumption | refine below_step ?_ (by assumption))); first | done | fail))) (by rfl) rfl ?_
                | refine L_loadPt0 rfl (by (first | assumption | exact Pt.ext (by assumption) (by (repeat (first | assumption | refine below_step ?_ (by assumption))); first | done | fail))) (by rfl) rfl ?_
                | refine L_loadAgg rfl (by (first | assumption | exact Pt.ext (by assumption) (by (repeat (first | assumption | refine below_step ?_ (by assumption))); first | done | fail))) (by rfl) rfl ?_)
           | refine L_assign rfl rfl ?_
           | refine L_do rfl rfl rfl (do_pick_true rfl rfl) ?_
           | refine L_do rfl rfl rfl (do_pick_false rfl rfl) ?_
           | refine L_do rfl rfl rfl (do_notDec rfl) ?_
           | refine L_do rfl rfl rfl (do_not rfl) ?_
           | refine L_do rfl rfl rfl (do_extract rfl rfl) ?_
           | refine L_do rfl rfl rfl (do_fieldAddr rfl) ?_
           | refine L_indexL rfl rfl (by (first | assumption | exact RdL.ext (by assumption) (by (repeat (first | assumption | refine below_step ?_ (by assumption))); first | done | fail) | exact OwL.rd (by assumption))) (by rfl) (by omega) (by omega) rfl (fun a y hy hab hp => ?_)
           | (apply isBox; refine L_boxV (w0 := w) (by (repeat (first | assumption | exact Below.refl _ _ | refine below_step ?_ (by assumption))); first | done | fail) rfl rfl (fun w1 hz1 hB hB1 hv => ?_); have hp := pt_of_block hv)
           | (apply isAllocStore; refine L_allocStoreV (w0 := w) (by (repeat (first | assumption | exact Below.refl _ _ | refine below_step ?_ (by assumption))); first | done | fail) rfl rfl rfl rfl ?_ rfl (fun w1 hz1 hB hB1 hv => ?_); (focus (first | exact Ty.one _ _ | simp [Value.oneCell'])); have hp := pt_of_block hv)
           )
      | (apply isLQ
         first
           | refine LQ_nil (fun w1 hBq => ?_)
           | apply LQ_mix
           | refine LQ_move rfl rfl ?_
           | (apply isGuardedQ
              first
                | refine LQ_guard_dec rfl rfl (fun hg => ?_) (fun hg => ?_)
                | refine LQ_guard_yes rfl rfl ?_
                | refine LQ_guard_no rfl rfl rfl rfl ?_
                | refine LQ_guard_undef rfl rfl rfl ?_
                | refine LQ_guard_split rfl rfl (fun hg => ?_) (fun hg => ?_))
           | (apply isCallQ
              first
                | refine LQ_lenL rfl (by (first | assumption | exact RdL.ext (by assumption) (by (repeat (first | assumption | refine below_step ?_ (by assumption))); first | done | fail) | exact OwL.rd (by assumption))) rfl (fun hlen => ?_)
                | refine LQ_do rfl rfl rfl (fun _ _ => do_lenStr rfl) ?_
                )
           | (apply isBinQ
              first
                | refine LQ_do rfl rfl rfl (fun _ _ => do_cmp rfl rfl rfl) ?_
                | refine LQ_do rfl rfl rfl (fun _ _ => do_cmpStr rfl rfl rfl) ?_
                | refine LQ_do rfl rfl rfl (fun _ _ => do_add rfl rfl (by omega)) ?_
                | refine LQ_do rfl rfl rfl (fun _ _ => do_sub rfl rfl (by omega)) ?_
                | refine LQ_do rfl rfl rfl (fun _ _ => do_eqBool TBool.und rfl rfl) ?_
                | refine LQ_do rfl rfl rfl (fun _ _ => do_neBool TBool.und rfl rfl) ?_
                )
           | (apply isLoadQ
              first
                | refine LQ_loadPt rfl (by rfl) (by (first | assumption | exact Pt.ext (by assumption) (by (repeat (first | assumption | refine below_step ?_ (by assumption))); first | done | fail))) (by rfl) rfl ?_
                | refine LQ_loadPt0 rfl (by (first | assumption | exact Pt.ext (by assumption) (by (repeat (first | assumption | refine below_step ?_ (by assumption))); first | done | fail))) (by rfl) rfl ?_
                | refine LQ_loadAgg rfl (by (first | assumption | exact Pt.ext (by assumption) (by (repeat (first | assumption | refine below_step ?_ (by assumption))); first | done | fail))) (by rfl) rfl ?_
                | refine RLQ_loadPt rfl (by rfl) (by (first | assumption | exact Pt.ext (by assumption) (by (repeat (first | assumption | refine below_step ?_ (by assumption))); first | done | fail))) (by rfl) (by first | assumption | (intro e; simp_all; done)) rfl ?_
                | refine RLQ_loadPt0 rfl (by (first | assumption | exact Pt.ext (by assumption) (by (repeat (first | assumption | refine below_step ?_ (by assumption))); first | done | fail))) (by rfl) (by first | assumption | (intro e; simp_all; done)) rfl ?_
                | refine RLQ_loadAgg rfl (by (first | assumption | exact Pt.ext (by assumption) (by (repeat (first | assumption | refine below_step ?_ (by assumption))); first | done | fail))) (by rfl) (by first | assumption | (intro e; simp_all; done)) rfl ?_)
           | refine LQ_assign rfl rfl ?_
           | refine LQ_do rfl rfl rfl (fun _ _ => do_pick_true rfl rfl) ?_
           | refine LQ_do rfl rfl rfl (fun _ _ => do_pick_false rfl rfl) ?_
           | refine LQ_do rfl rfl rfl (fun _ _ => do_notDec rfl) ?_
           | refine LQ_do rfl rfl rfl (fun _ _ => do_not rfl) ?_
           | refine LQ_do rfl rfl rfl (fun _ _ => do_extract rfl rfl) ?_
           | refine LQ_do rfl rfl rfl (fun _ _ => do_fieldAddr rfl) ?_
           | refine LQ_do rfl rfl rfl (fun _ _ => do_buildS rfl (by kernel_rfl)) ?_
           | refine LQ_indexL rfl rfl (by (first | assumption | exact RdL.ext (by assumption) (by (repeat (first | assumption | refine below_step ?_ (by assumption))); first | done | fail) | exact OwL.rd (by assumption))) (by rfl) (by omega) (by omega) rfl (fun a y hy hab hp => ?_))
      | (apply isW
         first
           | apply W_seq
           | apply W_region
           | refine W_region_Q mixed (by kernel_rfl) ?_
           | refine W_cond_dec rfl (fun hg => ?_) (fun hg => ?_)
           | refine W_cond_true rfl ?_
           | refine W_cond_false rfl ?_
           | refine W_cond rfl (fun hg => ?_) (fun hg => ?_)
           | apply W_skip
           | apply W_ret
           | apply W_exit
           | apply W_block)
      | (apply isLM
         first
           | apply LM_nil
           | refine LM_look rfl rfl ?_
           | refine LM_act rfl ?_
           | refine LM_both rfl rfl ?_ ?_
           | refine LM_do rfl rfl rfl rfl (fun _ _ => do_nilCheck rfl) ?_)
      | (apply isAt
         first
           | apply At_then
           | apply At_then_ret
           | apply At_then_exit
           | apply At_block_normal
           | apply At_block_ret
           | apply At_block_hit
           | refine At_block_miss rfl ?_
           | refine At_end1 rfl rfl ?_
           | refine At_end1n rfl rfl ?_
           | refine At_end2 rfl rfl rfl ?_
           | refine At_mix (by (repeat (first | assumption | exact Below.refl _ _ | refine below_step ?_ (by assumption) | exact World.grownBy.refl _ _ | refine kp_below ?_ (by assumption) | refine kp_row ?_ (by assumption))); first | done | fail) ?_))
    exact ⟨rfl, (by (repeat (first | assumption | exact Below.refl _ _ | refine below_step ?_ (by assumption))); first | done | fail)⟩
end Go.Proofs.Ytomhhfeakpompaa
