/-
  Contracts of the draws: the reader of a code, a drawn number, drawn bytes, a drawn disk. Of what is drawn only bounds are told.
-/
import Derived.Test.YtjobbcdolbhadaaGreatDoorBase2
namespace Go.Proofs.YtjobbcdolbhadaaGreatDoor
open Go Go.RowKit
set_option linter.unusedVariables false

/-- In block g lies a reader of the code bs, at place p. -/
structure Rdr (w : World) (g : Nat) (p : Nat) : Prop where
  blk : ∃ (v : Value) (bs : List UInt8), w.heap[g]? = some (.cells #[v, .int .i64 p] 103 (0, 0)) ∧ RdL tU8 w v bs ∧ (bs ≠ [] → ∀ k, v.ownBlock = some k → k < g) ∧ v.oneCell' = true ∧ bs.length ≤ 2000

theorem rdl_store {α : Type} {T : Ty α} {w w' : World} {v : Value} {xs : List α} {g : Nat} (h : RdL T w v xs) (hg : w.grownBy w' (some g)) (hne : xs ≠ [] → v.ownBlock ≠ some g) : RdL T w' v xs := by
  by_cases he : xs = []
  · exact rdl_empty h he
  · exact h.grown hg (fun b hb e => hne he (by rw [hb, e]))

theorem Rdr.ext {w w' : World} {g p : Nat} (h : Rdr w g p) (hB : Below w.heap.size w w') : Rdr w' g p := by
  obtain ⟨v, bs, h1, h2, h3⟩ := h.blk
  exact ⟨v, bs, (hB.block g (Array.getElem?_eq_some_iff.1 h1).1).trans h1, h2.ext hB, h3⟩
theorem Rdr.lt {w : World} {g p : Nat} (h : Rdr w g p) : g < w.heap.size := by
  obtain ⟨v, bs, h1, _⟩ := h.blk
  exact (Array.getElem?_eq_some_iff.1 h1).1
/-- Another block changes. -/
theorem Rdr.grown {w w' : World} {g p base e : Nat} {α : Type} {T : Ty α} {v : Value} {xs : List α} (h : Rdr w g p) (hO : OwL T w base e v xs) (hb : g < base) (hg : w.grownBy w' v.ownBlock) : Rdr w' g p := by
  obtain ⟨u, bs, h1, h2, h3, h4⟩ := h.blk
  refine ⟨u, bs, (hg.block g (Array.getElem?_eq_some_iff.1 h1).1 (fun e => by have := (hO.lt g e.symm).1; omega)).trans h1, ?_, h3, h4⟩
  by_cases he : bs = []
  · exact rdl_empty h2 he
  · exact h2.grown hg (fun b hb' e => by have := (hO.lt b e.symm).1; have := h3 he b hb'; omega)

theorem c_pick {g p : Nat} {n : Int} {w : World} (h : Rdr w g p) (hp : p ≤ 1073741824) (hn : n ≤ 1073741824) :
    Cl Tryz.prog 63 [.pointer (some ⟨g, 0, none⟩), .int .i64 n] w (fun u w' => ∃ k : Int, u = .int .i64 k ∧ 0 ≤ k ∧ (1 ≤ n → k < n) ∧ Rdr w' g (p + 1) ∧ w.grownBy w' (some g)) := by
  obtain ⟨v, bs, hblk, hrd, hne, hone, hbl⟩ := h.blk
  have hpt := pt_of_block hblk
  refine calls_start 99 Tryz.func63 rfl rfl rfl ?_
  repeat' (first | (apply isL; first | apply L_nil | refine L_move rfl rfl ?_ | (apply isGuarded; first | refine L_guard_dec rfl rfl (fun hg => ?_) (fun hg => ?_) | refine L_guard_yes rfl rfl ?_ | refine L_guard_no rfl rfl rfl rfl ?_ | refine L_guard_undef rfl rfl rfl ?_ | refine L_guard_split rfl rfl (fun hg => ?_) (fun hg => ?_)) | (apply isCall; first | refine L_lenL rfl rd_ rfl (fun hlen => ?_) ) | (apply isBin; first | refine L_do rfl rfl rfl (do_cmp rfl rfl rfl) ?_ | refine L_do rfl rfl rfl (do_add rfl rfl om_) ?_ | refine L_do rfl rfl rfl (do_sub rfl rfl om_) ?_ | refine L_rem rfl rfl om_ om_ rfl (fun hm => ?_) | refine L_do rfl rfl rfl (do_quo rfl rfl ⟨by omega, by omega⟩ om_) ?_ | refine L_xor rfl rfl ⟨by omega, by omega⟩ ⟨by omega, by omega⟩ rfl (fun z hz0 hz2 => ?_) ) | (apply isLoad; first | refine L_loadPt rfl (by rfl) pt_ (by rfl) rfl ?_ | refine L_loadPt2 rfl (by rfl) pt_ (by rfl) rfl ?_ | refine L_loadPt0 rfl pt_ (by rfl) rfl ?_ | refine L_loadAgg rfl pt_ (by rfl) rfl ?_ | refine L_loadSub rfl (by rfl) pt_ (by rfl) rfl ?_) | refine L_assign rfl rfl ?_ | refine L_do rfl rfl rfl (do_pick_true rfl rfl) ?_ | refine L_do rfl rfl rfl (do_pick_false rfl rfl) ?_ | refine L_do rfl rfl rfl (do_fieldAddr rfl) ?_ | refine L_do rfl rfl rfl (do_nilCheck rfl) ?_ | (apply isStore; refine L_storeAt (cs := [.int .i64 (p + 1 : Int)]) rfl rfl rfl rfl (by simp [Value.oneCell']) hblk (by simp) rfl (fun w1 hb1 hg1 hz1 => ?_); have hpt1 := pt_of_block hb1; have hrd1 := rdl_store hrd hg1 (fun he e => Nat.lt_irrefl _ (hne he _ e))) | (refine L_indexL (T := tU8) rfl rfl rd_ (by rfl) om_ om_ rfl (fun a y hy hab hp => ?_); have h8 := y.toNat_lt) | refine L_do rfl rfl rfl (do_convInt (ds := .int .u8) (by kernel_rfl) (by kernel_rfl) rfl ⟨by omega, by omega⟩) ?_ | refine L_indexL rfl rfl rd_ (by rfl) om_ om_ rfl (fun a y hy hab hp => ?_) ) | (apply isLQ; first | refine LQ_nil (fun w1 hBq => ?_) | apply LQ_mix | refine LQ_move rfl rfl ?_ | (apply isCallQ; first | refine LQ_lenL rfl rd_ rfl (fun hlen => ?_) ) | (apply isBinQ; first | refine LQ_do rfl rfl rfl (fun _ _ => do_cmp rfl rfl rfl) ?_ | refine LQ_do rfl rfl rfl (fun _ _ => do_cmpStr rfl rfl rfl) ?_ | refine LQ_do rfl rfl rfl (fun _ _ => do_add rfl rfl om_) ?_ | refine LQ_do rfl rfl rfl (fun _ _ => do_sub rfl rfl om_) ?_ | refine LQ_rem rfl rfl om_ om_ rfl (fun hm => ?_) | refine LQ_quo rfl rfl ⟨by omega, by omega⟩ om_ rfl (fun hm => ?_) | refine LQ_do rfl rfl rfl (fun _ _ => do_mul rfl rfl ⟨by omega, by omega⟩) ?_ ) | (apply isLoadQ; first | refine LQ_loadPt rfl (by rfl) pt_ (by rfl) rfl ?_ | refine LQ_loadPt2 rfl (by rfl) pt_ (by rfl) rfl ?_ | refine LQ_loadPt0 rfl pt_ (by rfl) rfl ?_ | refine LQ_loadAgg rfl pt_ (by rfl) rfl ?_ | refine LQ_loadSub rfl (by rfl) pt_ (by rfl) rfl ?_) | refine LQ_assign rfl rfl ?_ | refine LQ_do rfl rfl rfl (fun _ _ => do_notDec rfl) ?_ | refine LQ_do rfl rfl rfl (fun _ _ => do_not rfl) ?_ | refine LQ_do rfl rfl rfl (fun _ _ => do_fieldAddr rfl) ?_ | refine LQ_do rfl rfl rfl (fun _ _ => do_nilCheck rfl) ?_ | (refine LQ_indexL (T := tU8) rfl rfl rd_ (by rfl) om_ om_ rfl (fun a y hy hab hp => ?_); have h8 := y.toNat_lt) | refine LQ_do rfl rfl rfl (fun _ _ => do_convInt (ds := .int .u8) (by kernel_rfl) (by kernel_rfl) rfl ⟨by omega, by omega⟩) ?_ | refine LQ_indexL rfl rfl rd_ (by rfl) om_ om_ rfl (fun a y hy hab hp => ?_)) | (apply isW; first | apply W_seq | apply W_region | refine W_region_Q mixed (by kernel_rfl) ?_ | refine W_cond_dec rfl (fun hg => ?_) (fun hg => ?_) | refine W_cond_true rfl ?_ | refine W_cond_false rfl ?_ | refine W_cond rfl (fun hg => ?_) (fun hg => ?_) | apply W_skip | apply W_ret | apply W_exit | apply W_block) | (apply isLM) | (apply isAt; first | apply At_then | apply At_then_ret | apply At_then_exit | apply At_block_normal | apply At_block_ret | apply At_block_hit | refine At_block_miss rfl ?_ | refine At_end1 rfl rfl ?_ | refine At_end1n rfl rfl ?_ | refine At_end2 rfl rfl rfl ?_ | refine At_end3 rfl rfl rfl rfl ?_ | refine At_end4 rfl rfl rfl rfl rfl ?_ | refine At_end5 rfl rfl rfl rfl rfl rfl ?_ | refine At_mix kp_ ?_))
  · exact ⟨0, rfl, by omega, by omega, ⟨v, bs, hb1, hrd1, hne, hone, hbl⟩, hg1⟩
  · exact ⟨0, rfl, by omega, by omega, ⟨v, bs, hb1, hrd1, hne, hone, hbl⟩, hg1⟩
  · exact ⟨_, rfl, hm.1, fun _ => hm.2, ⟨v, bs, hb1, hrd1, hne, hone, hbl⟩, hg1⟩
  · have hlt := (Array.getElem?_eq_some_iff.1 hblk).1
    exact ⟨_, rfl, hm.1, fun _ => hm.2, ⟨v, bs, (hBq.block g (by rw [hz1]; exact hlt)).trans hb1, hrd1.ext hBq, hne, hone, hbl⟩, kp_below hg1 hBq⟩

theorem c_l6Open {v : Value} {bs : List UInt8} {w : World} (h : RdL tU8 w v bs) : Cl Tryz.prog 61 [v] w (fun u w' => ∃ g, u = .pointer (some ⟨g, 0, none⟩) ∧ w.heap.size ≤ g ∧ g < w'.heap.size ∧ Rdr w' g 0 ∧ Below w.heap.size w w') := by
  obtain ⟨a0, c0, rfl, _, _⟩ := h.slice
  have hlt : ∀ k, (Value.slice a0 bs.length c0).ownBlock = some k → bs ≠ [] → k < w.heap.size := fun k hk hne => by
    obtain ⟨_, a, cap, e, _, _, h4⟩ := h.rd
    injection e with e1 e2 e3
    subst e1
    rcases h4 with ⟨rfl, _⟩ | ⟨b, rfl, hp⟩
    · cases hk
    · cases hk
      refine hp.lt ?_
      cases bs with
      | nil => exact absurd rfl hne
      | cons x r => simp [tU8]
  refine calls_start 11 Tryz.func61 rfl rfl rfl ?_
  repeat' (first | (apply isL; first | apply L_nil | refine L_move rfl rfl ?_ | (apply isCall; first | refine L_lenL rfl rd_ rfl (fun hlen => ?_) ) | (apply isBin; first | refine L_do rfl rfl rfl (do_cmp rfl rfl rfl) ?_ ) | refine L_assign rfl rfl ?_ | (refine L_sliceH rfl rfl h rfl om_ om_ rfl (fun v1 hsl hob => ?_); obtain ⟨a1, c1, rfl, _, _⟩ := hsl.slice) | refine L_do rfl rfl rfl (do_buildS rfl (by kernel_rfl)) ?_ | (apply isBox; refine L_boxV (w0 := w) bw_ rfl rfl (fun w1 hz1 hB hB1 hv => ?_); have hp := pt_of_block hv) ) | (apply isW; first | apply W_seq | apply W_region | refine W_cond_dec rfl (fun hg => ?_) (fun hg => ?_) | refine W_cond_true rfl ?_ | refine W_cond_false rfl ?_ | refine W_cond rfl (fun hg => ?_) (fun hg => ?_) | apply W_skip | apply W_ret | apply W_exit | apply W_block) | (apply isAt; first | apply At_then | apply At_then_ret | apply At_then_exit | apply At_block_normal | apply At_block_ret | apply At_block_hit | refine At_block_miss rfl ?_ | refine At_end1 rfl rfl ?_ | refine At_end1n rfl rfl ?_ | refine At_end2 rfl rfl rfl ?_ | refine At_end3 rfl rfl rfl rfl ?_ | refine At_end4 rfl rfl rfl rfl rfl ?_ | refine At_end5 rfl rfl rfl rfl rfl rfl ?_ | refine At_mix kp_ ?_))
  · refine ⟨_, rfl, Nat.le_refl _, by omega, ⟨_, _, hv, hsl.ext hB1, fun hne k e => ?_, rfl, by simp; omega⟩, hB⟩
    rw [hob] at e
    exact hlt _ e (fun e => by subst e; simp at hne)
  · refine ⟨_, rfl, Nat.le_refl _, by omega, ⟨_, _, hv, h.ext hB1, fun hne k e => ?_, rfl, by omega⟩, hB⟩
    exact hlt _ e hne
end Go.Proofs.YtjobbcdolbhadaaGreatDoor
