/-
  Contracts of the draws: damaged bytes, bytes of a command.
-/
import Derived.Test.YtpdkajcnnanocaaGreatDoorDrawTree
import Derived.Test.YtpdkajcnnanocaaGreatDoorLogPlain
namespace Go.Proofs.YtpdkajcnnanocaaGreatDoor
open Go Go.RowKit
set_option linter.unusedVariables false
set_option linter.unusedSimpArgs false

theorem c_l91Damage {g p base : Nat} {v : Value} {xs : List Int} {w0 w : World} (h : Rdr w g p) (hO : OwL tInt w base 3 v xs) (hgb : g < base) (hbw : base ≤ w.heap.size) (hl : xs.length ≤ 100000) (hp : p ≤ 1000000) (hB0 : Below w0.heap.size w0 w) (hg0 : w0.heap.size ≤ g) :
    Cl Tryz.prog 27 [.pointer (some ⟨g, 0, none⟩), v] w (fun u w' => ∃ (ys : List Int) (p' : Nat), OwL tInt w' base 3 u ys ∧ ys.length ≤ xs.length + 1 ∧ Rdr w' g p' ∧ p' ≤ p + 3 ∧ Below w0.heap.size w0 w' ∧ w.heap.size ≤ w'.heap.size) := by
  refine calls_start 37 Tryz.func27 rfl rfl rfl ?_
  have hr := h
  have hz : w.heap.size ≤ w.heap.size := Nat.le_refl _
  repeat' (first | (apply isL; first | apply L_nil | refine L_move rfl rfl ?_ | (apply isCall; first | refine L_lenL rfl rd_ rfl (fun hlen => ?_) | (refine L_call rfl rfl (c_pick hr om_ om_) (fun _ w2 hR => ?_); obtain ⟨k, rfl, hk0, hkn, hr2, hg2⟩ := hR; replace hr := hr2; replace hO := hO.kept hg2 (hO.ne_ hgb); replace hB0 := below_grow0 hB0 hg2 (fun k hk => by cases hk; exact hg0); replace hz := Nat.le_trans hz hg2.size) | refine L_do rfl rfl rfl (do_len rfl hO.rd.rd) ?_ | (have hO6 := hO.ext hB5; refine L_appendG rfl rfl (Nat.le_trans hbw (Nat.le_trans hz hB5.size)) hO6 hO5.rd rfl (by simp; omega) (by simp; omega) rfl (fun v4 w4 hO4 hg4 => ?_)) ) | (apply isBin; first | refine L_do rfl rfl rfl (do_cmp rfl rfl rfl) ?_ | refine L_do rfl rfl rfl (do_sub rfl rfl om_) ?_ ) | refine L_assign rfl rfl ?_ | refine L_sliceOwnH rfl rfl hO rfl om_ om_ rfl (fun v3 hO3 hob3 => ?_) | refine L_buildSliceL tInt [k] rfl rfl rfl rfl rfl rfl rfl rfl (fun w5 hO5 hB5 => ?_) | refine L_indexOwn rfl rfl hO rfl om_ om_ rfl (fun gv y0 hy0 hgv => ?_) | (apply isStore; refine L_storeElemG (off := 0) rfl rfl hO rfl hgv hy0 rfl rfl (by simp [Value.oneCell']) (Nat.le_of_ble_eq_true rfl) (y1 := k - 1) rfl (fun w7 hO7 hg7 hz7 => ?_)) | refine L_indexL rfl rfl rd_ (by rfl) om_ om_ rfl (fun a y hy hab hp => ?_) ) | (apply isW; first | apply W_seq | apply W_region | refine W_cond_dec rfl (fun hg => ?_) (fun hg => ?_) | refine W_cond_true rfl ?_ | refine W_cond_false rfl ?_ | refine W_cond rfl (fun hg => ?_) (fun hg => ?_) | apply W_skip | apply W_ret | apply W_exit | apply W_block) | (apply isAt; first | apply At_then | apply At_then_ret | apply At_then_exit | apply At_block_normal | apply At_block_ret | apply At_block_hit | refine At_block_miss rfl ?_ | refine At_end1 rfl rfl ?_ | refine At_end1n rfl rfl ?_ | refine At_end2 rfl rfl rfl ?_ | refine At_end3 rfl rfl rfl rfl ?_ | refine At_end4 rfl rfl rfl rfl rfl ?_ | refine At_mix kp_ ?_))
  · exact ⟨xs, p, hO, by omega, hr, by omega, hB0, hz⟩
  · exact ⟨_, _, hO3, by simp; omega, hr, by omega, hB0, hz⟩
  · exact ⟨_, _, hO7, by simp, hr.grown hO hgb (by rw [hgv]; exact hg7), by omega, below_grow0 hB0 hg7 (fun k hk => by cases hk; have := (hO.lt _ hgv).1; omega), by omega⟩
  · exact ⟨_, _, hO4, by simp, (hr.ext hB5).grown hO6 hgb hg4, by omega, below_grow0 (below_step hB0 hB5) hg4 (fun k hk => by have := (hO6.lt _ hk).1; omega), Nat.le_trans hz (Nat.le_trans hB5.size hg4.size)⟩
  · exact ⟨xs, _, hO, by omega, hr, by omega, hB0, hz⟩

theorem cmBytes_short {c : Cm} (h : c.path.length ≤ 100) : (cmBytes c).length ≤ 104 := by
  cases hok : cmOk c
  · unfold cmBytes; rw [hok]; simp
  · rw [cmBytes_eq hok]; simp [nums_len]; omega

end Go.Proofs.YtpdkajcnnanocaaGreatDoor
