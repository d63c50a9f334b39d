/-
  Contracts: the book of a disk, by the program's function and by the reference's.
-/
import Derived.Test.YtpdkajcnnanocaaGreatDoorRead
import Derived.Test.YtpdkajcnnanocaaGreatDoorBooks
namespace Go.Proofs.YtpdkajcnnanocaaGreatDoor
open Go Go.RowKit
set_option linter.unusedVariables false
set_option linter.unusedSimpArgs false

theorem readOf_len (bs : List Bl) (name : Int) : (readOf bs name).length ≤ 400 := by
  unfold readOf
  cases h : readOk bs name
  · simp
  · cases hb : bs[(findNm bs name).toNat]? with
    | none => simp [hb]
    | some b =>
      have hd : diskOk bs = true := by unfold readOk at h; simp at h; exact h.1
      have := diskOk_400 hd hb
      simp [hb]; omega
theorem open_no {bs : List Bl} (h : readOk bs 1 = false) : bookHead (readOf bs 1) = none ∧ bookEp (readOf bs 1) = 0 ∧ bookLog (readOf bs 1) = [] := by
  have e : readOf bs 1 = [] := by unfold readOf; rw [h]; rfl
  have e1 : bookHead (readOf bs 1) = none := by rw [e]; exact head_none (headF_short (by simp))
  exact ⟨e1, ep_none e1⟩
theorem c_implBookOpen {v : Value} {rows : List Row3} {bs : List Bl} {w : World} (h : RdBl w v rows bs) (hsm : Small bs) (hm : MLen w) : Cl Tryz.prog 5 [v] w (fun u w' => ∃ a n c, u = .tuple #[vBk (bookEp (readOf bs 1)) (.slice a n c), .bool (bookHead (readOf bs 1)).isSome] ∧ OwL tCm w' w.heap.size 65 (.slice a n c) (bookLog (readOf bs 1)) ∧ Below w.heap.size w w') := by
  refine calls_start 18 Tryz.func5 rfl rfl rfl ?_
  have hrl := readOf_len bs 1
  cases hok : readOk bs 1
  all_goals
    repeat' (first | (apply isL; first | apply L_nil | refine L_move rfl rfl ?_ | (apply isCall; first | (refine L_call rfl rfl (c_implDiskRead h hsm) (fun _ w2 hR => ?_); obtain ⟨x2, rfl, hO2, hB2⟩ := hR; rw [hok]; have hz2 := hB2.size; replace hvc := blk_on hvc hB2; replace hBa := below_step hBa hB2) | (refine L_call rfl rfl (c_implBookLoad hO2.rd om_ (hm.ext hBa)) (fun _ w3 hR => ?_); obtain ⟨r3, rfl, hO3, hB3⟩ := hR; replace hvc := blk_on hvc hB3; have hz3 := hBa.size; replace hBa := below_step hBa hB3; obtain ⟨a3, c3, rfl, _, _⟩ := hO3.rd.slice) ) | refine L_assign rfl rfl ?_ | refine L_do rfl rfl rfl (do_notDec rfl) ?_ | refine L_do rfl rfl rfl (do_not rfl) ?_ | refine L_do rfl rfl rfl (do_extract rfl rfl) ?_ | (apply isAlloc; refine L_allocV (w0 := w) (Below.refl _ _) rfl (fun w1 hz1 hB1 hC1 hvc => ?_); replace h := h.ext hC1; have hBa : Below w.heap.size w w1 := hC1; clear hB1 hC1) | refine L_do rfl rfl rfl (do_build (t := 27) (ps := []) (cells := #[.int .i64 0, .slice none 0 0]) rfl (by kernel_rfl)) ?_ | (apply isStore; refine L_storeAt (b := w.heap.size) (off := 0) (cs := [_, _]) rfl rfl rfl rfl (by simp [Value.oneCell']) hvc (Nat.le_of_ble_eq_true rfl) rfl (fun w9 hv9 hg9 hz9 => ?_)) | (apply isAllocStore; refine L_allocStoreV (w0 := w) bw_ rfl rfl rfl rfl ?_ rfl (fun w1 hz1 hB hB1 hv => ?_); (focus (first | exact Ty.one _ _ | simp [Value.oneCell'])); have hp := pt_of_block hv) ) | (apply isW; first | apply W_seq | apply W_region | refine W_cond_dec rfl (fun hg => ?_) (fun hg => ?_) | refine W_cond_true rfl ?_ | refine W_cond_false rfl ?_ | refine W_cond rfl (fun hg => ?_) (fun hg => ?_) | apply W_skip | apply W_ret | apply W_exit | apply W_block) | (apply isAt; first | apply At_then | apply At_then_ret | apply At_then_exit | apply At_block_normal | apply At_block_ret | apply At_block_hit | refine At_block_miss rfl ?_ | refine At_end1 rfl rfl ?_ | refine At_end1n rfl rfl ?_ | refine At_end2 rfl rfl rfl ?_ | refine At_end3 rfl rfl rfl rfl ?_ | refine At_end4 rfl rfl rfl rfl rfl ?_ | refine At_mix kp_ ?_))
  all_goals first | (exfalso; simp at hg; done) | skip
  · obtain ⟨e1, e2, e3⟩ := open_no hok
    exact At_endCell2 rfl rfl rfl hv9 rfl ⟨none, 0, 0, by rw [e2, e1]; rfl, by rw [e3]; exact own_nil, below_grow0 hBa hg9 (fun k hk => by cases hk; omega)⟩
  · exact At_endCell2 rfl rfl rfl hv9 rfl ⟨_, _, _, rfl, (hO3.kept hg9 (hO3.ne_ (by omega))).rebase hz3, below_grow0 hBa hg9 (fun k hk => by cases hk; omega)⟩
theorem c_specBookOpen {v : Value} {rows : List Row3} {bs : List Bl} {w : World} (h : RdBl w v rows bs) (hsm : Small bs) : Cl Tryz.prog 6 [v] w (fun u w' => ∃ a n c, u = .tuple #[vBk (bookEp (readOf bs 1)) (.slice a n c), .bool (bookHead (readOf bs 1)).isSome] ∧ OwL tCm w' w.heap.size 65 (.slice a n c) (bookLog (readOf bs 1)) ∧ Below w.heap.size w w') := by
  refine calls_start 18 Tryz.func6 rfl rfl rfl ?_
  have hrl := readOf_len bs 1
  cases hok : readOk bs 1
  all_goals
    repeat' (first | (apply isL; first | apply L_nil | refine L_move rfl rfl ?_ | (apply isCall; first | (refine L_call rfl rfl (c_specDiskRead h hsm) (fun _ w2 hR => ?_); obtain ⟨x2, rfl, hO2, hB2⟩ := hR; rw [hok]; have hz2 := hB2.size; replace hvc := blk_on hvc hB2; replace hBa := below_step hBa hB2) | (refine L_call rfl rfl (c_specBookLoad hO2.rd om_ ) (fun _ w3 hR => ?_); obtain ⟨r3, rfl, hO3, hB3⟩ := hR; replace hvc := blk_on hvc hB3; have hz3 := hBa.size; replace hBa := below_step hBa hB3; obtain ⟨a3, c3, rfl, _, _⟩ := hO3.rd.slice) ) | refine L_assign rfl rfl ?_ | refine L_do rfl rfl rfl (do_notDec rfl) ?_ | refine L_do rfl rfl rfl (do_not rfl) ?_ | refine L_do rfl rfl rfl (do_extract rfl rfl) ?_ | (apply isAlloc; refine L_allocV (w0 := w) (Below.refl _ _) rfl (fun w1 hz1 hB1 hC1 hvc => ?_); replace h := h.ext hC1; have hBa : Below w.heap.size w w1 := hC1; clear hB1 hC1) | refine L_do rfl rfl rfl (do_build (t := 27) (ps := []) (cells := #[.int .i64 0, .slice none 0 0]) rfl (by kernel_rfl)) ?_ | (apply isStore; refine L_storeAt (b := w.heap.size) (off := 0) (cs := [_, _]) rfl rfl rfl rfl (by simp [Value.oneCell']) hvc (Nat.le_of_ble_eq_true rfl) rfl (fun w9 hv9 hg9 hz9 => ?_)) | (apply isAllocStore; refine L_allocStoreV (w0 := w) bw_ rfl rfl rfl rfl ?_ rfl (fun w1 hz1 hB hB1 hv => ?_); (focus (first | exact Ty.one _ _ | simp [Value.oneCell'])); have hp := pt_of_block hv) ) | (apply isW; first | apply W_seq | apply W_region | refine W_cond_dec rfl (fun hg => ?_) (fun hg => ?_) | refine W_cond_true rfl ?_ | refine W_cond_false rfl ?_ | refine W_cond rfl (fun hg => ?_) (fun hg => ?_) | apply W_skip | apply W_ret | apply W_exit | apply W_block) | (apply isAt; first | apply At_then | apply At_then_ret | apply At_then_exit | apply At_block_normal | apply At_block_ret | apply At_block_hit | refine At_block_miss rfl ?_ | refine At_end1 rfl rfl ?_ | refine At_end1n rfl rfl ?_ | refine At_end2 rfl rfl rfl ?_ | refine At_end3 rfl rfl rfl rfl ?_ | refine At_end4 rfl rfl rfl rfl rfl ?_ | refine At_mix kp_ ?_))
  all_goals first | (exfalso; simp at hg; done) | skip
  · obtain ⟨e1, e2, e3⟩ := open_no hok
    exact At_endCell2 rfl rfl rfl hv9 rfl ⟨none, 0, 0, by rw [e2, e1]; rfl, by rw [e3]; exact own_nil, below_grow0 hBa hg9 (fun k hk => by cases hk; omega)⟩
  · exact At_endCell2 rfl rfl rfl hv9 rfl ⟨_, _, _, rfl, (hO3.kept hg9 (hO3.ne_ (by omega))).rebase hz3, below_grow0 hBa hg9 (fun k hk => by cases hk; omega)⟩
end Go.Proofs.YtpdkajcnnanocaaGreatDoor
