/-
  Contracts: marks written over lists of commands, and looked at again.
-/
import Derived.Test.YtjjmcdakmgeanaaGreatDoorCmList
namespace Go.Proofs.YtjjmcdakmgeanaaGreatDoor
open Go Go.RowKit
set_option linter.unusedVariables false
set_option linter.unusedSimpArgs false

def dg (k : Nat) : UInt8 := UInt8.ofNat (48 + k % 10)
theorem dg_val (k : Nat) : ((dg k).toNat : Int) = 48 + (k : Int) % 10 := by
  unfold dg
  rw [UInt8.toNat_ofNat_of_lt' (by simp only [UInt8.size]; omega)]
  omega
def mdig (k : Nat) (acc : Str) : Str := if h : k = 0 then acc else mdig (k / 10) (dg k :: acc)
termination_by k
decreasing_by omega
theorem mdig_step {k : Nat} {acc : Str} (h : 0 < k) : mdig k acc = mdig (k / 10) (dg k :: acc) := by
  rw [mdig, dif_neg (by omega)]
theorem mdig_zero {acc : Str} : mdig 0 acc = acc := by rw [mdig, dif_pos rfl]
def mtext (k : Int) : Str := 109 :: mdig k.toNat []

theorem c_markText {k0 : Int} {w : World} (h0 : 0 < k0) (h1 : k0 ≤ 4611686018427387904) : Cl Tryz.prog 55 [.int .i64 k0] w (V w (.string (mk (mtext k0)))) := by
  refine calls_start 20 Tryz.func55 rfl rfl rfl ?_
  repeat' (first | (apply isL; first | apply L_nil | refine L_move rfl rfl ?_ | (apply isBin; first | refine L_do rfl rfl rfl (do_cmp rfl rfl rfl) ?_ | refine L_do rfl rfl rfl (do_add rfl rfl om_) ?_ ) | refine L_assign rfl rfl ?_ ) | (apply isW; first | apply W_seq | apply W_region | refine W_cond_dec rfl (fun hg => ?_) (fun hg => ?_) | refine W_cond_true rfl ?_ | refine W_cond_false rfl ?_ | refine W_cond rfl (fun hg => ?_) (fun hg => ?_) | apply W_skip | apply W_ret | apply W_exit | apply W_block) | (apply isAt; first | apply At_then | apply At_then_ret | apply At_then_exit | apply At_block_normal | apply At_block_ret | apply At_block_hit | refine At_block_miss rfl ?_ | refine At_end1 rfl rfl ?_ | refine At_end1n rfl rfl ?_ | refine At_end2 rfl rfl rfl ?_ | refine At_end3 rfl rfl rfl rfl ?_ | refine At_end4 rfl rfl rfl rfl rfl ?_ | refine At_mix kp_ ?_))
  · exfalso; omega
  refine W_loopF (fun m fr w' => ∃ (k : Nat) (acc : Str), m = k ∧ fr = [(0, .int .i64 k), (3, .string (mk acc))] ∧ Below w.heap.size w w' ∧ mdig k acc = mdig k0.toNat [] ∧ acc.length + k ≤ 4611686018427387904) k0.toNat
    [(0, .int .i64 k0.toNat), (3, .string (mk []))] (by rw [show ((k0.toNat : Nat) : Int) = k0 by omega]; repeat (first | exact get_nil_slots _ | refine get_cons_slots rfl ?_)) ⟨k0.toNat, [], rfl, rfl, bw_, rfl, by simp; omega⟩ ?_
  rintro k _ w' ⟨_, acc, rfl, rfl, hB, hd, hl⟩
  repeat' (first | (apply isL; first | apply L_nil | refine L_move rfl rfl ?_ | (apply isBin; first | refine L_do rfl rfl rfl (do_cmp rfl rfl rfl) ?_ | refine L_do rfl rfl rfl (do_add rfl rfl om_) ?_ | refine L_rem rfl rfl om_ om_ rfl (fun hm => ?_) | refine L_do rfl rfl rfl (do_quo rfl rfl om_ om_) ?_ | refine L_do rfl rfl rfl (do_concat rfl rfl (by simp; omega)) ?_ ) | refine L_assign rfl rfl ?_ | refine L_do rfl rfl rfl (do_convU8 (ds := .int .i64) (by kernel_rfl) (by kernel_rfl) rfl om_ om_) ?_ | refine L_buildSliceL tU8 [dg k] rfl rfl rfl rfl rfl rfl (by simp [Value.cells, tU8, dg_val]) rfl (fun w4 hO4 hB4 => ?_) | refine L_do rfl rfl rfl (do_bytesStr (e := 5) (by kernel_rfl) (by kernel_rfl) (by kernel_rfl) rfl hO4.rd) ?_ ) | (apply isW; first | apply W_seq | apply W_region | refine W_cond_dec rfl (fun hg => ?_) (fun hg => ?_) | refine W_cond_true rfl ?_ | refine W_cond_false rfl ?_ | refine W_cond rfl (fun hg => ?_) (fun hg => ?_) | apply W_skip | apply W_ret | apply W_exit | apply W_block) | (apply isAt; first | apply At_then | apply At_then_ret | apply At_then_exit | apply At_block_normal | apply At_block_ret | apply At_block_hit | refine At_block_miss rfl ?_ | refine At_end1 rfl rfl ?_ | refine At_end1n rfl rfl ?_ | refine At_end2 rfl rfl rfl ?_ | refine At_end3 rfl rfl rfl rfl ?_ | refine At_end4 rfl rfl rfl rfl rfl ?_ | refine At_mix kp_ ?_))
  · refine At_round (k / 10) [(0, .int .i64 ((k / 10 : Nat) : Int)), (3, .string (mk (dg k :: acc)))] sl_ (by omega) ⟨k / 10, _, rfl, rfl, below_step hB hB4, by rw [← hd, mdig_step (k := k) (by omega)], by simp only [List.length_cons]; omega⟩
  · have : k = 0 := by omega
    subst this
    rw [mdig_zero] at hd
    exact ⟨by rw [mtext, ← hd]; rfl, hB⟩

def mcm (k : Int) : Cm := ⟨mtext k, ⟨k + 1, k + 2⟩, ⟨k + 3, k + 4⟩⟩
def marksC (k : Int) (n : Nat) : List Cm := (List.range n).map (fun i : Nat => mcm (k + 5 * i))
theorem marksC_len (k : Int) (n : Nat) : (marksC k n).length = n := by simp [marksC]
theorem marksC_at {k : Int} {n i : Nat} (h : i < n) : (marksC k n)[i]? = some (mcm (k + 5 * i)) := by simp [marksC, h]
theorem marksC_set {k : Int} {xs : List Cm} {i : Nat} (h : i < xs.length) : (marksC k i ++ xs.drop i).set i (mcm (k + 5 * i)) = marksC k (i + 1) ++ xs.drop (i + 1) := by
  rw [List.set_append_right _ _ (by rw [marksC_len]; omega), marksC_len, Nat.sub_self, List.drop_eq_getElem_cons h, List.set_cons_zero]
  simp [marksC, List.range_succ]
theorem set_at {α : Type} {xs : List α} {k : Nat} {y x : α} (h : xs[k]? = some x) : (xs.set k y)[k]? = some y := by
  have := (List.getElem?_eq_some_iff.1 h).1
  simp [this]

theorem c_markCommandS {v : Value} {xs : List Cm} {w : World} {base : Nat} {k0 : Int} (h : OwL tCm w base 50 v xs) (h0 : 0 < k0) (h1 : k0 + 5 * xs.length ≤ 4611686018427387904) :
    Cl Tryz.prog 22 [v, .int .i64 k0] w (fun u w' => u = .int .i64 (k0 + 5 * xs.length) ∧ OwL tCm w' base 50 v (marksC k0 xs.length) ∧ w.grownBy w' v.ownBlock) := by
  refine calls_start 53 Tryz.func22 rfl rfl rfl ?_
  repeat' (first | (apply isL; first | apply L_nil | refine L_move rfl rfl ?_ | (apply isCall; first | refine L_lenL rfl rd_ rfl (fun hlen => ?_) ) | (apply isBin; first | refine L_do rfl rfl rfl (do_cmp rfl rfl rfl) ?_ | refine L_do rfl rfl rfl (do_add rfl rfl om_) ?_ ) | refine L_assign rfl rfl ?_ | refine L_do rfl rfl rfl (do_fieldAddr rfl) ?_ | refine L_indexL rfl rfl rd_ (by rfl) om_ om_ rfl (fun a y hy hab hp => ?_) ) | (apply isW; first | apply W_seq | apply W_region | refine W_cond_dec rfl (fun hg => ?_) (fun hg => ?_) | refine W_cond_true rfl ?_ | refine W_cond_false rfl ?_ | refine W_cond rfl (fun hg => ?_) (fun hg => ?_) | apply W_skip | apply W_ret | apply W_exit | apply W_block) | (apply isAt; first | apply At_then | apply At_then_ret | apply At_then_exit | apply At_block_normal | apply At_block_ret | apply At_block_hit | refine At_block_miss rfl ?_ | refine At_end1 rfl rfl ?_ | refine At_end1n rfl rfl ?_ | refine At_end2 rfl rfl rfl ?_ | refine At_end3 rfl rfl rfl rfl ?_ | refine At_end4 rfl rfl rfl rfl rfl ?_ | refine At_mix kp_ ?_))
  refine W_loopF (fun m fr w' => ∃ k : Nat, m = xs.length - k ∧ k ≤ xs.length ∧ fr = [(0, v), (1, .int .i64 (k0 + 5 * k)), (5, .int .i64 k)] ∧ OwL tCm w' base 50 v (marksC k0 k ++ xs.drop k) ∧ w.grownBy w' v.ownBlock) xs.length
    [(0, v), (1, .int .i64 (k0 + 5 * (0 : Nat))), (5, .int .i64 0)] (by rw [show k0 + 5 * ((0 : Nat) : Int) = k0 by simp]; repeat (first | exact get_nil_slots _ | refine get_cons_slots rfl ?_)) ⟨0, rfl, Nat.zero_le _, rfl, by simpa [marksC] using h, World.grownBy.refl _ _⟩ ?_
  rintro _ _ w' ⟨k, rfl, hk, rfl, hI, hgw⟩
  have hrd := hI.rd
  have hll : (marksC k0 k ++ xs.drop k).length = xs.length := by simp [marksC_len]; omega
  rcases Nat.lt_or_ge k xs.length with hkl | hkl
  · obtain ⟨c, hc⟩ : ∃ c, (marksC k0 k ++ xs.drop k)[k]? = some c := ⟨_, List.getElem?_eq_getElem (by omega)⟩
    repeat' (first | (apply isL; first | apply L_nil | refine L_move rfl rfl ?_ | (apply isCall; first | refine L_lenL rfl rd_ rfl (fun hlen => ?_) | refine L_lenL rfl hrd rfl (fun hlen => ?_) | (refine L_callV rfl rfl (c_markText (k0 := k0 + 5 * k) om_ om_) (fun w2 hB2 => ?_); have hO2 := hI.ext hB2) ) | (apply isBin; first | refine L_do rfl rfl rfl (do_cmp rfl rfl rfl) ?_ | refine L_do rfl rfl rfl (do_add rfl rfl om_) ?_ ) | refine L_assign rfl rfl ?_ | refine L_do rfl rfl rfl (do_fieldAddr rfl) ?_ | refine L_indexOwn rfl rfl hO2 rfl om_ om_ rfl (fun ge ye hye hge => ?_) | refine L_indexOwn rfl rfl hO3 rfl om_ (by simp only [List.length_set]; omega) rfl (fun ge ye hye hge => ?_) | refine L_indexOwn rfl rfl hO4 rfl om_ (by simp only [List.length_set]; omega) rfl (fun ge ye hye hge => ?_) | refine L_indexOwn rfl rfl hO5 rfl om_ (by simp only [List.length_set]; omega) rfl (fun ge ye hye hge => ?_) | refine L_indexOwn rfl rfl hO6 rfl om_ (by simp only [List.length_set]; omega) rfl (fun ge ye hye hge => ?_) | (refine L_storeElemG (off := 0) (k := k) rfl rfl hO2 rfl hge hc (cs := [.string (mk (mtext (k0 + 5 * k)))]) rfl rfl (by simp [Value.oneCell']) (Nat.le_of_ble_eq_true rfl) (y1 := ⟨mtext (k0 + 5 * k), c.fr, c.to⟩) rfl (fun w3 hO3 hgg3 hz3 => ?_); have hg3 : World.grownBy _ w3 v.ownBlock := (by rw [hge]; exact hgg3); have hc3 := set_at (y := (⟨mtext (k0 + 5 * k), c.fr, c.to⟩ : Cm)) hc) | (refine L_storeElemG (off := 1) (k := k) rfl rfl hO3 rfl hge hc3 (cs := [.int .i64 (k0 + 5 * k + 1)]) rfl rfl (by simp [Value.oneCell']) (Nat.le_of_ble_eq_true rfl) (y1 := ⟨mtext (k0 + 5 * k), ⟨k0 + 5 * k + 1, c.fr.value⟩, c.to⟩) rfl (fun w4 hO4 hgg4 hz4 => ?_); have hg4 : World.grownBy _ w4 v.ownBlock := (by rw [hge]; exact hgg4); have hc4 := set_at (y := (⟨mtext (k0 + 5 * k), ⟨k0 + 5 * k + 1, c.fr.value⟩, c.to⟩ : Cm)) hc3) | (refine L_storeElemG (off := 2) (k := k) rfl rfl hO4 rfl hge hc4 (cs := [.int .i64 (k0 + 5 * k + 1 + 1)]) rfl rfl (by simp [Value.oneCell']) (Nat.le_of_ble_eq_true rfl) (y1 := ⟨mtext (k0 + 5 * k), ⟨k0 + 5 * k + 1, k0 + 5 * k + 1 + 1⟩, c.to⟩) rfl (fun w5 hO5 hgg5 hz5 => ?_); have hg5 : World.grownBy _ w5 v.ownBlock := (by rw [hge]; exact hgg5); have hc5 := set_at (y := (⟨mtext (k0 + 5 * k), ⟨k0 + 5 * k + 1, k0 + 5 * k + 1 + 1⟩, c.to⟩ : Cm)) hc4) | (refine L_storeElemG (off := 3) (k := k) rfl rfl hO5 rfl hge hc5 (cs := [.int .i64 (k0 + 5 * k + 1 + 1 + 1)]) rfl rfl (by simp [Value.oneCell']) (Nat.le_of_ble_eq_true rfl) (y1 := ⟨mtext (k0 + 5 * k), ⟨k0 + 5 * k + 1, k0 + 5 * k + 1 + 1⟩, ⟨k0 + 5 * k + 1 + 1 + 1, c.to.value⟩⟩) rfl (fun w6 hO6 hgg6 hz6 => ?_); have hg6 : World.grownBy _ w6 v.ownBlock := (by rw [hge]; exact hgg6); have hc6 := set_at (y := (⟨mtext (k0 + 5 * k), ⟨k0 + 5 * k + 1, k0 + 5 * k + 1 + 1⟩, ⟨k0 + 5 * k + 1 + 1 + 1, c.to.value⟩⟩ : Cm)) hc5) | (refine L_storeElemG (off := 4) (k := k) rfl rfl hO6 rfl hge hc6 (cs := [.int .i64 (k0 + 5 * k + 1 + 1 + 1 + 1)]) rfl rfl (by simp [Value.oneCell']) (Nat.le_of_ble_eq_true rfl) (y1 := ⟨mtext (k0 + 5 * k), ⟨k0 + 5 * k + 1, k0 + 5 * k + 1 + 1⟩, ⟨k0 + 5 * k + 1 + 1 + 1, k0 + 5 * k + 1 + 1 + 1 + 1⟩⟩) rfl (fun w7 hO7 hgg7 hz7 => ?_); have hg7 : World.grownBy _ w7 v.ownBlock := (by rw [hge]; exact hgg7); have hc7 := set_at (y := (⟨mtext (k0 + 5 * k), ⟨k0 + 5 * k + 1, k0 + 5 * k + 1 + 1⟩, ⟨k0 + 5 * k + 1 + 1 + 1, k0 + 5 * k + 1 + 1 + 1 + 1⟩⟩ : Cm)) hc6) | refine L_indexL rfl rfl rd_ (by rfl) om_ om_ rfl (fun a y hy hab hp => ?_) ) | (apply isW; first | apply W_seq | apply W_region | refine W_cond_dec rfl (fun hg => ?_) (fun hg => ?_) | refine W_cond_true rfl ?_ | refine W_cond_false rfl ?_ | refine W_cond rfl (fun hg => ?_) (fun hg => ?_) | apply W_skip | apply W_ret | apply W_exit | apply W_block) | (apply isAt; first | apply At_then | apply At_then_ret | apply At_then_exit | apply At_block_normal | apply At_block_ret | apply At_block_hit | refine At_block_miss rfl ?_ | refine At_end1 rfl rfl ?_ | refine At_end1n rfl rfl ?_ | refine At_end2 rfl rfl rfl ?_ | refine At_end3 rfl rfl rfl rfl ?_ | refine At_end4 rfl rfl rfl rfl rfl ?_ | refine At_mix kp_ ?_))
    · have e : (⟨mtext (k0 + 5 * k), ⟨k0 + 5 * k + 1, k0 + 5 * k + 1 + 1⟩, ⟨k0 + 5 * k + 1 + 1 + 1, k0 + 5 * k + 1 + 1 + 1 + 1⟩⟩ : Cm) = mcm (k0 + 5 * k) := by
        simp only [mcm, Cm.mk.injEq, Cont.mk.injEq, true_and]; omega
      simp only [List.set_set] at hO7
      rw [e, marksC_set hkl] at hO7
      exact At_round _ [(0, v), (1, .int .i64 (k0 + 5 * ((k + 1 : Nat) : Int))), (5, .int .i64 ((k + 1 : Nat) : Int))] (by rw [show k0 + 5 * ((k + 1 : Nat) : Int) = k0 + 5 * k + 1 + 1 + 1 + 1 + 1 by omega]; repeat (first | exact get_nil_slots _ | refine get_cons_slots rfl ?_)) (by omega) ⟨k + 1, rfl, by omega, rfl, hO7, kp_row (kp_row (kp_row (kp_row (kp_row (kp_below hgw hB2) hg3) hg4) hg5) hg6) hg7⟩
    · exfalso; omega
  · repeat' (first | (apply isL; first | apply L_nil | refine L_move rfl rfl ?_ | (apply isCall; first | refine L_lenL rfl rd_ rfl (fun hlen => ?_) ) | (apply isBin; first | refine L_do rfl rfl rfl (do_cmp rfl rfl rfl) ?_ | refine L_do rfl rfl rfl (do_add rfl rfl om_) ?_ ) | refine L_assign rfl rfl ?_ | refine L_do rfl rfl rfl (do_fieldAddr rfl) ?_ | refine L_indexL rfl rfl rd_ (by rfl) om_ om_ rfl (fun a y hy hab hp => ?_) ) | (apply isW; first | apply W_seq | apply W_region | refine W_cond_dec rfl (fun hg => ?_) (fun hg => ?_) | refine W_cond_true rfl ?_ | refine W_cond_false rfl ?_ | refine W_cond rfl (fun hg => ?_) (fun hg => ?_) | apply W_skip | apply W_ret | apply W_exit | apply W_block) | (apply isAt; first | apply At_then | apply At_then_ret | apply At_then_exit | apply At_block_normal | apply At_block_ret | apply At_block_hit | refine At_block_miss rfl ?_ | refine At_end1 rfl rfl ?_ | refine At_end1n rfl rfl ?_ | refine At_end2 rfl rfl rfl ?_ | refine At_end3 rfl rfl rfl rfl ?_ | refine At_end4 rfl rfl rfl rfl rfl ?_ | refine At_mix kp_ ?_))
    · exfalso; omega
    · have hkk : k = xs.length := by omega
      subst hkk
      rw [List.drop_length, List.append_nil] at hI
      exact ⟨rfl, hI, hgw⟩

end Go.Proofs.YtjjmcdakmgeanaaGreatDoor
