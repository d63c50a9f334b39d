/-
  Contracts of the draws: a disk that often holds a book.
-/
import Derived.Test.YtpdkajcnnanocaaGreatDoorDraw2
import Derived.Test.YtpdkajcnnanocaaGreatDoorDrawDam
import Derived.Test.YtpdkajcnnanocaaGreatDoorDrawBook
namespace Go.Proofs.YtpdkajcnnanocaaGreatDoor
open Go Go.RowKit
set_option linter.unusedVariables false
set_option linter.unusedSimpArgs false

/-- Of what was there, two blocks may have changed. -/
structure Only2 (w : World) (g : Nat) (r : Option Nat) (w' : World) : Prop where
  os : w'.os = w.os
  tape : w'.tape = w.tape
  output : w'.output = w.output
  size : w.heap.size ≤ w'.heap.size
  block : ∀ k, k < w.heap.size → k ≠ g → some k ≠ r → w'.heap[k]? = w.heap[k]?
theorem Only2.refl (w : World) (g : Nat) (r : Option Nat) : Only2 w g r w := ⟨rfl, rfl, rfl, Nat.le_refl _, fun _ _ _ _ => rfl⟩
theorem Only2.row {w a b : World} {g : Nat} {r row : Option Nat} (h : Only2 w g r a) (hg : a.grownBy b row) (hr : row = some g ∨ row = r) : Only2 w g r b :=
  ⟨hg.os.trans h.os, hg.tape.trans h.tape, hg.output.trans h.output, Nat.le_trans h.size hg.size, fun k hk h1 h2 => (hg.block k (Nat.lt_of_lt_of_le hk h.size) (fun e => by
    rcases hr with hr | hr
    · rw [hr] at e; exact h1 (Option.some.inj e)
    · rw [hr] at e; exact h2 e)).trans (h.block k hk h1 h2)⟩
theorem Only2.step {w a b : World} {g : Nat} {r : Option Nat} (h : Only2 w g r a) (hB : Below a.heap.size a b) : Only2 w g r b :=
  ⟨hB.os.trans h.os, hB.tape.trans h.tape, hB.output.trans h.output, Nat.le_trans h.size hB.size, fun k hk h1 h2 => (hB.block k (Nat.lt_of_lt_of_le hk h.size)).trans (h.block k hk h1 h2)⟩
theorem Only2.kp {w a b : World} {g : Nat} {r : Option Nat} (hg : w.grownBy a (some g)) (h : Only2 a g r b) (hr : ∀ k, r = some k → w.heap.size ≤ k) : w.grownBy b (some g) :=
  ⟨h.os.trans hg.os, h.tape.trans hg.tape, h.output.trans hg.output, Nat.le_trans hg.size h.size, fun k hk hne => (h.block k (Nat.lt_of_lt_of_le hk hg.size) (fun e => hne (by rw [e])) (fun e => by have := hr k e.symm; omega)).trans (hg.block k hk hne)⟩
theorem Only2.own {α : Type} {T : Ty α} {w w' : World} {g base e : Nat} {r : Option Nat} {u : Value} {zs : List α} (h : Only2 w g r w') (hO : OwL T w base e u zs) (hg : g < base) (hr : ∀ b, u.ownBlock = some b → r ≠ some b) : OwL T w' base e u zs := by
  obtain ⟨hl, hv⟩ := hO.own
  refine ⟨hl, ?_⟩
  rcases hv with hn | ⟨b, cap, cur, rfl, hb, hbb, rest⟩
  · exact .inl hn
  · refine .inr ⟨b, cap, cur, rfl, hb, ?_, rest⟩
    rw [h.block b (Array.getElem?_eq_some_iff.1 hbb).1 (by omega) (fun e => hr b rfl e.symm)]
    exact hbb
theorem c_l91DamageT {g p base : Nat} {v : Value} {xs : List Int} {w : World} (h : Rdr w g p) (hO : OwL tInt w base 3 v xs) (hgb : g < base) (hbw : base ≤ w.heap.size) (hl : xs.length ≤ 100000) (hp : p ≤ 1000000) :
    Cl Tryz.prog 27 [.pointer (some ⟨g, 0, none⟩), v] w (fun u w' => ∃ (ys : List Int) (p' : Nat), OwL tInt w' base 3 u ys ∧ ys.length ≤ xs.length + 1 ∧ Rdr w' g p' ∧ p' ≤ p + 3 ∧ Only2 w g v.ownBlock w') := by
  refine calls_start 37 Tryz.func27 rfl rfl rfl ?_
  have hr := h
  have hz : w.heap.size ≤ w.heap.size := Nat.le_refl _
  have hB0 := Only2.refl w g v.ownBlock
  repeat' (first | (apply isL; first | apply L_nil | refine L_move rfl rfl ?_ | (apply isCall; first | refine L_lenL rfl rd_ rfl (fun hlen => ?_) | (refine L_call rfl rfl (c_pick hr om_ om_) (fun _ w2 hR => ?_); obtain ⟨k, rfl, hk0, hkn, hr2, hg2⟩ := hR; replace hr := hr2; replace hO := hO.kept hg2 (hO.ne_ hgb); replace hB0 := hB0.row hg2 (.inl rfl); replace hz := Nat.le_trans hz hg2.size) | refine L_do rfl rfl rfl (do_len rfl hO.rd.rd) ?_ | (have hO6 := hO.ext hB5; refine L_appendG rfl rfl (Nat.le_trans hbw (Nat.le_trans hz hB5.size)) hO6 hO5.rd rfl (by simp; omega) (by simp; omega) rfl (fun v4 w4 hO4 hg4 => ?_)) ) | (apply isBin; first | refine L_do rfl rfl rfl (do_cmp rfl rfl rfl) ?_ | refine L_do rfl rfl rfl (do_sub rfl rfl om_) ?_ ) | refine L_assign rfl rfl ?_ | refine L_sliceOwnH rfl rfl hO rfl om_ om_ rfl (fun v3 hO3 hob3 => ?_) | refine L_buildSliceL tInt [k] rfl rfl rfl rfl rfl rfl rfl rfl (fun w5 hO5 hB5 => ?_) | refine L_indexOwn rfl rfl hO rfl om_ om_ rfl (fun gv y0 hy0 hgv => ?_) | (apply isStore; refine L_storeElemG (off := 0) rfl rfl hO rfl hgv hy0 rfl rfl (by simp [Value.oneCell']) (Nat.le_of_ble_eq_true rfl) (y1 := k - 1) rfl (fun w7 hO7 hg7 hz7 => ?_)) | refine L_indexL rfl rfl rd_ (by rfl) om_ om_ rfl (fun a y hy hab hp => ?_) ) | (apply isW; first | apply W_seq | apply W_region | refine W_cond_dec rfl (fun hg => ?_) (fun hg => ?_) | refine W_cond_true rfl ?_ | refine W_cond_false rfl ?_ | refine W_cond rfl (fun hg => ?_) (fun hg => ?_) | apply W_skip | apply W_ret | apply W_exit | apply W_block) | (apply isAt; first | apply At_then | apply At_then_ret | apply At_then_exit | apply At_block_normal | apply At_block_ret | apply At_block_hit | refine At_block_miss rfl ?_ | refine At_end1 rfl rfl ?_ | refine At_end1n rfl rfl ?_ | refine At_end2 rfl rfl rfl ?_ | refine At_end3 rfl rfl rfl rfl ?_ | refine At_end4 rfl rfl rfl rfl rfl ?_ | refine At_mix kp_ ?_))
  · exact ⟨xs, p, hO, by omega, hr, by omega, hB0⟩
  · exact ⟨_, _, hO3, by simp; omega, hr, by omega, hB0⟩
  · exact ⟨_, _, hO7, by simp, hr.grown hO hgb (by rw [hgv]; exact hg7), by omega, hB0.row hg7 (.inr hgv.symm)⟩
  · exact ⟨_, _, hO4, by simp, (hr.ext hB5).grown hO6 hgb hg4, by omega, (hB0.step hB5).row hg4 (.inr rfl)⟩
  · exact ⟨xs, _, hO, by omega, hr, by omega, hB0⟩
theorem small_few {n : Nat} {bs : List Bl} (h : Few n bs) (hn : n ≤ 1048576) : Small bs := ⟨Nat.le_trans h.1 hn, fun b hb => by have := h.2 b hb; omega⟩
theorem Small.app {bs : List Bl} {b : Bl} (h : Small bs) (hl : bs.length ≤ 100) (h1 : b.safe.length ≤ 1048576) (h2 : b.fresh.length ≤ 1048576) : Small (bs ++ [b]) := ⟨by simp; omega, fun c hc => by
  rcases List.mem_append.1 hc with hc | hc
  · exact h.2 c hc
  · simp at hc; subst hc; exact ⟨h1, h2⟩⟩
theorem small_nil : Small [] := ⟨by simp, fun b hb => by simp at hb⟩
theorem c_l92Shelf {g p : Nat} {w : World} (h : Rdr w g p) (hp : p ≤ 50000) :
    Cl Tryz.prog 11 [.pointer (some ⟨g, 0, none⟩)] w (fun u w' => ∃ (rows : List Row3) (bs : List Bl), RdBl w' u rows bs ∧ Small bs ∧ w.grownBy w' (some g)) := by
  refine calls_start 38 Tryz.func11 rfl rfl rfl ?_
  have hlt := h.lt
  have hr := h
  have hgw : w.grownBy w (some g) := World.grownBy.refl _ _
  have hs0 := small_nil
  have tok := hlt
  repeat' (first | (apply isL; first | apply L_nil | refine L_move rfl rfl ?_ | (apply isCall; first | (refine L_call rfl rfl (c_pick hr om_ om_) (fun _ w2 hR => ?_); obtain ⟨k0, rfl, hk0, hkn, hr2, hg2⟩ := hR; replace hr := hr2; replace hL := hL.keptG hlt hg2; replace hgw := kp_row hgw hg2; clear hr2 hg2) | (refine L_call rfl rfl (c_l92Disk hr om_) (fun _ w3 hR => ?_); obtain ⟨rows3, bs3, p3, hD, hF, hr3, hp3, hg3⟩ := hR) | (refine L_call rfl rfl (c_l92Book hr om_) (fun _ w3 hR => ?_); obtain ⟨e3, v3, l3, p3, rfl, hBO, hl3, hs3, hr3, hp3, hg3⟩ := hR; have hlw := (hL.own.lt _ rfl).2; have hz3 := hg3.size; replace hr := hr3; replace hL := hL.keptG hlt hg3; replace hgw := kp_row hgw hg3; have hsh3 : ShortC l3 := fun c hc => by have := hs3 c hc; omega) | (refine L_call rfl rfl (c_specBookBytes hBO.rd hsh3) (fun _ w4 hR => ?_); obtain ⟨x4, rfl, hX4, hB4⟩ := hR; have hbl4 := bookBytes_short e3 l3; have hz4 := hgw.size; replace hr := hr.ext hB4; replace hL := hL.ext hB4; replace hgw := kp_below hgw hB4; have hz5 := hB4.size) | (refine L_call rfl rfl (c_l91DamageT hr hX4 om_ om_ om_ om_) (fun _ w6 hR => ?_); obtain ⟨ys, p6, hY, hyl, hr6, hp6, hK⟩ := hR; replace hr := hr6; have hL6 := hK.own hL.own hlt (fun b hb e => by cases hb; have h9 := (hX4.lt _ e).1; have h8 : w.heap.size < w2.heap.size := hlw; omega); replace hgw := hK.kp hgw (fun k hk => by have := (hX4.lt k hk).1; omega); obtain ⟨ay, cy, rfl, _, _⟩ := hY.rd.slice; have hdam := hlt) | (have hL8 := hL7.ext hB8; refine L_appendG rfl rfl (Nat.le_trans hgw.size hB8.size) hL8 hR8.rd rfl (by simp) (by simp) rfl (fun v9 w9 hO9 hg9 => ?_); have hLb : OwBl w8 w.heap.size (.slice (some ⟨w.heap.size, 0, none⟩) 0 0) [] [] := ⟨hL8, rfl, fun i r hr => by simp at hr⟩; replace hL := OwBl.app (b := ⟨1, ys, []⟩) hLb hg9 hO9 rfl (.of ((hY7.ext hB8).rebase hz4)) (.of ((hE.ext hB8).rebase hz6)); replace hr := (hr.ext hB8).grown hL8 hlt hg9; replace hgw := kp_own (kp_below hgw hB8) hg9 (fun b hb => (hL8.lt b hb).1); replace hs0 := Small.app (b := ⟨1, ys, []⟩) hs0 (by simp) (by show ys.length ≤ _; omega) (by simp)) | (refine L_call rfl rfl (c_l92Bytes hr om_) (fun _ wb hR => ?_); obtain ⟨zs, pb, hZ, hzl, hrb, hpb, hgb⟩ := hR; replace hr := hrb; replace hL := hL.keptG hlt hgb; have hEb := hEa.kept hgb (hEa.ne_ hga); have hzb := hgw.size; replace hgw := kp_row hgw hgb; obtain ⟨az, cz, rfl, _, _⟩ := hZ.rd.slice) | (have hLc := hL.ext hBc; refine L_appendG rfl rfl (Nat.le_trans hgw.size hBc.size) hLc.own hRc.rd rfl (by simp) (by simp) rfl (fun vd wd hOd hgd => ?_); replace hL := OwBl.app (b := ⟨2, [], zs⟩) hLc hgd hOd rfl (.of ((hEb.ext hBc).rebase hza)) (.of ((hZ.ext hBc).rebase hzb)); replace hgw := kp_own (kp_below hgw hBc) hgd (fun b hb => (hLc.own.lt b hb).1); replace hs0 := Small.app (b := ⟨2, [], zs⟩) hs0 (by simp) (by simp) (by show zs.length ≤ _; omega)) ) | (apply isBin; first | refine L_do rfl rfl rfl (do_cmp rfl rfl rfl) ?_ ) | refine L_assign rfl rfl ?_ | refine L_do rfl rfl rfl (do_extract rfl rfl) ?_ | (have := tok; clear this tok; refine L_buildSlice0G tRow3 w.heap.size (Nat.le_refl _) rfl (fun w1 hO1 hB1 => ?_); have hlb := (hO1.lt _ rfl).2; have hL : OwBl w1 w.heap.size (.slice (some ⟨w.heap.size, 0, none⟩) 0 0) [] [] := ⟨hO1, rfl, fun i r hr => by simp at hr⟩; replace hr := hr.ext hB1; replace hgw := kp_below hgw hB1; clear hO1) | (have := hdam; clear this hdam; refine L_buildSlice0G tInt w6.heap.size (Nat.le_refl _) rfl (fun w7 hE hB7 => ?_); have hz6 := hgw.size; replace hr := hr.ext hB7; replace hgw := kp_below hgw hB7; have hL7 := hL6.ext hB7; have hY7 := hY.ext hB7) | refine L_do rfl rfl rfl (do_buildS rfl (by kernel_rfl)) ?_ | refine L_buildSliceKG tRow3 [⟨1, .slice ay ys.length cy, .slice (some ⟨w6.heap.size, 0, none⟩) 0 0, rfl, rfl⟩] w7.heap.size (Nat.le_refl _) rfl rfl rfl rfl rfl (by exact fillR _ _ _) rfl rfl (fun w8 hR8 hB8 => ?_) | (have hga := hr.lt; refine L_buildSlice0G tInt _ (Nat.le_refl _) rfl (fun wa hEa hBa => ?_); have hza := hgw.size; replace hr := hr.ext hBa; replace hL := hL.ext hBa; replace hgw := kp_below hgw hBa) | refine L_buildSliceKG tRow3 [⟨2, .slice (some ⟨_, 0, none⟩) 0 0, .slice az zs.length cz, rfl, rfl⟩] wb.heap.size (Nat.le_refl _) rfl rfl rfl rfl rfl (by exact fillR _ _ _) rfl rfl (fun wc hRc hBc => ?_) ) | (apply isW; first | apply W_seq | apply W_region | refine W_cond_dec rfl (fun hg => ?_) (fun hg => ?_) | refine W_cond_true rfl ?_ | refine W_cond_false rfl ?_ | refine W_cond rfl (fun hg => ?_) (fun hg => ?_) | apply W_skip | apply W_ret | apply W_exit | apply W_block) | (apply isAt; first | apply At_then | apply At_then_ret | apply At_then_exit | apply At_block_normal | apply At_block_ret | apply At_block_hit | refine At_block_miss rfl ?_ | refine At_end1 rfl rfl ?_ | refine At_end1n rfl rfl ?_ | refine At_end2 rfl rfl rfl ?_ | refine At_end3 rfl rfl rfl rfl ?_ | refine At_end4 rfl rfl rfl rfl rfl ?_ | refine At_mix kp_ ?_))
  all_goals first
    | exact ⟨_, _, hD.rd, small_few hF (by omega), kp_row hgw hg3⟩
    | exact ⟨_, _, hL.rd, hs0, hgw⟩
    | trace_state
end Go.Proofs.YtpdkajcnnanocaaGreatDoor
