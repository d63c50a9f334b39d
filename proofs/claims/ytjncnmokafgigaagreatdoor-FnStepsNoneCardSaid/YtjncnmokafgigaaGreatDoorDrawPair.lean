/-
  Contracts of the draws: a tree and two canonical logs.
-/
import Derived.Test.YtjncnmokafgigaaGreatDoorDrawFilt
import Derived.Test.YtjncnmokafgigaaGreatDoorSpecLog
namespace Go.Proofs.YtjncnmokafgigaaGreatDoor
open Go Go.RowKit
set_option linter.unusedVariables false
set_option linter.unusedSimpArgs false

theorem res3 {fn : Func} {t u v : Tmp} (h : fn.results = #[.tmp t, .tmp u, .tmp v]) (tmps : Array Value) (P : Program) (w : World) :
    (results fn tmps).run P w = .ok (.tuple #[tmps.getD t undef, tmps.getD u undef, tmps.getD v undef]) w := by
  simp [results, h]
theorem At_end3 {P : Program} {n : Nat} {fr : Fr} {w : World} {fn : Func} {R : Value → World → Prop} {t u z : Nat} {x y v : Value} (hres : fn.results = #[.tmp t, .tmp u, .tmp z]) (hx : fr.get t = some x) (hy : fr.get u = some y) (hz : fr.get z = some v) (hR : R (.tuple #[x, y, v]) w) :
    At (bodyPost P fn (Ret R)) .ret n fr w := ⟨fun a s =>
  ⟨s.defers, _, by rw [res3 hres, s.getD hx, s.getD hy, s.getD hz], _, rfl, hR⟩⟩
theorem logT_ok {t : List Nd} {cs : List Cm} (h : treeOk t = true) : treeOk (logT t cs) = true := by
  unfold logT
  split
  · exact logGo_tree h
  · exact treeOk_nil
theorem c_specCanonJoin {v v2 : Value} {xs ys : List Cm} {w : World} (h : RdL tCm w v xs) (h2 : RdL tCm w v2 ys) (hsh : ShortC xs) (hsh2 : ShortC ys) (hl : xs.length ≤ 1048576) (hl2 : ys.length ≤ 1048576) : Cl Tryz.prog 84 [v, v2] w (fun u w' => ∃ r, u = .tuple #[r, .bool (logCanon (xs ++ ys)).isSome] ∧ OwL tCm w' w.heap.size 57 r ((logCanon (xs ++ ys)).getD []) ∧ Below w.heap.size w w') := by
  refine calls_start 14 Tryz.func84 rfl rfl rfl ?_
  have hsj : ShortC (xs ++ ys) := fun c hc => (List.mem_append.1 hc).elim (hsh c) (hsh2 c)
  repeat' (first | (apply isL; first | apply L_nil | refine L_move rfl rfl ?_ | (apply isCall; first | (have := hO4; clear this; refine L_append (w0 := w) rfl rfl bw_ hO4 (h2.ext bw_) rfl (by simp; omega) (by simp; omega) rfl (fun v5 w5 hO5 hB5 hg5 => ?_)) | refine L_append (w0 := w) rfl rfl bw_ hO1 (h.ext bw_) rfl (by simp; omega) (by simp; omega) rfl (fun v4 w4 hO4 hB4 hg4 => ?_) | (refine L_call rfl rfl (c_specLogCanon hO5.rd hsj) (fun _ w6 hR => ?_); obtain ⟨r6, rfl, hO6, hB6⟩ := hR) ) | refine L_assign rfl rfl ?_ | refine L_do rfl rfl rfl (do_extract rfl rfl) ?_ | refine L_buildSlice0 (w0 := w) tCm (Below.refl _ _) rfl (fun w1 hO1 hB1 hC1 => ?_) ) | (apply isW; first | apply W_seq | apply W_region | refine W_cond_dec rfl (fun hg => ?_) (fun hg => ?_) | refine W_cond_true rfl ?_ | refine W_cond_false rfl ?_ | refine W_cond rfl (fun hg => ?_) (fun hg => ?_) | apply W_skip | apply W_ret | apply W_exit | apply W_block) | (apply isAt; first | apply At_then | apply At_then_ret | apply At_then_exit | apply At_block_normal | apply At_block_ret | apply At_block_hit | refine At_block_miss rfl ?_ | refine At_end1 rfl rfl ?_ | refine At_end1n rfl rfl ?_ | refine At_end2 rfl rfl rfl ?_ | refine At_end3 rfl rfl rfl rfl ?_ | refine At_end4 rfl rfl rfl rfl rfl ?_ | refine At_end5 rfl rfl rfl rfl rfl rfl ?_ | refine At_mix kp_ ?_))
  exact ⟨r6, rfl, hO6.rebase hB5.size, below_step hB5 hB6⟩
/-- What the two draws of a pair hand on. -/
structure PairAt (w : World) (base : Nat) (a b c : Value) (xs : List Nd) (l1 l2 : List Cm) : Prop where
  ta : OwL tNd w base 69 a xs
  tb : OwL tCm w base 57 b l1
  tc : OwL tCm w base 57 c l2
  ok : treeOk xs = true
  lb : l1.length ≤ 20
  lc : l2.length ≤ 40
  sb : ∀ c ∈ l1, c.path.length ≤ 20
  sc : ∀ c ∈ l2, c.path.length ≤ 20
theorem c_l92Pair {g p : Nat} {w : World} (h : Rdr w g p) (hp : p ≤ 50000) :
    Cl Tryz.prog 42 [.pointer (some ⟨g, 0, none⟩)] w (fun u w' => ∃ (a b c : Value) (xs : List Nd) (l1 l2 : List Cm) (p' : Nat), u = .tuple #[a, b, c] ∧ PairAt w' w.heap.size a b c xs l1 l2 ∧ Rdr w' g p' ∧ p' ≤ p + 20000 ∧ w.grownBy w' (some g)) := by
  refine calls_start 55 Tryz.func42 rfl rfl rfl ?_
  have hlt := h.lt
  have hr := h
  have hgw : w.grownBy w (some g) := World.grownBy.refl _ _
  repeat' (first | (apply isL; first | apply L_nil | refine L_move rfl rfl ?_ | (apply isCall; first | (refine L_call rfl rfl (c_pick hr om_ om_) (fun _ w2 hR => ?_); obtain ⟨k0, rfl, hk0, hkn, hr2, hg2⟩ := hR; (first | replace hT := hT.kept hg2 (hT.ne_ hlt) | skip); (first | replace hA := hA.kept hg2 (hA.ne_ hlt) | skip); (first | replace hC := hC.kept hg2 (hC.ne_ hlt) | skip); (first | replace hZ := hZ.kept hg2 (hZ.ne_ hlt) | skip); replace hr := hr2; replace hgw := kp_row hgw hg2) | (refine L_call rfl rfl (c_l91Tree hr om_ om_) (fun u w3 hR => ?_); obtain ⟨xs, p3, hT, htr, hr3, hp3, hg3⟩ := hR; replace hr := hr3; replace hT := hT.rebase hgw.size; replace hgw := kp_row hgw hg3) | (have := hA; clear this; refine L_call rfl rfl (c_l91Canon hr hT htr hlt hgw.size om_) (fun u w4 hR => ?_); obtain ⟨l2, p4, hC, hl2, hs2, hr4, hp4, hg4⟩ := hR; replace hT := hT.kept hg4 (hT.ne_ hlt); replace hA := hA.kept hg4 (hA.ne_ hlt); replace hC := hC.rebase hgw.size; replace hr := hr4; replace hgw := kp_row hgw hg4) | (refine L_call rfl rfl (c_l91Canon hr hT htr hlt hgw.size om_) (fun u w4 hR => ?_); obtain ⟨l1, p4, hA, hl1, hs1, hr4, hp4, hg4⟩ := hR; replace hT := hT.kept hg4 (hT.ne_ hlt); replace hA := hA.rebase hgw.size; replace hr := hr4; replace hgw := kp_row hgw hg4) | (refine L_call rfl rfl (c_specLogApply hT.rd hA.rd (shortN_of_tree htr) (fun c hc => by have := hs1 c hc; omega)) (fun _ w5 hR => ?_); obtain ⟨z5, rfl, hZ, hB5⟩ := hR; replace hT := hT.ext hB5; replace hA := hA.ext hB5; replace hC := hC.ext hB5; replace hZ := hZ.rebase hgw.size; replace hr := hr.ext hB5; replace hgw := kp_below hgw hB5) | (refine L_call rfl rfl (c_l91Log hr hZ (logT_ok htr) hlt hgw.size om_ om_) (fun u w6 hR => ?_); obtain ⟨l3, p6, hL, hl3, hs3, hr6, hp6, hg6⟩ := hR; replace hT := hT.kept hg6 (hT.ne_ hlt); replace hA := hA.kept hg6 (hA.ne_ hlt); replace hC := hC.kept hg6 (hC.ne_ hlt); replace hL := hL.rebase hgw.size; replace hr := hr6; replace hgw := kp_row hgw hg6; clear hZ) | (refine L_call rfl rfl (c_specCanonJoin hA.rd hL.rd (fun c hc => by have := hs1 c hc; omega) (fun c hc => by have := hs3 c hc; omega) om_ om_) (fun _ w7 hR => ?_); obtain ⟨r7, rfl, hJ, hB7⟩ := hR; replace hT := hT.ext hB7; replace hA := hA.ext hB7; replace hC := hC.ext hB7; replace hJ := hJ.rebase hgw.size; replace hr := hr.ext hB7; replace hgw := kp_below hgw hB7; clear hL) ) | (apply isBin; first | refine L_do rfl rfl rfl (do_cmp rfl rfl rfl) ?_ | refine L_do rfl rfl rfl (do_add rfl rfl om_) ?_ ) | refine L_assign rfl rfl ?_ | refine L_do rfl rfl rfl (do_extract rfl rfl) ?_ ) | (apply isW; first | apply W_seq | apply W_region | refine W_cond_dec rfl (fun hg => ?_) (fun hg => ?_) | refine W_cond_true rfl ?_ | refine W_cond_false rfl ?_ | refine W_cond rfl (fun hg => ?_) (fun hg => ?_) | apply W_skip | apply W_ret | apply W_exit | apply W_block) | (apply isAt; first | apply At_then | apply At_then_ret | apply At_then_exit | apply At_block_normal | apply At_block_ret | apply At_block_hit | refine At_block_miss rfl ?_ | refine At_end1 rfl rfl ?_ | refine At_end1n rfl rfl ?_ | refine At_end2 rfl rfl rfl ?_ | refine At_end3 rfl rfl rfl rfl ?_ | refine At_end4 rfl rfl rfl rfl rfl ?_ | refine At_end5 rfl rfl rfl rfl rfl rfl ?_ | refine At_mix kp_ ?_))
  all_goals first
    | exact ⟨_, _, _, xs, l1, l1, _, rfl, ⟨hT, hA, hA, htr, hl1, by omega, hs1, hs1⟩, hr, by omega, hgw⟩
    | exact ⟨_, _, _, xs, l1, l2, _, rfl, ⟨hT, hA, hC, htr, hl1, by omega, hs1, hs2⟩, hr, by omega, hgw⟩
    | exact ⟨_, _, _, xs, l1, _, _, rfl, ⟨hT, hA, hJ, htr, hl1, canon_getD_len (by simp; omega), hs1, canon_getD_path (Q := fun p => p.length ≤ 20) (fun c hc => (List.mem_append.1 hc).elim (hs1 c) (hs3 c))⟩, hr, by omega, hgw⟩
theorem c_DrawPairFits {v : Value} {cs : List UInt8} {w : World} (h : RdL tU8 w v cs) :
    Cl Tryz.prog 71 [v] w (fun u w' => ∃ (a b c : Value) (xs : List Nd) (l1 l2 : List Cm), u = .tuple #[a, b, c] ∧ RdL tNd w' a xs ∧ RdL tCm w' b l1 ∧ RdL tCm w' c l2 ∧ xs.length ≤ 11 ∧ l1.length ≤ 20 ∧ l2.length ≤ 40 ∧ ShortN xs ∧ ShortC l1 ∧ ShortC l2 ∧ Below w.heap.size w w') := by
  refine calls_start 27 Tryz.func71 rfl rfl rfl ?_
  repeat' (first | (apply isL; first | apply L_nil | refine L_move rfl rfl ?_ | (apply isCall; first | (refine L_call rfl rfl (c_l6Open h) (fun _ w2 hR => ?_); obtain ⟨g, rfl, hg0, hg1, hr2, hB2⟩ := hR) | (refine L_call rfl rfl (c_l92Pair hr2 om_) (fun _ w3 hR => ?_); obtain ⟨a, b, c, xs, l1, l2, p3, rfl, hP, hr3, hp3, hg3⟩ := hR) | (refine L_call rfl rfl (c_pick hr3 om_ om_) (fun _ w4 hR => ?_); obtain ⟨k0, rfl, hk0, hkn, hr4, hg4⟩ := hR) | (refine L_call rfl rfl (c_l91Any hr4 om_) (fun z w5 hR => ?_); obtain ⟨zs, p5, hO5, hzl, hzs, hr5, hp5, hg5⟩ := hR) ) | (apply isBin; first | refine L_do rfl rfl rfl (do_cmp rfl rfl rfl) ?_ ) | refine L_assign rfl rfl ?_ | refine L_do rfl rfl rfl (do_extract rfl rfl) ?_ ) | (apply isW; first | apply W_seq | apply W_region | refine W_cond_dec rfl (fun hg => ?_) (fun hg => ?_) | refine W_cond_true rfl ?_ | refine W_cond_false rfl ?_ | refine W_cond rfl (fun hg => ?_) (fun hg => ?_) | apply W_skip | apply W_ret | apply W_exit | apply W_block) | (apply isAt; first | apply At_then | apply At_then_ret | apply At_then_exit | apply At_block_normal | apply At_block_ret | apply At_block_hit | refine At_block_miss rfl ?_ | refine At_end1 rfl rfl ?_ | refine At_end1n rfl rfl ?_ | refine At_end2 rfl rfl rfl ?_ | refine At_end3 rfl rfl rfl rfl ?_ | refine At_end4 rfl rfl rfl rfl rfl ?_ | refine At_end5 rfl rfl rfl rfl rfl rfl ?_ | refine At_mix kp_ ?_))
  all_goals have hsb : ShortC l1 := fun c hc => by have := hP.sb c hc; omega
  all_goals have hsc : ShortC l2 := fun c hc => by have := hP.sc c hc; omega
  · have hB := below_grow0 (below_grow0 (below_grow0 hB2 hg3 (fun k hk => by cases hk; omega)) hg4 (fun k hk => by cases hk; omega)) hg5 (fun k hk => by cases hk; omega)
    exact ⟨_, _, _, zs, l1, l2, rfl, hO5.rd, ((hP.tb.kept hg4 (hP.tb.ne_ hg1)).kept hg5 (hP.tb.ne_ hg1)).rd, ((hP.tc.kept hg4 (hP.tc.ne_ hg1)).kept hg5 (hP.tc.ne_ hg1)).rd, hzl, hP.lb, hP.lc, fun n hn => by have := hzs n hn; omega, hsb, hsc, hB⟩
  · have hB := below_grow0 (below_grow0 hB2 hg3 (fun k hk => by cases hk; omega)) hg4 (fun k hk => by cases hk; omega)
    have htl := tree_len hP.ok
    exact ⟨_, _, _, xs, l1, l2, rfl, (hP.ta.kept hg4 (hP.ta.ne_ hg1)).rd, (hP.tb.kept hg4 (hP.tb.ne_ hg1)).rd, (hP.tc.kept hg4 (hP.tc.ne_ hg1)).rd, by omega, hP.lb, hP.lc, shortN_of_tree hP.ok, hsb, hsc, hB⟩
end Go.Proofs.YtjncnmokafgigaaGreatDoor
