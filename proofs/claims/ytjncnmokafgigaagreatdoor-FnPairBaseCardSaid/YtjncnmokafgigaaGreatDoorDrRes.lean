/-
  Contracts of the draws: a tree, two canonical logs and the side that wins.
  Contracts of the draws: a tree and two canonical logs; with the side that wins and another side.
-/
import Derived.Test.YtjncnmokafgigaaGreatDoorDrawPair

namespace Go.Proofs.YtjncnmokafgigaaGreatDoor
set_option linter.unusedVariables false
set_option linter.unusedSimpArgs false
open Go Go.RowKit
set_option linter.unusedVariables false
set_option linter.unusedSimpArgs false

theorem res4 {fn : Func} {t u v z : Tmp} (h : fn.results = #[.tmp t, .tmp u, .tmp v, .tmp z]) (tmps : Array Value) (P : Program) (w : World) :
    (results fn tmps).run P w = .ok (.tuple #[tmps.getD t undef, tmps.getD u undef, tmps.getD v undef, tmps.getD z undef]) w := by
  simp [results, h]
theorem At_end4 {P : Program} {n : Nat} {fr : Fr} {w : World} {fn : Func} {R : Value → World → Prop} {t u z q : Nat} {x y v s : Value} (hres : fn.results = #[.tmp t, .tmp u, .tmp z, .tmp q]) (hx : fr.get t = some x) (hy : fr.get u = some y) (hz : fr.get z = some v) (hq : fr.get q = some s) (hR : R (.tuple #[x, y, v, s]) w) :
    At (bodyPost P fn (Ret R)) .ret n fr w := ⟨fun a st =>
  ⟨st.defers, _, by rw [res4 hres, st.getD hx, st.getD hy, st.getD hz, st.getD hq], _, rfl, hR⟩⟩
theorem c_DrawPairTree {v : Value} {cs : List UInt8} {w : World} (h : RdL tU8 w v cs) :
    Cl Tryz.prog 32 [v] w (fun u w' => ∃ (a b c : Value) (xs : List Nd) (l1 l2 : List Cm), u = .tuple #[a, b, c] ∧ RdL tNd w' a xs ∧ RdL tCm w' b l1 ∧ RdL tCm w' c l2 ∧ xs.length ≤ 11 ∧ l1.length ≤ 20 ∧ l2.length ≤ 40 ∧ ShortN xs ∧ ShortC l1 ∧ ShortC l2 ∧ Below w.heap.size w w') := by
  refine calls_start 10 Tryz.func32 rfl rfl rfl ?_
  repeat' (first | (apply isL; first | apply L_nil | refine L_move rfl rfl ?_ | (apply isCall; first | (refine L_call rfl rfl (c_DrawPairFits h) (fun _ w2 hR => ?_); obtain ⟨va, vb, vc, xs, l1, l2, rfl, hA, hB, hC, hxl, hl1, hl2, hsx, hs1, hs2, hB2⟩ := hR) ) | refine L_assign rfl rfl ?_ | refine L_do rfl rfl rfl (do_extract rfl rfl) ?_ ) | (apply isW; first | apply W_seq | apply W_region | refine W_cond_dec rfl (fun hg => ?_) (fun hg => ?_) | refine W_cond_true rfl ?_ | refine W_cond_false rfl ?_ | refine W_cond rfl (fun hg => ?_) (fun hg => ?_) | apply W_skip | apply W_ret | apply W_exit | apply W_block) | (apply isAt; first | apply At_then | apply At_then_ret | apply At_then_exit | apply At_block_normal | apply At_block_ret | apply At_block_hit | refine At_block_miss rfl ?_ | refine At_end1 rfl rfl ?_ | refine At_end1n rfl rfl ?_ | refine At_end2 rfl rfl rfl ?_ | refine At_end3 rfl rfl rfl rfl ?_ | refine At_end4 rfl rfl rfl rfl rfl ?_ | refine At_end5 rfl rfl rfl rfl rfl rfl ?_ | refine At_mix kp_ ?_))
  exact ⟨va, vb, vc, xs, l1, l2, rfl, hA, hB, hC, hxl, hl1, hl2, hsx, hs1, hs2, hB2⟩
theorem c_l92Side {g p : Nat} {w : World} (h : Rdr w g p) (hp : p ≤ 1000000) : Cl Tryz.prog 43 [.pointer (some ⟨g, 0, none⟩)] w (fun u w' => ∃ (s : Int) (p' : Nat), u = .int .i64 s ∧ 0 ≤ s ∧ s ≤ 3 ∧ Rdr w' g p' ∧ p' ≤ p + 10 ∧ w.grownBy w' (some g)) := by
  refine calls_start 12 Tryz.func43 rfl rfl rfl ?_
  have hlt := h.lt
  have hr := h
  have hgw : w.grownBy w (some g) := World.grownBy.refl _ _
  repeat' (first | (apply isL; first | apply L_nil | refine L_move rfl rfl ?_ | (apply isCall; first | (refine L_call rfl rfl (c_pick hr om_ om_) (fun _ w2 hR => ?_); obtain ⟨k0, rfl, hk0, hkn, hr2, hg2⟩ := hR; replace hr := hr2; replace hgw := kp_row hgw hg2) ) | (apply isBin; first | refine L_do rfl rfl rfl (do_cmp rfl rfl rfl) ?_ | refine L_do rfl rfl rfl (do_add rfl rfl om_) ?_ | refine L_do rfl rfl rfl (do_mul rfl rfl om_) ?_ ) | refine L_assign rfl rfl ?_ ) | (apply isW; first | apply W_seq | apply W_region | refine W_cond_dec rfl (fun hg => ?_) (fun hg => ?_) | refine W_cond_true rfl ?_ | refine W_cond_false rfl ?_ | refine W_cond rfl (fun hg => ?_) (fun hg => ?_) | apply W_skip | apply W_ret | apply W_exit | apply W_block) | (apply isAt; first | apply At_then | apply At_then_ret | apply At_then_exit | apply At_block_normal | apply At_block_ret | apply At_block_hit | refine At_block_miss rfl ?_ | refine At_end1 rfl rfl ?_ | refine At_end1n rfl rfl ?_ | refine At_end2 rfl rfl rfl ?_ | refine At_end3 rfl rfl rfl rfl ?_ | refine At_end4 rfl rfl rfl rfl rfl ?_ | refine At_end5 rfl rfl rfl rfl rfl rfl ?_ | refine At_mix kp_ ?_))
  all_goals exact ⟨_, _, rfl, by omega, by omega, hr, by omega, hgw⟩
end Go.Proofs.YtjncnmokafgigaaGreatDoor


namespace Go.Proofs.YtjncnmokafgigaaGreatDoor
set_option linter.unusedVariables false
set_option linter.unusedSimpArgs false
open Go Go.RowKit
set_option linter.unusedVariables false
set_option linter.unusedSimpArgs false

theorem res5 {fn : Func} {t u v z y : Tmp} (h : fn.results = #[.tmp t, .tmp u, .tmp v, .tmp z, .tmp y]) (tmps : Array Value) (P : Program) (w : World) :
    (results fn tmps).run P w = .ok (.tuple #[tmps.getD t undef, tmps.getD u undef, tmps.getD v undef, tmps.getD z undef, tmps.getD y undef]) w := by
  simp [results, h]
theorem At_end5 {P : Program} {n : Nat} {fr : Fr} {w : World} {fn : Func} {R : Value → World → Prop} {t u z q p : Nat} {x y v s r : Value} (hres : fn.results = #[.tmp t, .tmp u, .tmp z, .tmp q, .tmp p]) (hx : fr.get t = some x) (hy : fr.get u = some y) (hz : fr.get z = some v) (hq : fr.get q = some s) (hp : fr.get p = some r) (hR : R (.tuple #[x, y, v, s, r]) w) :
    At (bodyPost P fn (Ret R)) .ret n fr w := ⟨fun a st =>
  ⟨st.defers, _, by rw [res5 hres, st.getD hx, st.getD hy, st.getD hz, st.getD hq, st.getD hp], _, rfl, hR⟩⟩
theorem c_DrawPairBase {v : Value} {cs : List UInt8} {w : World} (h : RdL tU8 w v cs) :
    Cl Tryz.prog 36 [v] w (fun u w' => ∃ (a b c : Value) (xs : List Nd) (l1 l2 : List Cm), u = .tuple #[a, b, c] ∧ RdL tNd w' a xs ∧ RdL tCm w' b l1 ∧ RdL tCm w' c l2 ∧ xs.length ≤ 11 ∧ l1.length ≤ 20 ∧ l2.length ≤ 40 ∧ ShortN xs ∧ ShortC l1 ∧ ShortC l2 ∧ Below w.heap.size w w') := by
  refine calls_start 10 Tryz.func36 rfl rfl rfl ?_
  repeat' (first | (apply isL; first | apply L_nil | refine L_move rfl rfl ?_ | (apply isCall; first | (refine L_call rfl rfl (c_DrawPairFits h) (fun _ w2 hR => ?_); obtain ⟨va, vb, vc, xs, l1, l2, rfl, hA, hB, hC, hxl, hl1, hl2, hsx, hs1, hs2, hB2⟩ := hR) ) | refine L_assign rfl rfl ?_ | refine L_do rfl rfl rfl (do_extract rfl rfl) ?_ ) | (apply isW; first | apply W_seq | apply W_region | refine W_cond_dec rfl (fun hg => ?_) (fun hg => ?_) | refine W_cond_true rfl ?_ | refine W_cond_false rfl ?_ | refine W_cond rfl (fun hg => ?_) (fun hg => ?_) | apply W_skip | apply W_ret | apply W_exit | apply W_block) | (apply isAt; first | apply At_then | apply At_then_ret | apply At_then_exit | apply At_block_normal | apply At_block_ret | apply At_block_hit | refine At_block_miss rfl ?_ | refine At_end1 rfl rfl ?_ | refine At_end1n rfl rfl ?_ | refine At_end2 rfl rfl rfl ?_ | refine At_end3 rfl rfl rfl rfl ?_ | refine At_end4 rfl rfl rfl rfl rfl ?_ | refine At_end5 rfl rfl rfl rfl rfl rfl ?_ | refine At_mix kp_ ?_))
  exact ⟨va, vb, vc, xs, l1, l2, rfl, hA, hB, hC, hxl, hl1, hl2, hsx, hs1, hs2, hB2⟩
theorem c_DrawResolveSteps {v : Value} {cs : List UInt8} {w : World} (h : RdL tU8 w v cs) :
    Cl Tryz.prog 11 [v] w (fun u w' => ∃ (a b c : Value) (xs : List Nd) (l1 l2 : List Cm) (s s2 : Int), u = .tuple #[a, b, c, .int .i64 s, .int .i64 s2] ∧ 0 ≤ s ∧ s ≤ 3 ∧ 0 ≤ s2 ∧ s2 ≤ 3 ∧ RdL tNd w' a xs ∧ RdL tCm w' b l1 ∧ RdL tCm w' c l2 ∧ xs.length ≤ 11 ∧ l1.length ≤ 20 ∧ l2.length ≤ 40 ∧ ShortN xs ∧ ShortC l1 ∧ ShortC l2 ∧ Below w.heap.size w w') := by
  refine calls_start 28 Tryz.func11 rfl rfl rfl ?_
  repeat' (first | (apply isL; first | apply L_nil | refine L_move rfl rfl ?_ | (apply isCall; first | (refine L_call rfl rfl (c_l6Open h) (fun _ w2 hR => ?_); obtain ⟨g, rfl, hg0, hg1, hr2, hB2⟩ := hR) | (refine L_call rfl rfl (c_l92Pair hr2 om_) (fun _ w3 hR => ?_); obtain ⟨a, b, c, xs, l1, l2, p3, rfl, hP, hr3, hp3, hg3⟩ := hR; have tok := hp3) | (have := tok; clear this tok; refine L_call rfl rfl (c_l92Side hr3 om_) (fun _ w4 hR => ?_); obtain ⟨s, p4, rfl, hs0, hs3, hr4, hp4, hg4⟩ := hR) | (refine L_call rfl rfl (c_l92Side hr4 om_) (fun _ w5 hR => ?_); obtain ⟨s2, p5, rfl, ht0, ht3, hr5, hp5, hg5⟩ := hR) ) | refine L_assign rfl rfl ?_ | refine L_do rfl rfl rfl (do_extract rfl rfl) ?_ ) | (apply isW; first | apply W_seq | apply W_region | refine W_cond_dec rfl (fun hg => ?_) (fun hg => ?_) | refine W_cond_true rfl ?_ | refine W_cond_false rfl ?_ | refine W_cond rfl (fun hg => ?_) (fun hg => ?_) | apply W_skip | apply W_ret | apply W_exit | apply W_block) | (apply isAt; first | apply At_then | apply At_then_ret | apply At_then_exit | apply At_block_normal | apply At_block_ret | apply At_block_hit | refine At_block_miss rfl ?_ | refine At_end1 rfl rfl ?_ | refine At_end1n rfl rfl ?_ | refine At_end2 rfl rfl rfl ?_ | refine At_end3 rfl rfl rfl rfl ?_ | refine At_end4 rfl rfl rfl rfl rfl ?_ | refine At_end5 rfl rfl rfl rfl rfl rfl ?_ | refine At_mix kp_ ?_))
  have hsb : ShortC l1 := fun c hc => by have := hP.sb c hc; omega
  have hsc : ShortC l2 := fun c hc => by have := hP.sc c hc; omega
  have hB := below_grow0 (below_grow0 (below_grow0 hB2 hg3 (fun k hk => by cases hk; omega)) hg4 (fun k hk => by cases hk; omega)) hg5 (fun k hk => by cases hk; omega)
  have htl := tree_len hP.ok
  have hta := (hP.ta.kept hg4 (hP.ta.ne_ hg1)).kept hg5 (hP.ta.ne_ hg1)
  have htb := (hP.tb.kept hg4 (hP.tb.ne_ hg1)).kept hg5 (hP.tb.ne_ hg1)
  have htc := (hP.tc.kept hg4 (hP.tc.ne_ hg1)).kept hg5 (hP.tc.ne_ hg1)
  exact ⟨_, _, _, xs, l1, l2, s, s2, rfl, hs0, hs3, ht0, ht3, hta.rd, htb.rd, htc.rd, by omega, hP.lb, hP.lc, shortN_of_tree hP.ok, hsb, hsc, hB⟩
end Go.Proofs.YtjncnmokafgigaaGreatDoor
