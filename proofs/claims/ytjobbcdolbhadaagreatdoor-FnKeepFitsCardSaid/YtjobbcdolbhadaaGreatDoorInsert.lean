/-
  Contract: slices.Insert of one node into nodes of the call's own.
-/
import Derived.Test.YtjobbcdolbhadaaGreatDoorDelFunc
import Derived.Laws.Externs
namespace Go.Proofs.YtjobbcdolbhadaaGreatDoor
open Go Go.RowKit
set_option linter.unusedVariables false
set_option linter.unusedSimpArgs false

theorem laid1 (cur : Array Value) (a b c : Nat) (A B : List Value) (hA : A.length = b) (hB : B.length = c) (h : a + b + c ≤ cur.size) : (laid (laid cur a A) (a + b) B).toList.take (a + b + c) = cur.toList.take a ++ A ++ B := by
  have hs : cur.toList.length = cur.size := by simp
  have h1 : (laid cur a A).toList.take (a + b) = cur.toList.take a ++ A := by
    unfold laid
    rw [List.toList_toArray]
    exact List.take_left' (by simp; omega)
  unfold laid at h1 ⊢
  rw [List.toList_toArray] at h1 ⊢
  rw [h1]
  exact List.take_left' (by simp; omega)
theorem laid2 (cur : Array Value) (a b c : Nat) (A B : List Value) (hA : A.length = b) (hB : B.length = c) (h : a + b + c ≤ cur.size) : (laid (laid cur (a + b) B) a A).toList.take (a + b + c) = cur.toList.take a ++ A ++ B := by
  have hs : cur.toList.length = cur.size := by simp
  have h1 : (laid cur (a + b) B).toList = cur.toList.take (a + b) ++ (B ++ cur.toList.drop (a + b + B.length)) := by
    unfold laid
    rw [List.toList_toArray, List.append_assoc]
  have h2 : (laid cur (a + b) B).toList.take a = cur.toList.take a := by
    rw [h1, List.take_append_of_le_length (by simp; omega), List.take_take, Nat.min_eq_left (by omega)]
  have h3 : (laid cur (a + b) B).toList.drop (a + A.length) = B ++ cur.toList.drop (a + b + B.length) := by
    rw [h1, hA]
    exact List.drop_left' (by simp; omega)
  unfold laid at h2 h3 ⊢
  rw [List.toList_toArray] at h2 h3 ⊢
  rw [h2, h3, ← List.append_assoc]
  exact List.take_left' (by simp; omega)

section
variable {P : Program} {n : Nat} {fr : Fr} {w : World} {d : Nat} {ty : TypeId} {pos : String} {af : Array Edge} {ops : Array Oper} {Q : Exit → Act → World → Prop} {rest : List Oper}
theorem do_lenX {t e size bytes : Nat} {z : Value} [hT : TSlice P t e size bytes z] {x : Operand} {a : Option Addr} {l c : Nat} (hx : fr.ev x = some (.slice a l c)) :
    Does P ⟨some d, .call ⟨.builtin .len, #[x], #[t]⟩, ty, pos, af, none⟩ fr w (.int .i64 l) := ⟨fun ρ h => by
  simp [h x _ hx, Builtin.len_, run_underlying hT.und, goInt, go_sem]⟩
/-- A call of a function that the model answers itself. -/
theorem L_callX {f : FuncId} {xs : List Operand} {ats : Array TypeId} {vs : List Value} {v : Value} (hx : fr.evs xs = some vs) (hdn : Nat.blt d n = true)
    (hr : (callFunc f vs.toArray).run P w = .ok (.value v) w) (k : L P ops Q n rest ((d, v) :: fr) w) :
    L P ops Q n (⟨some d, .call ⟨.value (.func f), xs.toArray, ats⟩, ty, pos, af, none⟩ :: rest) fr w := by
  refine L_run rfl rfl hdn (fun ρ h => ?_) k
  have hargs : (Array.map ρ xs.toArray) = vs.toArray := by rw [List.map_toArray, evs_map h xs vs hx]
  have hf := h (.func f) _ rfl
  simp [go_sem, hargs, hf, hr]
end
theorem run_ov (w : World) (g2 c2 g o lb cb kA kB tA tB : Nat) (cA cB : Array Value) (hne : g2 ≠ g) (hA : w.heap[g2]? = some (.cells cA tA (0, 0))) (hB : w.heap[g]? = some (.cells cB tB (0, 0))) (hk : cB.size ≠ 0) :
    (callFunc 137 #[.slice (some ⟨g2, 0, none⟩) 1 c2, .slice (some ⟨g, o, none⟩) lb cb]).run Tryz.prog w = .ok (.value (.bool false)) w := by
  have hsz : ∀ w, (sizeOf 69).run Tryz.prog w = .ok 3 w := fun w => run_sizeOf' (by kernel_rfl)
  rw [run_callFunc_extern Tryz.func137 (by kernel_rfl) (by kernel_rfl) (by kernel_rfl) (e := Extern.SlicesOverlaps.overlaps #[23, 23] #[4]) (by kernel_rfl),
    Lib.run_overlaps_apart w 23 4 69 Tryz.underlying23 3 hsz ⟨g2, 0, none⟩ ⟨g, o, none⟩ 1 c2 lb cb hne tA tB cA.size cB.size (by simp [World.shape?, hA]) (by simp [World.shape?, hB]) hk (by simp [World.frozen?, hA]) (by simp [World.frozen?, hA])]
  rfl

theorem c_Insert_nd {v v2 : Value} {xs : List Nd} {nn : Nd} {i base b2 : Nat} {w : World} (hO : OwL tNd w base 69 v xs) (hbase : base ≤ w.heap.size) (h2 : OwL tNd w b2 69 v2 [nn]) (hne : ∀ g, v2.ownBlock = some g → v.ownBlock ≠ some g) (hi : i ≤ xs.length) (hl : xs.length ≤ 1000) :
    Cl Tryz.prog 103 [v, .int .i64 i, v2] w (fun u w' => OwL tNd w' base 69 u (xs.take i ++ [nn] ++ xs.drop i) ∧ w.grownBy w' v.ownBlock) := by
  refine calls_start 95 Tryz.func103 rfl rfl rfl ?_
  obtain ⟨g2, cap2, cur2, he2, hb2, hc2, hn2, hm2, hs2, ht2⟩ := h2.row (by simp)
  replace he2 : v2 = .slice (some ⟨g2, 0, none⟩) 1 cap2 := he2
  subst he2
  have hn1 : ([nn] : List Nd).length = 1 := rfl
  rcases Nat.eq_or_lt_of_le hi with hie | hil
  · subst hie
    repeat' (first | (apply isL; first | apply L_nil | refine L_move rfl rfl ?_ | (apply isCall; first | refine L_lenL rfl rd_ rfl (fun hlen => ?_) | refine L_do rfl rfl rfl (do_lenX rfl) ?_ | refine L_lenL rfl hO.rd rfl (fun hlen => ?_) | refine L_appendG rfl rfl hbase hO h2.rd rfl (by simp; omega) (by simp; omega) rfl (fun v4 w4 hO4 hg4 => ?_) ) | (apply isBin; first | refine L_do rfl rfl rfl (do_cmp rfl rfl rfl) ?_ | refine L_do rfl rfl rfl (do_add rfl rfl om_) ?_ | refine L_do rfl rfl rfl (do_sub rfl rfl om_) ?_ ) | refine L_assign rfl rfl ?_ | refine L_do rfl rfl rfl (do_notDec rfl) ?_ | refine L_do rfl rfl rfl (do_not rfl) ?_ | refine L_sliceL rfl rfl hO.rd rfl om_ om_ rfl (fun sv hsl hob => ?_) ) | (apply isLQ; first | refine LQ_nil (fun w1 hBq => ?_) | apply LQ_mix | refine LQ_move rfl rfl ?_ | (apply isBinQ; first | refine LQ_do rfl rfl rfl (fun _ _ => do_cmp rfl rfl rfl) ?_ | refine LQ_do rfl rfl rfl (fun _ _ => do_cmpStr rfl rfl rfl) ?_ | refine LQ_do rfl rfl rfl (fun _ _ => do_add rfl rfl om_) ?_ | refine LQ_do rfl rfl rfl (fun _ _ => do_sub rfl rfl om_) ?_ ) | refine LQ_assign rfl rfl ?_ | refine LQ_do rfl rfl rfl (fun _ _ => do_notDec rfl) ?_ | refine LQ_do rfl rfl rfl (fun _ _ => do_not rfl) ?_) | (apply isW; first | apply W_seq | apply W_region | refine W_region_Q mixed (by kernel_rfl) ?_ | refine W_cond_dec rfl (fun hg => ?_) (fun hg => ?_) | refine W_cond_true rfl ?_ | refine W_cond_false rfl ?_ | refine W_cond rfl (fun hg => ?_) (fun hg => ?_) | apply W_skip | apply W_ret | apply W_exit | apply W_block) | (apply isLM) | (apply isAt; first | apply At_then | apply At_then_ret | apply At_then_exit | apply At_block_normal | apply At_block_ret | apply At_block_hit | refine At_block_miss rfl ?_ | refine At_end1 rfl rfl ?_ | refine At_end1n rfl rfl ?_ | refine At_end2 rfl rfl rfl ?_ | refine At_end3 rfl rfl rfl rfl ?_ | refine At_end4 rfl rfl rfl rfl rfl ?_ | refine At_end5 rfl rfl rfl rfl rfl rfl ?_ | refine At_mix kp_ ?_))
    all_goals first | (exfalso; simp at hg; done) | skip
    rw [List.take_length, List.drop_length, List.append_nil]
    exact ⟨hO4, hg4⟩
  · obtain ⟨g, cap, cur, rfl, hb, hc, hnc, hm, hs, ht⟩ := hO.row (fun e => by subst e; simp at hil)
    have hgne : g2 ≠ g := fun e => hne g2 rfl (by rw [e]; rfl)
    have hml : maxLen = 9223372036854775807 := rfl
    repeat' (first | (apply isL; first | apply L_nil | refine L_move rfl rfl ?_ | (apply isCall; first | refine L_lenL rfl rd_ rfl (fun hlen => ?_) | refine L_do rfl rfl rfl (do_lenX rfl) ?_ | refine L_do rfl rfl rfl (do_cap rfl) ?_ ) | (apply isBin; first | refine L_do rfl rfl rfl (do_cmp rfl rfl rfl) ?_ | refine L_do rfl rfl rfl (do_add rfl rfl om_) ?_ | refine L_do rfl rfl rfl (do_sub rfl rfl om_) ?_ ) | refine L_assign rfl rfl ?_ | refine L_do rfl rfl rfl (do_notDec rfl) ?_ | refine L_do rfl rfl rfl (do_not rfl) ?_ | refine L_do rfl rfl rfl (do_sliceRowL rfl rfl om_ om_) ?_ ) | (apply isLQ; first | refine LQ_nil (fun w1 hBq => ?_) | apply LQ_mix | refine LQ_move rfl rfl ?_ | (apply isBinQ; first | refine LQ_do rfl rfl rfl (fun _ _ => do_cmp rfl rfl rfl) ?_ | refine LQ_do rfl rfl rfl (fun _ _ => do_cmpStr rfl rfl rfl) ?_ | refine LQ_do rfl rfl rfl (fun _ _ => do_add rfl rfl om_) ?_ | refine LQ_do rfl rfl rfl (fun _ _ => do_sub rfl rfl om_) ?_ ) | refine LQ_assign rfl rfl ?_ | refine LQ_do rfl rfl rfl (fun _ _ => do_notDec rfl) ?_ | refine LQ_do rfl rfl rfl (fun _ _ => do_not rfl) ?_) | (apply isW; first | apply W_seq | apply W_region | refine W_region_Q mixed (by kernel_rfl) ?_ | refine W_cond_dec rfl (fun hg => ?_) (fun hg => ?_) | refine W_cond_true rfl ?_ | refine W_cond_false rfl ?_ | refine W_cond rfl (fun hg => ?_) (fun hg => ?_) | apply W_skip | apply W_ret | apply W_exit | apply W_block) | (apply isLM) | (apply isAt; first | apply At_then | apply At_then_ret | apply At_then_exit | apply At_block_normal | apply At_block_ret | apply At_block_hit | refine At_block_miss rfl ?_ | refine At_end1 rfl rfl ?_ | refine At_end1n rfl rfl ?_ | refine At_end2 rfl rfl rfl ?_ | refine At_end3 rfl rfl rfl rfl ?_ | refine At_end4 rfl rfl rfl rfl rfl ?_ | refine At_end5 rfl rfl rfl rfl rfl rfl ?_ | refine At_mix kp_ ?_))
    all_goals first | (exfalso; simp at hg; done) | (exfalso; omega) | skip
    · -- no room: a new row
      have hcap : cap = xs.length := by omega
      have hfl : (xs.drop i).length = xs.length - i := by simp
      have hTT : True := trivial
      have ht1 : cur.toList.take (i * 3) = (xs.take i).flatMap tNd.enc := by
        rw [← flat_take, ← ht, List.take_take, Nat.min_eq_left (Nat.mul_le_mul_right _ hi)]; rfl
      have hpt : Pt w ⟨g, 0, none⟩ ((xs.take i).flatMap tNd.enc) := by rw [← ht1]; exact (pt_of_block hc).take _
      have hpd : Pt w ⟨g, 0 + i * 3, none⟩ ((xs.drop i).flatMap tNd.enc) := by
        have h1 := ((pt_of_block hc).take (xs.length * tNd.size)).drop (i * tNd.size)
        rw [ht, flat_drop, addr_add0] at h1; exact h1
      have hp2 : Pt w ⟨g2, 0, none⟩ (tNd.enc nn) := by
        have h1 := (pt_of_block hc2).take ([nn].length * tNd.size)
        rw [ht2] at h1; simpa using h1
      repeat' (first | (apply isL; first | apply L_nil | refine L_move rfl rfl ?_ | (apply isCall; first | refine L_lenL rfl rd_ rfl (fun hlen => ?_) | refine L_appendZG (k := xs.length + 1 - i) (y0 := (⟨[], ⟨0, 0⟩⟩ : Nd)) (xs := xs.take i) rfl rfl om_ Tryz.underlying3 hpt (by simp; omega) om_ om_ rfl rfl om_ om_ om_ rfl (fun v4 w4 hO4 hB4 => ?_) ) | (apply isBin; first | refine L_do rfl rfl rfl (do_cmp rfl rfl rfl) ?_ | refine L_do rfl rfl rfl (do_add rfl rfl om_) ?_ | refine L_do rfl rfl rfl (do_sub rfl rfl om_) ?_ ) | refine L_assign rfl rfl ?_ | refine L_do rfl rfl rfl (do_notDec rfl) ?_ | refine L_do rfl rfl rfl (do_not rfl) ?_ | refine L_do rfl rfl rfl (do_sliceRowH (i := i) rfl rfl om_) ?_ ) | (apply isLQ; first | refine LQ_nil (fun w1 hBq => ?_) | apply LQ_mix | refine LQ_move rfl rfl ?_ | (apply isBinQ; first | refine LQ_do rfl rfl rfl (fun _ _ => do_cmp rfl rfl rfl) ?_ | refine LQ_do rfl rfl rfl (fun _ _ => do_cmpStr rfl rfl rfl) ?_ | refine LQ_do rfl rfl rfl (fun _ _ => do_add rfl rfl om_) ?_ | refine LQ_do rfl rfl rfl (fun _ _ => do_sub rfl rfl om_) ?_ ) | refine LQ_assign rfl rfl ?_ | refine LQ_do rfl rfl rfl (fun _ _ => do_notDec rfl) ?_ | refine LQ_do rfl rfl rfl (fun _ _ => do_not rfl) ?_) | (apply isW; first | apply W_seq | apply W_region | refine W_region_Q mixed (by kernel_rfl) ?_ | refine W_cond_dec rfl (fun hg => ?_) (fun hg => ?_) | refine W_cond_true rfl ?_ | refine W_cond_false rfl ?_ | refine W_cond rfl (fun hg => ?_) (fun hg => ?_) | apply W_skip | apply W_ret | apply W_exit | apply W_block) | (apply isLM) | (apply isAt; first | apply At_then | apply At_then_ret | apply At_then_exit | apply At_block_normal | apply At_block_ret | apply At_block_hit | refine At_block_miss rfl ?_ | refine At_end1 rfl rfl ?_ | refine At_end1n rfl rfl ?_ | refine At_end2 rfl rfl rfl ?_ | refine At_end3 rfl rfl rfl rfl ?_ | refine At_end4 rfl rfl rfl rfl rfl ?_ | refine At_end5 rfl rfl rfl rfl rfl rfl ?_ | refine At_mix kp_ ?_))
      have hl4 : (xs.take i ++ List.replicate (xs.length + 1 - i) (⟨[], ⟨0, 0⟩⟩ : Nd)).length = xs.length + 1 := by simp; omega
      obtain ⟨g4, cap4, cur4, he4, hb4, hc4, hn4, hm4, hs4, ht4⟩ := hO4.row (fun e => by rw [e] at hl4; simp at hl4)
      rw [hl4] at he4 hn4 ht4
      subst he4
      replace hs4 : cur4.size = cap4 * 3 := hs4
      have hb4' : w.heap.size ≤ g4 := hb4
      have hgw : g < w.heap.size := (Array.getElem?_eq_some_iff.1 hc).1
      have hg24 : g2 < w.heap.size := (Array.getElem?_eq_some_iff.1 hc2).1
      have hmin1 : Nat.min 1 (xs.length + 1 - i) = 1 := Nat.min_eq_left (by omega)
      have hmin2 : Nat.min (xs.length - i) (xs.length + 1 - (i + 1)) = xs.length - i := Nat.min_eq_left (by omega)
      have hfd : ((xs.drop i).flatMap tNd.enc).length = (xs.length - i) * 3 := by rw [flat_len, hfl]; rfl
      have hp24 := hp2.ext hB4
      have hpd4 := hpd.ext hB4
      repeat' (first | (apply isL; first | apply L_nil | refine L_move rfl rfl ?_ | (apply isCall; first | refine L_lenL rfl rd_ rfl (fun hlen => ?_) | (refine L_copyRow (o := 0 + i * 3) (us := tNd.enc nn) rfl rfl hc4 (by rw [hmin1]; rfl) hp24 (by show 0 + i * 3 + 3 ≤ _; omega) (tNd.one _) rfl (fun w5 hc5 hg5 hz5 => ?_); have hpd5 := hpd4.kept (hg5.block _ (Nat.lt_of_lt_of_le hgw hB4.size) (by show some g ≠ some g4; intro e; cases e; omega)); have hlt5 : g4 < w5.heap.size := (Array.getElem?_eq_some_iff.1 hc5).1) | (refine L_copyRow (o := 0 + (i + 1) * 3) (us := (xs.drop i).flatMap tNd.enc) rfl rfl hc6 (by rw [hmin2]; exact hfd) hpd6 (by rw [laid_size _ _ _ (by show 0 + i * 3 + 3 ≤ _; omega), hfd]; omega) (flat_one tNd _) rfl (fun w7 hc7 hg7 hz7 => ?_)) ) | (apply isBin; first | refine L_do rfl rfl rfl (do_cmp rfl rfl rfl) ?_ | refine L_do rfl rfl rfl (do_add rfl rfl om_) ?_ | refine L_do rfl rfl rfl (do_sub rfl rfl om_) ?_ ) | refine L_assign rfl rfl ?_ | refine L_do rfl rfl rfl (do_notDec rfl) ?_ | refine L_do rfl rfl rfl (do_not rfl) ?_ | refine L_do rfl rfl rfl (do_sliceRowL (i := i) rfl rfl om_ om_) ?_ ) | (apply isLQ; first | refine LQ_nil (fun w1 hBq => ?_) | apply LQ_mix | refine LQ_move rfl rfl ?_ | (apply isBinQ; first | refine LQ_do rfl rfl rfl (fun _ _ => do_cmp rfl rfl rfl) ?_ | refine LQ_do rfl rfl rfl (fun _ _ => do_cmpStr rfl rfl rfl) ?_ | refine LQ_do rfl rfl rfl (fun _ _ => do_add rfl rfl om_) ?_ | refine LQ_do rfl rfl rfl (fun _ _ => do_sub rfl rfl om_) ?_ ) | (apply isLoadQ; first | refine RLQ_loadPt rfl (by rfl) pt_ (by rfl) ne_ rfl ?_ | refine RLQ_loadPt2 rfl (by rfl) pt_ (by rfl) ne_ rfl ?_ | refine RLQ_loadPt0 rfl pt_ (by rfl) ne_ rfl ?_ | refine RLQ_loadAgg rfl pt_ (by rfl) ne_ rfl ?_ | refine RLQ_loadSub rfl (by rfl) pt_ (by rfl) ne_ rfl ?_) | refine LQ_assign rfl rfl ?_ | refine LQ_do rfl rfl rfl (fun _ _ => do_notDec rfl) ?_ | refine LQ_do rfl rfl rfl (fun _ _ => do_not rfl) ?_ | refine LQ_do rfl rfl rfl (fun _ _ => do_sliceRowL (i := i + 1) rfl rfl om_ om_) ?_ | refine LQ_do rfl rfl rfl (fun _ _ => do_sliceRowL (i := i) rfl rfl om_ om_) ?_) | (apply isW; first | apply W_seq | apply W_region | (refine W_region_S (id := 11) (fun _ => True) (.look 0 (.look 1 (.look 2 (.look 3 (.look 4 (.look 5 (.look 6 (.look 7 (.act 8 .done))))))))) mixed (by kernel_rfl) (by kernel_rfl) (by rintro _ _ _ _ _ ⟨_, _, hh, _⟩; cases hh) trivial (fun w6 _ hB6 hz6 => ?_); have hc6 := (hB6.block _ hlt5).trans hc5; have hpd6 := hpd5.ext hB6) | refine W_region_Q mixed (by kernel_rfl) ?_ | refine W_cond_dec rfl (fun hg => ?_) (fun hg => ?_) | refine W_cond_true rfl ?_ | refine W_cond_false rfl ?_ | refine W_cond rfl (fun hg => ?_) (fun hg => ?_) | apply W_skip | apply W_ret | apply W_exit | apply W_block) | (apply isLM; first | apply LM_nil | refine LM_look rfl rfl ?_ | refine LM_act rfl ?_ | refine LM_both rfl rfl ?_ ?_ | refine LM_do rfl rfl rfl rfl (fun _ _ => do_nilCheck rfl) ?_) | (apply isAt; first | apply At_then | apply At_then_ret | apply At_then_exit | apply At_block_normal | apply At_block_ret | apply At_block_hit | refine At_block_miss rfl ?_ | refine At_end1 rfl rfl ?_ | refine At_end1n rfl rfl ?_ | refine At_end2 rfl rfl rfl ?_ | refine At_end3 rfl rfl rfl rfl ?_ | refine At_end4 rfl rfl rfl rfl rfl ?_ | refine At_end5 rfl rfl rfl rfl rfl rfl ?_ | refine At_mix kp_ ?_))
      have hys : (xs.take i ++ [nn] ++ xs.drop i).length = xs.length + 1 := by simp; omega
      have e1 : 0 + (i + 1) * 3 = 0 + i * 3 + 3 := by omega
      have e2 : (xs.length + 1) * 3 = 0 + i * 3 + 3 + (xs.length - i) * 3 := by omega
      rw [e1] at hc7
      have ht5 : cur4.toList.take (0 + i * 3) = (xs.take i).flatMap tNd.enc := by
        have h1 := congrArg (List.take (i * 3)) ht4
        rw [List.take_take, Nat.min_eq_left (show i * 3 ≤ (xs.length + 1) * tNd.size by show i * 3 ≤ (xs.length + 1) * 3; omega)] at h1
        rw [Nat.zero_add, h1]
        have h2 := flat_take tNd (xs.take i ++ List.replicate (xs.length + 1 - i) (⟨[], ⟨0, 0⟩⟩ : Nd)) i
        rw [show i * 3 = i * tNd.size from rfl, h2, List.take_left' (by simp; omega)]
      have hfin := laid1 cur4 (0 + i * 3) 3 ((xs.length - i) * 3) (tNd.enc nn) ((xs.drop i).flatMap tNd.enc) rfl hfd (by omega)
      rw [← e2, ht5] at hfin
      have hO7 := OwL.of_row (T := tNd) (base := base) (ys := xs.take i ++ [nn] ++ xs.drop i) (Nat.le_trans hbase hb4') hc7 (by rw [hys]; exact hn4) hm4 (by
        rw [laid_size _ _ _ (by rw [laid_size _ _ _ (by show 0 + i * 3 + 3 ≤ _; omega), hfd]; omega), laid_size _ _ _ (by show 0 + i * 3 + 3 ≤ _; omega)]; exact hs4) (by
        rw [hys]; refine hfin.trans ?_; simp [List.flatMap_append])
      rw [hys] at hO7
      exact ⟨hO7, kp_own (kp_below (kp_own (kp_below (World.grownBy.refl _ _) hB4) hg5 (fun b hb => by cases hb; exact hb4')) hB6) hg7 (fun b hb => by cases hb; exact hb4')⟩
    · -- room: in place
      have hfl : (xs.drop i).length = xs.length - i := by simp
      have hTT : True := trivial
      replace hs : cur.size = cap * 3 := hs
      have ht1 : cur.toList.take (0 + i * 3) = (xs.take i).flatMap tNd.enc := by
        rw [← flat_take, ← ht, List.take_take, Nat.zero_add, Nat.min_eq_left (Nat.mul_le_mul_right _ hi)]; rfl
      have hpd : Pt w ⟨g, 0 + i * 3, none⟩ ((xs.drop i).flatMap tNd.enc) := by
        have h1 := ((pt_of_block hc).take (xs.length * tNd.size)).drop (i * tNd.size)
        rw [ht, flat_drop, addr_add0] at h1; exact h1
      have hp2 : Pt w ⟨g2, 0, none⟩ (tNd.enc nn) := by
        have h1 := (pt_of_block hc2).take ([nn].length * tNd.size)
        rw [ht2] at h1; simpa using h1
      have hgw : g < w.heap.size := (Array.getElem?_eq_some_iff.1 hc).1
      have hg24 : g2 < w.heap.size := (Array.getElem?_eq_some_iff.1 hc2).1
      have hmin1 : Nat.min 1 (xs.length + 1 - i) = 1 := Nat.min_eq_left (by omega)
      have hmin2 : Nat.min (xs.length + 1 - i) (xs.length + 1 - (i + 1)) = xs.length - i := (Nat.min_eq_right (by omega)).trans (by omega)
      have hfd : ((xs.drop i).flatMap tNd.enc).length = (xs.length - i) * 3 := by rw [flat_len, hfl]; rfl
      have hov := fun o lb cb => run_ov w g2 cap2 g o lb cb 0 0 _ _ cur2 cur hgne hc2 hc (by omega)
      repeat' (first | (apply isL; first | apply L_nil | refine L_move rfl rfl ?_ | (apply isCall; first | refine L_lenL rfl rd_ rfl (fun hlen => ?_) | refine L_callX rfl rfl (hov _ _ _) ?_ | (refine L_copyRow (o := 0 + (i + 1) * 3) (us := (xs.drop i).flatMap tNd.enc) rfl rfl hc5 (by rw [hmin2]; exact hfd) hpd5 (by rw [hfd]; omega) (flat_one tNd _) rfl (fun w6 hc6 hg6 hz6 => ?_); have hp26 := hp25.kept (hg6.block _ (by show g2 < _; omega) (by show some g2 ≠ some g; intro e; cases e; exact hgne rfl))) | (refine L_copyRow (o := 0 + i * 3) (us := tNd.enc nn) rfl rfl hc6 (by rw [hmin1]; rfl) hp26 (by rw [laid_size _ _ _ (by rw [hfd]; omega)]; show 0 + i * 3 + 3 ≤ _; omega) (tNd.one _) rfl (fun w7 hc7 hg7 hz7 => ?_)) ) | (apply isBin; first | refine L_do rfl rfl rfl (do_cmp rfl rfl rfl) ?_ | refine L_do rfl rfl rfl (do_add rfl rfl om_) ?_ | refine L_do rfl rfl rfl (do_sub rfl rfl om_) ?_ ) | refine L_assign rfl rfl ?_ | refine L_do rfl rfl rfl (do_notDec rfl) ?_ | refine L_do rfl rfl rfl (do_not rfl) ?_ | refine L_do rfl rfl rfl (do_sliceRowH (i := xs.length + 1) rfl rfl om_) ?_ | (have := hc6; clear this; refine L_do rfl rfl rfl (do_sliceRowL (i := i) rfl rfl om_ om_) ?_) | refine L_do rfl rfl rfl (do_sliceRowL (i := i + 1) rfl rfl om_ om_) ?_ ) | (apply isLQ; first | refine LQ_nil (fun w1 hBq => ?_) | apply LQ_mix | refine LQ_move rfl rfl ?_ | (apply isBinQ; first | refine LQ_do rfl rfl rfl (fun _ _ => do_cmp rfl rfl rfl) ?_ | refine LQ_do rfl rfl rfl (fun _ _ => do_cmpStr rfl rfl rfl) ?_ | refine LQ_do rfl rfl rfl (fun _ _ => do_add rfl rfl om_) ?_ | refine LQ_do rfl rfl rfl (fun _ _ => do_sub rfl rfl om_) ?_ ) | (apply isLoadQ; first | refine RLQ_loadPt rfl (by rfl) pt_ (by rfl) ne_ rfl ?_ | refine RLQ_loadPt2 rfl (by rfl) pt_ (by rfl) ne_ rfl ?_ | refine RLQ_loadPt0 rfl pt_ (by rfl) ne_ rfl ?_ | refine RLQ_loadAgg rfl pt_ (by rfl) ne_ rfl ?_ | refine RLQ_loadSub rfl (by rfl) pt_ (by rfl) ne_ rfl ?_) | refine LQ_assign rfl rfl ?_ | refine LQ_do rfl rfl rfl (fun _ _ => do_notDec rfl) ?_ | refine LQ_do rfl rfl rfl (fun _ _ => do_not rfl) ?_ | refine LQ_do rfl rfl rfl (fun _ _ => do_sliceRowL (i := i + 1) rfl rfl om_ om_) ?_ | refine LQ_do rfl rfl rfl (fun _ _ => do_sliceRowL (i := i) rfl rfl om_ om_) ?_) | (apply isW; first | apply W_seq | apply W_region | (refine W_region_S (id := 15) (fun _ => True) (.look 0 (.look 1 (.look 2 (.look 3 (.look 4 (.look 5 (.look 6 (.look 7 (.act 8 .done))))))))) mixed (by kernel_rfl) (by kernel_rfl) (by rintro _ _ _ _ _ ⟨_, _, hh, _⟩; cases hh) trivial (fun w5 _ hB5 hz5 => ?_); have hc5 := (hB5.block _ hgw).trans hc; have hpd5 := hpd.ext hB5; have hp25 := hp2.ext hB5) | refine W_region_Q mixed (by kernel_rfl) ?_ | refine W_cond_dec rfl (fun hg => ?_) (fun hg => ?_) | refine W_cond_true rfl ?_ | refine W_cond_false rfl ?_ | refine W_cond rfl (fun hg => ?_) (fun hg => ?_) | apply W_skip | apply W_ret | apply W_exit | apply W_block) | (apply isLM; first | apply LM_nil | refine LM_look rfl rfl ?_ | refine LM_act rfl ?_ | refine LM_both rfl rfl ?_ ?_ | refine LM_do rfl rfl rfl rfl (fun _ _ => do_nilCheck rfl) ?_) | (apply isAt; first | apply At_then | apply At_then_ret | apply At_then_exit | apply At_block_normal | apply At_block_ret | apply At_block_hit | refine At_block_miss rfl ?_ | refine At_end1 rfl rfl ?_ | refine At_end1n rfl rfl ?_ | refine At_end2 rfl rfl rfl ?_ | refine At_end3 rfl rfl rfl rfl ?_ | refine At_end4 rfl rfl rfl rfl rfl ?_ | refine At_end5 rfl rfl rfl rfl rfl rfl ?_ | refine At_mix kp_ ?_))
      all_goals first | (exfalso; simp at hg; done) | skip
      have hys : (xs.take i ++ [nn] ++ xs.drop i).length = xs.length + 1 := by simp; omega
      have e1 : 0 + (i + 1) * 3 = 0 + i * 3 + 3 := by omega
      have e2 : (xs.length + 1) * 3 = 0 + i * 3 + 3 + (xs.length - i) * 3 := by omega
      rw [e1] at hc7
      have hfin := laid2 cur (0 + i * 3) 3 ((xs.length - i) * 3) (tNd.enc nn) ((xs.drop i).flatMap tNd.enc) rfl hfd (by omega)
      rw [← e2, ht1] at hfin
      have hO7 := OwL.of_row (T := tNd) (base := base) (ys := xs.take i ++ [nn] ++ xs.drop i) hb hc7 (by rw [hys]; omega) hm (by
        rw [laid_size _ _ _ (by rw [laid_size _ _ _ (by rw [hfd]; omega)]; show 0 + i * 3 + 3 ≤ _; omega), laid_size _ _ _ (by rw [hfd]; omega)]; exact hs) (by
        rw [hys]; refine hfin.trans ?_; simp [List.flatMap_append])
      rw [hys] at hO7
      exact ⟨hO7, kp_row (kp_row (kp_below (World.grownBy.refl _ _) hB5) hg6) hg7⟩
end Go.Proofs.YtjobbcdolbhadaaGreatDoor
