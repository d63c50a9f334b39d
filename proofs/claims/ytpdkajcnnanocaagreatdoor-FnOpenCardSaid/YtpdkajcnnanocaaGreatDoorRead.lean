/-
  Contracts: all bytes of a file of a disk, by the program's function and by the reference's.
-/
import Derived.Test.YtpdkajcnnanocaaGreatDoorSlices
import Derived.Test.YtpdkajcnnanocaaGreatDoorDisk
namespace Go.Proofs.YtpdkajcnnanocaaGreatDoor
open Go Go.RowKit
set_option linter.unusedVariables false

def findNm (bs : List Bl) (name : Int) : Int := idxOf (fun b => decide (b.name = name)) bs
def readOk (bs : List Bl) (name : Int) : Bool := diskOk bs && decide (0 ≤ findNm bs name)
def readOf (bs : List Bl) (name : Int) : List Int := if readOk bs name then (match bs[(findNm bs name).toNat]? with | some b => b.safe ++ b.fresh | none => []) else []

theorem idxOf_congr {α β : Type} (p : α → Bool) (q : β → Bool) : ∀ (xs : List α) (ys : List β), xs.length = ys.length → (∀ (i : Nat) x y, xs[i]? = some x → ys[i]? = some y → p x = q y) → xs.findIdx? p = ys.findIdx? q
  | [], [], _, _ => rfl
  | [], y :: r, h, _ => by simp at h
  | x :: r, [], h, _ => by simp at h
  | x :: r, y :: s, h, hp => by
    rw [List.findIdx?_cons, List.findIdx?_cons, hp 0 x y rfl rfl, idxOf_congr p q r s (by simpa using h) (fun i a b ha hb => hp (i + 1) a b ha hb)]
theorem idxOf_bd {α : Type} (p : α → Bool) (xs : List α) : -1 ≤ idxOf p xs ∧ idxOf p xs < xs.length := by
  unfold idxOf
  cases h : xs.findIdx? p with
  | none => simp; omega
  | some i =>
    obtain ⟨hi, _⟩ := List.findIdx?_eq_some_iff_getElem.1 h
    simp; omega
theorem RdBl.idx {w : World} {v : Value} {rows : List Row3} {bs : List Bl} (h : RdBl w v rows bs) (name : Int) : idxOf (fun r : Row3 => decide (r.name = name)) rows = findNm bs name := by
  unfold findNm idxOf
  rw [idxOf_congr _ (fun b : Bl => decide (b.name = name)) rows bs h.len (fun i r b hr hb => ?_)]
  obtain ⟨b', hb', hbr⟩ := h.at_ i r hr
  rw [hb] at hb'
  cases hb'
  rw [hbr.name]

theorem c_l31Find {v : Value} {rows : List Row3} {bs : List Bl} {name : Int} {w : World} (h : RdBl w v rows bs) : Cl Tryz.prog 32 [v, .int .i64 name] w (V w (.int .i64 (findNm bs name))) := by
  rw [← h.idx]
  have hrd := h.rd
  have hml := hrd.maxLen
  refine calls_start 20 Tryz.func32 rfl rfl rfl ?_
  repeat' (first | (apply isL; first | apply L_nil | refine L_move rfl rfl ?_ | (apply isCall; first | refine L_lenL rfl rd_ rfl (fun hlen => ?_) ) | (apply isBin; first | refine L_do rfl rfl rfl (do_cmp rfl rfl rfl) ?_ | refine L_do rfl rfl rfl (do_add rfl rfl om_) ?_ ) | (apply isLoad; first | refine L_loadPt rfl (by rfl) pt_ (by rfl) rfl ?_ | refine L_loadPt2 rfl (by rfl) pt_ (by rfl) rfl ?_ | refine L_loadPt0 rfl pt_ (by rfl) rfl ?_ | refine L_loadAgg rfl pt_ (by rfl) rfl ?_ | refine L_loadSub rfl (by rfl) pt_ (by rfl) rfl ?_) | refine L_assign rfl rfl ?_ | refine L_do rfl rfl rfl (do_fieldAddr rfl) ?_ | refine L_indexL rfl rfl rd_ (by rfl) om_ om_ rfl (fun a y hy hab hp => ?_) ) | (apply isW; first | apply W_seq | apply W_region | refine W_cond_dec rfl (fun hg => ?_) (fun hg => ?_) | refine W_cond_true rfl ?_ | refine W_cond_false rfl ?_ | refine W_cond rfl (fun hg => ?_) (fun hg => ?_) | apply W_skip | apply W_ret | apply W_exit | apply W_block) | (apply isAt; first | apply At_then | apply At_then_ret | apply At_then_exit | apply At_block_normal | apply At_block_ret | apply At_block_hit | refine At_block_miss rfl ?_ | refine At_end1 rfl rfl ?_ | refine At_end1n rfl rfl ?_ | refine At_end2 rfl rfl rfl ?_ | refine At_end3 rfl rfl rfl rfl ?_ | refine At_end4 rfl rfl rfl rfl rfl ?_ | refine At_mix kp_ ?_))
  refine W_loopF (fun m fr w' => ∃ k : Nat, m = rows.length - k ∧ k ≤ rows.length ∧ fr = [(0, v), (1, .int .i64 name), (5, .int .i64 k)] ∧ Below w.heap.size w w' ∧ ∀ j x, j < k → rows[j]? = some x → decide (x.name = name) = false) rows.length
    [(0, v), (1, .int .i64 name), (5, .int .i64 0)] sl_ ⟨0, rfl, Nat.zero_le _, rfl, bw_, fun j x hj => absurd hj (by omega)⟩ ?_
  rintro _ _ w' ⟨k, rfl, hk, rfl, hB, hf⟩
  repeat' (first | (apply isL; first | apply L_nil | refine L_move rfl rfl ?_ | (apply isCall; first | refine L_lenL rfl rd_ rfl (fun hlen => ?_) ) | (apply isBin; first | refine L_do rfl rfl rfl (do_cmp rfl rfl rfl) ?_ | refine L_do rfl rfl rfl (do_add rfl rfl om_) ?_ ) | (apply isLoad; first | refine L_loadPt rfl (by rfl) pt_ (by rfl) rfl ?_ | refine L_loadPt2 rfl (by rfl) pt_ (by rfl) rfl ?_ | refine L_loadPt0 rfl pt_ (by rfl) rfl ?_ | refine L_loadAgg rfl pt_ (by rfl) rfl ?_ | refine L_loadSub rfl (by rfl) pt_ (by rfl) rfl ?_) | refine L_assign rfl rfl ?_ | refine L_do rfl rfl rfl (do_fieldAddr rfl) ?_ | refine L_indexL rfl rfl rd_ (by rfl) om_ om_ rfl (fun a y hy hab hp => ?_) ) | (apply isW; first | apply W_seq | apply W_region | refine W_cond_dec rfl (fun hg => ?_) (fun hg => ?_) | refine W_cond_true rfl ?_ | refine W_cond_false rfl ?_ | refine W_cond rfl (fun hg => ?_) (fun hg => ?_) | apply W_skip | apply W_ret | apply W_exit | apply W_block) | (apply isAt; first | apply At_then | apply At_then_ret | apply At_then_exit | apply At_block_normal | apply At_block_ret | apply At_block_hit | refine At_block_miss rfl ?_ | refine At_end1 rfl rfl ?_ | refine At_end1n rfl rfl ?_ | refine At_end2 rfl rfl rfl ?_ | refine At_end3 rfl rfl rfl rfl ?_ | refine At_end4 rfl rfl rfl rfl rfl ?_ | refine At_mix kp_ ?_))
  · have hkk : idxOf (fun r : Row3 => decide (r.name = name)) rows = k := idxOf_at hf hy (decide_eq_true hg)
    exact ⟨by rw [hkk], bw_⟩
  · have hne : decide (y.name = name) = false := decide_eq_false hg
    exact At_round _ [(0, v), (1, .int .i64 name), (5, .int .i64 ((k + 1 : Nat) : Int))] sl_ (by omega) ⟨k + 1, rfl, by omega, rfl, bw_, fun j x hj hx => by
      by_cases e : j = k
      · subst e; rw [← show y = x from Option.some.inj (hy.symm.trans hx)]; exact hne
      · exact hf j x (by omega) hx⟩
  · exact ⟨by rw [idxOf_none (fun j x hj hx => hf j x (by omega) hx)], hB⟩

theorem c_l31All {r : Row3} {b : Bl} {w : World} (h : BlOf w r b) (h400 : b.safe.length + b.fresh.length ≤ 1048576) : Cl Tryz.prog 33 [.agg #[.int .i64 r.name, r.safe, r.fresh]] w (fun u w' => OwL tInt w' w.heap.size 3 u (b.safe ++ b.fresh) ∧ Below w.heap.size w w') := by
  refine calls_start 10 Tryz.func33 rfl rfl rfl ?_
  have hs := h.safe
  have hf := h.fresh
  repeat' (first | (apply isL; first | apply L_nil | refine L_move rfl rfl ?_ | (apply isCall; first | refine L_append (w0 := w1) rfl rfl bw_ ow_ (hs.ext bw_) rfl (by simp; omega) (by simp; omega) rfl (fun v4 w4 hO4 hB4 hg4 => ?_) | refine L_append (w0 := w1) rfl rfl bw_ ow_ (hf.ext bw_) rfl (by simp; omega) (by simp; omega) rfl (fun v4 w4 hO4 hB4 hg4 => ?_) ) | (apply isLoad; first | refine L_loadPt rfl (by rfl) pt_ (by rfl) rfl ?_ | refine L_loadPt2 rfl (by rfl) pt_ (by rfl) rfl ?_ | refine L_loadPt0 rfl pt_ (by rfl) rfl ?_ | refine L_loadAgg rfl pt_ (by rfl) rfl ?_ | refine L_loadSub rfl (by rfl) pt_ (by rfl) rfl ?_) | refine L_assign rfl rfl ?_ | refine L_do rfl rfl rfl (do_fieldAddr rfl) ?_ | refine L_buildSlice0 (w0 := w1) tInt bw_ rfl (fun w3 hO3 hB3 hC3 => ?_) | (apply isBox; refine L_boxV (w0 := w) bw_ rfl rfl (fun w1 hz1 hB hB1 hv => ?_); have hp := pt_of_block hv) ) | (apply isLQ; first | refine LQ_nil (fun w1 hBq => ?_) | apply LQ_mix | refine LQ_move rfl rfl ?_ | (apply isBinQ; first | refine LQ_do rfl rfl rfl (fun _ _ => do_cmp rfl rfl rfl) ?_ | refine LQ_do rfl rfl rfl (fun _ _ => do_cmpStr rfl rfl rfl) ?_ | refine LQ_do rfl rfl rfl (fun _ _ => do_add rfl rfl om_) ?_ | refine LQ_do rfl rfl rfl (fun _ _ => do_sub rfl rfl om_) ?_ ) | (apply isLoadQ; first | refine LQ_loadPt rfl (by rfl) pt_ (by rfl) rfl ?_ | refine LQ_loadPt2 rfl (by rfl) pt_ (by rfl) rfl ?_ | refine LQ_loadPt0 rfl pt_ (by rfl) rfl ?_ | refine LQ_loadAgg rfl pt_ (by rfl) rfl ?_ | refine LQ_loadSub rfl (by rfl) pt_ (by rfl) rfl ?_) | refine LQ_assign rfl rfl ?_ | refine LQ_do rfl rfl rfl (fun _ _ => do_notDec rfl) ?_ | refine LQ_do rfl rfl rfl (fun _ _ => do_not rfl) ?_ | refine LQ_do rfl rfl rfl (fun _ _ => do_fieldAddr rfl) ?_) | (apply isW; first | apply W_seq | apply W_region | refine W_region_M (id := 1) (.look 1 (.look 2 (.look 4 (.look 5 (.act 0 (.act 3 (.act 6 (.look 7 .done)))))))) mixed (by kernel_rfl) (by kernel_rfl) (by rintro _ _ _ _ _ ⟨_, _, hh, _⟩; cases hh) (fun w2 hBm hzm => ?_) | refine W_region_Q mixed (by kernel_rfl) ?_ | refine W_cond_dec rfl (fun hg => ?_) (fun hg => ?_) | refine W_cond_true rfl ?_ | refine W_cond_false rfl ?_ | refine W_cond rfl (fun hg => ?_) (fun hg => ?_) | apply W_skip | apply W_ret | apply W_exit | apply W_block) | (apply isLM; first | apply LM_nil | refine LM_look rfl rfl ?_ | refine LM_act rfl ?_ | refine LM_both rfl rfl ?_ ?_ | refine LM_do rfl rfl rfl rfl (fun _ _ => do_nilCheck rfl) ?_) | (apply isAt; first | apply At_then | apply At_then_ret | apply At_then_exit | apply At_block_normal | apply At_block_ret | apply At_block_hit | refine At_block_miss rfl ?_ | refine At_end1 rfl rfl ?_ | refine At_end1n rfl rfl ?_ | refine At_end2 rfl rfl rfl ?_ | refine At_end3 rfl rfl rfl rfl ?_ | refine At_end4 rfl rfl rfl rfl rfl ?_ | refine At_mix kp_ ?_))
  exact ⟨(by simpa using hO4.rebase hB.size), bw_⟩

theorem c_IndexFunc_Bl {v : Value} {rows : List Row3} {w : World} {f : FuncId} [Enters Tryz.prog f] {cap : List Value} (p : Row3 → Bool) (h : RdL tRow3 w v rows)
    (hpr : ∀ r, r ∈ rows → ∀ w', Below w.heap.size w w' → Cl Tryz.prog f ([.agg #[.int .i64 r.name, r.safe, r.fresh]] ++ cap) w' (V w' (.bool (p r)))) :
    Cl Tryz.prog 36 [v, .func (.func f) #[] cap.toArray] w (V w (.int .i64 (idxOf p rows))) := by
  refine calls_start 19 Tryz.func36 rfl rfl rfl ?_
  have hml := h.maxLen
  repeat' (first | (apply isL; first | apply L_nil | refine L_move rfl rfl ?_ | (apply isCall; first | refine L_lenL rfl rd_ rfl (fun hlen => ?_) ) | (apply isBin; first | refine L_do rfl rfl rfl (do_cmp rfl rfl rfl) ?_ | refine L_do rfl rfl rfl (do_add rfl rfl om_) ?_ ) | (apply isLoad; first | refine L_loadPt rfl (by rfl) pt_ (by rfl) rfl ?_ | refine L_loadPt2 rfl (by rfl) pt_ (by rfl) rfl ?_ | refine L_loadPt0 rfl pt_ (by rfl) rfl ?_ | refine L_loadAgg rfl pt_ (by rfl) rfl ?_ | refine L_loadSub rfl (by rfl) pt_ (by rfl) rfl ?_) | refine L_assign rfl rfl ?_ | refine L_indexL rfl rfl rd_ (by rfl) om_ om_ rfl (fun a y hy hab hp => ?_) ) | (apply isW; first | apply W_seq | apply W_region | refine W_cond_dec rfl (fun hg => ?_) (fun hg => ?_) | refine W_cond_true rfl ?_ | refine W_cond_false rfl ?_ | refine W_cond rfl (fun hg => ?_) (fun hg => ?_) | apply W_skip | apply W_ret | apply W_exit | apply W_block) | (apply isAt; first | apply At_then | apply At_then_ret | apply At_then_exit | apply At_block_normal | apply At_block_ret | apply At_block_hit | refine At_block_miss rfl ?_ | refine At_end1 rfl rfl ?_ | refine At_end1n rfl rfl ?_ | refine At_end2 rfl rfl rfl ?_ | refine At_end3 rfl rfl rfl rfl ?_ | refine At_end4 rfl rfl rfl rfl rfl ?_ | refine At_mix kp_ ?_))
  refine W_loopF (fun m fr w' => ∃ k : Nat, m = rows.length - k ∧ k ≤ rows.length ∧ fr = [(0, v), (1, .func (.func f) #[] cap.toArray), (7, .int .i64 rows.length), (8, .int .i64 k)] ∧ Below w.heap.size w w' ∧ ∀ j x, j < k → rows[j]? = some x → p x = false) rows.length
    [(0, v), (1, .func (.func f) #[] cap.toArray), (7, .int .i64 rows.length), (8, .int .i64 0)] sl_ ⟨0, rfl, Nat.zero_le _, rfl, bw_, fun j x hj => absurd hj (by omega)⟩ ?_
  rintro _ _ w' ⟨k, rfl, hk, rfl, hB, hf⟩
  repeat' (first | (apply isL; first | apply L_nil | refine L_move rfl rfl ?_ | (apply isCall; first | refine L_lenL rfl rd_ rfl (fun hlen => ?_) | refine L_callFn rfl rfl rfl (hpr _ (List.mem_of_getElem? hy) _ bw_) (fun w2 hB2 => ?_) ) | (apply isBin; first | refine L_do rfl rfl rfl (do_cmp rfl rfl rfl) ?_ | refine L_do rfl rfl rfl (do_add rfl rfl om_) ?_ ) | (apply isLoad; first | refine L_loadPt rfl (by rfl) pt_ (by rfl) rfl ?_ | refine L_loadPt2 rfl (by rfl) pt_ (by rfl) rfl ?_ | refine L_loadPt0 rfl pt_ (by rfl) rfl ?_ | refine L_loadAgg rfl pt_ (by rfl) rfl ?_ | refine L_loadSub rfl (by rfl) pt_ (by rfl) rfl ?_) | refine L_assign rfl rfl ?_ | refine L_indexL rfl rfl rd_ (by rfl) om_ om_ rfl (fun a y hy hab hp => ?_) ) | (apply isW; first | apply W_seq | apply W_region | refine W_cond_dec rfl (fun hg => ?_) (fun hg => ?_) | refine W_cond_true rfl ?_ | refine W_cond_false rfl ?_ | refine W_cond rfl (fun hg => ?_) (fun hg => ?_) | apply W_skip | apply W_ret | apply W_exit | apply W_block) | (apply isAt; first | apply At_then | apply At_then_ret | apply At_then_exit | apply At_block_normal | apply At_block_ret | apply At_block_hit | refine At_block_miss rfl ?_ | refine At_end1 rfl rfl ?_ | refine At_end1n rfl rfl ?_ | refine At_end2 rfl rfl rfl ?_ | refine At_end3 rfl rfl rfl rfl ?_ | refine At_end4 rfl rfl rfl rfl rfl ?_ | refine At_mix kp_ ?_))
  · have hkk : idxOf p rows = k := idxOf_at hf hy hg
    exact ⟨by rw [hkk], bw_⟩
  · have hpy : p y = false := by assumption
    exact At_round _ [(0, v), (1, .func (.func f) #[] cap.toArray), (7, .int .i64 rows.length), (8, .int .i64 ((k + 1 : Nat) : Int))] sl_ (by omega) ⟨k + 1, rfl, by omega, rfl, bw_, fun j x hj hx => by
      by_cases e : j = k
      · subst e; rw [show y = x from Option.some.inj (hy.symm.trans hx)] at hpy; exact hpy
      · exact hf j x (by omega) hx⟩
  · exact ⟨by rw [idxOf_none (fun j x hj hx => hf j x (by omega) hx)], hB⟩

theorem c_file1 {r : Row3} {name : Int} {a : Addr} {w : World} (ha : Pt w a [.int .i64 name]) : Cl Tryz.prog 37 ([.agg #[.int .i64 r.name, r.safe, r.fresh]] ++ [.pointer (some a)]) w (V w (.bool (decide (r.name = name)))) := by
  refine calls_start 8 Tryz.func37 rfl rfl rfl ?_
  repeat' (first | (apply isL; first | apply L_nil | refine L_move rfl rfl ?_ | (apply isBin; first | refine L_do rfl rfl rfl (do_cmp rfl rfl rfl) ?_ ) | (apply isLoad; first | refine L_loadPt rfl (by rfl) pt_ (by rfl) rfl ?_ | refine L_loadPt2 rfl (by rfl) pt_ (by rfl) rfl ?_ | refine L_loadPt0 rfl pt_ (by rfl) rfl ?_ | refine L_loadAgg rfl pt_ (by rfl) rfl ?_ | refine L_loadSub rfl (by rfl) pt_ (by rfl) rfl ?_) | refine L_assign rfl rfl ?_ | refine L_do rfl rfl rfl (do_fieldAddr rfl) ?_ | (apply isBox; refine L_boxV (w0 := w) bw_ rfl rfl (fun w1 hz1 hB hB1 hv => ?_); have hp := pt_of_block hv) ) | (apply isW; first | apply W_seq | apply W_region | refine W_cond_dec rfl (fun hg => ?_) (fun hg => ?_) | refine W_cond_true rfl ?_ | refine W_cond_false rfl ?_ | refine W_cond rfl (fun hg => ?_) (fun hg => ?_) | apply W_skip | apply W_ret | apply W_exit | apply W_block) | (apply isAt; first | apply At_then | apply At_then_ret | apply At_then_exit | apply At_block_normal | apply At_block_ret | apply At_block_hit | refine At_block_miss rfl ?_ | refine At_end1 rfl rfl ?_ | refine At_end1n rfl rfl ?_ | refine At_end2 rfl rfl rfl ?_ | refine At_end3 rfl rfl rfl rfl ?_ | refine At_end4 rfl rfl rfl rfl rfl ?_ | refine At_mix kp_ ?_))
  exact ⟨rfl, bw_⟩

theorem c_file {v : Value} {rows : List Row3} {bs : List Bl} {name : Int} {w : World} (h : RdBl w v rows bs) : Cl Tryz.prog 17 [v, .int .i64 name] w (V w (.int .i64 (findNm bs name))) := by
  rw [← h.idx]
  have hrd := h.rd
  refine calls_start 8 Tryz.func17 rfl rfl rfl ?_
  repeat' (first | (apply isL; first | apply L_nil | refine L_move rfl rfl ?_ | (apply isCall; first | refine L_callV rfl rfl (c_IndexFunc_Bl (fun r : Row3 => decide (r.name = name)) (hrd.ext bw_) (fun r _ w' hB' => c_file1 (hp.ext hB'))) (fun w2 hB2 => ?_) ) | refine L_assign rfl rfl ?_ | refine L_do rfl rfl rfl (do_makeFunc rfl) ?_ | (apply isBox; refine L_boxV (w0 := w) bw_ rfl rfl (fun w1 hz1 hB hB1 hv => ?_); have hp := pt_of_block hv) ) | (apply isW; first | apply W_seq | apply W_region | refine W_cond_dec rfl (fun hg => ?_) (fun hg => ?_) | refine W_cond_true rfl ?_ | refine W_cond_false rfl ?_ | refine W_cond rfl (fun hg => ?_) (fun hg => ?_) | apply W_skip | apply W_ret | apply W_exit | apply W_block) | (apply isAt; first | apply At_then | apply At_then_ret | apply At_then_exit | apply At_block_normal | apply At_block_ret | apply At_block_hit | refine At_block_miss rfl ?_ | refine At_end1 rfl rfl ?_ | refine At_end1n rfl rfl ?_ | refine At_end2 rfl rfl rfl ?_ | refine At_end3 rfl rfl rfl rfl ?_ | refine At_end4 rfl rfl rfl rfl rfl ?_ | refine At_mix kp_ ?_))
  exact ⟨rfl, bw_⟩

theorem nb {b : Bool} (h : (!b) = false) : b = true := by simpa using h
theorem diskOk_400 {bs : List Bl} (h : diskOk bs = true) {b : Bl} {i : Nat} (hb : bs[i]? = some b) : b.safe.length + b.fresh.length ≤ 400 := by
  have := (diskFrom_at bs 0 h b (List.mem_of_getElem? hb)).2.2
  simp only [blOk, Bool.and_eq_true, decide_eq_true_eq] at this
  exact this.2

theorem c_specDiskRead {v : Value} {rows : List Row3} {bs : List Bl} {name : Int} {w : World} (h : RdBl w v rows bs) (hsm : Small bs) :
    Cl Tryz.prog 14 [v, .int .i64 name] w (fun u w' => ∃ x, u = .tuple #[x, .bool (readOk bs name)] ∧ OwL tInt w' w.heap.size 3 x (readOf bs name) ∧ Below w.heap.size w w') := by
  refine calls_start 23 Tryz.func14 rfl rfl rfl ?_
  have hrd := h.rd
  have hln := h.len
  have hbd := idxOf_bd (fun b : Bl => decide (b.name = name)) bs
  have hfn : findNm bs name = idxOf (fun b : Bl => decide (b.name = name)) bs := rfl
  rw [← hfn] at hbd
  repeat' (first | (apply isL; first | apply L_nil | refine L_move rfl rfl ?_ | (apply isGuarded; first | refine L_guard_dec rfl rfl (fun hg => ?_) (fun hg => ?_) | refine L_guard_yes rfl rfl ?_ | refine L_guard_no rfl rfl rfl rfl ?_ | refine L_guard_undef rfl rfl rfl ?_ | refine L_guard_split rfl rfl (fun hg => ?_) (fun hg => ?_)) | (apply isCall; first | refine L_callV rfl rfl (c_specDiskValid h hsm) (fun w2 hB2 => ?_) | refine L_callV rfl rfl (c_l31Find (name := name) (h.ext bw_)) (fun w3 hB3 => ?_) | (have hdk : diskOk bs = true := (nb (by assumption)); have h4 := diskOk_400 hdk hb; refine L_call rfl rfl (c_l31All (hbr.ext bw_) om_) (fun x5 w5 hR => ?_); obtain ⟨hO5, hB5⟩ := hR) ) | (apply isBin; first | refine L_do rfl rfl rfl (do_cmp rfl rfl rfl) ?_ ) | (apply isLoad; first | refine L_loadPt rfl (by rfl) pt_ (by rfl) rfl ?_ | refine L_loadPt2 rfl (by rfl) pt_ (by rfl) rfl ?_ | refine L_loadPt0 rfl pt_ (by rfl) rfl ?_ | refine L_loadAgg rfl pt_ (by rfl) rfl ?_ | refine L_loadSub rfl (by rfl) pt_ (by rfl) rfl ?_) | refine L_assign rfl rfl ?_ | refine L_do rfl rfl rfl (do_pick_true rfl rfl) ?_ | refine L_do rfl rfl rfl (do_pick_false rfl rfl) ?_ | refine L_do rfl rfl rfl (do_notDec rfl) ?_ | refine L_do rfl rfl rfl (do_not rfl) ?_ | refine L_buildSlice0 (w0 := w) tInt bw_ rfl (fun w4 hO4 hB4 hC4 => ?_) | (refine L_indexL rfl rfl (hrd.ext bw_) rfl om_ om_ rfl (fun a y hy hab hp => ?_); obtain ⟨b, hb, hbr⟩ := h.at_ _ _ hy) | refine L_indexL rfl rfl rd_ (by rfl) om_ om_ rfl (fun a y hy hab hp => ?_) ) | (apply isW; first | apply W_seq | apply W_region | refine W_cond_dec rfl (fun hg => ?_) (fun hg => ?_) | refine W_cond_true rfl ?_ | refine W_cond_false rfl ?_ | refine W_cond rfl (fun hg => ?_) (fun hg => ?_) | apply W_skip | apply W_ret | apply W_exit | apply W_block) | (apply isAt; first | apply At_then | apply At_then_ret | apply At_then_exit | apply At_block_normal | apply At_block_ret | apply At_block_hit | refine At_block_miss rfl ?_ | refine At_end1 rfl rfl ?_ | refine At_end1n rfl rfl ?_ | refine At_end2 rfl rfl rfl ?_ | refine At_end3 rfl rfl rfl rfl ?_ | refine At_end4 rfl rfl rfl rfl rfl ?_ | refine At_mix kp_ ?_))
  · have e : readOk bs name = false := by unfold readOk; have : diskOk bs = false := by simpa using hg
                                          rw [this]; rfl
    exact ⟨_, by rw [e], by rw [readOf, e]; exact hO4, bw_⟩
  · have e : readOk bs name = false := by unfold readOk; rw [decide_eq_false (by omega), Bool.and_false]
    exact ⟨_, by rw [e], by rw [readOf, e]; exact hO4, bw_⟩
  · have e : readOk bs name = true := by unfold readOk; rw [hdk, decide_eq_true (by omega)]; rfl
    have hz : w.heap.size ≤ w3.heap.size := (show Below w.heap.size w w3 from bw_).size
    exact ⟨_, by rw [e], by rw [readOf, e, if_pos rfl, hb]; exact hO5.rebase hz, bw_⟩

theorem one_cell {α : Type} {T : Ty α} {w : World} {v : Value} {xs : List α} (h : RdL T w v xs) : v.cells = #[v] ∧ v.oneCell' = true := by
  obtain ⟨a, c, e, _⟩ := h.slice
  rw [e]; exact ⟨rfl, rfl⟩

theorem c_implDiskRead {v : Value} {rows : List Row3} {bs : List Bl} {name : Int} {w : World} (h : RdBl w v rows bs) (hsm : Small bs) :
    Cl Tryz.prog 8 [v, .int .i64 name] w (fun u w' => ∃ x, u = .tuple #[x, .bool (readOk bs name)] ∧ OwL tInt w' w.heap.size 3 x (readOf bs name) ∧ Below w.heap.size w w') := by
  refine calls_start 29 Tryz.func8 rfl rfl rfl ?_
  have hrd := h.rd
  have hln := h.len
  have hbd := idxOf_bd (fun b : Bl => decide (b.name = name)) bs
  have hfn : findNm bs name = idxOf (fun b : Bl => decide (b.name = name)) bs := rfl
  rw [← hfn] at hbd
  have hno : ∀ w' : World, OwL tInt w' w.heap.size 3 (.slice none 0 0) [] := fun w' => ⟨by simp, .inl ⟨rfl, rfl⟩⟩
  repeat' (first | (apply isL; first | apply L_nil | refine L_move rfl rfl ?_ | (apply isGuarded; first | refine L_guard_dec rfl rfl (fun hg => ?_) (fun hg => ?_) | refine L_guard_yes rfl rfl ?_ | refine L_guard_no rfl rfl rfl rfl ?_ | refine L_guard_undef rfl rfl rfl ?_ | refine L_guard_split rfl rfl (fun hg => ?_) (fun hg => ?_)) | (apply isCall; first | refine L_callV rfl rfl (c_implDiskValid (h.ext bw_) hsm) (fun w2 hB2 => ?_) | refine L_callV rfl rfl (c_file (name := name) h) (fun w3 hB3 => ?_) ) | (apply isBin; first | refine L_do rfl rfl rfl (do_cmp rfl rfl rfl) ?_ ) | (apply isLoad; first | refine L_loadPt rfl (by rfl) pt_ (by rfl) rfl ?_ | refine L_loadPt2 rfl (by rfl) pt_ (by rfl) rfl ?_ | refine L_loadPt0 rfl pt_ (by rfl) rfl ?_ | refine L_loadAgg rfl pt_ (by rfl) rfl ?_ | refine L_loadSub rfl (by rfl) pt_ (by rfl) rfl ?_) | refine L_assign rfl rfl ?_ | refine L_do rfl rfl rfl (do_pick_true rfl rfl) ?_ | refine L_do rfl rfl rfl (do_pick_false rfl rfl) ?_ | refine L_do rfl rfl rfl (do_notDec rfl) ?_ | refine L_do rfl rfl rfl (do_not rfl) ?_ | refine L_do rfl rfl rfl (do_fieldAddr rfl) ?_ | refine L_indexL rfl rfl rd_ (by rfl) om_ om_ rfl (fun a y hy hab hp => ?_) ) | (apply isLQ; first | refine LQ_nil (fun w1 hBq => ?_) | apply LQ_mix | refine LQ_move rfl rfl ?_ | (apply isBinQ; first | refine LQ_do rfl rfl rfl (fun _ _ => do_cmp rfl rfl rfl) ?_ | refine LQ_do rfl rfl rfl (fun _ _ => do_cmpStr rfl rfl rfl) ?_ | refine LQ_do rfl rfl rfl (fun _ _ => do_add rfl rfl om_) ?_ | refine LQ_do rfl rfl rfl (fun _ _ => do_sub rfl rfl om_) ?_ ) | (apply isLoadQ; first | refine LQ_loadPt rfl (by rfl) pt_ (by rfl) rfl ?_ | refine LQ_loadPt2 rfl (by rfl) pt_ (by rfl) rfl ?_ | refine LQ_loadPt0 rfl pt_ (by rfl) rfl ?_ | refine LQ_loadAgg rfl pt_ (by rfl) rfl ?_ | refine LQ_loadSub rfl (by rfl) pt_ (by rfl) rfl ?_) | refine LQ_assign rfl rfl ?_ | refine LQ_do rfl rfl rfl (fun _ _ => do_notDec rfl) ?_ | refine LQ_do rfl rfl rfl (fun _ _ => do_not rfl) ?_ | refine LQ_do rfl rfl rfl (fun _ _ => do_fieldAddr rfl) ?_ | refine LQ_indexL rfl rfl rd_ (by rfl) om_ om_ rfl (fun a y hy hab hp => ?_)) | (apply isW; first | apply W_seq | apply W_region | refine W_hold (id := 4) ?_ | refine W_region_Q mixed (by kernel_rfl) ?_ | refine W_cond_dec rfl (fun hg => ?_) (fun hg => ?_) | refine W_cond_true rfl ?_ | refine W_cond_false rfl ?_ | refine W_cond rfl (fun hg => ?_) (fun hg => ?_) | apply W_skip | apply W_ret | apply W_exit | apply W_block) | (apply isLM) | (apply isAt; first | apply At_then | apply At_then_ret | apply At_then_exit | apply At_block_normal | apply At_block_ret | apply At_block_hit | refine At_block_miss rfl ?_ | refine At_end1 rfl rfl ?_ | refine At_end1n rfl rfl ?_ | refine At_end2 rfl rfl rfl ?_ | refine At_end3 rfl rfl rfl rfl ?_ | refine At_end4 rfl rfl rfl rfl rfl ?_ | refine At_mix kp_ ?_))
  · have e : readOk bs name = false := by unfold readOk; have : diskOk bs = false := by simpa using hg
                                          rw [this]; rfl
    exact ⟨_, by rw [e], by rw [readOf, e]; exact hno _, bw_⟩
  · have e : readOk bs name = false := by unfold readOk; rw [decide_eq_false (by omega), Bool.and_false]
    exact ⟨_, by rw [e], by rw [readOf, e]; exact hno _, bw_⟩
  · have hdk : diskOk bs = true := nb (by assumption)
    have e : readOk bs name = true := by unfold readOk; rw [hdk, decide_eq_true (by omega)]; rfl
    have hlt : (findNm bs name).toNat < rows.length := by omega
    obtain ⟨r, hr⟩ : ∃ r, rows[(findNm bs name).toNat]? = some r := ⟨_, List.getElem?_eq_getElem hlt⟩
    obtain ⟨b, hb, hbr⟩ := h.at_ _ _ hr
    have h4 := diskOk_400 hdk hb
    have hs := hbr.safe
    have hf := hbr.fresh
    have hc1 := one_cell hs
    have hc2 := one_cell hf
    have hBw : Below w.heap.size w w2 := bw_
    clear hB2 hB3
    refine ⟨?_⟩
    repeat' (first | (apply isL; first | apply L_nil | refine L_move rfl rfl ?_ | (apply isGuarded; first | refine L_guard_dec rfl rfl (fun hg => ?_) (fun hg => ?_) | refine L_guard_yes rfl rfl ?_ | refine L_guard_no rfl rfl rfl rfl ?_ | refine L_guard_undef rfl rfl rfl ?_ | refine L_guard_split rfl rfl (fun hg => ?_) (fun hg => ?_)) | (apply isCall; first | (refine L_call rfl rfl (c_Concat_int (xss := [b.safe, b.fresh]) (two_sls hO8.rd (hs.ext bw_) (hf.ext bw_)) (by simp; omega)) (fun cv w9 hR => ?_); obtain ⟨hO9, hB9⟩ := hR) ) | (apply isBin; first | refine L_do rfl rfl rfl (do_cmp rfl rfl rfl) ?_ ) | (apply isLoad; first | refine L_loadPt rfl (by rfl) pt_ (by rfl) rfl ?_ | refine L_loadPt2 rfl (by rfl) pt_ (by rfl) rfl ?_ | refine L_loadPt0 rfl pt_ (by rfl) rfl ?_ | refine L_loadAgg rfl pt_ (by rfl) rfl ?_ | refine L_loadSub rfl (by rfl) pt_ (by rfl) rfl ?_) | refine L_assign rfl rfl ?_ | refine L_do rfl rfl rfl (do_pick_true rfl rfl) ?_ | refine L_do rfl rfl rfl (do_pick_false rfl rfl) ?_ | refine L_do rfl rfl rfl (do_notDec rfl) ?_ | refine L_do rfl rfl rfl (do_not rfl) ?_ | refine L_do rfl rfl rfl (do_fieldAddr rfl) ?_ | refine L_buildSliceL tSlD [⟨r.safe, r.s1⟩, ⟨r.fresh, r.s2⟩] rfl rfl rfl rfl rfl rfl (by simp [hc1.1, hc2.1, tSlD]) rfl (fun w8 hO8 hB8 => ?_) | refine L_indexL rfl rfl rd_ (by rfl) om_ om_ rfl (fun a y hy hab hp => ?_) ) | (apply isLQ; first | refine LQ_nil (fun w1 hBq => ?_) | apply LQ_mix | refine LQ_move rfl rfl ?_ | (apply isBinQ; first | refine LQ_do rfl rfl rfl (fun _ _ => do_cmp rfl rfl rfl) ?_ | refine LQ_do rfl rfl rfl (fun _ _ => do_cmpStr rfl rfl rfl) ?_ | refine LQ_do rfl rfl rfl (fun _ _ => do_add rfl rfl om_) ?_ | refine LQ_do rfl rfl rfl (fun _ _ => do_sub rfl rfl om_) ?_ ) | (apply isLoadQ; first | refine LQ_loadPt rfl (by rfl) pt_ (by rfl) rfl ?_ | refine LQ_loadPt2 rfl (by rfl) pt_ (by rfl) rfl ?_ | refine LQ_loadPt0 rfl pt_ (by rfl) rfl ?_ | refine LQ_loadAgg rfl pt_ (by rfl) rfl ?_ | refine LQ_loadSub rfl (by rfl) pt_ (by rfl) rfl ?_) | refine LQ_assign rfl rfl ?_ | refine LQ_do rfl rfl rfl (fun _ _ => do_notDec rfl) ?_ | refine LQ_do rfl rfl rfl (fun _ _ => do_not rfl) ?_ | refine LQ_do rfl rfl rfl (fun _ _ => do_fieldAddr rfl) ?_ | (refine LQ_indexL rfl rfl (hrd.ext hBw) rfl om_ om_ rfl (fun a y hy hab hp => ?_); obtain rfl := Option.some.inj (hr.symm.trans hy)) | refine LQ_indexL rfl rfl rd_ (by rfl) om_ om_ rfl (fun a y hy hab hp => ?_)) | (apply isW; first | apply W_seq | apply W_region | refine W_region_M (id := 4) (.look 0 (.look 1 (.look 2 (.look 3 (.look 4 (.look 5 (.look 6 (.look 7 (.look 8 (.look 9 (.act 10 (.act 11 (.look 12 (.look 13 .done)))))))))))))) mixed (by kernel_rfl) (by kernel_rfl) (by rintro _ _ _ _ _ ⟨_, _, hh, _⟩; cases hh) (fun w4 hBm hzm => ?_) | refine W_region_Q mixed (by kernel_rfl) ?_ | refine W_cond_dec rfl (fun hg => ?_) (fun hg => ?_) | refine W_cond_true rfl ?_ | refine W_cond_false rfl ?_ | refine W_cond rfl (fun hg => ?_) (fun hg => ?_) | apply W_skip | apply W_ret | apply W_exit | apply W_block) | (apply isLM; first | apply LM_nil | refine LM_look rfl rfl ?_ | refine LM_act rfl ?_ | refine LM_both rfl rfl ?_ ?_ | refine LM_do rfl rfl rfl rfl (fun _ _ => do_nilCheck rfl) ?_) | (apply isAt; first | apply At_then | apply At_then_ret | apply At_then_exit | apply At_block_normal | apply At_block_ret | apply At_block_hit | refine At_block_miss rfl ?_ | refine At_end1 rfl rfl ?_ | refine At_end1n rfl rfl ?_ | refine At_end2 rfl rfl rfl ?_ | refine At_end3 rfl rfl rfl rfl ?_ | refine At_end4 rfl rfl rfl rfl rfl ?_ | refine At_mix kp_ ?_))
    have hz : w.heap.size ≤ w8.heap.size := (show Below w.heap.size w w8 from bw_).size
    refine ⟨_, by rw [e], ?_, bw_⟩
    rw [readOf, e, if_pos rfl, hb]
    simpa using hO9.rebase hz
end Go.Proofs.YtpdkajcnnanocaaGreatDoor
