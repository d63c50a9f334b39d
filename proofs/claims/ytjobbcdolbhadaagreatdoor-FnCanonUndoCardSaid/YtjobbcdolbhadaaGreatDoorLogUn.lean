/-
  Contract: impl.LogUndo of a valid log (a range over slices.Backward).
-/
import Derived.Test.YtjobbcdolbhadaaGreatDoorRangeC
import Derived.Test.YtjobbcdolbhadaaGreatDoorCmList
import Derived.Test.YtjobbcdolbhadaaGreatDoorUndo
import Derived.Test.YtjobbcdolbhadaaGreatDoorFlApp
import Derived.Test.YtjobbcdolbhadaaGreatDoorClash
namespace Go.Proofs.YtjobbcdolbhadaaGreatDoor
open Go Go.RowKit
set_option linter.unusedVariables false
set_option linter.unusedSimpArgs false

/-- What a round is handed: an index, a valid command. -/
abbrev Rn := Int × { c : Cm // cmOk c = true }
abbrev encR (x : Rn) : Array Value := #[.int .i64 x.1, vCm x.2.1]
/-- What a round keeps for the iterator. -/
def KpB (n₀ b : Nat) (A B : World) : Prop := Below n₀ A B ∧ B.heap[b]? = A.heap[b]?

theorem c_Backward {v : Value} {xs : List Cm} {w : World} (h : RdL tCm w v xs) : Cl Tryz.prog 42 [v] w (fun u w' => u = .func (.func 77) #[] #[.pointer (some ⟨w.heap.size, 0, none⟩)] ∧ w'.heap[w.heap.size]? = some (.cells #[v] 24) ∧ w'.heap.size = w.heap.size + 1 ∧ Below w.heap.size w w') := by
  refine calls_start 4 Tryz.func42 rfl rfl rfl ?_
  repeat' (first | (apply isL; first | apply L_nil | refine L_move rfl rfl ?_ | refine L_assign rfl rfl ?_ | (apply isBox; refine L_boxV (w0 := w) (Below.refl _ _) rfl rfl (fun wb hzb hBb' hBb hvb => ?_)) | refine L_do rfl rfl rfl (do_makeFunc rfl) ?_ | (apply isBox; refine L_boxV (w0 := w) bw_ rfl rfl (fun w1 hz1 hB hB1 hv => ?_); have hp := pt_of_block hv) ) | (apply isW; first | apply W_seq | apply W_region | refine W_cond_dec rfl (fun hg => ?_) (fun hg => ?_) | refine W_cond_true rfl ?_ | refine W_cond_false rfl ?_ | refine W_cond rfl (fun hg => ?_) (fun hg => ?_) | apply W_skip | apply W_ret | apply W_exit | apply W_block) | (apply isAt; first | apply At_then | apply At_then_ret | apply At_then_exit | apply At_block_normal | apply At_block_ret | apply At_block_hit | refine At_block_miss rfl ?_ | refine At_end1 rfl rfl ?_ | refine At_end1n rfl rfl ?_ | refine At_end2 rfl rfl rfl ?_ | refine At_end3 rfl rfl rfl rfl ?_ | refine At_end4 rfl rfl rfl rfl rfl ?_ | refine At_end5 rfl rfl rfl rfl rfl rfl ?_ | refine At_mix kp_ ?_))
  exact ⟨rfl, by rw [h.cells1] at hvb; exact hvb, hzb, hBb⟩
theorem bw_at {xs : List Cm} {pre : List Rn} {c : Cm} (h : pre.map (fun x => x.2.1) = xs.reverse.take pre.length) (hk : pre.length < xs.length) (hc : xs[xs.length - 1 - pre.length]? = some c) (hok : cmOk c = true) (i : Int) :
    (pre ++ [(i, ⟨c, hok⟩)] : List Rn).map (fun x => x.2.1) = xs.reverse.take (pre ++ [(i, ⟨c, hok⟩)] : List Rn).length := by
  have h1 : xs.reverse[pre.length]? = some c := by rw [List.getElem?_reverse hk]; exact hc
  simp only [List.map_append, List.length_append, List.length_singleton, List.take_add_one, h1, h]
  rfl
theorem c_Backward1 {v : Value} {xs : List Cm} {w0 W : World} {b1 l k : Nat} {J Jx : List Rn → World → Prop} (h : RdL tCm w0 v xs) (ha : AllOk xs) (hl : xs.length ≤ 1048576) (hW : Below w0.heap.size w0 W) (hb1 : W.heap[b1]? = some (.cells #[v] 24))
    (hY : ∀ (pre : List Rn) (x : Rn) (W1 : World), J pre W1 → pre.length < xs.length → YieldAt Fence.wide (k - 1) Tryz.prog l (encR x) W1 fun e W' => (e = .returned (.bool true) ∧ J (pre ++ [x]) W' ∧ KpB w0.heap.size b1 W1 W') ∨ (e = .returned (.bool false) ∧ Jx (pre ++ [x]) W')) (h0 : J [] W) :
    Cl Tryz.prog 77 [.func (.yield l) #[] #[], .pointer (some ⟨b1, 0, none⟩)] W (fun u W' => (∃ ys : List Rn, ys.map (fun x => x.2.1) = xs.reverse ∧ J ys W') ∨ (∃ pre : List Rn, Jx pre W')) := by
  refine calls_start 19 Tryz.func77 rfl rfl rfl ?_
  have hpt := pt_of_block hb1
  have hWx := h.ext hW
  have hml := h.maxLen
  repeat' (first | (apply isL; first | apply L_nil | refine L_move rfl rfl ?_ | (apply isCall; first | refine L_lenL rfl rd_ rfl (fun hlen => ?_) ) | (apply isBin; first | refine L_do rfl rfl rfl (do_cmp rfl rfl rfl) ?_ | refine L_do rfl rfl rfl (do_sub rfl rfl om_) ?_ ) | (apply isLoad; first | refine L_loadPt rfl (by rfl) pt_ (by rfl) rfl ?_ | refine L_loadPt2 rfl (by rfl) pt_ (by rfl) rfl ?_ | refine L_loadPt0 rfl pt_ (by rfl) rfl ?_ | refine L_loadAgg rfl pt_ (by rfl) rfl ?_ | refine L_loadSub rfl (by rfl) pt_ (by rfl) rfl ?_) | refine L_assign rfl rfl ?_ | refine L_do rfl rfl rfl (do_notDec rfl) ?_ | refine L_do rfl rfl rfl (do_not rfl) ?_ | refine L_indexL rfl rfl rd_ (by rfl) om_ om_ rfl (fun a y hy hab hp => ?_) ) | (apply isW; first | apply W_seq | apply W_region | refine W_cond_dec rfl (fun hg => ?_) (fun hg => ?_) | refine W_cond_true rfl ?_ | refine W_cond_false rfl ?_ | refine W_cond rfl (fun hg => ?_) (fun hg => ?_) | apply W_skip | apply W_ret | apply W_exit | apply W_block) | (apply isAt; first | apply At_then | apply At_then_ret | apply At_then_exit | apply At_block_normal | apply At_block_ret | apply At_block_hit | refine At_block_miss rfl ?_ | refine At_end1 rfl rfl ?_ | refine At_end1n rfl rfl ?_ | refine At_end2 rfl rfl rfl ?_ | refine At_end3 rfl rfl rfl rfl ?_ | refine At_end4 rfl rfl rfl rfl rfl ?_ | refine At_end5 rfl rfl rfl rfl rfl rfl ?_ | refine At_mix kp_ ?_))
  refine W_loopF (fun m fr w' => ∃ pre : List Rn, m = xs.length - pre.length ∧ pre.length ≤ xs.length ∧ fr = [(0, .func (.yield l) #[] #[]), (1, .pointer (some ⟨b1, 0, none⟩)), (3, .int .i64 ((xs.length : Int) - 1 - pre.length))] ∧ Below w0.heap.size w0 w' ∧ w'.heap[b1]? = some (.cells #[v] 24) ∧ J pre w' ∧ pre.map (fun x => x.2.1) = xs.reverse.take pre.length) xs.length
    [(0, .func (.yield l) #[] #[]), (1, .pointer (some ⟨b1, 0, none⟩)), (3, .int .i64 ((xs.length : Int) - 1))] sl_ ⟨[], by simp, by simp, by simp, hW, hb1, h0, by simp⟩ ?_
  rintro _ _ w' ⟨pre, rfl, hpl, rfl, hBw, hbw, hJ, hpm⟩
  repeat' (first
    | apply W_seq
    | (refine W_region (id := 1) ?_)
    | (refine W_region (id := 2) ?_)
    | refine W_cond_dec rfl (fun hg => ?_) (fun hg => ?_)
    | refine W_cond_true rfl ?_
    | refine W_cond_false rfl ?_
    | apply W_skip
    | apply W_exit
    | apply W_ret
    | apply W_block
    | apply At_then
    | apply At_then_ret
    | apply At_then_exit
    | apply At_block_normal
    | apply At_block_ret
    | apply At_block_hit
    | refine At_block_miss rfl ?_
    | apply L_nil
    | refine L_move rfl rfl ?_
    | refine L_assign rfl rfl ?_
    | refine L_do rfl rfl rfl (do_cmp rfl rfl rfl) ?_
    | refine L_do rfl rfl rfl (do_sub rfl rfl (by omega)) ?_
    | refine L_do rfl rfl rfl (do_not rfl) ?_)
  · have hlt : pre.length < xs.length := by omega
    obtain ⟨c, hc⟩ : ∃ c, xs[xs.length - 1 - pre.length]? = some c := ⟨_, List.getElem?_eq_getElem (by omega)⟩
    have hck := ha c (List.mem_of_getElem? hc)
    have hpt2 := pt_of_block hbw
    have hRx := h.ext hBw
    refine W_region_yield (k := k) (os := [_, _, _, _, _, _]) (rest := [_, _]) rfl rfl ?_
    repeat' (first | (apply isL; first | apply L_nil | refine L_move rfl rfl ?_ | (apply isCall; first | refine L_lenL rfl rd_ rfl (fun hlen => ?_) ) | (apply isBin; first | refine L_do rfl rfl rfl (do_cmp rfl rfl rfl) ?_ | refine L_do rfl rfl rfl (do_sub rfl rfl om_) ?_ ) | (apply isLoad; first | refine L_loadPt rfl (by rfl) pt_ (by rfl) rfl ?_ | refine L_loadPt2 rfl (by rfl) pt_ (by rfl) rfl ?_ | refine L_loadPt0 rfl pt_ (by rfl) rfl ?_ | refine L_loadAgg rfl pt_ (by rfl) rfl ?_ | refine L_loadSub rfl (by rfl) pt_ (by rfl) rfl ?_) | refine L_assign rfl rfl ?_ | refine L_do rfl rfl rfl (do_notDec rfl) ?_ | refine L_do rfl rfl rfl (do_not rfl) ?_ | (refine L_indexL rfl rfl hRx (by rfl) om_ om_ rfl (fun a y hy hab hp => ?_); have hyy : xs[xs.length - 1 - pre.length]? = some y := (by rw [← hy]; congr 1; omega); rw [hc] at hyy; obtain rfl := Option.some.inj hyy) | refine L_indexL rfl rfl rd_ (by rfl) om_ om_ rfl (fun a y hy hab hp => ?_) ) | (apply isW; first | apply W_seq | apply W_region | refine W_cond_dec rfl (fun hg => ?_) (fun hg => ?_) | refine W_cond_true rfl ?_ | refine W_cond_false rfl ?_ | refine W_cond rfl (fun hg => ?_) (fun hg => ?_) | apply W_skip | apply W_ret | apply W_exit | apply W_block) | (apply isAt; first | apply At_then | apply At_then_ret | apply At_then_exit | apply At_block_normal | apply At_block_ret | apply At_block_hit | refine At_block_miss rfl ?_ | refine At_end1 rfl rfl ?_ | refine At_end1n rfl rfl ?_ | refine At_end2 rfl rfl rfl ?_ | refine At_end3 rfl rfl rfl rfl ?_ | refine At_end4 rfl rfl rfl rfl rfl ?_ | refine At_end5 rfl rfl rfl rfl rfl rfl ?_ | refine At_mix kp_ ?_))
    refine At_yield (vs := [.int .i64 ((xs.length : Int) - 1 - pre.length), vCm c]) rfl rfl rfl rfl (by rintro ⟨_, _, _, hh, _⟩; cases hh) (hY pre (((xs.length : Int) - 1 - pre.length), ⟨c, hck⟩) w' hJ hlt) ?_
    rintro e w2 (⟨rfl, hJ2, hK⟩ | ⟨rfl, hJx⟩)
    · refine ⟨_, rfl, ?_⟩
      repeat' (first
        | apply W_seq
        | (refine W_region (id := 1) ?_)
        | (refine W_region (id := 2) ?_)
        | refine W_cond_dec rfl (fun hg => ?_) (fun hg => ?_)
        | refine W_cond_true rfl ?_
        | refine W_cond_false rfl ?_
        | refine W_cond_split rfl (fun hg2 => ?_) (fun hg2 => ?_)
        | refine L_do rfl rfl rfl (do_add rfl rfl (by omega)) ?_
        | apply W_skip
        | apply W_exit
        | apply W_ret
        | apply W_block
        | apply At_then
        | apply At_then_ret
        | apply At_then_exit
        | apply At_block_normal
        | apply At_block_ret
        | apply At_block_hit
        | refine At_block_miss rfl ?_
        | apply L_nil
        | refine L_move rfl rfl ?_
        | refine L_assign rfl rfl ?_
        | refine L_do rfl rfl rfl (do_cmp rfl rfl rfl) ?_
        | refine L_do rfl rfl rfl (do_sub rfl rfl (by omega)) ?_
        | refine L_do rfl rfl rfl (do_not rfl) ?_)
      have hlp : (pre ++ [(((xs.length : Int) - 1 - pre.length), ⟨c, hck⟩)] : List Rn).length = pre.length + 1 := by simp
      exact At_round (xs.length - (pre.length + 1)) [(0, .func (.yield l) #[] #[]), (1, .pointer (some ⟨b1, 0, none⟩)), (3, .int .i64 ((xs.length : Int) - 1 - pre.length - 1))] sl_ (by omega)
        ⟨pre ++ [(((xs.length : Int) - 1 - pre.length), ⟨c, hck⟩)], by rw [hlp], by omega, by rw [hlp]; simp; omega, hBw.trans hK.1, hK.2.trans hbw, hJ2, bw_at hpm hlt hc hck _⟩
    · refine ⟨_, rfl, ?_⟩
      repeat' (first
        | apply W_seq
        | (refine W_region (id := 1) ?_)
        | (refine W_region (id := 2) ?_)
        | refine W_cond_dec rfl (fun hg => ?_) (fun hg => ?_)
        | refine W_cond_true rfl ?_
        | refine W_cond_false rfl ?_
        | refine W_cond_split rfl (fun hg2 => ?_) (fun hg2 => ?_)
        | refine L_do rfl rfl rfl (do_add rfl rfl (by omega)) ?_
        | apply W_skip
        | apply W_exit
        | apply W_ret
        | apply W_block
        | apply At_then
        | apply At_then_ret
        | apply At_then_exit
        | apply At_block_normal
        | apply At_block_ret
        | apply At_block_hit
        | refine At_block_miss rfl ?_
        | apply L_nil
        | refine L_move rfl rfl ?_
        | refine L_assign rfl rfl ?_
        | refine L_do rfl rfl rfl (do_cmp rfl rfl rfl) ?_
        | refine L_do rfl rfl rfl (do_sub rfl rfl (by omega)) ?_
        | refine L_do rfl rfl rfl (do_not rfl) ?_)
      first | exact At_end0 rfl (.inr ⟨_, hJx⟩) | exact At_end0n rfl (.inr ⟨_, hJx⟩)
  · have hpe : pre.length = xs.length := by omega
    rw [hpe, List.take_of_length_le (by simp)] at hpm
    first | exact At_end0n rfl (.inl ⟨pre, hpm, hJ⟩) | exact At_end0 rfl (.inl ⟨pre, hpm, hJ⟩)

theorem kf_below {A C : World} {B : Nat} (hB : Below A.heap.size A C) : KeepsFrom B A C := ⟨hB.size, fun i o _ hi _ => (hB.block i (Array.getElem?_eq_some_iff.1 hi).1).trans hi⟩
theorem kpB_refl (n₀ b : Nat) (A : World) : KpB n₀ b A A := ⟨Below.refl _ _, rfl⟩
theorem OwL.cells_at {α : Type} {T : Ty α} {w : World} {base e : Nat} {v : Value} {xs : List α} (h : OwL T w base e v xs) {g : Nat} (hg : v.ownBlock = some g) : ∃ o : Obj, w.heap[g]? = some o ∧ o.isCells = true := by
  obtain ⟨_, k1⟩ := h.own
  rcases k1 with ⟨rfl, _⟩ | ⟨g1, c1, u1, rfl, _, hg1, _⟩
  · cases hg
  · obtain rfl : g1 = g := by simpa [Value.ownBlock] using hg
    exact ⟨_, hg1, rfl⟩
theorem kf_own {α : Type} {T : Ty α} {A C : World} {base e B : Nat} {v : Value} {xs : List α} (h : OwL T A base e v xs) (hg : A.grownBy C v.ownBlock) : KeepsFrom B A C :=
  (KeepsOthers.of_grownBy hg (fun j o e ho => by obtain ⟨o2, ho2, hc⟩ := h.cells_at e; rw [ho] at ho2; cases ho2; exact hc)).from _
/-- What the loop keeps between two rounds. -/
def UnI (w : World) (b b1 : Nat) (v : Value) (pre : List Rn) (W : World) : Prop :=
  ∃ u, W.heap[b]? = some (.cells #[u] 24) ∧ OwL tCm W w.heap.size 35 u (pre.map (fun x => undoC x.2.1)) ∧ Below w.heap.size w W ∧ W.heap[b1]? = some (.cells #[v] 24)
theorem UnI.own {w : World} {b b1 B : Nat} {v : Value} (hB : w.heap.size ≤ B) : OwnFrom B (UnI w b b1 v) := by
  rintro pre A C row ⟨u, hb, hO, hw, h1⟩ hg hr
  have hblk : ∀ {k : Nat} {cs : Array Value} {t : TypeId}, A.heap[k]? = some (.cells cs t) → C.heap[k]? = some (.cells cs t) := fun {k cs t} hk =>
    (hg.block k (Array.getElem?_eq_some_iff.1 hk).1 (fun e => by obtain ⟨_, o, ho, hc⟩ := hr k e.symm; rw [hk] at ho; cases ho; cases hc)).trans hk
  refine ⟨u, hblk hb, hO.kept hg ?_, below_grow0 hw hg (fun k e => Nat.le_trans hB (hr k e).1), hblk h1⟩
  cases hu : u.ownBlock with
  | none => exact .inl rfl
  | some g =>
    refine .inr (fun e => ?_)
    obtain ⟨o, ho, hc⟩ := hO.cells_at hu
    obtain ⟨_, o2, ho2, hc2⟩ := hr g e.symm
    rw [ho] at ho2; cases ho2; rw [hc] at hc2; cases hc2
theorem UnI.ext {w A C : World} {b b1 : Nat} {v : Value} {pre : List Rn} (h : UnI w b b1 v pre A) (hB : Below A.heap.size A C) : UnI w b b1 v pre C ∧ KpB w.heap.size b1 A C := by
  obtain ⟨u, hb, hO, hw, h1⟩ := h
  exact ⟨⟨u, blk_ext2 hb hB, hO.ext hB, below_step hw hB, blk_ext2 h1 hB⟩, hB.mono hw.size, hB.block _ (Array.getElem?_eq_some_iff.1 h1).1⟩

theorem un_round {w W w6 w7 w8 : World} {b b1 B : Nat} {v u v7 : Value} {pre : List Rn} {x : Rn} {ys : List Cm} (hb : (pre ++ [x]).map (fun x => undoC x.2.1) = ys) (hBW : Below w.heap.size w W) (hB6 : Below W.heap.size W w6) (hO6 : OwL tCm w6 w.heap.size 35 u (pre.map (fun x => undoC x.2.1)))
    (hO7 : OwL tCm w7 w.heap.size 35 v7 ys) (hg7 : w6.grownBy w7 u.ownBlock) (hv7 : w7.heap[b]? = some (.cells #[u] 24)) (h17 : w7.heap[b1]? = some (.cells #[v] 24)) (h1 : W.heap[b1]? = some (.cells #[v] 24))
    (hv8 : w8.heap[b]? = some (.cells #[v7] 24)) (hg8 : w7.grownBy w8 (some b)) (hbw : w.heap.size ≤ b) (hbB : b < B) (hne : b1 ≠ b) :
    KeepsFrom B W w8 ∧ KpB w.heap.size b1 W w8 ∧ UnI w b b1 v (pre ++ [x]) w8 := by
  have hB8 : Below w.heap.size W w8 := ((hB6.mono hBW.size).grown hg7 (Nat.le_trans hBW.size hB6.size) (fun k e => (hO6.lt k e).1)).grown hg8 (Nat.le_trans hBW.size (Nat.le_trans hB6.size hg7.size)) (fun k e => by cases e; exact hbw)
  have h18 : w8.heap[b1]? = some (.cells #[v] 24) := (hg8.block _ (Array.getElem?_eq_some_iff.1 h17).1 (fun e => hne (Option.some.inj e))).trans h17
  have hO8 := hO7.kept hg8 (.inr (fun e => hO7.ne_cells hv7 (by decide) _ e rfl))
  exact ⟨(kf_below hB6).trans ((kf_own hO6 hg7).trans (KeepsFrom.of_grownBy hg8 (fun j e => by cases e; exact hbB))), ⟨hB8, h18.trans h1.symm⟩, v7, hv8, by rw [hb]; exact hO8, hBW.trans hB8, h18⟩
/-- The region's plan: each operation is done in its turn, wherever it may come. -/
def unPlan : Plan := .both 0 (.act 1 (.act 2 (.act 3 (.act 4 (.act 5 .done))))) 1 (.both 0 (.act 2 (.act 3 (.act 4 (.act 5 .done)))) 2 (.both 0 (.act 3 (.act 4 (.act 5 .done))) 3 (.act 0 (.act 4 (.act 5 .done)))))

theorem c_implLogUndo {v : Value} {xs : List Cm} {w : World} (h : RdL tCm w v xs) (hm : MLen w) (hlk : logOk xs = true) (hsh : ShortC xs) :
    Cl Tryz.prog 14 [v] w (fun u w' => OwL tCm w' w.heap.size 35 u (undoAll xs) ∧ Below w.heap.size w w') := by
  refine calls_startM 19 3 Tryz.func14 rfl rfl rfl ?_
  have hml := h.maxLen
  obtain ⟨hl20, hok⟩ := logOk_parts hlk
  repeat' (first | (apply isL; first | apply L_nil | refine L_move rfl rfl ?_ | (apply isCall; first | (refine L_callV rfl rfl (c_implLogValid h hm hsh) (fun w2 hB2 => ?_); rw [hlk]) | (refine L_call rfl rfl (c_Backward (h.ext bw_)) (fun _ w4 hR => ?_); obtain ⟨rfl, hv4, hz4, hB4⟩ := hR) ) | (apply isLoad; first | refine L_loadPt rfl (by rfl) pt_ (by rfl) rfl ?_ | refine L_loadPt2 rfl (by rfl) pt_ (by rfl) rfl ?_ | refine L_loadPt0 rfl pt_ (by rfl) rfl ?_ | refine L_loadAgg rfl pt_ (by rfl) rfl ?_ | refine L_loadSub rfl (by rfl) pt_ (by rfl) rfl ?_) | refine L_assign rfl rfl ?_ | refine L_do rfl rfl rfl (do_notDec rfl) ?_ | refine L_do rfl rfl rfl (do_not rfl) ?_ | (apply isAlloc; refine L_allocV (w0 := w2) (Below.refl _ _) rfl (fun w3 hz3 hB3' hB3 hv3 => ?_); clear hB3') | (apply isAllocStore; refine L_allocStoreV (w0 := w) bw_ rfl rfl rfl rfl ?_ rfl (fun w1 hz1 hB hB1 hv => ?_); (focus (first | exact Ty.one _ _ | simp [Value.oneCell'])); have hp := pt_of_block hv) ) | (apply isLQ; first | refine LQ_nil (fun w1 hBq => ?_) | apply LQ_mix | refine LQ_move rfl rfl ?_ | (apply isBinQ; first | refine LQ_do rfl rfl rfl (fun _ _ => do_cmp rfl rfl rfl) ?_ | refine LQ_do rfl rfl rfl (fun _ _ => do_cmpStr rfl rfl rfl) ?_ | refine LQ_do rfl rfl rfl (fun _ _ => do_add rfl rfl om_) ?_ | refine LQ_do rfl rfl rfl (fun _ _ => do_sub rfl rfl om_) ?_ ) | (apply isLoadQ; first | refine LQ_loadPt rfl (by rfl) pt_ (by rfl) rfl ?_ | refine LQ_loadPt2 rfl (by rfl) pt_ (by rfl) rfl ?_ | refine LQ_loadPt0 rfl pt_ (by rfl) rfl ?_ | refine LQ_loadAgg rfl pt_ (by rfl) rfl ?_ | refine LQ_loadSub rfl (by rfl) pt_ (by rfl) rfl ?_) | refine LQ_assign rfl rfl ?_ | refine LQ_do rfl rfl rfl (fun _ _ => do_notDec rfl) ?_ | refine LQ_do rfl rfl rfl (fun _ _ => do_not rfl) ?_) | (apply isW; first | apply W_seq | apply W_region | refine W_region_Q mixed (by kernel_rfl) ?_ | refine W_cond_dec rfl (fun hg => ?_) (fun hg => ?_) | refine W_cond_true rfl ?_ | refine W_cond_false rfl ?_ | refine W_cond rfl (fun hg => ?_) (fun hg => ?_) | apply W_skip | apply W_ret | apply W_exit | apply W_block) | (apply isLM) | (apply isAt; first | apply At_then | apply At_then_ret | apply At_then_exit | apply At_block_normal | apply At_block_ret | apply At_block_hit | refine At_block_miss rfl ?_ | refine At_end1 rfl rfl ?_ | refine At_end1n rfl rfl ?_ | refine At_end2 rfl rfl rfl ?_ | refine At_end3 rfl rfl rfl rfl ?_ | refine At_end4 rfl rfl rfl rfl rfl ?_ | refine At_end5 rfl rfl rfl rfl rfl rfl ?_ | refine At_mix kp_ ?_))
  all_goals first | (exfalso; simp at hg; done) | skip
  have hbb := blk_ext2 hv3 hB4
  have hBw : Below w.heap.size w w4 := bw_
  have hs2 := hB2.size
  have h0 : UnI w w2.heap.size w3.heap.size v [] w4 := ⟨_, hbb, own_nilC, hBw, hv4⟩
  have hm4 := hm.ext hBw
  refine W_rangeFunc (k := 3) (gf := 77) (lb := #[.pointer (some ⟨w3.heap.size, 0, none⟩)]) (α := Rn) (e1 := fun x => .int .i64 x.1) (e2 := fun x => vCm x.2.1) (Kp := KpB w.heap.size w3.heap.size) (S := fun ys => ys.map (fun x => x.2.1) = xs.reverse) (Sp := fun _ => True) (N := xs.length) (by omega) rfl (enters_of Tryz.func77 (by kernel_rfl) rfl).run rfl rfl ?_
    (fun h1 h2 => ⟨h1.1.trans h2.1, h2.2.trans h1.2⟩) (fun W l o o' hl ho hc hw => ⟨belowK_b (w := w4) hBw.size W l o o' hl ho hc hw, World.putObj_heap_other (by omega)⟩)
    (UnI w w2.heap.size w3.heap.size v) (UnI.own hBw.size) (fun pre A B hi hB => hi.ext hB) h0 (fun x b => [(3, .pointer (some ⟨w2.heap.size, 0, none⟩)), (5, .pointer (some ⟨b, 0, none⟩))]) (fun x => (tCm.enc x.2.1).toArray) 35 ?_ ?_ ?_
  · intro l J Jx W hW _ _ hY hJ
    have hcl := c_Backward1 (k := 2) (l := l) (J := J) (Jx := Jx) h hok (by omega) (below_step hBw hW) (blk_ext2 hv4 hW) (fun pre x W1 hJ1 hlt => hY pre x W1 hJ1 hlt) hJ
    refine CallsIn.mono (callsIn_wide.2 hcl.run) ?_
    rintro e W' ⟨u, rfl, hR⟩
    refine ⟨⟨u, rfl⟩, ?_⟩
    rcases hR with ⟨ys, hy, hj⟩ | ⟨pre, hj⟩
    · exact .inl ⟨ys, hy, hj⟩
    · exact .inr ⟨pre, trivial, hj⟩
  · intro l x W
    refine WI_list rfl (by rintro ⟨_, _, hh, _⟩; cases hh) ?_
    refine L_allocStoreV (w0 := W) (cs := tCm.enc x.2.1) (Below.refl _ _) rfl rfl rfl rfl (tCm.one _) rfl (fun w5 hz5 hB5' hB5 hv5 => ?_)
    apply L_nil
    exact ⟨fun a s => ⟨rfl, hB5, _, hv5, s.of_slots sl_⟩⟩
  · rintro l pre ⟨i, c, hck⟩ b W ⟨u, hb, hO, hBW, h1⟩ hbx hlt
    have hcl := isPath_len (cmOk_path hck)
    have hpb := pt_of_block hb
    have hpc := pt_of_block hbx
    have hmW := hm.ext hBW
    refine WI_block (R := fun W' => KeepsFrom w4.heap.size W W' ∧ KpB w.heap.size w3.heap.size W W' ∧ UnI w w2.heap.size w3.heap.size v (pre ++ [(i, ⟨c, hck⟩)]) W') (fun _ _ hR => by show ownPostG _ _ _ _ _ _ .normal _ _; exact hR) ?_
    have hTr : True := trivial
    refine WI_region_S (fun _ => True) unPlan mixed (by kernel_rfl) (by kernel_rfl) (by kernel_rfl) (by rintro _ _ _ ⟨hh, _⟩; cases hh) (by rintro ⟨_, _, hh, _⟩; cases hh) trivial (fun w9 _ hB9 hz9 => ?_)
    unfold unPlan
    repeat' (first | (apply isL; first | apply L_nil | refine L_move rfl rfl ?_ | (apply isCall; first | (refine L_callV rfl rfl (c_implCommandUndo (c := c) hck (hmW.ext bw_) om_) (fun w5 hB5 => ?_)) | (have hB6' : Below W.heap.size W w6 := below_step (below_step hB9 hB5) hB6; have hO6' := hO.ext hB6'; refine L_append (w0 := w) rfl rfl (below_step hBW hB6') hO6' hO6.rd rfl (by simp; omega) (by simp; omega) rfl (fun v7 w7 hO7 hB7 hg7 => ?_); have hv7 := kept_cells hO6' (blk_ext2 hb hB6') (by decide) hg7; have h17 := kept_cells hO6' (blk_ext2 h1 hB6') (by decide) hg7; obtain ⟨a7, c7, rfl, _, _⟩ := hO7.rd.slice) ) | (apply isLoad; first | refine L_loadPt rfl (by rfl) pt_ (by rfl) rfl ?_ | refine L_loadPt2 rfl (by rfl) pt_ (by rfl) rfl ?_ | refine L_loadPt0 rfl pt_ (by rfl) rfl ?_ | refine L_loadAgg rfl pt_ (by rfl) rfl ?_ | refine L_loadSub rfl (by rfl) pt_ (by rfl) rfl ?_) | refine L_assign rfl rfl ?_ | refine L_do rfl rfl rfl (do_notDec rfl) ?_ | refine L_do rfl rfl rfl (do_not rfl) ?_ | refine L_buildSliceL tCm [undoC c] rfl rfl rfl rfl rfl rfl rfl rfl (fun w6 hO6 hB6 => ?_) | (apply isStore; refine L_storeAt (b := w2.heap.size) (off := 0) (cs := [_]) rfl rfl rfl rfl (by simp [Value.oneCell']) hv7 (Nat.le_of_ble_eq_true rfl) rfl (fun w8 hv8 hg8 hz8 => ?_)) | (apply isAllocStore; refine L_allocStoreV (w0 := w) bw_ rfl rfl rfl rfl ?_ rfl (fun w1 hz1 hB hB1 hv => ?_); (focus (first | exact Ty.one _ _ | simp [Value.oneCell'])); have hp := pt_of_block hv) ) | (apply isLQ; first | refine LQ_nil (fun w1 hBq => ?_) | apply LQ_mix | refine LQ_move rfl rfl ?_ | (apply isBinQ; first | refine LQ_do rfl rfl rfl (fun _ _ => do_cmp rfl rfl rfl) ?_ | refine LQ_do rfl rfl rfl (fun _ _ => do_cmpStr rfl rfl rfl) ?_ | refine LQ_do rfl rfl rfl (fun _ _ => do_add rfl rfl om_) ?_ | refine LQ_do rfl rfl rfl (fun _ _ => do_sub rfl rfl om_) ?_ ) | (apply isLoadQ; first | refine LQ_loadPt rfl (by rfl) pt_ (by rfl) rfl ?_ | refine LQ_loadPt2 rfl (by rfl) pt_ (by rfl) rfl ?_ | refine LQ_loadPt0 rfl pt_ (by rfl) rfl ?_ | refine LQ_loadAgg rfl pt_ (by rfl) rfl ?_ | refine LQ_loadSub rfl (by rfl) pt_ (by rfl) rfl ?_ | refine RLQ_loadPt rfl (by rfl) pt_ (by rfl) ne_ rfl ?_ | refine RLQ_loadPt2 rfl (by rfl) pt_ (by rfl) ne_ rfl ?_ | refine RLQ_loadPt0 rfl pt_ (by rfl) ne_ rfl ?_ | refine RLQ_loadAgg rfl pt_ (by rfl) ne_ rfl ?_ | refine RLQ_loadSub rfl (by rfl) pt_ (by rfl) ne_ rfl ?_) | refine LQ_assign rfl rfl ?_ | refine LQ_do rfl rfl rfl (fun _ _ => do_notDec rfl) ?_ | refine LQ_do rfl rfl rfl (fun _ _ => do_not rfl) ?_) | (apply isW; first | apply W_seq | apply W_region | (refine W_region_S (fun _ => True) unPlan mixed (by kernel_rfl) (by kernel_rfl) (by rintro _ _ _ _ _ ⟨hh, _⟩; cases hh) trivial (fun w9 _ hB9 hz9 => ?_)) | refine W_region_Q mixed (by kernel_rfl) ?_ | refine W_cond_dec rfl (fun hg => ?_) (fun hg => ?_) | refine W_cond_true rfl ?_ | refine W_cond_false rfl ?_ | refine W_cond rfl (fun hg => ?_) (fun hg => ?_) | apply W_skip | apply W_ret | apply W_exit | apply W_block) | (apply isLM; first | apply LM_nil | refine LM_look rfl rfl ?_ | refine LM_act rfl ?_ | refine LM_both rfl rfl ?_ ?_ | refine LM_do rfl rfl rfl rfl (fun _ _ => do_nilCheck rfl) ?_) | (apply isAt; first | apply At_then | apply At_then_ret | apply At_then_exit | apply At_block_normal | apply At_block_ret | apply At_block_hit | refine At_block_miss rfl ?_ | refine At_end1 rfl rfl ?_ | refine At_end1n rfl rfl ?_ | refine At_end2 rfl rfl rfl ?_ | refine At_end3 rfl rfl rfl rfl ?_ | refine At_end4 rfl rfl rfl rfl rfl ?_ | refine At_end5 rfl rfl rfl rfl rfl rfl ?_ | refine At_mix kp_ ?_))
    all_goals exact ⟨fun a s => ⟨rfl, un_round (by rw [List.map_append]; rfl) hBW hB6' hO6' hO7 hg7 hv7 h17 h1 hv8 hg8 (by omega) (by omega) (by omega)⟩⟩
  · intro D ys W hD hS hI hK a s
    obtain ⟨u, hb, hO, hBW, h1⟩ := hI
    have hpb := pt_of_block hb
    have hg := grownBy_putObj' W D (.deferred none)
    have hOD : OwL tCm (W.putObj D (.deferred none)) w.heap.size 35 u (undoAll xs) := by
      rw [show undoAll xs = ys.map (fun x => undoC x.2.1) by rw [undoAll, ← hS, List.map_map]; rfl]
      refine hO.kept hg ?_
      cases hu : u.ownBlock with
      | none => exact .inl rfl
      | some g => exact .inr (fun e => by obtain ⟨o, ho, hc⟩ := hO.cells_at hu; cases e; rw [hK] at ho; cases ho; cases hc)
    have hBD : Below w.heap.size w (W.putObj D (.deferred none)) := below_grow0 hBW hg (fun k e => by cases e; omega)
    refine wp_tail rfl (L.run (n := 19) (fr := [(0, v), (3, .pointer (some ⟨w2.heap.size, 0, none⟩))]) ?_ a (s.of_slots sl_))
    repeat' (first | (apply isL; first | apply L_nil | refine L_move rfl rfl ?_ | (apply isLoad; first | refine L_loadPt rfl (by rfl) pt_ (by rfl) rfl ?_ | refine L_loadPt2 rfl (by rfl) pt_ (by rfl) rfl ?_ | refine L_loadPt0 rfl pt_ (by rfl) rfl ?_ | refine L_loadAgg rfl pt_ (by rfl) rfl ?_ | refine L_loadSub rfl (by rfl) pt_ (by rfl) rfl ?_) | refine L_assign rfl rfl ?_ | refine L_do rfl rfl rfl (do_notDec rfl) ?_ | refine L_do rfl rfl rfl (do_not rfl) ?_ | (apply isAllocStore; refine L_allocStoreV (w0 := w) bw_ rfl rfl rfl rfl ?_ rfl (fun w1 hz1 hB hB1 hv => ?_); (focus (first | exact Ty.one _ _ | simp [Value.oneCell'])); have hp := pt_of_block hv) ) | (apply isLQ; first | refine LQ_nil (fun w1 hBq => ?_) | apply LQ_mix | refine LQ_move rfl rfl ?_ | (apply isBinQ; first | refine LQ_do rfl rfl rfl (fun _ _ => do_cmp rfl rfl rfl) ?_ | refine LQ_do rfl rfl rfl (fun _ _ => do_cmpStr rfl rfl rfl) ?_ | refine LQ_do rfl rfl rfl (fun _ _ => do_add rfl rfl om_) ?_ | refine LQ_do rfl rfl rfl (fun _ _ => do_sub rfl rfl om_) ?_ ) | (apply isLoadQ; first | refine LQ_loadPt rfl (by rfl) pt_ (by rfl) rfl ?_ | refine LQ_loadPt2 rfl (by rfl) pt_ (by rfl) rfl ?_ | refine LQ_loadPt0 rfl pt_ (by rfl) rfl ?_ | refine LQ_loadAgg rfl pt_ (by rfl) rfl ?_ | refine LQ_loadSub rfl (by rfl) pt_ (by rfl) rfl ?_) | refine LQ_assign rfl rfl ?_ | refine LQ_do rfl rfl rfl (fun _ _ => do_notDec rfl) ?_ | refine LQ_do rfl rfl rfl (fun _ _ => do_not rfl) ?_) | (apply isW; first | apply W_seq | apply W_region | refine W_region_Q mixed (by kernel_rfl) ?_ | refine W_cond_dec rfl (fun hg => ?_) (fun hg => ?_) | refine W_cond_true rfl ?_ | refine W_cond_false rfl ?_ | refine W_cond rfl (fun hg => ?_) (fun hg => ?_) | apply W_skip | apply W_ret | apply W_exit | apply W_block) | (apply isLM) | (apply isAt; first | apply At_then | apply At_then_ret | apply At_then_exit | apply At_block_normal | apply At_block_ret | apply At_block_hit | refine At_block_miss rfl ?_ | refine At_end1 rfl rfl ?_ | refine At_end1n rfl rfl ?_ | refine At_end2 rfl rfl rfl ?_ | refine At_end3 rfl rfl rfl rfl ?_ | refine At_end4 rfl rfl rfl rfl rfl ?_ | refine At_end5 rfl rfl rfl rfl rfl rfl ?_ | refine At_mix kp_ ?_))
    exact ⟨fun a s => ⟨rfl, leaves_mark rfl (s.getD rfl) hK ⟨hOD, hBD⟩⟩⟩
end Go.Proofs.YtjobbcdolbhadaaGreatDoor
