/-
  Contracts on slices of integers that are made and written, and on files (blobs) and disks.
-/
import Derived.Test.YtpdkajcnnanocaaDoorBase2
namespace Go.Proofs.YtpdkajcnnanocaaDoor
open Go Go.RowKit
set_option linter.unusedVariables false

/-! ### Copies of integer slices -/
theorem set_replicate_step {α : Type} {xs : List α} {k : Nat} {x d : α} (hx : xs[k]? = some x) : (xs.take k ++ List.replicate (xs.length - k) d).set k x = xs.take (k + 1) ++ List.replicate (xs.length - (k + 1)) d := by
  have hk : k < xs.length := (List.getElem?_eq_some_iff.1 hx).1
  rw [List.set_append_right _ _ (by simp; omega), List.take_add_one, hx]
  have h1 : (List.take k xs).length = k := by simp; omega
  rw [h1, Nat.sub_self, show xs.length - k = (xs.length - (k + 1)) + 1 by omega, List.replicate_succ]
  simp

theorem c_toIntS {v : Value} {xs : List Int} {w : World} (h : RdL tInt w v xs) (hsm : xs.length ≤ 1048576) : Cl Tryd.prog 36 [v] w (fun u w' => u = .slice (some ⟨w.heap.size, 0, none⟩) xs.length xs.length ∧ OwL tInt w' w.heap.size 3 u xs ∧ Below w.heap.size w w') := by
  refine calls_start 22 Tryd.func36 rfl rfl rfl ?_
  repeat' (first | (apply isL; first | apply L_nil | refine L_move rfl rfl ?_ | (apply isCall; first | refine L_lenL rfl rd_ rfl (fun hlen => ?_) ) | (apply isBin; first | refine L_do rfl rfl rfl (do_cmp rfl rfl rfl) ?_ | refine L_do rfl rfl rfl (do_add rfl rfl om_) ?_ ) | (apply isLoad; first | refine L_loadPt rfl (by rfl) pt_ (by rfl) rfl ?_ | refine L_loadPt2 rfl (by rfl) pt_ (by rfl) rfl ?_ | refine L_loadPt0 rfl pt_ (by rfl) rfl ?_ | refine L_loadAgg rfl pt_ (by rfl) rfl ?_ | refine L_loadSub rfl (by rfl) pt_ (by rfl) rfl ?_) | refine L_assign rfl rfl ?_ | refine L_makeSlice (w0 := w) tInt 0 rfl rfl bw_ rfl rfl om_ om_ rfl (fun w1 hO hB hB1 => ?_) | refine L_indexL rfl rfl rd_ (by rfl) om_ om_ rfl (fun a y hy hab hp => ?_) ) | (apply isW; first | apply W_seq | apply W_region | refine W_cond_dec rfl (fun hg => ?_) (fun hg => ?_) | refine W_cond_true rfl ?_ | refine W_cond_false rfl ?_ | refine W_cond rfl (fun hg => ?_) (fun hg => ?_) | apply W_skip | apply W_ret | apply W_exit | apply W_block) | (apply isAt; first | apply At_then | apply At_then_ret | apply At_then_exit | apply At_block_normal | apply At_block_ret | apply At_block_hit | refine At_block_miss rfl ?_ | refine At_end1 rfl rfl ?_ | refine At_end1n rfl rfl ?_ | refine At_end2 rfl rfl rfl ?_ | refine At_end3 rfl rfl rfl rfl ?_ | refine At_end4 rfl rfl rfl rfl rfl ?_ | refine At_mix kp_ ?_))
  refine W_loopF (fun m fr w' => ∃ k : Nat, m = xs.length - k ∧ k ≤ xs.length ∧ fr = [(0, v), (3, .slice (some ⟨w.heap.size, 0, none⟩) xs.length xs.length), (4, .int .i64 k)] ∧ Below w.heap.size w w' ∧ OwL tInt w' w.heap.size 3 (.slice (some ⟨w.heap.size, 0, none⟩) xs.length xs.length) (xs.take k ++ List.replicate (xs.length - k) 0)) xs.length
    [(0, v), (3, .slice (some ⟨w.heap.size, 0, none⟩) xs.length xs.length), (4, .int .i64 0)] sl_ ⟨0, rfl, Nat.zero_le _, rfl, bw_, by simpa using hO⟩ ?_
  rintro _ _ w' ⟨k, rfl, hk, rfl, hB, hO⟩
  repeat' (first | (apply isL; first | apply L_nil | refine L_move rfl rfl ?_ | (apply isCall; first | refine L_lenL rfl rd_ rfl (fun hlen => ?_) ) | (apply isBin; first | refine L_do rfl rfl rfl (do_cmp rfl rfl rfl) ?_ | refine L_do rfl rfl rfl (do_add rfl rfl om_) ?_ ) | (apply isLoad; first | refine L_loadPt rfl (by rfl) pt_ (by rfl) rfl ?_ | refine L_loadPt2 rfl (by rfl) pt_ (by rfl) rfl ?_ | refine L_loadPt0 rfl pt_ (by rfl) rfl ?_ | refine L_loadAgg rfl pt_ (by rfl) rfl ?_ | refine L_loadSub rfl (by rfl) pt_ (by rfl) rfl ?_) | refine L_assign rfl rfl ?_ | refine L_indexOwn rfl rfl hO rfl om_ (by simp; omega) rfl (fun g y0 hy0 hg0 => ?_) | refine L_storeElem (off := 0) rfl rfl hO rfl hg0 hy0 (cs := [.int .i64 y]) rfl rfl (by simp [Value.oneCell']) (Nat.le_of_ble_eq_true rfl) (y1 := y) rfl (by assumption) (fun w2 hO2 hB2 hg2 hz2 => ?_) | refine L_indexL rfl rfl rd_ (by rfl) om_ om_ rfl (fun a y hy hab hp => ?_) ) | (apply isW; first | apply W_seq | apply W_region | refine W_cond_dec rfl (fun hg => ?_) (fun hg => ?_) | refine W_cond_true rfl ?_ | refine W_cond_false rfl ?_ | refine W_cond rfl (fun hg => ?_) (fun hg => ?_) | apply W_skip | apply W_ret | apply W_exit | apply W_block) | (apply isAt; first | apply At_then | apply At_then_ret | apply At_then_exit | apply At_block_normal | apply At_block_ret | apply At_block_hit | refine At_block_miss rfl ?_ | refine At_end1 rfl rfl ?_ | refine At_end1n rfl rfl ?_ | refine At_end2 rfl rfl rfl ?_ | refine At_end3 rfl rfl rfl rfl ?_ | refine At_end4 rfl rfl rfl rfl rfl ?_ | refine At_mix kp_ ?_))
  · have hy' : xs[k]? = some y := hy
    rw [show (↑k : Int).toNat = k from rfl, set_replicate_step hy'] at hO2
    exact At_round _ [(0, v), (3, .slice (some ⟨w.heap.size, 0, none⟩) xs.length xs.length), (4, .int .i64 ((k + 1 : Nat) : Int))] sl_ (by omega) ⟨k + 1, rfl, by omega, rfl, hB2, hO2⟩
  · have hkk : k = xs.length := by omega
    subst hkk
    refine ⟨rfl, ?_, hB⟩
    simpa using hO

/-! ### Files -/
structure Bl where
  name : Int
  safe : List Int
  fresh : List Int
  deriving DecidableEq
structure BlOf (w : World) (r : Row3) (b : Bl) : Prop where
  name : r.name = b.name
  safe : RdL tInt w r.safe b.safe
  fresh : RdL tInt w r.fresh b.fresh
theorem BlOf.ext {w w' : World} {r : Row3} {b : Bl} (h : BlOf w r b) (hB : Below w.heap.size w w') : BlOf w' r b := ⟨h.name, h.safe.ext hB, h.fresh.ext hB⟩
/-- The slice value v reads as files. -/
structure RdBl (w : World) (v : Value) (rows : List Row3) (bs : List Bl) : Prop where
  rd : RdL tRow3 w v rows
  len : rows.length = bs.length
  at_ : ∀ (i : Nat) r, rows[i]? = some r → ∃ b, bs[i]? = some b ∧ BlOf w r b
theorem RdBl.ext {w w' : World} {v : Value} {rows : List Row3} {bs : List Bl} (h : RdBl w v rows bs) (hB : Below w.heap.size w w') : RdBl w' v rows bs :=
  ⟨h.rd.ext hB, h.len, fun i r hr => let ⟨b, hb, hr'⟩ := h.at_ i r hr; ⟨b, hb, hr'.ext hB⟩⟩

def szI (n : Nat) (left : Int) : Int := if left - n < 0 then -1 else left - n
theorem c_szIntS {v : Value} {xs : List Int} {w : World} {left : Int} (h : RdL tInt w v xs) (h0 : 0 ≤ left) (h1 : left ≤ 1048576) : Cl Tryd.prog 30 [v, .int .i64 left] w (V w (.int .i64 (szI xs.length left))) := by
  refine calls_start 12 Tryd.func30 rfl rfl rfl ?_
  repeat' (first | (apply isL; first | apply L_nil | refine L_move rfl rfl ?_ | (apply isCall; first | refine L_lenL rfl rd_ rfl (fun hlen => ?_) ) | (apply isBin; first | refine L_do rfl rfl rfl (do_cmp rfl rfl rfl) ?_ | refine L_do rfl rfl rfl (do_sub rfl rfl om_) ?_ ) | refine L_assign rfl rfl ?_ ) | (apply isW; first | apply W_seq | apply W_region | refine W_cond_dec rfl (fun hg => ?_) (fun hg => ?_) | refine W_cond_true rfl ?_ | refine W_cond_false rfl ?_ | refine W_cond rfl (fun hg => ?_) (fun hg => ?_) | apply W_skip | apply W_ret | apply W_exit | apply W_block) | (apply isAt; first | apply At_then | apply At_then_ret | apply At_then_exit | apply At_block_normal | apply At_block_ret | apply At_block_hit | refine At_block_miss rfl ?_ | refine At_end1 rfl rfl ?_ | refine At_end1n rfl rfl ?_ | refine At_end2 rfl rfl rfl ?_ | refine At_end3 rfl rfl rfl rfl ?_ | refine At_end4 rfl rfl rfl rfl rfl ?_ | refine At_mix kp_ ?_))
  · exact ⟨by rw [szI, if_pos hg], bw_⟩
  · exact ⟨by rw [szI, if_neg hg], bw_⟩

def szB (b : Bl) (left : Int) : Int := if szI b.safe.length left < 0 then -1 else szI b.fresh.length (szI b.safe.length left)
theorem c_szBlob {r : Row3} {b : Bl} {w : World} {left : Int} (h : BlOf w r b) (h0 : 0 ≤ left) (h1 : left ≤ 1048576) : Cl Tryd.prog 16 [.agg #[.int .i64 r.name, r.safe, r.fresh], .int .i64 left] w (V w (.int .i64 (szB b left))) := by
  refine calls_start 18 Tryd.func16 rfl rfl rfl ?_
  have hs := h.safe
  have hf := h.fresh
  have hle : szI b.safe.length left ≤ 1048576 := by unfold szI; split <;> omega
  repeat' (first | (apply isL; first | apply L_nil | refine L_move rfl rfl ?_ | (apply isCall; first | refine L_callV rfl rfl (c_szIntS (xs := b.safe) rd_ h0 h1) (fun w2 hB2 => ?_) | refine L_callV rfl rfl (c_szIntS (xs := b.fresh) rd_ om_ hle) (fun w2 hB2 => ?_) ) | (apply isBin; first | refine L_do rfl rfl rfl (do_cmp rfl rfl rfl) ?_ ) | (apply isLoad; first | refine L_loadPt rfl (by rfl) pt_ (by rfl) rfl ?_ | refine L_loadPt2 rfl (by rfl) pt_ (by rfl) rfl ?_ | refine L_loadPt0 rfl pt_ (by rfl) rfl ?_ | refine L_loadAgg rfl pt_ (by rfl) rfl ?_ | refine L_loadSub rfl (by rfl) pt_ (by rfl) rfl ?_) | refine L_assign rfl rfl ?_ | refine L_do rfl rfl rfl (do_fieldAddr rfl) ?_ | (apply isBox; refine L_boxV (w0 := w) bw_ rfl rfl (fun w1 hz1 hB hB1 hv => ?_); have hp := pt_of_block hv) ) | (apply isW; first | apply W_seq | apply W_region | refine W_cond_dec rfl (fun hg => ?_) (fun hg => ?_) | refine W_cond_true rfl ?_ | refine W_cond_false rfl ?_ | refine W_cond rfl (fun hg => ?_) (fun hg => ?_) | apply W_skip | apply W_ret | apply W_exit | apply W_block) | (apply isAt; first | apply At_then | apply At_then_ret | apply At_then_exit | apply At_block_normal | apply At_block_ret | apply At_block_hit | refine At_block_miss rfl ?_ | refine At_end1 rfl rfl ?_ | refine At_end1n rfl rfl ?_ | refine At_end2 rfl rfl rfl ?_ | refine At_end3 rfl rfl rfl rfl ?_ | refine At_end4 rfl rfl rfl rfl rfl ?_ | refine At_mix kp_ ?_))
  · exact ⟨by rw [szB, if_pos hg], bw_⟩
  · refine ⟨?_, bw_⟩
    rw [szB, if_neg (by assumption)]
    congr 1
    unfold szI at hg ⊢
    split <;> omega
  · exact ⟨by rw [szB, if_neg (by assumption)], bw_⟩

theorem szB_bd {b : Bl} {left : Int} (h0 : 0 ≤ left) (h1 : left ≤ 1048576) : szB b left ≤ left ∧ (0 ≤ szB b left → b.safe.length ≤ 1048576 ∧ b.fresh.length ≤ 1048576) := by
  unfold szB szI
  repeat' split
  all_goals (constructor; omega; intro h; constructor <;> omega)

/-- What a size that is not negative says. -/
def Small (bs : List Bl) : Prop := bs.length ≤ 1048576 ∧ ∀ b ∈ bs, b.safe.length ≤ 1048576 ∧ b.fresh.length ≤ 1048576
theorem c_szBlobS {v : Value} {rows : List Row3} {bs : List Bl} {w : World} (h : RdBl w v rows bs) :
    Cl Tryd.prog 5 [v, .int .i64 1048576] w (fun u w' => ∃ r : Int, u = .int .i64 r ∧ Below w.heap.size w w' ∧ (0 ≤ r → Small bs)) := by
  refine calls_start 27 Tryd.func5 rfl rfl rfl ?_
  have hrd := h.rd
  have hln := h.len
  repeat' (first | (apply isL; first | apply L_nil | refine L_move rfl rfl ?_ | (apply isCall; first | refine L_lenL rfl rd_ rfl (fun hlen => ?_) ) | (apply isBin; first | refine L_do rfl rfl rfl (do_cmp rfl rfl rfl) ?_ | refine L_do rfl rfl rfl (do_add rfl rfl om_) ?_ | refine L_do rfl rfl rfl (do_sub rfl rfl om_) ?_ ) | (apply isLoad; first | refine L_loadPt rfl (by rfl) pt_ (by rfl) rfl ?_ | refine L_loadPt2 rfl (by rfl) pt_ (by rfl) rfl ?_ | refine L_loadPt0 rfl pt_ (by rfl) rfl ?_ | refine L_loadAgg rfl pt_ (by rfl) rfl ?_ | refine L_loadSub rfl (by rfl) pt_ (by rfl) rfl ?_) | refine L_assign rfl rfl ?_ | refine L_indexL rfl rfl rd_ (by rfl) om_ om_ rfl (fun a y hy hab hp => ?_) ) | (apply isW; first | apply W_seq | apply W_region | refine W_cond_dec rfl (fun hg => ?_) (fun hg => ?_) | refine W_cond_true rfl ?_ | refine W_cond_false rfl ?_ | refine W_cond rfl (fun hg => ?_) (fun hg => ?_) | apply W_skip | apply W_ret | apply W_exit | apply W_block) | (apply isAt; first | apply At_then | apply At_then_ret | apply At_then_exit | apply At_block_normal | apply At_block_ret | apply At_block_hit | refine At_block_miss rfl ?_ | refine At_end1 rfl rfl ?_ | refine At_end1n rfl rfl ?_ | refine At_end2 rfl rfl rfl ?_ | refine At_end3 rfl rfl rfl rfl ?_ | refine At_end4 rfl rfl rfl rfl rfl ?_ | refine At_mix kp_ ?_))
  · exact ⟨_, rfl, bw_, fun h => by omega⟩
  refine W_loopF (fun m fr w' => ∃ (k : Nat) (left : Int), m = rows.length - k ∧ k ≤ rows.length ∧ fr = [(0, v), (1, .int .i64 left), (5, .int .i64 k)] ∧ Below w.heap.size w w' ∧ 0 ≤ left ∧ left ≤ 1048576 - rows.length ∧ ∀ j b, j < k → bs[j]? = some b → b.safe.length ≤ 1048576 ∧ b.fresh.length ≤ 1048576) rows.length
    [(0, v), (1, .int .i64 (1048576 - rows.length)), (5, .int .i64 0)] sl_ ⟨0, _, rfl, Nat.zero_le _, rfl, bw_, by omega, by omega, fun j b hj => absurd hj (by omega)⟩ ?_
  rintro _ _ w' ⟨k, left, rfl, hk, rfl, hB, hl0, hl1, hf⟩
  repeat' (first | (apply isL; first | apply L_nil | refine L_move rfl rfl ?_ | (apply isCall; first | refine L_lenL rfl rd_ rfl (fun hlen => ?_) | (obtain ⟨b, hb, hbr⟩ := h.at_ _ _ hy; refine L_callV rfl rfl (c_szBlob (hbr.ext bw_) hl0 om_) (fun w2 hB2 => ?_); have hbd := szB_bd (b := b) hl0 om_) ) | (apply isBin; first | refine L_do rfl rfl rfl (do_cmp rfl rfl rfl) ?_ | refine L_do rfl rfl rfl (do_add rfl rfl om_) ?_ | refine L_do rfl rfl rfl (do_sub rfl rfl om_) ?_ ) | (apply isLoad; first | refine L_loadPt rfl (by rfl) pt_ (by rfl) rfl ?_ | refine L_loadPt2 rfl (by rfl) pt_ (by rfl) rfl ?_ | refine L_loadPt0 rfl pt_ (by rfl) rfl ?_ | refine L_loadAgg rfl pt_ (by rfl) rfl ?_ | refine L_loadSub rfl (by rfl) pt_ (by rfl) rfl ?_) | refine L_assign rfl rfl ?_ | refine L_indexL rfl rfl rd_ (by rfl) om_ om_ rfl (fun a y hy hab hp => ?_) ) | (apply isW; first | apply W_seq | apply W_region | refine W_cond_dec rfl (fun hg => ?_) (fun hg => ?_) | refine W_cond_true rfl ?_ | refine W_cond_false rfl ?_ | refine W_cond rfl (fun hg => ?_) (fun hg => ?_) | apply W_skip | apply W_ret | apply W_exit | apply W_block) | (apply isAt; first | apply At_then | apply At_then_ret | apply At_then_exit | apply At_block_normal | apply At_block_ret | apply At_block_hit | refine At_block_miss rfl ?_ | refine At_end1 rfl rfl ?_ | refine At_end1n rfl rfl ?_ | refine At_end2 rfl rfl rfl ?_ | refine At_end3 rfl rfl rfl rfl ?_ | refine At_end4 rfl rfl rfl rfl rfl ?_ | refine At_mix kp_ ?_))
  · exact ⟨_, rfl, bw_, fun h => by omega⟩
  · refine At_round _ [(0, v), (1, .int .i64 (szB b left)), (5, .int .i64 ((k + 1 : Nat) : Int))] sl_ (by omega) ⟨k + 1, szB b left, rfl, by omega, rfl, bw_, by omega, by omega, fun j b' hj hb' => ?_⟩
    by_cases e : j = k
    · subst e
      rw [show b' = b from Option.some.inj (hb'.symm.trans hb)]
      exact hbd.2 (by omega)
    · exact hf j b' (by omega) hb'
  · refine ⟨_, rfl, hB, fun _ => ⟨by omega, fun b hb => ?_⟩⟩
    obtain ⟨j, hj, rfl⟩ := List.getElem_of_mem hb
    exact hf j _ (by omega) (List.getElem?_eq_getElem hj)

/-! ### Copies of files -/
/-- A slice of numbers that reads in all worlds to come: it is empty, or it is the call's own. -/
structure InL (w : World) (base : Nat) (v : Value) (xs : List Int) : Prop where
  rd : RdL tInt w v xs
  own : xs = [] ∨ OwL tInt w base 3 v xs
theorem InL.of {w : World} {base : Nat} {v : Value} {xs : List Int} (h : OwL tInt w base 3 v xs) : InL w base v xs := ⟨h.rd, .inr h⟩
theorem InL.empty {w : World} {base : Nat} {v : Value} (h : RdL tInt w v []) : InL w base v [] := ⟨h, .inl rfl⟩
theorem InL.kept {w w' : World} {base : Nat} {row : Option Nat} {v : Value} {xs : List Int} (h : InL w base v xs) (hg : w.grownBy w' row) (hne : OwL tInt w base 3 v xs → v.ownBlock = none ∨ v.ownBlock ≠ row) : InL w' base v xs := by
  rcases h.own with he | ho
  · exact ⟨rdl_empty h.rd he, .inl he⟩
  · exact .of (ho.kept hg (hne ho))
theorem InL.ext {w w' : World} {base : Nat} {v : Value} {xs : List Int} (h : InL w base v xs) (hB : Below w.heap.size w w') : InL w' base v xs := ⟨h.rd.ext hB, h.own.imp id (·.ext hB)⟩
theorem InL.rebase {w : World} {base base' : Nat} {v : Value} {xs : List Int} (h : InL w base v xs) (hb : base' ≤ base) : InL w base' v xs := ⟨h.rd, h.own.imp id (·.rebase hb)⟩
/-- Files of the call's own: the row, and what each leads to, lie in blocks from lo on. -/
structure OwBl (w : World) (base : Nat) (v : Value) (rows : List Row3) (bs : List Bl) : Prop where
  own : OwL tRow3 w base 40 v rows
  len : rows.length = bs.length
  at_ : ∀ (i : Nat) r, rows[i]? = some r → ∃ b, bs[i]? = some b ∧ r.name = b.name ∧ InL w base r.safe b.safe ∧ InL w base r.fresh b.fresh
theorem OwBl.rd {w : World} {base : Nat} {v : Value} {rows : List Row3} {bs : List Bl} (h : OwBl w base v rows bs) : RdBl w v rows bs :=
  ⟨h.own.rd, h.len, fun i r hr => let ⟨b, hb, h1, h2, h3⟩ := h.at_ i r hr; ⟨b, hb, h1, h2.rd, h3.rd⟩⟩
theorem OwBl.ext {w w' : World} {base : Nat} {v : Value} {rows : List Row3} {bs : List Bl} (h : OwBl w base v rows bs) (hB : Below w.heap.size w w') : OwBl w' base v rows bs :=
  ⟨h.own.ext hB, h.len, fun i r hr => let ⟨b, hb, h1, h2, h3⟩ := h.at_ i r hr; ⟨b, hb, h1, h2.ext hB, h3.ext hB⟩⟩
theorem OwBl.keptG {w w' : World} {base g : Nat} {v : Value} {rows : List Row3} {bs : List Bl} (h : OwBl w base v rows bs) (hg : g < base) (hB : w.grownBy w' (some g)) : OwBl w' base v rows bs :=
  ⟨h.own.kept hB (h.own.ne_ hg), h.len, fun i r hr => let ⟨b, hb, h1, h2, h3⟩ := h.at_ i r hr; ⟨b, hb, h1, h2.kept hB (·.ne_ hg), h3.kept hB (·.ne_ hg)⟩⟩
theorem OwBl.app {w w' : World} {base : Nat} {v v' : Value} {rows : List Row3} {bs : List Bl} {r : Row3} {b : Bl} (h : OwBl w base v rows bs) (hB : w.grownBy w' v.ownBlock) (hO : OwL tRow3 w' base 40 v' (rows ++ [r]))
    (hn : r.name = b.name) (h2 : InL w base r.safe b.safe) (h3 : InL w base r.fresh b.fresh) : OwBl w' base v' (rows ++ [r]) (bs ++ [b]) := by
  refine ⟨hO, by simp [h.len], fun i r' hr => ?_⟩
  rw [List.getElem?_append] at hr
  split at hr
  · rename_i hi
    obtain ⟨b', hb', k1, k2, k3⟩ := h.at_ i r' hr
    refine ⟨b', ?_, k1, k2.kept hB (·.ne_ty h.own (by decide)), k3.kept hB (·.ne_ty h.own (by decide))⟩
    rw [List.getElem?_append_left (by rw [← h.len]; exact hi)]; exact hb'
  · rename_i hi
    have hi' : i = rows.length := by
      have := (List.getElem?_eq_some_iff.1 hr).1; simp at this; omega
    subst hi'
    simp at hr
    subst hr
    exact ⟨b, by rw [h.len]; simp, hn, h2.kept hB (·.ne_ty h.own (by decide)), h3.kept hB (·.ne_ty h.own (by decide))⟩
theorem OwBl.named {w w' : World} {base : Nat} {v : Value} {rows : List Row3} {bs : List Bl} {i : Nat} {r : Row3} {b : Bl} {y : Int} (h : OwBl w base v rows bs) (hr : rows[i]? = some r) (hb : bs[i]? = some b) (hB : w.grownBy w' v.ownBlock)
    (hO : OwL tRow3 w' base 40 v (rows.set i ⟨y, r.safe, r.fresh, r.s1, r.s2⟩)) : OwBl w' base v (rows.set i ⟨y, r.safe, r.fresh, r.s1, r.s2⟩) (bs.set i ⟨y, b.safe, b.fresh⟩) := by
  have hi := (List.getElem?_eq_some_iff.1 hr).1
  have hi' := (List.getElem?_eq_some_iff.1 hb).1
  refine ⟨hO, by simp [h.len], fun j r' hr' => ?_⟩
  by_cases e : i = j
  · subst e
    rw [List.getElem?_set_self hi] at hr'
    cases hr'
    obtain ⟨b', hb', k1, k2, k3⟩ := h.at_ i r hr
    rw [hb] at hb'; cases hb'
    exact ⟨_, List.getElem?_set_self hi', rfl, k2.kept hB (·.ne_ty h.own (by decide)), k3.kept hB (·.ne_ty h.own (by decide))⟩
  · rw [List.getElem?_set_ne e] at hr'
    obtain ⟨b', hb', k1, k2, k3⟩ := h.at_ j r' hr'
    exact ⟨b', by rw [List.getElem?_set_ne e]; exact hb', k1, k2.kept hB (·.ne_ty h.own (by decide)), k3.kept hB (·.ne_ty h.own (by decide))⟩

theorem arith1 {p4 p3 p' p k : Nat} (a : p4 ≤ p3 + 210) (b : p3 ≤ p' + 1 + 210) (c : p' ≤ p + 421 * k) : p4 ≤ p + 421 * (k + 1) := by rw [Nat.mul_add]; omega
theorem arith2 {p' p k : Nat} (c : p' ≤ p + 421 * k) : p' + 1 ≤ p + 421 * (k + 1) := by rw [Nat.mul_add]; omega
/-- A slice that fills its row. -/
def FullSl (lo hi : Nat) (v : Value) (n : Nat) : Prop := ∃ g, v = .slice (some ⟨g, 0, none⟩) n n ∧ lo ≤ g ∧ g < hi
theorem FullSl.mono {lo hi lo' hi' : Nat} {v : Value} {n : Nat} (h : FullSl lo hi v n) (h1 : lo' ≤ lo) (h2 : hi ≤ hi') : FullSl lo' hi' v n := let ⟨g, e, a, b⟩ := h; ⟨g, e, by omega, by omega⟩
/-- Files of the call's own, each slice a full row, all in blocks from base below hi. -/
structure OwFl (w : World) (base hi : Nat) (v : Value) (rows : List Row3) (bs : List Bl) : Prop where
  own : OwL tRow3 w base 40 v rows
  top : ∀ g, v.ownBlock = some g → g < hi
  len : rows.length = bs.length
  at_ : ∀ (i : Nat) r, rows[i]? = some r → ∃ b, bs[i]? = some b ∧ r.name = b.name ∧ OwL tInt w base 3 r.safe b.safe ∧ OwL tInt w base 3 r.fresh b.fresh ∧ FullSl base hi r.safe b.safe.length ∧ FullSl base hi r.fresh b.fresh.length
theorem OwFl.bl {w : World} {base hi : Nat} {v : Value} {rows : List Row3} {bs : List Bl} (h : OwFl w base hi v rows bs) : OwBl w base v rows bs :=
  ⟨h.own, h.len, fun i r hr => let ⟨b, hb, h1, h2, h3, _⟩ := h.at_ i r hr; ⟨b, hb, h1, .of h2, .of h3⟩⟩
theorem OwFl.ext {w w' : World} {base hi : Nat} {v : Value} {rows : List Row3} {bs : List Bl} (h : OwFl w base hi v rows bs) (hB : Below w.heap.size w w') : OwFl w' base hi v rows bs :=
  ⟨h.own.ext hB, h.top, h.len, fun i r hr => let ⟨b, hb, h1, h2, h3, h4⟩ := h.at_ i r hr; ⟨b, hb, h1, h2.ext hB, h3.ext hB, h4⟩⟩
theorem c_toBlob {r : Row3} {b : Bl} {w : World} (h : BlOf w r b) (hs1 : b.safe.length ≤ 1048576) (hs2 : b.fresh.length ≤ 1048576) :
    Cl Tryd.prog 19 [.agg #[.int .i64 r.name, r.safe, r.fresh]] w (fun u w' => ∃ r' : Row3, u = .agg #[.int .i64 r'.name, r'.safe, r'.fresh] ∧ r'.name = b.name ∧ OwL tInt w' w.heap.size 3 r'.safe b.safe ∧ OwL tInt w' w.heap.size 3 r'.fresh b.fresh ∧ Below w.heap.size w w' ∧ FullSl w.heap.size w'.heap.size r'.safe b.safe.length ∧ FullSl w.heap.size w'.heap.size r'.fresh b.fresh.length) := by
  refine calls_start 16 Tryd.func19 rfl rfl rfl ?_
  have hs := h.safe
  have hf := h.fresh
  repeat' (first | (apply isL; first | apply L_nil | refine L_move rfl rfl ?_ | (apply isLoad; first | refine L_loadPt rfl (by rfl) pt_ (by rfl) rfl ?_ | refine L_loadPt2 rfl (by rfl) pt_ (by rfl) rfl ?_ | refine L_loadPt0 rfl pt_ (by rfl) rfl ?_ | refine L_loadAgg rfl pt_ (by rfl) rfl ?_ | refine L_loadSub rfl (by rfl) pt_ (by rfl) rfl ?_) | refine L_assign rfl rfl ?_ | refine L_do rfl rfl rfl (do_fieldAddr rfl) ?_ | (apply isAlloc; refine L_allocV (w0 := w) bw_ rfl (fun w1 hz1 hB hB1 hvz => ?_)) | (apply isBox; refine L_boxV (w0 := w) bw_ rfl rfl (fun w1 hz1 hB hB1 hv => ?_); have hp := pt_of_block hv) | (apply isAllocStore; refine L_allocStoreV (w0 := w) bw_ rfl rfl rfl rfl ?_ rfl (fun w1 hz1 hB hB1 hv => ?_); (focus (first | exact Ty.one _ _ | simp [Value.oneCell'])); have hp := pt_of_block hv) ) | (apply isW; first | apply W_seq | apply W_region | refine W_cond_dec rfl (fun hg => ?_) (fun hg => ?_) | refine W_cond_true rfl ?_ | refine W_cond_false rfl ?_ | refine W_cond rfl (fun hg => ?_) (fun hg => ?_) | apply W_skip | apply W_ret | apply W_exit | apply W_block) | (apply isAt; first | apply At_then | apply At_then_ret | apply At_then_exit | apply At_block_normal | apply At_block_ret | apply At_block_hit | refine At_block_miss rfl ?_ | refine At_end1 rfl rfl ?_ | refine At_end1n rfl rfl ?_ | refine At_end2 rfl rfl rfl ?_ | refine At_end3 rfl rfl rfl rfl ?_ | refine At_end4 rfl rfl rfl rfl rfl ?_ | refine At_mix kp_ ?_))
  rename_i wb hzb hBb hB1b wc hzc hBc hB1c hvc
  have e1 : ∀ (a : Addr), a.add 0 = a := fun a => by simp [Addr.add]
  simp only [e1]
  refine L_storeAt (b := wc.heap.size) (off := 0) rfl rfl (cs := [.int .i64 r.name]) rfl rfl (by simp [Value.oneCell']) hvz (Nat.le_of_ble_eq_true rfl) (cur' := [.int .i64 r.name, .slice none 0 0, .slice none 0 0]) rfl (fun w3 hv3 hg3 hz3 => ?_)
  have hB3 : Below w.heap.size w w3 := below_grow0 hB hg3 (fun k hk => by cases hk; have := hBc.size; omega)
  have hp3 : Pt w3 ⟨w.heap.size, 0, none⟩ [.int .i64 r.name, r.safe, r.fresh] := (Pt.ext hp bw_).kept (hg3.block _ (by simp only; omega) (by simp; omega))
  have hvc3 : w3.heap[wb.heap.size]? = _ := (hg3.block _ (by omega) (by simp; omega)).trans ((hB1.block _ (by omega)).trans hvc)
  clear hp hvz hvc hg3 hB1
  repeat' (first | (apply isL; first | apply L_nil | refine L_move rfl rfl ?_ | (apply isCall; first | (refine L_call rfl rfl (c_toIntS (xs := b.safe) (hs.ext bw_) hs1) ?_; rintro _ w4 ⟨rfl, hOs, hB4⟩) ) | (apply isLoad; first | refine L_loadPt rfl (by rfl) pt_ (by rfl) rfl ?_ | refine L_loadPt2 rfl (by rfl) pt_ (by rfl) rfl ?_ | refine L_loadPt0 rfl pt_ (by rfl) rfl ?_ | refine L_loadAgg rfl pt_ (by rfl) rfl ?_ | refine L_loadSub rfl (by rfl) pt_ (by rfl) rfl ?_) | refine L_assign rfl rfl ?_ | refine L_do rfl rfl rfl (do_fieldAddr rfl) ?_ | (apply isBox; refine L_boxV (w0 := w) bw_ rfl rfl (fun w1 hz1 hB hB1 hv => ?_); have hp := pt_of_block hv) | (apply isAllocStore; refine L_allocStoreV (w0 := w) bw_ rfl rfl rfl rfl ?_ rfl (fun w1 hz1 hB hB1 hv => ?_); (focus (first | exact Ty.one _ _ | simp [Value.oneCell'])); have hp := pt_of_block hv) ) | (apply isW; first | apply W_seq | apply W_region | refine W_cond_dec rfl (fun hg => ?_) (fun hg => ?_) | refine W_cond_true rfl ?_ | refine W_cond_false rfl ?_ | refine W_cond rfl (fun hg => ?_) (fun hg => ?_) | apply W_skip | apply W_ret | apply W_exit | apply W_block) | (apply isAt; first | apply At_then | apply At_then_ret | apply At_then_exit | apply At_block_normal | apply At_block_ret | apply At_block_hit | refine At_block_miss rfl ?_ | refine At_end1 rfl rfl ?_ | refine At_end1n rfl rfl ?_ | refine At_end2 rfl rfl rfl ?_ | refine At_end3 rfl rfl rfl rfl ?_ | refine At_end4 rfl rfl rfl rfl rfl ?_ | refine At_mix kp_ ?_))
  have hv4 : w4.heap[wc.heap.size]? = _ := (hB4.block _ (by omega)).trans hv3
  have hs4 := hB4.size
  refine L_storeAt (b := wc.heap.size) (off := 1) rfl rfl (cs := [.slice (some ⟨w3.heap.size, 0, none⟩) b.safe.length b.safe.length]) rfl rfl (by simp [Value.oneCell']) hv4 (Nat.le_of_ble_eq_true rfl) (cur' := [.int .i64 r.name, .slice (some ⟨w3.heap.size, 0, none⟩) b.safe.length b.safe.length, .slice none 0 0]) rfl (fun w5 hv5 hg5 hz5 => ?_)
  have hB5 : Below w.heap.size w w5 := below_grow0 (below_step hB3 hB4) hg5 (fun k hk => by cases hk; have := hBc.size; omega)
  have hp5 : Pt w5 ⟨w.heap.size, 0, none⟩ [.int .i64 r.name, r.safe, r.fresh] := (Pt.ext hp3 bw_).kept (hg5.block _ (by simp only; omega) (by simp; omega))
  have hvc5 : w5.heap[wb.heap.size]? = _ := (hg5.block _ (by omega) (by simp; omega)).trans ((hB4.block _ (by omega)).trans hvc3)
  have hO5 := hOs.kept hg5 (.inr (by simp [Value.ownBlock]; omega))
  clear hp3 hvc3 hv3 hv4 hg5 hOs hB4 hB3
  repeat' (first | (apply isL; first | apply L_nil | refine L_move rfl rfl ?_ | (apply isCall; first | (refine L_call rfl rfl (c_toIntS (xs := b.fresh) (hf.ext bw_) hs2) ?_; rintro _ w6 ⟨rfl, hOf, hB6⟩) ) | (apply isLoad; first | refine L_loadPt rfl (by rfl) pt_ (by rfl) rfl ?_ | refine L_loadPt2 rfl (by rfl) pt_ (by rfl) rfl ?_ | refine L_loadPt0 rfl pt_ (by rfl) rfl ?_ | refine L_loadAgg rfl pt_ (by rfl) rfl ?_ | refine L_loadSub rfl (by rfl) pt_ (by rfl) rfl ?_) | refine L_assign rfl rfl ?_ | refine L_do rfl rfl rfl (do_fieldAddr rfl) ?_ | (apply isBox; refine L_boxV (w0 := w) bw_ rfl rfl (fun w1 hz1 hB hB1 hv => ?_); have hp := pt_of_block hv) | (apply isAllocStore; refine L_allocStoreV (w0 := w) bw_ rfl rfl rfl rfl ?_ rfl (fun w1 hz1 hB hB1 hv => ?_); (focus (first | exact Ty.one _ _ | simp [Value.oneCell'])); have hp := pt_of_block hv) ) | (apply isW; first | apply W_seq | apply W_region | refine W_cond_dec rfl (fun hg => ?_) (fun hg => ?_) | refine W_cond_true rfl ?_ | refine W_cond_false rfl ?_ | refine W_cond rfl (fun hg => ?_) (fun hg => ?_) | apply W_skip | apply W_ret | apply W_exit | apply W_block) | (apply isAt; first | apply At_then | apply At_then_ret | apply At_then_exit | apply At_block_normal | apply At_block_ret | apply At_block_hit | refine At_block_miss rfl ?_ | refine At_end1 rfl rfl ?_ | refine At_end1n rfl rfl ?_ | refine At_end2 rfl rfl rfl ?_ | refine At_end3 rfl rfl rfl rfl ?_ | refine At_end4 rfl rfl rfl rfl rfl ?_ | refine At_mix kp_ ?_))
  have hv6 : w6.heap[wc.heap.size]? = _ := (hB6.block _ (by omega)).trans hv5
  have hs6 := hB6.size
  refine L_storeAt (b := wc.heap.size) (off := 2) rfl rfl (cs := [.slice (some ⟨w5.heap.size, 0, none⟩) b.fresh.length b.fresh.length]) rfl rfl (by simp [Value.oneCell']) hv6 (Nat.le_of_ble_eq_true rfl) (cur' := [.int .i64 r.name, .slice (some ⟨w3.heap.size, 0, none⟩) b.safe.length b.safe.length, .slice (some ⟨w5.heap.size, 0, none⟩) b.fresh.length b.fresh.length]) rfl (fun w7 hv7 hg7 hz7 => ?_)
  have hB7 : Below w.heap.size w w7 := below_grow0 (below_step hB5 hB6) hg7 (fun k hk => by cases hk; have := hBc.size; omega)
  have hvc7 : w7.heap[wb.heap.size]? = _ := (hg7.block _ (by omega) (by simp; omega)).trans ((hB6.block _ (by omega)).trans hvc5)
  have hO7 := (hO5.ext hB6).kept hg7 (.inr (by simp [Value.ownBlock]; omega))
  have hP7 := hOf.kept hg7 (.inr (by simp [Value.ownBlock]; omega))
  have hp7 := pt_of_block hv7
  clear hp5 hvc5 hv5 hv6 hg7 hOf hB6 hB5 hO5
  repeat' (first | (apply isL; first | apply L_nil | refine L_move rfl rfl ?_ | (apply isLoad; first | refine L_loadPt rfl (by rfl) pt_ (by rfl) rfl ?_ | refine L_loadPt2 rfl (by rfl) pt_ (by rfl) rfl ?_ | refine L_loadPt0 rfl pt_ (by rfl) rfl ?_ | refine L_loadAgg rfl pt_ (by rfl) rfl ?_ | refine L_loadSub rfl (by rfl) pt_ (by rfl) rfl ?_) | refine L_assign rfl rfl ?_ | refine L_do rfl rfl rfl (do_fieldAddr rfl) ?_ | (apply isBox; refine L_boxV (w0 := w) bw_ rfl rfl (fun w1 hz1 hB hB1 hv => ?_); have hp := pt_of_block hv) | (apply isAllocStore; refine L_allocStoreV (w0 := w) bw_ rfl rfl rfl rfl ?_ rfl (fun w1 hz1 hB hB1 hv => ?_); (focus (first | exact Ty.one _ _ | simp [Value.oneCell'])); have hp := pt_of_block hv) ) | (apply isW; first | apply W_seq | apply W_region | refine W_cond_dec rfl (fun hg => ?_) (fun hg => ?_) | refine W_cond_true rfl ?_ | refine W_cond_false rfl ?_ | refine W_cond rfl (fun hg => ?_) (fun hg => ?_) | apply W_skip | apply W_ret | apply W_exit | apply W_block) | (apply isAt; first | apply At_then | apply At_then_ret | apply At_then_exit | apply At_block_normal | apply At_block_ret | apply At_block_hit | refine At_block_miss rfl ?_ | refine At_end1 rfl rfl ?_ | refine At_end1n rfl rfl ?_ | refine At_end2 rfl rfl rfl ?_ | refine At_end3 rfl rfl rfl rfl ?_ | refine At_end4 rfl rfl rfl rfl rfl ?_ | refine At_mix kp_ ?_))
  refine L_storeAt (b := wb.heap.size) (off := 0) rfl rfl (cs := [.int .i64 r.name, .slice (some ⟨w3.heap.size, 0, none⟩) b.safe.length b.safe.length, .slice (some ⟨w5.heap.size, 0, none⟩) b.fresh.length b.fresh.length]) rfl rfl (by simp [Value.oneCell']) hvc7 (Nat.le_of_ble_eq_true rfl) rfl (fun w8 hv8 hg8 hz8 => ?_)
  have hB8 : Below w.heap.size w w8 := below_grow0 hB7 hg8 (fun k hk => by cases hk; omega)
  have hO8 := hO7.kept hg8 (.inr (by simp [Value.ownBlock]; omega))
  have hP8 := hP7.kept hg8 (.inr (by simp [Value.ownBlock]; omega))
  repeat' (first | (apply isL; first | apply L_nil | refine L_move rfl rfl ?_ | (apply isLoad; first | refine L_loadPt rfl (by rfl) pt_ (by rfl) rfl ?_ | refine L_loadPt2 rfl (by rfl) pt_ (by rfl) rfl ?_ | refine L_loadPt0 rfl pt_ (by rfl) rfl ?_ | refine L_loadAgg rfl pt_ (by rfl) rfl ?_ | refine L_loadSub rfl (by rfl) pt_ (by rfl) rfl ?_) | refine L_assign rfl rfl ?_ | refine L_do rfl rfl rfl (do_fieldAddr rfl) ?_ | (apply isBox; refine L_boxV (w0 := w) bw_ rfl rfl (fun w1 hz1 hB hB1 hv => ?_); have hp := pt_of_block hv) | (apply isAllocStore; refine L_allocStoreV (w0 := w) bw_ rfl rfl rfl rfl ?_ rfl (fun w1 hz1 hB hB1 hv => ?_); (focus (first | exact Ty.one _ _ | simp [Value.oneCell'])); have hp := pt_of_block hv) ) | (apply isW; first | apply W_seq | apply W_region | refine W_cond_dec rfl (fun hg => ?_) (fun hg => ?_) | refine W_cond_true rfl ?_ | refine W_cond_false rfl ?_ | refine W_cond rfl (fun hg => ?_) (fun hg => ?_) | apply W_skip | apply W_ret | apply W_exit | apply W_block) | (apply isAt; first | apply At_then | apply At_then_ret | apply At_then_exit | apply At_block_normal | apply At_block_ret | apply At_block_hit | refine At_block_miss rfl ?_ | refine At_end1 rfl rfl ?_ | refine At_end1n rfl rfl ?_ | refine At_end2 rfl rfl rfl ?_ | refine At_end3 rfl rfl rfl rfl ?_ | refine At_end4 rfl rfl rfl rfl rfl ?_ | refine At_mix kp_ ?_))
  refine At_endCell rfl rfl hv8 rfl ⟨⟨r.name, .slice (some ⟨w3.heap.size, 0, none⟩) b.safe.length b.safe.length, .slice (some ⟨w5.heap.size, 0, none⟩) b.fresh.length b.fresh.length, rfl, rfl⟩, rfl, h.name, OwL.rebase (base := w3.heap.size) hO8 (by omega), OwL.rebase (base := w5.heap.size) hP8 (by omega), hB8, ⟨_, rfl, by omega, by have := (hO8.lt _ rfl).2; omega⟩, ⟨_, rfl, by omega, by have := (hP8.lt _ rfl).2; omega⟩⟩

theorem c_toBlobS {v : Value} {rows : List Row3} {bs : List Bl} {w : World} (h : RdBl w v rows bs) (hsm : Small bs) :
    Cl Tryd.prog 7 [v] w (fun u w' => ∃ rows', OwBl w' w.heap.size u rows' bs ∧ Below w.heap.size w w' ∧ OwFl w' w.heap.size w'.heap.size u rows' bs) := by
  refine calls_start 23 Tryd.func7 rfl rfl rfl ?_
  have hrd := h.rd
  have hln := h.len
  have hsz := hsm.1
  repeat' (first | (apply isL; first | apply L_nil | refine L_move rfl rfl ?_ | (apply isCall; first | refine L_lenL rfl rd_ rfl (fun hlen => ?_) ) | (apply isBin; first | refine L_do rfl rfl rfl (do_cmp rfl rfl rfl) ?_ | refine L_do rfl rfl rfl (do_add rfl rfl om_) ?_ ) | (apply isLoad; first | refine L_loadPt rfl (by rfl) pt_ (by rfl) rfl ?_ | refine L_loadPt2 rfl (by rfl) pt_ (by rfl) rfl ?_ | refine L_loadPt0 rfl pt_ (by rfl) rfl ?_ | refine L_loadAgg rfl pt_ (by rfl) rfl ?_ | refine L_loadSub rfl (by rfl) pt_ (by rfl) rfl ?_) | refine L_assign rfl rfl ?_ | refine L_makeSlice (w0 := w) tRow3 ⟨0, .slice none 0 0, .slice none 0 0, rfl, rfl⟩ rfl rfl bw_ rfl rfl om_ om_ rfl (fun w1 hO hB hB1 => ?_) | refine L_indexL rfl rfl rd_ (by rfl) om_ om_ rfl (fun a y hy hab hp => ?_) ) | (apply isW; first | apply W_seq | apply W_region | refine W_cond_dec rfl (fun hg => ?_) (fun hg => ?_) | refine W_cond_true rfl ?_ | refine W_cond_false rfl ?_ | refine W_cond rfl (fun hg => ?_) (fun hg => ?_) | apply W_skip | apply W_ret | apply W_exit | apply W_block) | (apply isAt; first | apply At_then | apply At_then_ret | apply At_then_exit | apply At_block_normal | apply At_block_ret | apply At_block_hit | refine At_block_miss rfl ?_ | refine At_end1 rfl rfl ?_ | refine At_end1n rfl rfl ?_ | refine At_end2 rfl rfl rfl ?_ | refine At_end3 rfl rfl rfl rfl ?_ | refine At_end4 rfl rfl rfl rfl rfl ?_ | refine At_mix kp_ ?_))
  refine W_loopF (fun m fr w' => ∃ (k : Nat) (out : List Row3), m = rows.length - k ∧ k ≤ rows.length ∧ fr = [(0, v), (3, .slice (some ⟨w.heap.size, 0, none⟩) rows.length rows.length), (4, .int .i64 k)] ∧ Below w.heap.size w w' ∧ w.heap.size + 1 ≤ w'.heap.size ∧ out.length = rows.length ∧
      OwL tRow3 w' w.heap.size 40 (.slice (some ⟨w.heap.size, 0, none⟩) rows.length rows.length) out ∧
      ∀ j r, j < k → out[j]? = some r → ∃ b, bs[j]? = some b ∧ r.name = b.name ∧ OwL tInt w' (w.heap.size + 1) 3 r.safe b.safe ∧ OwL tInt w' (w.heap.size + 1) 3 r.fresh b.fresh ∧ FullSl w.heap.size w'.heap.size r.safe b.safe.length ∧ FullSl w.heap.size w'.heap.size r.fresh b.fresh.length) rows.length
    [(0, v), (3, .slice (some ⟨w.heap.size, 0, none⟩) rows.length rows.length), (4, .int .i64 0)] sl_ ⟨0, _, rfl, Nat.zero_le _, rfl, hB, by have := hO.lt _ rfl; omega, by simp, hO, fun j r hj => absurd hj (by omega)⟩ ?_
  rintro _ _ w' ⟨k, out, rfl, hk, rfl, hB, hz, hol, hO, hf⟩
  repeat' (first | (apply isL; first | apply L_nil | refine L_move rfl rfl ?_ | (apply isCall; first | refine L_lenL rfl rd_ rfl (fun hlen => ?_) | (obtain ⟨b, hb, hbr⟩ := h.at_ _ _ hy; have hbs := hsm.2 b (List.mem_of_getElem? hb); refine L_call rfl rfl (c_toBlob (hbr.ext bw_) hbs.1 hbs.2) ?_; rintro _ w2 ⟨r', rfl, hn', hs', hf', hB2, hu1, hu2⟩; have hO2 := hO.ext hB2) ) | (apply isBin; first | refine L_do rfl rfl rfl (do_cmp rfl rfl rfl) ?_ | refine L_do rfl rfl rfl (do_add rfl rfl om_) ?_ ) | (apply isLoad; first | refine L_loadPt rfl (by rfl) pt_ (by rfl) rfl ?_ | refine L_loadPt2 rfl (by rfl) pt_ (by rfl) rfl ?_ | refine L_loadPt0 rfl pt_ (by rfl) rfl ?_ | refine L_loadAgg rfl pt_ (by rfl) rfl ?_ | refine L_loadSub rfl (by rfl) pt_ (by rfl) rfl ?_) | refine L_assign rfl rfl ?_ | refine L_indexOwn rfl rfl hO2 rfl om_ om_ rfl (fun g y0 hy0 hg0 => ?_) | refine L_storeElem (w0 := w) (off := 0) rfl rfl hO2 rfl hg0 hy0 (cs := tRow3.enc r') rfl rfl (tRow3.one r') (Nat.le_of_ble_eq_true rfl) (y1 := r') rfl bw_ (fun w3 hO3 hB3 hg3 hz3 => ?_) | refine L_indexL rfl rfl rd_ (by rfl) om_ om_ rfl (fun a y hy hab hp => ?_) ) | (apply isW; first | apply W_seq | apply W_region | refine W_cond_dec rfl (fun hg => ?_) (fun hg => ?_) | refine W_cond_true rfl ?_ | refine W_cond_false rfl ?_ | refine W_cond rfl (fun hg => ?_) (fun hg => ?_) | apply W_skip | apply W_ret | apply W_exit | apply W_block) | (apply isAt; first | apply At_then | apply At_then_ret | apply At_then_exit | apply At_block_normal | apply At_block_ret | apply At_block_hit | refine At_block_miss rfl ?_ | refine At_end1 rfl rfl ?_ | refine At_end1n rfl rfl ?_ | refine At_end2 rfl rfl rfl ?_ | refine At_end3 rfl rfl rfl rfl ?_ | refine At_end4 rfl rfl rfl rfl rfl ?_ | refine At_mix kp_ ?_))
  · rw [show (↑k : Int).toNat = k from rfl] at hO3
    have hg0' : g = w.heap.size := by simpa [Value.ownBlock] using hg0.symm
    subst hg0'
    have hs2 := hB2.size
    refine At_round _ [(0, v), (3, .slice (some ⟨w.heap.size, 0, none⟩) rows.length rows.length), (4, .int .i64 ((k + 1 : Nat) : Int))] sl_ (by omega) ⟨k + 1, out.set k r', rfl, by omega, rfl, hB3, by omega, by simp [hol], hO3, fun j r hj hr => ?_⟩
    by_cases e : j = k
    · subst e
      rw [List.getElem?_set_self (by omega)] at hr
      cases hr
      exact ⟨b, hb, hn', (hs'.kept hg3 (hs'.ne_ (by omega))).rebase (by omega), (hf'.kept hg3 (hf'.ne_ (by omega))).rebase (by omega), hu1.mono (by omega) (by omega), hu2.mono (by omega) (by omega)⟩
    · rw [List.getElem?_set_ne (fun h => e h.symm)] at hr
      obtain ⟨b', hb', h1, h2, h3, h4, h5⟩ := hf j r (by omega) hr
      exact ⟨b', hb', h1, (h2.ext hB2).kept hg3 ((h2.ext hB2).ne_ (by omega)), (h3.ext hB2).kept hg3 ((h3.ext hB2).ne_ (by omega)), h4.mono (by omega) (by omega), h5.mono (by omega) (by omega)⟩
  · have hfl : OwFl w' w.heap.size w'.heap.size (.slice (some ⟨w.heap.size, 0, none⟩) rows.length rows.length) out bs := ⟨hO, fun g hg => (hO.lt g hg).2, by omega, fun j r hr => by
      obtain ⟨b', hb', h1, h2, h3, h4, h5⟩ := hf j r (by have := (List.getElem?_eq_some_iff.1 hr).1; omega) hr
      exact ⟨b', hb', h1, h2.rebase (by omega), h3.rebase (by omega), h4, h5⟩⟩
    exact ⟨out, hfl.bl, hB, hfl⟩

/-! ### Equality of files -/
theorem c_eqBlob {r1 r2 : Row3} {b1 b2 : Bl} {w : World} (h1 : BlOf w r1 b1) (h2 : BlOf w r2 b2) : Cl Tryd.prog 23 [.agg #[.int .i64 r1.name, r1.safe, r1.fresh], .agg #[.int .i64 r2.name, r2.safe, r2.fresh]] w (V w (.bool (decide (b1 = b2)))) := by
  refine calls_start 22 Tryd.func23 rfl rfl rfl ?_
  have ha := h1.safe
  have hb := h1.fresh
  have hc := h2.safe
  have hd := h2.fresh
  repeat' (first | (apply isL; first | apply L_nil | refine L_move rfl rfl ?_ | (apply isCall; first | refine L_callV rfl rfl (c_eqIntS (xs := b1.safe) (ys := b2.safe) rd_ rd_) (fun w2 hB2 => ?_) | refine L_callV rfl rfl (c_eqIntS (xs := b1.fresh) (ys := b2.fresh) rd_ rd_) (fun w2 hB2 => ?_) ) | (apply isBin; first | refine L_do rfl rfl rfl (do_cmp rfl rfl rfl) ?_ ) | (apply isLoad; first | refine L_loadPt rfl (by rfl) pt_ (by rfl) rfl ?_ | refine L_loadPt2 rfl (by rfl) pt_ (by rfl) rfl ?_ | refine L_loadPt0 rfl pt_ (by rfl) rfl ?_ | refine L_loadAgg rfl pt_ (by rfl) rfl ?_ | refine L_loadSub rfl (by rfl) pt_ (by rfl) rfl ?_) | refine L_assign rfl rfl ?_ | refine L_do rfl rfl rfl (do_notDec rfl) ?_ | refine L_do rfl rfl rfl (do_not rfl) ?_ | refine L_do rfl rfl rfl (do_fieldAddr rfl) ?_ | (apply isBox; refine L_boxV (w0 := w) bw_ rfl rfl (fun w1 hz1 hB hB1 hv => ?_); have hp := pt_of_block hv) ) | (apply isW; first | apply W_seq | apply W_region | refine W_cond_dec rfl (fun hg => ?_) (fun hg => ?_) | refine W_cond_true rfl ?_ | refine W_cond_false rfl ?_ | refine W_cond rfl (fun hg => ?_) (fun hg => ?_) | apply W_skip | apply W_ret | apply W_exit | apply W_block) | (apply isAt; first | apply At_then | apply At_then_ret | apply At_then_exit | apply At_block_normal | apply At_block_ret | apply At_block_hit | refine At_block_miss rfl ?_ | refine At_end1 rfl rfl ?_ | refine At_end1n rfl rfl ?_ | refine At_end2 rfl rfl rfl ?_ | refine At_end3 rfl rfl rfl rfl ?_ | refine At_end4 rfl rfl rfl rfl rfl ?_ | refine At_mix kp_ ?_))
  all_goals (refine ⟨?_, bw_⟩; congr 1; symm)
  · rw [decide_eq_false]; rintro rfl; exact hg (h1.name.trans h2.name.symm)
  · rw [decide_eq_false]; rintro rfl; exact hg rfl
  · rw [decide_eq_false]; rintro rfl; exact hg rfl
  · rw [decide_eq_true]
    have e1 : b1.name = b2.name := by rw [← h1.name, ← h2.name]; exact Classical.not_not.1 (by assumption)
    have e2 : b1.safe = b2.safe := Classical.not_not.1 (by assumption)
    have e3 : b1.fresh = b2.fresh := Classical.not_not.1 hg
    cases b1; cases b2; simp_all

end Go.Proofs.YtpdkajcnnanocaaDoor
