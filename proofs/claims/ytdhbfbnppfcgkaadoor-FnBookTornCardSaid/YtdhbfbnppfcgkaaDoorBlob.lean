/-
  Contracts on slices of integers that are made and written, and on files (blobs) and disks.
-/
import Derived.Test.YtdhbfbnppfcgkaaDoorBase2
namespace Go.Proofs.YtdhbfbnppfcgkaaDoor
open Go Go.RowKit
set_option linter.unusedVariables false

/-! ### Copies of integer slices -/
theorem set_replicate_step {α : Type} {xs : List α} {k : Nat} {x d : α} (hx : xs[k]? = some x) : (xs.take k ++ List.replicate (xs.length - k) d).set k x = xs.take (k + 1) ++ List.replicate (xs.length - (k + 1)) d := by
  have hk : k < xs.length := (List.getElem?_eq_some_iff.1 hx).1
  rw [List.set_append_right _ _ (by simp; omega), List.take_add_one, hx]
  have h1 : (List.take k xs).length = k := by simp; omega
  rw [h1, Nat.sub_self, show xs.length - k = (xs.length - (k + 1)) + 1 by omega, List.replicate_succ]
  simp

theorem c_toIntS {v : Value} {xs : List Int} {w : World} (h : RdL tInt w v xs) (hsm : xs.length ≤ 1048576) : Cl Tryd.prog 33 [v] w (fun u w' => u = .slice (some ⟨w.heap.size, 0, none⟩) xs.length xs.length ∧ OwL tInt w' w.heap.size 3 u xs ∧ Below w.heap.size w w') := by
  refine calls_start 22 Tryd.func33 rfl rfl rfl ?_
  repeat' (first | (apply isL; first | apply L_nil | refine L_move rfl rfl ?_ | (apply isCall; first | refine L_lenL rfl (by (first | assumption | exact RdL.ext (by assumption) (by (repeat (first | assumption | refine below_step ?_ (by assumption))); first | done | fail) | exact OwL.rd (by assumption) | exact RdL.ext (OwL.rd (by assumption)) (by (repeat (first | assumption | refine below_step ?_ (by assumption))); first | done | fail))) rfl (fun hlen => ?_) ) | (apply isBin; first | refine L_do rfl rfl rfl (do_cmp rfl rfl rfl) ?_ | refine L_do rfl rfl rfl (do_add rfl rfl (by omega)) ?_ ) | (apply isLoad; first | refine L_loadPt rfl (by rfl) (by (first | assumption | exact Pt.ext (by assumption) (by (repeat (first | assumption | refine below_step ?_ (by assumption))); first | done | fail))) (by rfl) rfl ?_ | refine L_loadPt2 rfl (by rfl) (by (first | assumption | exact Pt.ext (by assumption) (by (repeat (first | assumption | refine below_step ?_ (by assumption))); first | done | fail))) (by rfl) rfl ?_ | refine L_loadPt0 rfl (by (first | assumption | exact Pt.ext (by assumption) (by (repeat (first | assumption | refine below_step ?_ (by assumption))); first | done | fail))) (by rfl) rfl ?_ | refine L_loadAgg rfl (by (first | assumption | exact Pt.ext (by assumption) (by (repeat (first | assumption | refine below_step ?_ (by assumption))); first | done | fail))) (by rfl) rfl ?_ | refine L_loadSub rfl (by rfl) (by (first | assumption | exact Pt.ext (by assumption) (by (repeat (first | assumption | refine below_step ?_ (by assumption))); first | done | fail))) (by rfl) rfl ?_) | refine L_assign rfl rfl ?_ | refine L_makeSlice (w0 := w) tInt 0 rfl rfl (by (repeat (first | assumption | exact Below.refl _ _ | refine below_step ?_ (by assumption))); first | done | fail) rfl rfl (by omega) (by omega) rfl (fun w1 hO hB hB1 => ?_) | refine L_indexL rfl rfl (by (first | assumption | exact RdL.ext (by assumption) (by (repeat (first | assumption | refine below_step ?_ (by assumption))); first | done | fail) | exact OwL.rd (by assumption) | exact RdL.ext (OwL.rd (by assumption)) (by (repeat (first | assumption | refine below_step ?_ (by assumption))); first | done | fail))) (by rfl) (by omega) (by omega) rfl (fun a y hy hab hp => ?_) ) | (apply isW; first | apply W_seq | apply W_region | refine W_cond_dec rfl (fun hg => ?_) (fun hg => ?_) | refine W_cond_true rfl ?_ | refine W_cond_false rfl ?_ | refine W_cond rfl (fun hg => ?_) (fun hg => ?_) | apply W_skip | apply W_ret | apply W_exit | apply W_block) | (apply isAt; first | apply At_then | apply At_then_ret | apply At_then_exit | apply At_block_normal | apply At_block_ret | apply At_block_hit | refine At_block_miss rfl ?_ | refine At_end1 rfl rfl ?_ | refine At_end1n rfl rfl ?_ | refine At_end2 rfl rfl rfl ?_ | refine At_mix (by (repeat (first | assumption | exact Below.refl _ _ | refine below_step ?_ (by assumption) | exact World.grownBy.refl _ _ | refine kp_below ?_ (by assumption) | refine kp_row ?_ (by assumption))); first | done | fail) ?_))
  refine W_loopF (fun m fr w' => ∃ k : Nat, m = xs.length - k ∧ k ≤ xs.length ∧ fr = [(0, v), (3, .slice (some ⟨w.heap.size, 0, none⟩) xs.length xs.length), (4, .int .i64 k)] ∧ Below w.heap.size w w' ∧ OwL tInt w' w.heap.size 3 (.slice (some ⟨w.heap.size, 0, none⟩) xs.length xs.length) (xs.take k ++ List.replicate (xs.length - k) 0)) xs.length
    [(0, v), (3, .slice (some ⟨w.heap.size, 0, none⟩) xs.length xs.length), (4, .int .i64 0)] (by repeat (first | exact get_nil_slots _ | refine get_cons_slots rfl ?_)) ⟨0, rfl, Nat.zero_le _, rfl, (by (repeat (first | assumption | exact Below.refl _ _ | refine below_step ?_ (by assumption))); first | done | fail), by simpa using hO⟩ ?_
  rintro _ _ w' ⟨k, rfl, hk, rfl, hB, hO⟩
  repeat' (first | (apply isL; first | apply L_nil | refine L_move rfl rfl ?_ | (apply isCall; first | refine L_lenL rfl (by (first | assumption | exact RdL.ext (by assumption) (by (repeat (first | assumption | refine below_step ?_ (by assumption))); first | done | fail) | exact OwL.rd (by assumption) | exact RdL.ext (OwL.rd (by assumption)) (by (repeat (first | assumption | refine below_step ?_ (by assumption))); first | done | fail))) rfl (fun hlen => ?_) ) | (apply isBin; first | refine L_do rfl rfl rfl (do_cmp rfl rfl rfl) ?_ | refine L_do rfl rfl rfl (do_add rfl rfl (by omega)) ?_ ) | (apply isLoad; first | refine L_loadPt rfl (by rfl) (by (first | assumption | exact Pt.ext (by assumption) (by (repeat (first | assumption | refine below_step ?_ (by assumption))); first | done | fail))) (by rfl) rfl ?_ | refine L_loadPt2 rfl (by rfl) (by (first | assumption | exact Pt.ext (by assumption) (by (repeat (first | assumption | refine below_step ?_ (by assumption))); first | done | fail))) (by rfl) rfl ?_ | refine L_loadPt0 rfl (by (first | assumption | exact Pt.ext (by assumption) (by (repeat (first | assumption | refine below_step ?_ (by assumption))); first | done | fail))) (by rfl) rfl ?_ | refine L_loadAgg rfl (by (first | assumption | exact Pt.ext (by assumption) (by (repeat (first | assumption | refine below_step ?_ (by assumption))); first | done | fail))) (by rfl) rfl ?_ | refine L_loadSub rfl (by rfl) (by (first | assumption | exact Pt.ext (by assumption) (by (repeat (first | assumption | refine below_step ?_ (by assumption))); first | done | fail))) (by rfl) rfl ?_) | refine L_assign rfl rfl ?_ | refine L_indexOwn rfl rfl hO rfl (by omega) (by simp; omega) rfl (fun g y0 hy0 hg0 => ?_) | refine L_storeElem (off := 0) rfl rfl hO rfl hg0 hy0 (cs := [.int .i64 y]) rfl rfl (by simp [Value.oneCell']) (Nat.le_of_ble_eq_true rfl) (y1 := y) rfl (by assumption) (fun w2 hO2 hB2 hg2 hz2 => ?_) | refine L_indexL rfl rfl (by (first | assumption | exact RdL.ext (by assumption) (by (repeat (first | assumption | refine below_step ?_ (by assumption))); first | done | fail) | exact OwL.rd (by assumption) | exact RdL.ext (OwL.rd (by assumption)) (by (repeat (first | assumption | refine below_step ?_ (by assumption))); first | done | fail))) (by rfl) (by omega) (by omega) rfl (fun a y hy hab hp => ?_) ) | (apply isW; first | apply W_seq | apply W_region | refine W_cond_dec rfl (fun hg => ?_) (fun hg => ?_) | refine W_cond_true rfl ?_ | refine W_cond_false rfl ?_ | refine W_cond rfl (fun hg => ?_) (fun hg => ?_) | apply W_skip | apply W_ret | apply W_exit | apply W_block) | (apply isAt; first | apply At_then | apply At_then_ret | apply At_then_exit | apply At_block_normal | apply At_block_ret | apply At_block_hit | refine At_block_miss rfl ?_ | refine At_end1 rfl rfl ?_ | refine At_end1n rfl rfl ?_ | refine At_end2 rfl rfl rfl ?_ | refine At_mix (by (repeat (first | assumption | exact Below.refl _ _ | refine below_step ?_ (by assumption) | exact World.grownBy.refl _ _ | refine kp_below ?_ (by assumption) | refine kp_row ?_ (by assumption))); first | done | fail) ?_))
  · have hy' : xs[k]? = some y := hy
    rw [show (↑k : Int).toNat = k from rfl, set_replicate_step hy'] at hO2
    exact At_round _ [(0, v), (3, .slice (some ⟨w.heap.size, 0, none⟩) xs.length xs.length), (4, .int .i64 ((k + 1 : Nat) : Int))] (by repeat (first | exact get_nil_slots _ | refine get_cons_slots rfl ?_)) (by omega) ⟨k + 1, rfl, by omega, rfl, hB2, hO2⟩
  · have hkk : k = xs.length := by omega
    subst hkk
    refine ⟨rfl, ?_, hB⟩
    simpa using hO

/-! ### Files -/
structure Bl where
  name : Int
  safe : List Int
  fresh : List Int
  deriving DecidableEq
structure BlOf (w : World) (r : Row3) (b : Bl) : Prop where
  name : r.name = b.name
  safe : RdL tInt w r.safe b.safe
  fresh : RdL tInt w r.fresh b.fresh
theorem BlOf.ext {w w' : World} {r : Row3} {b : Bl} (h : BlOf w r b) (hB : Below w.heap.size w w') : BlOf w' r b := ⟨h.name, h.safe.ext hB, h.fresh.ext hB⟩
/-- The slice value v reads as files. -/
structure RdBl (w : World) (v : Value) (rows : List Row3) (bs : List Bl) : Prop where
  rd : RdL tRow3 w v rows
  len : rows.length = bs.length
  at_ : ∀ (i : Nat) r, rows[i]? = some r → ∃ b, bs[i]? = some b ∧ BlOf w r b
theorem RdBl.ext {w w' : World} {v : Value} {rows : List Row3} {bs : List Bl} (h : RdBl w v rows bs) (hB : Below w.heap.size w w') : RdBl w' v rows bs :=
  ⟨h.rd.ext hB, h.len, fun i r hr => let ⟨b, hb, hr'⟩ := h.at_ i r hr; ⟨b, hb, hr'.ext hB⟩⟩

def szI (n : Nat) (left : Int) : Int := if left - n < 0 then -1 else left - n
def szB (b : Bl) (left : Int) : Int := if szI b.safe.length left < 0 then -1 else szI b.fresh.length (szI b.safe.length left)
theorem szB_bd {b : Bl} {left : Int} (h0 : 0 ≤ left) (h1 : left ≤ 1048576) : szB b left ≤ left ∧ (0 ≤ szB b left → b.safe.length ≤ 1048576 ∧ b.fresh.length ≤ 1048576) := by
  unfold szB szI
  repeat' split
  all_goals (constructor; omega; intro h; constructor <;> omega)

/-- What a size that is not negative says. -/
def Small (bs : List Bl) : Prop := bs.length ≤ 1048576 ∧ ∀ b ∈ bs, b.safe.length ≤ 1048576 ∧ b.fresh.length ≤ 1048576
/-! ### Copies of files -/
/-- A slice of numbers that reads in all worlds to come: it is empty, or it is the call's own. -/
structure InL (w : World) (base : Nat) (v : Value) (xs : List Int) : Prop where
  rd : RdL tInt w v xs
  own : xs = [] ∨ OwL tInt w base 3 v xs
theorem InL.of {w : World} {base : Nat} {v : Value} {xs : List Int} (h : OwL tInt w base 3 v xs) : InL w base v xs := ⟨h.rd, .inr h⟩
theorem InL.empty {w : World} {base : Nat} {v : Value} (h : RdL tInt w v []) : InL w base v [] := ⟨h, .inl rfl⟩
theorem InL.kept {w w' : World} {base : Nat} {row : Option Nat} {v : Value} {xs : List Int} (h : InL w base v xs) (hg : w.grownBy w' row) (hne : OwL tInt w base 3 v xs → v.ownBlock = none ∨ v.ownBlock ≠ row) : InL w' base v xs := by
  rcases h.own with he | ho
  · exact ⟨rdl_empty h.rd he, .inl he⟩
  · exact .of (ho.kept hg (hne ho))
theorem InL.ext {w w' : World} {base : Nat} {v : Value} {xs : List Int} (h : InL w base v xs) (hB : Below w.heap.size w w') : InL w' base v xs := ⟨h.rd.ext hB, h.own.imp id (·.ext hB)⟩
theorem InL.rebase {w : World} {base base' : Nat} {v : Value} {xs : List Int} (h : InL w base v xs) (hb : base' ≤ base) : InL w base' v xs := ⟨h.rd, h.own.imp id (·.rebase hb)⟩
theorem arith1 {p4 p3 p' p k : Nat} (a : p4 ≤ p3 + 210) (b : p3 ≤ p' + 1 + 210) (c : p' ≤ p + 421 * k) : p4 ≤ p + 421 * (k + 1) := by rw [Nat.mul_add]; omega
theorem arith2 {p' p k : Nat} (c : p' ≤ p + 421 * k) : p' + 1 ≤ p + 421 * (k + 1) := by rw [Nat.mul_add]; omega
/-- A slice that fills its row. -/
def FullSl (lo hi : Nat) (v : Value) (n : Nat) : Prop := ∃ g, v = .slice (some ⟨g, 0, none⟩) n n ∧ lo ≤ g ∧ g < hi
theorem FullSl.mono {lo hi lo' hi' : Nat} {v : Value} {n : Nat} (h : FullSl lo hi v n) (h1 : lo' ≤ lo) (h2 : hi ≤ hi') : FullSl lo' hi' v n := let ⟨g, e, a, b⟩ := h; ⟨g, e, by omega, by omega⟩
/-! ### Equality of files -/
end Go.Proofs.YtdhbfbnppfcgkaaDoor
