/-
  Paths: what a path is (in pieces between slashes); contracts of the functions that tell whether a text is one.
-/
import Derived.Test.YtjobbcdolbhadaaGreatDoorBase
import Derived.Test.YtjobbcdolbhadaaGreatDoorShelf
import Derived.Lib.SplitLaws
namespace Go.Proofs.YtjobbcdolbhadaaGreatDoor
open Go Go.RowKit
set_option linter.unusedVariables false
set_option linter.unusedSimpArgs false

/-! ### Pieces -/
/-- What stands between the slashes of a text. -/
def pieces : Str → List Str
  | [] => [[]]
  | c :: r => if c == 47 then [] :: pieces r else (match pieces r with | p :: ps => (c :: p) :: ps | [] => [[c]])
theorem pieces_ne (s : Str) : pieces s ≠ [] := by
  cases s with
  | nil => simp [pieces]
  | cons c r => simp only [pieces]; split <;> (try split) <;> simp
theorem pieces_len : ∀ s : Str, (pieces s).length ≤ s.length + 1
  | [] => by simp [pieces]
  | c :: r => by
    have := pieces_len r
    simp only [pieces]
    split
    · simp; omega
    · split
      · rename_i p ps h; rw [h] at this; simp at this ⊢; omega
      · simp
theorem pieces_noslash : ∀ {a : Str}, (∀ x ∈ a, x ≠ 47) → pieces a = [a]
  | [], _ => rfl
  | c :: r, h => by
    have hc : (c == (47 : UInt8)) = false := beq_eq_false_iff_ne.2 (h c (by simp))
    simp only [pieces, hc, pieces_noslash (a := r) (fun x hx => h x (by simp [hx]))]
    rfl
theorem pieces_cut : ∀ {a : Str} (r : Str), (∀ x ∈ a, x ≠ 47) → pieces (a ++ 47 :: r) = a :: pieces r
  | [], r, _ => by simp [pieces]
  | c :: a, r, h => by
    have hc : (c == (47 : UInt8)) = false := beq_eq_false_iff_ne.2 (h c (by simp))
    simp only [List.cons_append, pieces, hc, pieces_cut (a := a) r (fun x hx => h x (by simp [hx]))]
    rfl
def isNameB : Str → Bool
  | [b] => decide (97 ≤ b.toNat) && decide (b.toNat ≤ 100)
  | _ => false
/-- A path: the root, or one to four names, each behind a slash. -/
def isPath (s : Str) : Bool := s == root || (match s with | 47 :: r => (pieces r).all isNameB && decide ((pieces r).length ≤ 4) | _ => false)

/-! ### The library's cut at a slash -/
theorem index_cons (c : UInt8) (s : Str) : Lib.index (c :: s) [47] = if c == 47 then 0 else if Lib.index s [47] == -1 then -1 else Lib.index s [47] + 1 := by
  rw [Lib.index_one, Lib.index_one]; rfl
theorem splitK_pieces : ∀ (s : Str) (k : Nat), s.count 47 ≤ k → Lib.splitK [47] 0 k s = pieces s
  | [], 0, _ => rfl
  | [], k + 1, _ => by simp [Lib.splitK, Lib.index, pieces]
  | c :: r, k, h => by
    by_cases hc : c = 47
    · subst hc
      cases k with
      | zero => simp at h
      | succ k =>
        have hi : Lib.index (47 :: r) [47] = 0 := by rw [index_cons]; rfl
        have hk : r.count 47 ≤ k := by simp at h; omega
        simp only [Lib.splitK, hi, pieces]
        rw [← splitK_pieces r k hk]
        simp
    · have hcb : (c == (47 : UInt8)) = false := beq_eq_false_iff_ne.2 hc
      have hk : r.count 47 ≤ k := by rw [List.count_cons, hcb] at h; simpa using h
      have ih := splitK_pieces r k hk
      simp only [pieces, hcb, ← ih]
      cases k with
      | zero => rfl
      | succ k =>
        have hge := Lib.index_ge r [47]
        by_cases hm : Lib.index r [47] = -1
        · have hi : Lib.index (c :: r) [47] = -1 := by rw [index_cons, hcb, hm]; rfl
          simp [Lib.splitK, hi, hm]
        · have hmb : (Lib.index r [47] == -1) = false := beq_eq_false_iff_ne.2 hm
          have hi : Lib.index (c :: r) [47] = Lib.index r [47] + 1 := by rw [index_cons, hcb, hmb]; rfl
          have hib : ((Lib.index r [47] + 1) == -1) = false := beq_eq_false_iff_ne.2 (by omega)
          obtain ⟨i, hii⟩ := Int.eq_ofNat_of_zero_le (show 0 ≤ Lib.index r [47] by omega)
          simp only [Lib.splitK, hi, hmb, hib, hii]
          have e1 : ((i : Int) + 1).toNat = i + 1 := by omega
          have e2 : (i : Int).toNat = i := rfl
          rw [e1, e2]
          simp [List.take_succ_cons, show i + 1 + 1 = (i + 1) + 1 from rfl]
          intro e; omega
theorem splitB_pieces (s : Str) : (Lib.splitB (mk [47]) 0 (Lib.countB (mk s) (mk [47])) (mk s)) = (pieces s).map mk := by
  have h := Lib.splitB_data (mk [47]) 0 (Lib.countB (mk s) (mk [47])) (mk s)
  have hc : Lib.countB (mk s) (mk [47]) = s.count 47 := by
    show Lib.count (mk s).data.toList (mk [47]).data.toList = _
    simp only [mk]
    exact Lib.count_one 47 s
  rw [hc] at h ⊢
  have e : ∀ b : ByteArray, b = mk b.data.toList := fun b => by cases b; simp [mk]
  have h2 : (Lib.splitB (mk [47]) 0 (s.count 47) (mk s)).map (fun b => mk b.data.toList) = ((Lib.splitB (mk [47]) 0 (s.count 47) (mk s)).map (fun b => b.data.toList)).map mk := by rw [List.map_map]; rfl
  have h3 : (Lib.splitB (mk [47]) 0 (s.count 47) (mk s)).map (fun b => mk b.data.toList) = Lib.splitB (mk [47]) 0 (s.count 47) (mk s) := by
    conv => rhs; rw [← List.map_id (Lib.splitB (mk [47]) 0 (s.count 47) (mk s))]
    exact List.map_congr_left (fun b _ => (e b).symm)
  rw [← h3, h2, h]
  simp only [mk]
  rw [splitK_pieces s _ (Nat.le_refl _)]

/-- The library's variable on how it searches holds a number. -/
def MLen (w : World) : Prop := ∃ m, w.cell? ⟨0, 0, none⟩ = some (.int .i64 m)
theorem MLen.ext {w w' : World} (h : MLen w) (hB : Below w.heap.size w w') : MLen w' := by
  obtain ⟨m, hm⟩ := h
  refine ⟨m, ?_⟩
  rw [World.cell?_of_block (w := w)]
  · exact hm
  · exact hB.block _ (World.block_lt_of_cell? w _ hm)
theorem MLen.grown {w w' : World} {row : Option Nat} (h : MLen w) (hg : w.grownBy w' row) (hr : ∀ b, row = some b → 0 < b) : MLen w' := by
  obtain ⟨m, hm⟩ := h
  refine ⟨m, ?_⟩
  rw [World.cell?_of_block (w := w)]
  · exact hm
  · exact hg.block _ (World.block_lt_of_cell? w _ hm) (fun e => Nat.lt_irrefl _ (hr _ e.symm))

theorem c_Split {s : Str} {w : World} (hm : MLen w) (hs : s.length < 4294967281) : Cl Tryz.prog 86 [.string (mk s), .string (mk [47])] w (fun u w' => OwL tStr w' w.heap.size 9 u (pieces s) ∧ Below w.heap.size w w') := by
  obtain ⟨m, hm⟩ := hm
  refine ⟨?_⟩
  have hlen : (pieces s).length = Lib.countB (mk s) (mk [47]) + 1 := by
    rw [← Lib.splitB_all (mk [47]) (by decide) 0 _ (mk s) rfl, splitB_pieces, List.length_map]
  refine (Tryz.strings_Split (mk s) (mk [47]) m w (by rw [mk_size]; exact hs) hm (by decide)).mono fun e w' ⟨he, hw⟩ => ⟨_, he, ?_, by rw [hw]; exact (Below.refl _ _).alloc (Nat.le_refl _) _⟩
  rw [hw, ← hlen]
  have hpl := pieces_len s
  have hcells : ((Lib.splitB (mk [47]) 0 (Lib.countB (mk s) (mk [47])) (mk s)).map Value.string).toArray.toList = (pieces s).flatMap tStr.enc := by
    rw [splitB_pieces]
    simp only [List.map_map]
    induction pieces s with
    | nil => rfl
    | cons p r ih => simp [tStr] at ih ⊢; exact ih
  have hl2 : ((Lib.splitB (mk [47]) 0 (Lib.countB (mk s) (mk [47])) (mk s)).map Value.string).toArray.size = (pieces s).length * tStr.size := by
    rw [← flat_len tStr, ← hcells, Array.length_toList]
  exact ⟨by rw [← hcells]; exact World.ownsRow_lit w _ _ (Nat.le_refl _) (by unfold maxLen; omega) hl2⟩

/-! ### Names and paths -/
theorem len_one {s : Str} {b : UInt8} (h : s.length = 1) (hb : s[0]? = some b) : s = [b] := by
  match s, h with
  | [x], _ => simp at hb; subst hb; rfl
theorem isNameB_len {s : Str} (h : ¬ s.length = 1) : isNameB s = false := by
  match s with
  | [] => rfl
  | [x] => simp at h
  | _ :: _ :: _ => rfl
theorem c_isName {s : Str} {w : World} : Cl Tryz.prog 88 [.string (mk s)] w (V w (.bool (isNameB s))) := by
  refine calls_start 16 Tryz.func88 rfl rfl rfl ?_
  repeat' (first | (apply isL; first | apply L_nil | refine L_move rfl rfl ?_ | (apply isGuarded; first | refine L_guard_dec rfl rfl (fun hg => ?_) (fun hg => ?_) | refine L_guard_yes rfl rfl ?_ | refine L_guard_no rfl rfl rfl rfl ?_ | refine L_guard_undef rfl rfl rfl ?_ | refine L_guard_split rfl rfl (fun hg => ?_) (fun hg => ?_)) | (apply isCall; first | refine L_do rfl rfl rfl (do_lenS rfl) ?_ | refine L_do rfl rfl rfl (do_lenStr rfl) ?_ ) | (apply isBin; first | refine L_do rfl rfl rfl (do_cmp rfl rfl rfl) ?_ ) | refine L_assign rfl rfl ?_ | refine L_do rfl rfl rfl (do_pick_true rfl rfl) ?_ | refine L_do rfl rfl rfl (do_pick_false rfl rfl) ?_ | refine L_indexStr rfl rfl om_ om_ rfl (fun b hb => ?_) ) | (apply isW; first | apply W_seq | apply W_region | refine W_cond_dec rfl (fun hg => ?_) (fun hg => ?_) | refine W_cond_true rfl ?_ | refine W_cond_false rfl ?_ | refine W_cond rfl (fun hg => ?_) (fun hg => ?_) | apply W_skip | apply W_ret | apply W_exit | apply W_block) | (apply isAt; first | apply At_then | apply At_then_ret | apply At_then_exit | apply At_block_normal | apply At_block_ret | apply At_block_hit | refine At_block_miss rfl ?_ | refine At_end1 rfl rfl ?_ | refine At_end1n rfl rfl ?_ | refine At_end2 rfl rfl rfl ?_ | refine At_end3 rfl rfl rfl rfl ?_ | refine At_end4 rfl rfl rfl rfl rfl ?_ | refine At_end5 rfl rfl rfl rfl rfl rfl ?_ | refine At_mix kp_ ?_))
  · rename_i hl b1 hb1
    obtain rfl := Option.some.inj (hb1.symm.trans hb)
    have e := len_one (by omega) hb
    subst e
    refine ⟨?_, bw_⟩
    simp only [isNameB]
    rw [show decide (97 ≤ b1.toNat) = true from decide_eq_true (by omega), Bool.true_and]
    congr 1; exact decide_eq_decide.2 (by omega)
  · have e := len_one (by omega) hb
    subst e
    exact ⟨by simp [isNameB]; omega, bw_⟩
  · exact ⟨by rw [isNameB_len (by omega)], bw_⟩
theorem c_l1Name {s : Str} {w : World} : Cl Tryz.prog 152 [.string (mk s)] w (V w (.bool (isNameB s))) := by
  refine calls_start 16 Tryz.func152 rfl rfl rfl ?_
  repeat' (first | (apply isL; first | apply L_nil | refine L_move rfl rfl ?_ | (apply isGuarded; first | refine L_guard_dec rfl rfl (fun hg => ?_) (fun hg => ?_) | refine L_guard_yes rfl rfl ?_ | refine L_guard_no rfl rfl rfl rfl ?_ | refine L_guard_undef rfl rfl rfl ?_ | refine L_guard_split rfl rfl (fun hg => ?_) (fun hg => ?_)) | (apply isCall; first | refine L_do rfl rfl rfl (do_lenS rfl) ?_ | refine L_do rfl rfl rfl (do_lenStr rfl) ?_ ) | (apply isBin; first | refine L_do rfl rfl rfl (do_cmp rfl rfl rfl) ?_ ) | refine L_assign rfl rfl ?_ | refine L_do rfl rfl rfl (do_pick_true rfl rfl) ?_ | refine L_do rfl rfl rfl (do_pick_false rfl rfl) ?_ | refine L_indexStr rfl rfl om_ om_ rfl (fun b hb => ?_) ) | (apply isW; first | apply W_seq | apply W_region | refine W_cond_dec rfl (fun hg => ?_) (fun hg => ?_) | refine W_cond_true rfl ?_ | refine W_cond_false rfl ?_ | refine W_cond rfl (fun hg => ?_) (fun hg => ?_) | apply W_skip | apply W_ret | apply W_exit | apply W_block) | (apply isAt; first | apply At_then | apply At_then_ret | apply At_then_exit | apply At_block_normal | apply At_block_ret | apply At_block_hit | refine At_block_miss rfl ?_ | refine At_end1 rfl rfl ?_ | refine At_end1n rfl rfl ?_ | refine At_end2 rfl rfl rfl ?_ | refine At_end3 rfl rfl rfl rfl ?_ | refine At_end4 rfl rfl rfl rfl rfl ?_ | refine At_end5 rfl rfl rfl rfl rfl rfl ?_ | refine At_mix kp_ ?_))
  · rename_i hl b1 hb1
    obtain rfl := Option.some.inj (hb1.symm.trans hb)
    have e := len_one (by omega) hb
    subst e
    refine ⟨?_, bw_⟩
    simp only [isNameB]
    rw [show decide (97 ≤ b1.toNat) = true from decide_eq_true (by omega), Bool.true_and]
    congr 1; exact decide_eq_decide.2 (by omega)
  · have e := len_one (by omega) hb
    subst e
    exact ⟨by simp [isNameB]; omega, bw_⟩
  · exact ⟨by rw [isNameB_len (by omega)], bw_⟩

theorem slash_ne {c : UInt8} (h : ¬ ((c.toNat : Nat) : Int) = 47) : c ≠ 47 := fun e => h (by subst e; rfl)
theorem slash_eq {c : UInt8} (h : ((c.toNat : Nat) : Int) = 47) : c = 47 := by
  apply UInt8.toNat_inj.1
  have : (47 : UInt8).toNat = 47 := rfl
  omega

theorem drop_split {s : Str} {f k : Nat} {c : UInt8} (hfk : f ≤ k) (hc : s[k]? = some c) : s.drop f = (s.take k).drop f ++ c :: s.drop (k + 1) := by
  obtain ⟨hk, he⟩ := List.getElem?_eq_some_iff.1 hc
  conv => lhs; rw [← List.take_append_drop k s, List.drop_append_of_le_length (by simp; omega), List.drop_eq_getElem_cons hk, he]
theorem take_snoc {s : Str} {f k : Nat} {c : UInt8} (hfk : f ≤ k) (hc : s[k]? = some c) : (s.take (k + 1)).drop f = (s.take k).drop f ++ [c] := by
  obtain ⟨hk, he⟩ := List.getElem?_eq_some_iff.1 hc
  rw [List.take_add_one, hc, List.drop_append_of_le_length (by simp; omega)]; rfl
theorem c_l1Names {s : Str} {w : World} (h1 : 1 ≤ s.length) (hs : s.length ≤ 4294967280) : Cl Tryz.prog 151 [.string (mk s)] w (fun u w' => OwL tStr w' w.heap.size 9 u (pieces (s.drop 1)) ∧ Below w.heap.size w w') := by
  refine calls_start 32 Tryz.func151 rfl rfl rfl ?_
  repeat' (first | (apply isL; first | apply L_nil | refine L_move rfl rfl ?_ | (apply isCall; first | refine L_do rfl rfl rfl (do_lenS rfl) ?_ | refine L_do rfl rfl rfl (do_lenStr rfl) ?_ ) | (apply isBin; first | refine L_do rfl rfl rfl (do_cmp rfl rfl rfl) ?_ | refine L_do rfl rfl rfl (do_add rfl rfl om_) ?_ ) | refine L_assign rfl rfl ?_ | refine L_indexStr rfl rfl om_ om_ rfl (fun b hb => ?_) | refine L_buildSlice0 (w0 := w) tStr bw_ rfl (fun w1 hO1 hB1 hC1 => ?_) ) | (apply isW; first | apply W_seq | apply W_region | refine W_cond_dec rfl (fun hg => ?_) (fun hg => ?_) | refine W_cond_true rfl ?_ | refine W_cond_false rfl ?_ | refine W_cond rfl (fun hg => ?_) (fun hg => ?_) | apply W_skip | apply W_ret | apply W_exit | apply W_block) | (apply isAt; first | apply At_then | apply At_then_ret | apply At_then_exit | apply At_block_normal | apply At_block_ret | apply At_block_hit | refine At_block_miss rfl ?_ | refine At_end1 rfl rfl ?_ | refine At_end1n rfl rfl ?_ | refine At_end2 rfl rfl rfl ?_ | refine At_end3 rfl rfl rfl rfl ?_ | refine At_end4 rfl rfl rfl rfl rfl ?_ | refine At_end5 rfl rfl rfl rfl rfl rfl ?_ | refine At_mix kp_ ?_))
  refine W_loopF (fun m fr w' => ∃ (k f : Nat) (u : Value) (xs : List Str), m = s.length - k ∧ k ≤ s.length ∧ 1 ≤ f ∧ f ≤ k ∧ fr = [(0, .string (mk s)), (3, u), (4, .int .i64 f), (5, .int .i64 k)] ∧ Below w.heap.size w w' ∧ OwL tStr w' w.heap.size 9 u xs ∧ xs.length ≤ k ∧
      pieces (s.drop 1) = xs ++ pieces (s.drop f) ∧ ∀ x ∈ (s.take k).drop f, x ≠ 47) (s.length - 1)
    [(0, .string (mk s)), (3, .slice (some ⟨w.heap.size, 0, none⟩) 0 0), (4, .int .i64 1), (5, .int .i64 1)] sl_ ⟨1, 1, _, [], rfl, h1, Nat.le_refl _, Nat.le_refl _, rfl, hB1, hO1, by simp, rfl, fun x hx => by
      have : (s.take 1).drop 1 = [] := List.drop_eq_nil_of_le (by simp; omega)
      rw [this] at hx; cases hx⟩ ?_
  clear hO1 hB1 hC1
  rintro _ _ w' ⟨k, f, u, xs, rfl, hk, hf1, hfk, rfl, hB, hO, hxl, hpc, hns⟩
  repeat' (first | (apply isL; first | apply L_nil | refine L_move rfl rfl ?_ | (apply isCall; first | refine L_do rfl rfl rfl (do_lenS rfl) ?_ | refine L_do rfl rfl rfl (do_lenStr rfl) ?_ | refine L_append (w0 := w) rfl rfl bw_ (hO.ext hB3) hO3.rd rfl (by simp; omega) (by simp; omega) rfl (fun v4 w4 hO4 hB4 hg4 => ?_) ) | (apply isBin; first | refine L_do rfl rfl rfl (do_cmp rfl rfl rfl) ?_ | refine L_do rfl rfl rfl (do_add rfl rfl om_) ?_ ) | refine L_assign rfl rfl ?_ | refine L_indexStr rfl rfl om_ om_ rfl (fun b hb => ?_) | refine L_do rfl rfl rfl (do_sliceSLH rfl rfl rfl om_ om_ om_) ?_ | refine L_do rfl rfl rfl (do_sliceSL rfl rfl om_ om_) ?_ | refine L_buildSliceL tStr [(s.take (k : Int).toNat).drop (f : Int).toNat] rfl rfl rfl rfl rfl rfl rfl rfl (fun w3 hO3 hB3 => ?_) | refine L_buildSliceL tStr [s.drop (f : Int).toNat] rfl rfl rfl rfl rfl rfl rfl rfl (fun w3 hO3 hB3 => ?_) ) | (apply isW; first | apply W_seq | apply W_region | refine W_cond_dec rfl (fun hg => ?_) (fun hg => ?_) | refine W_cond_true rfl ?_ | refine W_cond_false rfl ?_ | refine W_cond rfl (fun hg => ?_) (fun hg => ?_) | apply W_skip | apply W_ret | apply W_exit | apply W_block) | (apply isAt; first | apply At_then | apply At_then_ret | apply At_then_exit | apply At_block_normal | apply At_block_ret | apply At_block_hit | refine At_block_miss rfl ?_ | refine At_end1 rfl rfl ?_ | refine At_end1n rfl rfl ?_ | refine At_end2 rfl rfl rfl ?_ | refine At_end3 rfl rfl rfl rfl ?_ | refine At_end4 rfl rfl rfl rfl rfl ?_ | refine At_end5 rfl rfl rfl rfl rfl rfl ?_ | refine At_mix kp_ ?_))
  · have hb' : s[k]? = some b := hb
    have hb47 := slash_eq hg
    subst hb47
    refine At_round _ [(0, .string (mk s)), (3, v4), (4, .int .i64 ((k + 1 : Nat) : Int)), (5, .int .i64 ((k + 1 : Nat) : Int))] sl_ (by omega) ⟨k + 1, k + 1, v4, _, rfl, by omega, by omega, Nat.le_refl _, rfl, hB4, hO4, by simp; omega, ?_, fun x hx => ?_⟩
    · rw [hpc, drop_split hfk hb', pieces_cut _ hns, List.append_assoc]; rfl
    · have : (s.take (k + 1)).drop (k + 1) = [] := List.drop_eq_nil_of_le (by simp; omega)
      rw [this] at hx; cases hx
  · have hb' : s[k]? = some b := hb
    refine At_round _ [(0, .string (mk s)), (3, u), (4, .int .i64 f), (5, .int .i64 ((k + 1 : Nat) : Int))] sl_ (by omega) ⟨k + 1, f, u, xs, rfl, by omega, hf1, by omega, rfl, hB, hO, by omega, hpc, fun x hx => ?_⟩
    rw [take_snoc hfk hb'] at hx
    rcases List.mem_append.1 hx with hx | hx
    · exact hns x hx
    · simp at hx; subst hx; exact slash_ne hg
  · rw [List.take_of_length_le (by omega)] at hns
    refine ⟨?_, hB4⟩
    rw [hpc, pieces_noslash hns]; exact hO4

theorem isPath_not {s : Str} {b : UInt8} (h : s[0]? = some b) (hb : ¬ ((b.toNat : Nat) : Int) = 47) : isPath s = false := by
  match s, h with
  | c :: r, h =>
    simp at h; subst h
    have hne := slash_ne hb
    unfold isPath
    have h1 : ((c :: r) == root) = false := beq_eq_false_iff_ne.2 (fun e => by injection e with e _; exact hne e)
    rw [h1, Bool.false_or]
    split
    · rename_i h2; injection h2 with h2 _; exact absurd h2 hne
    · rfl
theorem isPath_at {s : Str} {b : UInt8} (h : s[0]? = some b) (hb : ((b.toNat : Nat) : Int) = 47) (hne : ¬ s = [47]) : isPath s = ((pieces (s.drop 1)).all isNameB && decide ((pieces (s.drop 1)).length ≤ 4)) := by
  match s, h with
  | c :: r, h =>
    simp at h; subst h
    have := slash_eq hb
    subst this
    unfold isPath
    have h1 : ((47 :: r) == root) = false := beq_eq_false_iff_ne.2 hne
    rw [h1, Bool.false_or]
    rfl
theorem all_stepB {α : Type} {p : α → Bool} {xs : List α} {k : Nat} {y : α} (h : (xs.take k).all p = true) (hy : xs[k]? = some y) (hp : p y = true) : (xs.take (k + 1)).all p = true := by
  rw [List.take_add_one, hy, List.all_append, h]; simp [hp]
theorem all_badB {α : Type} {p : α → Bool} {xs : List α} {k : Nat} {y : α} (hy : xs[k]? = some y) (hp : p y = false) : xs.all p = false := by
  rw [Bool.eq_false_iff]; intro h
  rw [List.all_eq_true.1 h y (List.mem_of_getElem? hy)] at hp
  cases hp

theorem c_specPathValid {s : Str} {w : World} (hs : s.length ≤ 4294967280) : Cl Tryz.prog 131 [.string (mk s)] w (V w (.bool (isPath s))) := by
  refine calls_start 32 Tryz.func131 rfl rfl rfl ?_
  repeat' (first | (apply isL; first | apply L_nil | refine L_move rfl rfl ?_ | (apply isGuarded; first | refine L_guard_dec rfl rfl (fun hg => ?_) (fun hg => ?_) | refine L_guard_yes rfl rfl ?_ | refine L_guard_no rfl rfl rfl rfl ?_ | refine L_guard_undef rfl rfl rfl ?_ | refine L_guard_split rfl rfl (fun hg => ?_) (fun hg => ?_)) | (apply isCall; first | refine L_lenL rfl rd_ rfl (fun hlen => ?_) | refine L_do rfl rfl rfl (do_lenS rfl) ?_ | refine L_do rfl rfl rfl (do_lenStr rfl) ?_ | (refine L_call rfl rfl (c_l1Names om_ hs) (fun u w2 hR => ?_); obtain ⟨hO2, hB2⟩ := hR) ) | (apply isBin; first | refine L_do rfl rfl rfl (do_cmp rfl rfl rfl) ?_ | refine L_do rfl rfl rfl (do_cmpStr rfl rfl rfl) ?_ | refine L_do rfl rfl rfl (do_add rfl rfl om_) ?_ ) | (apply isLoad; first | refine L_loadPt rfl (by rfl) pt_ (by rfl) rfl ?_ | refine L_loadPt2 rfl (by rfl) pt_ (by rfl) rfl ?_ | refine L_loadPt0 rfl pt_ (by rfl) rfl ?_ | refine L_loadAgg rfl pt_ (by rfl) rfl ?_ | refine L_loadSub rfl (by rfl) pt_ (by rfl) rfl ?_) | refine L_assign rfl rfl ?_ | refine L_do rfl rfl rfl (do_pick_true rfl rfl) ?_ | refine L_do rfl rfl rfl (do_pick_false rfl rfl) ?_ | refine L_do rfl rfl rfl (do_notDec rfl) ?_ | refine L_do rfl rfl rfl (do_not rfl) ?_ | refine L_indexStr rfl rfl om_ om_ rfl (fun b hb => ?_) | refine L_indexL rfl rfl rd_ (by rfl) om_ om_ rfl (fun a y hy hab hp => ?_) ) | (apply isW; first | apply W_seq | apply W_region | refine W_cond_dec rfl (fun hg => ?_) (fun hg => ?_) | refine W_cond_true rfl ?_ | refine W_cond_false rfl ?_ | refine W_cond rfl (fun hg => ?_) (fun hg => ?_) | apply W_skip | apply W_ret | apply W_exit | apply W_block) | (apply isAt; first | apply At_then | apply At_then_ret | apply At_then_exit | apply At_block_normal | apply At_block_ret | apply At_block_hit | refine At_block_miss rfl ?_ | refine At_end1 rfl rfl ?_ | refine At_end1n rfl rfl ?_ | refine At_end2 rfl rfl rfl ?_ | refine At_end3 rfl rfl rfl rfl ?_ | refine At_end4 rfl rfl rfl rfl rfl ?_ | refine At_end5 rfl rfl rfl rfl rfl rfl ?_ | refine At_mix kp_ ?_))
  · exact ⟨by rw [hg]; rfl, bw_⟩
  · have e : s = [] := List.eq_nil_of_length_eq_zero (by omega)
    exact ⟨by rw [e]; rfl, bw_⟩
  · exact ⟨by rw [isPath_not hb hg], bw_⟩
  · rw [isPath_at hb (Classical.not_not.1 hg) (by assumption)]
    have hrd := hO2.rd
    have hml := hrd.maxLen
    refine W_loopF (fun m fr w' => ∃ k : Nat, m = (pieces (s.drop 1)).length - k ∧ k ≤ (pieces (s.drop 1)).length ∧ fr = [(3, u), (4, .int .i64 k)] ∧ Below w.heap.size w w' ∧ RdL tStr w' u (pieces (s.drop 1)) ∧ ((pieces (s.drop 1)).take k).all isNameB = true) (pieces (s.drop 1)).length
      [(3, u), (4, .int .i64 0)] sl_ ⟨0, rfl, Nat.zero_le _, rfl, bw_, hrd, rfl⟩ ?_
    clear hO2 hrd hB2
    rintro _ _ w' ⟨k, rfl, hk, rfl, hB, hrd, hf⟩
    repeat' (first | (apply isL; first | apply L_nil | refine L_move rfl rfl ?_ | (apply isGuarded; first | refine L_guard_dec rfl rfl (fun hg => ?_) (fun hg => ?_) | refine L_guard_yes rfl rfl ?_ | refine L_guard_no rfl rfl rfl rfl ?_ | refine L_guard_undef rfl rfl rfl ?_ | refine L_guard_split rfl rfl (fun hg => ?_) (fun hg => ?_)) | (apply isCall; first | refine L_lenL rfl rd_ rfl (fun hlen => ?_) | refine L_do rfl rfl rfl (do_lenS rfl) ?_ | refine L_do rfl rfl rfl (do_lenStr rfl) ?_ | refine L_callV rfl rfl c_l1Name (fun w3 hB3 => ?_) ) | (apply isBin; first | refine L_do rfl rfl rfl (do_cmp rfl rfl rfl) ?_ | refine L_do rfl rfl rfl (do_cmpStr rfl rfl rfl) ?_ | refine L_do rfl rfl rfl (do_add rfl rfl om_) ?_ ) | (apply isLoad; first | refine L_loadPt rfl (by rfl) pt_ (by rfl) rfl ?_ | refine L_loadPt2 rfl (by rfl) pt_ (by rfl) rfl ?_ | refine L_loadPt0 rfl pt_ (by rfl) rfl ?_ | refine L_loadAgg rfl pt_ (by rfl) rfl ?_ | refine L_loadSub rfl (by rfl) pt_ (by rfl) rfl ?_) | refine L_assign rfl rfl ?_ | refine L_do rfl rfl rfl (do_pick_true rfl rfl) ?_ | refine L_do rfl rfl rfl (do_pick_false rfl rfl) ?_ | refine L_do rfl rfl rfl (do_notDec rfl) ?_ | refine L_do rfl rfl rfl (do_not rfl) ?_ | refine L_indexStr rfl rfl om_ om_ rfl (fun b hb => ?_) | refine L_indexL rfl rfl rd_ (by rfl) om_ om_ rfl (fun a y hy hab hp => ?_) ) | (apply isW; first | apply W_seq | apply W_region | refine W_cond_dec rfl (fun hg => ?_) (fun hg => ?_) | refine W_cond_true rfl ?_ | refine W_cond_false rfl ?_ | refine W_cond rfl (fun hg => ?_) (fun hg => ?_) | apply W_skip | apply W_ret | apply W_exit | apply W_block) | (apply isAt; first | apply At_then | apply At_then_ret | apply At_then_exit | apply At_block_normal | apply At_block_ret | apply At_block_hit | refine At_block_miss rfl ?_ | refine At_end1 rfl rfl ?_ | refine At_end1n rfl rfl ?_ | refine At_end2 rfl rfl rfl ?_ | refine At_end3 rfl rfl rfl rfl ?_ | refine At_end4 rfl rfl rfl rfl rfl ?_ | refine At_end5 rfl rfl rfl rfl rfl rfl ?_ | refine At_mix kp_ ?_))
    · exact ⟨by rw [all_badB hy (by simpa using hg)]; rfl, bw_⟩
    · exact At_round _ [(3, u), (4, .int .i64 ((k + 1 : Nat) : Int))] sl_ (by omega) ⟨k + 1, rfl, by omega, rfl, bw_, hrd.ext bw_, all_stepB hf hy (by simpa using hg)⟩
    · rw [List.take_of_length_le (by omega)] at hf
      exact ⟨by rw [hf, Bool.true_and]; congr 1; exact decide_eq_decide.2 (by omega), hB⟩

theorem pieces_head_ne {s y : Str} (h : (pieces s)[0]? = some y) (hy : ¬ y = []) : isPath s = false := by
  match s with
  | [] => simp [pieces] at h; exact absurd h hy
  | c :: r =>
    by_cases hc : c = 47
    · subst hc; simp [pieces] at h; exact absurd h hy
    · unfold isPath
      have h1 : ((c :: r) == root) = false := beq_eq_false_iff_ne.2 (fun e => by injection e with e _; exact hc e)
      rw [h1, Bool.false_or]
      split
      · rename_i h2; injection h2 with h2 _; exact absurd h2 hc
      · rfl
theorem pieces_head_nil {s : Str} (h : (pieces s)[0]? = some []) : s = [] ∨ ∃ r, s = 47 :: r := by
  match s with
  | [] => exact .inl rfl
  | c :: r =>
    by_cases hc : c = 47
    · subst hc; exact .inr ⟨r, rfl⟩
    · have hcb : (c == (47 : UInt8)) = false := beq_eq_false_iff_ne.2 hc
      simp only [pieces, hcb] at h
      split at h
      · rename_i h2; cases h2
      · split at h <;> simp at h
theorem isPath_slash {r : Str} (hne : ¬ (47 :: r : Str) = [47]) : isPath (47 :: r) = ((pieces r).all isNameB && decide ((pieces r).length ≤ 4)) := isPath_at (s := 47 :: r) (b := 47) rfl rfl hne
theorem pieces_slash (r : Str) : pieces (47 :: r) = [] :: pieces r := rfl

theorem c_implPathValid {s : Str} {w : World} (hm : MLen w) (hs : s.length ≤ 4294967280) : Cl Tryz.prog 52 [.string (mk s)] w (V w (.bool (isPath s))) := by
  refine calls_start 32 Tryz.func52 rfl rfl rfl ?_
  have hpl : (pieces s).length ≠ 0 := fun e => pieces_ne s (List.eq_nil_of_length_eq_zero e)
  repeat' (first | (apply isL; first | apply L_nil | refine L_move rfl rfl ?_ | (apply isGuarded; first | refine L_guard_dec rfl rfl (fun hg => ?_) (fun hg => ?_) | refine L_guard_yes rfl rfl ?_ | refine L_guard_no rfl rfl rfl rfl ?_ | refine L_guard_undef rfl rfl rfl ?_ | refine L_guard_split rfl rfl (fun hg => ?_) (fun hg => ?_)) | (apply isCall; first | refine L_lenL rfl rd_ rfl (fun hlen => ?_) | (refine L_call rfl rfl (c_Split hm om_) (fun u w2 hR => ?_); obtain ⟨hO2, hB2⟩ := hR) | refine L_callV rfl rfl c_in (fun w3 hB3 => ?_) ) | (apply isBin; first | refine L_do rfl rfl rfl (do_cmp rfl rfl rfl) ?_ | refine L_do rfl rfl rfl (do_cmpStr rfl rfl rfl) ?_ | refine L_do rfl rfl rfl (do_add rfl rfl om_) ?_ | refine L_do rfl rfl rfl (do_sub rfl rfl om_) ?_ ) | (apply isLoad; first | refine L_loadPt rfl (by rfl) pt_ (by rfl) rfl ?_ | refine L_loadPt2 rfl (by rfl) pt_ (by rfl) rfl ?_ | refine L_loadPt0 rfl pt_ (by rfl) rfl ?_ | refine L_loadAgg rfl pt_ (by rfl) rfl ?_ | refine L_loadSub rfl (by rfl) pt_ (by rfl) rfl ?_) | refine L_assign rfl rfl ?_ | refine L_do rfl rfl rfl (do_pick_true rfl rfl) ?_ | refine L_do rfl rfl rfl (do_pick_false rfl rfl) ?_ | refine L_do rfl rfl rfl (do_notDec rfl) ?_ | refine L_do rfl rfl rfl (do_not rfl) ?_ | refine L_sliceL rfl rfl (hO2.rd.ext bw_) rfl om_ om_ rfl (fun sv hsl hob => ?_) | refine L_indexL rfl rfl rd_ (by rfl) om_ om_ rfl (fun a y hy hab hp => ?_) ) | (apply isW; first | apply W_seq | apply W_region | refine W_cond_dec rfl (fun hg => ?_) (fun hg => ?_) | refine W_cond_true rfl ?_ | refine W_cond_false rfl ?_ | refine W_cond rfl (fun hg => ?_) (fun hg => ?_) | apply W_skip | apply W_ret | apply W_exit | apply W_block) | (apply isAt; first | apply At_then | apply At_then_ret | apply At_then_exit | apply At_block_normal | apply At_block_ret | apply At_block_hit | refine At_block_miss rfl ?_ | refine At_end1 rfl rfl ?_ | refine At_end1n rfl rfl ?_ | refine At_end2 rfl rfl rfl ?_ | refine At_end3 rfl rfl rfl rfl ?_ | refine At_end4 rfl rfl rfl rfl rfl ?_ | refine At_end5 rfl rfl rfl rfl rfl rfl ?_ | refine At_mix kp_ ?_))
  · exact ⟨by rw [hg]; rfl, bw_⟩
  · exact ⟨by rw [pieces_head_ne hy hg], bw_⟩
  · have hyn : y = [] := Classical.not_not.1 (by assumption)
    rw [hyn] at hy
    rcases pieces_head_nil hy with e | ⟨r, e⟩
    · exact ⟨by rw [e]; rfl, bw_⟩
    · subst e
      have hr : (pieces r).length ≠ 0 := fun e => pieces_ne r (List.eq_nil_of_length_eq_zero e)
      rw [pieces_slash, List.length_cons] at hg
      exact ⟨by rw [isPath_slash (by assumption), decide_eq_false (by omega), Bool.and_false], bw_⟩
  · have hyn : y = [] := Classical.not_not.1 (by assumption)
    rw [hyn] at hy
    rcases pieces_head_nil hy with e | ⟨r, e⟩
    · exfalso
      subst e
      have : (pieces []).length = 1 := rfl
      omega
    · subst e
      rw [isPath_slash (by assumption)]
      rw [pieces_slash, List.length_cons] at hg
      rw [decide_eq_true (by omega), Bool.and_true]
      have hps : List.drop (Int.toNat 1) (pieces (47 :: r)) = pieces r := rfl
      rw [hps] at hsl hlen ⊢
      refine W_loopF (fun m fr w' => ∃ k : Nat, m = (pieces r).length - k ∧ k ≤ (pieces r).length ∧ fr = [(22, sv), (23, .int .i64 (pieces r).length), (24, .int .i64 k)] ∧ Below w.heap.size w w' ∧ RdL tStr w' sv (pieces r) ∧ ((pieces r).take k).all isNameB = true) (pieces r).length
        [(22, sv), (23, .int .i64 (pieces r).length), (24, .int .i64 0)] sl_ ⟨0, rfl, Nat.zero_le _, rfl, bw_, hsl, rfl⟩ ?_
      clear hO2 hsl hB2 hB3 hy hab hp
      rintro _ _ w' ⟨k, rfl, hk, rfl, hB, hrd, hf⟩
      repeat' (first | (apply isL; first | apply L_nil | refine L_move rfl rfl ?_ | (apply isGuarded; first | refine L_guard_dec rfl rfl (fun hg => ?_) (fun hg => ?_) | refine L_guard_yes rfl rfl ?_ | refine L_guard_no rfl rfl rfl rfl ?_ | refine L_guard_undef rfl rfl rfl ?_ | refine L_guard_split rfl rfl (fun hg => ?_) (fun hg => ?_)) | (apply isCall; first | refine L_lenL rfl rd_ rfl (fun hlen => ?_) | refine L_callV rfl rfl c_isName (fun w3 hB3 => ?_) ) | (apply isBin; first | refine L_do rfl rfl rfl (do_cmp rfl rfl rfl) ?_ | refine L_do rfl rfl rfl (do_cmpStr rfl rfl rfl) ?_ | refine L_do rfl rfl rfl (do_add rfl rfl om_) ?_ | refine L_do rfl rfl rfl (do_sub rfl rfl om_) ?_ ) | (apply isLoad; first | refine L_loadPt rfl (by rfl) pt_ (by rfl) rfl ?_ | refine L_loadPt2 rfl (by rfl) pt_ (by rfl) rfl ?_ | refine L_loadPt0 rfl pt_ (by rfl) rfl ?_ | refine L_loadAgg rfl pt_ (by rfl) rfl ?_ | refine L_loadSub rfl (by rfl) pt_ (by rfl) rfl ?_) | refine L_assign rfl rfl ?_ | refine L_do rfl rfl rfl (do_pick_true rfl rfl) ?_ | refine L_do rfl rfl rfl (do_pick_false rfl rfl) ?_ | refine L_do rfl rfl rfl (do_notDec rfl) ?_ | refine L_do rfl rfl rfl (do_not rfl) ?_ | refine L_indexL rfl rfl rd_ (by rfl) om_ om_ rfl (fun a y hy hab hp => ?_) ) | (apply isW; first | apply W_seq | apply W_region | refine W_cond_dec rfl (fun hg => ?_) (fun hg => ?_) | refine W_cond_true rfl ?_ | refine W_cond_false rfl ?_ | refine W_cond rfl (fun hg => ?_) (fun hg => ?_) | apply W_skip | apply W_ret | apply W_exit | apply W_block) | (apply isAt; first | apply At_then | apply At_then_ret | apply At_then_exit | apply At_block_normal | apply At_block_ret | apply At_block_hit | refine At_block_miss rfl ?_ | refine At_end1 rfl rfl ?_ | refine At_end1n rfl rfl ?_ | refine At_end2 rfl rfl rfl ?_ | refine At_end3 rfl rfl rfl rfl ?_ | refine At_end4 rfl rfl rfl rfl rfl ?_ | refine At_end5 rfl rfl rfl rfl rfl rfl ?_ | refine At_mix kp_ ?_))
      · exact ⟨by rw [all_badB hy (by simpa using hg)], bw_⟩
      · exact At_round _ [(22, sv), (23, .int .i64 (pieces r).length), (24, .int .i64 ((k + 1 : Nat) : Int))] sl_ (by omega) ⟨k + 1, rfl, by omega, rfl, bw_, hrd.ext bw_, all_stepB hf hy (by simpa using hg)⟩
      · rw [List.take_of_length_le (by omega)] at hf
        exact ⟨by rw [hf], hB⟩

theorem isPath_root_len {s : Str} (h : isPath s = true) : s.length ≤ 1 ↔ s = [47] := by
  constructor
  · intro hl
    match s with
    | [] => simp [isPath, root] at h
    | [c] =>
      by_cases hc : c = 47
      · rw [hc]
      · exfalso
        have : isPath [c] = false := isPath_not (s := [c]) (b := c) rfl (fun e => hc (slash_eq e))
        rw [this] at h; cases h
    | _ :: _ :: _ => simp at hl
  · rintro rfl; simp

theorem c_specPathDepth {s : Str} {w : World} (hs : s.length ≤ 4294967280) : Cl Tryz.prog 92 [.string (mk s)] w (V w (.int .i64 (if isPath s then ((s.length / 2 : Nat) : Int) else -1))) := by
  refine calls_start 9 Tryz.func92 rfl rfl rfl ?_
  repeat' (first | (apply isL; first | apply L_nil | refine L_move rfl rfl ?_ | (apply isCall; first | refine L_do rfl rfl rfl (do_lenS rfl) ?_ | refine L_do rfl rfl rfl (do_lenStr rfl) ?_ | refine L_callV rfl rfl (c_specPathValid hs) (fun w2 hB2 => ?_) ) | (apply isBin; first | refine L_do rfl rfl rfl (do_quo rfl rfl ⟨by omega, by omega⟩ om_) ?_ ) | refine L_assign rfl rfl ?_ | refine L_do rfl rfl rfl (do_notDec rfl) ?_ | refine L_do rfl rfl rfl (do_not rfl) ?_ ) | (apply isW; first | apply W_seq | apply W_region | refine W_cond_dec rfl (fun hg => ?_) (fun hg => ?_) | refine W_cond_true rfl ?_ | refine W_cond_false rfl ?_ | refine W_cond rfl (fun hg => ?_) (fun hg => ?_) | apply W_skip | apply W_ret | apply W_exit | apply W_block) | (apply isAt; first | apply At_then | apply At_then_ret | apply At_then_exit | apply At_block_normal | apply At_block_ret | apply At_block_hit | refine At_block_miss rfl ?_ | refine At_end1 rfl rfl ?_ | refine At_end1n rfl rfl ?_ | refine At_end2 rfl rfl rfl ?_ | refine At_end3 rfl rfl rfl rfl ?_ | refine At_end4 rfl rfl rfl rfl rfl ?_ | refine At_end5 rfl rfl rfl rfl rfl rfl ?_ | refine At_mix kp_ ?_))
  · have : isPath s = false := by simpa using hg
    exact ⟨by rw [this]; rfl, bw_⟩
  · have : isPath s = true := by simpa using hg
    exact ⟨by rw [this]; rfl, bw_⟩

end Go.Proofs.YtjobbcdolbhadaaGreatDoor
