/-
  A tree without ignored paths is a tree; what is in it. No program in sight.
-/
import Derived.Test.YtnemajefpgicgaaDoorFilterPlain
namespace Go.Proofs.YtnemajefpgicgaaDoor
open Go Go.RowKit
set_option linter.unusedVariables false
set_option linter.unusedSimpArgs false

theorem bytesLess_irrefl : ∀ x : List UInt8, Op.bytesLess x x = false
  | [] => rfl
  | a :: r => by
    have := bytesLess_irrefl r
    simp [Op.bytesLess, this]
theorem bytesLess_trans : ∀ {x y z : List UInt8}, Op.bytesLess x y = true → Op.bytesLess y z = true → Op.bytesLess x z = true
  | [], [], _, h, _ => by simp [Op.bytesLess] at h
  | [], _ :: _, [], _, h => by simp [Op.bytesLess] at h
  | [], _ :: _, _ :: _, _, _ => by simp [Op.bytesLess]
  | _ :: _, [], _, h, _ => by simp [Op.bytesLess] at h
  | _ :: _, _ :: _, [], _, h => by simp [Op.bytesLess] at h
  | a :: x, b :: y, c :: z, h1, h2 => by
    have ih := @bytesLess_trans x y z
    simp only [Op.bytesLess, Bool.or_eq_true, Bool.and_eq_true, decide_eq_true_eq, beq_iff_eq, UInt8.lt_iff_toNat_lt] at *
    rcases h1 with h1 | ⟨rfl, h1⟩ <;> rcases h2 with h2 | ⟨rfl, h2⟩
    · left; omega
    · left; exact h1
    · left; exact h2
    · right; exact ⟨rfl, ih h1 h2⟩

/-- Paths ascend. -/
def Asc (xs : List Nd) : Prop := xs.Pairwise (fun a b => Op.bytesLess a.path b.path = true)
theorem asc_of {xs : List Nd} (h : ∀ (i : Nat) (n : Nd), xs[i]? = some n → ∀ m, 0 < i → xs[i - 1]? = some m → Op.bytesLess m.path n.path = true) : Asc xs := by
  unfold Asc
  rw [List.pairwise_iff_getElem]
  intro i j hi hj hij
  induction j with
  | zero => omega
  | succ j ih =>
    have h1 := h (j + 1) xs[j + 1] (List.getElem?_eq_getElem hj) xs[j] (by omega) (List.getElem?_eq_getElem (by omega))
    by_cases e : i = j
    · subst e; exact h1
    · exact bytesLess_trans (ih (by omega) (by omega)) h1
theorem asc_at {xs : List Nd} (h : Asc xs) {i : Nat} {n m : Nd} (hn : xs[i]? = some n) (h0 : 0 < i) (hm : xs[i - 1]? = some m) : Op.bytesLess m.path n.path = true := by
  unfold Asc at h
  rw [List.pairwise_iff_getElem] at h
  obtain ⟨h1, e1⟩ := List.getElem?_eq_some_iff.1 hn
  obtain ⟨h2, e2⟩ := List.getElem?_eq_some_iff.1 hm
  have := h (i - 1) i h2 h1 (by omega)
  rw [e1, e2] at this; exact this
theorem tree_asc {xs : List Nd} (h : treeOk xs = true) : Asc xs := asc_of (fun i n hn => ((treeOk_iff.1 h).2 i n hn).2.1)
theorem asc_inj {xs : List Nd} (h : Asc xs) {a b : Nd} (ha : a ∈ xs) (hb : b ∈ xs) (e : a.path = b.path) : a = b := by
  obtain ⟨i, hi, rfl⟩ := List.getElem_of_mem ha
  obtain ⟨j, hj, rfl⟩ := List.getElem_of_mem hb
  unfold Asc at h
  rw [List.pairwise_iff_getElem] at h
  rcases Nat.lt_trichotomy i j with hij | hij | hij
  · have := h i j hi hj hij; rw [e, bytesLess_irrefl] at this; cases this
  · subst hij; rfl
  · have := h j i hj hi hij; rw [e, bytesLess_irrefl] at this; cases this
theorem find_mem {xs : List Nd} (h : Asc xs) {n : Nd} (hn : n ∈ xs) : find xs n.path = some n.c := by
  unfold find
  cases hf : xs.find? (fun m => m.path == n.path) with
  | none => rw [List.find?_eq_none] at hf; exact absurd (by simp) (hf n hn)
  | some m =>
    have h1 := List.find?_some hf
    have h2 := List.mem_of_find?_eq_some hf
    rw [asc_inj h h2 hn (by simpa using h1)]; rfl
theorem find_some {xs : List Nd} {p : Str} {c : Cont} (h : find xs p = some c) : ∃ n ∈ xs, n.path = p ∧ n.c = c := by
  unfold find at h
  cases hf : xs.find? (fun m => m.path == p) with
  | none => rw [hf] at h; cases h
  | some m =>
    rw [hf] at h
    exact ⟨m, List.mem_of_find?_eq_some hf, by simpa using List.find?_some hf, by simpa using h⟩

theorem cov_parent {ig : List Str} {p : Str} (hi : ignOk ig = true) (hp : isPath p = true) (hr : ¬ p = [47]) (h : covB ig p = false) : covB ig (parent p) = false := by
  rw [Bool.eq_false_iff]; intro hc
  obtain ⟨e1, e2, _⟩ := path_even hp hr
  unfold covB at h hc
  simp only [List.any_eq_false, List.any_eq_true, Bool.or_eq_true, decide_eq_true_eq, Bool.not_eq_true] at h hc
  obtain ⟨s, hs, hc⟩ := hc
  have hn := h s hs
  obtain ⟨hsp, hsr⟩ := igs_path hi hs
  obtain ⟨q1, q2, _⟩ := path_even hsp hsr
  apply hn
  right
  rw [under_iff hsp hp hsr]
  unfold parent at hc
  split at hc
  · rename_i hl
    rcases hc with hc | hc
    · exact absurd hc hsr
    · rw [under_not_root hsr, List.isPrefixOf_iff_prefix] at hc
      have h9 : (s ++ [47]).length ≤ 1 := hc.length_le
      rw [List.length_append] at h9
      simp only [List.length_cons, List.length_nil] at h9
      omega
  · rename_i hl
    rcases hc with hc | hc
    · rw [hc]; exact ⟨by simp; omega, by simp⟩
    · rw [under_not_root hsr, List.isPrefixOf_iff_prefix] at hc
      obtain ⟨t, ht⟩ := hc
      have hlen := congrArg List.length ht
      simp at hlen
      refine ⟨by omega, ?_⟩
      have h3 : (p.take (p.length - 2)).take s.length = s := by rw [← ht, List.append_assoc, List.take_left' rfl]
      rw [List.take_take, Nat.min_eq_left (by omega)] at h3
      exact h3

theorem get_filt {xs : List Nd} {ig : List Str} (hx : (treeOk xs && ignOk ig) = true) {p : Str} (h : covB ig p = false) : get (filtT xs ig) p = get xs p := by
  unfold get
  have : find (filtT xs ig) p = find xs p := by
    unfold filtT find
    rw [if_pos hx, List.find?_filter]
    congr 2
    funext n
    by_cases e : n.path = p
    · rw [e, h]; simp
    · simp [e]
  rw [this]
theorem find_filt_cov {xs : List Nd} {ig : List Str} (hx : (treeOk xs && ignOk ig) = true) {p : Str} (h : covB ig p = true) : find (filtT xs ig) p = none := by
  cases hf : find (filtT xs ig) p with
  | none => rfl
  | some c =>
    obtain ⟨n, hn, e1, _⟩ := find_some hf
    unfold filtT at hn
    rw [if_pos hx, List.mem_filter] at hn
    rw [e1, h] at hn
    simp at hn
theorem filt_tree {xs : List Nd} {ig : List Str} (ht : treeOk xs = true) (hi : ignOk ig = true) : treeOk (filtT xs ig) = true := by
  have hx : (treeOk xs && ignOk ig) = true := by rw [ht, hi]; rfl
  have hT := treeOk_iff.1 ht
  have hmem : ∀ n ∈ filtT xs ig, n ∈ xs ∧ covB ig n.path = false := fun n hn => by
    unfold filtT at hn; rw [if_pos hx, List.mem_filter] at hn; simpa using hn
  have hasc : Asc (filtT xs ig) := by
    unfold filtT; rw [if_pos hx]; exact (tree_asc ht).filter _
  refine treeOk_true ⟨?_, fun i n hn => ?_⟩
  · unfold filtT; rw [if_pos hx]; exact Nat.le_trans (List.length_filter_le ..) hT.1
  · obtain ⟨h1, h2⟩ := hmem n (List.mem_of_getElem? hn)
    obtain ⟨k, hk, e⟩ := List.getElem_of_mem h1
    obtain ⟨q1, q2, q3⟩ := hT.2 k n (by rw [List.getElem?_eq_getElem hk, e])
    refine ⟨q1, fun m h0 hm => asc_at hasc hn h0 hm, ?_⟩
    rw [get_filt hx (cov_parent hi q1.1 q1.2.1 h2)]; exact q3
end Go.Proofs.YtnemajefpgicgaaDoor
