/-
  Trees in plain Lean: when nodes are a tree; the content of a path; nodes with a content put at a path.
-/
import Derived.Test.YtpdkajcnnanocaaGreatDoorCmds
namespace Go.Proofs.YtpdkajcnnanocaaGreatDoor
open Go Go.RowKit
set_option linter.unusedVariables false
set_option linter.unusedSimpArgs false

abbrev vNd (n : Nd) : Value := .agg #[.string (mk n.path), .int .i64 n.c.kind, .int .i64 n.c.value]
def NdOk (n : Nd) : Prop := isPath n.path = true ∧ ¬ n.path = [47] ∧ contOk n.c = true ∧ ¬ n.c.kind = 0
def TreeOk (xs : List Nd) : Prop := xs.length ≤ 10 ∧ ∀ (i : Nat) (n : Nd), xs[i]? = some n → NdOk n ∧ (∀ m, 0 < i → xs[i - 1]? = some m → Op.bytesLess m.path n.path = true) ∧ (get xs (parent n.path)).kind = 1
noncomputable instance (xs : List Nd) : Decidable (TreeOk xs) := Classical.propDecidable _
noncomputable def treeOk (xs : List Nd) : Bool := decide (TreeOk xs)
theorem treeOk_true {xs : List Nd} (h : TreeOk xs) : treeOk xs = true := decide_eq_true h
theorem treeOk_false {xs : List Nd} (h : ¬ TreeOk xs) : treeOk xs = false := decide_eq_false h
theorem treeOk_iff {xs : List Nd} : treeOk xs = true ↔ TreeOk xs := by unfold treeOk; exact decide_eq_true_iff
theorem treeOk_nil : treeOk [] = true := treeOk_true ⟨by simp, fun i n h => by simp at h⟩
theorem tree_len {xs : List Nd} (h : treeOk xs = true) : xs.length ≤ 10 := (treeOk_iff.1 h).1
theorem tree_path {xs : List Nd} (h : treeOk xs = true) {n : Nd} (hn : n ∈ xs) : isPath n.path = true := by
  obtain ⟨i, hi, e⟩ := List.getElem_of_mem hn
  exact ((treeOk_iff.1 h).2 i n (by rw [List.getElem?_eq_getElem hi, e])).1.1

/-! ### The content of a path -/
theorem find_at {xs : List Nd} {p : Str} {k : Nat} {y : Nd} (hf : ∀ j x, j < k → xs[j]? = some x → ¬ x.path = p) (hy : xs[k]? = some y) (hp : y.path = p) : find xs p = some y.c := by
  unfold find
  obtain ⟨hk, he⟩ := List.getElem?_eq_some_iff.1 hy
  have : xs.find? (fun n => n.path == p) = some y := by
    rw [List.find?_eq_some_iff_getElem]
    refine ⟨by simp [hp], k, hk, he, fun j hj => ?_⟩
    have := hf j _ hj (List.getElem?_eq_getElem (by omega))
    simpa using this
  rw [this]; rfl
theorem find_none {xs : List Nd} {p : Str} (hf : ∀ j x, j < xs.length → xs[j]? = some x → ¬ x.path = p) : find xs p = none := by
  unfold find
  have : xs.find? (fun n => n.path == p) = none := by
    rw [List.find?_eq_none]
    intro x hx
    obtain ⟨j, hj, rfl⟩ := List.getElem_of_mem hx
    simpa using hf j _ hj (List.getElem?_eq_getElem hj)
  rw [this]; rfl
theorem get_root (xs : List Nd) : get xs [47] = dir0 := by unfold get; rfl
theorem get_not_root {xs : List Nd} {p : Str} (h : ¬ p = [47]) : get xs p = (find xs p).getD none0 := by
  unfold get
  have : (p == root) = false := beq_eq_false_iff_ne.2 h
  rw [this]; rfl

/-! ### Putting -/
/-- A node is put where its path belongs; 'done' tells that it was put, or need not be. -/
def putGo (p : Str) (c : Cont) : Bool → List Nd → List Nd
  | d, [] => if d then [] else [⟨p, c⟩]
  | d, n :: r =>
    let lt := !d && Op.bytesLess p n.path
    (if lt then [⟨p, c⟩] else []) ++ (if n.path = p then (if d || lt then [] else [⟨p, c⟩]) ++ putGo p c true r else n :: putGo p c (d || lt) r)
def putL (xs : List Nd) (p : Str) (c : Cont) : List Nd := putGo p c (decide (c.kind = 0)) xs
theorem putGo_len (p : Str) (c : Cont) : ∀ (d : Bool) (xs : List Nd), (putGo p c d xs).length ≤ xs.length + (if d then 0 else 1)
  | d, [] => by cases d <;> simp [putGo]
  | d, n :: r => by
    have h1 := putGo_len p c true r
    have h2 := putGo_len p c false r
    simp only [putGo]
    cases d <;> cases Op.bytesLess p n.path <;> (by_cases he : n.path = p) <;> simp [he] at h1 h2 ⊢ <;> omega
theorem putL_len (xs : List Nd) (p : Str) (c : Cont) : (putL xs p c).length ≤ xs.length + 1 := by
  have := putGo_len p c (decide (c.kind = 0)) xs
  unfold putL; split at this <;> omega
theorem putGo_mem (p : Str) (c : Cont) : ∀ (d : Bool) (xs : List Nd) (n : Nd), n ∈ putGo p c d xs → n.path = p ∨ n ∈ xs
  | d, [], n, h => by cases d <;> simp [putGo] at h; left; rw [h]
  | d, m :: r, n, h => by
    simp only [putGo] at h
    rcases List.mem_append.1 h with h | h
    · split at h
      · simp at h; left; rw [h]
      · simp at h
    · split at h
      · rcases List.mem_append.1 h with h | h
        · split at h
          · simp at h
          · simp at h; left; rw [h]
        · rcases putGo_mem p c true r n h with h | h
          · exact .inl h
          · exact .inr (List.mem_cons_of_mem _ h)
      · rcases List.mem_cons.1 h with h | h
        · right; rw [h]; exact List.mem_cons_self ..
        · rcases putGo_mem p c _ r n h with h | h
          · exact .inl h
          · exact .inr (List.mem_cons_of_mem _ h)
theorem putL_mem {xs : List Nd} {p : Str} {c : Cont} {n : Nd} (h : n ∈ putL xs p c) : n.path = p ∨ n ∈ xs := putGo_mem _ _ _ _ _ h
/-- Paths of at most so many bytes. -/
def ShortN (xs : List Nd) : Prop := ∀ n ∈ xs, n.path.length ≤ 1048576
theorem ShortN.at_ {xs : List Nd} (h : ShortN xs) {i : Nat} {n : Nd} (hn : xs[i]? = some n) : n.path.length ≤ 1048576 := h n (List.mem_of_getElem? hn)
theorem short_put {xs : List Nd} {p : Str} {c : Cont} (h : ShortN xs) (hp : p.length ≤ 1048576) : ShortN (putL xs p c) := fun n hn => by
  rcases putL_mem hn with e | e
  · rw [e]; exact hp
  · exact h n e
noncomputable def putOk (xs : List Nd) (p : Str) (c : Cont) : Bool := treeOk xs && isPath p && !decide (p = [47]) && contOk c && treeOk (putL xs p c)
noncomputable def cmDo (xs : List Nd) (c : Cm) : Bool := treeOk xs && cmOk c && decide (get xs c.path = c.fr) && putOk xs c.path c.to
end Go.Proofs.YtpdkajcnnanocaaGreatDoor
