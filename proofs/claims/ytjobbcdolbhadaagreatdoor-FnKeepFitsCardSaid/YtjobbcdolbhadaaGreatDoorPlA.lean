/-
  Plain laws: paths are short, what a valid command tells. No program in sight.
  Trees in plain Lean: when nodes are a tree; the content of a path; nodes with a content put at a path.
  Filters in plain Lean: what lies under a path; what ignored paths touch; logs and trees without it. No program in sight.
  A tree without ignored paths is a tree; what is in it. No program in sight.
  Trees as maps from paths to contents: two trees with the same contents are one; what putting does; which maps are those of trees. No program in sight.
  Logs on trees in plain Lean: what lies under what; a log as a map ovr a map; when all of a log's commands can be done. No program in sight.
  Canonical logs in plain Lean: the order, sorting by putting, what is left of a log. No program in sight.
  Canonical logs in plain Lean: the order is strict; sorting is one list; a canonical log between good maps is in a possible order; a log in a possible order goes through good maps. No program in sight.
  Canonical logs of logs that fit a tree, and of two trees: they are one. Undoing. No program in sight.
  What a canonical log keeps of ignored paths, in plain Lean: it still leads through good maps, and touches nothing that is ignored. Orders: all possible ones do the same. No program in sight.
  Two logs on one tree in plain Lean: conflicts, what is safe, agreed, left; what both sides have. No program in sight.
  Conflicts and their text in plain Lean. No program in sight.
  Canonical logs in plain Lean: the order as a number, neighbours in order, each path once. No program in sight.
-/
import Derived.Test.YtjobbcdolbhadaaGreatDoorCmds
import Derived.Test.YtjobbcdolbhadaaGreatDoorCmList
import Derived.Test.YtjobbcdolbhadaaGreatDoorIgnores

namespace Go.Proofs.YtjobbcdolbhadaaGreatDoor
set_option linter.unusedVariables false
set_option linter.unusedSimpArgs false
open Go Go.RowKit
set_option linter.unusedVariables false
set_option linter.unusedSimpArgs false

theorem pieces_size : ∀ s : Str, s.length + 1 = ((pieces s).map (fun p => p.length + 1)).sum
  | [] => by simp [pieces]
  | c :: r => by
    have ih := pieces_size r
    simp only [pieces]
    split
    · simp [← ih]; omega
    · split
      · rename_i p ps h; rw [h] at ih; simp at ih ⊢; omega
      · rename_i h; exact absurd h (pieces_ne r)
theorem sum_ones : ∀ l : List Str, l.all isNameB = true → (l.map (fun p => p.length + 1)).sum = 2 * l.length
  | [], _ => rfl
  | p :: r, h => by
    simp only [List.all_cons, Bool.and_eq_true] at h
    have := sum_ones r h.2
    have h1 : p.length = 1 := by
      match p, h.1 with
      | [_], _ => rfl
    simp only [List.map_cons, List.sum_cons, List.length_cons, this, h1]; omega
theorem isPath_len {s : Str} (h : isPath s = true) : s.length ≤ 8 := by
  unfold isPath at h
  rcases (Bool.or_eq_true _ _).mp h with h | h
  · have : s = root := by simpa using h
    subst this; decide
  · match s, h with
    | c :: r, h =>
      by_cases hc : c = 47
      · subst hc
        simp only [Bool.and_eq_true, decide_eq_true_eq] at h
        have h1 := pieces_size r
        rw [sum_ones _ h.1] at h1
        simp; omega
      · exfalso; revert h; split
        · rename_i e; cases e; exact absurd rfl hc
        · simp
theorem cmOk_path {c : Cm} (h : cmOk c = true) : isPath c.path = true := by unfold cmOk at h; simp at h; exact h.1.1.1.1
theorem cmOk_len {c : Cm} (h : cmOk c = true) : 1 ≤ c.path.length ∧ c.path.length ≤ 8 := by
  have hp := cmOk_path h
  refine ⟨?_, isPath_len hp⟩
  cases hc : c.path with
  | nil => rw [hc] at hp; exact absurd hp (by decide)
  | cons a r => simp
theorem contOk_bd {c : Cont} (h : contOk c = true) : (0 ≤ c.kind ∧ c.kind ≤ 255) ∧ 0 ≤ c.value ∧ c.value ≤ 255 := by
  unfold contOk at h; simp at h; omega
theorem cmOk_conts {c : Cm} (h : cmOk c = true) : contOk c.fr = true ∧ contOk c.to = true := by unfold cmOk at h; simp at h; exact ⟨h.1.1.2, h.1.2⟩
end Go.Proofs.YtjobbcdolbhadaaGreatDoor


namespace Go.Proofs.YtjobbcdolbhadaaGreatDoor
set_option linter.unusedVariables false
set_option linter.unusedSimpArgs false
open Go Go.RowKit
set_option linter.unusedVariables false
set_option linter.unusedSimpArgs false

abbrev vNd (n : Nd) : Value := .agg #[.string (mk n.path), .int .i64 n.c.kind, .int .i64 n.c.value]
def NdOk (n : Nd) : Prop := isPath n.path = true ∧ ¬ n.path = [47] ∧ contOk n.c = true ∧ ¬ n.c.kind = 0
def TreeOk (xs : List Nd) : Prop := xs.length ≤ 10 ∧ ∀ (i : Nat) (n : Nd), xs[i]? = some n → NdOk n ∧ (∀ m, 0 < i → xs[i - 1]? = some m → Op.bytesLess m.path n.path = true) ∧ (get xs (parent n.path)).kind = 1
noncomputable instance (xs : List Nd) : Decidable (TreeOk xs) := Classical.propDecidable _
noncomputable def treeOk (xs : List Nd) : Bool := decide (TreeOk xs)
theorem treeOk_true {xs : List Nd} (h : TreeOk xs) : treeOk xs = true := decide_eq_true h
theorem treeOk_false {xs : List Nd} (h : ¬ TreeOk xs) : treeOk xs = false := decide_eq_false h
theorem treeOk_iff {xs : List Nd} : treeOk xs = true ↔ TreeOk xs := by unfold treeOk; exact decide_eq_true_iff
theorem treeOk_nil : treeOk [] = true := treeOk_true ⟨by simp, fun i n h => by simp at h⟩
theorem tree_len {xs : List Nd} (h : treeOk xs = true) : xs.length ≤ 10 := (treeOk_iff.1 h).1
theorem tree_path {xs : List Nd} (h : treeOk xs = true) {n : Nd} (hn : n ∈ xs) : isPath n.path = true := by
  obtain ⟨i, hi, e⟩ := List.getElem_of_mem hn
  exact ((treeOk_iff.1 h).2 i n (by rw [List.getElem?_eq_getElem hi, e])).1.1

/-! ### The content of a path -/
theorem find_at {xs : List Nd} {p : Str} {k : Nat} {y : Nd} (hf : ∀ j x, j < k → xs[j]? = some x → ¬ x.path = p) (hy : xs[k]? = some y) (hp : y.path = p) : find xs p = some y.c := by
  unfold find
  obtain ⟨hk, he⟩ := List.getElem?_eq_some_iff.1 hy
  have : xs.find? (fun n => n.path == p) = some y := by
    rw [List.find?_eq_some_iff_getElem]
    refine ⟨by simp [hp], k, hk, he, fun j hj => ?_⟩
    have := hf j _ hj (List.getElem?_eq_getElem (by omega))
    simpa using this
  rw [this]; rfl
theorem find_none {xs : List Nd} {p : Str} (hf : ∀ j x, j < xs.length → xs[j]? = some x → ¬ x.path = p) : find xs p = none := by
  unfold find
  have : xs.find? (fun n => n.path == p) = none := by
    rw [List.find?_eq_none]
    intro x hx
    obtain ⟨j, hj, rfl⟩ := List.getElem_of_mem hx
    simpa using hf j _ hj (List.getElem?_eq_getElem hj)
  rw [this]; rfl
theorem get_root (xs : List Nd) : get xs [47] = dir0 := by unfold get; rfl
theorem get_not_root {xs : List Nd} {p : Str} (h : ¬ p = [47]) : get xs p = (find xs p).getD none0 := by
  unfold get
  have : (p == root) = false := beq_eq_false_iff_ne.2 h
  rw [this]; rfl

/-! ### Putting -/
/-- A node is put where its path belongs; 'done' tells that it was put, or need not be. -/
def putGo (p : Str) (c : Cont) : Bool → List Nd → List Nd
  | d, [] => if d then [] else [⟨p, c⟩]
  | d, n :: r =>
    let lt := !d && Op.bytesLess p n.path
    (if lt then [⟨p, c⟩] else []) ++ (if n.path = p then (if d || lt then [] else [⟨p, c⟩]) ++ putGo p c true r else n :: putGo p c (d || lt) r)
def putL (xs : List Nd) (p : Str) (c : Cont) : List Nd := putGo p c (decide (c.kind = 0)) xs
theorem putGo_len (p : Str) (c : Cont) : ∀ (d : Bool) (xs : List Nd), (putGo p c d xs).length ≤ xs.length + (if d then 0 else 1)
  | d, [] => by cases d <;> simp [putGo]
  | d, n :: r => by
    have h1 := putGo_len p c true r
    have h2 := putGo_len p c false r
    simp only [putGo]
    cases d <;> cases Op.bytesLess p n.path <;> (by_cases he : n.path = p) <;> simp [he] at h1 h2 ⊢ <;> omega
theorem putL_len (xs : List Nd) (p : Str) (c : Cont) : (putL xs p c).length ≤ xs.length + 1 := by
  have := putGo_len p c (decide (c.kind = 0)) xs
  unfold putL; split at this <;> omega
theorem putGo_mem (p : Str) (c : Cont) : ∀ (d : Bool) (xs : List Nd) (n : Nd), n ∈ putGo p c d xs → n.path = p ∨ n ∈ xs
  | d, [], n, h => by cases d <;> simp [putGo] at h; left; rw [h]
  | d, m :: r, n, h => by
    simp only [putGo] at h
    rcases List.mem_append.1 h with h | h
    · split at h
      · simp at h; left; rw [h]
      · simp at h
    · split at h
      · rcases List.mem_append.1 h with h | h
        · split at h
          · simp at h
          · simp at h; left; rw [h]
        · rcases putGo_mem p c true r n h with h | h
          · exact .inl h
          · exact .inr (List.mem_cons_of_mem _ h)
      · rcases List.mem_cons.1 h with h | h
        · right; rw [h]; exact List.mem_cons_self ..
        · rcases putGo_mem p c _ r n h with h | h
          · exact .inl h
          · exact .inr (List.mem_cons_of_mem _ h)
theorem putL_mem {xs : List Nd} {p : Str} {c : Cont} {n : Nd} (h : n ∈ putL xs p c) : n.path = p ∨ n ∈ xs := putGo_mem _ _ _ _ _ h
/-- Paths of at most so many bytes. -/
def ShortN (xs : List Nd) : Prop := ∀ n ∈ xs, n.path.length ≤ 1048576
theorem ShortN.at_ {xs : List Nd} (h : ShortN xs) {i : Nat} {n : Nd} (hn : xs[i]? = some n) : n.path.length ≤ 1048576 := h n (List.mem_of_getElem? hn)
theorem short_put {xs : List Nd} {p : Str} {c : Cont} (h : ShortN xs) (hp : p.length ≤ 1048576) : ShortN (putL xs p c) := fun n hn => by
  rcases putL_mem hn with e | e
  · rw [e]; exact hp
  · exact h n e
noncomputable def putOk (xs : List Nd) (p : Str) (c : Cont) : Bool := treeOk xs && isPath p && !decide (p = [47]) && contOk c && treeOk (putL xs p c)
noncomputable def cmDo (xs : List Nd) (c : Cm) : Bool := treeOk xs && cmOk c && decide (get xs c.path = c.fr) && putOk xs c.path c.to
end Go.Proofs.YtjobbcdolbhadaaGreatDoor


namespace Go.Proofs.YtjobbcdolbhadaaGreatDoor
set_option linter.unusedVariables false
set_option linter.unusedSimpArgs false
open Go Go.RowKit
set_option linter.unusedVariables false
set_option linter.unusedSimpArgs false

/-! ### Names stand at odd places, slashes at even ones -/
theorem name_one {s : Str} (h : isNameB s = true) : ∃ b, s = [b] ∧ b ≠ 47 := by
  match s, h with
  | [b], h =>
    refine ⟨b, rfl, fun e => ?_⟩
    subst e
    exact absurd h (by decide)
theorem pieces_two {c d : UInt8} {t : Str} (h : (pieces (c :: d :: t)).all isNameB = true) : c ≠ 47 ∧ d = 47 ∧ (pieces t).all isNameB = true := by
  by_cases hc : c = 47
  · subst hc
    simp [pieces, isNameB] at h
  · have hcb : (c == (47 : UInt8)) = false := beq_eq_false_iff_ne.2 hc
    by_cases hd : d = 47
    · subst hd
      refine ⟨hc, rfl, ?_⟩
      have e : pieces (c :: 47 :: t) = [c] :: pieces t := by simp [pieces, hcb]
      rw [e] at h
      simp only [List.all_cons, Bool.and_eq_true] at h
      exact h.2
    · exfalso
      have hdb : (d == (47 : UInt8)) = false := beq_eq_false_iff_ne.2 hd
      obtain ⟨p, ps, ep⟩ : ∃ p ps, pieces t = p :: ps := by
        cases e : pieces t with
        | nil => exact absurd e (pieces_ne t)
        | cons p ps => exact ⟨p, ps, rfl⟩
      have e : pieces (c :: d :: t) = (c :: d :: p) :: ps := by simp [pieces, hcb, hdb, ep]
      rw [e] at h
      simp [isNameB] at h
theorem names_even : ∀ {r : Str}, (pieces r).all isNameB = true → r.length % 2 = 1 ∧ ∀ i, 2 * i + 1 < r.length → r[2 * i + 1]? = some 47
  | [], h => by simp [pieces, isNameB] at h
  | [c], h => ⟨rfl, fun i hi => by simp at hi⟩
  | c :: d :: t, h => by
    obtain ⟨_, hd, ht⟩ := pieces_two h
    obtain ⟨h1, h2⟩ := names_even ht
    refine ⟨by simp; omega, fun i hi => ?_⟩
    cases i with
    | zero => simp [hd]
    | succ i =>
      have := h2 i (by simp at hi; omega)
      rw [show 2 * (i + 1) + 1 = (2 * i + 1) + 1 + 1 by omega, List.getElem?_cons_succ, List.getElem?_cons_succ]
      exact this
theorem path_even {s : Str} (h : isPath s = true) (hr : ¬ s = [47]) : s.length % 2 = 0 ∧ 2 ≤ s.length ∧ ∀ i, 2 * i < s.length → s[2 * i]? = some 47 := by
  match s, h, hr with
  | [], h, _ => exact absurd h (by decide)
  | c :: r, h, hr =>
    by_cases hc : c = 47
    · subst hc
      rw [isPath_slash hr] at h
      simp only [Bool.and_eq_true] at h
      obtain ⟨h1, h2⟩ := names_even h.1
      refine ⟨by simp; omega, by simp; omega, fun i hi => ?_⟩
      cases i with
      | zero => rfl
      | succ i =>
        rw [show 2 * (i + 1) = (2 * i + 1) + 1 by omega, List.getElem?_cons_succ]
        exact h2 i (by simp at hi; omega)
    · exfalso
      revert h; unfold isPath
      have h1 : ((c :: r) == root) = false := beq_eq_false_iff_ne.2 hr
      rw [h1, Bool.false_or]
      split
      · rename_i e; cases e; exact absurd rfl hc
      · simp

/-! ### Under -/
def underS (a b : Str) : Bool := (decide (a = [47]) && !decide (b = [47])) || (decide (a.length < b.length) && decide (b.take a.length = a))
theorem under_root (b : Str) : under [47] b = !decide (b = [47]) := by
  unfold under
  have : (([47] : Str) == root) = true := rfl
  rw [if_pos this]
  show (b != root) = _
  rw [Bool.eq_iff_iff]; simp [root]
theorem under_not_root {a b : Str} (h : ¬ a = [47]) : under a b = (a ++ [47]).isPrefixOf b := by
  unfold under
  have : ¬ (a == root) = true := by simpa [root] using h
  rw [if_neg this]
theorem under_iff {a b : Str} (ha : isPath a = true) (hb : isPath b = true) (h : ¬ a = [47]) : under a b = true ↔ a.length < b.length ∧ b.take a.length = a := by
  rw [under_not_root h, List.isPrefixOf_iff_prefix]
  constructor
  · rintro ⟨t, rfl⟩
    refine ⟨by simp, ?_⟩
    rw [List.append_assoc, List.take_left' rfl]
  · rintro ⟨h1, h2⟩
    obtain ⟨e1, e2, _⟩ := path_even ha h
    by_cases hbr : b = [47]
    · subst hbr; have h3 : a.length < 1 := h1; omega
    · obtain ⟨_, _, e3⟩ := path_even hb hbr
      have e4 := e3 (a.length / 2) (by omega)
      rw [show 2 * (a.length / 2) = a.length by omega] at e4
      refine ⟨b.drop (a.length + 1), ?_⟩
      have e5 : b.drop a.length = 47 :: b.drop (a.length + 1) := by
        obtain ⟨h3, h4⟩ := List.getElem?_eq_some_iff.1 e4
        rw [List.drop_eq_getElem_cons h3, h4]
      conv => rhs; rw [← List.take_append_drop a.length b, h2, e5]
      simp
theorem underS_eq {a b : Str} (ha : isPath a = true) (hb : isPath b = true) : underS a b = under a b := by
  by_cases h : a = [47]
  · subst h
    rw [under_root]
    unfold underS
    cases e : decide (b = [47])
    · simp
    · have : b = [47] := of_decide_eq_true e
      subst this; rfl
  · rw [Bool.eq_iff_iff, under_iff ha hb h]
    unfold underS
    simp [h]

/-! ### Filters -/
def covB (ig : List Str) (p : Str) : Bool := ig.any (fun s => decide (s = p) || under s p)
def touB (ig : List Str) (c : Cm) : Bool := covB ig c.path || (!decide (c.to.kind = 1) && ig.any (fun s => under c.path s))
def filtL (t : Bool) (cs : List Cm) (ig : List Str) : List Cm := if logOk cs && ignOk ig then cs.filter (fun c => touB ig c == t) else []
noncomputable def filtT (xs : List Nd) (ig : List Str) : List Nd := if treeOk xs && ignOk ig then xs.filter (fun n => !covB ig n.path) else []
theorem igs_path {ig : List Str} (h : ignOk ig = true) {s : Str} (hs : s ∈ ig) : isPath s = true ∧ ¬ s = [47] := by
  unfold ignOk at h
  simp only [Bool.and_eq_true, List.all_eq_true] at h
  have := h.2 s hs
  unfold ignOne at this; simpa using this
theorem filtL_mem {t : Bool} {cs : List Cm} {ig : List Str} (h : (logOk cs && ignOk ig) = true) {c : Cm} : c ∈ filtL t cs ig ↔ c ∈ cs ∧ touB ig c = t := by
  unfold filtL; rw [if_pos h, List.mem_filter]; simp
theorem filtL_sum {cs : List Cm} {ig : List Str} (h : (logOk cs && ignOk ig) = true) : (filtL false cs ig).length + (filtL true cs ig).length = cs.length := by
  unfold filtL; rw [if_pos h, if_pos h]
  clear h
  induction cs with
  | nil => rfl
  | cons c r ih => simp only [List.filter_cons]; cases touB ig c <;> simp at * <;> omega
theorem touB_part {ig : List Str} {c : Cm} (k : Nat) (h : touB ig c = false) : touB (ig.take k) c = false := by
  unfold touB covB at *
  simp only [Bool.or_eq_false_iff, Bool.and_eq_false_iff, List.any_eq_false, Bool.not_eq_true] at *
  exact ⟨fun s hs => h.1 s (List.mem_of_mem_take hs), h.2.imp id (fun h s hs => h s (List.mem_of_mem_take hs))⟩
theorem ign_part {ig : List Str} (k : Nat) (h : ignOk ig = true) : ignOk (ig.take k) = true := by
  unfold ignOk at *
  simp only [Bool.and_eq_true, decide_eq_true_eq, List.all_eq_true] at *
  exact ⟨by simp; omega, fun s hs => h.2 s (List.mem_of_mem_take hs)⟩
theorem filtL_len (t : Bool) (cs : List Cm) (ig : List Str) : (filtL t cs ig).length ≤ 20 := by
  unfold filtL
  split
  · rename_i h
    simp only [Bool.and_eq_true] at h
    have h1 := h.1
    simp only [logOk, Bool.and_eq_true, decide_eq_true_eq] at h1
    exact Nat.le_trans (List.length_filter_le ..) h1.1
  · simp
theorem filtT_len (xs : List Nd) (ig : List Str) : (filtT xs ig).length ≤ 20 := by
  unfold filtT
  split
  · rename_i h
    simp only [Bool.and_eq_true] at h
    have := tree_len h.1
    exact Nat.le_trans (List.length_filter_le ..) (by omega)
  · simp
theorem filt_none {cs : List Cm} (h : logOk cs = true) : filtL false cs [] = cs := by
  unfold filtL
  rw [if_pos (by rw [h]; rfl)]
  exact List.filter_eq_self.2 (fun c _ => by simp [touB, covB])
end Go.Proofs.YtjobbcdolbhadaaGreatDoor


namespace Go.Proofs.YtjobbcdolbhadaaGreatDoor
set_option linter.unusedVariables false
set_option linter.unusedSimpArgs false
open Go Go.RowKit
set_option linter.unusedVariables false
set_option linter.unusedSimpArgs false

theorem bytesLess_irrefl : ∀ x : List UInt8, Op.bytesLess x x = false
  | [] => rfl
  | a :: r => by
    have := bytesLess_irrefl r
    simp [Op.bytesLess, this]
theorem bytesLess_trans : ∀ {x y z : List UInt8}, Op.bytesLess x y = true → Op.bytesLess y z = true → Op.bytesLess x z = true
  | [], [], _, h, _ => by simp [Op.bytesLess] at h
  | [], _ :: _, [], _, h => by simp [Op.bytesLess] at h
  | [], _ :: _, _ :: _, _, _ => by simp [Op.bytesLess]
  | _ :: _, [], _, h, _ => by simp [Op.bytesLess] at h
  | _ :: _, _ :: _, [], _, h => by simp [Op.bytesLess] at h
  | a :: x, b :: y, c :: z, h1, h2 => by
    have ih := @bytesLess_trans x y z
    simp only [Op.bytesLess, Bool.or_eq_true, Bool.and_eq_true, decide_eq_true_eq, beq_iff_eq, UInt8.lt_iff_toNat_lt] at *
    rcases h1 with h1 | ⟨rfl, h1⟩ <;> rcases h2 with h2 | ⟨rfl, h2⟩
    · left; omega
    · left; exact h1
    · left; exact h2
    · right; exact ⟨rfl, ih h1 h2⟩

/-- Paths ascend. -/
def Asc (xs : List Nd) : Prop := xs.Pairwise (fun a b => Op.bytesLess a.path b.path = true)
theorem asc_of {xs : List Nd} (h : ∀ (i : Nat) (n : Nd), xs[i]? = some n → ∀ m, 0 < i → xs[i - 1]? = some m → Op.bytesLess m.path n.path = true) : Asc xs := by
  unfold Asc
  rw [List.pairwise_iff_getElem]
  intro i j hi hj hij
  induction j with
  | zero => omega
  | succ j ih =>
    have h1 := h (j + 1) xs[j + 1] (List.getElem?_eq_getElem hj) xs[j] (by omega) (List.getElem?_eq_getElem (by omega))
    by_cases e : i = j
    · subst e; exact h1
    · exact bytesLess_trans (ih (by omega) (by omega)) h1
theorem asc_at {xs : List Nd} (h : Asc xs) {i : Nat} {n m : Nd} (hn : xs[i]? = some n) (h0 : 0 < i) (hm : xs[i - 1]? = some m) : Op.bytesLess m.path n.path = true := by
  unfold Asc at h
  rw [List.pairwise_iff_getElem] at h
  obtain ⟨h1, e1⟩ := List.getElem?_eq_some_iff.1 hn
  obtain ⟨h2, e2⟩ := List.getElem?_eq_some_iff.1 hm
  have := h (i - 1) i h2 h1 (by omega)
  rw [e1, e2] at this; exact this
theorem tree_asc {xs : List Nd} (h : treeOk xs = true) : Asc xs := asc_of (fun i n hn => ((treeOk_iff.1 h).2 i n hn).2.1)
theorem asc_inj {xs : List Nd} (h : Asc xs) {a b : Nd} (ha : a ∈ xs) (hb : b ∈ xs) (e : a.path = b.path) : a = b := by
  obtain ⟨i, hi, rfl⟩ := List.getElem_of_mem ha
  obtain ⟨j, hj, rfl⟩ := List.getElem_of_mem hb
  unfold Asc at h
  rw [List.pairwise_iff_getElem] at h
  rcases Nat.lt_trichotomy i j with hij | hij | hij
  · have := h i j hi hj hij; rw [e, bytesLess_irrefl] at this; cases this
  · subst hij; rfl
  · have := h j i hj hi hij; rw [e, bytesLess_irrefl] at this; cases this
theorem find_mem {xs : List Nd} (h : Asc xs) {n : Nd} (hn : n ∈ xs) : find xs n.path = some n.c := by
  unfold find
  cases hf : xs.find? (fun m => m.path == n.path) with
  | none => rw [List.find?_eq_none] at hf; exact absurd (by simp) (hf n hn)
  | some m =>
    have h1 := List.find?_some hf
    have h2 := List.mem_of_find?_eq_some hf
    rw [asc_inj h h2 hn (by simpa using h1)]; rfl
theorem find_some {xs : List Nd} {p : Str} {c : Cont} (h : find xs p = some c) : ∃ n ∈ xs, n.path = p ∧ n.c = c := by
  unfold find at h
  cases hf : xs.find? (fun m => m.path == p) with
  | none => rw [hf] at h; cases h
  | some m =>
    rw [hf] at h
    exact ⟨m, List.mem_of_find?_eq_some hf, by simpa using List.find?_some hf, by simpa using h⟩

theorem cov_parent {ig : List Str} {p : Str} (hi : ignOk ig = true) (hp : isPath p = true) (hr : ¬ p = [47]) (h : covB ig p = false) : covB ig (parent p) = false := by
  rw [Bool.eq_false_iff]; intro hc
  obtain ⟨e1, e2, _⟩ := path_even hp hr
  unfold covB at h hc
  simp only [List.any_eq_false, List.any_eq_true, Bool.or_eq_true, decide_eq_true_eq, Bool.not_eq_true] at h hc
  obtain ⟨s, hs, hc⟩ := hc
  have hn := h s hs
  obtain ⟨hsp, hsr⟩ := igs_path hi hs
  obtain ⟨q1, q2, _⟩ := path_even hsp hsr
  apply hn
  right
  rw [under_iff hsp hp hsr]
  unfold parent at hc
  split at hc
  · rename_i hl
    rcases hc with hc | hc
    · exact absurd hc hsr
    · rw [under_not_root hsr, List.isPrefixOf_iff_prefix] at hc
      have h9 : (s ++ [47]).length ≤ 1 := hc.length_le
      rw [List.length_append] at h9
      simp only [List.length_cons, List.length_nil] at h9
      omega
  · rename_i hl
    rcases hc with hc | hc
    · rw [hc]; exact ⟨by simp; omega, by simp⟩
    · rw [under_not_root hsr, List.isPrefixOf_iff_prefix] at hc
      obtain ⟨t, ht⟩ := hc
      have hlen := congrArg List.length ht
      simp at hlen
      refine ⟨by omega, ?_⟩
      have h3 : (p.take (p.length - 2)).take s.length = s := by rw [← ht, List.append_assoc, List.take_left' rfl]
      rw [List.take_take, Nat.min_eq_left (by omega)] at h3
      exact h3

theorem get_filt {xs : List Nd} {ig : List Str} (hx : (treeOk xs && ignOk ig) = true) {p : Str} (h : covB ig p = false) : get (filtT xs ig) p = get xs p := by
  unfold get
  have : find (filtT xs ig) p = find xs p := by
    unfold filtT find
    rw [if_pos hx, List.find?_filter]
    congr 2
    funext n
    by_cases e : n.path = p
    · rw [e, h]; simp
    · simp [e]
  rw [this]
theorem find_filt_cov {xs : List Nd} {ig : List Str} (hx : (treeOk xs && ignOk ig) = true) {p : Str} (h : covB ig p = true) : find (filtT xs ig) p = none := by
  cases hf : find (filtT xs ig) p with
  | none => rfl
  | some c =>
    obtain ⟨n, hn, e1, _⟩ := find_some hf
    unfold filtT at hn
    rw [if_pos hx, List.mem_filter] at hn
    rw [e1, h] at hn
    simp at hn
theorem filt_tree {xs : List Nd} {ig : List Str} (ht : treeOk xs = true) (hi : ignOk ig = true) : treeOk (filtT xs ig) = true := by
  have hx : (treeOk xs && ignOk ig) = true := by rw [ht, hi]; rfl
  have hT := treeOk_iff.1 ht
  have hmem : ∀ n ∈ filtT xs ig, n ∈ xs ∧ covB ig n.path = false := fun n hn => by
    unfold filtT at hn; rw [if_pos hx, List.mem_filter] at hn; simpa using hn
  have hasc : Asc (filtT xs ig) := by
    unfold filtT; rw [if_pos hx]; exact (tree_asc ht).filter _
  refine treeOk_true ⟨?_, fun i n hn => ?_⟩
  · unfold filtT; rw [if_pos hx]; exact Nat.le_trans (List.length_filter_le ..) hT.1
  · obtain ⟨h1, h2⟩ := hmem n (List.mem_of_getElem? hn)
    obtain ⟨k, hk, e⟩ := List.getElem_of_mem h1
    obtain ⟨q1, q2, q3⟩ := hT.2 k n (by rw [List.getElem?_eq_getElem hk, e])
    refine ⟨q1, fun m h0 hm => asc_at hasc hn h0 hm, ?_⟩
    rw [get_filt hx (cov_parent hi q1.1 q1.2.1 h2)]; exact q3
end Go.Proofs.YtjobbcdolbhadaaGreatDoor


namespace Go.Proofs.YtjobbcdolbhadaaGreatDoor
set_option linter.unusedVariables false
set_option linter.unusedSimpArgs false
open Go Go.RowKit
set_option linter.unusedVariables false
set_option linter.unusedSimpArgs false

/-! ### Order -/
theorem bytesLess_total : ∀ {x y : List UInt8}, ¬ x = y → Op.bytesLess x y = true ∨ Op.bytesLess y x = true
  | [], [], h => absurd rfl h
  | [], _ :: _, _ => .inl rfl
  | _ :: _, [], _ => .inr rfl
  | a :: x, b :: y, h => by
    have ih := @bytesLess_total x y
    simp only [Op.bytesLess, Bool.or_eq_true, Bool.and_eq_true, decide_eq_true_eq, beq_iff_eq, UInt8.lt_iff_toNat_lt]
    rcases Nat.lt_trichotomy a.toNat b.toNat with h1 | h1 | h1
    · exact .inl (.inl h1)
    · have e : a = b := UInt8.toNat_inj.1 h1
      subst e
      rcases ih (fun e => h (by rw [e])) with h2 | h2
      · exact .inl (.inr ⟨rfl, h2⟩)
      · exact .inr (.inr ⟨rfl, h2⟩)
    · exact .inr (.inl h1)
theorem bytesLess_asymm {x y : List UInt8} (h : Op.bytesLess x y = true) : Op.bytesLess y x = false := by
  rw [Bool.eq_false_iff]; intro h2
  have := bytesLess_trans h h2
  rw [bytesLess_irrefl] at this; cases this
theorem less_or (a b : Str) : (Op.bytesLess a b || decide (a = b)) = !Op.bytesLess b a := by
  by_cases e : a = b
  · subst e; simp [bytesLess_irrefl]
  · rcases bytesLess_total e with h | h
    · simp [h, bytesLess_asymm h]
    · simp [h, e, bytesLess_asymm h]
theorem less_or2 (a b : Str) : (!Op.bytesLess a b && !decide (a = b)) = Op.bytesLess b a := by
  have := less_or a b
  rw [← Bool.not_or, this, Bool.not_not]
theorem bytesLess_prefix : ∀ (x t : List UInt8), ¬ t = [] → Op.bytesLess x (x ++ t) = true
  | [], [], h => absurd rfl h
  | [], _ :: _, _ => rfl
  | a :: x, t, h => by
    have := bytesLess_prefix x t h
    simp [Op.bytesLess, this]
/-- Two lists in a strict order with the same members are one. -/
theorem sorted_ext {α : Type} {lt : α → α → Prop} (irr : ∀ a, ¬ lt a a) (asym : ∀ a b, lt a b → ¬ lt b a) : ∀ {xs ys : List α}, xs.Pairwise lt → ys.Pairwise lt → (∀ a, a ∈ xs ↔ a ∈ ys) → xs = ys
  | [], [], _, _, _ => rfl
  | [], y :: ys, _, _, h => absurd ((h y).2 (List.mem_cons_self ..)) (by simp)
  | x :: xs, [], _, _, h => absurd ((h x).1 (List.mem_cons_self ..)) (by simp)
  | x :: xs, y :: ys, hx, hy, h => by
    rw [List.pairwise_cons] at hx hy
    have e : x = y := by
      rcases List.mem_cons.1 ((h x).1 (List.mem_cons_self ..)) with h1 | h1
      · exact h1
      · rcases List.mem_cons.1 ((h y).2 (List.mem_cons_self ..)) with h2 | h2
        · exact h2.symm
        · exact absurd (hx.1 y h2) (asym _ _ (hy.1 x h1))
    subst e
    rw [sorted_ext irr asym hx.2 hy.2 (fun a => ?_)]
    constructor
    · intro ha
      rcases List.mem_cons.1 ((h a).1 (List.mem_cons_of_mem _ ha)) with h1 | h1
      · subst h1; exact absurd (hx.1 _ ha) (irr _)
      · exact h1
    · intro ha
      rcases List.mem_cons.1 ((h a).2 (List.mem_cons_of_mem _ ha)) with h1 | h1
      · subst h1; exact absurd (hy.1 _ ha) (irr _)
      · exact h1

/-! ### Lists of nodes as maps -/
theorem find_iff {xs : List Nd} (h : Asc xs) {p : Str} {c : Cont} : find xs p = some c ↔ (⟨p, c⟩ : Nd) ∈ xs := by
  constructor
  · intro e
    obtain ⟨n, hn, e1, e2⟩ := find_some e
    cases n; simp at e1 e2; subst e1; subst e2; exact hn
  · intro e; exact find_mem h e
theorem find_none_iff {xs : List Nd} {p : Str} : find xs p = none ↔ ∀ n ∈ xs, ¬ n.path = p := by
  unfold find
  rw [Option.map_eq_none_iff, List.find?_eq_none]
  simp
/-- Nodes that ascend and are each valid. -/
structure Clean (xs : List Nd) : Prop where
  asc : Asc xs
  ok : ∀ n ∈ xs, NdOk n
theorem tree_clean {xs : List Nd} (h : treeOk xs = true) : Clean xs := ⟨tree_asc h, fun n hn => by
  obtain ⟨i, hi, e⟩ := List.getElem_of_mem hn
  exact ((treeOk_iff.1 h).2 i n (by rw [List.getElem?_eq_getElem hi, e])).1⟩
theorem contOk_none {c : Cont} (h : contOk c = true) (hk : c.kind = 0) : c = none0 := by
  unfold contOk at h; cases c; simp_all [none0]
theorem contOk_dir {c : Cont} (h : contOk c = true) (hk : c.kind = 1) : c = dir0 := by
  unfold contOk at h; cases c; simp_all [dir0]
theorem contOk_none0 : contOk none0 = true := by decide
theorem contOk_dir0 : contOk dir0 = true := by decide
theorem Clean.get_mem {xs : List Nd} (h : Clean xs) {n : Nd} (hn : n ∈ xs) : get xs n.path = n.c := by
  rw [get_not_root (h.ok n hn).2.1, find_mem h.asc hn]; rfl
theorem Clean.get_some {xs : List Nd} (h : Clean xs) {p : Str} (hp : ¬ p = [47]) (hk : ¬ (get xs p).kind = 0) : (⟨p, get xs p⟩ : Nd) ∈ xs := by
  rw [get_not_root hp] at hk ⊢
  cases hf : find xs p with
  | none => rw [hf] at hk; exact absurd rfl hk
  | some c => exact (find_iff h.asc).1 hf
theorem Clean.get_ok {xs : List Nd} (h : Clean xs) (p : Str) : contOk (get xs p) = true := by
  by_cases hp : p = [47]
  · subst hp; rw [get_root]; rfl
  · by_cases hk : (get xs p).kind = 0
    · rw [get_not_root hp] at hk ⊢
      cases hf : find xs p with
      | none => rfl
      | some c =>
        rw [hf] at hk
        exact absurd hk (h.ok _ ((find_iff h.asc).1 hf)).2.2.2
    · exact (h.ok _ (h.get_some hp hk)).2.2.1
theorem Clean.ext {xs ys : List Nd} (h : Clean xs) (h2 : Clean ys) (e : ∀ p, get xs p = get ys p) : xs = ys := by
  refine sorted_ext (α := Nd) (lt := fun a b => Op.bytesLess a.path b.path = true) (fun a e => by rw [bytesLess_irrefl] at e; cases e) (fun a b e1 e2 => by rw [bytesLess_asymm e1] at e2; cases e2) h.asc h2.asc (fun a => ?_)
  have key : ∀ {us vs : List Nd}, Clean us → Clean vs → (∀ p, get us p = get vs p) → a ∈ us → a ∈ vs := fun {us vs} hu hv e ha => by
    have h1 := hu.get_mem ha
    have h3 := hu.ok a ha
    have h4 := hv.get_some (p := a.path) h3.2.1 (by rw [← e, h1]; exact h3.2.2.2)
    rw [← e, h1] at h4; exact h4
  exact ⟨key h h2 e, key h2 h (fun p => (e p).symm)⟩
theorem tree_ext {xs ys : List Nd} (h : treeOk xs = true) (h2 : treeOk ys = true) (e : ∀ p, get xs p = get ys p) : xs = ys := (tree_clean h).ext (tree_clean h2) e

/-- A map that a tree may have, but for the number of its nodes. -/
structure Good (g : Str → Cont) : Prop where
  root : g [47] = dir0
  ok : ∀ p, contOk (g p) = true
  up : ∀ p, ¬ p = [47] → ¬ (g p).kind = 0 → isPath p = true ∧ (g (parent p)).kind = 1
theorem tree_good {xs : List Nd} (h : treeOk xs = true) : Good (get xs) := by
  have hc := tree_clean h
  refine ⟨get_root xs, hc.get_ok, fun p hp hk => ?_⟩
  have hm := hc.get_some hp hk
  obtain ⟨i, hi, e⟩ := List.getElem_of_mem hm
  have := (treeOk_iff.1 h).2 i _ (by rw [List.getElem?_eq_getElem hi, e])
  exact ⟨this.1.1, this.2.2⟩
theorem tree_of_good {xs : List Nd} (h : Clean xs) (hl : xs.length ≤ 10) (hg : Good (get xs)) : treeOk xs = true := by
  refine treeOk_true ⟨hl, fun i n hn => ?_⟩
  have hm := List.mem_of_getElem? hn
  have hk := h.ok n hm
  refine ⟨hk, fun m h0 hmm => asc_at h.asc hn h0 hmm, ?_⟩
  exact (hg.up n.path hk.2.1 (by rw [h.get_mem hm]; exact hk.2.2.2)).2

/-! ### Putting, on ascending nodes -/
theorem putGo_true (p : Str) (c : Cont) : ∀ xs : List Nd, putGo p c true xs = xs.filter (fun n => !decide (n.path = p))
  | [] => rfl
  | n :: r => by
    have := putGo_true p c r
    simp only [putGo, Bool.not_true, Bool.false_and, Bool.true_or]
    by_cases e : n.path = p <;> simp [e, this, List.filter_cons]
/-- Where a path belongs. -/
def insN (p : Str) (c : Cont) : List Nd → List Nd
  | [] => [⟨p, c⟩]
  | n :: r => if Op.bytesLess n.path p then n :: insN p c r else ⟨p, c⟩ :: n :: r
theorem asc_cons {n : Nd} {r : List Nd} (h : Asc (n :: r)) : (∀ m ∈ r, Op.bytesLess n.path m.path = true) ∧ Asc r := by
  unfold Asc at h ⊢; rw [List.pairwise_cons] at h; exact h
theorem filter_id {p : Str} {r : List Nd} (h : ∀ m ∈ r, Op.bytesLess p m.path = true) : r.filter (fun n => !decide (n.path = p)) = r := by
  rw [List.filter_eq_self]
  intro m hm
  have := h m hm
  simp only [Bool.not_eq_true', decide_eq_false_iff_not]
  intro e; rw [e, bytesLess_irrefl] at this; cases this
theorem insN_head {p : Str} {c : Cont} {r : List Nd} (h : ∀ m ∈ r, Op.bytesLess p m.path = true) : insN p c r = ⟨p, c⟩ :: r := by
  cases r with
  | nil => rfl
  | cons m r =>
    have := h m (List.mem_cons_self ..)
    simp [insN, bytesLess_asymm this]
theorem putGo_false (p : Str) (c : Cont) : ∀ {xs : List Nd}, Asc xs → putGo p c false xs = insN p c (xs.filter (fun n => !decide (n.path = p)))
  | [], _ => rfl
  | n :: r, h => by
    obtain ⟨h1, h2⟩ := asc_cons h
    have ih := putGo_false p c h2
    simp only [putGo, Bool.not_false, Bool.true_and, Bool.false_or]
    by_cases e : n.path = p
    · have h3 : ∀ m ∈ r, Op.bytesLess p m.path = true := fun m hm => by rw [← e]; exact h1 m hm
      have hl : Op.bytesLess p n.path = false := by rw [e]; exact bytesLess_irrefl p
      simp only [hl, e, putGo_true, List.filter_cons]
      simp [filter_id h3, insN_head h3, bytesLess_irrefl]
    · cases hl : Op.bytesLess p n.path
      · have hgt : Op.bytesLess n.path p = true := by
          rcases bytesLess_total e with h3 | h3
          · exact h3
          · rw [hl] at h3; cases h3
        simp [e, List.filter_cons, insN, hgt, ih]
      · have h3 : ∀ m ∈ n :: r, Op.bytesLess p m.path = true := fun m hm => by
          rcases List.mem_cons.1 hm with rfl | hm
          · exact hl
          · exact bytesLess_trans hl (h1 m hm)
        rw [filter_id h3, insN_head h3]
        simp [e, putGo_true, filter_id (fun m hm => h3 m (List.mem_cons_of_mem _ hm))]
theorem putL_asc {xs : List Nd} (h : Asc xs) (p : Str) (c : Cont) : putL xs p c = if c.kind = 0 then xs.filter (fun n => !decide (n.path = p)) else insN p c (xs.filter (fun n => !decide (n.path = p))) := by
  unfold putL
  by_cases hk : c.kind = 0
  · simp [hk, putGo_true]
  · simp [hk, putGo_false p c h]
theorem insN_mem {p : Str} {c : Cont} {n : Nd} : ∀ {xs : List Nd}, n ∈ insN p c xs ↔ n = ⟨p, c⟩ ∨ n ∈ xs
  | [] => by simp [insN]
  | m :: r => by
    have ih := @insN_mem p c n r
    unfold insN
    split
    · simp only [List.mem_cons, ih]
      constructor
      · rintro (h | h | h)
        · exact .inr (.inl h)
        · exact .inl h
        · exact .inr (.inr h)
      · rintro (h | h | h)
        · exact .inr (.inl h)
        · exact .inl h
        · exact .inr (.inr h)
    · simp
theorem insN_asc {p : Str} {c : Cont} : ∀ {xs : List Nd}, Asc xs → (∀ n ∈ xs, ¬ n.path = p) → Asc (insN p c xs)
  | [], _, _ => by simp [insN, Asc]
  | m :: r, h, hn => by
    obtain ⟨h1, h2⟩ := asc_cons h
    have ih := insN_asc (c := c) h2 (fun n hm => hn n (List.mem_cons_of_mem _ hm))
    unfold insN
    split
    · rename_i hl
      unfold Asc at ih ⊢
      rw [List.pairwise_cons]
      refine ⟨fun n hm => ?_, ih⟩
      rcases insN_mem.1 hm with rfl | hm
      · exact hl
      · exact h1 n hm
    · rename_i hl
      have hg : Op.bytesLess p m.path = true := by
        rcases bytesLess_total (hn m (List.mem_cons_self ..)) with h3 | h3
        · exact absurd h3 hl
        · exact h3
      have h0 := h
      unfold Asc at h0 ⊢
      rw [List.pairwise_cons]
      refine ⟨fun n hm => ?_, h0⟩
      rcases List.mem_cons.1 hm with rfl | hm
      · exact hg
      · exact bytesLess_trans hg (h1 n hm)
theorem insN_len (p : Str) (c : Cont) : ∀ xs : List Nd, (insN p c xs).length = xs.length + 1
  | [] => rfl
  | m :: r => by
    have := insN_len p c r
    unfold insN; split <;> simp [this]
theorem filt_asc {xs : List Nd} (h : Asc xs) (p : Str) : Asc (xs.filter (fun n => !decide (n.path = p))) := by unfold Asc at *; exact h.filter _
theorem putL_mem_iff {xs : List Nd} (h : Asc xs) {p : Str} {c : Cont} {n : Nd} : n ∈ putL xs p c ↔ (n = ⟨p, c⟩ ∧ ¬ c.kind = 0) ∨ (n ∈ xs ∧ ¬ n.path = p) := by
  rw [putL_asc h]
  split
  · rename_i hk; rw [List.mem_filter]; simp [hk]
  · rename_i hk; rw [insN_mem, List.mem_filter]; simp [hk]
theorem putL_clean {xs : List Nd} (h : Clean xs) {p : Str} {c : Cont} (hp : isPath p = true) (hr : ¬ p = [47]) (hc : contOk c = true) : Clean (putL xs p c) := by
  refine ⟨?_, fun n hn => ?_⟩
  · rw [putL_asc h.asc]
    split
    · exact filt_asc h.asc p
    · exact insN_asc (filt_asc h.asc p) (fun n hn => by rw [List.mem_filter] at hn; simpa using hn.2)
  · rcases (putL_mem_iff h.asc).1 hn with ⟨rfl, hk⟩ | ⟨hn, _⟩
    · exact ⟨hp, hr, hc, hk⟩
    · exact h.ok n hn
/-- The content of a path behind a put. -/
theorem get_put {xs : List Nd} (h : Clean xs) {p : Str} {c : Cont} (hp : isPath p = true) (hr : ¬ p = [47]) (hc : contOk c = true) (q : Str) : get (putL xs p c) q = if q = p then c else get xs q := by
  have h2 := putL_clean h hp hr hc
  by_cases hq : q = [47]
  · subst hq; rw [get_root, get_root, if_neg (fun e => hr e.symm)]
  · by_cases e : q = p
    · subst e
      rw [if_pos rfl]
      by_cases hk : c.kind = 0
      · rw [contOk_none hc hk, get_not_root hq, find_none_iff.2 (fun n hn => ?_)]; rfl
        rcases (putL_mem_iff h.asc).1 hn with ⟨_, h3⟩ | ⟨_, h3⟩
        · exact absurd rfl h3
        · exact h3
      · have := h2.get_mem (n := ⟨q, c⟩) ((putL_mem_iff h.asc).2 (.inl ⟨rfl, hk⟩))
        exact this
    · rw [if_neg e, get_not_root hq, get_not_root hq]
      cases hf : find xs q with
      | none => rw [find_none_iff.2 (fun n hn => ?_)]
                rcases (putL_mem_iff h.asc).1 hn with ⟨rfl, h3⟩ | ⟨h3, _⟩
                · exact fun e2 => e e2.symm
                · exact find_none_iff.1 hf n h3
      | some d => rw [(find_iff h2.asc).2 ((putL_mem_iff h.asc).2 (.inr ⟨(find_iff h.asc).1 hf, e⟩))]
/-- How many nodes there are behind a put. -/
theorem put_len {xs : List Nd} (h : Clean xs) {p : Str} (hr : ¬ p = [47]) (c : Cont) : (putL xs p c).length + (if (get xs p).kind = 0 then 0 else 1) = xs.length + (if c.kind = 0 then 0 else 1) := by
  have hf : (xs.filter (fun n => !decide (n.path = p))).length + (if (get xs p).kind = 0 then 0 else 1) = xs.length := by
    have key : ∀ {ys : List Nd}, Asc ys → (ys.filter (fun n => !decide (n.path = p))).length + (if (find ys p).isSome then 1 else 0) = ys.length := by
      intro ys
      induction ys with
      | nil => intro _; simp [find]
      | cons m r ih =>
        intro ha
        obtain ⟨h1, h2⟩ := asc_cons ha
        by_cases e : m.path = p
        · have h3 : ∀ n ∈ r, Op.bytesLess p n.path = true := fun n hn => by rw [← e]; exact h1 n hn
          have : find (m :: r) p = some m.c := by unfold find; simp [e]
          rw [this]
          simp [List.filter_cons, e, filter_id h3]
        · have : find (m :: r) p = find r p := by unfold find; simp [e]
          rw [this]
          have := ih h2
          simp [List.filter_cons, e]; omega
    rw [← key h.asc]
    congr 1
    rw [get_not_root hr]
    cases hf : find xs p with
    | none => rfl
    | some d => have := (h.ok _ ((find_iff h.asc).1 hf)).2.2.2; simp at this; simp [this]
  rw [putL_asc h.asc]
  split
  · omega
  · rw [insN_len]; omega
end Go.Proofs.YtjobbcdolbhadaaGreatDoor


namespace Go.Proofs.YtjobbcdolbhadaaGreatDoor
set_option linter.unusedVariables false
set_option linter.unusedSimpArgs false
open Go Go.RowKit
set_option linter.unusedVariables false
set_option linter.unusedSimpArgs false

/-! ### Under and parent -/
theorem parent_short {p : Str} (h : p.length ≤ 2) : parent p = [47] := by unfold parent; rw [if_pos h]; rfl
theorem parent_long {p : Str} (h : ¬ p.length ≤ 2) : parent p = p.take (p.length - 2) := by unfold parent; rw [if_neg h]
theorem under_len {a b : Str} (ha : isPath a = true) (hb : isPath b = true) (h : under a b = true) : a.length < b.length := by
  by_cases hr : a = [47]
  · subst hr
    rw [under_root] at h
    have hne : ¬ b = [47] := by simpa using h
    have := path_even hb hne
    simp; omega
  · exact ((under_iff ha hb hr).1 h).1
theorem under_ne_root {a b : Str} (ha : isPath a = true) (hb : isPath b = true) (h : under a b = true) : ¬ b = [47] := by
  intro e
  subst e
  by_cases hr : a = [47]
  · subst hr; exact absurd h (by decide)
  · have h1 := ((under_iff ha hb hr).1 h).1
    have h2 := (path_even ha hr).2.1
    have h3 : ([47] : Str).length = 1 := rfl
    omega
theorem under_irrefl {a : Str} (ha : isPath a = true) : under a a = false := by
  rw [Bool.eq_false_iff]; intro h; have := under_len ha ha h; omega
theorem under_less {a b : Str} (ha : isPath a = true) (hb : isPath b = true) (h : under a b = true) : Op.bytesLess a b = true := by
  have hbr := under_ne_root ha hb h
  by_cases hr : a = [47]
  · subst hr
    obtain ⟨_, h2, h3⟩ := path_even hb hbr
    have h4 := h3 0 (by omega)
    cases b with
    | nil => simp at h2
    | cons x r =>
      simp at h4; subst h4
      exact bytesLess_prefix [47] r (by intro e; subst e; simp at h2)
  · obtain ⟨h1, h2⟩ := (under_iff ha hb hr).1 h
    have e : b = a ++ b.drop a.length := by conv => lhs; rw [← List.take_append_drop a.length b, h2]
    rw [e]
    exact bytesLess_prefix _ _ (by intro e2; have := congrArg List.length e2; simp at this; omega)
theorem under_trans {a b c : Str} (ha : isPath a = true) (hb : isPath b = true) (hc : isPath c = true) (h : under a b = true) (h2 : under b c = true) : under a c = true := by
  have hcr := under_ne_root hb hc h2
  have hbr := under_ne_root ha hb h
  by_cases hr : a = [47]
  · subst hr; rw [under_root]; simpa using hcr
  · rw [under_iff ha hc hr]
    have h3 := (under_iff ha hb hr).1 h
    have h4 := (under_iff hb hc hbr).1 h2
    refine ⟨by omega, ?_⟩
    have e : (c.take b.length).take a.length = a := by rw [h4.2]; exact h3.2
    rw [List.take_take, Nat.min_eq_left (by omega)] at e
    exact e
/-- What is above a path is its parent, or above that. -/
theorem under_parent {a p : Str} (ha : isPath a = true) (hp : isPath p = true) (hq : isPath (parent p) = true) (h : under a p = true) : a = parent p ∨ under a (parent p) = true := by
  have hpr := under_ne_root ha hp h
  obtain ⟨p1, p2, _⟩ := path_even hp hpr
  by_cases hr : a = [47]
  · subst hr
    by_cases e : parent p = [47]
    · exact .inl e.symm
    · right; rw [under_root]; simpa using e
  · obtain ⟨h1, h2⟩ := (under_iff ha hp hr).1 h
    obtain ⟨a1, a2, _⟩ := path_even ha hr
    have hl : ¬ p.length ≤ 2 := by omega
    rw [parent_long hl] at hq ⊢
    by_cases e : a.length = p.length - 2
    · left; rw [← e, h2]
    · right
      rw [under_iff ha hq hr]
      refine ⟨by simp; omega, ?_⟩
      rw [List.take_take, Nat.min_eq_left (by omega)]; exact h2
theorem parent_under {p : Str} (hp : isPath p = true) (hr : ¬ p = [47]) (hq : isPath (parent p) = true) : under (parent p) p = true := by
  obtain ⟨p1, p2, _⟩ := path_even hp hr
  by_cases e : p.length ≤ 2
  · rw [parent_short e, under_root]; simpa using hr
  · have hne : ¬ parent p = [47] := by
      rw [parent_long e]; intro e2; have := congrArg List.length e2; simp at this; omega
    rw [under_iff hq hp hne, parent_long e]
    refine ⟨by simp; omega, ?_⟩
    simp
theorem isPath_root : isPath [47] = true := by decide
theorem Good.path {g : Str → Cont} (h : Good g) {p : Str} (hk : ¬ (g p).kind = 0) : isPath p = true := by
  by_cases hp : p = [47]
  · subst hp; exact isPath_root
  · exact (h.up p hp hk).1
theorem Good.parent {g : Str → Cont} (h : Good g) {p : Str} (hp : ¬ p = [47]) (hk : ¬ (g p).kind = 0) : isPath (parent p) = true := h.path (by rw [(h.up p hp hk).2]; decide)
/-- Whatever is above something is a directory. -/
theorem Good.above {g : Str → Cont} (h : Good g) : ∀ (n : Nat) {a p : Str}, p.length ≤ n → isPath a = true → under a p = true → ¬ (g p).kind = 0 → (g a).kind = 1
  | 0, a, p, hl, ha, hu, hk => by
    have hp := h.path hk
    have := under_len ha hp hu
    omega
  | n + 1, a, p, hl, ha, hu, hk => by
    have hp := h.path hk
    have hr := under_ne_root ha hp hu
    have h1 := (h.up p hr hk).2
    have hq := h.parent hr hk
    rcases under_parent ha hp hq hu with rfl | h2
    · exact h1
    · have h3 := under_len hq hp (parent_under hp hr hq)
      exact Good.above h n (by omega) ha h2 (by rw [h1]; decide)
theorem Good.dir_above {g : Str → Cont} (h : Good g) {a p : Str} (ha : isPath a = true) (hu : under a p = true) (hk : ¬ (g p).kind = 0) : (g a).kind = 1 := h.above _ (Nat.le_refl _) ha hu hk

/-! ### Commands ovr a map -/
/-- Each path once. -/
def Once (cs : List Cm) : Prop := cs.Pairwise (fun c d => ¬ c.path = d.path)
def AllOk (cs : List Cm) : Prop := ∀ c ∈ cs, cmOk c = true
/-- Each command begins with what the map has. -/
def Fits (g : Str → Cont) (cs : List Cm) : Prop := ∀ c ∈ cs, g c.path = c.fr
def ovr (g : Str → Cont) (cs : List Cm) (p : Str) : Cont := match cs.find? (fun c => decide (c.path = p)) with | some c => c.to | none => g p
theorem Once.inj {cs : List Cm} (h : Once cs) {c d : Cm} (hc : c ∈ cs) (hd : d ∈ cs) (e : c.path = d.path) : c = d := by
  obtain ⟨i, hi, rfl⟩ := List.getElem_of_mem hc
  obtain ⟨j, hj, rfl⟩ := List.getElem_of_mem hd
  unfold Once at h
  rw [List.pairwise_iff_getElem] at h
  rcases Nat.lt_trichotomy i j with hij | hij | hij
  · exact absurd e (h i j hi hj hij)
  · subst hij; rfl
  · exact absurd e.symm (h j i hj hi hij)
theorem ovr_mem {g : Str → Cont} {cs : List Cm} (h : Once cs) {c : Cm} (hc : c ∈ cs) : ovr g cs c.path = c.to := by
  unfold ovr
  cases hf : cs.find? (fun d => decide (d.path = c.path)) with
  | none => rw [List.find?_eq_none] at hf; exact absurd (by simp) (hf c hc)
  | some d =>
    have h1 : d.path = c.path := by simpa using List.find?_some hf
    rw [h.inj (List.mem_of_find?_eq_some hf) hc h1]
theorem ovr_none {g : Str → Cont} {cs : List Cm} {p : Str} (h : ∀ c ∈ cs, ¬ c.path = p) : ovr g cs p = g p := by
  unfold ovr
  rw [List.find?_eq_none.2 (fun c hc => by simpa using h c hc)]
theorem ovr_cases (g : Str → Cont) {cs : List Cm} (h : Once cs) (p : Str) : (∃ c ∈ cs, c.path = p ∧ ovr g cs p = c.to) ∨ ((∀ c ∈ cs, ¬ c.path = p) ∧ ovr g cs p = g p) := by
  by_cases e : ∃ c ∈ cs, c.path = p
  · obtain ⟨c, hc, rfl⟩ := e
    exact .inl ⟨c, hc, rfl, ovr_mem h hc⟩
  · have e2 : ∀ c ∈ cs, ¬ c.path = p := fun c hc e3 => e ⟨c, hc, e3⟩
    exact .inr ⟨e2, ovr_none e2⟩
theorem ovr_nil (g : Str → Cont) : ovr g [] = g := rfl
theorem Once.sub {cs ds : List Cm} (h : Once cs) (hs : List.Sublist ds cs) : Once ds := List.Pairwise.sublist hs h
theorem ovr_cons {g : Str → Cont} {c : Cm} {r : List Cm} (h : Once (c :: r)) (p : Str) : ovr g (c :: r) p = ovr (fun q => if q = c.path then c.to else g q) r p := by
  unfold Once at h; rw [List.pairwise_cons] at h
  unfold ovr
  by_cases e : c.path = p
  · subst e
    have hn : r.find? (fun d => decide (d.path = c.path)) = none := List.find?_eq_none.2 (fun d hd => by simpa using fun e2 => h.1 d hd e2.symm)
    simp [hn]
  · simp [List.find?_cons, e]
    cases r.find? (fun d => decide (d.path = p)) with
    | none => simp; exact fun e2 => absurd e2.symm e
    | some d => rfl
theorem cmOk_root {c : Cm} (h : cmOk c = true) : ¬ c.path = [47] := by unfold cmOk at h; simp at h; exact h.1.1.1.2
theorem cmOk_ne {c : Cm} (h : cmOk c = true) : ¬ c.fr = c.to := by
  unfold cmOk at h; simp only [Bool.and_eq_true, Bool.not_eq_true', decide_eq_false_iff_not] at h
  exact fun e => h.2 (by rw [e]; exact ⟨rfl, rfl⟩)
theorem ovr_good_ok {g : Str → Cont} {cs : List Cm} (hg : Good g) (ho : Once cs) (ha : AllOk cs) : ovr g cs [47] = dir0 ∧ ∀ p, contOk (ovr g cs p) = true := by
  refine ⟨?_, fun p => ?_⟩
  · rw [ovr_none (fun c hc => cmOk_root (ha c hc))]; exact hg.root
  · rcases ovr_cases g ho p with ⟨c, hc, _, e⟩ | ⟨_, e⟩
    · rw [e]; exact (cmOk_conts (ha c hc)).2
    · rw [e]; exact hg.ok p

/-- Commands done one after the other, whether they can be or not. -/
def runL (t : List Nd) (cs : List Cm) : List Nd := cs.foldl (fun t c => putL t c.path c.to) t
theorem runL_cons (t : List Nd) (c : Cm) (r : List Cm) : runL t (c :: r) = runL (putL t c.path c.to) r := rfl
theorem runL_clean : ∀ {cs : List Cm} {t : List Nd}, Clean t → AllOk cs → Clean (runL t cs)
  | [], _, h, _ => h
  | c :: r, t, h, ha => by
    have hc := ha c (List.mem_cons_self ..)
    rw [runL_cons]
    exact runL_clean (putL_clean h (cmOk_path hc) (cmOk_root hc) (cmOk_conts hc).2) (fun d hd => ha d (List.mem_cons_of_mem _ hd))
theorem runL_get : ∀ {cs : List Cm} {t : List Nd}, Clean t → AllOk cs → Once cs → ∀ p, get (runL t cs) p = ovr (get t) cs p
  | [], _, h, _, _, p => rfl
  | c :: r, t, h, ha, ho, p => by
    have hc := ha c (List.mem_cons_self ..)
    have h2 := putL_clean h (cmOk_path hc) (cmOk_root hc) (cmOk_conts hc).2
    have ho2 := ho; unfold Once at ho2; rw [List.pairwise_cons] at ho2
    rw [runL_cons, runL_get h2 (fun d hd => ha d (List.mem_cons_of_mem _ hd)) ho2.2, ovr_cons ho]
    congr 1
    funext q
    exact get_put h (cmOk_path hc) (cmOk_root hc) (cmOk_conts hc).2 q
def delta (c : Cm) : Int := (if c.fr.kind = 0 then 1 else 0) - (if c.to.kind = 0 then 1 else 0)
theorem put_delta {t : List Nd} (h : Clean t) {c : Cm} (hc : cmOk c = true) (hf : get t c.path = c.fr) : ((putL t c.path c.to).length : Int) = t.length + delta c := by
  have := put_len h (cmOk_root hc) c.to
  rw [hf] at this
  unfold delta
  split at this <;> split at this <;> simp [*] <;> omega
theorem fits_put {t : List Nd} (h : Clean t) {c : Cm} {r : List Cm} (ha : AllOk (c :: r)) (ho : Once (c :: r)) (hf : Fits (get t) (c :: r)) : Fits (get (putL t c.path c.to)) r := fun d hd => by
  have hc := ha c (List.mem_cons_self ..)
  unfold Once at ho; rw [List.pairwise_cons] at ho
  rw [get_put h (cmOk_path hc) (cmOk_root hc) (cmOk_conts hc).2, if_neg (fun e => ho.1 d hd e.symm)]
  exact hf d (List.mem_cons_of_mem _ hd)
def deltas (cs : List Cm) : Int := (cs.map delta).sum
theorem runL_len : ∀ {cs : List Cm} {t : List Nd}, Clean t → AllOk cs → Once cs → Fits (get t) cs → ((runL t cs).length : Int) = t.length + deltas cs
  | [], t, h, _, _, _ => by simp [runL, deltas]
  | c :: r, t, h, ha, ho, hf => by
    have hc := ha c (List.mem_cons_self ..)
    have h2 := putL_clean h (cmOk_path hc) (cmOk_root hc) (cmOk_conts hc).2
    have ho2 := ho; unfold Once at ho2; rw [List.pairwise_cons] at ho2
    rw [runL_cons, runL_len h2 (fun d hd => ha d (List.mem_cons_of_mem _ hd)) ho2.2 (fits_put h ha ho hf), put_delta h hc (hf c (List.mem_cons_self ..))]
    simp [deltas]; omega

/-! ### What LogApply does -/
noncomputable def logGo : List Nd → List Cm → List Nd × Nat
  | t, [] => (t, 0)
  | t, c :: r => if cmDo t c then ((logGo (putL t c.path c.to) r).1, (logGo (putL t c.path c.to) r).2 + 1) else (t, 0)
theorem logGo_le : ∀ (t : List Nd) (cs : List Cm), (logGo t cs).2 ≤ cs.length
  | _, [] => Nat.le_refl _
  | t, c :: r => by
    have := logGo_le (putL t c.path c.to) r
    unfold logGo; split <;> simp <;> omega
theorem cmDo_tree {t : List Nd} {c : Cm} (h : cmDo t c = true) : treeOk t = true ∧ cmOk c = true ∧ get t c.path = c.fr ∧ treeOk (putL t c.path c.to) = true := by
  unfold cmDo putOk at h
  simp only [Bool.and_eq_true, decide_eq_true_eq] at h
  exact ⟨h.1.1.1, h.1.1.2, h.1.2, h.2.2⟩
theorem cmDo_of {t : List Nd} {c : Cm} (h : treeOk t = true) (hc : cmOk c = true) (hf : get t c.path = c.fr) (h2 : treeOk (putL t c.path c.to) = true) : cmDo t c = true := by
  have hp := cmOk_path hc
  have hr := cmOk_root hc
  have hk := (cmOk_conts hc).2
  unfold cmDo putOk
  simp [h, hc, hf, h2, hp, hr, hk]
theorem logGo_tree : ∀ {cs : List Cm} {t : List Nd}, treeOk t = true → treeOk (logGo t cs).1 = true
  | [], _, h => h
  | c :: r, t, h => by
    unfold logGo
    split
    · rename_i hd; exact logGo_tree (cmDo_tree hd).2.2.2
    · exact h
theorem logGo_run : ∀ {cs : List Cm} {t : List Nd}, (logGo t cs).1 = runL t (cs.take (logGo t cs).2)
  | [], _ => rfl
  | c :: r, t => by
    unfold logGo
    split
    · show (logGo (putL t c.path c.to) r).1 = runL t ((c :: r).take ((logGo (putL t c.path c.to) r).2 + 1))
      rw [List.take_succ_cons, runL_cons]
      exact logGo_run
    · rfl
/-- A log whose states are all good is done as far as there is room. -/
theorem logGo_steps : ∀ {cs : List Cm} {t : List Nd}, treeOk t = true → AllOk cs → Once cs → Fits (get t) cs → (∀ k, Good (ovr (get t) (cs.take k))) →
    (∀ k, k ≤ (logGo t cs).2 → treeOk (runL t (cs.take k)) = true) ∧ ((logGo t cs).2 < cs.length → 10 < (runL t (cs.take ((logGo t cs).2 + 1))).length)
  | [], t, h, _, _, _, _ => ⟨fun k hk => by simpa [runL] using h, fun hk => absurd hk (by simp [logGo])⟩
  | c :: r, t, h, ha, ho, hf, hg => by
    have hcl := tree_clean h
    have hc := ha c (List.mem_cons_self ..)
    have h2 := putL_clean hcl (cmOk_path hc) (cmOk_root hc) (cmOk_conts hc).2
    have ho2 := ho; unfold Once at ho2; rw [List.pairwise_cons] at ho2
    have ha2 : AllOk r := fun d hd => ha d (List.mem_cons_of_mem _ hd)
    have hs : ∀ k, ovr (get (putL t c.path c.to)) (r.take k) = ovr (get t) ((c :: r).take (k + 1)) := fun k => by
      funext p
      rw [List.take_succ_cons, ovr_cons (ho.sub (by rw [← List.take_succ_cons]; exact List.take_sublist ..))]
      congr 1
      funext q
      exact get_put hcl (cmOk_path hc) (cmOk_root hc) (cmOk_conts hc).2 q
    have hg1 : Good (get (putL t c.path c.to)) := by have := hg 1; rw [← hs 0] at this; exact this
    have ih := @logGo_steps r (putL t c.path c.to)
    by_cases hd : cmDo t c = true
    · have ht := (cmDo_tree hd).2.2.2
      obtain ⟨i1, i2⟩ := ih ht ha2 ho2.2 (fits_put hcl ha ho hf) (fun k => by rw [hs]; exact hg _)
      have e : (logGo t (c :: r)).2 = (logGo (putL t c.path c.to) r).2 + 1 := by conv => lhs; unfold logGo; rw [if_pos hd]
      rw [e]
      refine ⟨fun k hk => ?_, fun hk => ?_⟩
      · cases k with
        | zero => exact h
        | succ k => rw [List.take_succ_cons, runL_cons]; exact i1 k (by omega)
      · rw [List.take_succ_cons, runL_cons]; exact i2 (by simp at hk; omega)
    · have e : (logGo t (c :: r)).2 = 0 := by unfold logGo; rw [if_neg hd]
      rw [e]
      refine ⟨fun k hk => ?_, fun hk => ?_⟩
      · have : k = 0 := by omega
        subst this; exact h
      · show 10 < (putL t c.path c.to).length
        rcases Nat.lt_or_ge 10 (putL t c.path c.to).length with h3 | h3
        · exact h3
        · exact absurd (cmDo_of h hc (hf c (List.mem_cons_self ..)) (tree_of_good h2 h3 hg1)) hd
/-- .. and all of it, if there is always room. -/
theorem logGo_all {cs : List Cm} {t : List Nd} (h : treeOk t = true) (ha : AllOk cs) (ho : Once cs) (hf : Fits (get t) cs) (hg : ∀ k, Good (ovr (get t) (cs.take k))) (hl : ∀ k, (runL t (cs.take k)).length ≤ 10) :
    logGo t cs = (runL t cs, cs.length) := by
  obtain ⟨_, h2⟩ := logGo_steps h ha ho hf hg
  have h3 := logGo_le t cs
  have e : (logGo t cs).2 = cs.length := by
    rcases Nat.lt_or_ge (logGo t cs).2 cs.length with h4 | h4
    · have := h2 h4; have := hl ((logGo t cs).2 + 1); omega
    · omega
  have e1 := @logGo_run cs t
  rw [e, List.take_length] at e1
  exact Prod.ext e1 e
end Go.Proofs.YtjobbcdolbhadaaGreatDoor


namespace Go.Proofs.YtjobbcdolbhadaaGreatDoor
set_option linter.unusedVariables false
set_option linter.unusedSimpArgs false
open Go Go.RowKit
set_option linter.unusedVariables false
set_option linter.unusedSimpArgs false

def endsB (c : Cm) : Bool := decide (c.to.kind = 0) || decide (c.fr.kind = 1)
def befB (c d : Cm) : Bool := if endsB c && endsB d then Op.bytesLess d.path c.path else if !endsB c && !endsB d then Op.bytesLess c.path d.path else endsB c
def putC (c : Cm) : List Cm → List Cm
  | [] => [c]
  | x :: r => if befB c x then c :: x :: r else x :: putC c r
def sortC (cs : List Cm) : List Cm := cs.foldl (fun out c => putC c out) []
theorem putC_len (c : Cm) : ∀ xs : List Cm, (putC c xs).length = xs.length + 1
  | [] => rfl
  | x :: r => by
    have := putC_len c r
    unfold putC; split <;> simp [this]
theorem putC_mem {c d : Cm} : ∀ {xs : List Cm}, d ∈ putC c xs ↔ d = c ∨ d ∈ xs
  | [] => by simp [putC]
  | x :: r => by
    have := @putC_mem c d r
    unfold putC
    split
    · simp
    · simp only [List.mem_cons, this]
      constructor
      · rintro (h | h | h)
        · exact .inr (.inl h)
        · exact .inl h
        · exact .inr (.inr h)
      · rintro (h | h | h)
        · exact .inr (.inl h)
        · exact .inl h
        · exact .inr (.inr h)
theorem sortC_snoc (xs : List Cm) (c : Cm) : sortC (xs ++ [c]) = putC c (sortC xs) := by unfold sortC; rw [List.foldl_append]; rfl
theorem sortC_take {xs : List Cm} {k : Nat} {c : Cm} (h : xs[k]? = some c) : sortC (xs.take (k + 1)) = putC c (sortC (xs.take k)) := by rw [List.take_add_one, h]; exact sortC_snoc _ _
theorem sort_fold (cs : List Cm) : ∀ (acc : List Cm), (cs.foldl (fun out c => putC c out) acc).length = cs.length + acc.length ∧ ∀ d, d ∈ cs.foldl (fun out c => putC c out) acc ↔ d ∈ cs ∨ d ∈ acc := by
  induction cs with
  | nil => intro acc; simp
  | cons c r ih =>
    intro acc
    obtain ⟨h1, h2⟩ := ih (putC c acc)
    refine ⟨by rw [List.foldl_cons, h1, putC_len]; simp; omega, fun d => ?_⟩
    rw [List.foldl_cons, h2, putC_mem]
    simp only [List.mem_cons]
    constructor
    · rintro (h | h | h)
      · exact .inl (.inr h)
      · exact .inl (.inl h)
      · exact .inr h
    · rintro ((h | h) | h)
      · exact .inr (.inl h)
      · exact .inl h
      · exact .inr (.inr h)
theorem sortC_len (cs : List Cm) : (sortC cs).length = cs.length := by have := (sort_fold cs []).1; unfold sortC; simpa using this
theorem sortC_mem {cs : List Cm} {d : Cm} : d ∈ sortC cs ↔ d ∈ cs := by have := (sort_fold cs []).2 d; unfold sortC; simpa using this

/-- What the commands on a path make of a content. -/
def chase (p : Str) : Cont → List Cm → Option Cont
  | t, [] => some t
  | t, d :: r => if d.path = p then (if d.fr = t then chase p d.to r else none) else chase p t r
/-- A log's commands, one for each path, if those on a path are one behind the other. -/
def canonGo (seen : List Cm) : List Cm → Option (List Cm)
  | [] => some []
  | c :: r => if seen.any (fun d => decide (d.path = c.path)) then canonGo (seen ++ [c]) r else
    match chase c.path c.to r with
    | none => none
    | some t => (canonGo (seen ++ [c]) r).map (fun out => if c.fr = t then out else ⟨c.path, c.fr, t⟩ :: out)
def logCanon (cs : List Cm) : Option (List Cm) := if logOk cs then (canonGo [] cs).map sortC else none
theorem canonGo_len : ∀ (seen r out : List Cm), canonGo seen r = some out → out.length ≤ r.length
  | _, [], out, h => by simp [canonGo] at h; subst h; simp
  | seen, c :: r, out, h => by
    unfold canonGo at h
    split at h
    · have := canonGo_len _ _ _ h; simp; omega
    · split at h
      · cases h
      · rename_i t _
        rw [Option.map_eq_some_iff] at h
        obtain ⟨o, h1, rfl⟩ := h
        have := canonGo_len _ _ _ h1
        split <;> simp <;> omega
theorem canonGo_path {Q : Str → Prop} : ∀ (seen r out : List Cm), canonGo seen r = some out → (∀ c ∈ r, Q c.path) → ∀ c ∈ out, Q c.path
  | _, [], out, h, _, c, hc => by simp [canonGo] at h; subst h; simp at hc
  | seen, c :: r, out, h, hq, d, hd => by
    unfold canonGo at h
    split at h
    · exact canonGo_path _ _ _ h (fun x hx => hq x (List.mem_cons_of_mem _ hx)) d hd
    · split at h
      · cases h
      · rename_i t _
        rw [Option.map_eq_some_iff] at h
        obtain ⟨o, h1, rfl⟩ := h
        have ih := canonGo_path _ _ _ h1 (fun x hx => hq x (List.mem_cons_of_mem _ hx))
        split at hd
        · exact ih d hd
        · rcases List.mem_cons.1 hd with rfl | hd
          · exact hq c (List.mem_cons_self ..)
          · exact ih d hd
theorem logCanon_some {cs out : List Cm} (h : logCanon cs = some out) : logOk cs = true ∧ ∃ o, canonGo [] cs = some o ∧ out = sortC o := by
  unfold logCanon at h
  split at h
  · rename_i hl
    rw [Option.map_eq_some_iff] at h
    obtain ⟨o, h1, rfl⟩ := h
    exact ⟨hl, o, h1, rfl⟩
  · cases h
theorem logCanon_len {cs out : List Cm} (h : logCanon cs = some out) : out.length ≤ cs.length := by
  obtain ⟨_, o, h1, rfl⟩ := logCanon_some h
  rw [sortC_len]; exact canonGo_len _ _ _ h1
theorem logCanon_path {Q : Str → Prop} {cs out : List Cm} (h : logCanon cs = some out) (hq : ∀ c ∈ cs, Q c.path) : ∀ c ∈ out, Q c.path := by
  obtain ⟨_, o, h1, rfl⟩ := logCanon_some h
  intro c hc
  exact canonGo_path _ _ _ h1 hq c (sortC_mem.1 hc)
theorem canon_getD_len {cs : List Cm} {n : Nat} (h : cs.length ≤ n) : ((logCanon cs).getD []).length ≤ n := by
  cases e : logCanon cs with
  | none => simp
  | some o => have := logCanon_len e; simp; omega
theorem canon_getD_path {Q : Str → Prop} {cs : List Cm} (hq : ∀ c ∈ cs, Q c.path) : ∀ c ∈ (logCanon cs).getD [], Q c.path := by
  cases e : logCanon cs with
  | none => simp
  | some o => exact logCanon_path e hq
end Go.Proofs.YtjobbcdolbhadaaGreatDoor


namespace Go.Proofs.YtjobbcdolbhadaaGreatDoor
set_option linter.unusedVariables false
set_option linter.unusedSimpArgs false
open Go Go.RowKit
set_option linter.unusedVariables false
set_option linter.unusedSimpArgs false

theorem befB_irrefl (c : Cm) : befB c c = false := by
  unfold befB; cases endsB c <;> simp [bytesLess_irrefl]
theorem befB_asymm {c d : Cm} (h : befB c d = true) : befB d c = false := by
  unfold befB at *
  cases hc : endsB c <;> cases hd : endsB d <;> simp [hc, hd] at h ⊢ <;> exact bytesLess_asymm h
theorem befB_trans {c d e : Cm} (h : befB c d = true) (h2 : befB d e = true) : befB c e = true := by
  unfold befB at *
  cases hc : endsB c <;> cases hd : endsB d <;> cases he : endsB e <;> simp [hc, hd, he] at h h2 ⊢
  · exact bytesLess_trans h h2
  · exact bytesLess_trans h2 h
theorem befB_total {c d : Cm} (h : ¬ c.path = d.path) : befB c d = true ∨ befB d c = true := by
  unfold befB
  cases hc : endsB c <;> cases hd : endsB d <;> simp
  · exact bytesLess_total h
  · exact bytesLess_total (fun e => h e.symm)
def Sorted (cs : List Cm) : Prop := cs.Pairwise (fun c d => befB c d = true)
theorem sorted_one {xs ys : List Cm} (hx : Sorted xs) (hy : Sorted ys) (h : ∀ c, c ∈ xs ↔ c ∈ ys) : xs = ys :=
  sorted_ext (α := Cm) (lt := fun c d => befB c d = true) (fun a e => by rw [befB_irrefl] at e; cases e) (fun a b e1 e2 => by rw [befB_asymm e1] at e2; cases e2) hx hy h
theorem putC_sorted {c : Cm} : ∀ {xs : List Cm}, Sorted xs → (∀ d ∈ xs, ¬ c.path = d.path) → Sorted (putC c xs)
  | [], _, _ => by simp [putC, Sorted]
  | x :: r, h, hn => by
    have h0 := h
    unfold Sorted at h; rw [List.pairwise_cons] at h
    have ih := putC_sorted (c := c) (xs := r) h.2 (fun d hd => hn d (List.mem_cons_of_mem _ hd))
    unfold putC
    split
    · rename_i hb
      unfold Sorted; rw [List.pairwise_cons]
      refine ⟨fun d hd => ?_, h0⟩
      rcases List.mem_cons.1 hd with rfl | hd
      · exact hb
      · exact befB_trans hb (h.1 d hd)
    · rename_i hb
      have hb2 : befB x c = true := by
        rcases befB_total (hn x (List.mem_cons_self ..)) with h3 | h3
        · exact absurd h3 hb
        · exact h3
      unfold Sorted at ih ⊢; rw [List.pairwise_cons]
      refine ⟨fun d hd => ?_, ih⟩
      rcases putC_mem.1 hd with rfl | hd
      · exact hb2
      · exact h.1 d hd
theorem once_mem {cs : List Cm} (h : Once cs) : cs.Nodup := by
  unfold Once at h
  exact h.imp (fun h e => h (by rw [e]))
theorem sort_fold_sorted : ∀ (l acc : List Cm), (∀ c ∈ l, ∀ d ∈ acc, ¬ c.path = d.path) → Once l → Sorted acc → Sorted (l.foldl (fun out c => putC c out) acc)
  | [], acc, _, _, h => h
  | c :: r, acc, hn, ho, h => by
    have ho2 := ho; unfold Once at ho2; rw [List.pairwise_cons] at ho2
    rw [List.foldl_cons]
    refine sort_fold_sorted r (putC c acc) (fun x hx d hd => ?_) ho2.2 (putC_sorted h (fun d hd => hn c (List.mem_cons_self ..) d hd))
    rcases putC_mem.1 hd with rfl | hd
    · exact fun e => ho2.1 x hx e.symm
    · exact hn x (List.mem_cons_of_mem _ hx) d hd
theorem sortC_sorted {cs : List Cm} (h : Once cs) : Sorted (sortC cs) := sort_fold_sorted cs [] (fun _ _ d hd => by simp at hd) h (by simp [Sorted])
theorem once_of_inj {cs : List Cm} (hn : cs.Nodup) (h : ∀ c ∈ cs, ∀ d ∈ cs, c.path = d.path → c = d) : Once cs := by
  unfold Once List.Nodup at *
  exact List.Pairwise.imp_of_mem (fun {a b} ha hb hne e => hne (h a ha b hb e)) hn
theorem sorted_nodup {cs : List Cm} (h : Sorted cs) : cs.Nodup := by
  unfold Sorted at h
  exact h.imp (fun h e => by rw [e, befB_irrefl] at h; cases h)
theorem sortC_once {cs : List Cm} (h : Once cs) : Once (sortC cs) :=
  once_of_inj (sorted_nodup (sortC_sorted h)) (fun c hc d hd e => h.inj (sortC_mem.1 hc) (sortC_mem.1 hd) e)
/-- Commands of the same set, each path once: sorted they are one list. -/
theorem sortC_eq {cs ds : List Cm} (h : Once cs) (h2 : Once ds) (e : ∀ c, c ∈ cs ↔ c ∈ ds) : sortC cs = sortC ds :=
  sorted_one (sortC_sorted h) (sortC_sorted h2) (fun c => by rw [sortC_mem, sortC_mem]; exact e c)
theorem sortC_self {cs : List Cm} (h : Once cs) (hs : Sorted cs) : sortC cs = cs := sorted_one (sortC_sorted h) hs (fun c => sortC_mem)
theorem Sorted.sub {cs ds : List Cm} (h : Sorted cs) (hs : List.Sublist ds cs) : Sorted ds := List.Pairwise.sublist hs h

/-! ### Orders -/
def mustB (c d : Cm) : Bool := (under d.path c.path && decide (d.fr.kind = 1)) || (under c.path d.path && decide (c.to.kind = 1))
/-- No command behind one that it must precede. -/
def Poss (cs : List Cm) : Prop := cs.Pairwise (fun d c => mustB c d = false)
theorem ends_to {c : Cm} (hc : cmOk c = true) (he : endsB c = true) : ¬ c.to.kind = 1 := by
  intro h1
  have hk := cmOk_conts hc
  have hn := cmOk_ne hc
  unfold endsB at he
  simp only [Bool.or_eq_true, decide_eq_true_eq] at he
  rcases he with h | h
  · rw [h1] at h; cases h
  · exact hn (by rw [contOk_dir hk.1 h, contOk_dir hk.2 h1])
theorem ends_fr {c : Cm} (hc : cmOk c = true) (he : endsB c = true) : ¬ c.fr.kind = 0 := by
  intro h1
  have hk := cmOk_conts hc
  have hn := cmOk_ne hc
  unfold endsB at he
  simp only [Bool.or_eq_true, decide_eq_true_eq] at he
  rcases he with h | h
  · exact hn (by rw [contOk_none hk.1 h1, contOk_none hk.2 h])
  · rw [h1] at h; cases h
theorem not_ends {c : Cm} (he : endsB c = false) : ¬ c.to.kind = 0 ∧ ¬ c.fr.kind = 1 := by
  unfold endsB at he
  simp only [Bool.or_eq_false_iff, decide_eq_false_iff_not] at he
  exact he
theorem befB_both {c d : Cm} (hc : endsB c = true) (hd : endsB d = true) (h : befB c d = true) : Op.bytesLess d.path c.path = true := by
  unfold befB at h; simpa [hc, hd] using h
theorem befB_none {c d : Cm} (hc : endsB c = false) (hd : endsB d = false) (h : befB c d = true) : Op.bytesLess c.path d.path = true := by
  unfold befB at h; simpa [hc, hd] using h
theorem befB_ends {c d : Cm} (hc : endsB c = false) (h : befB c d = true) : endsB d = false := by
  unfold befB at h
  cases hd : endsB d
  · rfl
  · simp [hc, hd] at h
/-- The canonical order is possible. -/
theorem canon_poss {g : Str → Cont} {cs : List Cm} (hg : Good g) (hg2 : Good (ovr g cs)) (ha : AllOk cs) (ho : Once cs) (hf : Fits g cs) (hs : Sorted cs) : Poss cs := by
  unfold Poss
  unfold Sorted at hs
  refine List.Pairwise.imp_of_mem (fun {d c} hd hc hb => ?_) hs
  rw [Bool.eq_false_iff]; intro hm
  have hpc := cmOk_path (ha c hc)
  have hpd := cmOk_path (ha d hd)
  have oc := ovr_mem (g := g) ho hc
  have od := ovr_mem (g := g) ho hd
  unfold mustB at hm
  simp only [Bool.or_eq_true, Bool.and_eq_true, decide_eq_true_eq] at hm
  rcases hm with ⟨hu, hk⟩ | ⟨hu, hk⟩
  · -- c lies under d, which was a directory; d stands before c
    have hde : endsB d = true := by unfold endsB; simp [hk]
    cases hce : endsB c
    · have h1 := (not_ends hce).1
      have h2 := hg2.dir_above hpd hu (by rw [oc]; exact h1)
      rw [od] at h2
      exact ends_to (ha d hd) hde h2
    · have h1 := befB_both hde hce hb
      have h2 := under_less hpd hpc hu
      rw [bytesLess_asymm h1] at h2; cases h2
  · -- d lies under c, which becomes a directory; d stands before c
    have hce : endsB c = false := by
      cases h : endsB c
      · rfl
      · exact absurd hk (ends_to (ha c hc) h)
    cases hde : endsB d
    · have h1 := befB_none hde hce hb
      have h2 := under_less hpc hpd hu
      rw [bytesLess_asymm h1] at h2; cases h2
    · have h1 := ends_fr (ha d hd) hde
      have h2 := hg.dir_above hpc hu (by rw [hf d hd]; exact h1)
      rw [hf c hc] at h2
      exact (not_ends hce).2 h2
theorem take_mem {cs : List Cm} {k : Nat} {c : Cm} (h : c ∈ cs.take k) : c ∈ cs := List.mem_of_mem_take h
/-- What must precede a command done is done. -/
theorem poss_before {cs : List Cm} (h : Poss cs) {k : Nat} {c d : Cm} (hc : c ∈ cs.take k) (hd : d ∈ cs) (hm : mustB d c = true) : d ∈ cs.take k := by
  rw [← List.take_append_drop k cs] at hd
  rcases List.mem_append.1 hd with h1 | h1
  · exact h1
  · exfalso
    unfold Poss at h
    rw [← List.take_append_drop k cs, List.pairwise_append] at h
    have := h.2.2 c hc d h1
    rw [hm] at this; cases this
/-- A log in a possible order goes from a good map to a good one through good ones. -/
theorem poss_good {g : Str → Cont} {cs : List Cm} (hg : Good g) (hg2 : Good (ovr g cs)) (ha : AllOk cs) (ho : Once cs) (hf : Fits g cs) (hp : Poss cs) (k : Nat) : Good (ovr g (cs.take k)) := by
  have hak : AllOk (cs.take k) := fun c hc => ha c (take_mem hc)
  have hok : Once (cs.take k) := ho.sub (List.take_sublist ..)
  obtain ⟨r1, r2⟩ := ovr_good_ok hg hok hak
  refine ⟨r1, r2, fun p hpr hk => ?_⟩
  rcases ovr_cases g hok p with ⟨c, hc, rfl, e⟩ | ⟨hn, e⟩
  · rw [e] at hk
    have hcm := take_mem hc
    have oc := ovr_mem (g := g) ho hcm
    have h1 := hg2.up c.path hpr (by rw [oc]; exact hk)
    have hpp := hg2.parent hpr (by rw [oc]; exact hk)
    refine ⟨h1.1, ?_⟩
    have hu := parent_under h1.1 hpr hpp
    rcases ovr_cases g ho (parent c.path) with ⟨d, hd, ed, e2⟩ | ⟨hn2, e2⟩
    · have hk1 : d.to.kind = 1 := by rw [← e2]; exact h1.2
      have hm : mustB d c = true := by unfold mustB; rw [ed, hu, hk1]; simp
      rw [← ed, ovr_mem hok (poss_before hp hc hd hm)]; exact hk1
    · rw [ovr_none (fun d hd => hn2 d (take_mem hd)), ← e2]; exact h1.2
  · rw [e] at hk
    have h1 := hg.up p hpr hk
    have hpp := hg.parent hpr hk
    refine ⟨h1.1, ?_⟩
    have hu := parent_under h1.1 hpr hpp
    rcases ovr_cases g hok (parent p) with ⟨d, hd, ed, e2⟩ | ⟨_, e2⟩
    · exfalso
      have hdm := take_mem hd
      have hdf : d.fr.kind = 1 := by rw [← hf d hdm, ed]; exact h1.2
      have hde : endsB d = true := by unfold endsB; simp [hdf]
      have hdt := ends_to (ha d hdm) hde
      -- behind all, nothing is at p
      have hz : (ovr g cs p).kind = 0 := Classical.byContradiction fun hz => by
        have := (hg2.up p hpr hz).2
        rw [← ed, ovr_mem ho hdm] at this
        exact hdt this
      rcases ovr_cases g ho p with ⟨c, hc, ec, e3⟩ | ⟨_, e3⟩
      · have hm : mustB c d = true := by unfold mustB; rw [ec, ed, hu, hdf]; simp
        exact hn c (poss_before hp hd hc hm) ec
      · rw [e3] at hz; exact hk hz
    · rw [e2]; exact h1.2

/-! ### Room -/
theorem deltas_append (a b : List Cm) : deltas (a ++ b) = deltas a + deltas b := by simp [deltas]
theorem deltas_ends : ∀ {cs : List Cm}, AllOk cs → (∀ c ∈ cs, endsB c = true) → deltas cs ≤ 0
  | [], _, _ => by simp [deltas]
  | c :: r, ha, he => by
    have ih := @deltas_ends r (fun d hd => ha d (List.mem_cons_of_mem _ hd)) (fun d hd => he d (List.mem_cons_of_mem _ hd))
    have h1 := ends_fr (ha c (List.mem_cons_self ..)) (he c (List.mem_cons_self ..))
    have h2 : delta c ≤ 0 := by unfold delta; rw [if_neg h1]; split <;> simp
    simp only [deltas, List.map_cons, List.sum_cons] at *
    omega
theorem deltas_makes : ∀ {cs : List Cm}, (∀ c ∈ cs, endsB c = false) → 0 ≤ deltas cs
  | [], _ => by simp [deltas]
  | c :: r, he => by
    have ih := @deltas_makes r (fun d hd => he d (List.mem_cons_of_mem _ hd))
    have h1 := (not_ends (he c (List.mem_cons_self ..))).1
    have h2 : 0 ≤ delta c := by unfold delta; rw [if_neg h1]; split <;> simp
    simp only [deltas, List.map_cons, List.sum_cons] at *
    omega
/-- On the way there are never more nodes than at one of its ends. -/
theorem canon_room {cs : List Cm} (ha : AllOk cs) (hs : Sorted cs) (k : Nat) : deltas (cs.take k) ≤ 0 ∨ deltas (cs.take k) ≤ deltas cs := by
  by_cases h : ∀ c ∈ cs.take k, endsB c = true
  · exact .inl (deltas_ends (fun c hc => ha c (take_mem hc)) h)
  · right
    have ⟨c, hc⟩ := Classical.not_forall.1 h
    have ⟨hc, he⟩ := Classical.not_imp.1 hc
    have he : endsB c = false := by simpa using he
    have h2 : 0 ≤ deltas (cs.drop k) := deltas_makes (fun d hd => by
      unfold Sorted at hs
      rw [← List.take_append_drop k cs, List.pairwise_append] at hs
      exact befB_ends he (hs.2.2 c hc d hd))
    have h3 := deltas_append (cs.take k) (cs.drop k)
    rw [List.take_append_drop] at h3
    omega
theorem AllOk.take {cs : List Cm} (h : AllOk cs) (k : Nat) : AllOk (cs.take k) := fun c hc => h c (take_mem hc)
theorem Once.take {cs : List Cm} (h : Once cs) (k : Nat) : Once (cs.take k) := h.sub (List.take_sublist ..)
theorem Fits.take {g : Str → Cont} {cs : List Cm} (h : Fits g cs) (k : Nat) : Fits g (cs.take k) := fun c hc => h c (take_mem hc)
/-- A canonical log that leads to a good map with room is done whole. -/
theorem canon_all {cs : List Cm} {t : List Nd} (h : treeOk t = true) (ha : AllOk cs) (ho : Once cs) (hf : Fits (get t) cs) (hs : Sorted cs) (hg : Good (ovr (get t) cs)) (hl : (t.length : Int) + deltas cs ≤ 10) : logGo t cs = (runL t cs, cs.length) := by
  have hp := canon_poss (tree_good h) hg ha ho hf hs
  refine logGo_all h ha ho hf (fun k => poss_good (tree_good h) hg ha ho hf hp k) (fun k => ?_)
  have h1 := runL_len (tree_clean h) (ha.take k) (ho.take k) (hf.take k)
  have h2 := tree_len h
  rcases canon_room ha hs k with h3 | h3 <;> omega
/-- .. and one that is not done whole stops at a full tree. -/
theorem canon_stops {cs : List Cm} {t : List Nd} (h : treeOk t = true) (ha : AllOk cs) (ho : Once cs) (hf : Fits (get t) cs) (hs : Sorted cs) (hg : Good (ovr (get t) cs)) (hn : (logGo t cs).2 < cs.length) : (logGo t cs).1.length = 10 ∧ 10 < (t.length : Int) + deltas cs := by
  have hp := canon_poss (tree_good h) hg ha ho hf hs
  obtain ⟨h1, h2⟩ := logGo_steps h ha ho hf (fun k => poss_good (tree_good h) hg ha ho hf hp k)
  have h3 := h2 hn
  constructor
  · have h4 := h1 _ (Nat.le_refl _)
    rw [← logGo_run] at h4
    have h5 := tree_len h4
    rw [List.take_add_one, List.getElem?_eq_getElem hn] at h3
    unfold runL at h3
    rw [Option.toList_some, List.foldl_append] at h3
    have h6 := putL_len (runL t (cs.take (logGo t cs).2)) cs[(logGo t cs).2].path cs[(logGo t cs).2].to
    rw [← logGo_run] at h6
    simp only [List.foldl_cons, List.foldl_nil] at h3
    have h7 : List.foldl (fun t c => putL t c.path c.to) t (cs.take (logGo t cs).2) = (logGo t cs).1 := logGo_run.symm
    rw [h7] at h3
    omega
  · rcases Int.lt_or_le 10 ((t.length : Int) + deltas cs) with h4 | h4
    · exact h4
    · have := canon_all h ha ho hf hs hg h4
      rw [this] at hn; simp at hn
/-- Towards a tree there is always room. -/
theorem canon_to {cs : List Cm} {t f : List Nd} (h : treeOk t = true) (hf2 : treeOk f = true) (ha : AllOk cs) (ho : Once cs) (hf : Fits (get t) cs) (hs : Sorted cs) (he : ∀ p, get f p = ovr (get t) cs p) : logGo t cs = (f, cs.length) := by
  have hg : Good (ovr (get t) cs) := by
    have : get f = ovr (get t) cs := funext he
    rw [← this]; exact tree_good hf2
  have hr : runL t cs = f := (runL_clean (tree_clean h) ha).ext (tree_clean hf2) (fun p => by rw [runL_get (tree_clean h) ha ho, he])
  have hl := runL_len (tree_clean h) ha ho hf
  rw [hr] at hl
  have := tree_len hf2
  rw [canon_all h ha ho hf hs hg (by omega), hr]
/-- What a log that is done whole leaves. -/
theorem logGo_full {cs : List Cm} {t : List Nd} (h : (logGo t cs).2 = cs.length) : (logGo t cs).1 = runL t cs := by
  have := @logGo_run cs t
  rw [h, List.take_length] at this; exact this
end Go.Proofs.YtjobbcdolbhadaaGreatDoor


namespace Go.Proofs.YtjobbcdolbhadaaGreatDoor
set_option linter.unusedVariables false
set_option linter.unusedSimpArgs false
open Go Go.RowKit
set_option linter.unusedVariables false
set_option linter.unusedSimpArgs false

/-! ### The paths of two trees -/
def mergeP : List Nd → List Nd → List Str
  | [], ys => ys.map (·.path)
  | xs, [] => xs.map (·.path)
  | x :: xs, y :: ys => if Op.bytesLess x.path y.path then x.path :: mergeP xs (y :: ys) else if Op.bytesLess y.path x.path then y.path :: mergeP (x :: xs) ys else x.path :: mergeP xs ys
termination_by xs ys => xs.length + ys.length
theorem mergeP_nil (ys : List Nd) : mergeP [] ys = ys.map (·.path) := by unfold mergeP; rfl
theorem mergeP_nil' (xs : List Nd) : mergeP xs [] = xs.map (·.path) := by
  cases xs with
  | nil => unfold mergeP; rfl
  | cons x r => unfold mergeP; rfl
theorem mergeP_cons (x y : Nd) (xs ys : List Nd) : mergeP (x :: xs) (y :: ys) = if Op.bytesLess x.path y.path then x.path :: mergeP xs (y :: ys) else if Op.bytesLess y.path x.path then y.path :: mergeP (x :: xs) ys else x.path :: mergeP xs ys := by
  conv => lhs; unfold mergeP
theorem less_eq {a b : Str} (h : Op.bytesLess a b = false) (h2 : Op.bytesLess b a = false) : a = b := Classical.byContradiction fun e => by
  rcases bytesLess_total e with h3 | h3
  · rw [h] at h3; cases h3
  · rw [h2] at h3; cases h3
theorem mergeP_mem (p : Str) : ∀ (n : Nat) (xs ys : List Nd), xs.length + ys.length ≤ n → (p ∈ mergeP xs ys ↔ (∃ m ∈ xs, m.path = p) ∨ ∃ m ∈ ys, m.path = p)
  | n, [], ys, _ => by rw [mergeP_nil, List.mem_map]; simp
  | n, x :: xs, [], _ => by rw [mergeP_nil', List.mem_map]; simp
  | 0, x :: xs, y :: ys, h => by simp at h
  | n + 1, x :: xs, y :: ys, h => by
    simp only [List.length_cons] at h
    have i1 := mergeP_mem p n xs (y :: ys) (by simp; omega)
    have i2 := mergeP_mem p n (x :: xs) ys (by simp; omega)
    have i3 := mergeP_mem p n xs ys (by omega)
    rw [mergeP_cons]
    simp only [List.mem_cons, exists_eq_or_imp] at i1 i2 ⊢
    split
    · simp only [List.mem_cons, i1]
      constructor
      · rintro (h | h | h | h)
        · exact .inl (.inl h.symm)
        · exact .inl (.inr h)
        · exact .inr (.inl h)
        · exact .inr (.inr h)
      · rintro ((h | h) | h | h)
        · exact .inl h.symm
        · exact .inr (.inl h)
        · exact .inr (.inr (.inl h))
        · exact .inr (.inr (.inr h))
    · rename_i h1
      split
      · simp only [List.mem_cons, i2]
        constructor
        · rintro (h | (h | h) | h)
          · exact .inr (.inl h.symm)
          · exact .inl (.inl h)
          · exact .inl (.inr h)
          · exact .inr (.inr h)
        · rintro ((h | h) | h | h)
          · exact .inr (.inl (.inl h))
          · exact .inr (.inl (.inr h))
          · exact .inl h.symm
          · exact .inr (.inr h)
      · rename_i h2
        have e := less_eq (by simpa using h1) (by simpa using h2)
        simp only [List.mem_cons, i3]
        constructor
        · rintro (h | h | h)
          · exact .inl (.inl h.symm)
          · exact .inl (.inr h)
          · exact .inr (.inr h)
        · rintro ((h | h) | h | h)
          · exact .inl h.symm
          · exact .inr (.inl h)
          · exact .inl (by rw [e]; exact h.symm)
          · exact .inr (.inr h)
def AscP (ps : List Str) : Prop := ps.Pairwise (fun a b => Op.bytesLess a b = true)
theorem mergeP_asc : ∀ (n : Nat) (xs ys : List Nd), xs.length + ys.length ≤ n → Asc xs → Asc ys → AscP (mergeP xs ys)
  | n, [], ys, _, _, h => by rw [mergeP_nil]; unfold AscP; rw [List.pairwise_map]; exact h
  | n, x :: xs, [], _, h, _ => by rw [mergeP_nil']; unfold AscP; rw [List.pairwise_map]; exact h
  | 0, x :: xs, y :: ys, h, _, _ => by simp at h
  | n + 1, x :: xs, y :: ys, h, hx, hy => by
    simp only [List.length_cons] at h
    have hx2 := asc_cons hx
    have hy2 := asc_cons hy
    rw [mergeP_cons]
    split
    · rename_i h1
      unfold AscP; rw [List.pairwise_cons]
      refine ⟨fun p hp => ?_, mergeP_asc n xs (y :: ys) (by simp; omega) hx2.2 hy⟩
      rcases (mergeP_mem p _ _ _ (Nat.le_refl _)).1 hp with ⟨m, hm, rfl⟩ | ⟨m, hm, rfl⟩
      · exact hx2.1 m hm
      · rcases List.mem_cons.1 hm with rfl | hm
        · exact h1
        · exact bytesLess_trans h1 (hy2.1 m hm)
    · rename_i h1
      split
      · rename_i h2
        unfold AscP; rw [List.pairwise_cons]
        refine ⟨fun p hp => ?_, mergeP_asc n (x :: xs) ys (by simp; omega) hx hy2.2⟩
        rcases (mergeP_mem p _ _ _ (Nat.le_refl _)).1 hp with ⟨m, hm, rfl⟩ | ⟨m, hm, rfl⟩
        · rcases List.mem_cons.1 hm with rfl | hm
          · exact h2
          · exact bytesLess_trans h2 (hx2.1 m hm)
        · exact hy2.1 m hm
      · rename_i h2
        have e := less_eq (by simpa using h1) (by simpa using h2)
        unfold AscP; rw [List.pairwise_cons]
        refine ⟨fun p hp => ?_, mergeP_asc n xs ys (by omega) hx2.2 hy2.2⟩
        rcases (mergeP_mem p _ _ _ (Nat.le_refl _)).1 hp with ⟨m, hm, rfl⟩ | ⟨m, hm, rfl⟩
        · exact hx2.1 m hm
        · rw [e]; exact hy2.1 m hm
theorem mergeP_len : ∀ (n : Nat) (xs ys : List Nd), xs.length + ys.length ≤ n → (mergeP xs ys).length ≤ xs.length + ys.length
  | n, [], ys, _ => by rw [mergeP_nil]; simp
  | n, x :: xs, [], _ => by rw [mergeP_nil']; simp
  | 0, x :: xs, y :: ys, h => by simp at h
  | n + 1, x :: xs, y :: ys, h => by
    simp only [List.length_cons] at h
    have i1 := mergeP_len n xs (y :: ys) (by simp; omega)
    have i2 := mergeP_len n (x :: xs) ys (by simp; omega)
    have i3 := mergeP_len n xs ys (by omega)
    rw [mergeP_cons]
    simp only [List.length_cons] at *
    split
    · simp; omega
    · split <;> simp <;> omega
/-- The paths whose contents differ. -/
def chgL (xs ys : List Nd) : List Str := (mergeP xs ys).filter (fun p => !decide (get xs p = get ys p))
noncomputable def treeChg (xs ys : List Nd) : List Str := if treeOk xs && treeOk ys then chgL xs ys else []
theorem get_none_of {xs : List Nd} {p : Str} (hp : ¬ p = [47]) (h : ∀ m ∈ xs, ¬ m.path = p) : get xs p = none0 := by
  rw [get_not_root hp, find_none_iff.2 h]; rfl
theorem chg_mem {xs ys : List Nd} {p : Str} : p ∈ chgL xs ys ↔ ¬ get xs p = get ys p := by
  unfold chgL
  rw [List.mem_filter, mergeP_mem p _ _ _ (Nat.le_refl _)]
  simp only [Bool.not_eq_true', decide_eq_false_iff_not, and_iff_right_iff_imp]
  intro h
  refine Classical.byContradiction fun hn => h ?_
  by_cases hr : p = [47]
  · subst hr; rw [get_root, get_root]
  · rw [get_none_of hr (fun m hm e => hn (.inl ⟨m, hm, e⟩)), get_none_of hr (fun m hm e => hn (.inr ⟨m, hm, e⟩))]
theorem chg_asc {xs ys : List Nd} (hx : Asc xs) (hy : Asc ys) : AscP (chgL xs ys) := by
  have := mergeP_asc _ _ _ (Nat.le_refl _) hx hy
  unfold AscP at *; exact this.filter _
theorem chg_len {xs ys : List Nd} (hx : treeOk xs = true) (hy : treeOk ys = true) : (chgL xs ys).length ≤ 20 := by
  have h1 := tree_len hx
  have h2 := tree_len hy
  have h3 := mergeP_len _ xs ys (Nat.le_refl _)
  have h4 : (chgL xs ys).length ≤ (mergeP xs ys).length := List.length_filter_le ..
  omega
theorem ascP_nodup {ps : List Str} (h : AscP ps) : ps.Nodup := h.imp (fun h e => by rw [e, bytesLess_irrefl] at h; cases h)
theorem ascP_ext {ps qs : List Str} (h : AscP ps) (h2 : AscP qs) (e : ∀ p, p ∈ ps ↔ p ∈ qs) : ps = qs :=
  sorted_ext (α := Str) (lt := fun a b => Op.bytesLess a b = true) (fun a e => by rw [bytesLess_irrefl] at e; cases e) (fun a b e1 e2 => by rw [bytesLess_asymm e1] at e2; cases e2) h h2 e
theorem chg_comm {xs ys : List Nd} (hx : Asc xs) (hy : Asc ys) : chgL xs ys = chgL ys xs :=
  ascP_ext (chg_asc hx hy) (chg_asc hy hx) (fun p => by rw [chg_mem, chg_mem]; exact ⟨fun h e => h e.symm, fun h e => h e.symm⟩)
theorem treeChg_comm (xs ys : List Nd) : treeChg xs ys = treeChg ys xs := by
  unfold treeChg
  rw [Bool.and_comm]
  split
  · rename_i h
    simp only [Bool.and_eq_true] at h
    exact chg_comm (tree_asc h.2) (tree_asc h.1)
  · rfl
theorem chg_nil {xs ys : List Nd} (hx : treeOk xs = true) (hy : treeOk ys = true) : chgL xs ys = [] ↔ xs = ys := by
  constructor
  · intro h
    refine tree_ext hx hy (fun p => Classical.byContradiction fun hn => ?_)
    have := chg_mem.2 hn
    rw [h] at this; simp at this
  · rintro rfl
    refine List.eq_nil_iff_forall_not_mem.2 (fun p hp => ?_)
    exact chg_mem.1 hp rfl

/-! ### The difference of two trees -/
def diffRaw (xs ys : List Nd) : List Cm := (chgL xs ys).map (fun p => ⟨p, get xs p, get ys p⟩)
def diffL (xs ys : List Nd) : List Cm := sortC (diffRaw xs ys)
noncomputable def canonDiff (xs ys : List Nd) : Option (List Cm) := if treeOk xs && treeOk ys then some (diffL xs ys) else none
theorem diffRaw_mem {xs ys : List Nd} {c : Cm} : c ∈ diffRaw xs ys ↔ c.fr = get xs c.path ∧ c.to = get ys c.path ∧ ¬ c.fr = c.to := by
  unfold diffRaw
  rw [List.mem_map]
  constructor
  · rintro ⟨p, hp, rfl⟩; exact ⟨rfl, rfl, chg_mem.1 hp⟩
  · rintro ⟨h1, h2, h3⟩
    refine ⟨c.path, chg_mem.2 (by rw [← h1, ← h2]; exact h3), ?_⟩
    cases c; simp at *; exact ⟨h1.symm, h2.symm⟩
theorem diffRaw_once {xs ys : List Nd} (hx : Asc xs) (hy : Asc ys) : Once (diffRaw xs ys) := by
  have := ascP_nodup (chg_asc hx hy)
  unfold Once diffRaw
  rw [List.pairwise_map]
  exact this
theorem diffL_mem {xs ys : List Nd} {c : Cm} : c ∈ diffL xs ys ↔ c.fr = get xs c.path ∧ c.to = get ys c.path ∧ ¬ c.fr = c.to := by
  unfold diffL; rw [sortC_mem, diffRaw_mem]
theorem cmOk_of {c : Cm} (hp : isPath c.path = true) (hr : ¬ c.path = [47]) (h1 : contOk c.fr = true) (h2 : contOk c.to = true) (hn : ¬ c.fr = c.to) : cmOk c = true := by
  have h3 : decide (c.fr.kind = c.to.kind ∧ c.fr.value = c.to.value) = false := decide_eq_false (fun e => hn (by
    obtain ⟨p, ⟨a, b⟩, ⟨c, d⟩⟩ := c; simp at e; simp [e]))
  unfold cmOk; simp [hp, hr, h1, h2, h3]
theorem diff_allOk {xs ys : List Nd} (hx : treeOk xs = true) (hy : treeOk ys = true) : AllOk (diffL xs ys) := fun c hc => by
  obtain ⟨h1, h2, h3⟩ := diffL_mem.1 hc
  have gx := tree_good hx
  have gy := tree_good hy
  have hr : ¬ c.path = [47] := fun e => h3 (by rw [h1, h2, e, get_root, get_root])
  refine cmOk_of ?_ hr (by rw [h1]; exact gx.ok _) (by rw [h2]; exact gy.ok _) h3
  by_cases hk : (get xs c.path).kind = 0
  · have hk2 : ¬ (get ys c.path).kind = 0 := fun hk2 => h3 (by rw [h1, h2, contOk_none (gx.ok _) hk, contOk_none (gy.ok _) hk2])
    exact gy.path hk2
  · exact gx.path hk
theorem diff_len {xs ys : List Nd} (hx : treeOk xs = true) (hy : treeOk ys = true) : (diffL xs ys).length = (chgL xs ys).length := by
  unfold diffL; rw [sortC_len]; unfold diffRaw; rw [List.length_map]
theorem logOk_of {cs : List Cm} (h : AllOk cs) (hl : cs.length ≤ 20) : logOk cs = true := by
  unfold logOk; rw [decide_eq_true hl, Bool.true_and, List.all_eq_true]; exact h
theorem logOk_parts {cs : List Cm} (h : logOk cs = true) : cs.length ≤ 20 ∧ AllOk cs := by
  unfold logOk at h
  simp only [Bool.and_eq_true, decide_eq_true_eq, List.all_eq_true] at h
  exact h
/-- Canonical: valid, each path once, in order. -/
def CanonOk (cs : List Cm) : Prop := logOk cs = true ∧ Once cs ∧ Sorted cs
noncomputable instance (cs : List Cm) : Decidable (CanonOk cs) := Classical.propDecidable _
noncomputable def canonOk (cs : List Cm) : Bool := decide (CanonOk cs)
theorem canonOk_iff {cs : List Cm} : canonOk cs = true ↔ CanonOk cs := by unfold canonOk; exact decide_eq_true_iff
theorem canonOk_true {cs : List Cm} (h : CanonOk cs) : canonOk cs = true := decide_eq_true h
theorem canonOk_false {cs : List Cm} (h : ¬ CanonOk cs) : canonOk cs = false := decide_eq_false h
theorem diff_once {xs ys : List Nd} (hx : treeOk xs = true) (hy : treeOk ys = true) : Once (diffL xs ys) := sortC_once (diffRaw_once (tree_asc hx) (tree_asc hy))
theorem diff_sorted {xs ys : List Nd} (hx : treeOk xs = true) (hy : treeOk ys = true) : Sorted (diffL xs ys) := sortC_sorted (diffRaw_once (tree_asc hx) (tree_asc hy))
theorem diff_canon {xs ys : List Nd} (hx : treeOk xs = true) (hy : treeOk ys = true) : canonOk (diffL xs ys) = true :=
  canonOk_true ⟨logOk_of (diff_allOk hx hy) (by rw [diff_len hx hy]; exact chg_len hx hy), diff_once hx hy, diff_sorted hx hy⟩
theorem diff_over {xs ys : List Nd} (hx : treeOk xs = true) (hy : treeOk ys = true) (p : Str) : get ys p = ovr (get xs) (diffL xs ys) p := by
  rcases ovr_cases (get xs) (diff_once hx hy) p with ⟨c, hc, rfl, e⟩ | ⟨hn, e⟩
  · rw [e]; exact (diffL_mem.1 hc).2.1.symm
  · rw [e]
    exact Classical.byContradiction fun h => hn ⟨p, get xs p, get ys p⟩ (diffL_mem.2 ⟨rfl, rfl, fun h2 => h h2.symm⟩) rfl
theorem diff_fits {xs ys : List Nd} : Fits (get xs) (diffL xs ys) := fun c hc => (diffL_mem.1 hc).1.symm
/-- The difference of two trees leads from one to the other. -/
theorem diff_leads {xs ys : List Nd} (hx : treeOk xs = true) (hy : treeOk ys = true) : logGo xs (diffL xs ys) = (ys, (diffL xs ys).length) :=
  canon_to hx hy (diff_allOk hx hy) (diff_once hx hy) diff_fits (diff_sorted hx hy) (diff_over hx hy)
theorem diff_self (xs : List Nd) : diffL xs xs = [] := by
  refine List.eq_nil_iff_forall_not_mem.2 (fun c hc => ?_)
  obtain ⟨h1, h2, h3⟩ := diffL_mem.1 hc
  exact h3 (by rw [h1, h2])

/-! ### The canonical log of a log that fits -/
theorem logGo_head {t : List Nd} {c : Cm} {r : List Cm} (h : (logGo t (c :: r)).2 = (c :: r).length) : cmDo t c = true ∧ (logGo (putL t c.path c.to) r).2 = r.length := by
  unfold logGo at h
  split at h
  · rename_i hd; exact ⟨hd, by simpa using h⟩
  · simp at h
theorem cmDo_get {t : List Nd} {c : Cm} (hd : cmDo t c = true) (q : Str) : get (putL t c.path c.to) q = if q = c.path then c.to else get t q := by
  obtain ⟨h1, h2, h3, h4⟩ := cmDo_tree hd
  exact get_put (tree_clean h1) (cmOk_path h2) (cmOk_root h2) (cmOk_conts h2).2 q
theorem chase_fit (p : Str) : ∀ {r : List Cm} {t : List Nd}, (logGo t r).2 = r.length → chase p (get t p) r = some (get (runL t r) p)
  | [], t, _ => rfl
  | c :: r, t, h => by
    obtain ⟨hd, h2⟩ := logGo_head h
    have ih := chase_fit p h2
    rw [cmDo_get hd] at ih
    rw [runL_cons]
    unfold chase
    by_cases e : c.path = p
    · have hf := (cmDo_tree hd).2.2.1
      rw [e] at hf
      rw [if_pos e, if_pos hf.symm]
      rw [if_pos e.symm] at ih
      exact ih
    · rw [if_neg e]
      rw [if_neg (fun e2 => e e2.symm)] at ih
      exact ih
theorem canonGo_fit (g : Str → Cont) : ∀ {r seen : List Cm} {t : List Nd}, (logGo t r).2 = r.length → (∀ p, (∀ d ∈ seen, ¬ d.path = p) → get t p = g p) →
    ∃ out, canonGo seen r = some out ∧ Once out ∧ ∀ c, c ∈ out ↔ (∀ d ∈ seen, ¬ d.path = c.path) ∧ c.fr = g c.path ∧ c.to = get (runL t r) c.path ∧ ¬ c.fr = c.to
  | [], seen, t, _, hs => ⟨[], rfl, by simp [Once], fun c => by
      simp only [List.not_mem_nil, false_iff]
      rintro ⟨h1, h2, h3, h4⟩
      exact h4 (by rw [h2, h3]; exact (hs _ h1).symm)⟩
  | c :: r, seen, t, h, hs => by
    obtain ⟨hd, h2⟩ := logGo_head h
    have hg := cmDo_get hd
    obtain ⟨o, ho1, ho2, ho3⟩ := @canonGo_fit g r (seen ++ [c]) (putL t c.path c.to) h2 (fun p hp => by
      have h3 : ¬ c.path = p := hp c (by simp)
      rw [hg, if_neg (fun e => h3 e.symm)]
      exact hs p (fun d hd => hp d (by simp [hd])))
    rw [runL_cons]
    unfold canonGo
    by_cases e : seen.any (fun d => decide (d.path = c.path)) = true
    · rw [if_pos e]
      refine ⟨o, ho1, ho2, fun d => ?_⟩
      rw [ho3]
      obtain ⟨s, hs1, hs2⟩ := List.any_eq_true.1 e
      have hs2 : s.path = c.path := by simpa using hs2
      constructor
      · rintro ⟨q1, q2⟩
        exact ⟨fun x hx => q1 x (by simp [hx]), q2⟩
      · rintro ⟨q1, q2⟩
        refine ⟨fun x hx => ?_, q2⟩
        rcases List.mem_append.1 hx with hx | hx
        · exact q1 x hx
        · simp at hx; subst hx; rw [← hs2]; exact q1 s hs1
    · rw [if_neg e]
      have hc : chase c.path c.to r = some (get (runL (putL t c.path c.to) r) c.path) := by
        have := chase_fit c.path h2
        rw [hg, if_pos rfl] at this; exact this
      rw [hc, ho1]
      have hns : ∀ d ∈ seen, ¬ d.path = c.path := fun d hd e2 => e (List.any_eq_true.2 ⟨d, hd, by simpa using e2⟩)
      have hf : c.fr = g c.path := by rw [← (cmDo_tree hd).2.2.1]; exact hs _ hns
      refine ⟨_, rfl, ?_, fun d => ?_⟩
      · dsimp only
        split
        · exact ho2
        · unfold Once; rw [List.pairwise_cons]
          refine ⟨fun d hd => ?_, ho2⟩
          exact fun e2 => ((ho3 d).1 hd).1 c (by simp) e2
      · dsimp only
        have key : d ∈ o ↔ ¬ d.path = c.path ∧ (∀ x ∈ seen, ¬ x.path = d.path) ∧ d.fr = g d.path ∧ d.to = get (runL (putL t c.path c.to) r) d.path ∧ ¬ d.fr = d.to := by
          rw [ho3]
          constructor
          · rintro ⟨q1, q2⟩; exact ⟨fun e => q1 c (by simp) e.symm, fun x hx => q1 x (by simp [hx]), q2⟩
          · rintro ⟨q0, q1, q2⟩
            refine ⟨fun x hx => ?_, q2⟩
            rcases List.mem_append.1 hx with hx | hx
            · exact q1 x hx
            · simp at hx; subst hx; exact fun e => q0 e.symm
        split
        · rename_i e2
          rw [key]
          constructor
          · rintro ⟨_, q⟩; exact q
          · rintro ⟨q1, q2, q3, q4⟩
            refine ⟨fun e3 => q4 ?_, q1, q2, q3, q4⟩
            rw [q2, q3, e3, ← hf]; exact e2
        · rename_i e2
          rw [List.mem_cons, key]
          constructor
          · rintro (rfl | ⟨_, q⟩)
            · exact ⟨hns, hf, rfl, e2⟩
            · exact q
          · rintro ⟨q1, q2, q3, q4⟩
            by_cases e3 : d.path = c.path
            · left
              cases d; simp only at e3 q2 q3; subst e3
              simp only [Cm.mk.injEq, true_and]
              exact ⟨by rw [q2]; exact hf.symm, q3⟩
            · exact .inr ⟨e3, q1, q2, q3, q4⟩
/-- Only the result counts. -/
theorem canon_is_diff {t : List Nd} {cs : List Cm} (ht : treeOk t = true) (hl : logOk cs = true) (h : (logGo t cs).2 = cs.length) : logCanon cs = some (diffL t (logGo t cs).1) := by
  obtain ⟨o, h1, h2, h3⟩ := @canonGo_fit (get t) cs [] t h (fun p _ => rfl)
  unfold logCanon
  rw [if_pos hl, h1]
  show some (sortC o) = _
  congr 1
  have htr : treeOk (logGo t cs).1 = true := logGo_tree ht
  refine sortC_eq h2 (diffRaw_once (tree_asc ht) (tree_asc htr)) (fun c => ?_)
  rw [h3, diffRaw_mem, logGo_full h]
  simp

/-! ### Undoing -/
def undoC (c : Cm) : Cm := ⟨c.path, c.to, c.fr⟩
def undoAll (cs : List Cm) : List Cm := cs.reverse.map undoC
def undoL (cs : List Cm) : List Cm := if logOk cs then undoAll cs else []
theorem undo_cmOk {c : Cm} (h : cmOk c = true) : cmOk (undoC c) = true :=
  cmOk_of (c := undoC c) (show isPath c.path = true from cmOk_path h) (show ¬ c.path = [47] from cmOk_root h) (cmOk_conts h).2 (cmOk_conts h).1 (fun e => cmOk_ne h e.symm)
theorem undoAll_ok {cs : List Cm} (h : AllOk cs) : AllOk (undoAll cs) := fun c hc => by
  unfold undoAll at hc
  obtain ⟨d, hd, rfl⟩ := List.mem_map.1 hc
  exact undo_cmOk (h d (List.mem_reverse.1 hd))
theorem undoAll_len (cs : List Cm) : (undoAll cs).length = cs.length := by simp [undoAll]
theorem undoAll_cons (c : Cm) (r : List Cm) : undoAll (c :: r) = undoAll r ++ [undoC c] := by simp [undoAll]
theorem logGo_append : ∀ {a b : List Cm} {t : List Nd}, (logGo t a).2 = a.length → logGo t (a ++ b) = ((logGo (logGo t a).1 b).1, a.length + (logGo (logGo t a).1 b).2)
  | [], b, t, _ => by simp [logGo]
  | c :: r, b, t, h => by
    obtain ⟨hd, h2⟩ := logGo_head h
    have ih := @logGo_append r b _ h2
    have e1 : logGo t (c :: r) = ((logGo (putL t c.path c.to) r).1, (logGo (putL t c.path c.to) r).2 + 1) := by conv => lhs; unfold logGo; rw [if_pos hd]
    rw [e1]
    show logGo t (c :: (r ++ b)) = _
    conv => lhs; unfold logGo
    rw [if_pos hd, ih]
    simp only [List.length_cons, Prod.mk.injEq, true_and]
    omega
theorem undo_step {t : List Nd} {c : Cm} (h : cmDo t c = true) : cmDo (putL t c.path c.to) (undoC c) = true ∧ putL (putL t c.path c.to) c.path c.fr = t := by
  obtain ⟨h1, h2, h3, h4⟩ := cmDo_tree h
  have hc := tree_clean h4
  have he : putL (putL t c.path c.to) c.path c.fr = t := by
    refine (putL_clean hc (cmOk_path h2) (cmOk_root h2) (cmOk_conts h2).1).ext (tree_clean h1) (fun p => ?_)
    rw [get_put hc (cmOk_path h2) (cmOk_root h2) (cmOk_conts h2).1, cmDo_get h]
    by_cases e : p = c.path
    · rw [if_pos e, e]; exact h3.symm
    · rw [if_neg e, if_neg e]
  refine ⟨cmDo_of h4 (undo_cmOk h2) ?_ ?_, he⟩
  · show get (putL t c.path c.to) c.path = c.to
    rw [cmDo_get h, if_pos rfl]
  · show treeOk (putL (putL t c.path c.to) c.path c.fr) = true
    rw [he]; exact h1
theorem undo_back : ∀ {cs : List Cm} {t : List Nd}, (logGo t cs).2 = cs.length → logGo (logGo t cs).1 (undoAll cs) = (t, cs.length)
  | [], t, _ => rfl
  | c :: r, t, h => by
    obtain ⟨hd, h2⟩ := logGo_head h
    have ih := undo_back h2
    have e1 : (logGo t (c :: r)).1 = (logGo (putL t c.path c.to) r).1 := by conv => lhs; unfold logGo; rw [if_pos hd]
    obtain ⟨u1, u2⟩ := undo_step hd
    rw [e1, undoAll_cons, logGo_append (by rw [ih, undoAll_len]), ih]
    simp only [undoAll_len]
    unfold logGo
    rw [if_pos u1]
    show ((logGo (putL (putL t c.path c.to) c.path c.fr) []).1, r.length + ((logGo (putL (putL t c.path c.to) c.path c.fr) []).2 + 1)) = _
    rw [u2]
    simp [logGo]
theorem undo_logOk {cs : List Cm} (h : logOk cs = true) : logOk (undoAll cs) = true :=
  logOk_of (undoAll_ok (logOk_parts h).2) (by rw [undoAll_len]; exact (logOk_parts h).1)
/-- The canonical log of the way back. -/
theorem canon_undo {t : List Nd} {cs : List Cm} (ht : treeOk t = true) (hl : logOk cs = true) (h : (logGo t cs).2 = cs.length) : logCanon (undoL cs) = some (diffL (logGo t cs).1 t) := by
  unfold undoL
  rw [if_pos hl]
  have hb := undo_back h
  have := canon_is_diff (logGo_tree (cs := cs) ht) (undo_logOk hl) (by rw [hb, undoAll_len])
  rw [hb] at this; exact this
theorem diff_undo {xs ys : List Nd} {c : Cm} (h : c ∈ diffL xs ys) : undoC c ∈ diffL ys xs := by
  obtain ⟨h1, h2, h3⟩ := diffL_mem.1 h
  exact diffL_mem.2 ⟨h2, h1, fun e => h3 e.symm⟩
/-- Doing and taking back is nothing. -/
theorem canon_none {t : List Nd} {cs : List Cm} (ht : treeOk t = true) (hl : logOk cs = true) (h : (logGo t cs).2 = cs.length) (h10 : cs.length ≤ 10) : logCanon (cs ++ undoL cs) = some [] := by
  have hb := undo_back h
  unfold undoL
  rw [if_pos hl]
  have ha : logGo t (cs ++ undoAll cs) = (t, cs.length + cs.length) := by rw [logGo_append h, hb]
  have ho : logOk (cs ++ undoAll cs) = true := logOk_of (fun c hc => by
    rcases List.mem_append.1 hc with hc | hc
    · exact (logOk_parts hl).2 c hc
    · exact undoAll_ok (logOk_parts hl).2 c hc) (by rw [List.length_append, undoAll_len]; omega)
  have := canon_is_diff ht ho (by rw [ha, List.length_append, undoAll_len])
  rw [ha] at this
  rw [this, diff_self]
end Go.Proofs.YtjobbcdolbhadaaGreatDoor


namespace Go.Proofs.YtjobbcdolbhadaaGreatDoor
set_option linter.unusedVariables false
set_option linter.unusedSimpArgs false
open Go Go.RowKit
set_option linter.unusedVariables false
set_option linter.unusedSimpArgs false

theorem fits_of_full : ∀ {cs : List Cm} {t : List Nd}, Once cs → (logGo t cs).2 = cs.length → Fits (get t) cs
  | [], _, _, _ => fun c hc => by simp at hc
  | c :: r, t, ho, h => by
    obtain ⟨hd, h2⟩ := logGo_head h
    have ho2 := ho; unfold Once at ho2; rw [List.pairwise_cons] at ho2
    have ih := fits_of_full ho2.2 h2
    intro d hdm
    rcases List.mem_cons.1 hdm with rfl | hdm
    · exact (cmDo_tree hd).2.2.1
    · have := ih d hdm
      rw [cmDo_get hd, if_neg (fun e => ho2.1 d hdm e.symm)] at this
      exact this
theorem allOk_of_full : ∀ {cs : List Cm} {t : List Nd}, (logGo t cs).2 = cs.length → AllOk cs
  | [], _, _ => fun c hc => by simp at hc
  | c :: r, t, h => by
    obtain ⟨hd, h2⟩ := logGo_head h
    intro d hdm
    rcases List.mem_cons.1 hdm with rfl | hdm
    · exact (cmDo_tree hd).2.1
    · exact allOk_of_full h2 d hdm
theorem get_full {cs : List Cm} {t : List Nd} (ht : treeOk t = true) (ho : Once cs) (h : (logGo t cs).2 = cs.length) (p : Str) : get (logGo t cs).1 p = ovr (get t) cs p := by
  rw [logGo_full h, runL_get (tree_clean ht) (allOk_of_full h) ho]
theorem good_full {cs : List Cm} {t : List Nd} (ht : treeOk t = true) (ho : Once cs) (h : (logGo t cs).2 = cs.length) : Good (ovr (get t) cs) := by
  have : get (logGo t cs).1 = ovr (get t) cs := funext (get_full ht ho h)
  rw [← this]; exact tree_good (logGo_tree ht)

/-! ### Ignored paths -/
theorem cov_iff {ig : List Str} {p : Str} : covB ig p = true ↔ ∃ s ∈ ig, s = p ∨ under s p = true := by
  unfold covB; rw [List.any_eq_true]; simp
theorem tou_iff {ig : List Str} {c : Cm} : touB ig c = true ↔ covB ig c.path = true ∨ (¬ c.to.kind = 1 ∧ ∃ s ∈ ig, under c.path s = true) := by
  unfold touB; simp
theorem cov_down {ig : List Str} {p q : Str} (hi : ignOk ig = true) (hp : isPath p = true) (hq : isPath q = true) (h : covB ig p = true) (hu : under p q = true) : covB ig q = true := by
  obtain ⟨s, hs, h1⟩ := cov_iff.1 h
  refine cov_iff.2 ⟨s, hs, .inr ?_⟩
  rcases h1 with rfl | h1
  · exact hu
  · exact under_trans (igs_path hi hs).1 hp hq h1 hu
def keepL (ig : List Str) (cs : List Cm) : List Cm := cs.filter (fun c => !touB ig c)
theorem keep_mem {ig : List Str} {cs : List Cm} {c : Cm} : c ∈ keepL ig cs ↔ c ∈ cs ∧ touB ig c = false := by unfold keepL; rw [List.mem_filter]; simp
theorem keep_good {g : Str → Cont} {cs : List Cm} {ig : List Str} (hg : Good g) (hg2 : Good (ovr g cs)) (ha : AllOk cs) (ho : Once cs) (hf : Fits g cs) (hi : ignOk ig = true) : Good (ovr g (keepL ig cs)) := by
  have hko : Once (keepL ig cs) := ho.sub (List.filter_sublist ..)
  have hka : AllOk (keepL ig cs) := fun c hc => ha c (keep_mem.1 hc).1
  obtain ⟨r1, r2⟩ := ovr_good_ok hg hko hka
  refine ⟨r1, r2, fun q hqr hk => ?_⟩
  rcases ovr_cases g hko q with ⟨c, hc, rfl, e⟩ | ⟨hn, e⟩
  · rw [e] at hk
    obtain ⟨hcm, hct⟩ := keep_mem.1 hc
    have oc := ovr_mem (g := g) ho hcm
    have h1 := hg2.up c.path hqr (by rw [oc]; exact hk)
    have hpp := hg2.parent hqr (by rw [oc]; exact hk)
    have hu := parent_under h1.1 hqr hpp
    refine ⟨h1.1, ?_⟩
    rcases ovr_cases g ho (parent c.path) with ⟨d, hd, ed, e2⟩ | ⟨hn2, e2⟩
    · have hk1 : d.to.kind = 1 := by rw [← e2]; exact h1.2
      cases ht : touB ig d
      · rw [← ed, ovr_mem hko (keep_mem.2 ⟨hd, ht⟩)]; exact hk1
      · exfalso
        rcases tou_iff.1 ht with h2 | ⟨h2, _⟩
        · have := cov_down hi (by rw [ed]; exact hpp) h1.1 h2 (by rw [ed]; exact hu)
          rw [tou_iff.2 (.inl this)] at hct; cases hct
        · exact h2 hk1
    · rw [ovr_none (fun d hd => hn2 d (keep_mem.1 hd).1), ← e2]; exact h1.2
  · rw [e] at hk
    have h1 := hg.up q hqr hk
    have hpp := hg.parent hqr hk
    have hu := parent_under h1.1 hqr hpp
    refine ⟨h1.1, ?_⟩
    rcases ovr_cases g hko (parent q) with ⟨d, hd, ed, e2⟩ | ⟨_, e2⟩
    · exfalso
      obtain ⟨hdm, hdt⟩ := keep_mem.1 hd
      have hdf : d.fr.kind = 1 := by rw [← hf d hdm, ed]; exact h1.2
      have hto : ¬ d.to.kind = 1 := ends_to (ha d hdm) (by unfold endsB; simp [hdf])
      have hz : (ovr g cs q).kind = 0 := Classical.byContradiction fun hz => by
        have := (hg2.up q hqr hz).2
        rw [← ed, ovr_mem ho hdm] at this
        exact hto this
      have hbad : ∀ s ∈ ig, under (parent q) s = true → False := fun s hs hus => by
        rw [tou_iff.2 (.inr ⟨hto, s, hs, by rw [ed]; exact hus⟩)] at hdt; cases hdt
      rcases ovr_cases g ho q with ⟨c, hc, ec, e3⟩ | ⟨_, e3⟩
      · have hc0 : c.to.kind = 0 := by rw [← e3]; exact hz
        have hct : touB ig c = true := by
          cases h : touB ig c
          · exact absurd ec (hn c (keep_mem.2 ⟨hc, h⟩))
          · rfl
        rcases tou_iff.1 hct with h2 | ⟨_, s, hs, h2⟩
        · rw [ec] at h2
          obtain ⟨s, hs, h3⟩ := cov_iff.1 h2
          rcases h3 with rfl | h3
          · exact hbad s hs hu
          · rcases under_parent (igs_path hi hs).1 h1.1 hpp h3 with h4 | h4
            · rw [tou_iff.2 (.inl (cov_iff.2 ⟨s, hs, .inl (by rw [ed]; exact h4)⟩))] at hdt; cases hdt
            · rw [tou_iff.2 (.inl (cov_iff.2 ⟨s, hs, .inr (by rw [ed]; exact h4)⟩))] at hdt; cases hdt
        · rw [ec] at h2
          exact hbad s hs (under_trans hpp h1.1 (igs_path hi hs).1 hu h2)
      · rw [e3] at hz; exact hk hz
    · rw [e2]; exact h1.2
theorem keep_same {g : Str → Cont} {cs : List Cm} {ig : List Str} {q : Str} (h : covB ig q = true) : ovr g (keepL ig cs) q = g q :=
  ovr_none (fun c hc e => by
    have := (keep_mem.1 hc).2
    rw [tou_iff.2 (.inl (by rw [e]; exact h))] at this; cases this)

/-! ### Orders -/
def OrderOk (cs : List Cm) : Prop := logOk cs = true ∧ Once cs ∧ Poss cs
noncomputable instance (cs : List Cm) : Decidable (OrderOk cs) := Classical.propDecidable _
noncomputable def orderOk (cs : List Cm) : Bool := decide (OrderOk cs)
theorem orderOk_iff {cs : List Cm} : orderOk cs = true ↔ OrderOk cs := by unfold orderOk; exact decide_eq_true_iff
theorem chase_none {p : Str} {t : Cont} : ∀ {r : List Cm}, (∀ d ∈ r, ¬ d.path = p) → chase p t r = some t
  | [], _ => rfl
  | d :: r, h => by
    unfold chase
    rw [if_neg (h d (List.mem_cons_self ..))]
    exact chase_none (fun x hx => h x (List.mem_cons_of_mem _ hx))
theorem canonGo_once : ∀ {r seen : List Cm}, Once r → AllOk r → (∀ c ∈ r, ∀ d ∈ seen, ¬ d.path = c.path) → canonGo seen r = some r
  | [], _, _, _, _ => rfl
  | c :: r, seen, ho, ha, hs => by
    unfold Once at ho; rw [List.pairwise_cons] at ho
    have h1 : seen.any (fun d => decide (d.path = c.path)) = false := by
      rw [List.any_eq_false]; intro d hd; simpa using hs c (List.mem_cons_self ..) d hd
    unfold canonGo
    rw [h1, chase_none (fun d hd e => ho.1 d hd e.symm)]
    have ih := @canonGo_once r (seen ++ [c]) ho.2 (fun x hx => ha x (List.mem_cons_of_mem _ hx)) (fun x hx d hd => by
      rcases List.mem_append.1 hd with hd | hd
      · exact hs x (List.mem_cons_of_mem _ hx) d hd
      · simp at hd; subst hd; exact ho.1 x hx)
    rw [ih]
    have := cmOk_ne (ha c (List.mem_cons_self ..))
    simp [this]
theorem canon_once {cs : List Cm} (hl : logOk cs = true) (ho : Once cs) : logCanon cs = some (sortC cs) := by
  unfold logCanon
  rw [if_pos hl, canonGo_once ho (logOk_parts hl).2 (fun _ _ d hd => by simp at hd)]; rfl
theorem canonDiff_poss {xs ys : List Nd} (hx : treeOk xs = true) (hy : treeOk ys = true) : Poss (diffL xs ys) := by
  refine canon_poss (tree_good hx) ?_ (diff_allOk hx hy) (diff_once hx hy) diff_fits (diff_sorted hx hy)
  have : get ys = ovr (get xs) (diffL xs ys) := funext (diff_over hx hy)
  rw [← this]; exact tree_good hy
theorem runL_room : ∀ (cs : List Cm) (t : List Nd), (runL t cs).length ≤ t.length + cs.length
  | [], t => by simp [runL]
  | c :: r, t => by
    rw [runL_cons]
    have h1 := runL_room r (putL t c.path c.to)
    have h2 := putL_len t c.path c.to
    simp only [List.length_cons]; omega
/-- All possible orders do the same, if there is room. -/
theorem order_same {cs : List Cm} {t : List Nd} (ht : treeOk t = true) (ho : Once cs) (hp : Poss cs) (h : (logGo t (sortC cs)).2 = (sortC cs).length) (hl : t.length + cs.length ≤ 10) : logGo t cs = ((logGo t (sortC cs)).1, cs.length) := by
  have hso := sortC_once ho
  have ha : AllOk cs := fun c hc => allOk_of_full h c (sortC_mem.2 hc)
  have hf : Fits (get t) cs := fun c hc => fits_of_full hso h c (sortC_mem.2 hc)
  have he : ∀ p, ovr (get t) (sortC cs) p = ovr (get t) cs p := fun p => by
    rcases ovr_cases (get t) ho p with ⟨c, hc, rfl, e⟩ | ⟨hn, e⟩
    · rw [e, ovr_mem hso (sortC_mem.2 hc)]
    · rw [e, ovr_none (fun c hc => hn c (sortC_mem.1 hc))]
  have hg : Good (ovr (get t) cs) := by
    have := good_full ht hso h
    rw [funext he] at this; exact this
  have ht2 := logGo_tree (cs := sortC cs) ht
  have hall := logGo_all ht ha ho hf (fun k => poss_good (tree_good ht) hg ha ho hf hp k) (fun k => by
    have h1 := runL_room (cs.take k) t
    have h2 : (cs.take k).length ≤ cs.length := by simp; omega
    omega)
  rw [hall]
  congr 1
  refine (runL_clean (tree_clean ht) ha).ext (tree_clean ht2) (fun p => ?_)
  rw [runL_get (tree_clean ht) ha ho, get_full ht hso h, he]
end Go.Proofs.YtjobbcdolbhadaaGreatDoor


namespace Go.Proofs.YtjobbcdolbhadaaGreatDoor
set_option linter.unusedVariables false
set_option linter.unusedSimpArgs false
open Go Go.RowKit
set_option linter.unusedVariables false
set_option linter.unusedSimpArgs false

def stopsB (c d : Cm) : Bool := under c.path d.path && !decide (c.to.kind = 1) && !decide (d.to.kind = 0)
def clashB (c d : Cm) : Bool := (decide (c.path = d.path) && !decide (c.to = d.to)) || stopsB c d || stopsB d c
def dispB (c : Cm) (l : List Cm) : Bool := l.any (fun d => clashB c d)
def safeL (a b : List Cm) : List Cm := b.filter (fun d => !a.contains d && !dispB d a)
def agreeL (a b : List Cm) : List Cm := b.filter (fun d => a.contains d && !dispB d a)
def leftL (a b : List Cm) : List Cm := a.filter (fun c => dispB c b)
noncomputable def safeOf (a b : List Cm) : List Cm := if canonOk a && canonOk b then safeL a b else []
noncomputable def agreeOf (a b : List Cm) : List Cm := if canonOk a && canonOk b then agreeL a b else []
noncomputable def leftOf (a b : List Cm) : List Cm := if canonOk a && canonOk b then leftL a b else []
noncomputable def logFits (t : List Nd) (cs : List Cm) : Bool := treeOk t && logOk cs && decide ((logGo t cs).2 = cs.length)
noncomputable def pairFits (t : List Nd) (a b : List Cm) : Bool := canonOk a && canonOk b && logFits t a && logFits t b
noncomputable def pairTree (t : List Nd) (a b : List Cm) : Option (List Nd) :=
  if pairFits t a b then (if (logGo (logGo t a).1 (safeL a b)).2 = (safeL a b).length then some (logGo (logGo t a).1 (safeL a b)).1 else none) else none
def keptRaw (a b : List Cm) : List Cm := safeL a b ++ a.filter (fun c => !dispB c b)
def keptL (a b : List Cm) : List Cm := sortC (keptRaw a b)
noncomputable def pairBase (t : List Nd) (a b : List Cm) : Option (List Nd) :=
  if pairFits t a b then (if (keptL a b).length ≤ 20 ∧ (logGo t (keptL a b)).2 = (keptL a b).length then some (logGo t (keptL a b)).1 else none) else none

theorem clash_comm (c d : Cm) : clashB c d = clashB d c := by
  unfold clashB
  have h1 : decide (c.path = d.path) = decide (d.path = c.path) := by rw [Bool.eq_iff_iff]; simp [eq_comm]
  have h2 : decide (c.to = d.to) = decide (d.to = c.to) := by rw [Bool.eq_iff_iff]; simp [eq_comm]
  rw [h1, h2, Bool.or_assoc, Bool.or_assoc, Bool.or_comm (stopsB c d)]
theorem disp_true {c : Cm} {l : List Cm} : dispB c l = true ↔ ∃ d ∈ l, clashB c d = true := by unfold dispB; exact List.any_eq_true
theorem disp_false {c : Cm} {l : List Cm} : dispB c l = false ↔ ∀ d ∈ l, clashB c d = false := by unfold dispB; rw [List.any_eq_false]; simp
theorem safe_mem {a b : List Cm} {d : Cm} : d ∈ safeL a b ↔ d ∈ b ∧ ¬ d ∈ a ∧ dispB d a = false := by
  unfold safeL; rw [List.mem_filter]; simp
theorem agree_mem {a b : List Cm} {d : Cm} : d ∈ agreeL a b ↔ d ∈ b ∧ d ∈ a ∧ dispB d a = false := by
  unfold agreeL; rw [List.mem_filter]; simp
theorem left_mem {a b : List Cm} {c : Cm} : c ∈ leftL a b ↔ c ∈ a ∧ dispB c b = true := by
  unfold leftL; rw [List.mem_filter]
theorem clash_path {c d : Cm} (h : c.path = d.path) (h2 : ¬ c.to = d.to) : clashB c d = true := by unfold clashB; simp [h, h2]
theorem clash_stops {c d : Cm} (h : stopsB c d = true) : clashB c d = true := by unfold clashB; simp [h]
theorem stops_of {c d : Cm} (h : under c.path d.path = true) (h1 : ¬ c.to.kind = 1) (h2 : ¬ d.to.kind = 0) : stopsB c d = true := by unfold stopsB; simp [h, h1, h2]
theorem stops_iff {c d : Cm} : stopsB c d = true ↔ under c.path d.path = true ∧ ¬ c.to.kind = 1 ∧ ¬ d.to.kind = 0 := by
  unfold stopsB; simp [and_assoc]
theorem clash_iff {c d : Cm} : clashB c d = true ↔ (c.path = d.path ∧ ¬ c.to = d.to) ∨ stopsB c d = true ∨ stopsB d c = true := by
  unfold clashB; simp [or_assoc]

/-- Two logs that begin with one good map, and lead each to a good one. -/
structure Two (g : Str → Cont) (a b : List Cm) : Prop where
  gg : Good g
  aok : AllOk a
  bok : AllOk b
  ao : Once a
  bo : Once b
  af : Fits g a
  bf : Fits g b
  ag : Good (ovr g a)
  bg : Good (ovr g b)
theorem Two.swap {g : Str → Cont} {a b : List Cm} (h : Two g a b) : Two g b a := ⟨h.gg, h.bok, h.aok, h.bo, h.ao, h.bf, h.af, h.bg, h.ag⟩
section
variable {g : Str → Cont} {a b : List Cm} (T : Two g a b)
include T
theorem Two.path {c d : Cm} (hc : c ∈ a) (hd : d ∈ b) (e : c.path = d.path) (et : c.to = d.to) : c = d := by
  have h1 := T.af c hc
  have h2 := T.bf d hd
  cases c; cases d
  simp only at e et h1 h2
  subst e; subst et
  simp only [Cm.mk.injEq, true_and, and_true]
  rw [← h1, h2]
theorem Two.safe_path {d : Cm} (hd : d ∈ safeL a b) {c : Cm} (hc : c ∈ a) : ¬ c.path = d.path := fun e => by
  obtain ⟨h1, h2, h3⟩ := safe_mem.1 hd
  have h4 := disp_false.1 h3 c hc
  by_cases et : c.to = d.to
  · rw [T.path hc h1 e et] at hc; exact h2 hc
  · rw [clash_comm, clash_path e et] at h4; cases h4
theorem Two.safe_ok : AllOk (safeL a b) := fun d hd => T.bok d (safe_mem.1 hd).1
theorem Two.safe_once : Once (safeL a b) := T.bo.sub (List.filter_sublist ..)
theorem Two.safe_fits : Fits (ovr g a) (safeL a b) := fun d hd => by
  rw [ovr_none (fun c hc => T.safe_path hd hc)]; exact T.bf d (safe_mem.1 hd).1
theorem Two.safe_good : Good (ovr (ovr g a) (safeL a b)) := by
  have hso := T.safe_once
  obtain ⟨r1, r2⟩ := ovr_good_ok T.ag hso T.safe_ok
  refine ⟨r1, r2, fun p hpr hk => ?_⟩
  rcases ovr_cases (ovr g a) hso p with ⟨c, hc, rfl, e⟩ | ⟨hn, e⟩
  · rw [e] at hk
    obtain ⟨hcb, hca, hcd⟩ := safe_mem.1 hc
    have oc := ovr_mem (g := g) T.bo hcb
    have h1 := T.bg.up c.path hpr (by rw [oc]; exact hk)
    have hq := T.bg.parent hpr (by rw [oc]; exact hk)
    have hu := parent_under h1.1 hpr hq
    refine ⟨h1.1, ?_⟩
    rcases ovr_cases (ovr g a) hso (parent c.path) with ⟨d, hd, ed, e2⟩ | ⟨hn2, e2⟩
    · rw [e2, ← ovr_mem (g := g) T.bo (safe_mem.1 hd).1, ed]; exact h1.2
    · rw [e2]
      rcases ovr_cases g T.ao (parent c.path) with ⟨x, hx, ex, e3⟩ | ⟨hn3, e3⟩
      · rw [e3]
        refine Classical.byContradiction fun h2 => ?_
        have := disp_false.1 hcd x hx
        rw [clash_comm, clash_stops (stops_of (by rw [ex]; exact hu) h2 hk)] at this; cases this
      · rw [e3]
        rcases ovr_cases g T.bo (parent c.path) with ⟨d, hd, ed, e4⟩ | ⟨_, e4⟩
        · exfalso
          have hd1 : d.to.kind = 1 := by rw [← e4]; exact h1.2
          have hdd : dispB d a = true := by
            cases h : dispB d a
            · exact absurd ed (hn2 d (safe_mem.2 ⟨hd, fun h3 => hn3 d h3 ed, h⟩))
            · rfl
          obtain ⟨x, hx, hcl⟩ := disp_true.1 hdd
          rcases clash_iff.1 hcl with ⟨h2, _⟩ | h2 | h2
          · exact hn3 x hx (by rw [← h2]; exact ed)
          · exact (stops_iff.1 h2).2.1 hd1
          · obtain ⟨h3, h4, h5⟩ := stops_iff.1 h2
            have hux : under x.path c.path = true := under_trans (cmOk_path (T.aok x hx)) hq h1.1 (by rw [← ed]; exact h3) hu
            have := disp_false.1 hcd x hx
            rw [clash_comm, clash_stops (stops_of hux h4 hk)] at this; cases this
        · rw [← e4]; exact h1.2
  · rw [e] at hk
    have h1 := T.ag.up p hpr hk
    have hq := T.ag.parent hpr hk
    have hu := parent_under h1.1 hpr hq
    refine ⟨h1.1, ?_⟩
    rcases ovr_cases (ovr g a) hso (parent p) with ⟨d, hd, ed, e2⟩ | ⟨hn2, e2⟩
    · exfalso
      obtain ⟨hdb, hda, hdd⟩ := safe_mem.1 hd
      have hna : ∀ x ∈ a, ¬ x.path = parent p := fun x hx => by rw [← ed]; exact T.safe_path hd hx
      have h2 : (g (parent p)).kind = 1 := by rw [← ovr_none (g := g) hna]; exact h1.2
      have hdf : d.fr.kind = 1 := by rw [← T.bf d hdb, ed]; exact h2
      have hdt : ¬ d.to.kind = 1 := ends_to (T.bok d hdb) (by unfold endsB; simp [hdf])
      have hbp : (ovr g b p).kind = 0 := Classical.byContradiction fun hz => by
        have := (T.bg.up p hpr hz).2
        rw [← ed, ovr_mem T.bo hdb] at this
        exact hdt this
      rcases ovr_cases g T.ao p with ⟨x, hx, ex, e3⟩ | ⟨hn3, e3⟩
      · rw [e3] at hk
        have := disp_false.1 hdd x hx
        rw [clash_stops (stops_of (by rw [ed, ex]; exact hu) hdt hk)] at this; cases this
      · rw [e3] at hk
        rcases ovr_cases g T.bo p with ⟨y, hy, ey, e4⟩ | ⟨_, e4⟩
        · have hy0 : y.to.kind = 0 := by rw [← e4]; exact hbp
          have hyd : dispB y a = true := by
            cases h : dispB y a
            · exact absurd ey (hn y (safe_mem.2 ⟨hy, fun h3 => hn3 y h3 ey, h⟩))
            · rfl
          obtain ⟨x, hx, hcl⟩ := disp_true.1 hyd
          rcases clash_iff.1 hcl with ⟨h3, _⟩ | h3 | h3
          · exact hn3 x hx (by rw [← h3]; exact ey)
          · obtain ⟨h4, h5, h6⟩ := stops_iff.1 h3
            have hux : under d.path x.path = true := under_trans (cmOk_path (T.bok d hdb)) h1.1 (cmOk_path (T.aok x hx)) (by rw [ed]; exact hu) (by rw [← ey]; exact h4)
            have := disp_false.1 hdd x hx
            rw [clash_stops (stops_of hux hdt h6)] at this; cases this
          · exact (stops_iff.1 h3).2.2 hy0
        · rw [e4] at hbp; exact hk hbp
    · rw [e2]; exact h1.2
/-- A log that fits is in no conflict with itself. -/
theorem Two.self {c x : Cm} (hc : c ∈ a) (hx : x ∈ a) : clashB c x = false := by
  rw [Bool.eq_false_iff]; intro h
  have key : ∀ {c x : Cm}, c ∈ a → x ∈ a → stopsB c x = true → False := fun {c x} hc hx h => by
    obtain ⟨h1, h2, h3⟩ := stops_iff.1 h
    have := T.ag.dir_above (cmOk_path (T.aok c hc)) h1 (by rw [ovr_mem T.ao hx]; exact h3)
    rw [ovr_mem T.ao hc] at this
    exact h2 this
  rcases clash_iff.1 h with ⟨h1, h2⟩ | h1 | h1
  · exact h2 (by rw [T.ao.inj hc hx h1])
  · exact key hc hx h1
  · exact key hx hc h1
theorem Two.both {c : Cm} (hc : c ∈ a) (hc2 : c ∈ b) : dispB c a = false ∧ dispB c b = false :=
  ⟨disp_false.2 (fun x hx => T.self hc hx), disp_false.2 (fun x hx => T.swap.self hc2 hx)⟩
/-- What both sides have, first at places of a. -/
theorem Two.at_a {c : Cm} (hc : c ∈ a) : ovr (ovr g a) (safeL a b) c.path = c.to := by
  rw [ovr_none (fun d hd e => T.safe_path hd hc e.symm), ovr_mem T.ao hc]
theorem Two.at_safe {d : Cm} (hd : d ∈ safeL a b) : ovr (ovr g a) (safeL a b) d.path = d.to := ovr_mem T.safe_once hd
theorem Two.at_none {p : Str} (h : ∀ c ∈ a, ¬ c.path = p) (h2 : ∀ d ∈ safeL a b, ¬ d.path = p) : ovr (ovr g a) (safeL a b) p = g p := by
  have hT := T
  rw [ovr_none h2, ovr_none h]
/-- At an undisputed place of a both sides have the same. -/
theorem Two.same_a {c : Cm} (hc : c ∈ a) (hn : dispB c b = false) : ovr (ovr g a) (safeL a b) c.path = ovr (ovr g b) (safeL b a) c.path := by
  rw [T.at_a hc]
  by_cases hb : c ∈ b
  · exact (T.swap.at_a hb).symm
  · exact (T.swap.at_safe (safe_mem.2 ⟨hc, hb, hn⟩)).symm
/-- Both sides differ at places of what is left only. -/
theorem Two.apart {p : Str} (h : ¬ ovr (ovr g a) (safeL a b) p = ovr (ovr g b) (safeL b a) p) : ∃ c, (c ∈ leftL a b ∨ c ∈ leftL b a) ∧ c.path = p := by
  rcases ovr_cases g T.ao p with ⟨c, hc, rfl, _⟩ | ⟨hn, _⟩
  · cases hd : dispB c b
    · exact absurd (T.same_a hc hd) h
    · exact ⟨c, .inl (left_mem.2 ⟨hc, hd⟩), rfl⟩
  · rcases ovr_cases g T.bo p with ⟨c, hc, rfl, _⟩ | ⟨hn2, _⟩
    · cases hd : dispB c a
      · exact absurd (T.swap.same_a hc hd).symm h
      · exact ⟨c, .inr (left_mem.2 ⟨hc, hd⟩), rfl⟩
    · exfalso
      apply h
      rw [T.at_none hn (fun d hd => hn2 d (safe_mem.1 hd).1), T.swap.at_none hn2 (fun d hd => hn d (safe_mem.1 hd).1)]
/-- If both sides have the same good map, there is no conflict. -/
theorem Two.no_clash (h : ∀ p, ovr (ovr g a) (safeL a b) p = ovr (ovr g b) (safeL b a) p) {c d : Cm} (hc : c ∈ a) (hd : d ∈ b) : clashB c d = false := by
  have hG := T.safe_good
  have e1 := T.at_a hc
  have e2 := T.swap.at_a hd
  rw [← h] at e2
  rw [Bool.eq_false_iff]; intro hcl
  rcases clash_iff.1 hcl with ⟨h1, h2⟩ | h1 | h1
  · rw [h1, e2] at e1; exact h2 e1.symm
  · obtain ⟨h2, h3, h4⟩ := stops_iff.1 h1
    have := hG.dir_above (cmOk_path (T.aok c hc)) h2 (by rw [e2]; exact h4)
    rw [e1] at this; exact h3 this
  · obtain ⟨h2, h3, h4⟩ := stops_iff.1 h1
    have := hG.dir_above (cmOk_path (T.bok d hd)) h2 (by rw [e1]; exact h4)
    rw [e2] at this; exact h3 this
/-- What is left of the other side breaks at what a side has. -/
theorem Two.breaks {t : List Nd} (ht : treeOk t = true) (he : ∀ p, get t p = ovr (ovr g a) (safeL a b) p) {d : Cm} (hd : d ∈ leftL b a) : cmDo t d = false := by
  obtain ⟨hdb, hdd⟩ := left_mem.1 hd
  obtain ⟨x, hx, hcl⟩ := disp_true.1 hdd
  rw [Bool.eq_false_iff]; intro hdo
  obtain ⟨q1, q2, q3, q4⟩ := cmDo_tree hdo
  have hG := tree_good q4
  have hg := cmDo_get hdo
  have ex : get t x.path = x.to := by rw [he]; exact T.at_a hx
  have hdp := cmOk_path (T.bok d hdb)
  have hxp := cmOk_path (T.aok x hx)
  rcases clash_iff.1 hcl with ⟨h1, h2⟩ | h1 | h1
  · have h3 : x.to = d.fr := by rw [← ex, ← h1]; exact q3
    have h4 : x.fr = d.fr := by rw [← T.af x hx, ← h1]; exact T.bf d hdb
    exact cmOk_ne (T.aok x hx) (by rw [h4, h3])
  · obtain ⟨h2, h3, h4⟩ := stops_iff.1 h1
    have hne : ¬ x.path = d.path := fun e => by rw [e, under_irrefl hdp] at h2; cases h2
    have := hG.dir_above hdp h2 (by rw [hg, if_neg hne, ex]; exact h4)
    rw [hg, if_pos rfl] at this; exact h3 this
  · obtain ⟨h2, h3, h4⟩ := stops_iff.1 h1
    have hne : ¬ x.path = d.path := fun e => by rw [e, under_irrefl hdp] at h2; cases h2
    have := hG.dir_above hxp h2 (by rw [hg, if_pos rfl]; exact h4)
    rw [hg, if_neg hne, ex] at this; exact h3 this

/-! ### The common map -/
theorem Two.kept_mem {c : Cm} : c ∈ keptL a b ↔ (c ∈ a ∧ dispB c b = false) ∨ (c ∈ b ∧ dispB c a = false) := by
  unfold keptL keptRaw
  rw [sortC_mem, List.mem_append, safe_mem, List.mem_filter]
  simp only [Bool.not_eq_true']
  constructor
  · rintro (⟨h1, h2, h3⟩ | h)
    · exact .inr ⟨h1, h3⟩
    · exact .inl h
  · rintro (h | ⟨h1, h2⟩)
    · exact .inr h
    · by_cases e : c ∈ a
      · exact .inr ⟨e, (T.both e h1).2⟩
      · exact .inl ⟨h1, e, h2⟩
theorem Two.raw_once : Once (keptRaw a b) := by
  unfold keptRaw Once
  rw [List.pairwise_append]
  refine ⟨T.safe_once, T.ao.sub (List.filter_sublist ..), fun d hd c hc e => ?_⟩
  exact T.safe_path hd (List.mem_filter.1 hc).1 e.symm
theorem Two.kept_once : Once (keptL a b) := sortC_once T.raw_once
theorem Two.kept_sorted : Sorted (keptL a b) := sortC_sorted T.raw_once
theorem Two.kept_ok : AllOk (keptL a b) := fun c hc => by
  rcases (T.kept_mem).1 hc with h | h
  · exact T.aok c h.1
  · exact T.bok c h.1
theorem Two.kept_fits : Fits g (keptL a b) := fun c hc => by
  rcases (T.kept_mem).1 hc with h | h
  · exact T.af c h.1
  · exact T.bf c h.1
theorem Two.kept_comm : keptL a b = keptL b a := sorted_one T.kept_sorted T.swap.kept_sorted (fun c => by
  rw [T.kept_mem, T.swap.kept_mem, or_comm])
/-- From the common map what is left of a leads to what side a has. -/
theorem Two.left_fits : Fits (ovr g (keptL a b)) (leftL a b) := fun c hc => by
  obtain ⟨h1, h2⟩ := left_mem.1 hc
  rw [ovr_none (fun d hd e => ?_)]
  · exact T.af c h1
  · rcases T.kept_mem.1 hd with h | h
    · rw [T.ao.inj h.1 h1 e, h2] at h; cases h.2
    · by_cases e2 : d ∈ a
      · rw [T.ao.inj e2 h1 e] at h e2
        rw [(T.both e2 h.1).2] at h2; cases h2
      · exact T.safe_path (safe_mem.2 ⟨h.1, e2, h.2⟩) h1 e.symm
theorem Two.left_over (p : Str) : ovr (ovr g a) (safeL a b) p = ovr (ovr g (keptL a b)) (leftL a b) p := by
  have hlo : Once (leftL a b) := T.ao.sub (List.filter_sublist ..)
  rcases ovr_cases g T.ao p with ⟨c, hc, rfl, _⟩ | ⟨hn, _⟩
  · rw [T.at_a hc]
    cases hd : dispB c b
    · rw [ovr_none (fun d hd2 e => by
        obtain ⟨h1, h2⟩ := left_mem.1 hd2
        rw [T.ao.inj h1 hc e, hd] at h2; cases h2)]
      exact (ovr_mem T.kept_once (T.kept_mem.2 (.inl ⟨hc, hd⟩))).symm
    · exact (ovr_mem hlo (left_mem.2 ⟨hc, hd⟩)).symm
  · rw [ovr_none (g := ovr g (keptL a b)) (fun d hd => hn d (left_mem.1 hd).1)]
    rcases ovr_cases (ovr g a) T.safe_once p with ⟨d, hd, rfl, e⟩ | ⟨hn2, e⟩
    · rw [e]
      obtain ⟨h1, h2, h3⟩ := safe_mem.1 hd
      exact (ovr_mem T.kept_once (T.kept_mem.2 (.inr ⟨h1, h3⟩))).symm
    · rw [e, ovr_none hn, ovr_none (fun d hd e2 => ?_)]
      rcases T.kept_mem.1 hd with h | h
      · exact hn d h.1 e2
      · exact hn2 d (safe_mem.2 ⟨h.1, fun h3 => hn d h3 e2, h.2⟩) e2
end
end Go.Proofs.YtjobbcdolbhadaaGreatDoor


namespace Go.Proofs.YtjobbcdolbhadaaGreatDoor
set_option linter.unusedVariables false
set_option linter.unusedSimpArgs false
open Go Go.RowKit
set_option linter.unusedVariables false
set_option linter.unusedSimpArgs false

/-- A conflict: two places. -/
abbrev Pr := Int × Int
def rowGo (c : Cm) (i : Nat) : Nat → List Cm → List Pr
  | _, [] => []
  | k, d :: r => (if clashB c d then [((i : Int), (k : Int))] else []) ++ rowGo c i (k + 1) r
def clashGo (b : List Cm) : Nat → List Cm → List Pr
  | _, [] => []
  | i, c :: r => rowGo c i 0 b ++ clashGo b (i + 1) r
noncomputable def clashesOf (a b : List Cm) : List Pr := if canonOk a && canonOk b then clashGo b 0 a else []
theorem rowGo_step {c : Cm} {i k : Nat} {b : List Cm} {d : Cm} (h : b[k]? = some d) : rowGo c i k (b.drop k) = (if clashB c d then [((i : Int), (k : Int))] else []) ++ rowGo c i (k + 1) (b.drop (k + 1)) := by
  obtain ⟨hk, e⟩ := List.getElem?_eq_some_iff.1 h
  rw [List.drop_eq_getElem_cons hk, e]; rfl
theorem clashGo_step {i : Nat} {a b : List Cm} {c : Cm} (h : a[i]? = some c) : clashGo b i (a.drop i) = rowGo c i 0 b ++ clashGo b (i + 1) (a.drop (i + 1)) := by
  obtain ⟨hk, e⟩ := List.getElem?_eq_some_iff.1 h
  rw [List.drop_eq_getElem_cons hk, e]; rfl
theorem rowGo_mem {c : Cm} {i : Nat} {x : Pr} : ∀ {k : Nat} {r : List Cm}, x ∈ rowGo c i k r ↔ ∃ (j : Nat) (d : Cm), r[j]? = some d ∧ clashB c d = true ∧ x = ((i : Int), ((k + j : Nat) : Int))
  | k, [] => by simp [rowGo]
  | k, d :: r => by
    have ih := @rowGo_mem c i x (k + 1) r
    unfold rowGo
    rw [List.mem_append, ih]
    constructor
    · rintro (h | ⟨j, e, h1, h2, h3⟩)
      · split at h
        · rename_i hc
          simp at h
          exact ⟨0, d, rfl, hc, h⟩
        · simp at h
      · exact ⟨j + 1, e, by simpa using h1, h2, by rw [h3, show k + 1 + j = k + (j + 1) by omega]⟩
    · rintro ⟨j, e, h1, h2, h3⟩
      cases j with
      | zero =>
        simp at h1; subst h1
        left; rw [if_pos h2, h3]; simp
      | succ j => exact .inr ⟨j, e, by simpa using h1, h2, by rw [h3, show k + 1 + j = k + (j + 1) by omega]⟩
theorem clashGo_mem {b : List Cm} {x : Pr} : ∀ {i : Nat} {a : List Cm}, x ∈ clashGo b i a ↔ ∃ (j k : Nat) (c d : Cm), a[j]? = some c ∧ b[k]? = some d ∧ clashB c d = true ∧ x = (((i + j : Nat) : Int), (k : Int))
  | i, [] => by simp [clashGo]
  | i, c :: r => by
    have ih := @clashGo_mem b x (i + 1) r
    unfold clashGo
    rw [List.mem_append, ih, rowGo_mem]
    constructor
    · rintro (⟨k, d, h1, h2, h3⟩ | ⟨j, k, e, d, h1, h2, h3, h4⟩)
      · exact ⟨0, k, c, d, rfl, h1, h2, by simpa using h3⟩
      · exact ⟨j + 1, k, e, d, by simpa using h1, h2, h3, by rw [h4, show i + 1 + j = i + (j + 1) by omega]⟩
    · rintro ⟨j, k, e, d, h1, h2, h3, h4⟩
      cases j with
      | zero =>
        simp at h1; subst h1
        exact .inl ⟨k, d, h2, h3, by simpa using h4⟩
      | succ j => exact .inr ⟨j, k, e, d, by simpa using h1, h2, h3, by rw [h4, show i + 1 + j = i + (j + 1) by omega]⟩
/-- No conflicts: none of each with any. -/
theorem clashes_nil {a b : List Cm} (ha : canonOk a = true) (hb : canonOk b = true) : clashesOf a b = [] ↔ ∀ c ∈ a, ∀ d ∈ b, clashB c d = false := by
  unfold clashesOf
  rw [ha, hb]
  simp only [Bool.and_self, if_true]
  rw [List.eq_nil_iff_forall_not_mem]
  constructor
  · intro h c hc d hd
    rw [Bool.eq_false_iff]; intro hcl
    obtain ⟨j, hj, rfl⟩ := List.getElem_of_mem hc
    obtain ⟨k, hk, rfl⟩ := List.getElem_of_mem hd
    exact h _ (clashGo_mem.2 ⟨j, k, _, _, List.getElem?_eq_getElem hj, List.getElem?_eq_getElem hk, hcl, rfl⟩)
  · intro h x hx
    obtain ⟨j, k, c, d, h1, h2, h3, _⟩ := clashGo_mem.1 hx
    rw [h c (List.mem_of_getElem? h1) d (List.mem_of_getElem? h2)] at h3; cases h3
theorem rowGo_len (c : Cm) (i : Nat) : ∀ (k : Nat) (r : List Cm), (rowGo c i k r).length ≤ r.length
  | _, [] => by simp [rowGo]
  | k, d :: r => by
    have := rowGo_len c i (k + 1) r
    unfold rowGo; split <;> simp <;> omega
theorem clashGo_len (b : List Cm) : ∀ (i : Nat) (a : List Cm), (clashGo b i a).length ≤ a.length * b.length
  | _, [] => by simp [clashGo]
  | i, c :: r => by
    have h1 := clashGo_len b (i + 1) r
    have h2 := rowGo_len c i 0 b
    unfold clashGo
    rw [List.length_append, List.length_cons, Nat.add_mul]; omega
theorem clashes_at {a b : List Cm} {x : Pr} (h : x ∈ clashesOf a b) : canonOk a = true ∧ canonOk b = true ∧ ∃ (j k : Nat) (c d : Cm), a[j]? = some c ∧ b[k]? = some d ∧ x = ((j : Int), (k : Int)) := by
  unfold clashesOf at h
  split at h
  · rename_i hx
    simp only [Bool.and_eq_true] at hx
    obtain ⟨j, k, c, d, h1, h2, _, h4⟩ := clashGo_mem.1 h
    exact ⟨hx.1, hx.2, j, k, c, d, h1, h2, by simpa using h4⟩
  · simp at h

/-! ### Texts -/
def digit (n : Nat) : UInt8 := UInt8.ofNat (48 + n)
/-- A number below 100 in decimals. -/
def dec2 (n : Nat) : Str := if n < 10 then [digit n] else [digit (n / 10), digit (n % 10)]
def contText (c : Cont) : Str := if contOk c then (if c.kind = 0 then [45] else if c.kind = 1 then [100] else 102 :: dec2 c.value.toNat) else []
def cmText (c : Cm) : Str := if cmOk c then c.path ++ 32 :: (contText c.fr ++ 32 :: contText c.to) else []
def lineOf (c d : Cm) : Str := cmText c ++ ([32, 124, 32] ++ (cmText d ++ [10]))
def lineAt (a b : List Cm) (x : Pr) : Str := lineOf (a[x.1.toNat]?.getD default) (b[x.2.toNat]?.getD default)
noncomputable def clashText (a b : List Cm) : Str := (clashesOf a b).flatMap (lineAt a b)
theorem digit_ne {n : Nat} (h : n < 10) : digit n ≠ 10 := by
  unfold digit
  intro e
  have := congrArg UInt8.toNat e
  rw [UInt8.toNat_ofNat_of_lt' (by simp only [UInt8.size]; omega)] at this
  simp at this; omega
theorem dec2_count {n : Nat} (h : n < 100) : (dec2 n).count 10 = 0 := by
  unfold dec2
  rw [List.count_eq_zero]
  split
  · rename_i h1; simp; exact fun e => digit_ne h1 e.symm
  · simp; exact ⟨fun e => digit_ne (show n / 10 < 10 by omega) e.symm, fun e => digit_ne (show n % 10 < 10 by omega) e.symm⟩
theorem dec2_len (n : Nat) : (dec2 n).length ≤ 2 := by unfold dec2; split <;> simp
theorem contText_count (c : Cont) : (contText c).count 10 = 0 := by
  unfold contText
  split
  · rename_i h
    split
    · decide
    · split
      · decide
      · rename_i h1 h2
        have hv : c.value.toNat < 100 := by
          unfold contOk at h
          simp [h1, h2] at h
          omega
        rw [List.count_cons, dec2_count hv]; decide
  · rfl
theorem contText_len (c : Cont) : (contText c).length ≤ 3 := by
  have := dec2_len c.value.toNat
  unfold contText; split
  · split
    · simp
    · split
      · simp
      · simp; omega
  · simp
theorem name_count : ∀ {r : Str}, (pieces r).all isNameB = true → r.count 10 = 0
  | [], _ => rfl
  | [c], h => by
    rw [List.count_eq_zero]
    simp
    intro e
    subst e
    exact absurd h (by decide)
  | c :: d :: t, h => by
    have hc : c ≠ 10 := by
      intro e
      subst e
      obtain ⟨_, hd, _⟩ := pieces_two h
      subst hd
      have e2 : pieces (10 :: 47 :: t) = [10] :: pieces t := by simp [pieces]
      rw [e2] at h
      simp [isNameB] at h
    obtain ⟨_, hd, ht⟩ := pieces_two h
    subst hd
    have := name_count ht
    rw [List.count_cons, List.count_cons, this]
    simp; exact hc
theorem path_count {s : Str} (h : isPath s = true) : s.count 10 = 0 := by
  by_cases hr : s = [47]
  · subst hr; rfl
  · match s, h, hr with
    | [], h, _ => exact absurd h (by decide)
    | c :: r, h, hr =>
      by_cases hc : c = 47
      · subst hc
        rw [isPath_slash hr] at h
        simp only [Bool.and_eq_true] at h
        rw [List.count_cons, name_count h.1]; decide
      · exfalso
        have := path_even h hr
        have h0 := this.2.2 0 (by simp)
        simp at h0; exact hc h0
theorem cmText_count (c : Cm) : (cmText c).count 10 = 0 := by
  unfold cmText
  split
  · rename_i h
    rw [List.count_append, List.count_cons, List.count_append, List.count_cons, path_count (cmOk_path h), contText_count, contText_count]; decide
  · rfl
theorem cmText_len (c : Cm) : (cmText c).length ≤ 16 := by
  unfold cmText
  split
  · rename_i h
    have h1 := (cmOk_len h).2
    have h2 := contText_len c.fr
    have h3 := contText_len c.to
    simp; omega
  · simp
theorem lineOf_count (c d : Cm) : (lineOf c d).count 10 = 1 := by
  unfold lineOf
  rw [List.count_append, List.count_append, List.count_append, cmText_count, cmText_count]; decide
theorem lines_count (a b : List Cm) : ∀ l : List Pr, (l.flatMap (lineAt a b)).count 10 = l.length
  | [] => rfl
  | x :: r => by
    have := lines_count a b r
    rw [List.flatMap_cons, List.count_append, this]
    unfold lineAt
    rw [lineOf_count]; simp; omega
theorem lineAt_len (a b : List Cm) (x : Pr) : (lineAt a b x).length ≤ 36 := by
  unfold lineAt lineOf
  have h1 := cmText_len (a[x.1.toNat]?.getD default)
  have h2 := cmText_len (b[x.2.toNat]?.getD default)
  simp; omega
theorem lines_len (a b : List Cm) : ∀ l : List Pr, (l.flatMap (lineAt a b)).length ≤ 36 * l.length
  | [] => by simp
  | x :: r => by
    have h1 := lines_len a b r
    have h2 := lineAt_len a b x
    rw [List.flatMap_cons, List.length_append, List.length_cons]; omega
end Go.Proofs.YtjobbcdolbhadaaGreatDoor


namespace Go.Proofs.YtjobbcdolbhadaaGreatDoor
set_option linter.unusedVariables false
set_option linter.unusedSimpArgs false
open Go Go.RowKit
set_option linter.unusedVariables false
set_option linter.unusedSimpArgs false

def ordS (x y : Str) : Int := if Op.bytesLess x y then -1 else if Op.bytesLess y x then 1 else 0
def ordC (c d : Cm) : Int := if endsB c && endsB d then ordS d.path c.path else if endsB c then -1 else if endsB d then 1 else ordS c.path d.path
theorem ordS_neg (x y : Str) : ordS x y < 0 ↔ Op.bytesLess x y = true := by
  unfold ordS
  cases h : Op.bytesLess x y
  · cases h2 : Op.bytesLess y x <;> simp
  · simp
theorem ordC_neg (c d : Cm) : ordC c d < 0 ↔ befB c d = true := by
  unfold ordC befB
  cases hc : endsB c <;> cases hd : endsB d <;> simp [ordS_neg]
/-- No command goes ahead of the one before it. -/
def AdjOk (xs : List Cm) : Prop := ∀ (i : Nat) (c d : Cm), xs[i]? = some c → xs[i + 1]? = some d → befB d c = false
noncomputable instance (xs : List Cm) : Decidable (AdjOk xs) := Classical.propDecidable _
noncomputable instance (xs : List Cm) : Decidable (Once xs) := Classical.propDecidable _
theorem pairwise_of_adj {α : Type} {R : α → α → Prop} (ht : ∀ a b c, R a b → R b c → R a c) : ∀ {xs : List α}, (∀ (i : Nat) (a b : α), xs[i]? = some a → xs[i + 1]? = some b → R a b) → xs.Pairwise R
  | [], _ => .nil
  | [x], _ => by simp
  | x :: y :: r, h => by
    have ih := pairwise_of_adj ht (xs := y :: r) (fun i a b ha hb => h (i + 1) a b (by simpa using ha) (by simpa using hb))
    have h0 : R x y := h 0 x y rfl rfl
    refine List.Pairwise.cons (fun z hz => ?_) ih
    rcases List.mem_cons.1 hz with rfl | hz
    · exact h0
    · exact ht _ _ _ h0 ((List.pairwise_cons.1 ih).1 z hz)
theorem pairwise_at {α : Type} {R : α → α → Prop} {xs : List α} (h : xs.Pairwise R) {i j : Nat} {a b : α} (hij : i < j) (ha : xs[i]? = some a) (hb : xs[j]? = some b) : R a b := by
  obtain ⟨hi, rfl⟩ := List.getElem?_eq_some_iff.1 ha
  obtain ⟨hj, rfl⟩ := List.getElem?_eq_some_iff.1 hb
  exact List.pairwise_iff_getElem.1 h i j hi hj hij
theorem once_at {xs : List Cm} (h : Once xs) {i j : Nat} {c d : Cm} (hij : i < j) (hc : xs[i]? = some c) (hd : xs[j]? = some d) : ¬ c.path = d.path := pairwise_at h hij hc hd
theorem sorted_of_adj {xs : List Cm} (ho : Once xs) (h : AdjOk xs) : Sorted xs :=
  pairwise_of_adj (R := fun c d => befB c d = true) (fun a b c h1 h2 => befB_trans h1 h2) (fun i a b ha hb => (befB_total (once_at ho (Nat.lt_succ_self i) ha hb)).resolve_right (fun e => by rw [h i a b ha hb] at e; cases e))
theorem adj_of_sorted {xs : List Cm} (h : Sorted xs) : AdjOk xs := fun i c d hc hd => befB_asymm (pairwise_at h (Nat.lt_succ_self i) hc hd)
theorem canonOk_adj (xs : List Cm) : canonOk xs = (logOk xs && decide (Once xs) && decide (AdjOk xs)) := by
  rw [Bool.eq_iff_iff, canonOk_iff]
  unfold CanonOk
  simp only [Bool.and_eq_true, decide_eq_true_eq]
  exact ⟨fun ⟨h1, h2, h3⟩ => ⟨⟨h1, h2⟩, adj_of_sorted h3⟩, fun ⟨⟨h1, h2⟩, h3⟩ => ⟨h1, h2, sorted_of_adj h2 h3⟩⟩
theorem not_once_of {xs : List Cm} {k : Nat} {c : Cm} (hc : xs[k]? = some c) (hm : c.path ∈ (xs.take k).map (·.path)) : ¬ Once xs := fun h => by
  obtain ⟨d, hd, e⟩ := List.mem_map.1 hm
  obtain ⟨j, hj⟩ := List.getElem?_of_mem hd
  have hjk : j < k := by have := (List.getElem?_eq_some_iff.1 hj).1; simp at this; omega
  rw [List.getElem?_take_of_lt hjk] at hj
  exact once_at h hjk hj hc e
theorem once_snoc {xs : List Cm} {k : Nat} {c : Cm} (h : Once (xs.take k)) (hc : xs[k]? = some c) (hm : ¬ c.path ∈ (xs.take k).map (·.path)) : Once (xs.take (k + 1)) := by
  rw [List.take_add_one, hc]
  refine List.pairwise_append.2 ⟨h, by simp, fun a ha b hb => ?_⟩
  obtain rfl : b = c := by simpa using hb
  exact fun e => hm (List.mem_map.2 ⟨a, ha, e⟩)
theorem first_map {xs : List Cm} {k : Nat} {p : Str} : (xs.take k).any (fun d => decide (d.path = p)) = decide (p ∈ (xs.take k).map (·.path)) := by
  rw [Bool.eq_iff_iff, List.any_eq_true, decide_eq_true_eq, List.mem_map]
  simp
/-- Sorted and once, one command further. -/
theorem pref_step {xs : List Cm} {k : Nat} {c d : Cm} (h : Once (xs.take (k + 1)) ∧ Sorted (xs.take (k + 1))) (hc : xs[k]? = some c) (hd : xs[k + 1]? = some d) (hb : befB c d = true) (hf : (xs.take (k + 1)).any (fun x => decide (x.path = d.path)) = false) : Once (xs.take (k + 2)) ∧ Sorted (xs.take (k + 2)) := by
  have hm : ¬ d.path ∈ (xs.take (k + 1)).map (·.path) := by rw [first_map] at hf; simpa using hf
  have ho := once_snoc h.1 hd hm
  refine ⟨ho, sorted_of_adj ho (fun i a b ha hb2 => ?_)⟩
  have hi : i + 1 < k + 2 := by have := (List.getElem?_eq_some_iff.1 hb2).1; simp at this; omega
  rw [List.getElem?_take_of_lt hi] at hb2
  rw [List.getElem?_take_of_lt (by omega)] at ha
  by_cases e : i = k
  · subst e
    obtain rfl : a = c := Option.some.inj (ha.symm.trans hc)
    obtain rfl : b = d := Option.some.inj (hb2.symm.trans hd)
    exact befB_asymm hb
  · exact adj_of_sorted h.2 i a b (by rw [List.getElem?_take_of_lt (by omega)]; exact ha) (by rw [List.getElem?_take_of_lt (by omega)]; exact hb2)
theorem canon_no1 {xs : List Cm} {k : Nat} {c d : Cm} (hc : xs[k]? = some c) (hd : xs[k + 1]? = some d) (hb : befB c d = false) : canonOk xs = false := canonOk_false (fun h => by
  rw [pairwise_at h.2.2 (Nat.lt_succ_self k) hc hd] at hb; cases hb)
theorem canon_no2 {xs : List Cm} {k : Nat} {d : Cm} (hd : xs[k]? = some d) (hf : (xs.take k).any (fun x => decide (x.path = d.path)) = true) : canonOk xs = false := canonOk_false (fun h => not_once_of hd (by rw [first_map] at hf; simpa using hf) h.2.1)
end Go.Proofs.YtjobbcdolbhadaaGreatDoor
