/-
  Filters in plain Lean: what lies under a path; what ignored paths touch; logs and trees without it. No program in sight.
-/
import Derived.Test.YtnemajefpgicgaaDoorTreePlain
import Derived.Test.YtnemajefpgicgaaDoorPathPlain
import Derived.Test.YtnemajefpgicgaaDoorCmList
import Derived.Test.YtnemajefpgicgaaDoorIgnores
namespace Go.Proofs.YtnemajefpgicgaaDoor
open Go Go.RowKit
set_option linter.unusedVariables false
set_option linter.unusedSimpArgs false

/-! ### Names stand at odd places, slashes at even ones -/
theorem name_one {s : Str} (h : isNameB s = true) : ∃ b, s = [b] ∧ b ≠ 47 := by
  match s, h with
  | [b], h =>
    refine ⟨b, rfl, fun e => ?_⟩
    subst e
    exact absurd h (by decide)
theorem pieces_two {c d : UInt8} {t : Str} (h : (pieces (c :: d :: t)).all isNameB = true) : c ≠ 47 ∧ d = 47 ∧ (pieces t).all isNameB = true := by
  by_cases hc : c = 47
  · subst hc
    simp [pieces, isNameB] at h
  · have hcb : (c == (47 : UInt8)) = false := beq_eq_false_iff_ne.2 hc
    by_cases hd : d = 47
    · subst hd
      refine ⟨hc, rfl, ?_⟩
      have e : pieces (c :: 47 :: t) = [c] :: pieces t := by simp [pieces, hcb]
      rw [e] at h
      simp only [List.all_cons, Bool.and_eq_true] at h
      exact h.2
    · exfalso
      have hdb : (d == (47 : UInt8)) = false := beq_eq_false_iff_ne.2 hd
      obtain ⟨p, ps, ep⟩ : ∃ p ps, pieces t = p :: ps := by
        cases e : pieces t with
        | nil => exact absurd e (pieces_ne t)
        | cons p ps => exact ⟨p, ps, rfl⟩
      have e : pieces (c :: d :: t) = (c :: d :: p) :: ps := by simp [pieces, hcb, hdb, ep]
      rw [e] at h
      simp [isNameB] at h
theorem names_even : ∀ {r : Str}, (pieces r).all isNameB = true → r.length % 2 = 1 ∧ ∀ i, 2 * i + 1 < r.length → r[2 * i + 1]? = some 47
  | [], h => by simp [pieces, isNameB] at h
  | [c], h => ⟨rfl, fun i hi => by simp at hi⟩
  | c :: d :: t, h => by
    obtain ⟨_, hd, ht⟩ := pieces_two h
    obtain ⟨h1, h2⟩ := names_even ht
    refine ⟨by simp; omega, fun i hi => ?_⟩
    cases i with
    | zero => simp [hd]
    | succ i =>
      have := h2 i (by simp at hi; omega)
      rw [show 2 * (i + 1) + 1 = (2 * i + 1) + 1 + 1 by omega, List.getElem?_cons_succ, List.getElem?_cons_succ]
      exact this
theorem path_even {s : Str} (h : isPath s = true) (hr : ¬ s = [47]) : s.length % 2 = 0 ∧ 2 ≤ s.length ∧ ∀ i, 2 * i < s.length → s[2 * i]? = some 47 := by
  match s, h, hr with
  | [], h, _ => exact absurd h (by decide)
  | c :: r, h, hr =>
    by_cases hc : c = 47
    · subst hc
      rw [isPath_slash hr] at h
      simp only [Bool.and_eq_true] at h
      obtain ⟨h1, h2⟩ := names_even h.1
      refine ⟨by simp; omega, by simp; omega, fun i hi => ?_⟩
      cases i with
      | zero => rfl
      | succ i =>
        rw [show 2 * (i + 1) = (2 * i + 1) + 1 by omega, List.getElem?_cons_succ]
        exact h2 i (by simp at hi; omega)
    · exfalso
      revert h; unfold isPath
      have h1 : ((c :: r) == root) = false := beq_eq_false_iff_ne.2 hr
      rw [h1, Bool.false_or]
      split
      · rename_i e; cases e; exact absurd rfl hc
      · simp

/-! ### Under -/
def underS (a b : Str) : Bool := (decide (a = [47]) && !decide (b = [47])) || (decide (a.length < b.length) && decide (b.take a.length = a))
theorem under_root (b : Str) : under [47] b = !decide (b = [47]) := by
  unfold under
  have : (([47] : Str) == root) = true := rfl
  rw [if_pos this]
  show (b != root) = _
  rw [Bool.eq_iff_iff]; simp [root]
theorem under_not_root {a b : Str} (h : ¬ a = [47]) : under a b = (a ++ [47]).isPrefixOf b := by
  unfold under
  have : ¬ (a == root) = true := by simpa [root] using h
  rw [if_neg this]
theorem under_iff {a b : Str} (ha : isPath a = true) (hb : isPath b = true) (h : ¬ a = [47]) : under a b = true ↔ a.length < b.length ∧ b.take a.length = a := by
  rw [under_not_root h, List.isPrefixOf_iff_prefix]
  constructor
  · rintro ⟨t, rfl⟩
    refine ⟨by simp, ?_⟩
    rw [List.append_assoc, List.take_left' rfl]
  · rintro ⟨h1, h2⟩
    obtain ⟨e1, e2, _⟩ := path_even ha h
    by_cases hbr : b = [47]
    · subst hbr; have h3 : a.length < 1 := h1; omega
    · obtain ⟨_, _, e3⟩ := path_even hb hbr
      have e4 := e3 (a.length / 2) (by omega)
      rw [show 2 * (a.length / 2) = a.length by omega] at e4
      refine ⟨b.drop (a.length + 1), ?_⟩
      have e5 : b.drop a.length = 47 :: b.drop (a.length + 1) := by
        obtain ⟨h3, h4⟩ := List.getElem?_eq_some_iff.1 e4
        rw [List.drop_eq_getElem_cons h3, h4]
      conv => rhs; rw [← List.take_append_drop a.length b, h2, e5]
      simp
theorem underS_eq {a b : Str} (ha : isPath a = true) (hb : isPath b = true) : underS a b = under a b := by
  by_cases h : a = [47]
  · subst h
    rw [under_root]
    unfold underS
    cases e : decide (b = [47])
    · simp
    · have : b = [47] := of_decide_eq_true e
      subst this; rfl
  · rw [Bool.eq_iff_iff, under_iff ha hb h]
    unfold underS
    simp [h]

/-! ### Filters -/
def covB (ig : List Str) (p : Str) : Bool := ig.any (fun s => decide (s = p) || under s p)
def touB (ig : List Str) (c : Cm) : Bool := covB ig c.path || (!decide (c.to.kind = 1) && ig.any (fun s => under c.path s))
def filtL (t : Bool) (cs : List Cm) (ig : List Str) : List Cm := if logOk cs && ignOk ig then cs.filter (fun c => touB ig c == t) else []
noncomputable def filtT (xs : List Nd) (ig : List Str) : List Nd := if treeOk xs && ignOk ig then xs.filter (fun n => !covB ig n.path) else []
theorem igs_path {ig : List Str} (h : ignOk ig = true) {s : Str} (hs : s ∈ ig) : isPath s = true ∧ ¬ s = [47] := by
  unfold ignOk at h
  simp only [Bool.and_eq_true, List.all_eq_true] at h
  have := h.2 s hs
  unfold ignOne at this; simpa using this
theorem filtL_mem {t : Bool} {cs : List Cm} {ig : List Str} (h : (logOk cs && ignOk ig) = true) {c : Cm} : c ∈ filtL t cs ig ↔ c ∈ cs ∧ touB ig c = t := by
  unfold filtL; rw [if_pos h, List.mem_filter]; simp
theorem filtL_sum {cs : List Cm} {ig : List Str} (h : (logOk cs && ignOk ig) = true) : (filtL false cs ig).length + (filtL true cs ig).length = cs.length := by
  unfold filtL; rw [if_pos h, if_pos h]
  clear h
  induction cs with
  | nil => rfl
  | cons c r ih => simp only [List.filter_cons]; cases touB ig c <;> simp at * <;> omega
theorem touB_part {ig : List Str} {c : Cm} (k : Nat) (h : touB ig c = false) : touB (ig.take k) c = false := by
  unfold touB covB at *
  simp only [Bool.or_eq_false_iff, Bool.and_eq_false_iff, List.any_eq_false, Bool.not_eq_true] at *
  exact ⟨fun s hs => h.1 s (List.mem_of_mem_take hs), h.2.imp id (fun h s hs => h s (List.mem_of_mem_take hs))⟩
theorem ign_part {ig : List Str} (k : Nat) (h : ignOk ig = true) : ignOk (ig.take k) = true := by
  unfold ignOk at *
  simp only [Bool.and_eq_true, decide_eq_true_eq, List.all_eq_true] at *
  exact ⟨by simp; omega, fun s hs => h.2 s (List.mem_of_mem_take hs)⟩
theorem filtL_len (t : Bool) (cs : List Cm) (ig : List Str) : (filtL t cs ig).length ≤ 20 := by
  unfold filtL
  split
  · rename_i h
    simp only [Bool.and_eq_true] at h
    have h1 := h.1
    simp only [logOk, Bool.and_eq_true, decide_eq_true_eq] at h1
    exact Nat.le_trans (List.length_filter_le ..) h1.1
  · simp
theorem filtT_len (xs : List Nd) (ig : List Str) : (filtT xs ig).length ≤ 20 := by
  unfold filtT
  split
  · rename_i h
    simp only [Bool.and_eq_true] at h
    have := tree_len h.1
    exact Nat.le_trans (List.length_filter_le ..) (by omega)
  · simp
theorem filt_none {cs : List Cm} (h : logOk cs = true) : filtL false cs [] = cs := by
  unfold filtL
  rw [if_pos (by rw [h]; rfl)]
  exact List.filter_eq_self.2 (fun c _ => by simp [touB, covB])
end Go.Proofs.YtnemajefpgicgaaDoor
