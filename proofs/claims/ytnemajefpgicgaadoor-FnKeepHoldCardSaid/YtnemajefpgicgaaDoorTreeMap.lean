/-
  Trees as maps from paths to contents: two trees with the same contents are one; what putting does; which maps are those of trees. No program in sight.
-/
import Derived.Test.YtnemajefpgicgaaDoorTreeFilt
namespace Go.Proofs.YtnemajefpgicgaaDoor
open Go Go.RowKit
set_option linter.unusedVariables false
set_option linter.unusedSimpArgs false

/-! ### Order -/
theorem bytesLess_total : ∀ {x y : List UInt8}, ¬ x = y → Op.bytesLess x y = true ∨ Op.bytesLess y x = true
  | [], [], h => absurd rfl h
  | [], _ :: _, _ => .inl rfl
  | _ :: _, [], _ => .inr rfl
  | a :: x, b :: y, h => by
    have ih := @bytesLess_total x y
    simp only [Op.bytesLess, Bool.or_eq_true, Bool.and_eq_true, decide_eq_true_eq, beq_iff_eq, UInt8.lt_iff_toNat_lt]
    rcases Nat.lt_trichotomy a.toNat b.toNat with h1 | h1 | h1
    · exact .inl (.inl h1)
    · have e : a = b := UInt8.toNat_inj.1 h1
      subst e
      rcases ih (fun e => h (by rw [e])) with h2 | h2
      · exact .inl (.inr ⟨rfl, h2⟩)
      · exact .inr (.inr ⟨rfl, h2⟩)
    · exact .inr (.inl h1)
theorem bytesLess_asymm {x y : List UInt8} (h : Op.bytesLess x y = true) : Op.bytesLess y x = false := by
  rw [Bool.eq_false_iff]; intro h2
  have := bytesLess_trans h h2
  rw [bytesLess_irrefl] at this; cases this
theorem less_or (a b : Str) : (Op.bytesLess a b || decide (a = b)) = !Op.bytesLess b a := by
  by_cases e : a = b
  · subst e; simp [bytesLess_irrefl]
  · rcases bytesLess_total e with h | h
    · simp [h, bytesLess_asymm h]
    · simp [h, e, bytesLess_asymm h]
theorem less_or2 (a b : Str) : (!Op.bytesLess a b && !decide (a = b)) = Op.bytesLess b a := by
  have := less_or a b
  rw [← Bool.not_or, this, Bool.not_not]
theorem bytesLess_prefix : ∀ (x t : List UInt8), ¬ t = [] → Op.bytesLess x (x ++ t) = true
  | [], [], h => absurd rfl h
  | [], _ :: _, _ => rfl
  | a :: x, t, h => by
    have := bytesLess_prefix x t h
    simp [Op.bytesLess, this]
/-- Two lists in a strict order with the same members are one. -/
theorem sorted_ext {α : Type} {lt : α → α → Prop} (irr : ∀ a, ¬ lt a a) (asym : ∀ a b, lt a b → ¬ lt b a) : ∀ {xs ys : List α}, xs.Pairwise lt → ys.Pairwise lt → (∀ a, a ∈ xs ↔ a ∈ ys) → xs = ys
  | [], [], _, _, _ => rfl
  | [], y :: ys, _, _, h => absurd ((h y).2 (List.mem_cons_self ..)) (by simp)
  | x :: xs, [], _, _, h => absurd ((h x).1 (List.mem_cons_self ..)) (by simp)
  | x :: xs, y :: ys, hx, hy, h => by
    rw [List.pairwise_cons] at hx hy
    have e : x = y := by
      rcases List.mem_cons.1 ((h x).1 (List.mem_cons_self ..)) with h1 | h1
      · exact h1
      · rcases List.mem_cons.1 ((h y).2 (List.mem_cons_self ..)) with h2 | h2
        · exact h2.symm
        · exact absurd (hx.1 y h2) (asym _ _ (hy.1 x h1))
    subst e
    rw [sorted_ext irr asym hx.2 hy.2 (fun a => ?_)]
    constructor
    · intro ha
      rcases List.mem_cons.1 ((h a).1 (List.mem_cons_of_mem _ ha)) with h1 | h1
      · subst h1; exact absurd (hx.1 _ ha) (irr _)
      · exact h1
    · intro ha
      rcases List.mem_cons.1 ((h a).2 (List.mem_cons_of_mem _ ha)) with h1 | h1
      · subst h1; exact absurd (hy.1 _ ha) (irr _)
      · exact h1

/-! ### Lists of nodes as maps -/
theorem find_iff {xs : List Nd} (h : Asc xs) {p : Str} {c : Cont} : find xs p = some c ↔ (⟨p, c⟩ : Nd) ∈ xs := by
  constructor
  · intro e
    obtain ⟨n, hn, e1, e2⟩ := find_some e
    cases n; simp at e1 e2; subst e1; subst e2; exact hn
  · intro e; exact find_mem h e
theorem find_none_iff {xs : List Nd} {p : Str} : find xs p = none ↔ ∀ n ∈ xs, ¬ n.path = p := by
  unfold find
  rw [Option.map_eq_none_iff, List.find?_eq_none]
  simp
/-- Nodes that ascend and are each valid. -/
structure Clean (xs : List Nd) : Prop where
  asc : Asc xs
  ok : ∀ n ∈ xs, NdOk n
theorem tree_clean {xs : List Nd} (h : treeOk xs = true) : Clean xs := ⟨tree_asc h, fun n hn => by
  obtain ⟨i, hi, e⟩ := List.getElem_of_mem hn
  exact ((treeOk_iff.1 h).2 i n (by rw [List.getElem?_eq_getElem hi, e])).1⟩
theorem contOk_none {c : Cont} (h : contOk c = true) (hk : c.kind = 0) : c = none0 := by
  unfold contOk at h; cases c; simp_all [none0]
theorem contOk_dir {c : Cont} (h : contOk c = true) (hk : c.kind = 1) : c = dir0 := by
  unfold contOk at h; cases c; simp_all [dir0]
theorem contOk_none0 : contOk none0 = true := by decide
theorem contOk_dir0 : contOk dir0 = true := by decide
theorem Clean.get_mem {xs : List Nd} (h : Clean xs) {n : Nd} (hn : n ∈ xs) : get xs n.path = n.c := by
  rw [get_not_root (h.ok n hn).2.1, find_mem h.asc hn]; rfl
theorem Clean.get_some {xs : List Nd} (h : Clean xs) {p : Str} (hp : ¬ p = [47]) (hk : ¬ (get xs p).kind = 0) : (⟨p, get xs p⟩ : Nd) ∈ xs := by
  rw [get_not_root hp] at hk ⊢
  cases hf : find xs p with
  | none => rw [hf] at hk; exact absurd rfl hk
  | some c => exact (find_iff h.asc).1 hf
theorem Clean.get_ok {xs : List Nd} (h : Clean xs) (p : Str) : contOk (get xs p) = true := by
  by_cases hp : p = [47]
  · subst hp; rw [get_root]; rfl
  · by_cases hk : (get xs p).kind = 0
    · rw [get_not_root hp] at hk ⊢
      cases hf : find xs p with
      | none => rfl
      | some c =>
        rw [hf] at hk
        exact absurd hk (h.ok _ ((find_iff h.asc).1 hf)).2.2.2
    · exact (h.ok _ (h.get_some hp hk)).2.2.1
theorem Clean.ext {xs ys : List Nd} (h : Clean xs) (h2 : Clean ys) (e : ∀ p, get xs p = get ys p) : xs = ys := by
  refine sorted_ext (α := Nd) (lt := fun a b => Op.bytesLess a.path b.path = true) (fun a e => by rw [bytesLess_irrefl] at e; cases e) (fun a b e1 e2 => by rw [bytesLess_asymm e1] at e2; cases e2) h.asc h2.asc (fun a => ?_)
  have key : ∀ {us vs : List Nd}, Clean us → Clean vs → (∀ p, get us p = get vs p) → a ∈ us → a ∈ vs := fun {us vs} hu hv e ha => by
    have h1 := hu.get_mem ha
    have h3 := hu.ok a ha
    have h4 := hv.get_some (p := a.path) h3.2.1 (by rw [← e, h1]; exact h3.2.2.2)
    rw [← e, h1] at h4; exact h4
  exact ⟨key h h2 e, key h2 h (fun p => (e p).symm)⟩
theorem tree_ext {xs ys : List Nd} (h : treeOk xs = true) (h2 : treeOk ys = true) (e : ∀ p, get xs p = get ys p) : xs = ys := (tree_clean h).ext (tree_clean h2) e

/-- A map that a tree may have, but for the number of its nodes. -/
structure Good (g : Str → Cont) : Prop where
  root : g [47] = dir0
  ok : ∀ p, contOk (g p) = true
  up : ∀ p, ¬ p = [47] → ¬ (g p).kind = 0 → isPath p = true ∧ (g (parent p)).kind = 1
theorem tree_good {xs : List Nd} (h : treeOk xs = true) : Good (get xs) := by
  have hc := tree_clean h
  refine ⟨get_root xs, hc.get_ok, fun p hp hk => ?_⟩
  have hm := hc.get_some hp hk
  obtain ⟨i, hi, e⟩ := List.getElem_of_mem hm
  have := (treeOk_iff.1 h).2 i _ (by rw [List.getElem?_eq_getElem hi, e])
  exact ⟨this.1.1, this.2.2⟩
theorem tree_of_good {xs : List Nd} (h : Clean xs) (hl : xs.length ≤ 10) (hg : Good (get xs)) : treeOk xs = true := by
  refine treeOk_true ⟨hl, fun i n hn => ?_⟩
  have hm := List.mem_of_getElem? hn
  have hk := h.ok n hm
  refine ⟨hk, fun m h0 hmm => asc_at h.asc hn h0 hmm, ?_⟩
  exact (hg.up n.path hk.2.1 (by rw [h.get_mem hm]; exact hk.2.2.2)).2

/-! ### Putting, on ascending nodes -/
theorem putGo_true (p : Str) (c : Cont) : ∀ xs : List Nd, putGo p c true xs = xs.filter (fun n => !decide (n.path = p))
  | [] => rfl
  | n :: r => by
    have := putGo_true p c r
    simp only [putGo, Bool.not_true, Bool.false_and, Bool.true_or]
    by_cases e : n.path = p <;> simp [e, this, List.filter_cons]
/-- Where a path belongs. -/
def insN (p : Str) (c : Cont) : List Nd → List Nd
  | [] => [⟨p, c⟩]
  | n :: r => if Op.bytesLess n.path p then n :: insN p c r else ⟨p, c⟩ :: n :: r
theorem asc_cons {n : Nd} {r : List Nd} (h : Asc (n :: r)) : (∀ m ∈ r, Op.bytesLess n.path m.path = true) ∧ Asc r := by
  unfold Asc at h ⊢; rw [List.pairwise_cons] at h; exact h
theorem filter_id {p : Str} {r : List Nd} (h : ∀ m ∈ r, Op.bytesLess p m.path = true) : r.filter (fun n => !decide (n.path = p)) = r := by
  rw [List.filter_eq_self]
  intro m hm
  have := h m hm
  simp only [Bool.not_eq_true', decide_eq_false_iff_not]
  intro e; rw [e, bytesLess_irrefl] at this; cases this
theorem insN_head {p : Str} {c : Cont} {r : List Nd} (h : ∀ m ∈ r, Op.bytesLess p m.path = true) : insN p c r = ⟨p, c⟩ :: r := by
  cases r with
  | nil => rfl
  | cons m r =>
    have := h m (List.mem_cons_self ..)
    simp [insN, bytesLess_asymm this]
theorem putGo_false (p : Str) (c : Cont) : ∀ {xs : List Nd}, Asc xs → putGo p c false xs = insN p c (xs.filter (fun n => !decide (n.path = p)))
  | [], _ => rfl
  | n :: r, h => by
    obtain ⟨h1, h2⟩ := asc_cons h
    have ih := putGo_false p c h2
    simp only [putGo, Bool.not_false, Bool.true_and, Bool.false_or]
    by_cases e : n.path = p
    · have h3 : ∀ m ∈ r, Op.bytesLess p m.path = true := fun m hm => by rw [← e]; exact h1 m hm
      have hl : Op.bytesLess p n.path = false := by rw [e]; exact bytesLess_irrefl p
      simp only [hl, e, putGo_true, List.filter_cons]
      simp [filter_id h3, insN_head h3, bytesLess_irrefl]
    · cases hl : Op.bytesLess p n.path
      · have hgt : Op.bytesLess n.path p = true := by
          rcases bytesLess_total e with h3 | h3
          · exact h3
          · rw [hl] at h3; cases h3
        simp [e, List.filter_cons, insN, hgt, ih]
      · have h3 : ∀ m ∈ n :: r, Op.bytesLess p m.path = true := fun m hm => by
          rcases List.mem_cons.1 hm with rfl | hm
          · exact hl
          · exact bytesLess_trans hl (h1 m hm)
        rw [filter_id h3, insN_head h3]
        simp [e, putGo_true, filter_id (fun m hm => h3 m (List.mem_cons_of_mem _ hm))]
theorem putL_asc {xs : List Nd} (h : Asc xs) (p : Str) (c : Cont) : putL xs p c = if c.kind = 0 then xs.filter (fun n => !decide (n.path = p)) else insN p c (xs.filter (fun n => !decide (n.path = p))) := by
  unfold putL
  by_cases hk : c.kind = 0
  · simp [hk, putGo_true]
  · simp [hk, putGo_false p c h]
theorem insN_mem {p : Str} {c : Cont} {n : Nd} : ∀ {xs : List Nd}, n ∈ insN p c xs ↔ n = ⟨p, c⟩ ∨ n ∈ xs
  | [] => by simp [insN]
  | m :: r => by
    have ih := @insN_mem p c n r
    unfold insN
    split
    · simp only [List.mem_cons, ih]
      constructor
      · rintro (h | h | h)
        · exact .inr (.inl h)
        · exact .inl h
        · exact .inr (.inr h)
      · rintro (h | h | h)
        · exact .inr (.inl h)
        · exact .inl h
        · exact .inr (.inr h)
    · simp
theorem insN_asc {p : Str} {c : Cont} : ∀ {xs : List Nd}, Asc xs → (∀ n ∈ xs, ¬ n.path = p) → Asc (insN p c xs)
  | [], _, _ => by simp [insN, Asc]
  | m :: r, h, hn => by
    obtain ⟨h1, h2⟩ := asc_cons h
    have ih := insN_asc (c := c) h2 (fun n hm => hn n (List.mem_cons_of_mem _ hm))
    unfold insN
    split
    · rename_i hl
      unfold Asc at ih ⊢
      rw [List.pairwise_cons]
      refine ⟨fun n hm => ?_, ih⟩
      rcases insN_mem.1 hm with rfl | hm
      · exact hl
      · exact h1 n hm
    · rename_i hl
      have hg : Op.bytesLess p m.path = true := by
        rcases bytesLess_total (hn m (List.mem_cons_self ..)) with h3 | h3
        · exact absurd h3 hl
        · exact h3
      have h0 := h
      unfold Asc at h0 ⊢
      rw [List.pairwise_cons]
      refine ⟨fun n hm => ?_, h0⟩
      rcases List.mem_cons.1 hm with rfl | hm
      · exact hg
      · exact bytesLess_trans hg (h1 n hm)
theorem insN_len (p : Str) (c : Cont) : ∀ xs : List Nd, (insN p c xs).length = xs.length + 1
  | [] => rfl
  | m :: r => by
    have := insN_len p c r
    unfold insN; split <;> simp [this]
theorem filt_asc {xs : List Nd} (h : Asc xs) (p : Str) : Asc (xs.filter (fun n => !decide (n.path = p))) := by unfold Asc at *; exact h.filter _
theorem putL_mem_iff {xs : List Nd} (h : Asc xs) {p : Str} {c : Cont} {n : Nd} : n ∈ putL xs p c ↔ (n = ⟨p, c⟩ ∧ ¬ c.kind = 0) ∨ (n ∈ xs ∧ ¬ n.path = p) := by
  rw [putL_asc h]
  split
  · rename_i hk; rw [List.mem_filter]; simp [hk]
  · rename_i hk; rw [insN_mem, List.mem_filter]; simp [hk]
theorem putL_clean {xs : List Nd} (h : Clean xs) {p : Str} {c : Cont} (hp : isPath p = true) (hr : ¬ p = [47]) (hc : contOk c = true) : Clean (putL xs p c) := by
  refine ⟨?_, fun n hn => ?_⟩
  · rw [putL_asc h.asc]
    split
    · exact filt_asc h.asc p
    · exact insN_asc (filt_asc h.asc p) (fun n hn => by rw [List.mem_filter] at hn; simpa using hn.2)
  · rcases (putL_mem_iff h.asc).1 hn with ⟨rfl, hk⟩ | ⟨hn, _⟩
    · exact ⟨hp, hr, hc, hk⟩
    · exact h.ok n hn
/-- The content of a path behind a put. -/
theorem get_put {xs : List Nd} (h : Clean xs) {p : Str} {c : Cont} (hp : isPath p = true) (hr : ¬ p = [47]) (hc : contOk c = true) (q : Str) : get (putL xs p c) q = if q = p then c else get xs q := by
  have h2 := putL_clean h hp hr hc
  by_cases hq : q = [47]
  · subst hq; rw [get_root, get_root, if_neg (fun e => hr e.symm)]
  · by_cases e : q = p
    · subst e
      rw [if_pos rfl]
      by_cases hk : c.kind = 0
      · rw [contOk_none hc hk, get_not_root hq, find_none_iff.2 (fun n hn => ?_)]; rfl
        rcases (putL_mem_iff h.asc).1 hn with ⟨_, h3⟩ | ⟨_, h3⟩
        · exact absurd rfl h3
        · exact h3
      · have := h2.get_mem (n := ⟨q, c⟩) ((putL_mem_iff h.asc).2 (.inl ⟨rfl, hk⟩))
        exact this
    · rw [if_neg e, get_not_root hq, get_not_root hq]
      cases hf : find xs q with
      | none => rw [find_none_iff.2 (fun n hn => ?_)]
                rcases (putL_mem_iff h.asc).1 hn with ⟨rfl, h3⟩ | ⟨h3, _⟩
                · exact fun e2 => e e2.symm
                · exact find_none_iff.1 hf n h3
      | some d => rw [(find_iff h2.asc).2 ((putL_mem_iff h.asc).2 (.inr ⟨(find_iff h.asc).1 hf, e⟩))]
/-- How many nodes there are behind a put. -/
theorem put_len {xs : List Nd} (h : Clean xs) {p : Str} (hr : ¬ p = [47]) (c : Cont) : (putL xs p c).length + (if (get xs p).kind = 0 then 0 else 1) = xs.length + (if c.kind = 0 then 0 else 1) := by
  have hf : (xs.filter (fun n => !decide (n.path = p))).length + (if (get xs p).kind = 0 then 0 else 1) = xs.length := by
    have key : ∀ {ys : List Nd}, Asc ys → (ys.filter (fun n => !decide (n.path = p))).length + (if (find ys p).isSome then 1 else 0) = ys.length := by
      intro ys
      induction ys with
      | nil => intro _; simp [find]
      | cons m r ih =>
        intro ha
        obtain ⟨h1, h2⟩ := asc_cons ha
        by_cases e : m.path = p
        · have h3 : ∀ n ∈ r, Op.bytesLess p n.path = true := fun n hn => by rw [← e]; exact h1 n hn
          have : find (m :: r) p = some m.c := by unfold find; simp [e]
          rw [this]
          simp [List.filter_cons, e, filter_id h3]
        · have : find (m :: r) p = find r p := by unfold find; simp [e]
          rw [this]
          have := ih h2
          simp [List.filter_cons, e]; omega
    rw [← key h.asc]
    congr 1
    rw [get_not_root hr]
    cases hf : find xs p with
    | none => rfl
    | some d => have := (h.ok _ ((find_iff h.asc).1 hf)).2.2.2; simp at this; simp [this]
  rw [putL_asc h.asc]
  split
  · omega
  · rw [insN_len]; omega
end Go.Proofs.YtnemajefpgicgaaDoor
