/-
  The tree of a side, in plain Lean: what it holds, when both sides have the same. No program in sight.
-/
import Derived.Test.YtjjmcdakmgeanaaGreatDoorPairLaws
namespace Go.Proofs.YtjjmcdakmgeanaaGreatDoor
open Go Go.RowKit
set_option linter.unusedVariables false
set_option linter.unusedSimpArgs false

theorem pairTree_no {t : List Nd} {a b : List Cm} (h : pairFits t a b = false) : pairTree t a b = none := by
  unfold pairTree; rw [if_neg (by rw [h]; simp)]
theorem pairTree_eq {t : List Nd} {a b : List Cm} (h : pairFits t a b = true) : pairTree t a b = if (logGo t (a ++ safeL a b)).2 = (a ++ safeL a b).length then some (logGo t (a ++ safeL a b)).1 else none := by
  obtain ⟨T, ht, fa, fb⟩ := two_of h
  unfold pairTree
  rw [if_pos h, logGo_append fa]
  simp only [List.length_append]
  by_cases e : (logGo (logGo t a).1 (safeL a b)).2 = (safeL a b).length
  · rw [if_pos e, if_pos (by omega)]
  · rw [if_neg e, if_neg (by omega)]
theorem pairTree_some {t O : List Nd} {a b : List Cm} (h : pairTree t a b = some O) : pairFits t a b = true ∧ treeOk O = true ∧ ∀ p, get O p = ovr (ovr (get t) a) (safeL a b) p := by
  cases hf : pairFits t a b
  · rw [pairTree_no hf] at h; cases h
  · obtain ⟨T, ht, fa, fb⟩ := two_of hf
    refine ⟨rfl, ?_⟩
    unfold pairTree at h
    rw [if_pos hf] at h
    by_cases e : (logGo (logGo t a).1 (safeL a b)).2 = (safeL a b).length
    · rw [if_pos e] at h
      obtain rfl := Option.some.inj h
      have hown := logGo_tree (cs := a) ht
      refine ⟨logGo_tree hown, fun p => ?_⟩
      rw [get_full hown T.safe_once e, show get (logGo t a).1 = ovr (get t) a from funext (get_full ht T.ao fa)]
    · rw [if_neg e] at h; cases h
/-- A side keeps what it has done, and has what is safe. -/
theorem pairTree_has {t O : List Nd} {a b : List Cm} (h : pairTree t a b = some O) {c : Cm} (hc : c ∈ a ++ safeL a b) : isPath c.path = true ∧ get O c.path = c.to := by
  obtain ⟨hf, hO, hg⟩ := pairTree_some h
  obtain ⟨T, _⟩ := two_of hf
  rcases List.mem_append.1 hc with hc | hc
  · exact ⟨cmOk_path (T.aok c hc), by rw [hg]; exact T.at_a hc⟩
  · exact ⟨cmOk_path (T.safe_ok c hc), by rw [hg]; exact T.at_safe hc⟩
theorem pairTree_once {t : List Nd} {a b : List Cm} (h : pairFits t a b = true) : Once (a ++ safeL a b) := by
  obtain ⟨T, _⟩ := two_of h
  unfold Once
  rw [List.pairwise_append]
  exact ⟨T.ao, T.safe_once, fun c hc d hd => T.safe_path hd hc⟩
/-- The paths that have changed are those of the commands. -/
theorem pairTree_chg {t O : List Nd} {a b : List Cm} (h : pairTree t a b = some O) : (chgL t O).length = (a ++ safeL a b).length := by
  obtain ⟨hf, hO, hg⟩ := pairTree_some h
  obtain ⟨T, ht, _⟩ := two_of hf
  have ho := pairTree_once hf
  have hn1 := ascP_nodup (chg_asc (tree_asc ht) (tree_asc hO))
  have hn2 : ((a ++ safeL a b).map (·.path)).Nodup := by
    unfold List.Nodup; rw [List.pairwise_map]; exact ho
  have hp : (chgL t O).Perm ((a ++ safeL a b).map (·.path)) := by
    rw [List.perm_ext_iff_of_nodup hn1 hn2]
    intro p
    rw [chg_mem, List.mem_map]
    constructor
    · intro hne
      rw [hg] at hne
      rcases ovr_cases (ovr (get t) a) T.safe_once p with ⟨c, hc, e, _⟩ | ⟨_, e⟩
      · exact ⟨c, List.mem_append_right _ hc, e⟩
      · rw [e] at hne
        rcases ovr_cases (get t) T.ao p with ⟨c, hc, e2, _⟩ | ⟨_, e2⟩
        · exact ⟨c, List.mem_append_left _ hc, e2⟩
        · rw [e2] at hne; exact absurd rfl hne
    · rintro ⟨c, hc, rfl⟩
      rw [(pairTree_has h hc).2]
      rcases List.mem_append.1 hc with hc | hc
      · rw [T.af c hc]; exact cmOk_ne (T.aok c hc)
      · rw [T.bf c (safe_mem.1 hc).1]; exact cmOk_ne (T.safe_ok c hc)
  rw [hp.length_eq, List.length_map]
theorem pairFits_swap {t : List Nd} {a b : List Cm} (h : pairFits t a b = true) : pairFits t b a = true := by
  obtain ⟨h1, h2, h3, h4⟩ := pair_parts h
  unfold pairFits; rw [h1, h2, h3, h4]; rfl
/-- What is left of the other side breaks. -/
theorem pairTree_breaks {t O : List Nd} {a b : List Cm} (h : pairTree t a b = some O) {d : Cm} (hd : d ∈ leftL b a) : cmDo O d = false := by
  obtain ⟨hf, hO, hg⟩ := pairTree_some h
  obtain ⟨T, _⟩ := two_of hf
  exact T.breaks hO hg hd
/-- Both sides have the same exactly if there is no conflict. -/
theorem pair_same {t O R : List Nd} {a b : List Cm} (h : pairTree t a b = some O) (h2 : pairTree t b a = some R) : O = R ↔ ∀ c ∈ a, ∀ d ∈ b, clashB c d = false := by
  obtain ⟨hf, hO, hg⟩ := pairTree_some h
  obtain ⟨_, hR, hg2⟩ := pairTree_some h2
  obtain ⟨T, _⟩ := two_of hf
  constructor
  · rintro rfl c hc d hd
    exact T.no_clash (fun p => by rw [← hg, ← hg2]) hc hd
  · intro hn
    refine tree_ext hO hR (fun p => ?_)
    rw [hg, hg2]
    refine Classical.byContradiction fun hne => ?_
    obtain ⟨c, hc | hc, _⟩ := T.apart hne
    · obtain ⟨h3, h4⟩ := left_mem.1 hc
      obtain ⟨x, hx, hcl⟩ := disp_true.1 h4
      rw [hn c h3 x hx] at hcl; cases hcl
    · obtain ⟨h3, h4⟩ := left_mem.1 hc
      obtain ⟨x, hx, hcl⟩ := disp_true.1 h4
      rw [clash_comm, hn x hx c h3] at hcl; cases hcl
noncomputable def pairApart (t : List Nd) (a b : List Cm) : List Str :=
  match pairTree t a b, pairTree t b a with
  | some x, some y => treeChg x y
  | _, _ => []
theorem apart_some {t O R : List Nd} {a b : List Cm} (h : pairTree t a b = some O) (h2 : pairTree t b a = some R) : pairApart t a b = chgL O R := by
  have hO := (pairTree_some h).2.1
  have hR := (pairTree_some h2).2.1
  unfold pairApart; rw [h, h2]
  show treeChg O R = chgL O R
  unfold treeChg; rw [hO, hR]; rfl
theorem apart_none {t : List Nd} {a b : List Cm} (h : pairTree t a b = none ∨ pairTree t b a = none) : pairApart t a b = [] := by
  unfold pairApart
  rcases h with h | h <;> rw [h]
  cases pairTree t a b <;> rfl
theorem apart_comm (t : List Nd) (a b : List Cm) : pairApart t b a = pairApart t a b := by
  unfold pairApart
  cases pairTree t a b <;> cases pairTree t b a <;> try rfl
  exact treeChg_comm _ _
theorem apart_left {t : List Nd} {a b : List Cm} {p : Str} (h : p ∈ pairApart t a b) : ∃ c, (c ∈ leftL a b ∨ c ∈ leftL b a) ∧ c.path = p := by
  cases h1 : pairTree t a b with
  | none => rw [apart_none (.inl h1)] at h; cases h
  | some O =>
    cases h2 : pairTree t b a with
    | none => rw [apart_none (.inr h2)] at h; cases h
    | some R =>
      rw [apart_some h1 h2] at h
      obtain ⟨hf, hO, hg⟩ := pairTree_some h1
      obtain ⟨_, hR, hg2⟩ := pairTree_some h2
      obtain ⟨T, _⟩ := two_of hf
      exact T.apart (fun e => chg_mem.1 h (by rw [hg, hg2]; exact e))
theorem apart_fits {t : List Nd} {a b : List Cm} {p : Str} (h : p ∈ pairApart t a b) : pairFits t a b = true := by
  cases hf : pairFits t a b with
  | true => rfl
  | false => rw [apart_none (.inl (pairTree_no hf))] at h; cases h
/-- Conflicts are seen. -/
theorem apart_nil {t O R : List Nd} {a b : List Cm} (h : pairTree t a b = some O) (h2 : pairTree t b a = some R) : pairApart t a b = [] ↔ ∀ c ∈ a, ∀ d ∈ b, clashB c d = false := by
  rw [apart_some h h2, chg_nil (pairTree_some h).2.1 (pairTree_some h2).2.1, pair_same h h2]
noncomputable def resolveTree (t : List Nd) (a b : List Cm) (side : Int) : Option (List Nd) := if side = 1 then pairTree t a b else if side = 2 then pairTree t b a else none
theorem resolve_turn (t : List Nd) (a b : List Cm) (side : Int) : resolveTree t b a (3 - side) = resolveTree t a b side := by
  unfold resolveTree
  by_cases h1 : side = 1
  · rw [if_neg (by omega), if_pos (by omega), if_pos h1]
  · by_cases h2 : side = 2
    · rw [if_pos (by omega), if_neg h1, if_pos h2]
    · rw [if_neg (by omega), if_neg (by omega), if_neg h1, if_neg h2]
end Go.Proofs.YtjjmcdakmgeanaaGreatDoor
