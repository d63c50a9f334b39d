/-
  Two logs that fit a tree, in plain Lean: what is safe can be done if the nodes have place. No program in sight.
  The tree of a side, in plain Lean: what it holds, when both sides have the same. No program in sight.
  The common tree, in plain Lean: when it is there, what leads from it to the sides. No program in sight.
-/
import Derived.Test.YtjobbcdolbhadaaGreatDoorPlA

namespace Go.Proofs.YtjobbcdolbhadaaGreatDoor
set_option linter.unusedVariables false
set_option linter.unusedSimpArgs false
open Go Go.RowKit
set_option linter.unusedVariables false
set_option linter.unusedSimpArgs false

theorem full_of_fits {t : List Nd} {cs : List Cm} (h : logFits t cs = true) : treeOk t = true ∧ logOk cs = true ∧ (logGo t cs).2 = cs.length := by
  unfold logFits at h
  simp only [Bool.and_eq_true, decide_eq_true_eq] at h
  exact ⟨h.1.1, h.1.2, h.2⟩
theorem pair_parts {t : List Nd} {a b : List Cm} (h : pairFits t a b = true) : canonOk a = true ∧ canonOk b = true ∧ logFits t a = true ∧ logFits t b = true := by
  unfold pairFits at h
  simp only [Bool.and_eq_true] at h
  exact ⟨h.1.1.1, h.1.1.2, h.1.2, h.2⟩
theorem two_of {t : List Nd} {a b : List Cm} (h : pairFits t a b = true) : Two (get t) a b ∧ treeOk t = true ∧ (logGo t a).2 = a.length ∧ (logGo t b).2 = b.length := by
  obtain ⟨h1, h2, h3, h4⟩ := pair_parts h
  obtain ⟨_, ao, asr⟩ := canonOk_iff.1 h1
  obtain ⟨_, bo, bsr⟩ := canonOk_iff.1 h2
  obtain ⟨ht, _, fa⟩ := full_of_fits h3
  obtain ⟨_, _, fb⟩ := full_of_fits h4
  exact ⟨⟨tree_good ht, allOk_of_full fa, allOk_of_full fb, ao, bo, fits_of_full ao fa, fits_of_full bo fb, good_full ht ao fa, good_full ht bo fb⟩, ht, fa, fb⟩
/-- What is safe fits exactly if there is place for the nodes. -/
theorem safe_law {t : List Nd} {a b : List Cm} (h : pairFits t a b = true) : logFits (logGo t a).1 (safeL a b) = decide (((logGo t a).1.length : Int) + deltas (safeL a b) ≤ 10) := by
  obtain ⟨T, ht, fa, fb⟩ := two_of h
  have hb := (pair_parts h).2.1
  have hown := logGo_tree (cs := a) ht
  have hget : get (logGo t a).1 = ovr (get t) a := funext (get_full ht T.ao fa)
  have hs : Sorted (safeL a b) := (canonOk_iff.1 hb).2.2.sub (List.filter_sublist ..)
  have hf : Fits (get (logGo t a).1) (safeL a b) := by rw [hget]; exact T.safe_fits
  have hg : Good (ovr (get (logGo t a).1) (safeL a b)) := by rw [hget]; exact T.safe_good
  have hl : (safeL a b).length ≤ 20 := Nat.le_trans (List.length_filter_le ..) (logOk_parts (canonOk_iff.1 hb).1).1
  have hlk : logOk (safeL a b) = true := logOk_of T.safe_ok hl
  unfold logFits
  rw [hown, hlk, Bool.true_and, Bool.true_and, decide_eq_decide]
  constructor
  · intro hfull
    have h1 := runL_len (tree_clean hown) T.safe_ok T.safe_once hf
    have h2 := tree_len (logGo_tree (cs := safeL a b) hown)
    rw [logGo_full hfull] at h2
    omega
  · intro hle
    rw [canon_all hown T.safe_ok T.safe_once hf hs hg hle]
end Go.Proofs.YtjobbcdolbhadaaGreatDoor


namespace Go.Proofs.YtjobbcdolbhadaaGreatDoor
set_option linter.unusedVariables false
set_option linter.unusedSimpArgs false
open Go Go.RowKit
set_option linter.unusedVariables false
set_option linter.unusedSimpArgs false

theorem pairTree_no {t : List Nd} {a b : List Cm} (h : pairFits t a b = false) : pairTree t a b = none := by
  unfold pairTree; rw [if_neg (by rw [h]; simp)]
theorem pairTree_eq {t : List Nd} {a b : List Cm} (h : pairFits t a b = true) : pairTree t a b = if (logGo t (a ++ safeL a b)).2 = (a ++ safeL a b).length then some (logGo t (a ++ safeL a b)).1 else none := by
  obtain ⟨T, ht, fa, fb⟩ := two_of h
  unfold pairTree
  rw [if_pos h, logGo_append fa]
  simp only [List.length_append]
  by_cases e : (logGo (logGo t a).1 (safeL a b)).2 = (safeL a b).length
  · rw [if_pos e, if_pos (by omega)]
  · rw [if_neg e, if_neg (by omega)]
theorem pairTree_some {t O : List Nd} {a b : List Cm} (h : pairTree t a b = some O) : pairFits t a b = true ∧ treeOk O = true ∧ ∀ p, get O p = ovr (ovr (get t) a) (safeL a b) p := by
  cases hf : pairFits t a b
  · rw [pairTree_no hf] at h; cases h
  · obtain ⟨T, ht, fa, fb⟩ := two_of hf
    refine ⟨rfl, ?_⟩
    unfold pairTree at h
    rw [if_pos hf] at h
    by_cases e : (logGo (logGo t a).1 (safeL a b)).2 = (safeL a b).length
    · rw [if_pos e] at h
      obtain rfl := Option.some.inj h
      have hown := logGo_tree (cs := a) ht
      refine ⟨logGo_tree hown, fun p => ?_⟩
      rw [get_full hown T.safe_once e, show get (logGo t a).1 = ovr (get t) a from funext (get_full ht T.ao fa)]
    · rw [if_neg e] at h; cases h
/-- A side keeps what it has done, and has what is safe. -/
theorem pairTree_has {t O : List Nd} {a b : List Cm} (h : pairTree t a b = some O) {c : Cm} (hc : c ∈ a ++ safeL a b) : isPath c.path = true ∧ get O c.path = c.to := by
  obtain ⟨hf, hO, hg⟩ := pairTree_some h
  obtain ⟨T, _⟩ := two_of hf
  rcases List.mem_append.1 hc with hc | hc
  · exact ⟨cmOk_path (T.aok c hc), by rw [hg]; exact T.at_a hc⟩
  · exact ⟨cmOk_path (T.safe_ok c hc), by rw [hg]; exact T.at_safe hc⟩
theorem pairTree_once {t : List Nd} {a b : List Cm} (h : pairFits t a b = true) : Once (a ++ safeL a b) := by
  obtain ⟨T, _⟩ := two_of h
  unfold Once
  rw [List.pairwise_append]
  exact ⟨T.ao, T.safe_once, fun c hc d hd => T.safe_path hd hc⟩
/-- The paths that have changed are those of the commands. -/
theorem pairTree_chg {t O : List Nd} {a b : List Cm} (h : pairTree t a b = some O) : (chgL t O).length = (a ++ safeL a b).length := by
  obtain ⟨hf, hO, hg⟩ := pairTree_some h
  obtain ⟨T, ht, _⟩ := two_of hf
  have ho := pairTree_once hf
  have hn1 := ascP_nodup (chg_asc (tree_asc ht) (tree_asc hO))
  have hn2 : ((a ++ safeL a b).map (·.path)).Nodup := by
    unfold List.Nodup; rw [List.pairwise_map]; exact ho
  have hp : (chgL t O).Perm ((a ++ safeL a b).map (·.path)) := by
    rw [List.perm_ext_iff_of_nodup hn1 hn2]
    intro p
    rw [chg_mem, List.mem_map]
    constructor
    · intro hne
      rw [hg] at hne
      rcases ovr_cases (ovr (get t) a) T.safe_once p with ⟨c, hc, e, _⟩ | ⟨_, e⟩
      · exact ⟨c, List.mem_append_right _ hc, e⟩
      · rw [e] at hne
        rcases ovr_cases (get t) T.ao p with ⟨c, hc, e2, _⟩ | ⟨_, e2⟩
        · exact ⟨c, List.mem_append_left _ hc, e2⟩
        · rw [e2] at hne; exact absurd rfl hne
    · rintro ⟨c, hc, rfl⟩
      rw [(pairTree_has h hc).2]
      rcases List.mem_append.1 hc with hc | hc
      · rw [T.af c hc]; exact cmOk_ne (T.aok c hc)
      · rw [T.bf c (safe_mem.1 hc).1]; exact cmOk_ne (T.safe_ok c hc)
  rw [hp.length_eq, List.length_map]
theorem pairFits_swap {t : List Nd} {a b : List Cm} (h : pairFits t a b = true) : pairFits t b a = true := by
  obtain ⟨h1, h2, h3, h4⟩ := pair_parts h
  unfold pairFits; rw [h1, h2, h3, h4]; rfl
/-- What is left of the other side breaks. -/
theorem pairTree_breaks {t O : List Nd} {a b : List Cm} (h : pairTree t a b = some O) {d : Cm} (hd : d ∈ leftL b a) : cmDo O d = false := by
  obtain ⟨hf, hO, hg⟩ := pairTree_some h
  obtain ⟨T, _⟩ := two_of hf
  exact T.breaks hO hg hd
/-- Both sides have the same exactly if there is no conflict. -/
theorem pair_same {t O R : List Nd} {a b : List Cm} (h : pairTree t a b = some O) (h2 : pairTree t b a = some R) : O = R ↔ ∀ c ∈ a, ∀ d ∈ b, clashB c d = false := by
  obtain ⟨hf, hO, hg⟩ := pairTree_some h
  obtain ⟨_, hR, hg2⟩ := pairTree_some h2
  obtain ⟨T, _⟩ := two_of hf
  constructor
  · rintro rfl c hc d hd
    exact T.no_clash (fun p => by rw [← hg, ← hg2]) hc hd
  · intro hn
    refine tree_ext hO hR (fun p => ?_)
    rw [hg, hg2]
    refine Classical.byContradiction fun hne => ?_
    obtain ⟨c, hc | hc, _⟩ := T.apart hne
    · obtain ⟨h3, h4⟩ := left_mem.1 hc
      obtain ⟨x, hx, hcl⟩ := disp_true.1 h4
      rw [hn c h3 x hx] at hcl; cases hcl
    · obtain ⟨h3, h4⟩ := left_mem.1 hc
      obtain ⟨x, hx, hcl⟩ := disp_true.1 h4
      rw [clash_comm, hn x hx c h3] at hcl; cases hcl
noncomputable def pairApart (t : List Nd) (a b : List Cm) : List Str :=
  match pairTree t a b, pairTree t b a with
  | some x, some y => treeChg x y
  | _, _ => []
theorem apart_some {t O R : List Nd} {a b : List Cm} (h : pairTree t a b = some O) (h2 : pairTree t b a = some R) : pairApart t a b = chgL O R := by
  have hO := (pairTree_some h).2.1
  have hR := (pairTree_some h2).2.1
  unfold pairApart; rw [h, h2]
  show treeChg O R = chgL O R
  unfold treeChg; rw [hO, hR]; rfl
theorem apart_none {t : List Nd} {a b : List Cm} (h : pairTree t a b = none ∨ pairTree t b a = none) : pairApart t a b = [] := by
  unfold pairApart
  rcases h with h | h <;> rw [h]
  cases pairTree t a b <;> rfl
theorem apart_comm (t : List Nd) (a b : List Cm) : pairApart t b a = pairApart t a b := by
  unfold pairApart
  cases pairTree t a b <;> cases pairTree t b a <;> try rfl
  exact treeChg_comm _ _
theorem apart_left {t : List Nd} {a b : List Cm} {p : Str} (h : p ∈ pairApart t a b) : ∃ c, (c ∈ leftL a b ∨ c ∈ leftL b a) ∧ c.path = p := by
  cases h1 : pairTree t a b with
  | none => rw [apart_none (.inl h1)] at h; cases h
  | some O =>
    cases h2 : pairTree t b a with
    | none => rw [apart_none (.inr h2)] at h; cases h
    | some R =>
      rw [apart_some h1 h2] at h
      obtain ⟨hf, hO, hg⟩ := pairTree_some h1
      obtain ⟨_, hR, hg2⟩ := pairTree_some h2
      obtain ⟨T, _⟩ := two_of hf
      exact T.apart (fun e => chg_mem.1 h (by rw [hg, hg2]; exact e))
theorem apart_fits {t : List Nd} {a b : List Cm} {p : Str} (h : p ∈ pairApart t a b) : pairFits t a b = true := by
  cases hf : pairFits t a b with
  | true => rfl
  | false => rw [apart_none (.inl (pairTree_no hf))] at h; cases h
/-- Conflicts are seen. -/
theorem apart_nil {t O R : List Nd} {a b : List Cm} (h : pairTree t a b = some O) (h2 : pairTree t b a = some R) : pairApart t a b = [] ↔ ∀ c ∈ a, ∀ d ∈ b, clashB c d = false := by
  rw [apart_some h h2, chg_nil (pairTree_some h).2.1 (pairTree_some h2).2.1, pair_same h h2]
noncomputable def resolveTree (t : List Nd) (a b : List Cm) (side : Int) : Option (List Nd) := if side = 1 then pairTree t a b else if side = 2 then pairTree t b a else none
theorem resolve_turn (t : List Nd) (a b : List Cm) (side : Int) : resolveTree t b a (3 - side) = resolveTree t a b side := by
  unfold resolveTree
  by_cases h1 : side = 1
  · rw [if_neg (by omega), if_pos (by omega), if_pos h1]
  · by_cases h2 : side = 2
    · rw [if_pos (by omega), if_neg h1, if_pos h2]
    · rw [if_neg (by omega), if_neg (by omega), if_neg h1, if_neg h2]
end Go.Proofs.YtjobbcdolbhadaaGreatDoor


namespace Go.Proofs.YtjobbcdolbhadaaGreatDoor
set_option linter.unusedVariables false
set_option linter.unusedSimpArgs false
open Go Go.RowKit
set_option linter.unusedVariables false
set_option linter.unusedSimpArgs false

/-- A sorted log that fits leads to the tree that has its contents. -/
theorem lead_to {t O : List Nd} {cs : List Cm} (ht : treeOk t = true) (ha : AllOk cs) (ho : Once cs) (hf : Fits (get t) cs) (hs : Sorted cs) (hO : treeOk O = true) (hg : ∀ p, get O p = ovr (get t) cs p) : logGo t cs = (O, cs.length) := by
  have e : runL t cs = O := (runL_clean (tree_clean ht) ha).ext (tree_clean hO) (fun p => by rw [runL_get (tree_clean ht) ha ho, hg])
  have hl := runL_len (tree_clean ht) ha ho hf
  have h10 := tree_len hO
  rw [e] at hl
  have hgd : Good (ovr (get t) cs) := by rw [← show get O = ovr (get t) cs from funext hg]; exact tree_good hO
  rw [canon_all ht ha ho hf hs hgd (by omega), e]
theorem pairBase_no {t : List Nd} {a b : List Cm} (h : pairFits t a b = false) : pairBase t a b = none := by
  unfold pairBase; rw [if_neg (by rw [h]; simp)]
theorem pairBase_eq {t : List Nd} {a b : List Cm} (h : pairFits t a b = true) : pairBase t a b = if (keptL a b).length ≤ 20 ∧ (logGo t (keptL a b)).2 = (keptL a b).length then some (logGo t (keptL a b)).1 else none := by
  unfold pairBase; rw [if_pos h]
theorem pairBase_some {t B : List Nd} {a b : List Cm} (h : pairBase t a b = some B) : pairFits t a b = true ∧ treeOk B = true ∧ (keptL a b).length ≤ 20 ∧ (logGo t (keptL a b)).2 = (keptL a b).length ∧ ∀ p, get B p = ovr (get t) (keptL a b) p := by
  cases hf : pairFits t a b
  · rw [pairBase_no hf] at h; cases h
  · obtain ⟨T, ht, fa, fb⟩ := two_of hf
    rw [pairBase_eq hf] at h
    by_cases e : (keptL a b).length ≤ 20 ∧ (logGo t (keptL a b)).2 = (keptL a b).length
    · rw [if_pos e] at h
      obtain rfl := Option.some.inj h
      exact ⟨rfl, logGo_tree ht, e.1, e.2, get_full ht T.kept_once e.2⟩
    · rw [if_neg e] at h; cases h
theorem keptL_len (a b : List Cm) : (keptL a b).length = (safeL a b).length + (a.filter (fun c => !dispB c b)).length := by
  unfold keptL keptRaw; rw [sortC_len, List.length_append]
theorem pairBase_comm (t : List Nd) (a b : List Cm) : pairBase t b a = pairBase t a b := by
  cases h : pairFits t a b with
  | false =>
    have h2 : pairFits t b a = false := by
      cases h2 : pairFits t b a with
      | false => rfl
      | true => rw [pairFits_swap h2] at h; cases h
    rw [pairBase_no h, pairBase_no h2]
  | true =>
    obtain ⟨T, _⟩ := two_of h
    rw [pairBase_eq h, pairBase_eq (pairFits_swap h), T.kept_comm]
/-- Without conflicts the common tree is that of both sides. -/
theorem base_same {t O : List Nd} {a b : List Cm} (h : pairTree t a b = some O) (hn : ∀ c ∈ a, ∀ d ∈ b, clashB c d = false) : pairBase t a b = some O := by
  obtain ⟨hf, hO, hg⟩ := pairTree_some h
  obtain ⟨T, ht, fa, fb⟩ := two_of hf
  have hl0 : leftL a b = [] := List.eq_nil_iff_forall_not_mem.2 (fun c hc => by
    obtain ⟨h1, h2⟩ := left_mem.1 hc
    obtain ⟨x, hx, hcl⟩ := disp_true.1 h2
    rw [hn c h1 x hx] at hcl; cases hcl)
  have hgk : ∀ p, get O p = ovr (get t) (keptL a b) p := fun p => by rw [hg, T.left_over p, hl0]; rfl
  have hfull := lead_to ht T.kept_ok T.kept_once T.kept_fits T.kept_sorted hO hgk
  have hlen : (keptL a b).length ≤ 20 := by
    have h1 := pairTree_chg h
    have h2 := chg_len ht hO
    have h3 : (a.filter (fun c => !dispB c b)).length ≤ a.length := List.length_filter_le ..
    rw [keptL_len]
    rw [List.length_append] at h1
    omega
  rw [pairBase_eq hf, hfull, if_pos ⟨hlen, rfl⟩]
/-- What is left leads from the common tree to that of the side. -/
theorem base_left {t O B : List Nd} {a b : List Cm} (h : pairTree t a b = some O) (h2 : pairBase t a b = some B) : logGo B (leftL a b) = (O, (leftL a b).length) ∧ logOk (leftL a b) = true := by
  obtain ⟨hf, hO, hg⟩ := pairTree_some h
  obtain ⟨_, hB, _, _, hgB⟩ := pairBase_some h2
  obtain ⟨T, ht, fa, fb⟩ := two_of hf
  obtain ⟨hc1, _, _, _⟩ := pair_parts hf
  obtain ⟨lk, _, hs⟩ := canonOk_iff.1 hc1
  have e : get B = ovr (get t) (keptL a b) := funext hgB
  have hsub : List.Sublist (leftL a b) a := List.filter_sublist ..
  have hok : AllOk (leftL a b) := fun c hc => T.aok c (left_mem.1 hc).1
  refine ⟨lead_to hB hok (T.ao.sub hsub) (by rw [e]; exact T.left_fits) (hs.sub hsub) hO (fun p => by rw [hg, e]; exact T.left_over p), logOk_of hok ?_⟩
  have := (logOk_parts lk).1
  have := hsub.length_le
  omega
theorem left_canon {a b : List Cm} (h : canonOk a = true) : canonOk (leftL a b) = true := by
  obtain ⟨lk, ho, hs⟩ := canonOk_iff.1 h
  have hsub : List.Sublist (leftL a b) a := List.filter_sublist ..
  refine canonOk_true ⟨logOk_of (fun c hc => (logOk_parts lk).2 c (left_mem.1 hc).1) ?_, ho.sub hsub, hs.sub hsub⟩
  have := (logOk_parts lk).1
  have := hsub.length_le
  omega
theorem left_disp {a b : List Cm} {c : Cm} (hc : c ∈ leftL a b) : dispB c (leftL b a) = true := by
  obtain ⟨h1, h2⟩ := left_mem.1 hc
  obtain ⟨x, hx, hcl⟩ := disp_true.1 h2
  exact disp_true.2 ⟨x, left_mem.2 ⟨hx, disp_true.2 ⟨c, h1, by rw [clash_comm]; exact hcl⟩⟩, hcl⟩
/-- Of what is left nothing is safe. -/
theorem left_safe (a b : List Cm) : safeL (leftL a b) (leftL b a) = [] := List.eq_nil_iff_forall_not_mem.2 (fun d hd => by
  obtain ⟨h1, _, h3⟩ := safe_mem.1 hd
  rw [left_disp h1] at h3; cases h3)
theorem left_kept (a b : List Cm) : keptL (leftL a b) (leftL b a) = [] := by
  have e : (leftL a b).filter (fun c => !dispB c (leftL b a)) = [] := List.filter_eq_nil_iff.2 (fun c hc => by rw [left_disp hc]; simp)
  unfold keptL keptRaw
  rw [left_safe, e]; rfl
theorem base_again {t B : List Nd} {a b : List Cm} (h : pairBase t (leftL a b) (leftL b a) = some B) : B = t := by
  obtain ⟨hf, _⟩ := pairBase_some h
  rw [pairBase_eq hf, left_kept] at h
  rw [if_pos ⟨by simp, by simp [logGo]⟩] at h
  simpa [logGo] using h.symm
/-- The commands of the common log, as the law lists them. -/
theorem base_parts {t : List Nd} {a b : List Cm} (h : pairFits t a b = true) (c : Cm) : c ∈ safeL a b ++ safeL b a ++ agreeL a b ↔ c ∈ keptL a b := by
  obtain ⟨T, _⟩ := two_of h
  rw [T.kept_mem, List.mem_append, List.mem_append, safe_mem, safe_mem, agree_mem]
  constructor
  · rintro ((⟨h1, _, h3⟩ | ⟨h1, _, h3⟩) | ⟨h1, _, h3⟩)
    · exact .inr ⟨h1, h3⟩
    · exact .inl ⟨h1, h3⟩
    · exact .inr ⟨h1, h3⟩
  · rintro (⟨h1, h3⟩ | ⟨h1, h3⟩)
    · by_cases e : c ∈ b
      · exact .inr ⟨e, h1, (T.both h1 e).1⟩
      · exact .inl (.inr ⟨h1, e, h3⟩)
    · by_cases e : c ∈ a
      · exact .inr ⟨h1, e, h3⟩
      · exact .inl (.inl ⟨h1, e, h3⟩)
theorem base_has {t B : List Nd} {a b : List Cm} (h : pairBase t a b = some B) {c : Cm} (hc : c ∈ keptL a b) : isPath c.path = true ∧ get B c.path = c.to := by
  obtain ⟨hf, _, _, _, hg⟩ := pairBase_some h
  obtain ⟨T, _⟩ := two_of hf
  exact ⟨cmOk_path (T.kept_ok c hc), by rw [hg, ovr_mem T.kept_once hc]⟩
theorem base_once {t : List Nd} {a b : List Cm} (h : pairFits t a b = true) : Once (safeL a b ++ safeL b a ++ agreeL a b) := by
  obtain ⟨T, _⟩ := two_of h
  refine once_of_inj ?_ (fun c hc d hd e => T.kept_once.inj ((base_parts h c).1 hc) ((base_parts h d).1 hd) e)
  rw [List.nodup_append, List.nodup_append]
  refine ⟨⟨once_mem T.safe_once, once_mem T.swap.safe_once, fun x hx y hy e => ?_⟩, once_mem (T.bo.sub (List.filter_sublist ..)), fun x hx y hy e => ?_⟩
  · subst e
    exact (safe_mem.1 hx).2.1 (safe_mem.1 hy).1
  · subst e
    obtain ⟨h1, h2, _⟩ := agree_mem.1 hy
    rcases List.mem_append.1 hx with hx | hx
    · exact (safe_mem.1 hx).2.1 h2
    · exact (safe_mem.1 hx).2.1 h1
/-- The paths that have changed are those of the commands. -/
theorem base_chg {t B : List Nd} {a b : List Cm} (h : pairBase t a b = some B) : (chgL t B).length = (safeL a b ++ safeL b a ++ agreeL a b).length := by
  obtain ⟨hf, hB, _, _, hg⟩ := pairBase_some h
  obtain ⟨T, ht, _⟩ := two_of hf
  have ho := base_once hf
  have hn1 := ascP_nodup (chg_asc (tree_asc ht) (tree_asc hB))
  have hn2 : ((safeL a b ++ safeL b a ++ agreeL a b).map (·.path)).Nodup := by
    unfold List.Nodup; rw [List.pairwise_map]; exact ho
  have hp : (chgL t B).Perm ((safeL a b ++ safeL b a ++ agreeL a b).map (·.path)) := by
    rw [List.perm_ext_iff_of_nodup hn1 hn2]
    intro p
    rw [chg_mem, List.mem_map]
    constructor
    · intro hne
      rw [hg] at hne
      rcases ovr_cases (get t) T.kept_once p with ⟨c, hc, e, _⟩ | ⟨_, e⟩
      · exact ⟨c, (base_parts hf c).2 hc, e⟩
      · rw [e] at hne; exact absurd rfl hne
    · rintro ⟨c, hc, rfl⟩
      have hk := (base_parts hf c).1 hc
      rw [(base_has h hk).2, T.kept_fits c hk]
      exact cmOk_ne (T.kept_ok c hk)
  rw [hp.length_eq, List.length_map]
/-- Steps: what leads from the tree of one side to that of another. -/
noncomputable def resolveSteps (t : List Nd) (a b : List Cm) (s s2 : Int) : Option (List Cm) :=
  match resolveTree t a b s2, resolveTree t a b s with
  | some x, some y => canonDiff x y
  | _, _ => none
theorem resolve_ok {t O : List Nd} {a b : List Cm} {s : Int} (h : resolveTree t a b s = some O) : treeOk O = true := by
  unfold resolveTree at h
  split at h
  · exact (pairTree_some h).2.1
  · split at h
    · exact (pairTree_some h).2.1
    · cases h
theorem resolve_side {t O : List Nd} {a b : List Cm} {s : Int} (h : resolveTree t a b s = some O) : (s = 1 ∧ pairTree t a b = some O) ∨ (s = 2 ∧ pairTree t b a = some O) := by
  unfold resolveTree at h
  split at h
  · exact .inl ⟨by assumption, h⟩
  · split at h
    · exact .inr ⟨by assumption, h⟩
    · cases h
theorem steps_some {t : List Nd} {a b cs : List Cm} {s s2 : Int} (h : resolveSteps t a b s s2 = some cs) : ∃ x y, resolveTree t a b s2 = some x ∧ resolveTree t a b s = some y ∧ cs = diffL x y := by
  unfold resolveSteps at h
  cases h1 : resolveTree t a b s2 with
  | none => rw [h1] at h; cases h
  | some x =>
    cases h2 : resolveTree t a b s with
    | none => rw [h1, h2] at h; cases h
    | some y =>
      rw [h1, h2] at h
      have hx := resolve_ok h1
      have hy := resolve_ok h2
      have e : canonDiff x y = some (diffL x y) := by unfold canonDiff; rw [hx, hy]; rfl
      have h3 : canonDiff x y = some cs := h
      rw [e] at h3
      exact ⟨x, y, rfl, rfl, (Option.some.inj h3).symm⟩
theorem steps_no {t : List Nd} {a b : List Cm} {s s2 : Int} (h : resolveTree t a b s2 = none ∨ resolveTree t a b s = none) : resolveSteps t a b s s2 = none := by
  unfold resolveSteps
  rcases h with h | h <;> rw [h]
  cases resolveTree t a b s2 <;> rfl
theorem steps_yes {t x y : List Nd} {a b : List Cm} {s s2 : Int} (h : resolveTree t a b s2 = some x) (h2 : resolveTree t a b s = some y) : resolveSteps t a b s s2 = some (diffL x y) := by
  unfold resolveSteps; rw [h, h2]
  show canonDiff x y = _
  unfold canonDiff; rw [resolve_ok h, resolve_ok h2]; rfl
/-- Who wins has nothing to do; without conflicts nobody has. -/
theorem steps_none {t x y : List Nd} {a b : List Cm} {s s2 : Int} (h : resolveTree t a b s2 = some x) (h2 : resolveTree t a b s = some y) (hn : s = s2 ∨ ∀ c ∈ a, ∀ d ∈ b, clashB c d = false) : diffL x y = [] := by
  have e : x = y := by
    rcases hn with rfl | hn
    · rw [h] at h2; exact Option.some.inj h2
    · rcases resolve_side h with ⟨_, h3⟩ | ⟨_, h3⟩ <;> rcases resolve_side h2 with ⟨_, h4⟩ | ⟨_, h4⟩
      · rw [h3] at h4; exact Option.some.inj h4
      · exact (pair_same h3 h4).2 hn
      · exact ((pair_same h4 h3).2 hn).symm
      · rw [h3] at h4; exact Option.some.inj h4
  rw [e]; exact diff_self y
end Go.Proofs.YtjobbcdolbhadaaGreatDoor
