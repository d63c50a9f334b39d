/-
  Canonical logs of logs that fit a tree, and of two trees: they are one. Undoing. No program in sight.
-/
import Derived.Test.YtnemajefpgicgaaDoorCanonLaw
namespace Go.Proofs.YtnemajefpgicgaaDoor
open Go Go.RowKit
set_option linter.unusedVariables false
set_option linter.unusedSimpArgs false

/-! ### The paths of two trees -/
def mergeP : List Nd → List Nd → List Str
  | [], ys => ys.map (·.path)
  | xs, [] => xs.map (·.path)
  | x :: xs, y :: ys => if Op.bytesLess x.path y.path then x.path :: mergeP xs (y :: ys) else if Op.bytesLess y.path x.path then y.path :: mergeP (x :: xs) ys else x.path :: mergeP xs ys
termination_by xs ys => xs.length + ys.length
theorem mergeP_nil (ys : List Nd) : mergeP [] ys = ys.map (·.path) := by unfold mergeP; rfl
theorem mergeP_nil' (xs : List Nd) : mergeP xs [] = xs.map (·.path) := by
  cases xs with
  | nil => unfold mergeP; rfl
  | cons x r => unfold mergeP; rfl
theorem mergeP_cons (x y : Nd) (xs ys : List Nd) : mergeP (x :: xs) (y :: ys) = if Op.bytesLess x.path y.path then x.path :: mergeP xs (y :: ys) else if Op.bytesLess y.path x.path then y.path :: mergeP (x :: xs) ys else x.path :: mergeP xs ys := by
  conv => lhs; unfold mergeP
theorem less_eq {a b : Str} (h : Op.bytesLess a b = false) (h2 : Op.bytesLess b a = false) : a = b := Classical.byContradiction fun e => by
  rcases bytesLess_total e with h3 | h3
  · rw [h] at h3; cases h3
  · rw [h2] at h3; cases h3
theorem mergeP_mem (p : Str) : ∀ (n : Nat) (xs ys : List Nd), xs.length + ys.length ≤ n → (p ∈ mergeP xs ys ↔ (∃ m ∈ xs, m.path = p) ∨ ∃ m ∈ ys, m.path = p)
  | n, [], ys, _ => by rw [mergeP_nil, List.mem_map]; simp
  | n, x :: xs, [], _ => by rw [mergeP_nil', List.mem_map]; simp
  | 0, x :: xs, y :: ys, h => by simp at h
  | n + 1, x :: xs, y :: ys, h => by
    simp only [List.length_cons] at h
    have i1 := mergeP_mem p n xs (y :: ys) (by simp; omega)
    have i2 := mergeP_mem p n (x :: xs) ys (by simp; omega)
    have i3 := mergeP_mem p n xs ys (by omega)
    rw [mergeP_cons]
    simp only [List.mem_cons, exists_eq_or_imp] at i1 i2 ⊢
    split
    · simp only [List.mem_cons, i1]
      constructor
      · rintro (h | h | h | h)
        · exact .inl (.inl h.symm)
        · exact .inl (.inr h)
        · exact .inr (.inl h)
        · exact .inr (.inr h)
      · rintro ((h | h) | h | h)
        · exact .inl h.symm
        · exact .inr (.inl h)
        · exact .inr (.inr (.inl h))
        · exact .inr (.inr (.inr h))
    · rename_i h1
      split
      · simp only [List.mem_cons, i2]
        constructor
        · rintro (h | (h | h) | h)
          · exact .inr (.inl h.symm)
          · exact .inl (.inl h)
          · exact .inl (.inr h)
          · exact .inr (.inr h)
        · rintro ((h | h) | h | h)
          · exact .inr (.inl (.inl h))
          · exact .inr (.inl (.inr h))
          · exact .inl h.symm
          · exact .inr (.inr h)
      · rename_i h2
        have e := less_eq (by simpa using h1) (by simpa using h2)
        simp only [List.mem_cons, i3]
        constructor
        · rintro (h | h | h)
          · exact .inl (.inl h.symm)
          · exact .inl (.inr h)
          · exact .inr (.inr h)
        · rintro ((h | h) | h | h)
          · exact .inl h.symm
          · exact .inr (.inl h)
          · exact .inl (by rw [e]; exact h.symm)
          · exact .inr (.inr h)
def AscP (ps : List Str) : Prop := ps.Pairwise (fun a b => Op.bytesLess a b = true)
theorem mergeP_asc : ∀ (n : Nat) (xs ys : List Nd), xs.length + ys.length ≤ n → Asc xs → Asc ys → AscP (mergeP xs ys)
  | n, [], ys, _, _, h => by rw [mergeP_nil]; unfold AscP; rw [List.pairwise_map]; exact h
  | n, x :: xs, [], _, h, _ => by rw [mergeP_nil']; unfold AscP; rw [List.pairwise_map]; exact h
  | 0, x :: xs, y :: ys, h, _, _ => by simp at h
  | n + 1, x :: xs, y :: ys, h, hx, hy => by
    simp only [List.length_cons] at h
    have hx2 := asc_cons hx
    have hy2 := asc_cons hy
    rw [mergeP_cons]
    split
    · rename_i h1
      unfold AscP; rw [List.pairwise_cons]
      refine ⟨fun p hp => ?_, mergeP_asc n xs (y :: ys) (by simp; omega) hx2.2 hy⟩
      rcases (mergeP_mem p _ _ _ (Nat.le_refl _)).1 hp with ⟨m, hm, rfl⟩ | ⟨m, hm, rfl⟩
      · exact hx2.1 m hm
      · rcases List.mem_cons.1 hm with rfl | hm
        · exact h1
        · exact bytesLess_trans h1 (hy2.1 m hm)
    · rename_i h1
      split
      · rename_i h2
        unfold AscP; rw [List.pairwise_cons]
        refine ⟨fun p hp => ?_, mergeP_asc n (x :: xs) ys (by simp; omega) hx hy2.2⟩
        rcases (mergeP_mem p _ _ _ (Nat.le_refl _)).1 hp with ⟨m, hm, rfl⟩ | ⟨m, hm, rfl⟩
        · rcases List.mem_cons.1 hm with rfl | hm
          · exact h2
          · exact bytesLess_trans h2 (hx2.1 m hm)
        · exact hy2.1 m hm
      · rename_i h2
        have e := less_eq (by simpa using h1) (by simpa using h2)
        unfold AscP; rw [List.pairwise_cons]
        refine ⟨fun p hp => ?_, mergeP_asc n xs ys (by omega) hx2.2 hy2.2⟩
        rcases (mergeP_mem p _ _ _ (Nat.le_refl _)).1 hp with ⟨m, hm, rfl⟩ | ⟨m, hm, rfl⟩
        · exact hx2.1 m hm
        · rw [e]; exact hy2.1 m hm
theorem mergeP_len : ∀ (n : Nat) (xs ys : List Nd), xs.length + ys.length ≤ n → (mergeP xs ys).length ≤ xs.length + ys.length
  | n, [], ys, _ => by rw [mergeP_nil]; simp
  | n, x :: xs, [], _ => by rw [mergeP_nil']; simp
  | 0, x :: xs, y :: ys, h => by simp at h
  | n + 1, x :: xs, y :: ys, h => by
    simp only [List.length_cons] at h
    have i1 := mergeP_len n xs (y :: ys) (by simp; omega)
    have i2 := mergeP_len n (x :: xs) ys (by simp; omega)
    have i3 := mergeP_len n xs ys (by omega)
    rw [mergeP_cons]
    simp only [List.length_cons] at *
    split
    · simp; omega
    · split <;> simp <;> omega
/-- The paths whose contents differ. -/
def chgL (xs ys : List Nd) : List Str := (mergeP xs ys).filter (fun p => !decide (get xs p = get ys p))
noncomputable def treeChg (xs ys : List Nd) : List Str := if treeOk xs && treeOk ys then chgL xs ys else []
theorem get_none_of {xs : List Nd} {p : Str} (hp : ¬ p = [47]) (h : ∀ m ∈ xs, ¬ m.path = p) : get xs p = none0 := by
  rw [get_not_root hp, find_none_iff.2 h]; rfl
theorem chg_mem {xs ys : List Nd} {p : Str} : p ∈ chgL xs ys ↔ ¬ get xs p = get ys p := by
  unfold chgL
  rw [List.mem_filter, mergeP_mem p _ _ _ (Nat.le_refl _)]
  simp only [Bool.not_eq_true', decide_eq_false_iff_not, and_iff_right_iff_imp]
  intro h
  refine Classical.byContradiction fun hn => h ?_
  by_cases hr : p = [47]
  · subst hr; rw [get_root, get_root]
  · rw [get_none_of hr (fun m hm e => hn (.inl ⟨m, hm, e⟩)), get_none_of hr (fun m hm e => hn (.inr ⟨m, hm, e⟩))]
theorem chg_asc {xs ys : List Nd} (hx : Asc xs) (hy : Asc ys) : AscP (chgL xs ys) := by
  have := mergeP_asc _ _ _ (Nat.le_refl _) hx hy
  unfold AscP at *; exact this.filter _
theorem chg_len {xs ys : List Nd} (hx : treeOk xs = true) (hy : treeOk ys = true) : (chgL xs ys).length ≤ 20 := by
  have h1 := tree_len hx
  have h2 := tree_len hy
  have h3 := mergeP_len _ xs ys (Nat.le_refl _)
  have h4 : (chgL xs ys).length ≤ (mergeP xs ys).length := List.length_filter_le ..
  omega
theorem ascP_nodup {ps : List Str} (h : AscP ps) : ps.Nodup := h.imp (fun h e => by rw [e, bytesLess_irrefl] at h; cases h)
theorem ascP_ext {ps qs : List Str} (h : AscP ps) (h2 : AscP qs) (e : ∀ p, p ∈ ps ↔ p ∈ qs) : ps = qs :=
  sorted_ext (α := Str) (lt := fun a b => Op.bytesLess a b = true) (fun a e => by rw [bytesLess_irrefl] at e; cases e) (fun a b e1 e2 => by rw [bytesLess_asymm e1] at e2; cases e2) h h2 e
theorem chg_comm {xs ys : List Nd} (hx : Asc xs) (hy : Asc ys) : chgL xs ys = chgL ys xs :=
  ascP_ext (chg_asc hx hy) (chg_asc hy hx) (fun p => by rw [chg_mem, chg_mem]; exact ⟨fun h e => h e.symm, fun h e => h e.symm⟩)
theorem treeChg_comm (xs ys : List Nd) : treeChg xs ys = treeChg ys xs := by
  unfold treeChg
  rw [Bool.and_comm]
  split
  · rename_i h
    simp only [Bool.and_eq_true] at h
    exact chg_comm (tree_asc h.2) (tree_asc h.1)
  · rfl
theorem chg_nil {xs ys : List Nd} (hx : treeOk xs = true) (hy : treeOk ys = true) : chgL xs ys = [] ↔ xs = ys := by
  constructor
  · intro h
    refine tree_ext hx hy (fun p => Classical.byContradiction fun hn => ?_)
    have := chg_mem.2 hn
    rw [h] at this; simp at this
  · rintro rfl
    refine List.eq_nil_iff_forall_not_mem.2 (fun p hp => ?_)
    exact chg_mem.1 hp rfl

/-! ### The difference of two trees -/
def diffRaw (xs ys : List Nd) : List Cm := (chgL xs ys).map (fun p => ⟨p, get xs p, get ys p⟩)
def diffL (xs ys : List Nd) : List Cm := sortC (diffRaw xs ys)
noncomputable def canonDiff (xs ys : List Nd) : Option (List Cm) := if treeOk xs && treeOk ys then some (diffL xs ys) else none
theorem diffRaw_mem {xs ys : List Nd} {c : Cm} : c ∈ diffRaw xs ys ↔ c.fr = get xs c.path ∧ c.to = get ys c.path ∧ ¬ c.fr = c.to := by
  unfold diffRaw
  rw [List.mem_map]
  constructor
  · rintro ⟨p, hp, rfl⟩; exact ⟨rfl, rfl, chg_mem.1 hp⟩
  · rintro ⟨h1, h2, h3⟩
    refine ⟨c.path, chg_mem.2 (by rw [← h1, ← h2]; exact h3), ?_⟩
    cases c; simp at *; exact ⟨h1.symm, h2.symm⟩
theorem diffRaw_once {xs ys : List Nd} (hx : Asc xs) (hy : Asc ys) : Once (diffRaw xs ys) := by
  have := ascP_nodup (chg_asc hx hy)
  unfold Once diffRaw
  rw [List.pairwise_map]
  exact this
theorem diffL_mem {xs ys : List Nd} {c : Cm} : c ∈ diffL xs ys ↔ c.fr = get xs c.path ∧ c.to = get ys c.path ∧ ¬ c.fr = c.to := by
  unfold diffL; rw [sortC_mem, diffRaw_mem]
theorem cmOk_of {c : Cm} (hp : isPath c.path = true) (hr : ¬ c.path = [47]) (h1 : contOk c.fr = true) (h2 : contOk c.to = true) (hn : ¬ c.fr = c.to) : cmOk c = true := by
  have h3 : decide (c.fr.kind = c.to.kind ∧ c.fr.value = c.to.value) = false := decide_eq_false (fun e => hn (by
    obtain ⟨p, ⟨a, b⟩, ⟨c, d⟩⟩ := c; simp at e; simp [e]))
  unfold cmOk; simp [hp, hr, h1, h2, h3]
theorem diff_allOk {xs ys : List Nd} (hx : treeOk xs = true) (hy : treeOk ys = true) : AllOk (diffL xs ys) := fun c hc => by
  obtain ⟨h1, h2, h3⟩ := diffL_mem.1 hc
  have gx := tree_good hx
  have gy := tree_good hy
  have hr : ¬ c.path = [47] := fun e => h3 (by rw [h1, h2, e, get_root, get_root])
  refine cmOk_of ?_ hr (by rw [h1]; exact gx.ok _) (by rw [h2]; exact gy.ok _) h3
  by_cases hk : (get xs c.path).kind = 0
  · have hk2 : ¬ (get ys c.path).kind = 0 := fun hk2 => h3 (by rw [h1, h2, contOk_none (gx.ok _) hk, contOk_none (gy.ok _) hk2])
    exact gy.path hk2
  · exact gx.path hk
theorem diff_len {xs ys : List Nd} (hx : treeOk xs = true) (hy : treeOk ys = true) : (diffL xs ys).length = (chgL xs ys).length := by
  unfold diffL; rw [sortC_len]; unfold diffRaw; rw [List.length_map]
theorem logOk_of {cs : List Cm} (h : AllOk cs) (hl : cs.length ≤ 20) : logOk cs = true := by
  unfold logOk; rw [decide_eq_true hl, Bool.true_and, List.all_eq_true]; exact h
theorem logOk_parts {cs : List Cm} (h : logOk cs = true) : cs.length ≤ 20 ∧ AllOk cs := by
  unfold logOk at h
  simp only [Bool.and_eq_true, decide_eq_true_eq, List.all_eq_true] at h
  exact h
/-- Canonical: valid, each path once, in order. -/
def CanonOk (cs : List Cm) : Prop := logOk cs = true ∧ Once cs ∧ Sorted cs
noncomputable instance (cs : List Cm) : Decidable (CanonOk cs) := Classical.propDecidable _
noncomputable def canonOk (cs : List Cm) : Bool := decide (CanonOk cs)
theorem canonOk_iff {cs : List Cm} : canonOk cs = true ↔ CanonOk cs := by unfold canonOk; exact decide_eq_true_iff
theorem canonOk_true {cs : List Cm} (h : CanonOk cs) : canonOk cs = true := decide_eq_true h
theorem canonOk_false {cs : List Cm} (h : ¬ CanonOk cs) : canonOk cs = false := decide_eq_false h
theorem diff_once {xs ys : List Nd} (hx : treeOk xs = true) (hy : treeOk ys = true) : Once (diffL xs ys) := sortC_once (diffRaw_once (tree_asc hx) (tree_asc hy))
theorem diff_sorted {xs ys : List Nd} (hx : treeOk xs = true) (hy : treeOk ys = true) : Sorted (diffL xs ys) := sortC_sorted (diffRaw_once (tree_asc hx) (tree_asc hy))
theorem diff_canon {xs ys : List Nd} (hx : treeOk xs = true) (hy : treeOk ys = true) : canonOk (diffL xs ys) = true :=
  canonOk_true ⟨logOk_of (diff_allOk hx hy) (by rw [diff_len hx hy]; exact chg_len hx hy), diff_once hx hy, diff_sorted hx hy⟩
theorem diff_over {xs ys : List Nd} (hx : treeOk xs = true) (hy : treeOk ys = true) (p : Str) : get ys p = ovr (get xs) (diffL xs ys) p := by
  rcases ovr_cases (get xs) (diff_once hx hy) p with ⟨c, hc, rfl, e⟩ | ⟨hn, e⟩
  · rw [e]; exact (diffL_mem.1 hc).2.1.symm
  · rw [e]
    exact Classical.byContradiction fun h => hn ⟨p, get xs p, get ys p⟩ (diffL_mem.2 ⟨rfl, rfl, fun h2 => h h2.symm⟩) rfl
theorem diff_fits {xs ys : List Nd} : Fits (get xs) (diffL xs ys) := fun c hc => (diffL_mem.1 hc).1.symm
/-- The difference of two trees leads from one to the other. -/
theorem diff_leads {xs ys : List Nd} (hx : treeOk xs = true) (hy : treeOk ys = true) : logGo xs (diffL xs ys) = (ys, (diffL xs ys).length) :=
  canon_to hx hy (diff_allOk hx hy) (diff_once hx hy) diff_fits (diff_sorted hx hy) (diff_over hx hy)
theorem diff_self (xs : List Nd) : diffL xs xs = [] := by
  refine List.eq_nil_iff_forall_not_mem.2 (fun c hc => ?_)
  obtain ⟨h1, h2, h3⟩ := diffL_mem.1 hc
  exact h3 (by rw [h1, h2])

/-! ### The canonical log of a log that fits -/
theorem logGo_head {t : List Nd} {c : Cm} {r : List Cm} (h : (logGo t (c :: r)).2 = (c :: r).length) : cmDo t c = true ∧ (logGo (putL t c.path c.to) r).2 = r.length := by
  unfold logGo at h
  split at h
  · rename_i hd; exact ⟨hd, by simpa using h⟩
  · simp at h
theorem cmDo_get {t : List Nd} {c : Cm} (hd : cmDo t c = true) (q : Str) : get (putL t c.path c.to) q = if q = c.path then c.to else get t q := by
  obtain ⟨h1, h2, h3, h4⟩ := cmDo_tree hd
  exact get_put (tree_clean h1) (cmOk_path h2) (cmOk_root h2) (cmOk_conts h2).2 q
theorem chase_fit (p : Str) : ∀ {r : List Cm} {t : List Nd}, (logGo t r).2 = r.length → chase p (get t p) r = some (get (runL t r) p)
  | [], t, _ => rfl
  | c :: r, t, h => by
    obtain ⟨hd, h2⟩ := logGo_head h
    have ih := chase_fit p h2
    rw [cmDo_get hd] at ih
    rw [runL_cons]
    unfold chase
    by_cases e : c.path = p
    · have hf := (cmDo_tree hd).2.2.1
      rw [e] at hf
      rw [if_pos e, if_pos hf.symm]
      rw [if_pos e.symm] at ih
      exact ih
    · rw [if_neg e]
      rw [if_neg (fun e2 => e e2.symm)] at ih
      exact ih
theorem canonGo_fit (g : Str → Cont) : ∀ {r seen : List Cm} {t : List Nd}, (logGo t r).2 = r.length → (∀ p, (∀ d ∈ seen, ¬ d.path = p) → get t p = g p) →
    ∃ out, canonGo seen r = some out ∧ Once out ∧ ∀ c, c ∈ out ↔ (∀ d ∈ seen, ¬ d.path = c.path) ∧ c.fr = g c.path ∧ c.to = get (runL t r) c.path ∧ ¬ c.fr = c.to
  | [], seen, t, _, hs => ⟨[], rfl, by simp [Once], fun c => by
      simp only [List.not_mem_nil, false_iff]
      rintro ⟨h1, h2, h3, h4⟩
      exact h4 (by rw [h2, h3]; exact (hs _ h1).symm)⟩
  | c :: r, seen, t, h, hs => by
    obtain ⟨hd, h2⟩ := logGo_head h
    have hg := cmDo_get hd
    obtain ⟨o, ho1, ho2, ho3⟩ := @canonGo_fit g r (seen ++ [c]) (putL t c.path c.to) h2 (fun p hp => by
      have h3 : ¬ c.path = p := hp c (by simp)
      rw [hg, if_neg (fun e => h3 e.symm)]
      exact hs p (fun d hd => hp d (by simp [hd])))
    rw [runL_cons]
    unfold canonGo
    by_cases e : seen.any (fun d => decide (d.path = c.path)) = true
    · rw [if_pos e]
      refine ⟨o, ho1, ho2, fun d => ?_⟩
      rw [ho3]
      obtain ⟨s, hs1, hs2⟩ := List.any_eq_true.1 e
      have hs2 : s.path = c.path := by simpa using hs2
      constructor
      · rintro ⟨q1, q2⟩
        exact ⟨fun x hx => q1 x (by simp [hx]), q2⟩
      · rintro ⟨q1, q2⟩
        refine ⟨fun x hx => ?_, q2⟩
        rcases List.mem_append.1 hx with hx | hx
        · exact q1 x hx
        · simp at hx; subst hx; rw [← hs2]; exact q1 s hs1
    · rw [if_neg e]
      have hc : chase c.path c.to r = some (get (runL (putL t c.path c.to) r) c.path) := by
        have := chase_fit c.path h2
        rw [hg, if_pos rfl] at this; exact this
      rw [hc, ho1]
      have hns : ∀ d ∈ seen, ¬ d.path = c.path := fun d hd e2 => e (List.any_eq_true.2 ⟨d, hd, by simpa using e2⟩)
      have hf : c.fr = g c.path := by rw [← (cmDo_tree hd).2.2.1]; exact hs _ hns
      refine ⟨_, rfl, ?_, fun d => ?_⟩
      · dsimp only
        split
        · exact ho2
        · unfold Once; rw [List.pairwise_cons]
          refine ⟨fun d hd => ?_, ho2⟩
          exact fun e2 => ((ho3 d).1 hd).1 c (by simp) e2
      · dsimp only
        have key : d ∈ o ↔ ¬ d.path = c.path ∧ (∀ x ∈ seen, ¬ x.path = d.path) ∧ d.fr = g d.path ∧ d.to = get (runL (putL t c.path c.to) r) d.path ∧ ¬ d.fr = d.to := by
          rw [ho3]
          constructor
          · rintro ⟨q1, q2⟩; exact ⟨fun e => q1 c (by simp) e.symm, fun x hx => q1 x (by simp [hx]), q2⟩
          · rintro ⟨q0, q1, q2⟩
            refine ⟨fun x hx => ?_, q2⟩
            rcases List.mem_append.1 hx with hx | hx
            · exact q1 x hx
            · simp at hx; subst hx; exact fun e => q0 e.symm
        split
        · rename_i e2
          rw [key]
          constructor
          · rintro ⟨_, q⟩; exact q
          · rintro ⟨q1, q2, q3, q4⟩
            refine ⟨fun e3 => q4 ?_, q1, q2, q3, q4⟩
            rw [q2, q3, e3, ← hf]; exact e2
        · rename_i e2
          rw [List.mem_cons, key]
          constructor
          · rintro (rfl | ⟨_, q⟩)
            · exact ⟨hns, hf, rfl, e2⟩
            · exact q
          · rintro ⟨q1, q2, q3, q4⟩
            by_cases e3 : d.path = c.path
            · left
              cases d; simp only at e3 q2 q3; subst e3
              simp only [Cm.mk.injEq, true_and]
              exact ⟨by rw [q2]; exact hf.symm, q3⟩
            · exact .inr ⟨e3, q1, q2, q3, q4⟩
/-- Only the result counts. -/
theorem canon_is_diff {t : List Nd} {cs : List Cm} (ht : treeOk t = true) (hl : logOk cs = true) (h : (logGo t cs).2 = cs.length) : logCanon cs = some (diffL t (logGo t cs).1) := by
  obtain ⟨o, h1, h2, h3⟩ := @canonGo_fit (get t) cs [] t h (fun p _ => rfl)
  unfold logCanon
  rw [if_pos hl, h1]
  show some (sortC o) = _
  congr 1
  have htr : treeOk (logGo t cs).1 = true := logGo_tree ht
  refine sortC_eq h2 (diffRaw_once (tree_asc ht) (tree_asc htr)) (fun c => ?_)
  rw [h3, diffRaw_mem, logGo_full h]
  simp

/-! ### Undoing -/
def undoC (c : Cm) : Cm := ⟨c.path, c.to, c.fr⟩
def undoAll (cs : List Cm) : List Cm := cs.reverse.map undoC
def undoL (cs : List Cm) : List Cm := if logOk cs then undoAll cs else []
theorem undo_cmOk {c : Cm} (h : cmOk c = true) : cmOk (undoC c) = true :=
  cmOk_of (c := undoC c) (show isPath c.path = true from cmOk_path h) (show ¬ c.path = [47] from cmOk_root h) (cmOk_conts h).2 (cmOk_conts h).1 (fun e => cmOk_ne h e.symm)
theorem undoAll_ok {cs : List Cm} (h : AllOk cs) : AllOk (undoAll cs) := fun c hc => by
  unfold undoAll at hc
  obtain ⟨d, hd, rfl⟩ := List.mem_map.1 hc
  exact undo_cmOk (h d (List.mem_reverse.1 hd))
theorem undoAll_len (cs : List Cm) : (undoAll cs).length = cs.length := by simp [undoAll]
theorem undoAll_cons (c : Cm) (r : List Cm) : undoAll (c :: r) = undoAll r ++ [undoC c] := by simp [undoAll]
theorem logGo_append : ∀ {a b : List Cm} {t : List Nd}, (logGo t a).2 = a.length → logGo t (a ++ b) = ((logGo (logGo t a).1 b).1, a.length + (logGo (logGo t a).1 b).2)
  | [], b, t, _ => by simp [logGo]
  | c :: r, b, t, h => by
    obtain ⟨hd, h2⟩ := logGo_head h
    have ih := @logGo_append r b _ h2
    have e1 : logGo t (c :: r) = ((logGo (putL t c.path c.to) r).1, (logGo (putL t c.path c.to) r).2 + 1) := by conv => lhs; unfold logGo; rw [if_pos hd]
    rw [e1]
    show logGo t (c :: (r ++ b)) = _
    conv => lhs; unfold logGo
    rw [if_pos hd, ih]
    simp only [List.length_cons, Prod.mk.injEq, true_and]
    omega
theorem undo_step {t : List Nd} {c : Cm} (h : cmDo t c = true) : cmDo (putL t c.path c.to) (undoC c) = true ∧ putL (putL t c.path c.to) c.path c.fr = t := by
  obtain ⟨h1, h2, h3, h4⟩ := cmDo_tree h
  have hc := tree_clean h4
  have he : putL (putL t c.path c.to) c.path c.fr = t := by
    refine (putL_clean hc (cmOk_path h2) (cmOk_root h2) (cmOk_conts h2).1).ext (tree_clean h1) (fun p => ?_)
    rw [get_put hc (cmOk_path h2) (cmOk_root h2) (cmOk_conts h2).1, cmDo_get h]
    by_cases e : p = c.path
    · rw [if_pos e, e]; exact h3.symm
    · rw [if_neg e, if_neg e]
  refine ⟨cmDo_of h4 (undo_cmOk h2) ?_ ?_, he⟩
  · show get (putL t c.path c.to) c.path = c.to
    rw [cmDo_get h, if_pos rfl]
  · show treeOk (putL (putL t c.path c.to) c.path c.fr) = true
    rw [he]; exact h1
theorem undo_back : ∀ {cs : List Cm} {t : List Nd}, (logGo t cs).2 = cs.length → logGo (logGo t cs).1 (undoAll cs) = (t, cs.length)
  | [], t, _ => rfl
  | c :: r, t, h => by
    obtain ⟨hd, h2⟩ := logGo_head h
    have ih := undo_back h2
    have e1 : (logGo t (c :: r)).1 = (logGo (putL t c.path c.to) r).1 := by conv => lhs; unfold logGo; rw [if_pos hd]
    obtain ⟨u1, u2⟩ := undo_step hd
    rw [e1, undoAll_cons, logGo_append (by rw [ih, undoAll_len]), ih]
    simp only [undoAll_len]
    unfold logGo
    rw [if_pos u1]
    show ((logGo (putL (putL t c.path c.to) c.path c.fr) []).1, r.length + ((logGo (putL (putL t c.path c.to) c.path c.fr) []).2 + 1)) = _
    rw [u2]
    simp [logGo]
theorem undo_logOk {cs : List Cm} (h : logOk cs = true) : logOk (undoAll cs) = true :=
  logOk_of (undoAll_ok (logOk_parts h).2) (by rw [undoAll_len]; exact (logOk_parts h).1)
/-- The canonical log of the way back. -/
theorem canon_undo {t : List Nd} {cs : List Cm} (ht : treeOk t = true) (hl : logOk cs = true) (h : (logGo t cs).2 = cs.length) : logCanon (undoL cs) = some (diffL (logGo t cs).1 t) := by
  unfold undoL
  rw [if_pos hl]
  have hb := undo_back h
  have := canon_is_diff (logGo_tree (cs := cs) ht) (undo_logOk hl) (by rw [hb, undoAll_len])
  rw [hb] at this; exact this
theorem diff_undo {xs ys : List Nd} {c : Cm} (h : c ∈ diffL xs ys) : undoC c ∈ diffL ys xs := by
  obtain ⟨h1, h2, h3⟩ := diffL_mem.1 h
  exact diffL_mem.2 ⟨h2, h1, fun e => h3 e.symm⟩
/-- Doing and taking back is nothing. -/
theorem canon_none {t : List Nd} {cs : List Cm} (ht : treeOk t = true) (hl : logOk cs = true) (h : (logGo t cs).2 = cs.length) (h10 : cs.length ≤ 10) : logCanon (cs ++ undoL cs) = some [] := by
  have hb := undo_back h
  unfold undoL
  rw [if_pos hl]
  have ha : logGo t (cs ++ undoAll cs) = (t, cs.length + cs.length) := by rw [logGo_append h, hb]
  have ho : logOk (cs ++ undoAll cs) = true := logOk_of (fun c hc => by
    rcases List.mem_append.1 hc with hc | hc
    · exact (logOk_parts hl).2 c hc
    · exact undoAll_ok (logOk_parts hl).2 c hc) (by rw [List.length_append, undoAll_len]; omega)
  have := canon_is_diff ht ho (by rw [ha, List.length_append, undoAll_len])
  rw [ha] at this
  rw [this, diff_self]
end Go.Proofs.YtnemajefpgicgaaDoor
