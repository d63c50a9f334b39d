/-
  A canonical log, made command by command, in plain Lean. No program in sight.
-/
import Derived.Test.YtjobbcdolbhadaaGreatDoorPlA
namespace Go.Proofs.YtjobbcdolbhadaaGreatDoor
open Go Go.RowKit
set_option linter.unusedVariables false
set_option linter.unusedSimpArgs false

/-- One command for each path: what a list of commands becomes when further ones come. -/
inductive Folds : List Cm → List Cm → List Cm → Prop
  | nil (acc : List Cm) : Folds acc [] acc
  | app {acc r out : List Cm} {c : Cm} (h : ∀ d ∈ acc, ¬ d.path = c.path) (k : Folds (acc ++ [c]) r out) : Folds acc (c :: r) out
  | set {acc r out : List Cm} {c d : Cm} {i : Nat} (hd : acc[i]? = some d) (hp : d.path = c.path) (hf : ∀ (j : Nat) x, j < i → acc[j]? = some x → ¬ x.path = c.path) (ht : d.to = c.fr) (k : Folds (acc.set i ⟨d.path, d.fr, c.to⟩) r out) : Folds acc (c :: r) out
def neB (c : Cm) : Bool := !decide (c.fr = c.to)
theorem folds_once : ∀ {r acc : List Cm}, Once (acc ++ r) → Folds acc r (acc ++ r)
  | [], acc, _ => by rw [List.append_nil]; exact .nil acc
  | c :: r, acc, h => by
    refine .app (fun d hd => ?_) ?_
    · unfold Once at h
      rw [List.pairwise_append] at h
      exact h.2.2 d hd c (List.mem_cons_self ..)
    · have := folds_once (r := r) (acc := acc ++ [c]) (by simpa using h)
      simpa using this
/-- What a list of commands, made so far from a map, tells of the map that is reached. -/
structure SoFar (g g2 : Str → Cont) (acc : List Cm) : Prop where
  once : Once acc
  fr : ∀ c ∈ acc, c.fr = g c.path ∧ c.to = g2 c.path
  all : ∀ p, ¬ g p = g2 p → ∃ c ∈ acc, c.path = p
theorem first_at {acc : List Cm} {p : Str} (h : ∃ d ∈ acc, d.path = p) : ∃ (i : Nat) (d : Cm), acc[i]? = some d ∧ d.path = p ∧ ∀ (j : Nat) x, j < i → acc[j]? = some x → ¬ x.path = p := by
  cases hx : acc.findIdx? (fun d => decide (d.path = p)) with
  | none =>
    rw [List.findIdx?_eq_none_iff] at hx
    obtain ⟨d, hd, e⟩ := h
    have := hx d hd
    simp [e] at this
  | some i =>
    rw [List.findIdx?_eq_some_iff_getElem] at hx
    obtain ⟨hi, h1, h2⟩ := hx
    refine ⟨i, acc[i], List.getElem?_eq_getElem hi, by simpa using h1, fun j x hj hxj => ?_⟩
    obtain ⟨hj2, rfl⟩ := List.getElem?_eq_some_iff.1 hxj
    have := h2 j hj
    simpa using this
theorem set_once {acc : List Cm} {i : Nat} {d : Cm} {t : Cont} (h : Once acc) (hd : acc[i]? = some d) : Once (acc.set i ⟨d.path, d.fr, t⟩) := by
  have e : (acc.set i ⟨d.path, d.fr, t⟩).map (·.path) = acc.map (·.path) := by
    rw [List.map_set]
    refine List.ext_getElem? (fun j => ?_)
    rw [List.getElem?_set]
    split
    · rename_i e
      subst e
      obtain ⟨hi, rfl⟩ := List.getElem?_eq_some_iff.1 hd
      simp [hi]
    · rfl
  have h2 : (acc.map (·.path)).Pairwise (fun p q => ¬ p = q) := by rw [List.pairwise_map]; exact h
  rw [← e, List.pairwise_map] at h2
  exact h2
theorem folds_fit (g : Str → Cont) : ∀ {r acc : List Cm} {t : List Nd}, (logGo t r).2 = r.length → SoFar g (get t) acc → ∃ out, Folds acc r out ∧ SoFar g (get (runL t r)) out
  | [], acc, t, _, h => ⟨acc, .nil acc, h⟩
  | c :: r, acc, t, hl, h => by
    obtain ⟨hd, hl2⟩ := logGo_head hl
    have hg := cmDo_get hd
    obtain ⟨_, _, hfr, _⟩ := cmDo_tree hd
    rw [runL_cons]
    by_cases hx : ∃ d ∈ acc, d.path = c.path
    · obtain ⟨i, d, hi, hp, hf⟩ := first_at hx
      have hdm := List.mem_of_getElem? hi
      obtain ⟨h1, h2⟩ := h.fr d hdm
      have hlt := (List.getElem?_eq_some_iff.1 hi).1
      have hs : SoFar g (get (putL t c.path c.to)) (acc.set i ⟨d.path, d.fr, c.to⟩) := by
        refine ⟨set_once h.once hi, fun x hxm => ?_, fun p hne => ?_⟩
        · obtain ⟨j, hj⟩ := List.getElem?_of_mem hxm
          rw [List.getElem?_set] at hj
          split at hj
          · rename_i e
            subst e
            obtain rfl := Option.some.inj hj
            exact ⟨h1, by rw [hg, if_pos hp]⟩
          · rename_i e
            have hxm2 := List.mem_of_getElem? hj
            obtain ⟨k1, k2⟩ := h.fr x hxm2
            refine ⟨k1, ?_⟩
            rw [hg, if_neg (fun e2 => ?_)]
            · exact k2
            · have e3 : x = d := h.once.inj hxm2 hdm (e2.trans hp.symm)
              subst e3
              obtain ⟨hj2, e4⟩ := List.getElem?_eq_some_iff.1 hj
              obtain ⟨hi2, e5⟩ := List.getElem?_eq_some_iff.1 hi
              have hpw := List.pairwise_iff_getElem.1 h.once
              rcases Nat.lt_or_gt_of_ne e with e6 | e6
              · exact hpw i j hi2 hj2 e6 (by rw [e4, e5])
              · exact hpw j i hj2 hi2 e6 (by rw [e4, e5])
        · by_cases e : p = c.path
          · exact ⟨⟨d.path, d.fr, c.to⟩, List.mem_of_getElem? (List.getElem?_set_self hlt), hp.trans e.symm⟩
          · rw [hg, if_neg e] at hne
            obtain ⟨x, hxm, hxp⟩ := h.all p hne
            obtain ⟨j, hj⟩ := List.getElem?_of_mem hxm
            have hij : ¬ i = j := fun e2 => by
              subst e2
              rw [hi] at hj
              obtain rfl := Option.some.inj hj
              exact e (hxp.symm.trans hp)
            exact ⟨x, List.mem_of_getElem? (by rw [List.getElem?_set_ne hij]; exact hj), hxp⟩
      obtain ⟨out, k1, k2⟩ := folds_fit g hl2 hs
      exact ⟨out, .set hi hp hf (by rw [h2, hp, hfr]) k1, k2⟩
    · have hn : ∀ d ∈ acc, ¬ d.path = c.path := fun d hdm e => hx ⟨d, hdm, e⟩
      have hs : SoFar g (get (putL t c.path c.to)) (acc ++ [c]) := by
        have hgc : g c.path = c.fr := by
          refine Classical.byContradiction fun hne => ?_
          obtain ⟨x, hxm, hxp⟩ := h.all c.path (fun e => hne (e.trans hfr))
          exact hn x hxm hxp
        refine ⟨?_, fun x hxm => ?_, fun p hne => ?_⟩
        · unfold Once
          rw [List.pairwise_append]
          refine ⟨h.once, by simp, fun a ha b hb => ?_⟩
          obtain rfl : b = c := by simpa using hb
          exact hn a ha
        · rcases List.mem_append.1 hxm with hxm | hxm
          · obtain ⟨k1, k2⟩ := h.fr x hxm
            exact ⟨k1, by rw [hg, if_neg (hn x hxm)]; exact k2⟩
          · obtain rfl : x = c := by simpa using hxm
            exact ⟨hgc.symm, by rw [hg, if_pos rfl]⟩
        · by_cases e : p = c.path
          · exact ⟨c, by simp, e.symm⟩
          · rw [hg, if_neg e] at hne
            obtain ⟨x, hxm, hxp⟩ := h.all p hne
            exact ⟨x, List.mem_append_left _ hxm, hxp⟩
      obtain ⟨out, k1, k2⟩ := folds_fit g hl2 hs
      exact ⟨out, .app hn k1, k2⟩
/-- The canonical log of a log that fits is made so. -/
theorem folds_canon {t : List Nd} {cs : List Cm} (ht : treeOk t = true) (h : (logGo t cs).2 = cs.length) : ∃ out, Folds [] cs out ∧ Once out ∧ sortC (out.filter neB) = diffL t (logGo t cs).1 := by
  obtain ⟨out, k1, k2⟩ := folds_fit (get t) (r := cs) (acc := []) h ⟨by simp [Once], fun c hc => by simp at hc, fun p hne => absurd rfl hne⟩
  refine ⟨out, k1, k2.once, ?_⟩
  have htr : treeOk (logGo t cs).1 = true := logGo_tree ht
  rw [logGo_full h] at htr ⊢
  refine sortC_eq (k2.once.sub (List.filter_sublist ..)) (diffRaw_once (tree_asc ht) (tree_asc htr)) (fun c => ?_)
  rw [List.mem_filter, diffRaw_mem]
  constructor
  · rintro ⟨hc, hne⟩
    obtain ⟨h1, h2⟩ := k2.fr c hc
    exact ⟨h1, h2, by simpa [neB] using hne⟩
  · rintro ⟨h1, h2, h3⟩
    obtain ⟨x, hxm, hxp⟩ := k2.all c.path (fun e => h3 (by rw [h1, h2, e]))
    obtain ⟨k3, k4⟩ := k2.fr x hxm
    have e : x = c := by
      cases x; cases c
      simp only at hxp h1 h2 k3 k4
      subst hxp
      rw [k3, k4, h1, h2]
    subst e
    exact ⟨hxm, by simpa [neB] using h3⟩
theorem folds_len : ∀ {r acc out : List Cm}, Folds acc r out → out.length ≤ acc.length + r.length
  | _, _, _, .nil acc => by simp
  | _, _, _, .app _ k => by have := folds_len k; simp at this ⊢; omega
  | _, _, _, .set _ _ _ _ k => by have := folds_len k; simp at this ⊢; omega
end Go.Proofs.YtjobbcdolbhadaaGreatDoor
