/-
  Canonical logs in plain Lean: the order, sorting by putting, what is left of a log. No program in sight.
-/
import Derived.Test.YtnemajefpgicgaaDoorCmList
namespace Go.Proofs.YtnemajefpgicgaaDoor
open Go Go.RowKit
set_option linter.unusedVariables false
set_option linter.unusedSimpArgs false

def endsB (c : Cm) : Bool := decide (c.to.kind = 0) || decide (c.fr.kind = 1)
def befB (c d : Cm) : Bool := if endsB c && endsB d then Op.bytesLess d.path c.path else if !endsB c && !endsB d then Op.bytesLess c.path d.path else endsB c
def putC (c : Cm) : List Cm → List Cm
  | [] => [c]
  | x :: r => if befB c x then c :: x :: r else x :: putC c r
def sortC (cs : List Cm) : List Cm := cs.foldl (fun out c => putC c out) []
theorem putC_len (c : Cm) : ∀ xs : List Cm, (putC c xs).length = xs.length + 1
  | [] => rfl
  | x :: r => by
    have := putC_len c r
    unfold putC; split <;> simp [this]
theorem putC_mem {c d : Cm} : ∀ {xs : List Cm}, d ∈ putC c xs ↔ d = c ∨ d ∈ xs
  | [] => by simp [putC]
  | x :: r => by
    have := @putC_mem c d r
    unfold putC
    split
    · simp
    · simp only [List.mem_cons, this]
      constructor
      · rintro (h | h | h)
        · exact .inr (.inl h)
        · exact .inl h
        · exact .inr (.inr h)
      · rintro (h | h | h)
        · exact .inr (.inl h)
        · exact .inl h
        · exact .inr (.inr h)
theorem sortC_snoc (xs : List Cm) (c : Cm) : sortC (xs ++ [c]) = putC c (sortC xs) := by unfold sortC; rw [List.foldl_append]; rfl
theorem sortC_take {xs : List Cm} {k : Nat} {c : Cm} (h : xs[k]? = some c) : sortC (xs.take (k + 1)) = putC c (sortC (xs.take k)) := by rw [List.take_add_one, h]; exact sortC_snoc _ _
theorem sort_fold (cs : List Cm) : ∀ (acc : List Cm), (cs.foldl (fun out c => putC c out) acc).length = cs.length + acc.length ∧ ∀ d, d ∈ cs.foldl (fun out c => putC c out) acc ↔ d ∈ cs ∨ d ∈ acc := by
  induction cs with
  | nil => intro acc; simp
  | cons c r ih =>
    intro acc
    obtain ⟨h1, h2⟩ := ih (putC c acc)
    refine ⟨by rw [List.foldl_cons, h1, putC_len]; simp; omega, fun d => ?_⟩
    rw [List.foldl_cons, h2, putC_mem]
    simp only [List.mem_cons]
    constructor
    · rintro (h | h | h)
      · exact .inl (.inr h)
      · exact .inl (.inl h)
      · exact .inr h
    · rintro ((h | h) | h)
      · exact .inr (.inl h)
      · exact .inl h
      · exact .inr (.inr h)
theorem sortC_len (cs : List Cm) : (sortC cs).length = cs.length := by have := (sort_fold cs []).1; unfold sortC; simpa using this
theorem sortC_mem {cs : List Cm} {d : Cm} : d ∈ sortC cs ↔ d ∈ cs := by have := (sort_fold cs []).2 d; unfold sortC; simpa using this

/-- What the commands on a path make of a content. -/
def chase (p : Str) : Cont → List Cm → Option Cont
  | t, [] => some t
  | t, d :: r => if d.path = p then (if d.fr = t then chase p d.to r else none) else chase p t r
/-- A log's commands, one for each path, if those on a path are one behind the other. -/
def canonGo (seen : List Cm) : List Cm → Option (List Cm)
  | [] => some []
  | c :: r => if seen.any (fun d => decide (d.path = c.path)) then canonGo (seen ++ [c]) r else
    match chase c.path c.to r with
    | none => none
    | some t => (canonGo (seen ++ [c]) r).map (fun out => if c.fr = t then out else ⟨c.path, c.fr, t⟩ :: out)
def logCanon (cs : List Cm) : Option (List Cm) := if logOk cs then (canonGo [] cs).map sortC else none
theorem canonGo_len : ∀ (seen r out : List Cm), canonGo seen r = some out → out.length ≤ r.length
  | _, [], out, h => by simp [canonGo] at h; subst h; simp
  | seen, c :: r, out, h => by
    unfold canonGo at h
    split at h
    · have := canonGo_len _ _ _ h; simp; omega
    · split at h
      · cases h
      · rename_i t _
        rw [Option.map_eq_some_iff] at h
        obtain ⟨o, h1, rfl⟩ := h
        have := canonGo_len _ _ _ h1
        split <;> simp <;> omega
theorem canonGo_path {Q : Str → Prop} : ∀ (seen r out : List Cm), canonGo seen r = some out → (∀ c ∈ r, Q c.path) → ∀ c ∈ out, Q c.path
  | _, [], out, h, _, c, hc => by simp [canonGo] at h; subst h; simp at hc
  | seen, c :: r, out, h, hq, d, hd => by
    unfold canonGo at h
    split at h
    · exact canonGo_path _ _ _ h (fun x hx => hq x (List.mem_cons_of_mem _ hx)) d hd
    · split at h
      · cases h
      · rename_i t _
        rw [Option.map_eq_some_iff] at h
        obtain ⟨o, h1, rfl⟩ := h
        have ih := canonGo_path _ _ _ h1 (fun x hx => hq x (List.mem_cons_of_mem _ hx))
        split at hd
        · exact ih d hd
        · rcases List.mem_cons.1 hd with rfl | hd
          · exact hq c (List.mem_cons_self ..)
          · exact ih d hd
theorem logCanon_some {cs out : List Cm} (h : logCanon cs = some out) : logOk cs = true ∧ ∃ o, canonGo [] cs = some o ∧ out = sortC o := by
  unfold logCanon at h
  split at h
  · rename_i hl
    rw [Option.map_eq_some_iff] at h
    obtain ⟨o, h1, rfl⟩ := h
    exact ⟨hl, o, h1, rfl⟩
  · cases h
theorem logCanon_len {cs out : List Cm} (h : logCanon cs = some out) : out.length ≤ cs.length := by
  obtain ⟨_, o, h1, rfl⟩ := logCanon_some h
  rw [sortC_len]; exact canonGo_len _ _ _ h1
theorem logCanon_path {Q : Str → Prop} {cs out : List Cm} (h : logCanon cs = some out) (hq : ∀ c ∈ cs, Q c.path) : ∀ c ∈ out, Q c.path := by
  obtain ⟨_, o, h1, rfl⟩ := logCanon_some h
  intro c hc
  exact canonGo_path _ _ _ h1 hq c (sortC_mem.1 hc)
theorem canon_getD_len {cs : List Cm} {n : Nat} (h : cs.length ≤ n) : ((logCanon cs).getD []).length ≤ n := by
  cases e : logCanon cs with
  | none => simp
  | some o => have := logCanon_len e; simp; omega
theorem canon_getD_path {Q : Str → Prop} {cs : List Cm} (hq : ∀ c ∈ cs, Q c.path) : ∀ c ∈ (logCanon cs).getD [], Q c.path := by
  cases e : logCanon cs with
  | none => simp
  | some o => exact logCanon_path e hq
end Go.Proofs.YtnemajefpgicgaaDoor
