/-
  Books in plain Lean: the bytes of a book are read; what is read is a book. No program in sight.
-/
import Derived.Test.YtpdkajcnnanocaaGreatDoorLogPlain
namespace Go.Proofs.YtpdkajcnnanocaaGreatDoor
open Go Go.RowKit
set_option linter.unusedVariables false
set_option linter.unusedSimpArgs false

def bookOk (e : Int) (l : List Cm) : Bool := logOk l && decide (0 ≤ e ∧ e ≤ 99)
def bookBytes (e : Int) (l : List Cm) : List Int := if bookOk e l then fmOf [e] ++ logBytes l else []
/-- The epoch that bytes tell. -/
def bookHead (bs : List Int) : Option Int := match headF bs with
  | some [e] => if e ≤ 99 then some e else none
  | _ => none
def bookEp (bs : List Int) : Int := (bookHead bs).getD 0
def bookLog (bs : List Int) : List Cm := if (bookHead bs).isSome then logOf (bs.drop 3) else []
theorem epoch_body {e : Int} (h : 0 ≤ e ∧ e ≤ 99) : bodyOk [e] = true := by simp [bodyOk, bytesOk, byteOk]; omega
theorem fm1_len {e : Int} (h : 0 ≤ e ∧ e ≤ 99) : (fmOf [e]).length = 3 := fmOf_len2 (epoch_body h)
theorem bookOk_parts {e : Int} {l : List Cm} (h : bookOk e l = true) : logOk l = true ∧ 0 ≤ e ∧ e ≤ 99 := by unfold bookOk at h; simpa using h
theorem bookBytes_eq {e : Int} {l : List Cm} (h : bookOk e l = true) : bookBytes e l = fmOf [e] ++ logBytes l := by unfold bookBytes; rw [if_pos h]
theorem bookBytes_short (e : Int) (l : List Cm) : (bookBytes e l).length ≤ 363 := by
  unfold bookBytes
  split
  · have h := bookOk_parts (by assumption)
    have := logBytes_len l
    rw [List.length_append, fm1_len h.2]; omega
  · simp
theorem head_bytes {e : Int} {r : List Int} (h : 0 ≤ e ∧ e ≤ 99) : bookHead (fmOf [e] ++ r) = some e := by
  unfold bookHead
  rw [headF_frame (epoch_body h)]
  simp [h.2]
theorem book_load {e : Int} {l : List Cm} (h : bookOk e l = true) : bookHead (bookBytes e l) = some e ∧ bookEp (bookBytes e l) = e ∧ bookLog (bookBytes e l) = l := by
  obtain ⟨h1, h2⟩ := bookOk_parts h
  have e1 : bookHead (bookBytes e l) = some e := by rw [bookBytes_eq h]; exact head_bytes h2
  refine ⟨e1, by unfold bookEp; rw [e1]; rfl, ?_⟩
  unfold bookLog
  rw [e1, if_pos (by rfl), bookBytes_eq h, List.drop_left' (fm1_len h2)]
  exact (load_bytes h1).1
theorem headF_short {l : List Int} (h : l.length < 3) : headF l = none := by
  cases hf : headF l with
  | none => rfl
  | some b =>
    have h1 := headF_len hf
    have h2 := body_len (headF_body hf)
    omega
theorem book_torn {e : Int} {l : List Cm} (k : Nat) (h : bookOk e l = true) : (k < 3 → bookHead ((bookBytes e l).take k) = none) ∧ (3 ≤ k → bookHead ((bookBytes e l).take k) = some e ∧ bookEp ((bookBytes e l).take k) = e ∧ ∃ j, bookLog ((bookBytes e l).take k) = l.take j) := by
  obtain ⟨h1, h2⟩ := bookOk_parts h
  refine ⟨fun hk => ?_, fun hk => ?_⟩
  · unfold bookHead
    rw [headF_short (by simp; omega)]
  · have e0 : (bookBytes e l).take k = fmOf [e] ++ (logBytes l).take (k - 3) := by
      rw [bookBytes_eq h, List.take_append, List.take_of_length_le (by rw [fm1_len h2]; omega), fm1_len h2]
    have e1 : bookHead ((bookBytes e l).take k) = some e := by rw [e0]; exact head_bytes h2
    obtain ⟨j, hj, _⟩ := load_torn (k - 3) h1
    refine ⟨e1, by unfold bookEp; rw [e1]; rfl, j, ?_⟩
    unfold bookLog
    rw [e1, if_pos (by rfl), e0, List.drop_left' (fm1_len h2)]
    exact hj
theorem head_parts {bs : List Int} {e : Int} (h : bookHead bs = some e) : headF bs = some [e] ∧ 0 ≤ e ∧ e ≤ 99 ∧ 3 ≤ bs.length := by
  unfold bookHead at h
  split at h
  · rename_i x hx
    split at h
    · rename_i h99
      obtain rfl := Option.some.inj h
      have h1 := headF_body hx
      have h2 := headF_len hx
      simp [bodyOk, bytesOk, byteOk] at h1
      exact ⟨hx, h1.1, h99, by simpa using h2⟩
    · cases h
  · cases h
theorem book_epoch {bs : List Int} {e : Int} (h : bookHead bs = some e) : bookOk e (bookLog bs) = true ∧ (bookBytes e (bookLog bs)).length ≤ bs.length ∧ logOk (bookLog bs) = true ∧ bookEp bs = e := by
  obtain ⟨h1, h2, h3, h4⟩ := head_parts h
  have e1 : bookLog bs = logOf (bs.drop 3) := by unfold bookLog; rw [h]; rfl
  obtain ⟨b1, b2, b3⟩ := bytes_load (bs.drop 3)
  have hok : bookOk e (bookLog bs) = true := by unfold bookOk; rw [e1, b1]; simp; omega
  refine ⟨hok, ?_, by rw [e1]; exact b1, by unfold bookEp; rw [h]; rfl⟩
  rw [bookBytes_eq hok, List.length_append, fm1_len ⟨h2, h3⟩, e1, b2]
  simp; omega
end Go.Proofs.YtpdkajcnnanocaaGreatDoor
