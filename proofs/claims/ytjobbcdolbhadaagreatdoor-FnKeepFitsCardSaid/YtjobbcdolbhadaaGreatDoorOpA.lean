/-
  Arguments as they are read: a slice of flat elements reads as a list.
  Arguments as they are read: lists of texts; bytes.
-/
import Derived.Test.YtjobbcdolbhadaaGreatDoorFlA
import Derived.WalkKit
import Derived.ProofKit
import Derived.OpenShut
import Derived.ShutString
import Derived.ChangeOld
import Derived.Below
import Derived.Deep.Slices

namespace Go.Proofs.YtjobbcdolbhadaaGreatDoor
set_option linter.unusedVariables false
set_option linter.unusedSimpArgs false
open Go Go.RowKit Go.ChangeShapes Go.WideShapes Go.ChangeAt
set_option linter.unusedVariables false

theorem list_of_choice {α : Type} (n : Nat) (R : Nat → α → Prop) (h : ∀ i, i < n → ∃ a, R i a) : ∃ xs : List α, xs.length = n ∧ ∀ (i : Nat) (a : α), xs[i]? = some a → R i a := by
  induction n with
  | zero => exact ⟨[], rfl, fun i a h => by simp at h⟩
  | succ n ih =>
    obtain ⟨xs, hl, hx⟩ := ih (fun i hi => h i (by omega))
    obtain ⟨a, ha⟩ := h n (by omega)
    refine ⟨xs ++ [a], by simp [hl], fun i b hb => ?_⟩
    by_cases hi : i < n
    · rw [List.getElem?_append_left (by omega)] at hb; exact hx i b hb
    · have : i = n := by
        have := (List.getElem?_eq_some_iff.1 hb).1; simp at this; omega
      subst this
      rw [List.getElem?_append_right (by omega), hl] at hb
      simp at hb; subst hb; exact ha

section
variable {H : Type} {enc : TypeId × Value → H} {P : Program} {w : World} {base : Nat} {spare : Nat → Bool} {held : Bool}

theorem rdl_open {α : Type} (T : Ty α) (Pr : α → Prop) {t e fuel : Nat} {v : Value} {x : DataW H × List MemPlace} (ht : P.underlying t = some (.slice e)) (hC : P.cellsOf e = T.size) (hp : 0 < T.size)
    (h : DataW.trod enc P w base spare held fuel t [v] = some x)
    (elem : ∀ (cs : List Value) (n : Nat) (y : DataW H × List MemPlace), DataW.trod enc P w base spare held n e cs = some y → ∃ a : α, cs = T.enc a ∧ Pr a) :
    ∃ xs : List α, RdL T w v xs ∧ ∀ (i : Nat) (a : α), xs[i]? = some a → Pr a := by
  rcases Go.Deep.open_slice ht h with ⟨hv, _⟩ | ⟨a, len, cap, m, n, D, Pl, hv, _, hl, hm, hmm, _, hi⟩
  · obtain rfl : v = .slice none 0 0 := by simpa using hv
    exact ⟨[], RdL.nil, fun i a h => by simp at h⟩
  · obtain rfl : v = .slice (some a) len cap := by simpa using hv
    have hlm : len ≤ m := by rw [hmm]; split <;> omega
    obtain ⟨xs, hxl, hx⟩ := list_of_choice (α := α) len (fun i y => Pr y ∧ ∀ j u, (T.enc y)[j]? = some u → w.cell? (a.add (i * T.size + j)) = some u) (fun i hi' => by
      obtain ⟨cs', hc, ht'⟩ := hi i (by omega)
      obtain ⟨y, hy, hpy⟩ := elem cs' n _ ht'
      obtain ⟨_, hcl, hat⟩ := World.cells?_some hc
      refine ⟨y, hpy, fun j u hu => ?_⟩
      have hj : j < P.cellsOf e := by rw [← hcl, hy]; exact (List.getElem?_eq_some_iff.1 hu).1
      rw [← Addr.add_add', ← hC, hat j hj, hy, hu])
    subst hxl
    refine ⟨xs, ⟨flat_len T xs, some a, cap, rfl, hl, hm, .inr ⟨a, rfl, fun j u hu => ?_⟩⟩, fun i y hy => (hx i y hy).1⟩
    have hjl : j < xs.length * T.size := by rw [← flat_len T xs]; exact (List.getElem?_eq_some_iff.1 hu).1
    have hi1 : j / T.size < xs.length := Nat.div_lt_of_lt_mul (by rw [Nat.mul_comm]; exact hjl)
    have hy := List.getElem?_eq_getElem hi1
    have h2 := flat_at T xs (j / T.size) _ hy
    have hmod : j % T.size < T.size := Nat.mod_lt _ hp
    have h3 : (T.enc xs[j / T.size])[j % T.size]? = some u := by
      rw [← h2, List.getElem?_take, if_pos hmod, List.getElem?_drop, Nat.mul_comm, Nat.div_add_mod, hu]
    have := (hx _ _ hy).2 _ _ h3
    rwa [Nat.mul_comm, Nat.div_add_mod] at this

theorem open_ints_rdl {t e fuel : Nat} {v : Value} {x : DataW H × List MemPlace} (ht : P.underlying t = some (.slice e)) (he : P.underlying e = some (.int .i64)) (hC : P.cellsOf e = 1)
    (h : DataW.trod enc P w base spare held fuel t [v] = some x) : ∃ xs : List Int, RdL tInt w v xs := by
  obtain ⟨xs, hx, _⟩ := rdl_open tInt (fun _ => True) ht hC (by decide) h (fun cs n y hy => by
    obtain ⟨k, hk, _, _⟩ := DataW.trod_int he hy
    exact ⟨k, hk, trivial⟩)
  exact ⟨xs, hx⟩
end
end Go.Proofs.YtjobbcdolbhadaaGreatDoor


namespace Go.Proofs.YtjobbcdolbhadaaGreatDoor
set_option linter.unusedVariables false
set_option linter.unusedSimpArgs false
open Go Go.RowKit Go.ChangeShapes Go.WideShapes Go.ChangeAt
set_option linter.unusedVariables false
section
variable {H : Type} {enc : TypeId × Value → H} {P : Program} {w : World} {base : Nat} {spare : Nat → Bool} {held : Bool}
theorem open_u8_rdl' {t e fuel : Nat} {v : Value} {x : DataW H × List MemPlace} (ht : P.underlying t = some (.slice e)) (he : P.underlying e = some (.int .u8)) (hC : P.cellsOf e = 1)
    (h : DataW.trod enc P w base spare held fuel t [v] = some x) : ∃ xs : List UInt8, RdL tU8 w v xs := by
  obtain ⟨xs, hx, _⟩ := rdl_open tU8 (fun _ => True) ht hC (by decide) h (fun cs n y hy => by
    obtain ⟨k, hk, _, hw⟩ := DataW.trod_int he hy
    have h2 : IntKind.u8.min = 0 := rfl
    have h3 : IntKind.u8.max = 255 := rfl
    simp only [Lit.wf, Bool.and_eq_true, decide_eq_true_eq] at hw
    refine ⟨UInt8.ofNat k.toNat, ?_, trivial⟩
    have : ((UInt8.ofNat k.toNat).toNat : Int) = k := by
      rw [UInt8.toNat_ofNat_of_lt' (by simp only [UInt8.size]; omega)]
      omega
    rw [hk]
    show [Value.int .u8 k] = [Value.int .u8 ((UInt8.ofNat k.toNat).toNat : Int)]
    rw [this])
  exact ⟨xs, hx⟩
theorem open_strs_rdl {t e fuel : Nat} {v : Value} {x : DataW H × List MemPlace} (ht : P.underlying t = some (.slice e)) (he : P.underlying e = some .string) (hC : P.cellsOf e = 1)
    (h : DataW.trod enc P w base spare held fuel t [v] = some x) : ∃ xs : List Str, RdL tStr w v xs ∧ ∀ s ∈ xs, s.length ≤ 9223372036854775807 := by
  obtain ⟨xs, hx, hp⟩ := rdl_open tStr (fun s => s.length ≤ 9223372036854775807) ht hC (by decide) h (fun cs n y hy => by
    obtain ⟨s, hk, _, hw⟩ := DataW.trod_string he hy
    have e : s = mk s.data.toList := by cases s; rfl
    refine ⟨s.data.toList, ?_, ?_⟩
    · rw [hk]; show [Value.string s] = [Value.string (mk s.data.toList)]; rw [← e]
    · have : s.data.toList.length = s.size := by rw [Array.length_toList]; rfl
      unfold maxLen at hw; omega)
  refine ⟨xs, hx, fun s hs => ?_⟩
  obtain ⟨i, hi, rfl⟩ := List.getElem_of_mem hs
  exact hp i _ (List.getElem?_eq_getElem hi)
end
end Go.Proofs.YtjobbcdolbhadaaGreatDoor
