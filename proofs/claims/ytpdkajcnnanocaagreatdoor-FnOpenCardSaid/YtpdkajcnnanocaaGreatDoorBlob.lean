/-
  Contracts on slices of integers that are made and written, and on files (blobs) and disks.
-/
import Derived.Test.YtpdkajcnnanocaaGreatDoorBase2
namespace Go.Proofs.YtpdkajcnnanocaaGreatDoor
open Go Go.RowKit
set_option linter.unusedVariables false

/-! ### Copies of integer slices -/
theorem set_replicate_step {α : Type} {xs : List α} {k : Nat} {x d : α} (hx : xs[k]? = some x) : (xs.take k ++ List.replicate (xs.length - k) d).set k x = xs.take (k + 1) ++ List.replicate (xs.length - (k + 1)) d := by
  have hk : k < xs.length := (List.getElem?_eq_some_iff.1 hx).1
  rw [List.set_append_right _ _ (by simp; omega), List.take_add_one, hx]
  have h1 : (List.take k xs).length = k := by simp; omega
  rw [h1, Nat.sub_self, show xs.length - k = (xs.length - (k + 1)) + 1 by omega, List.replicate_succ]
  simp

/-! ### Files -/
structure Bl where
  name : Int
  safe : List Int
  fresh : List Int
  deriving DecidableEq
structure BlOf (w : World) (r : Row3) (b : Bl) : Prop where
  name : r.name = b.name
  safe : RdL tInt w r.safe b.safe
  fresh : RdL tInt w r.fresh b.fresh
theorem BlOf.ext {w w' : World} {r : Row3} {b : Bl} (h : BlOf w r b) (hB : Below w.heap.size w w') : BlOf w' r b := ⟨h.name, h.safe.ext hB, h.fresh.ext hB⟩
/-- The slice value v reads as files. -/
structure RdBl (w : World) (v : Value) (rows : List Row3) (bs : List Bl) : Prop where
  rd : RdL tRow3 w v rows
  len : rows.length = bs.length
  at_ : ∀ (i : Nat) r, rows[i]? = some r → ∃ b, bs[i]? = some b ∧ BlOf w r b
theorem RdBl.ext {w w' : World} {v : Value} {rows : List Row3} {bs : List Bl} (h : RdBl w v rows bs) (hB : Below w.heap.size w w') : RdBl w' v rows bs :=
  ⟨h.rd.ext hB, h.len, fun i r hr => let ⟨b, hb, hr'⟩ := h.at_ i r hr; ⟨b, hb, hr'.ext hB⟩⟩

def szI (n : Nat) (left : Int) : Int := if left - n < 0 then -1 else left - n
def szB (b : Bl) (left : Int) : Int := if szI b.safe.length left < 0 then -1 else szI b.fresh.length (szI b.safe.length left)
theorem szB_bd {b : Bl} {left : Int} (h0 : 0 ≤ left) (h1 : left ≤ 1048576) : szB b left ≤ left ∧ (0 ≤ szB b left → b.safe.length ≤ 1048576 ∧ b.fresh.length ≤ 1048576) := by
  unfold szB szI
  repeat' split
  all_goals (constructor; omega; intro h; constructor <;> omega)

/-- What a size that is not negative says. -/
def Small (bs : List Bl) : Prop := bs.length ≤ 1048576 ∧ ∀ b ∈ bs, b.safe.length ≤ 1048576 ∧ b.fresh.length ≤ 1048576
/-! ### Copies of files -/
/-- A slice of numbers that reads in all worlds to come: it is empty, or it is the call's own. -/
structure InL (w : World) (base : Nat) (v : Value) (xs : List Int) : Prop where
  rd : RdL tInt w v xs
  own : xs = [] ∨ OwL tInt w base 3 v xs
theorem InL.of {w : World} {base : Nat} {v : Value} {xs : List Int} (h : OwL tInt w base 3 v xs) : InL w base v xs := ⟨h.rd, .inr h⟩
theorem InL.empty {w : World} {base : Nat} {v : Value} (h : RdL tInt w v []) : InL w base v [] := ⟨h, .inl rfl⟩
theorem InL.kept {w w' : World} {base : Nat} {row : Option Nat} {v : Value} {xs : List Int} (h : InL w base v xs) (hg : w.grownBy w' row) (hne : OwL tInt w base 3 v xs → v.ownBlock = none ∨ v.ownBlock ≠ row) : InL w' base v xs := by
  rcases h.own with he | ho
  · exact ⟨rdl_empty h.rd he, .inl he⟩
  · exact .of (ho.kept hg (hne ho))
theorem InL.ext {w w' : World} {base : Nat} {v : Value} {xs : List Int} (h : InL w base v xs) (hB : Below w.heap.size w w') : InL w' base v xs := ⟨h.rd.ext hB, h.own.imp id (·.ext hB)⟩
theorem InL.rebase {w : World} {base base' : Nat} {v : Value} {xs : List Int} (h : InL w base v xs) (hb : base' ≤ base) : InL w base' v xs := ⟨h.rd, h.own.imp id (·.rebase hb)⟩
/-- Files of the call's own: the row, and what each leads to, lie in blocks from lo on. -/
structure OwBl (w : World) (base : Nat) (v : Value) (rows : List Row3) (bs : List Bl) : Prop where
  own : OwL tRow3 w base 46 v rows
  len : rows.length = bs.length
  at_ : ∀ (i : Nat) r, rows[i]? = some r → ∃ b, bs[i]? = some b ∧ r.name = b.name ∧ InL w base r.safe b.safe ∧ InL w base r.fresh b.fresh
theorem OwBl.rd {w : World} {base : Nat} {v : Value} {rows : List Row3} {bs : List Bl} (h : OwBl w base v rows bs) : RdBl w v rows bs :=
  ⟨h.own.rd, h.len, fun i r hr => let ⟨b, hb, h1, h2, h3⟩ := h.at_ i r hr; ⟨b, hb, h1, h2.rd, h3.rd⟩⟩
theorem OwBl.ext {w w' : World} {base : Nat} {v : Value} {rows : List Row3} {bs : List Bl} (h : OwBl w base v rows bs) (hB : Below w.heap.size w w') : OwBl w' base v rows bs :=
  ⟨h.own.ext hB, h.len, fun i r hr => let ⟨b, hb, h1, h2, h3⟩ := h.at_ i r hr; ⟨b, hb, h1, h2.ext hB, h3.ext hB⟩⟩
theorem OwBl.keptG {w w' : World} {base g : Nat} {v : Value} {rows : List Row3} {bs : List Bl} (h : OwBl w base v rows bs) (hg : g < base) (hB : w.grownBy w' (some g)) : OwBl w' base v rows bs :=
  ⟨h.own.kept hB (h.own.ne_ hg), h.len, fun i r hr => let ⟨b, hb, h1, h2, h3⟩ := h.at_ i r hr; ⟨b, hb, h1, h2.kept hB (·.ne_ hg), h3.kept hB (·.ne_ hg)⟩⟩
theorem OwBl.app {w w' : World} {base : Nat} {v v' : Value} {rows : List Row3} {bs : List Bl} {r : Row3} {b : Bl} (h : OwBl w base v rows bs) (hB : w.grownBy w' v.ownBlock) (hO : OwL tRow3 w' base 46 v' (rows ++ [r]))
    (hn : r.name = b.name) (h2 : InL w base r.safe b.safe) (h3 : InL w base r.fresh b.fresh) : OwBl w' base v' (rows ++ [r]) (bs ++ [b]) := by
  refine ⟨hO, by simp [h.len], fun i r' hr => ?_⟩
  rw [List.getElem?_append] at hr
  split at hr
  · rename_i hi
    obtain ⟨b', hb', k1, k2, k3⟩ := h.at_ i r' hr
    refine ⟨b', ?_, k1, k2.kept hB (·.ne_ty h.own (by decide)), k3.kept hB (·.ne_ty h.own (by decide))⟩
    rw [List.getElem?_append_left (by rw [← h.len]; exact hi)]; exact hb'
  · rename_i hi
    have hi' : i = rows.length := by
      have := (List.getElem?_eq_some_iff.1 hr).1; simp at this; omega
    subst hi'
    simp at hr
    subst hr
    exact ⟨b, by rw [h.len]; simp, hn, h2.kept hB (·.ne_ty h.own (by decide)), h3.kept hB (·.ne_ty h.own (by decide))⟩
theorem OwBl.named {w w' : World} {base : Nat} {v : Value} {rows : List Row3} {bs : List Bl} {i : Nat} {r : Row3} {b : Bl} {y : Int} (h : OwBl w base v rows bs) (hr : rows[i]? = some r) (hb : bs[i]? = some b) (hB : w.grownBy w' v.ownBlock)
    (hO : OwL tRow3 w' base 46 v (rows.set i ⟨y, r.safe, r.fresh, r.s1, r.s2⟩)) : OwBl w' base v (rows.set i ⟨y, r.safe, r.fresh, r.s1, r.s2⟩) (bs.set i ⟨y, b.safe, b.fresh⟩) := by
  have hi := (List.getElem?_eq_some_iff.1 hr).1
  have hi' := (List.getElem?_eq_some_iff.1 hb).1
  refine ⟨hO, by simp [h.len], fun j r' hr' => ?_⟩
  by_cases e : i = j
  · subst e
    rw [List.getElem?_set_self hi] at hr'
    cases hr'
    obtain ⟨b', hb', k1, k2, k3⟩ := h.at_ i r hr
    rw [hb] at hb'; cases hb'
    exact ⟨_, List.getElem?_set_self hi', rfl, k2.kept hB (·.ne_ty h.own (by decide)), k3.kept hB (·.ne_ty h.own (by decide))⟩
  · rw [List.getElem?_set_ne e] at hr'
    obtain ⟨b', hb', k1, k2, k3⟩ := h.at_ j r' hr'
    exact ⟨b', by rw [List.getElem?_set_ne e]; exact hb', k1, k2.kept hB (·.ne_ty h.own (by decide)), k3.kept hB (·.ne_ty h.own (by decide))⟩

theorem arith1 {p4 p3 p' p k : Nat} (a : p4 ≤ p3 + 210) (b : p3 ≤ p' + 1 + 210) (c : p' ≤ p + 421 * k) : p4 ≤ p + 421 * (k + 1) := by rw [Nat.mul_add]; omega
theorem arith2 {p' p k : Nat} (c : p' ≤ p + 421 * k) : p' + 1 ≤ p + 421 * (k + 1) := by rw [Nat.mul_add]; omega
/-- A slice that fills its row. -/
def FullSl (lo hi : Nat) (v : Value) (n : Nat) : Prop := ∃ g, v = .slice (some ⟨g, 0, none⟩) n n ∧ lo ≤ g ∧ g < hi
theorem FullSl.mono {lo hi lo' hi' : Nat} {v : Value} {n : Nat} (h : FullSl lo hi v n) (h1 : lo' ≤ lo) (h2 : hi ≤ hi') : FullSl lo' hi' v n := let ⟨g, e, a, b⟩ := h; ⟨g, e, by omega, by omega⟩
/-- Files of the call's own, each slice a full row, all in blocks from base below hi. -/
structure OwFl (w : World) (base hi : Nat) (v : Value) (rows : List Row3) (bs : List Bl) : Prop where
  own : OwL tRow3 w base 46 v rows
  top : ∀ g, v.ownBlock = some g → g < hi
  len : rows.length = bs.length
  at_ : ∀ (i : Nat) r, rows[i]? = some r → ∃ b, bs[i]? = some b ∧ r.name = b.name ∧ OwL tInt w base 3 r.safe b.safe ∧ OwL tInt w base 3 r.fresh b.fresh ∧ FullSl base hi r.safe b.safe.length ∧ FullSl base hi r.fresh b.fresh.length
theorem OwFl.bl {w : World} {base hi : Nat} {v : Value} {rows : List Row3} {bs : List Bl} (h : OwFl w base hi v rows bs) : OwBl w base v rows bs :=
  ⟨h.own, h.len, fun i r hr => let ⟨b, hb, h1, h2, h3, _⟩ := h.at_ i r hr; ⟨b, hb, h1, .of h2, .of h3⟩⟩
theorem OwFl.ext {w w' : World} {base hi : Nat} {v : Value} {rows : List Row3} {bs : List Bl} (h : OwFl w base hi v rows bs) (hB : Below w.heap.size w w') : OwFl w' base hi v rows bs :=
  ⟨h.own.ext hB, h.top, h.len, fun i r hr => let ⟨b, hb, h1, h2, h3, h4⟩ := h.at_ i r hr; ⟨b, hb, h1, h2.ext hB, h3.ext hB, h4⟩⟩
/-! ### Equality of files -/
end Go.Proofs.YtpdkajcnnanocaaGreatDoor
