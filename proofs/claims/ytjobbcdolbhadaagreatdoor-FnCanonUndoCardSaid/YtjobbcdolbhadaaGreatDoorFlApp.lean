/-
  append, with more told of it: the row that it returns is the old one, or one that is new.
-/
import Derived.Test.YtjobbcdolbhadaaGreatDoorFlB
namespace Go.Proofs.YtjobbcdolbhadaaGreatDoor
open Go Go.RowKit
set_option linter.unusedVariables false
set_option linter.unusedSimpArgs false

theorem append_blk {P : Program} {w : World} {base : Nat} {t ty e : TypeId} {i : TypeInfo} {z : Value} {size bytes : Nat} (ht : P.underlying t = some (.slice e)) (hi : P.info? e = some i) (hz : i.zero = some z)
    (hsize : i.size = size) (hby : i.bytes = bytes) (hsz : 0 < size)
    {v : Value} {n : Nat} {xs : List Value} (hown : w.ownsRow base e size v n xs)
    {a : Addr} {m c : Nat} {news : List Value} (hl : news.length = m * size) (hnews : ∀ j u, news[j]? = some u → w.cell? (a.add j) = some u) (h1 : ∀ u ∈ news, u.oneCell' = true)
    (h63 : n + m ≤ maxLen) (hbytes : (n + m) * bytes ≤ 140737488355328) {v' : Value} {w' : World} (hr : (Builtin.append_ #[t, t] ty #[v, .slice (some a) m c]).run P w = .ok v' w') :
    v'.ownBlock = v.ownBlock ∨ v'.ownBlock = some w.heap.size := by
  subst hsize
  subst hby
  have hsmall : n + m ≤ 9223372036854775807 := by simp only [maxLen] at h63; omega
  rcases hown.2 with ⟨rfl, rfl⟩ | ⟨g, cap, cur, rfl, hbg, hg, hnc, hcm, hcs, htake⟩
  · by_cases hm : m = 0
    · subst hm
      have hn : news = [] := List.eq_nil_of_length_eq_zero (by simpa using hl)
      subst hn
      have h2 : (Builtin.append_ #[t, t] ty #[.slice none 0 0, .slice (some a) 0 c]).run P w = .ok (.slice none 0 0) w := by
        simp [Builtin.append_, run_underlying ht, sizeOf, typeInfo, hi, Builtin.lenOf, Builtin.firstCells, loadCells, loadCellsFrom]
      rw [h2] at hr; cases hr; exact .inl rfl
    · have h2 := run_append_nil (P := P) w t ty e i z ht hi hz a m c news hl hnews (by omega) (by omega) (by have hb := hbytes; simp only [Nat.zero_add] at hb; omega)
      rw [h2] at hr; cases hr; exact .inr rfl
  · by_cases hroom : n + m ≤ cap
    · have hfit : n * i.size + news.length ≤ cur.size := by rw [hl, hcs, ← Nat.add_mul]; exact Nat.mul_le_mul_right _ hroom
      have h2 := run_append_room (P := P) w t ty e i ht hi g n cap cur hg a m c news hl hnews h1 hroom hfit
      rw [h2] at hr; cases hr; exact .inl rfl
    · have holds : ∀ j u, xs[j]? = some u → w.cell? ((⟨g, 0, none⟩ : Addr).add j) = some u := hown.cells (g := g) rfl
      have h2 := run_append_grow (P := P) w t ty e i z ht hi hz ⟨g, 0, none⟩ n cap xs hown.1 holds a m c news hl hnews (by omega) (by omega) (growslice_fits (by omega) hbytes)
      rw [h2] at hr; cases hr; exact .inr rfl
section
variable {P : Program} {ops : Array Oper} {Q : Exit → Act → World → Prop} {n : Nat} {fr : Fr} {w w0 : World} {rest : List Oper} {α : Type} {T : Ty α}
variable {d : Nat} {ty : TypeId} {pos : String} {af : Array Edge}
theorem L_appendB {t e size bytes : Nat} {z : Value} [hT : TSlice P t e size bytes z] {s x : Operand} {v v2 : Value} {xs ys : List α} (hs : fr.ev s = some v) (hx : fr.ev x = some v2) (hB : Below w0.heap.size w0 w)
    (hO : OwL T w w0.heap.size e v xs) (hR : RdL T w v2 ys) (hsz : T.size = size) (hb : (xs.length + ys.length) * bytes ≤ 140737488355328) (h63 : xs.length + ys.length ≤ 9223372036854775807) (hdn : Nat.blt d n = true)
    (kk : ∀ v' w', OwL T w' w0.heap.size e v' (xs ++ ys) → Below w0.heap.size w0 w' → w.grownBy w' v.ownBlock → (v'.ownBlock = v.ownBlock ∨ v'.ownBlock = some w.heap.size) → L P ops Q n rest ((d, v') :: fr) w') :
    L P ops Q n (⟨some d, .call ⟨.builtin .append, #[s, x], #[t, t]⟩, ty, pos, af, none⟩ :: rest) fr w := by
  obtain ⟨inf, hinf, hz, hiz, hib⟩ := hT.parts
  subst hsz
  obtain ⟨hl, a, cap, rfl, _, _, h4⟩ := hR.rd
  have go : ∀ v' w', (Builtin.append_ #[t, t] ty #[v, .slice a ys.length cap]).run P w = .ok v' w' → OwL T w' w0.heap.size e v' (xs ++ ys) → w.grownBy w' v.ownBlock → (v'.ownBlock = v.ownBlock ∨ v'.ownBlock = some w.heap.size) →
      L P ops Q n (⟨some d, .call ⟨.builtin .append, #[s, x], #[t, t]⟩, ty, pos, af, none⟩ :: rest) fr w := by
    intro v' w' hr hO' hg hv
    refine L_run rfl rfl hdn (fun ρ h => ?_) (kk v' w' hO' (below_grow0 hB hg (fun k hk => (hO.lt k hk).1)) hg hv)
    have e1 := h s _ hs
    have e2 := h x _ hx
    rw [BigFrame.execOp_builtin, BigFrame.builtin_append]
    have e3 : Array.map ρ #[s, x] = #[v, .slice a ys.length cap] := by simp [e1, e2]
    rw [e3]
    simp [hr]
  rcases h4 with ⟨rfl, rfl⟩ | ⟨b, rfl, hp⟩
  · have hl0 : ys.length = 0 := by
      obtain ⟨a', cap', he, hc, _⟩ := hR.slice
      injection he with _ _ hcc
      omega
    have hy : ys = [] := List.eq_nil_of_length_eq_zero hl0
    subst hy
    exact go v w (run_append_owned_none w w0.heap.size t ty e inf T.size hT.und hinf v xs.length _ hO.own) (by simpa using hO) ⟨rfl, rfl, rfl, Nat.le_refl _, fun _ _ _ => rfl⟩ (.inl rfl)
  · obtain ⟨v', w', hr, ho, hg, _⟩ := run_append_own (P := P) w w0.heap.size t ty e inf z T.size bytes hT.und hinf hz hiz hib hT.zs hT.pos v xs.length _ hO.own b ys.length cap _ hl hp (flat_one T ys) (by unfold maxLen; omega) hb hB.size
    exact go v' w' hr ⟨by rw [List.length_append, List.flatMap_append]; exact ho⟩ hg (append_blk hT.und hinf hz hiz hib hT.pos hO.own hl hp (flat_one T ys) (by unfold maxLen; omega) hb hr)
end
end Go.Proofs.YtjobbcdolbhadaaGreatDoor
