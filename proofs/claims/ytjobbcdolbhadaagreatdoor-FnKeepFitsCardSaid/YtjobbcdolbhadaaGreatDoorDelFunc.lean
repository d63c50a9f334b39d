/-
  Contracts: slices.DeleteFunc at nodes and at commands; laid by a program of mine (gendel.py).
-/
import Derived.Test.YtjobbcdolbhadaaGreatDoorFlCopy
import Derived.Test.YtjobbcdolbhadaaGreatDoorNdList
namespace Go.Proofs.YtjobbcdolbhadaaGreatDoor
open Go Go.RowKit
set_option linter.unusedVariables false
set_option linter.unusedSimpArgs false

theorem del_step {α : Type} {q : α → Bool} {xs L : List α} {i j : Nat} {y : α} (hl : L.length = xs.length) (hij : i < j) (hj : j < xs.length) (ht : L.take i = (xs.take j).filter q) (hd : L.drop j = xs.drop j) (hy : xs[j]? = some y) :
    L[j]? = some y ∧ (q y = true → (L.set i y).take (i + 1) = (xs.take (j + 1)).filter q ∧ (L.set i y).drop (j + 1) = xs.drop (j + 1)) ∧ (q y = false → L.take i = (xs.take (j + 1)).filter q ∧ L.drop (j + 1) = xs.drop (j + 1)) := by
  have h1 : L[j]? = some y := by
    have := congrArg (fun l => l[0]?) hd
    simpa [hy] using this
  have hdr : L.drop (j + 1) = xs.drop (j + 1) := by
    have := congrArg (List.drop 1) hd
    simpa [List.drop_drop] using this
  have hst : (xs.take (j + 1)).filter q = (xs.take j).filter q ++ (if q y then [y] else []) := by
    rw [List.take_add_one, hy, List.filter_append]
    cases h : q y <;> simp [h]
  refine ⟨h1, fun hq => ⟨?_, ?_⟩, fun hq => ⟨?_, hdr⟩⟩
  · rw [hst, hq, if_pos rfl, ← ht, List.take_add_one, List.take_set_of_le (Nat.le_refl _), List.getElem?_set_self (by omega)]; rfl
  · rw [List.drop_set_of_lt (by omega)]; exact hdr
  · rw [hst, hq, ht]; simp

theorem c_DeleteFunc_nd {v : Value} {xs : List Nd} {base : Nat} {w : World} {f : FuncId} [Enters Tryz.prog f] {cap : List Value} (p : Nd → Bool) (hO : OwL tNd w base 69 v xs)
    (hpr : ∀ x, x ∈ xs → ∀ w', w.grownBy w' v.ownBlock → Cl Tryz.prog f ([vNd x] ++ cap) w' (V w' (.bool (p x)))) :
    Cl Tryz.prog 101 [v, .func (.func f) #[] cap.toArray] w (fun u w' => OwL tNd w' base 69 u (xs.filter (fun x => !p x)) ∧ u.ownBlock = v.ownBlock ∧ w.grownBy w' v.ownBlock) := by
  refine calls_start 42 Tryz.func101 rfl rfl rfl ?_
  have hml := hO.rd.maxLen
  have hgr : ∀ {w'}, Below w.heap.size w w' → w.grownBy w' v.ownBlock := fun hB => kp_below (World.grownBy.refl _ _) hB
  have hix : (idxOf p xs = -1 ∧ ∀ x ∈ xs, p x = false) ∨ ∃ (k : Nat) (y : Nd), idxOf p xs = k ∧ xs[k]? = some y ∧ p y = true ∧ ∀ x ∈ xs.take k, p x = false := by
    unfold idxOf
    cases h : xs.findIdx? p with
    | none => left; rw [List.findIdx?_eq_none_iff] at h; exact ⟨rfl, fun x hx => by simpa using h x hx⟩
    | some k =>
      right
      rw [List.findIdx?_eq_some_iff_getElem] at h
      obtain ⟨hk, h1, h2⟩ := h
      refine ⟨k, xs[k], rfl, List.getElem?_eq_getElem hk, h1, fun x hx => ?_⟩
      obtain ⟨j, hj, e⟩ := List.getElem_of_mem hx
      rw [List.getElem_take] at e
      have := h2 j (by simp at hj; omega)
      rw [← e]; simpa using this
  generalize hkk : idxOf p xs = kk at hix
  have hkb : -1 ≤ kk ∧ kk ≤ 9223372036854775806 := by
    rcases hix with ⟨rfl, _⟩ | ⟨k, y, rfl, hy, _⟩
    · omega
    · have := (List.getElem?_eq_some_iff.1 hy).1; omega
  repeat' (first | (apply isL; first | apply L_nil | refine L_move rfl rfl ?_ | (apply isCall; first | refine L_lenL rfl rd_ rfl (fun hlen => ?_) | (refine L_callV rfl rfl (c_IndexFunc_nd p hO.rd (fun x hx w' hB' => hpr x hx w' (hgr hB'))) (fun w2 hB2 => ?_); rw [hkk]) ) | (apply isBin; first | refine L_do rfl rfl rfl (do_cmp rfl rfl rfl) ?_ | refine L_do rfl rfl rfl (do_add rfl rfl om_) ?_ ) | (apply isLoad; first | refine L_loadPt rfl (by rfl) pt_ (by rfl) rfl ?_ | refine L_loadPt2 rfl (by rfl) pt_ (by rfl) rfl ?_ | refine L_loadPt0 rfl pt_ (by rfl) rfl ?_ | refine L_loadAgg rfl pt_ (by rfl) rfl ?_ | refine L_loadSub rfl (by rfl) pt_ (by rfl) rfl ?_) | refine L_assign rfl rfl ?_ | refine L_do rfl rfl rfl (do_notDec rfl) ?_ | refine L_do rfl rfl rfl (do_not rfl) ?_ | refine L_indexL rfl rfl rd_ (by rfl) om_ om_ rfl (fun a y hy hab hp => ?_) | (apply isAllocStore; refine L_allocStoreV (w0 := w) bw_ rfl rfl rfl rfl ?_ rfl (fun w1 hz1 hB hB1 hv => ?_); (focus (first | exact Ty.one _ _ | simp [Value.oneCell'])); have hp := pt_of_block hv) ) | (apply isW; first | apply W_seq | apply W_region | refine W_cond_dec rfl (fun hg => ?_) (fun hg => ?_) | refine W_cond_true rfl ?_ | refine W_cond_false rfl ?_ | refine W_cond rfl (fun hg => ?_) (fun hg => ?_) | apply W_skip | apply W_ret | apply W_exit | apply W_block) | (apply isAt; first | apply At_then | apply At_then_ret | apply At_then_exit | apply At_block_normal | apply At_block_ret | apply At_block_hit | refine At_block_miss rfl ?_ | refine At_end1 rfl rfl ?_ | refine At_end1n rfl rfl ?_ | refine At_end2 rfl rfl rfl ?_ | refine At_end3 rfl rfl rfl rfl ?_ | refine At_end4 rfl rfl rfl rfl rfl ?_ | refine At_end5 rfl rfl rfl rfl rfl rfl ?_ | refine At_mix kp_ ?_))
  · have h1 := (hix.resolve_right (fun ⟨k, y, e, _⟩ => by omega)).2
    have hf : xs.filter (fun x => !p x) = xs := List.filter_eq_self.2 (fun x hx => by rw [h1 x hx]; rfl)
    exact ⟨by rw [hf]; exact hO.ext hB2, rfl, hgr hB2⟩
  obtain ⟨k0, y0, rfl, hy0, hp0, hpre⟩ := hix.resolve_left (fun e => by omega)
  have hk0 := (List.getElem?_eq_some_iff.1 hy0).1
  have hO2 := hO.ext hB2
  have hg2 := hgr hB2
  have hlt : ∀ k, v.ownBlock = some k → k < w.heap.size := fun k hk => (hO.lt k hk).2
  have ht0 : xs.take k0 = (xs.take (k0 + 1)).filter (fun x => !p x) := by
    rw [List.take_add_one, hy0, List.filter_append, List.filter_eq_self.2 (fun x hx => by rw [hpre x hx]; rfl)]
    simp [hp0]
  refine W_loopF (fun m fr w' => ∃ (i j : Nat) (L : List Nd), m = xs.length - j ∧ j ≤ xs.length ∧ i < j ∧ fr = [(0, v), (1, .func (.func f) #[] cap.toArray), (5, .int .i64 i), (6, .int .i64 j)] ∧ OwL tNd w' base 69 v L ∧ L.length = xs.length ∧ L.take i = (xs.take j).filter (fun x => !p x) ∧ L.drop j = xs.drop j ∧ w.grownBy w' v.ownBlock) (xs.length - (k0 + 1))
    [(0, v), (1, .func (.func f) #[] cap.toArray), (5, .int .i64 k0), (6, .int .i64 ((k0 + 1 : Nat) : Int))] sl_ ⟨k0, k0 + 1, xs, rfl, by omega, by omega, rfl, hO2, rfl, ht0, rfl, hg2⟩ ?_
  clear hO2 hg2 hB2
  rintro _ _ w' ⟨i, j, L, rfl, hj, hij, rfl, hI, hLl, hLt, hLd, hgw⟩
  rcases Nat.lt_or_ge j xs.length with hjl | hjl
  · obtain ⟨y, hy⟩ : ∃ y, xs[j]? = some y := ⟨_, List.getElem?_eq_getElem hjl⟩
    obtain ⟨h1, h2, h3⟩ := del_step hLl hij hjl hLt hLd hy
    have hym := List.mem_of_getElem? hy
    cases hpy : p y
    all_goals
      rw [hpy] at h2 h3
      repeat' (first | (apply isL; first | apply L_nil | refine L_move rfl rfl ?_ | (apply isCall; first | refine L_lenL rfl rd_ rfl (fun hlen => ?_) | refine L_lenL rfl hI.rd rfl (fun hlen => ?_) | (refine L_callFn rfl rfl rfl (hpr _ hym _ hg4) (fun w5 hB5 => ?_); rw [hpy]; have hI2 := (hI.ext hC4).ext hB5; have hpy5 := hpy4.ext hB5; have hg5 := kp_below hg4 hB5) ) | (apply isBin; first | refine L_do rfl rfl rfl (do_cmp rfl rfl rfl) ?_ | refine L_do rfl rfl rfl (do_add rfl rfl om_) ?_ ) | (apply isLoad; first | refine L_loadPt rfl (by rfl) pt_ (by rfl) rfl ?_ | refine L_loadPt2 rfl (by rfl) pt_ (by rfl) rfl ?_ | refine L_loadPt0 rfl pt_ (by rfl) rfl ?_ | refine L_loadAgg rfl pt_ (by rfl) rfl ?_ | refine L_loadSub rfl (by rfl) pt_ (by rfl) rfl ?_) | refine L_assign rfl rfl ?_ | refine L_do rfl rfl rfl (do_notDec rfl) ?_ | refine L_do rfl rfl rfl (do_not rfl) ?_ | (have := hvy; clear this; refine L_indexOwn rfl rfl hI2 rfl om_ om_ rfl (fun gv yo hyo hgv => ?_)) | (refine L_indexL rfl rfl hI.rd (by rfl) om_ om_ rfl (fun a yy hyy hab hp => ?_); have hyx : L[j]? = some yy := hyy; rw [h1] at hyx; obtain rfl := Option.some.inj hyx) | (apply isAllocStore; refine L_allocStoreV (w0 := _) (Below.refl _ _) rfl rfl rfl rfl ?_ rfl (fun w4 hz4 hB4 hC4 hvy => ?_); (focus (exact tNd.one _)); have hpy4 := pt_of_block hvy; have hg4 := kp_below hgw hC4) | (apply isStore; refine L_storeElemG (off := 0) (k := i) rfl rfl hI2 rfl hgv hyo (cs := tNd.enc y) rfl rfl (tNd.one _) (Nat.le_of_ble_eq_true rfl) (y1 := y) rfl (fun w6 hO6 hg6 hz6 => ?_)) | refine L_indexL rfl rfl rd_ (by rfl) om_ om_ rfl (fun a y hy hab hp => ?_) | (apply isAllocStore; refine L_allocStoreV (w0 := w) bw_ rfl rfl rfl rfl ?_ rfl (fun w1 hz1 hB hB1 hv => ?_); (focus (first | exact Ty.one _ _ | simp [Value.oneCell'])); have hp := pt_of_block hv) ) | (apply isW; first | apply W_seq | apply W_region | refine W_cond_dec rfl (fun hg => ?_) (fun hg => ?_) | refine W_cond_true rfl ?_ | refine W_cond_false rfl ?_ | refine W_cond rfl (fun hg => ?_) (fun hg => ?_) | apply W_skip | apply W_ret | apply W_exit | apply W_block) | (apply isAt; first | apply At_then | apply At_then_ret | apply At_then_exit | apply At_block_normal | apply At_block_ret | apply At_block_hit | refine At_block_miss rfl ?_ | refine At_end1 rfl rfl ?_ | refine At_end1n rfl rfl ?_ | refine At_end2 rfl rfl rfl ?_ | refine At_end3 rfl rfl rfl rfl ?_ | refine At_end4 rfl rfl rfl rfl rfl ?_ | refine At_end5 rfl rfl rfl rfl rfl rfl ?_ | refine At_mix kp_ ?_))
    all_goals first | (exfalso; omega) | (exfalso; simp at hg; done) | skip
    · exact At_round _ [(0, v), (1, .func (.func f) #[] cap.toArray), (5, .int .i64 ((i + 1 : Nat) : Int)), (6, .int .i64 ((j + 1 : Nat) : Int))] sl_ (by omega) ⟨i + 1, j + 1, _, rfl, by omega, by omega, rfl, hO6, by simp; omega, (h2 rfl).1, (h2 rfl).2, kp_row hg5 (by rw [hgv]; exact hg6)⟩
    · exact At_round _ [(0, v), (1, .func (.func f) #[] cap.toArray), (5, .int .i64 i), (6, .int .i64 ((j + 1 : Nat) : Int))] sl_ (by omega) ⟨i, j + 1, L, rfl, by omega, by omega, rfl, hI2, hLl, (h3 rfl).1, (h3 rfl).2, hg5⟩
  · obtain ⟨g, capn, cur, rfl, _, _, hnc, _⟩ := hI.row (fun e => by rw [e] at hLl; simp at hLl; omega)
    rw [List.take_of_length_le (show xs.length ≤ j by omega)] at hLt
    repeat' (first | (apply isL; first | apply L_nil | refine L_move rfl rfl ?_ | (apply isCall; first | refine L_lenL rfl rd_ rfl (fun hlen => ?_) | refine L_lenL rfl hI.rd rfl (fun hlen => ?_) ) | (apply isBin; first | refine L_do rfl rfl rfl (do_cmp rfl rfl rfl) ?_ | refine L_do rfl rfl rfl (do_add rfl rfl om_) ?_ ) | (apply isLoad; first | refine L_loadPt rfl (by rfl) pt_ (by rfl) rfl ?_ | refine L_loadPt2 rfl (by rfl) pt_ (by rfl) rfl ?_ | refine L_loadPt0 rfl pt_ (by rfl) rfl ?_ | refine L_loadAgg rfl pt_ (by rfl) rfl ?_ | refine L_loadSub rfl (by rfl) pt_ (by rfl) rfl ?_) | refine L_assign rfl rfl ?_ | refine L_do rfl rfl rfl (do_notDec rfl) ?_ | refine L_do rfl rfl rfl (do_not rfl) ?_ | refine L_do rfl rfl rfl (do_sliceRowL rfl rfl om_ om_) ?_ | refine L_clearOwn rfl hI rfl rfl (i := i) om_ rfl (y0 := (⟨[], ⟨0, 0⟩⟩ : Nd)) rfl (fun w4 hO4 hg4 hz4 => ?_) | refine L_sliceOwnH rfl rfl hO4 rfl om_ (by simp; omega) rfl (fun v5 hO5 hob5 => ?_) | refine L_indexL rfl rfl rd_ (by rfl) om_ om_ rfl (fun a y hy hab hp => ?_) | (apply isAllocStore; refine L_allocStoreV (w0 := w) bw_ rfl rfl rfl rfl ?_ rfl (fun w1 hz1 hB hB1 hv => ?_); (focus (first | exact Ty.one _ _ | simp [Value.oneCell'])); have hp := pt_of_block hv) ) | (apply isW; first | apply W_seq | apply W_region | refine W_cond_dec rfl (fun hg => ?_) (fun hg => ?_) | refine W_cond_true rfl ?_ | refine W_cond_false rfl ?_ | refine W_cond rfl (fun hg => ?_) (fun hg => ?_) | apply W_skip | apply W_ret | apply W_exit | apply W_block) | (apply isAt; first | apply At_then | apply At_then_ret | apply At_then_exit | apply At_block_normal | apply At_block_ret | apply At_block_hit | refine At_block_miss rfl ?_ | refine At_end1 rfl rfl ?_ | refine At_end1n rfl rfl ?_ | refine At_end2 rfl rfl rfl ?_ | refine At_end3 rfl rfl rfl rfl ?_ | refine At_end4 rfl rfl rfl rfl rfl ?_ | refine At_end5 rfl rfl rfl rfl rfl rfl ?_ | refine At_mix kp_ ?_))
    all_goals first | (exfalso; omega) | (exfalso; simp at hg; done) | skip
    have e : (L.take i ++ List.replicate (L.length - i) (⟨[], ⟨0, 0⟩⟩ : Nd)).take (i : Int).toNat = xs.filter (fun x => !p x) := by
      rw [← hLt]
      exact List.take_left' (by simp; omega)
    rw [e] at hO5
    exact ⟨hO5, hob5, kp_row hgw hg4⟩

theorem c_DeleteFunc_cm {v : Value} {xs : List Cm} {base : Nat} {w : World} {f : FuncId} [Enters Tryz.prog f] {cap : List Value} (p : Cm → Bool) (hO : OwL tCm w base 35 v xs)
    (hpr : ∀ x, x ∈ xs → ∀ w', w.grownBy w' v.ownBlock → Cl Tryz.prog f ([vCm x] ++ cap) w' (V w' (.bool (p x)))) :
    Cl Tryz.prog 37 [v, .func (.func f) #[] cap.toArray] w (fun u w' => OwL tCm w' base 35 u (xs.filter (fun x => !p x)) ∧ u.ownBlock = v.ownBlock ∧ w.grownBy w' v.ownBlock) := by
  refine calls_start 42 Tryz.func37 rfl rfl rfl ?_
  have hml := hO.rd.maxLen
  have hgr : ∀ {w'}, Below w.heap.size w w' → w.grownBy w' v.ownBlock := fun hB => kp_below (World.grownBy.refl _ _) hB
  have hix : (idxOf p xs = -1 ∧ ∀ x ∈ xs, p x = false) ∨ ∃ (k : Nat) (y : Cm), idxOf p xs = k ∧ xs[k]? = some y ∧ p y = true ∧ ∀ x ∈ xs.take k, p x = false := by
    unfold idxOf
    cases h : xs.findIdx? p with
    | none => left; rw [List.findIdx?_eq_none_iff] at h; exact ⟨rfl, fun x hx => by simpa using h x hx⟩
    | some k =>
      right
      rw [List.findIdx?_eq_some_iff_getElem] at h
      obtain ⟨hk, h1, h2⟩ := h
      refine ⟨k, xs[k], rfl, List.getElem?_eq_getElem hk, h1, fun x hx => ?_⟩
      obtain ⟨j, hj, e⟩ := List.getElem_of_mem hx
      rw [List.getElem_take] at e
      have := h2 j (by simp at hj; omega)
      rw [← e]; simpa using this
  generalize hkk : idxOf p xs = kk at hix
  have hkb : -1 ≤ kk ∧ kk ≤ 9223372036854775806 := by
    rcases hix with ⟨rfl, _⟩ | ⟨k, y, rfl, hy, _⟩
    · omega
    · have := (List.getElem?_eq_some_iff.1 hy).1; omega
  repeat' (first | (apply isL; first | apply L_nil | refine L_move rfl rfl ?_ | (apply isCall; first | refine L_lenL rfl rd_ rfl (fun hlen => ?_) | (refine L_callV rfl rfl (c_IndexFunc_cm p hO.rd (fun x hx w' hB' => hpr x hx w' (hgr hB'))) (fun w2 hB2 => ?_); rw [hkk]) ) | (apply isBin; first | refine L_do rfl rfl rfl (do_cmp rfl rfl rfl) ?_ | refine L_do rfl rfl rfl (do_add rfl rfl om_) ?_ ) | (apply isLoad; first | refine L_loadPt rfl (by rfl) pt_ (by rfl) rfl ?_ | refine L_loadPt2 rfl (by rfl) pt_ (by rfl) rfl ?_ | refine L_loadPt0 rfl pt_ (by rfl) rfl ?_ | refine L_loadAgg rfl pt_ (by rfl) rfl ?_ | refine L_loadSub rfl (by rfl) pt_ (by rfl) rfl ?_) | refine L_assign rfl rfl ?_ | refine L_do rfl rfl rfl (do_notDec rfl) ?_ | refine L_do rfl rfl rfl (do_not rfl) ?_ | refine L_indexL rfl rfl rd_ (by rfl) om_ om_ rfl (fun a y hy hab hp => ?_) | (apply isAllocStore; refine L_allocStoreV (w0 := w) bw_ rfl rfl rfl rfl ?_ rfl (fun w1 hz1 hB hB1 hv => ?_); (focus (first | exact Ty.one _ _ | simp [Value.oneCell'])); have hp := pt_of_block hv) ) | (apply isW; first | apply W_seq | apply W_region | refine W_cond_dec rfl (fun hg => ?_) (fun hg => ?_) | refine W_cond_true rfl ?_ | refine W_cond_false rfl ?_ | refine W_cond rfl (fun hg => ?_) (fun hg => ?_) | apply W_skip | apply W_ret | apply W_exit | apply W_block) | (apply isAt; first | apply At_then | apply At_then_ret | apply At_then_exit | apply At_block_normal | apply At_block_ret | apply At_block_hit | refine At_block_miss rfl ?_ | refine At_end1 rfl rfl ?_ | refine At_end1n rfl rfl ?_ | refine At_end2 rfl rfl rfl ?_ | refine At_end3 rfl rfl rfl rfl ?_ | refine At_end4 rfl rfl rfl rfl rfl ?_ | refine At_end5 rfl rfl rfl rfl rfl rfl ?_ | refine At_mix kp_ ?_))
  · have h1 := (hix.resolve_right (fun ⟨k, y, e, _⟩ => by omega)).2
    have hf : xs.filter (fun x => !p x) = xs := List.filter_eq_self.2 (fun x hx => by rw [h1 x hx]; rfl)
    exact ⟨by rw [hf]; exact hO.ext hB2, rfl, hgr hB2⟩
  obtain ⟨k0, y0, rfl, hy0, hp0, hpre⟩ := hix.resolve_left (fun e => by omega)
  have hk0 := (List.getElem?_eq_some_iff.1 hy0).1
  have hO2 := hO.ext hB2
  have hg2 := hgr hB2
  have hlt : ∀ k, v.ownBlock = some k → k < w.heap.size := fun k hk => (hO.lt k hk).2
  have ht0 : xs.take k0 = (xs.take (k0 + 1)).filter (fun x => !p x) := by
    rw [List.take_add_one, hy0, List.filter_append, List.filter_eq_self.2 (fun x hx => by rw [hpre x hx]; rfl)]
    simp [hp0]
  refine W_loopF (fun m fr w' => ∃ (i j : Nat) (L : List Cm), m = xs.length - j ∧ j ≤ xs.length ∧ i < j ∧ fr = [(0, v), (1, .func (.func f) #[] cap.toArray), (5, .int .i64 i), (6, .int .i64 j)] ∧ OwL tCm w' base 35 v L ∧ L.length = xs.length ∧ L.take i = (xs.take j).filter (fun x => !p x) ∧ L.drop j = xs.drop j ∧ w.grownBy w' v.ownBlock) (xs.length - (k0 + 1))
    [(0, v), (1, .func (.func f) #[] cap.toArray), (5, .int .i64 k0), (6, .int .i64 ((k0 + 1 : Nat) : Int))] sl_ ⟨k0, k0 + 1, xs, rfl, by omega, by omega, rfl, hO2, rfl, ht0, rfl, hg2⟩ ?_
  clear hO2 hg2 hB2
  rintro _ _ w' ⟨i, j, L, rfl, hj, hij, rfl, hI, hLl, hLt, hLd, hgw⟩
  rcases Nat.lt_or_ge j xs.length with hjl | hjl
  · obtain ⟨y, hy⟩ : ∃ y, xs[j]? = some y := ⟨_, List.getElem?_eq_getElem hjl⟩
    obtain ⟨h1, h2, h3⟩ := del_step hLl hij hjl hLt hLd hy
    have hym := List.mem_of_getElem? hy
    cases hpy : p y
    all_goals
      rw [hpy] at h2 h3
      repeat' (first | (apply isL; first | apply L_nil | refine L_move rfl rfl ?_ | (apply isCall; first | refine L_lenL rfl rd_ rfl (fun hlen => ?_) | refine L_lenL rfl hI.rd rfl (fun hlen => ?_) | (refine L_callFn rfl rfl rfl (hpr _ hym _ hg4) (fun w5 hB5 => ?_); rw [hpy]; have hI2 := (hI.ext hC4).ext hB5; have hpy5 := hpy4.ext hB5; have hg5 := kp_below hg4 hB5) ) | (apply isBin; first | refine L_do rfl rfl rfl (do_cmp rfl rfl rfl) ?_ | refine L_do rfl rfl rfl (do_add rfl rfl om_) ?_ ) | (apply isLoad; first | refine L_loadPt rfl (by rfl) pt_ (by rfl) rfl ?_ | refine L_loadPt2 rfl (by rfl) pt_ (by rfl) rfl ?_ | refine L_loadPt0 rfl pt_ (by rfl) rfl ?_ | refine L_loadAgg rfl pt_ (by rfl) rfl ?_ | refine L_loadSub rfl (by rfl) pt_ (by rfl) rfl ?_) | refine L_assign rfl rfl ?_ | refine L_do rfl rfl rfl (do_notDec rfl) ?_ | refine L_do rfl rfl rfl (do_not rfl) ?_ | (have := hvy; clear this; refine L_indexOwn rfl rfl hI2 rfl om_ om_ rfl (fun gv yo hyo hgv => ?_)) | (refine L_indexL rfl rfl hI.rd (by rfl) om_ om_ rfl (fun a yy hyy hab hp => ?_); have hyx : L[j]? = some yy := hyy; rw [h1] at hyx; obtain rfl := Option.some.inj hyx) | (apply isAllocStore; refine L_allocStoreV (w0 := _) (Below.refl _ _) rfl rfl rfl rfl ?_ rfl (fun w4 hz4 hB4 hC4 hvy => ?_); (focus (exact tCm.one _)); have hpy4 := pt_of_block hvy; have hg4 := kp_below hgw hC4) | (apply isStore; refine L_storeElemG (off := 0) (k := i) rfl rfl hI2 rfl hgv hyo (cs := tCm.enc y) rfl rfl (tCm.one _) (Nat.le_of_ble_eq_true rfl) (y1 := y) rfl (fun w6 hO6 hg6 hz6 => ?_)) | refine L_indexL rfl rfl rd_ (by rfl) om_ om_ rfl (fun a y hy hab hp => ?_) | (apply isAllocStore; refine L_allocStoreV (w0 := w) bw_ rfl rfl rfl rfl ?_ rfl (fun w1 hz1 hB hB1 hv => ?_); (focus (first | exact Ty.one _ _ | simp [Value.oneCell'])); have hp := pt_of_block hv) ) | (apply isW; first | apply W_seq | apply W_region | refine W_cond_dec rfl (fun hg => ?_) (fun hg => ?_) | refine W_cond_true rfl ?_ | refine W_cond_false rfl ?_ | refine W_cond rfl (fun hg => ?_) (fun hg => ?_) | apply W_skip | apply W_ret | apply W_exit | apply W_block) | (apply isAt; first | apply At_then | apply At_then_ret | apply At_then_exit | apply At_block_normal | apply At_block_ret | apply At_block_hit | refine At_block_miss rfl ?_ | refine At_end1 rfl rfl ?_ | refine At_end1n rfl rfl ?_ | refine At_end2 rfl rfl rfl ?_ | refine At_end3 rfl rfl rfl rfl ?_ | refine At_end4 rfl rfl rfl rfl rfl ?_ | refine At_end5 rfl rfl rfl rfl rfl rfl ?_ | refine At_mix kp_ ?_))
    all_goals first | (exfalso; omega) | (exfalso; simp at hg; done) | skip
    · exact At_round _ [(0, v), (1, .func (.func f) #[] cap.toArray), (5, .int .i64 ((i + 1 : Nat) : Int)), (6, .int .i64 ((j + 1 : Nat) : Int))] sl_ (by omega) ⟨i + 1, j + 1, _, rfl, by omega, by omega, rfl, hO6, by simp; omega, (h2 rfl).1, (h2 rfl).2, kp_row hg5 (by rw [hgv]; exact hg6)⟩
    · exact At_round _ [(0, v), (1, .func (.func f) #[] cap.toArray), (5, .int .i64 i), (6, .int .i64 ((j + 1 : Nat) : Int))] sl_ (by omega) ⟨i, j + 1, L, rfl, by omega, by omega, rfl, hI2, hLl, (h3 rfl).1, (h3 rfl).2, hg5⟩
  · obtain ⟨g, capn, cur, rfl, _, _, hnc, _⟩ := hI.row (fun e => by rw [e] at hLl; simp at hLl; omega)
    rw [List.take_of_length_le (show xs.length ≤ j by omega)] at hLt
    repeat' (first | (apply isL; first | apply L_nil | refine L_move rfl rfl ?_ | (apply isCall; first | refine L_lenL rfl rd_ rfl (fun hlen => ?_) | refine L_lenL rfl hI.rd rfl (fun hlen => ?_) ) | (apply isBin; first | refine L_do rfl rfl rfl (do_cmp rfl rfl rfl) ?_ | refine L_do rfl rfl rfl (do_add rfl rfl om_) ?_ ) | (apply isLoad; first | refine L_loadPt rfl (by rfl) pt_ (by rfl) rfl ?_ | refine L_loadPt2 rfl (by rfl) pt_ (by rfl) rfl ?_ | refine L_loadPt0 rfl pt_ (by rfl) rfl ?_ | refine L_loadAgg rfl pt_ (by rfl) rfl ?_ | refine L_loadSub rfl (by rfl) pt_ (by rfl) rfl ?_) | refine L_assign rfl rfl ?_ | refine L_do rfl rfl rfl (do_notDec rfl) ?_ | refine L_do rfl rfl rfl (do_not rfl) ?_ | refine L_do rfl rfl rfl (do_sliceRowL rfl rfl om_ om_) ?_ | refine L_clearOwn rfl hI rfl rfl (i := i) om_ rfl (y0 := (⟨[], ⟨0, 0⟩, ⟨0, 0⟩⟩ : Cm)) rfl (fun w4 hO4 hg4 hz4 => ?_) | refine L_sliceOwnH rfl rfl hO4 rfl om_ (by simp; omega) rfl (fun v5 hO5 hob5 => ?_) | refine L_indexL rfl rfl rd_ (by rfl) om_ om_ rfl (fun a y hy hab hp => ?_) | (apply isAllocStore; refine L_allocStoreV (w0 := w) bw_ rfl rfl rfl rfl ?_ rfl (fun w1 hz1 hB hB1 hv => ?_); (focus (first | exact Ty.one _ _ | simp [Value.oneCell'])); have hp := pt_of_block hv) ) | (apply isW; first | apply W_seq | apply W_region | refine W_cond_dec rfl (fun hg => ?_) (fun hg => ?_) | refine W_cond_true rfl ?_ | refine W_cond_false rfl ?_ | refine W_cond rfl (fun hg => ?_) (fun hg => ?_) | apply W_skip | apply W_ret | apply W_exit | apply W_block) | (apply isAt; first | apply At_then | apply At_then_ret | apply At_then_exit | apply At_block_normal | apply At_block_ret | apply At_block_hit | refine At_block_miss rfl ?_ | refine At_end1 rfl rfl ?_ | refine At_end1n rfl rfl ?_ | refine At_end2 rfl rfl rfl ?_ | refine At_end3 rfl rfl rfl rfl ?_ | refine At_end4 rfl rfl rfl rfl rfl ?_ | refine At_end5 rfl rfl rfl rfl rfl rfl ?_ | refine At_mix kp_ ?_))
    all_goals first | (exfalso; omega) | (exfalso; simp at hg; done) | skip
    have e : (L.take i ++ List.replicate (L.length - i) (⟨[], ⟨0, 0⟩, ⟨0, 0⟩⟩ : Cm)).take (i : Int).toNat = xs.filter (fun x => !p x) := by
      rw [← hLt]
      exact List.take_left' (by simp; omega)
    rw [e] at hO5
    exact ⟨hO5, hob5, kp_row hgw hg4⟩
end Go.Proofs.YtjobbcdolbhadaaGreatDoor
