/-
  Contracts: numbers are written over all numbers of files of the call's own; what changes by it.
-/
import Derived.Test.YtpdkajcnnanocaaDoorMarks
import Derived.Test.YtpdkajcnnanocaaDoorBlob
import Derived.Test.YtpdkajcnnanocaaDoorOpen
namespace Go.Proofs.YtpdkajcnnanocaaDoor
open Go Go.RowKit
set_option linter.unusedVariables false

/-- Nothing has changed but blocks from lo below hi. -/
structure Within (lo hi : Nat) (w w' : World) : Prop where
  os : w'.os = w.os
  tape : w'.tape = w.tape
  output : w'.output = w.output
  size : w.heap.size ≤ w'.heap.size
  block : ∀ i, i < w.heap.size → (i < lo ∨ hi ≤ i) → w'.heap[i]? = w.heap[i]?
theorem Within.refl (lo hi : Nat) (w : World) : Within lo hi w w := ⟨rfl, rfl, rfl, Nat.le_refl _, fun _ _ _ => rfl⟩
theorem Within.grown {lo hi : Nat} {w w1 w2 : World} {row : Option Nat} (h : Within lo hi w w1) (hg : w1.grownBy w2 row) (hr : ∀ b, row = some b → lo ≤ b ∧ b < hi) : Within lo hi w w2 :=
  ⟨hg.os.trans h.os, hg.tape.trans h.tape, hg.output.trans h.output, Nat.le_trans h.size hg.size, fun i hi' hn => (hg.block i (Nat.lt_of_lt_of_le hi' h.size) (fun e => by have := hr i e.symm; omega)).trans (h.block i hi' hn)⟩
theorem Within.step {lo hi : Nat} {w w1 w2 : World} (h : Within lo hi w w1) (hB : Below w1.heap.size w1 w2) : Within lo hi w w2 :=
  h.grown (row := none) ⟨hB.os, hB.tape, hB.output, hB.size, fun k hk _ => hB.block k hk⟩ (fun b hb => by cases hb)
theorem Within.below {lo hi B : Nat} {w w' : World} (h : Within lo hi w w') (hB : B ≤ lo) (hw : B ≤ w.heap.size) : Below B w w' :=
  ⟨h.os, h.tape, h.output, h.size, fun i hi' => h.block i (by omega) (.inl (by omega))⟩
theorem RdL.within {α : Type} {T : Ty α} {lo hi : Nat} {w w' : World} {v : Value} {xs : List α} (h : RdL T w v xs) (hW : Within lo hi w w') (hn : ∀ b, v.ownBlock = some b → b < lo ∨ hi ≤ b) : RdL T w' v xs :=
  h.kept fun b hb hlt => hW.block b hlt (hn b hb)
theorem OwL.within {α : Type} {T : Ty α} {lo hi base e : Nat} {w w' : World} {v : Value} {xs : List α} (h : OwL T w base e v xs) (hW : Within lo hi w w') (hb : hi ≤ base) : OwL T w' base e v xs := by
  obtain ⟨h1, h2⟩ := h.own
  refine ⟨h1, ?_⟩
  rcases h2 with h2 | ⟨g, cap, cur, h3, h4, h5, h6⟩
  · exact .inl h2
  · refine .inr ⟨g, cap, cur, h3, h4, ?_, h6⟩
    rw [hW.block g (Array.getElem?_eq_some_iff.1 h5).1 (.inr (by omega))]
    exact h5

theorem sl_marked {w w' : World} {base lo hi : Nat} {q s : Value} {zs xs ys : List Int} (hq : OwL tInt w base 3 q zs) (fq : FullSl lo hi q zs.length) (hs : OwL tInt w base 3 s xs) (fs : FullSl lo hi s xs.length)
    (hg : w.grownBy w' s.ownBlock) (hs' : OwL tInt w' base 3 s ys) (hl : ys.length = xs.length) : ∃ zs', OwL tInt w' base 3 q zs' ∧ zs'.length = zs.length := by
  obtain ⟨g1, rfl, _, _⟩ := fq
  obtain ⟨g2, rfl, _, _⟩ := fs
  by_cases e : g1 = g2
  · subst e
    obtain ⟨_, k1⟩ := hq.own
    obtain ⟨_, k2⟩ := hs.own
    rcases k1 with ⟨k1, _⟩ | ⟨a1, c1, u1, e1, _, hc1, _, _, hz1, _⟩
    · cases k1
    rcases k2 with ⟨k2, _⟩ | ⟨a2, c2, u2, e2, _, hc2, _, _, hz2, _⟩
    · cases k2
    injection e1 with e1 _ e1c
    injection e2 with e2 _ e2c
    have ea1 : g1 = a1 := by simpa using e1
    have ea2 : g1 = a2 := by simpa using e2
    subst ea1; subst ea2
    rw [hc1] at hc2
    injection hc2 with hc2
    injection hc2 with hc2 _ _
    subst hc2
    simp only [tInt] at hz1 hz2
    have hzx : zs.length = xs.length := by omega
    refine ⟨ys, ?_, by omega⟩
    rw [hzx]
    exact hs'
  · exact ⟨zs, hq.kept hg (.inr (by simp [Value.ownBlock]; exact e)), rfl⟩

/-- The lengths in bs' are those in bs. -/
def SameLens (bs bs' : List Bl) : Prop := bs'.length = bs.length ∧ ∀ (i : Nat) b b', bs[i]? = some b → bs'[i]? = some b' → b'.safe.length = b.safe.length ∧ b'.fresh.length = b.fresh.length
theorem OwFl.marked {w w' : World} {base hi : Nat} {v s : Value} {rows : List Row3} {bs : List Bl} {xs ys : List Int} (h : OwFl w base hi v rows bs) (hs : OwL tInt w base 3 s xs) (fs : FullSl base hi s xs.length)
    (hg : w.grownBy w' s.ownBlock) (hs' : OwL tInt w' base 3 s ys) (hl : ys.length = xs.length) : ∃ bs', OwFl w' base hi v rows bs' ∧ SameLens bs bs' := by
  obtain ⟨bs', hbl, hb⟩ := list_of_choice (α := Bl) rows.length (fun i b' => ∀ r, rows[i]? = some r → ∃ b, bs[i]? = some b ∧ r.name = b'.name ∧ OwL tInt w' base 3 r.safe b'.safe ∧ OwL tInt w' base 3 r.fresh b'.fresh ∧ b'.safe.length = b.safe.length ∧ b'.fresh.length = b.fresh.length) (fun i hi' => by
    have hr := List.getElem?_eq_getElem hi'
    obtain ⟨b, hb, h1, h2, h3, h4, h5⟩ := h.at_ i _ hr
    obtain ⟨zs1, m1, l1⟩ := sl_marked h2 h4 hs fs hg hs' hl
    obtain ⟨zs2, m2, l2⟩ := sl_marked h3 h5 hs fs hg hs' hl
    refine ⟨⟨b.name, zs1, zs2⟩, fun r hr' => ?_⟩
    rw [hr] at hr'
    cases hr'
    exact ⟨b, hb, h1, m1, m2, l1, l2⟩)
  refine ⟨bs', ⟨h.own.kept hg (h.own.ne_ty hs (by decide)), h.top, by omega, fun i r hr => ?_⟩, ⟨by rw [hbl, h.len], fun i b b' h1 h2 => ?_⟩⟩
  · have hlt := (List.getElem?_eq_some_iff.1 hr).1
    have hb' := List.getElem?_eq_getElem (show i < bs'.length by omega)
    obtain ⟨b, k0, k1, k2, k3, k4, k5⟩ := hb i _ hb' r hr
    obtain ⟨b2, hb2, _, _, _, f1, f2⟩ := h.at_ i r hr
    rw [k0] at hb2
    cases hb2
    exact ⟨_, hb', k1, k2, k3, by rw [k4]; exact f1, by rw [k5]; exact f2⟩
  · have hlt := (List.getElem?_eq_some_iff.1 h2).1
    have hr := List.getElem?_eq_getElem (show i < rows.length by omega)
    obtain ⟨b2, k0, _, _, _, k4, k5⟩ := hb i _ h2 _ hr
    rw [h1] at k0
    cases k0
    exact ⟨k4, k5⟩
theorem SameLens.refl (bs : List Bl) : SameLens bs bs := ⟨rfl, fun i b b' h1 h2 => by rw [h1] at h2; cases h2; exact ⟨rfl, rfl⟩⟩
theorem SameLens.trans {a b c : List Bl} (h : SameLens a b) (k : SameLens b c) : SameLens a c := ⟨k.1.trans h.1, fun i x z hx hz => by
  have hi := (List.getElem?_eq_some_iff.1 hx).1
  have hy := List.getElem?_eq_getElem (show i < b.length by rw [h.1]; exact hi)
  have h1 := h.2 i x _ hx hy
  have h2 := k.2 i _ z hy hz
  exact ⟨h2.1.trans h1.1, h2.2.trans h1.2⟩⟩

theorem OwFl.named {w w' : World} {base hi : Nat} {v : Value} {rows : List Row3} {bs : List Bl} {i : Nat} {r : Row3} {b : Bl} {y : Int} (h : OwFl w base hi v rows bs) (hr : rows[i]? = some r) (hb : bs[i]? = some b) (hB : w.grownBy w' v.ownBlock)
    (hO : OwL tRow3 w' base 40 v (rows.set i ⟨y, r.safe, r.fresh, r.s1, r.s2⟩)) : OwFl w' base hi v (rows.set i ⟨y, r.safe, r.fresh, r.s1, r.s2⟩) (bs.set i ⟨y, b.safe, b.fresh⟩) := by
  have hi' := (List.getElem?_eq_some_iff.1 hr).1
  have hi2 := (List.getElem?_eq_some_iff.1 hb).1
  refine ⟨hO, h.top, by simp [h.len], fun j r' hr' => ?_⟩
  by_cases e : i = j
  · subst e
    rw [List.getElem?_set_self hi'] at hr'
    cases hr'
    obtain ⟨b', hb', k1, k2, k3, k4⟩ := h.at_ i r hr
    rw [hb] at hb'; cases hb'
    exact ⟨_, List.getElem?_set_self hi2, rfl, k2.kept hB (k2.ne_ty h.own (by decide)), k3.kept hB (k3.ne_ty h.own (by decide)), k4⟩
  · rw [List.getElem?_set_ne e] at hr'
    obtain ⟨b', hb', k1, k2, k3, k4⟩ := h.at_ j r' hr'
    exact ⟨b', by rw [List.getElem?_set_ne e]; exact hb', k1, k2.kept hB (k2.ne_ty h.own (by decide)), k3.kept hB (k3.ne_ty h.own (by decide)), k4⟩
theorem SameLens.named {bs cs : List Bl} {i : Nat} {c : Bl} {y : Int} (h : SameLens bs cs) (hc : cs[i]? = some c) : SameLens bs (cs.set i ⟨y, c.safe, c.fresh⟩) := by
  refine ⟨by simp [h.1], fun j b b' hb hb' => ?_⟩
  have hi2 := (List.getElem?_eq_some_iff.1 hc).1
  by_cases e : i = j
  · subst e
    rw [List.getElem?_set_self hi2] at hb'
    cases hb'
    exact h.2 i b c hb hc
  · rw [List.getElem?_set_ne e] at hb'
    exact h.2 j b b' hb hb'
theorem FullSl.own {lo hi n : Nat} {v : Value} (h : FullSl lo hi v n) : ∀ b, v.ownBlock = some b → lo ≤ b ∧ b < hi := by
  obtain ⟨g, rfl, h1, h2⟩ := h
  intro b hb
  have : g = b := by simpa [Value.ownBlock] using hb
  omega

theorem c_markBlobS {v : Value} {rows : List Row3} {bs : List Bl} {w : World} {base hi : Nat} (h : OwFl w base hi v rows bs) (hsm : Small bs) :
    Cl Tryd.prog 11 [v, .int .i64 1] w (fun u w' => ∃ k : Nat, u = .int .i64 k ∧ Within base hi w w') := by
  refine calls_start 34 Tryd.func11 rfl rfl rfl ?_
  have hln := h.len
  have hsz := hsm.1
  repeat' (first | (apply isL; first | apply L_nil | refine L_move rfl rfl ?_ | (apply isCall; first | refine L_lenL rfl rd_ rfl (fun hlen => ?_) ) | (apply isBin; first | refine L_do rfl rfl rfl (do_cmp rfl rfl rfl) ?_ | refine L_do rfl rfl rfl (do_add rfl rfl om_) ?_ ) | (apply isLoad; first | refine L_loadPt rfl (by rfl) pt_ (by rfl) rfl ?_ | refine L_loadPt2 rfl (by rfl) pt_ (by rfl) rfl ?_ | refine L_loadPt0 rfl pt_ (by rfl) rfl ?_ | refine L_loadAgg rfl pt_ (by rfl) rfl ?_ | refine L_loadSub rfl (by rfl) pt_ (by rfl) rfl ?_) | refine L_assign rfl rfl ?_ | refine L_do rfl rfl rfl (do_fieldAddr rfl) ?_ | refine L_indexL rfl rfl rd_ (by rfl) om_ om_ rfl (fun a y hy hab hp => ?_) ) | (apply isW; first | apply W_seq | apply W_region | refine W_cond_dec rfl (fun hg => ?_) (fun hg => ?_) | refine W_cond_true rfl ?_ | refine W_cond_false rfl ?_ | refine W_cond rfl (fun hg => ?_) (fun hg => ?_) | apply W_skip | apply W_ret | apply W_exit | apply W_block) | (apply isAt; first | apply At_then | apply At_then_ret | apply At_then_exit | apply At_block_normal | apply At_block_ret | apply At_block_hit | refine At_block_miss rfl ?_ | refine At_end1 rfl rfl ?_ | refine At_end1n rfl rfl ?_ | refine At_end2 rfl rfl rfl ?_ | refine At_end3 rfl rfl rfl rfl ?_ | refine At_end4 rfl rfl rfl rfl rfl ?_ | refine At_mix kp_ ?_))
  refine W_loopF (fun m fr w' => ∃ (k q : Nat) (rs : List Row3) (cs : List Bl), m = rows.length - k ∧ k ≤ rows.length ∧ q ≤ 1 + k * 2097153 ∧ fr = [(0, v), (1, .int .i64 q), (5, .int .i64 k)] ∧ OwFl w' base hi v rs cs ∧ SameLens bs cs ∧ Within base hi w w') rows.length
    [(0, v), (1, .int .i64 1), (5, .int .i64 0)] sl_ ⟨0, 1, rows, bs, rfl, Nat.zero_le _, by omega, rfl, h, .refl _, .refl _ _ _⟩ ?_
  rintro _ _ w' ⟨k, q, rs, cs, rfl, hk, hq, rfl, hO, hL, hW⟩
  have hlc := hO.len
  have hlb := hL.1
  have hrd := hO.own.rd
  rcases Nat.lt_or_ge k rows.length with hkl | hkl
  · obtain ⟨r, hr⟩ : ∃ r, rs[(k : Int).toNat]? = some r := ⟨_, List.getElem?_eq_getElem (show k < rs.length by omega)⟩
    obtain ⟨c, hc, hn, hs, hf, fs, ff⟩ := hO.at_ _ _ hr
    obtain ⟨b, hb⟩ : ∃ b, bs[(k : Int).toNat]? = some b := ⟨_, List.getElem?_eq_getElem (show k < bs.length by omega)⟩
    have hlens := hL.2 _ _ _ hb hc
    have hbs := hsm.2 b (List.mem_of_getElem? hb)
    repeat' (first | (apply isL; first | apply L_nil | refine L_move rfl rfl ?_ | (apply isCall; first | refine L_lenL rfl rd_ rfl (fun hlen => ?_) | refine L_lenL rfl hrd rfl (fun hlen => ?_) ) | (apply isBin; first | refine L_do rfl rfl rfl (do_cmp rfl rfl rfl) ?_ | refine L_do rfl rfl rfl (do_add rfl rfl om_) ?_ ) | (apply isLoad; first | refine L_loadPt rfl (by rfl) pt_ (by rfl) rfl ?_ | refine L_loadPt2 rfl (by rfl) pt_ (by rfl) rfl ?_ | refine L_loadPt0 rfl pt_ (by rfl) rfl ?_ | refine L_loadAgg rfl pt_ (by rfl) rfl ?_ | refine L_loadSub rfl (by rfl) pt_ (by rfl) rfl ?_) | refine L_assign rfl rfl ?_ | refine L_do rfl rfl rfl (do_fieldAddr rfl) ?_ | refine L_indexOwn rfl rfl hO.own rfl om_ om_ rfl (fun ge ye hye hge => ?_) | refine L_storeElemG (off := 0) (k := k) rfl rfl hO.own (addr_add0 _ _ _) hge hr (cs := [.int .i64 q]) rfl rfl (by simp [Value.oneCell']) (Nat.le_of_ble_eq_true rfl) (y1 := ⟨q, r.safe, r.fresh, r.s1, r.s2⟩) rfl (fun w8 hO8 hg8 hz8 => ?_) | refine L_indexL rfl rfl rd_ (by rfl) om_ om_ rfl (fun a y hy hab hp => ?_) ) | (apply isW; first | apply W_seq | apply W_region | refine W_cond_dec rfl (fun hg => ?_) (fun hg => ?_) | refine W_cond_true rfl ?_ | refine W_cond_false rfl ?_ | refine W_cond rfl (fun hg => ?_) (fun hg => ?_) | apply W_skip | apply W_ret | apply W_exit | apply W_block) | (apply isAt; first | apply At_then | apply At_then_ret | apply At_then_exit | apply At_block_normal | apply At_block_ret | apply At_block_hit | refine At_block_miss rfl ?_ | refine At_end1 rfl rfl ?_ | refine At_end1n rfl rfl ?_ | refine At_end2 rfl rfl rfl ?_ | refine At_end3 rfl rfl rfl rfl ?_ | refine At_end4 rfl rfl rfl rfl rfl ?_ | refine At_mix kp_ ?_))
    · have hv8 : w'.grownBy w8 v.ownBlock := by rw [hge]; exact hg8
      have hO8' := hO.named (y := q) hr hc hv8 hO8
      have hL8 := hL.named (y := q) hc
      have hW8 := hW.grown hv8 (fun b hb => ⟨(hO.own.lt b hb).1, hO.top b hb⟩)
      have hr8 : (rs.set (k : Int).toNat ⟨q, r.safe, r.fresh, r.s1, r.s2⟩)[(k : Int).toNat]? = some ⟨q, r.safe, r.fresh, r.s1, r.s2⟩ := List.getElem?_set_self (show k < rs.length by omega)
      clear hO hL hW hv8 hg8 hO8 hrd hs hf fs ff
      obtain ⟨rs8, hrs8⟩ : ∃ x, x = rs.set (k : Int).toNat ⟨q, r.safe, r.fresh, r.s1, r.s2⟩ := ⟨_, rfl⟩
      obtain ⟨cs8, hcs8⟩ : ∃ x, x = cs.set (k : Int).toNat ⟨q, c.safe, c.fresh⟩ := ⟨_, rfl⟩
      have hll8 : rs8.length = rs.length := by rw [hrs8]; simp
      rw [← hrs8] at hO8' hr8
      rw [← hcs8] at hO8' hL8
      obtain ⟨c8, hc8, _, hs8, _, fs8, _⟩ := hO8'.at_ _ _ hr8
      have hle8 := (hL8.2 _ _ _ hb hc8).1
      have hrd8 := hO8'.own.rd
      repeat' (first | (apply isL; first | apply L_nil | refine L_move rfl rfl ?_ | (apply isCall; first | refine L_lenL rfl rd_ rfl (fun hlen => ?_) | (obtain rfl := Option.some.inj (hr8.symm.trans hy); refine L_call rfl rfl (c_markIntS hs8 om_ om_) (fun _ w9 hR => ?_); obtain ⟨rfl, hm9, hg9, hz9⟩ := hR) ) | (apply isBin; first | refine L_do rfl rfl rfl (do_cmp rfl rfl rfl) ?_ | refine L_do rfl rfl rfl (do_add rfl rfl om_) ?_ ) | (apply isLoad; first | refine L_loadPt rfl (by rfl) pt_ (by rfl) rfl ?_ | refine L_loadPt2 rfl (by rfl) pt_ (by rfl) rfl ?_ | refine L_loadPt0 rfl pt_ (by rfl) rfl ?_ | refine L_loadAgg rfl pt_ (by rfl) rfl ?_ | refine L_loadSub rfl (by rfl) pt_ (by rfl) rfl ?_) | refine L_assign rfl rfl ?_ | refine L_do rfl rfl rfl (do_fieldAddr rfl) ?_ | refine L_indexL rfl rfl hrd8 rfl om_ om_ rfl (fun a y hy hab hp => ?_) | refine L_indexL rfl rfl rd_ (by rfl) om_ om_ rfl (fun a y hy hab hp => ?_) ) | (apply isW; first | apply W_seq | apply W_region | refine W_cond_dec rfl (fun hg => ?_) (fun hg => ?_) | refine W_cond_true rfl ?_ | refine W_cond_false rfl ?_ | refine W_cond rfl (fun hg => ?_) (fun hg => ?_) | apply W_skip | apply W_ret | apply W_exit | apply W_block) | (apply isAt; first | apply At_then | apply At_then_ret | apply At_then_exit | apply At_block_normal | apply At_block_ret | apply At_block_hit | refine At_block_miss rfl ?_ | refine At_end1 rfl rfl ?_ | refine At_end1n rfl rfl ?_ | refine At_end2 rfl rfl rfl ?_ | refine At_end3 rfl rfl rfl rfl ?_ | refine At_end4 rfl rfl rfl rfl rfl ?_ | refine At_mix kp_ ?_))
      obtain ⟨cs9, hO9, hL9⟩ := hO8'.marked hs8 fs8 hg9 hm9 (marks_len _ _)
      have hW9 := hW8.grown hg9 fs8.own
      obtain ⟨c9, hc9, _, _, hf9, _, ff9⟩ := hO9.at_ _ _ hr8
      have hL9' := hL8.trans hL9
      have hle9 := (hL9'.2 _ _ _ hb hc9).2
      have hrd9 := hO9.own.rd
      clear hO8' hL8 hL9 hrd8 hs8 fs8 hg9 hm9 hW8
      repeat' (first | (apply isL; first | apply L_nil | refine L_move rfl rfl ?_ | (apply isCall; first | refine L_lenL rfl rd_ rfl (fun hlen => ?_) | (obtain rfl := Option.some.inj (hr8.symm.trans hy); refine L_call rfl rfl (c_markIntS hf9 om_ om_) (fun _ w10 hR => ?_); obtain ⟨rfl, hm10, hg10, hz10⟩ := hR) ) | (apply isBin; first | refine L_do rfl rfl rfl (do_cmp rfl rfl rfl) ?_ | refine L_do rfl rfl rfl (do_add rfl rfl om_) ?_ ) | (apply isLoad; first | refine L_loadPt rfl (by rfl) pt_ (by rfl) rfl ?_ | refine L_loadPt2 rfl (by rfl) pt_ (by rfl) rfl ?_ | refine L_loadPt0 rfl pt_ (by rfl) rfl ?_ | refine L_loadAgg rfl pt_ (by rfl) rfl ?_ | refine L_loadSub rfl (by rfl) pt_ (by rfl) rfl ?_) | refine L_assign rfl rfl ?_ | refine L_do rfl rfl rfl (do_fieldAddr rfl) ?_ | refine L_indexL rfl rfl hrd9 rfl om_ om_ rfl (fun a y hy hab hp => ?_) | refine L_indexL rfl rfl rd_ (by rfl) om_ om_ rfl (fun a y hy hab hp => ?_) ) | (apply isW; first | apply W_seq | apply W_region | refine W_cond_dec rfl (fun hg => ?_) (fun hg => ?_) | refine W_cond_true rfl ?_ | refine W_cond_false rfl ?_ | refine W_cond rfl (fun hg => ?_) (fun hg => ?_) | apply W_skip | apply W_ret | apply W_exit | apply W_block) | (apply isAt; first | apply At_then | apply At_then_ret | apply At_then_exit | apply At_block_normal | apply At_block_ret | apply At_block_hit | refine At_block_miss rfl ?_ | refine At_end1 rfl rfl ?_ | refine At_end1n rfl rfl ?_ | refine At_end2 rfl rfl rfl ?_ | refine At_end3 rfl rfl rfl rfl ?_ | refine At_end4 rfl rfl rfl rfl rfl ?_ | refine At_mix kp_ ?_))
      obtain ⟨cs10, hO10, hL10⟩ := hO9.marked hf9 ff9 hg10 hm10 (marks_len _ _)
      have hW10 := hW9.grown hg10 ff9.own
      refine At_round _ [(0, v), (1, .int .i64 ((q + 1 + c8.safe.length + c9.fresh.length : Nat) : Int)), (5, .int .i64 ((k + 1 : Nat) : Int))] (by rw [show ((q + 1 + c8.safe.length + c9.fresh.length : Nat) : Int) = (q : Int) + 1 + c8.safe.length + c9.fresh.length by omega]; repeat (first | exact get_nil_slots _ | refine get_cons_slots rfl ?_)) (by omega) ⟨k + 1, _, rs8, cs10, rfl, by omega, by omega, rfl, hO10, hL9'.trans hL10, hW10⟩
    · exfalso; omega
  · repeat' (first | (apply isL; first | apply L_nil | refine L_move rfl rfl ?_ | (apply isCall; first | refine L_lenL rfl rd_ rfl (fun hlen => ?_) | refine L_lenL rfl hrd rfl (fun hlen => ?_) ) | (apply isBin; first | refine L_do rfl rfl rfl (do_cmp rfl rfl rfl) ?_ | refine L_do rfl rfl rfl (do_add rfl rfl om_) ?_ ) | (apply isLoad; first | refine L_loadPt rfl (by rfl) pt_ (by rfl) rfl ?_ | refine L_loadPt2 rfl (by rfl) pt_ (by rfl) rfl ?_ | refine L_loadPt0 rfl pt_ (by rfl) rfl ?_ | refine L_loadAgg rfl pt_ (by rfl) rfl ?_ | refine L_loadSub rfl (by rfl) pt_ (by rfl) rfl ?_) | refine L_assign rfl rfl ?_ | refine L_do rfl rfl rfl (do_fieldAddr rfl) ?_ | refine L_indexL rfl rfl rd_ (by rfl) om_ om_ rfl (fun a y hy hab hp => ?_) ) | (apply isW; first | apply W_seq | apply W_region | refine W_cond_dec rfl (fun hg => ?_) (fun hg => ?_) | refine W_cond_true rfl ?_ | refine W_cond_false rfl ?_ | refine W_cond rfl (fun hg => ?_) (fun hg => ?_) | apply W_skip | apply W_ret | apply W_exit | apply W_block) | (apply isAt; first | apply At_then | apply At_then_ret | apply At_then_exit | apply At_block_normal | apply At_block_ret | apply At_block_hit | refine At_block_miss rfl ?_ | refine At_end1 rfl rfl ?_ | refine At_end1n rfl rfl ?_ | refine At_end2 rfl rfl rfl ?_ | refine At_end3 rfl rfl rfl rfl ?_ | refine At_end4 rfl rfl rfl rfl rfl ?_ | refine At_mix kp_ ?_))
    · exfalso; omega
    · exact ⟨q, rfl, hW⟩
end Go.Proofs.YtpdkajcnnanocaaDoor
