/-
  Canonical logs in plain Lean: the order is strict; sorting is one list; a canonical log between good maps is in a possible order; a log in a possible order goes through good maps. No program in sight.
-/
import Derived.Test.YtnemajefpgicgaaDoorLogPlay
import Derived.Test.YtnemajefpgicgaaDoorCanonPlain
namespace Go.Proofs.YtnemajefpgicgaaDoor
open Go Go.RowKit
set_option linter.unusedVariables false
set_option linter.unusedSimpArgs false

theorem befB_irrefl (c : Cm) : befB c c = false := by
  unfold befB; cases endsB c <;> simp [bytesLess_irrefl]
theorem befB_asymm {c d : Cm} (h : befB c d = true) : befB d c = false := by
  unfold befB at *
  cases hc : endsB c <;> cases hd : endsB d <;> simp [hc, hd] at h ⊢ <;> exact bytesLess_asymm h
theorem befB_trans {c d e : Cm} (h : befB c d = true) (h2 : befB d e = true) : befB c e = true := by
  unfold befB at *
  cases hc : endsB c <;> cases hd : endsB d <;> cases he : endsB e <;> simp [hc, hd, he] at h h2 ⊢
  · exact bytesLess_trans h h2
  · exact bytesLess_trans h2 h
theorem befB_total {c d : Cm} (h : ¬ c.path = d.path) : befB c d = true ∨ befB d c = true := by
  unfold befB
  cases hc : endsB c <;> cases hd : endsB d <;> simp
  · exact bytesLess_total h
  · exact bytesLess_total (fun e => h e.symm)
def Sorted (cs : List Cm) : Prop := cs.Pairwise (fun c d => befB c d = true)
theorem sorted_one {xs ys : List Cm} (hx : Sorted xs) (hy : Sorted ys) (h : ∀ c, c ∈ xs ↔ c ∈ ys) : xs = ys :=
  sorted_ext (α := Cm) (lt := fun c d => befB c d = true) (fun a e => by rw [befB_irrefl] at e; cases e) (fun a b e1 e2 => by rw [befB_asymm e1] at e2; cases e2) hx hy h
theorem putC_sorted {c : Cm} : ∀ {xs : List Cm}, Sorted xs → (∀ d ∈ xs, ¬ c.path = d.path) → Sorted (putC c xs)
  | [], _, _ => by simp [putC, Sorted]
  | x :: r, h, hn => by
    have h0 := h
    unfold Sorted at h; rw [List.pairwise_cons] at h
    have ih := putC_sorted (c := c) (xs := r) h.2 (fun d hd => hn d (List.mem_cons_of_mem _ hd))
    unfold putC
    split
    · rename_i hb
      unfold Sorted; rw [List.pairwise_cons]
      refine ⟨fun d hd => ?_, h0⟩
      rcases List.mem_cons.1 hd with rfl | hd
      · exact hb
      · exact befB_trans hb (h.1 d hd)
    · rename_i hb
      have hb2 : befB x c = true := by
        rcases befB_total (hn x (List.mem_cons_self ..)) with h3 | h3
        · exact absurd h3 hb
        · exact h3
      unfold Sorted at ih ⊢; rw [List.pairwise_cons]
      refine ⟨fun d hd => ?_, ih⟩
      rcases putC_mem.1 hd with rfl | hd
      · exact hb2
      · exact h.1 d hd
theorem once_mem {cs : List Cm} (h : Once cs) : cs.Nodup := by
  unfold Once at h
  exact h.imp (fun h e => h (by rw [e]))
theorem sort_fold_sorted : ∀ (l acc : List Cm), (∀ c ∈ l, ∀ d ∈ acc, ¬ c.path = d.path) → Once l → Sorted acc → Sorted (l.foldl (fun out c => putC c out) acc)
  | [], acc, _, _, h => h
  | c :: r, acc, hn, ho, h => by
    have ho2 := ho; unfold Once at ho2; rw [List.pairwise_cons] at ho2
    rw [List.foldl_cons]
    refine sort_fold_sorted r (putC c acc) (fun x hx d hd => ?_) ho2.2 (putC_sorted h (fun d hd => hn c (List.mem_cons_self ..) d hd))
    rcases putC_mem.1 hd with rfl | hd
    · exact fun e => ho2.1 x hx e.symm
    · exact hn x (List.mem_cons_of_mem _ hx) d hd
theorem sortC_sorted {cs : List Cm} (h : Once cs) : Sorted (sortC cs) := sort_fold_sorted cs [] (fun _ _ d hd => by simp at hd) h (by simp [Sorted])
theorem once_of_inj {cs : List Cm} (hn : cs.Nodup) (h : ∀ c ∈ cs, ∀ d ∈ cs, c.path = d.path → c = d) : Once cs := by
  unfold Once List.Nodup at *
  exact List.Pairwise.imp_of_mem (fun {a b} ha hb hne e => hne (h a ha b hb e)) hn
theorem sorted_nodup {cs : List Cm} (h : Sorted cs) : cs.Nodup := by
  unfold Sorted at h
  exact h.imp (fun h e => by rw [e, befB_irrefl] at h; cases h)
theorem sortC_once {cs : List Cm} (h : Once cs) : Once (sortC cs) :=
  once_of_inj (sorted_nodup (sortC_sorted h)) (fun c hc d hd e => h.inj (sortC_mem.1 hc) (sortC_mem.1 hd) e)
/-- Commands of the same set, each path once: sorted they are one list. -/
theorem sortC_eq {cs ds : List Cm} (h : Once cs) (h2 : Once ds) (e : ∀ c, c ∈ cs ↔ c ∈ ds) : sortC cs = sortC ds :=
  sorted_one (sortC_sorted h) (sortC_sorted h2) (fun c => by rw [sortC_mem, sortC_mem]; exact e c)
theorem sortC_self {cs : List Cm} (h : Once cs) (hs : Sorted cs) : sortC cs = cs := sorted_one (sortC_sorted h) hs (fun c => sortC_mem)
theorem Sorted.sub {cs ds : List Cm} (h : Sorted cs) (hs : List.Sublist ds cs) : Sorted ds := List.Pairwise.sublist hs h

/-! ### Orders -/
def mustB (c d : Cm) : Bool := (under d.path c.path && decide (d.fr.kind = 1)) || (under c.path d.path && decide (c.to.kind = 1))
/-- No command behind one that it must precede. -/
def Poss (cs : List Cm) : Prop := cs.Pairwise (fun d c => mustB c d = false)
theorem ends_to {c : Cm} (hc : cmOk c = true) (he : endsB c = true) : ¬ c.to.kind = 1 := by
  intro h1
  have hk := cmOk_conts hc
  have hn := cmOk_ne hc
  unfold endsB at he
  simp only [Bool.or_eq_true, decide_eq_true_eq] at he
  rcases he with h | h
  · rw [h1] at h; cases h
  · exact hn (by rw [contOk_dir hk.1 h, contOk_dir hk.2 h1])
theorem ends_fr {c : Cm} (hc : cmOk c = true) (he : endsB c = true) : ¬ c.fr.kind = 0 := by
  intro h1
  have hk := cmOk_conts hc
  have hn := cmOk_ne hc
  unfold endsB at he
  simp only [Bool.or_eq_true, decide_eq_true_eq] at he
  rcases he with h | h
  · exact hn (by rw [contOk_none hk.1 h1, contOk_none hk.2 h])
  · rw [h1] at h; cases h
theorem not_ends {c : Cm} (he : endsB c = false) : ¬ c.to.kind = 0 ∧ ¬ c.fr.kind = 1 := by
  unfold endsB at he
  simp only [Bool.or_eq_false_iff, decide_eq_false_iff_not] at he
  exact he
theorem befB_both {c d : Cm} (hc : endsB c = true) (hd : endsB d = true) (h : befB c d = true) : Op.bytesLess d.path c.path = true := by
  unfold befB at h; simpa [hc, hd] using h
theorem befB_none {c d : Cm} (hc : endsB c = false) (hd : endsB d = false) (h : befB c d = true) : Op.bytesLess c.path d.path = true := by
  unfold befB at h; simpa [hc, hd] using h
theorem befB_ends {c d : Cm} (hc : endsB c = false) (h : befB c d = true) : endsB d = false := by
  unfold befB at h
  cases hd : endsB d
  · rfl
  · simp [hc, hd] at h
/-- The canonical order is possible. -/
theorem canon_poss {g : Str → Cont} {cs : List Cm} (hg : Good g) (hg2 : Good (ovr g cs)) (ha : AllOk cs) (ho : Once cs) (hf : Fits g cs) (hs : Sorted cs) : Poss cs := by
  unfold Poss
  unfold Sorted at hs
  refine List.Pairwise.imp_of_mem (fun {d c} hd hc hb => ?_) hs
  rw [Bool.eq_false_iff]; intro hm
  have hpc := cmOk_path (ha c hc)
  have hpd := cmOk_path (ha d hd)
  have oc := ovr_mem (g := g) ho hc
  have od := ovr_mem (g := g) ho hd
  unfold mustB at hm
  simp only [Bool.or_eq_true, Bool.and_eq_true, decide_eq_true_eq] at hm
  rcases hm with ⟨hu, hk⟩ | ⟨hu, hk⟩
  · -- c lies under d, which was a directory; d stands before c
    have hde : endsB d = true := by unfold endsB; simp [hk]
    cases hce : endsB c
    · have h1 := (not_ends hce).1
      have h2 := hg2.dir_above hpd hu (by rw [oc]; exact h1)
      rw [od] at h2
      exact ends_to (ha d hd) hde h2
    · have h1 := befB_both hde hce hb
      have h2 := under_less hpd hpc hu
      rw [bytesLess_asymm h1] at h2; cases h2
  · -- d lies under c, which becomes a directory; d stands before c
    have hce : endsB c = false := by
      cases h : endsB c
      · rfl
      · exact absurd hk (ends_to (ha c hc) h)
    cases hde : endsB d
    · have h1 := befB_none hde hce hb
      have h2 := under_less hpc hpd hu
      rw [bytesLess_asymm h1] at h2; cases h2
    · have h1 := ends_fr (ha d hd) hde
      have h2 := hg.dir_above hpc hu (by rw [hf d hd]; exact h1)
      rw [hf c hc] at h2
      exact (not_ends hce).2 h2
theorem take_mem {cs : List Cm} {k : Nat} {c : Cm} (h : c ∈ cs.take k) : c ∈ cs := List.mem_of_mem_take h
/-- What must precede a command done is done. -/
theorem poss_before {cs : List Cm} (h : Poss cs) {k : Nat} {c d : Cm} (hc : c ∈ cs.take k) (hd : d ∈ cs) (hm : mustB d c = true) : d ∈ cs.take k := by
  rw [← List.take_append_drop k cs] at hd
  rcases List.mem_append.1 hd with h1 | h1
  · exact h1
  · exfalso
    unfold Poss at h
    rw [← List.take_append_drop k cs, List.pairwise_append] at h
    have := h.2.2 c hc d h1
    rw [hm] at this; cases this
/-- A log in a possible order goes from a good map to a good one through good ones. -/
theorem poss_good {g : Str → Cont} {cs : List Cm} (hg : Good g) (hg2 : Good (ovr g cs)) (ha : AllOk cs) (ho : Once cs) (hf : Fits g cs) (hp : Poss cs) (k : Nat) : Good (ovr g (cs.take k)) := by
  have hak : AllOk (cs.take k) := fun c hc => ha c (take_mem hc)
  have hok : Once (cs.take k) := ho.sub (List.take_sublist ..)
  obtain ⟨r1, r2⟩ := ovr_good_ok hg hok hak
  refine ⟨r1, r2, fun p hpr hk => ?_⟩
  rcases ovr_cases g hok p with ⟨c, hc, rfl, e⟩ | ⟨hn, e⟩
  · rw [e] at hk
    have hcm := take_mem hc
    have oc := ovr_mem (g := g) ho hcm
    have h1 := hg2.up c.path hpr (by rw [oc]; exact hk)
    have hpp := hg2.parent hpr (by rw [oc]; exact hk)
    refine ⟨h1.1, ?_⟩
    have hu := parent_under h1.1 hpr hpp
    rcases ovr_cases g ho (parent c.path) with ⟨d, hd, ed, e2⟩ | ⟨hn2, e2⟩
    · have hk1 : d.to.kind = 1 := by rw [← e2]; exact h1.2
      have hm : mustB d c = true := by unfold mustB; rw [ed, hu, hk1]; simp
      rw [← ed, ovr_mem hok (poss_before hp hc hd hm)]; exact hk1
    · rw [ovr_none (fun d hd => hn2 d (take_mem hd)), ← e2]; exact h1.2
  · rw [e] at hk
    have h1 := hg.up p hpr hk
    have hpp := hg.parent hpr hk
    refine ⟨h1.1, ?_⟩
    have hu := parent_under h1.1 hpr hpp
    rcases ovr_cases g hok (parent p) with ⟨d, hd, ed, e2⟩ | ⟨_, e2⟩
    · exfalso
      have hdm := take_mem hd
      have hdf : d.fr.kind = 1 := by rw [← hf d hdm, ed]; exact h1.2
      have hde : endsB d = true := by unfold endsB; simp [hdf]
      have hdt := ends_to (ha d hdm) hde
      -- behind all, nothing is at p
      have hz : (ovr g cs p).kind = 0 := Classical.byContradiction fun hz => by
        have := (hg2.up p hpr hz).2
        rw [← ed, ovr_mem ho hdm] at this
        exact hdt this
      rcases ovr_cases g ho p with ⟨c, hc, ec, e3⟩ | ⟨_, e3⟩
      · have hm : mustB c d = true := by unfold mustB; rw [ec, ed, hu, hdf]; simp
        exact hn c (poss_before hp hd hc hm) ec
      · rw [e3] at hz; exact hk hz
    · rw [e2]; exact h1.2

/-! ### Room -/
theorem deltas_append (a b : List Cm) : deltas (a ++ b) = deltas a + deltas b := by simp [deltas]
theorem deltas_ends : ∀ {cs : List Cm}, AllOk cs → (∀ c ∈ cs, endsB c = true) → deltas cs ≤ 0
  | [], _, _ => by simp [deltas]
  | c :: r, ha, he => by
    have ih := @deltas_ends r (fun d hd => ha d (List.mem_cons_of_mem _ hd)) (fun d hd => he d (List.mem_cons_of_mem _ hd))
    have h1 := ends_fr (ha c (List.mem_cons_self ..)) (he c (List.mem_cons_self ..))
    have h2 : delta c ≤ 0 := by unfold delta; rw [if_neg h1]; split <;> simp
    simp only [deltas, List.map_cons, List.sum_cons] at *
    omega
theorem deltas_makes : ∀ {cs : List Cm}, (∀ c ∈ cs, endsB c = false) → 0 ≤ deltas cs
  | [], _ => by simp [deltas]
  | c :: r, he => by
    have ih := @deltas_makes r (fun d hd => he d (List.mem_cons_of_mem _ hd))
    have h1 := (not_ends (he c (List.mem_cons_self ..))).1
    have h2 : 0 ≤ delta c := by unfold delta; rw [if_neg h1]; split <;> simp
    simp only [deltas, List.map_cons, List.sum_cons] at *
    omega
/-- On the way there are never more nodes than at one of its ends. -/
theorem canon_room {cs : List Cm} (ha : AllOk cs) (hs : Sorted cs) (k : Nat) : deltas (cs.take k) ≤ 0 ∨ deltas (cs.take k) ≤ deltas cs := by
  by_cases h : ∀ c ∈ cs.take k, endsB c = true
  · exact .inl (deltas_ends (fun c hc => ha c (take_mem hc)) h)
  · right
    have ⟨c, hc⟩ := Classical.not_forall.1 h
    have ⟨hc, he⟩ := Classical.not_imp.1 hc
    have he : endsB c = false := by simpa using he
    have h2 : 0 ≤ deltas (cs.drop k) := deltas_makes (fun d hd => by
      unfold Sorted at hs
      rw [← List.take_append_drop k cs, List.pairwise_append] at hs
      exact befB_ends he (hs.2.2 c hc d hd))
    have h3 := deltas_append (cs.take k) (cs.drop k)
    rw [List.take_append_drop] at h3
    omega
theorem AllOk.take {cs : List Cm} (h : AllOk cs) (k : Nat) : AllOk (cs.take k) := fun c hc => h c (take_mem hc)
theorem Once.take {cs : List Cm} (h : Once cs) (k : Nat) : Once (cs.take k) := h.sub (List.take_sublist ..)
theorem Fits.take {g : Str → Cont} {cs : List Cm} (h : Fits g cs) (k : Nat) : Fits g (cs.take k) := fun c hc => h c (take_mem hc)
/-- A canonical log that leads to a good map with room is done whole. -/
theorem canon_all {cs : List Cm} {t : List Nd} (h : treeOk t = true) (ha : AllOk cs) (ho : Once cs) (hf : Fits (get t) cs) (hs : Sorted cs) (hg : Good (ovr (get t) cs)) (hl : (t.length : Int) + deltas cs ≤ 10) : logGo t cs = (runL t cs, cs.length) := by
  have hp := canon_poss (tree_good h) hg ha ho hf hs
  refine logGo_all h ha ho hf (fun k => poss_good (tree_good h) hg ha ho hf hp k) (fun k => ?_)
  have h1 := runL_len (tree_clean h) (ha.take k) (ho.take k) (hf.take k)
  have h2 := tree_len h
  rcases canon_room ha hs k with h3 | h3 <;> omega
/-- .. and one that is not done whole stops at a full tree. -/
theorem canon_stops {cs : List Cm} {t : List Nd} (h : treeOk t = true) (ha : AllOk cs) (ho : Once cs) (hf : Fits (get t) cs) (hs : Sorted cs) (hg : Good (ovr (get t) cs)) (hn : (logGo t cs).2 < cs.length) : (logGo t cs).1.length = 10 ∧ 10 < (t.length : Int) + deltas cs := by
  have hp := canon_poss (tree_good h) hg ha ho hf hs
  obtain ⟨h1, h2⟩ := logGo_steps h ha ho hf (fun k => poss_good (tree_good h) hg ha ho hf hp k)
  have h3 := h2 hn
  constructor
  · have h4 := h1 _ (Nat.le_refl _)
    rw [← logGo_run] at h4
    have h5 := tree_len h4
    rw [List.take_add_one, List.getElem?_eq_getElem hn] at h3
    unfold runL at h3
    rw [Option.toList_some, List.foldl_append] at h3
    have h6 := putL_len (runL t (cs.take (logGo t cs).2)) cs[(logGo t cs).2].path cs[(logGo t cs).2].to
    rw [← logGo_run] at h6
    simp only [List.foldl_cons, List.foldl_nil] at h3
    have h7 : List.foldl (fun t c => putL t c.path c.to) t (cs.take (logGo t cs).2) = (logGo t cs).1 := logGo_run.symm
    rw [h7] at h3
    omega
  · rcases Int.lt_or_le 10 ((t.length : Int) + deltas cs) with h4 | h4
    · exact h4
    · have := canon_all h ha ho hf hs hg h4
      rw [this] at hn; simp at hn
/-- Towards a tree there is always room. -/
theorem canon_to {cs : List Cm} {t f : List Nd} (h : treeOk t = true) (hf2 : treeOk f = true) (ha : AllOk cs) (ho : Once cs) (hf : Fits (get t) cs) (hs : Sorted cs) (he : ∀ p, get f p = ovr (get t) cs p) : logGo t cs = (f, cs.length) := by
  have hg : Good (ovr (get t) cs) := by
    have : get f = ovr (get t) cs := funext he
    rw [← this]; exact tree_good hf2
  have hr : runL t cs = f := (runL_clean (tree_clean h) ha).ext (tree_clean hf2) (fun p => by rw [runL_get (tree_clean h) ha ho, he])
  have hl := runL_len (tree_clean h) ha ho hf
  rw [hr] at hl
  have := tree_len hf2
  rw [canon_all h ha ho hf hs hg (by omega), hr]
/-- What a log that is done whole leaves. -/
theorem logGo_full {cs : List Cm} {t : List Nd} (h : (logGo t cs).2 = cs.length) : (logGo t cs).1 = runL t cs := by
  have := @logGo_run cs t
  rw [h, List.take_length] at this; exact this
end Go.Proofs.YtnemajefpgicgaaDoor
