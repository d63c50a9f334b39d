/-
  Logs on trees in plain Lean: what lies under what; a log as a map ovr a map; when all of a log's commands can be done. No program in sight.
-/
import Derived.Test.YtnemajefpgicgaaDoorTreeMap
namespace Go.Proofs.YtnemajefpgicgaaDoor
open Go Go.RowKit
set_option linter.unusedVariables false
set_option linter.unusedSimpArgs false

/-! ### Under and parent -/
theorem parent_short {p : Str} (h : p.length ≤ 2) : parent p = [47] := by unfold parent; rw [if_pos h]; rfl
theorem parent_long {p : Str} (h : ¬ p.length ≤ 2) : parent p = p.take (p.length - 2) := by unfold parent; rw [if_neg h]
theorem under_len {a b : Str} (ha : isPath a = true) (hb : isPath b = true) (h : under a b = true) : a.length < b.length := by
  by_cases hr : a = [47]
  · subst hr
    rw [under_root] at h
    have hne : ¬ b = [47] := by simpa using h
    have := path_even hb hne
    simp; omega
  · exact ((under_iff ha hb hr).1 h).1
theorem under_ne_root {a b : Str} (ha : isPath a = true) (hb : isPath b = true) (h : under a b = true) : ¬ b = [47] := by
  intro e
  subst e
  by_cases hr : a = [47]
  · subst hr; exact absurd h (by decide)
  · have h1 := ((under_iff ha hb hr).1 h).1
    have h2 := (path_even ha hr).2.1
    have h3 : ([47] : Str).length = 1 := rfl
    omega
theorem under_irrefl {a : Str} (ha : isPath a = true) : under a a = false := by
  rw [Bool.eq_false_iff]; intro h; have := under_len ha ha h; omega
theorem under_less {a b : Str} (ha : isPath a = true) (hb : isPath b = true) (h : under a b = true) : Op.bytesLess a b = true := by
  have hbr := under_ne_root ha hb h
  by_cases hr : a = [47]
  · subst hr
    obtain ⟨_, h2, h3⟩ := path_even hb hbr
    have h4 := h3 0 (by omega)
    cases b with
    | nil => simp at h2
    | cons x r =>
      simp at h4; subst h4
      exact bytesLess_prefix [47] r (by intro e; subst e; simp at h2)
  · obtain ⟨h1, h2⟩ := (under_iff ha hb hr).1 h
    have e : b = a ++ b.drop a.length := by conv => lhs; rw [← List.take_append_drop a.length b, h2]
    rw [e]
    exact bytesLess_prefix _ _ (by intro e2; have := congrArg List.length e2; simp at this; omega)
theorem under_trans {a b c : Str} (ha : isPath a = true) (hb : isPath b = true) (hc : isPath c = true) (h : under a b = true) (h2 : under b c = true) : under a c = true := by
  have hcr := under_ne_root hb hc h2
  have hbr := under_ne_root ha hb h
  by_cases hr : a = [47]
  · subst hr; rw [under_root]; simpa using hcr
  · rw [under_iff ha hc hr]
    have h3 := (under_iff ha hb hr).1 h
    have h4 := (under_iff hb hc hbr).1 h2
    refine ⟨by omega, ?_⟩
    have e : (c.take b.length).take a.length = a := by rw [h4.2]; exact h3.2
    rw [List.take_take, Nat.min_eq_left (by omega)] at e
    exact e
/-- What is above a path is its parent, or above that. -/
theorem under_parent {a p : Str} (ha : isPath a = true) (hp : isPath p = true) (hq : isPath (parent p) = true) (h : under a p = true) : a = parent p ∨ under a (parent p) = true := by
  have hpr := under_ne_root ha hp h
  obtain ⟨p1, p2, _⟩ := path_even hp hpr
  by_cases hr : a = [47]
  · subst hr
    by_cases e : parent p = [47]
    · exact .inl e.symm
    · right; rw [under_root]; simpa using e
  · obtain ⟨h1, h2⟩ := (under_iff ha hp hr).1 h
    obtain ⟨a1, a2, _⟩ := path_even ha hr
    have hl : ¬ p.length ≤ 2 := by omega
    rw [parent_long hl] at hq ⊢
    by_cases e : a.length = p.length - 2
    · left; rw [← e, h2]
    · right
      rw [under_iff ha hq hr]
      refine ⟨by simp; omega, ?_⟩
      rw [List.take_take, Nat.min_eq_left (by omega)]; exact h2
theorem parent_under {p : Str} (hp : isPath p = true) (hr : ¬ p = [47]) (hq : isPath (parent p) = true) : under (parent p) p = true := by
  obtain ⟨p1, p2, _⟩ := path_even hp hr
  by_cases e : p.length ≤ 2
  · rw [parent_short e, under_root]; simpa using hr
  · have hne : ¬ parent p = [47] := by
      rw [parent_long e]; intro e2; have := congrArg List.length e2; simp at this; omega
    rw [under_iff hq hp hne, parent_long e]
    refine ⟨by simp; omega, ?_⟩
    simp
theorem isPath_root : isPath [47] = true := by decide
theorem Good.path {g : Str → Cont} (h : Good g) {p : Str} (hk : ¬ (g p).kind = 0) : isPath p = true := by
  by_cases hp : p = [47]
  · subst hp; exact isPath_root
  · exact (h.up p hp hk).1
theorem Good.parent {g : Str → Cont} (h : Good g) {p : Str} (hp : ¬ p = [47]) (hk : ¬ (g p).kind = 0) : isPath (parent p) = true := h.path (by rw [(h.up p hp hk).2]; decide)
/-- Whatever is above something is a directory. -/
theorem Good.above {g : Str → Cont} (h : Good g) : ∀ (n : Nat) {a p : Str}, p.length ≤ n → isPath a = true → under a p = true → ¬ (g p).kind = 0 → (g a).kind = 1
  | 0, a, p, hl, ha, hu, hk => by
    have hp := h.path hk
    have := under_len ha hp hu
    omega
  | n + 1, a, p, hl, ha, hu, hk => by
    have hp := h.path hk
    have hr := under_ne_root ha hp hu
    have h1 := (h.up p hr hk).2
    have hq := h.parent hr hk
    rcases under_parent ha hp hq hu with rfl | h2
    · exact h1
    · have h3 := under_len hq hp (parent_under hp hr hq)
      exact Good.above h n (by omega) ha h2 (by rw [h1]; decide)
theorem Good.dir_above {g : Str → Cont} (h : Good g) {a p : Str} (ha : isPath a = true) (hu : under a p = true) (hk : ¬ (g p).kind = 0) : (g a).kind = 1 := h.above _ (Nat.le_refl _) ha hu hk

/-! ### Commands ovr a map -/
/-- Each path once. -/
def Once (cs : List Cm) : Prop := cs.Pairwise (fun c d => ¬ c.path = d.path)
def AllOk (cs : List Cm) : Prop := ∀ c ∈ cs, cmOk c = true
/-- Each command begins with what the map has. -/
def Fits (g : Str → Cont) (cs : List Cm) : Prop := ∀ c ∈ cs, g c.path = c.fr
def ovr (g : Str → Cont) (cs : List Cm) (p : Str) : Cont := match cs.find? (fun c => decide (c.path = p)) with | some c => c.to | none => g p
theorem Once.inj {cs : List Cm} (h : Once cs) {c d : Cm} (hc : c ∈ cs) (hd : d ∈ cs) (e : c.path = d.path) : c = d := by
  obtain ⟨i, hi, rfl⟩ := List.getElem_of_mem hc
  obtain ⟨j, hj, rfl⟩ := List.getElem_of_mem hd
  unfold Once at h
  rw [List.pairwise_iff_getElem] at h
  rcases Nat.lt_trichotomy i j with hij | hij | hij
  · exact absurd e (h i j hi hj hij)
  · subst hij; rfl
  · exact absurd e.symm (h j i hj hi hij)
theorem ovr_mem {g : Str → Cont} {cs : List Cm} (h : Once cs) {c : Cm} (hc : c ∈ cs) : ovr g cs c.path = c.to := by
  unfold ovr
  cases hf : cs.find? (fun d => decide (d.path = c.path)) with
  | none => rw [List.find?_eq_none] at hf; exact absurd (by simp) (hf c hc)
  | some d =>
    have h1 : d.path = c.path := by simpa using List.find?_some hf
    rw [h.inj (List.mem_of_find?_eq_some hf) hc h1]
theorem ovr_none {g : Str → Cont} {cs : List Cm} {p : Str} (h : ∀ c ∈ cs, ¬ c.path = p) : ovr g cs p = g p := by
  unfold ovr
  rw [List.find?_eq_none.2 (fun c hc => by simpa using h c hc)]
theorem ovr_cases (g : Str → Cont) {cs : List Cm} (h : Once cs) (p : Str) : (∃ c ∈ cs, c.path = p ∧ ovr g cs p = c.to) ∨ ((∀ c ∈ cs, ¬ c.path = p) ∧ ovr g cs p = g p) := by
  by_cases e : ∃ c ∈ cs, c.path = p
  · obtain ⟨c, hc, rfl⟩ := e
    exact .inl ⟨c, hc, rfl, ovr_mem h hc⟩
  · have e2 : ∀ c ∈ cs, ¬ c.path = p := fun c hc e3 => e ⟨c, hc, e3⟩
    exact .inr ⟨e2, ovr_none e2⟩
theorem ovr_nil (g : Str → Cont) : ovr g [] = g := rfl
theorem Once.sub {cs ds : List Cm} (h : Once cs) (hs : List.Sublist ds cs) : Once ds := List.Pairwise.sublist hs h
theorem ovr_cons {g : Str → Cont} {c : Cm} {r : List Cm} (h : Once (c :: r)) (p : Str) : ovr g (c :: r) p = ovr (fun q => if q = c.path then c.to else g q) r p := by
  unfold Once at h; rw [List.pairwise_cons] at h
  unfold ovr
  by_cases e : c.path = p
  · subst e
    have hn : r.find? (fun d => decide (d.path = c.path)) = none := List.find?_eq_none.2 (fun d hd => by simpa using fun e2 => h.1 d hd e2.symm)
    simp [hn]
  · simp [List.find?_cons, e]
    cases r.find? (fun d => decide (d.path = p)) with
    | none => simp; exact fun e2 => absurd e2.symm e
    | some d => rfl
theorem cmOk_root {c : Cm} (h : cmOk c = true) : ¬ c.path = [47] := by unfold cmOk at h; simp at h; exact h.1.1.1.2
theorem cmOk_ne {c : Cm} (h : cmOk c = true) : ¬ c.fr = c.to := by
  unfold cmOk at h; simp only [Bool.and_eq_true, Bool.not_eq_true', decide_eq_false_iff_not] at h
  exact fun e => h.2 (by rw [e]; exact ⟨rfl, rfl⟩)
theorem ovr_good_ok {g : Str → Cont} {cs : List Cm} (hg : Good g) (ho : Once cs) (ha : AllOk cs) : ovr g cs [47] = dir0 ∧ ∀ p, contOk (ovr g cs p) = true := by
  refine ⟨?_, fun p => ?_⟩
  · rw [ovr_none (fun c hc => cmOk_root (ha c hc))]; exact hg.root
  · rcases ovr_cases g ho p with ⟨c, hc, _, e⟩ | ⟨_, e⟩
    · rw [e]; exact (cmOk_conts (ha c hc)).2
    · rw [e]; exact hg.ok p

/-- Commands done one after the other, whether they can be or not. -/
def runL (t : List Nd) (cs : List Cm) : List Nd := cs.foldl (fun t c => putL t c.path c.to) t
theorem runL_cons (t : List Nd) (c : Cm) (r : List Cm) : runL t (c :: r) = runL (putL t c.path c.to) r := rfl
theorem runL_clean : ∀ {cs : List Cm} {t : List Nd}, Clean t → AllOk cs → Clean (runL t cs)
  | [], _, h, _ => h
  | c :: r, t, h, ha => by
    have hc := ha c (List.mem_cons_self ..)
    rw [runL_cons]
    exact runL_clean (putL_clean h (cmOk_path hc) (cmOk_root hc) (cmOk_conts hc).2) (fun d hd => ha d (List.mem_cons_of_mem _ hd))
theorem runL_get : ∀ {cs : List Cm} {t : List Nd}, Clean t → AllOk cs → Once cs → ∀ p, get (runL t cs) p = ovr (get t) cs p
  | [], _, h, _, _, p => rfl
  | c :: r, t, h, ha, ho, p => by
    have hc := ha c (List.mem_cons_self ..)
    have h2 := putL_clean h (cmOk_path hc) (cmOk_root hc) (cmOk_conts hc).2
    have ho2 := ho; unfold Once at ho2; rw [List.pairwise_cons] at ho2
    rw [runL_cons, runL_get h2 (fun d hd => ha d (List.mem_cons_of_mem _ hd)) ho2.2, ovr_cons ho]
    congr 1
    funext q
    exact get_put h (cmOk_path hc) (cmOk_root hc) (cmOk_conts hc).2 q
def delta (c : Cm) : Int := (if c.fr.kind = 0 then 1 else 0) - (if c.to.kind = 0 then 1 else 0)
theorem put_delta {t : List Nd} (h : Clean t) {c : Cm} (hc : cmOk c = true) (hf : get t c.path = c.fr) : ((putL t c.path c.to).length : Int) = t.length + delta c := by
  have := put_len h (cmOk_root hc) c.to
  rw [hf] at this
  unfold delta
  split at this <;> split at this <;> simp [*] <;> omega
theorem fits_put {t : List Nd} (h : Clean t) {c : Cm} {r : List Cm} (ha : AllOk (c :: r)) (ho : Once (c :: r)) (hf : Fits (get t) (c :: r)) : Fits (get (putL t c.path c.to)) r := fun d hd => by
  have hc := ha c (List.mem_cons_self ..)
  unfold Once at ho; rw [List.pairwise_cons] at ho
  rw [get_put h (cmOk_path hc) (cmOk_root hc) (cmOk_conts hc).2, if_neg (fun e => ho.1 d hd e.symm)]
  exact hf d (List.mem_cons_of_mem _ hd)
def deltas (cs : List Cm) : Int := (cs.map delta).sum
theorem runL_len : ∀ {cs : List Cm} {t : List Nd}, Clean t → AllOk cs → Once cs → Fits (get t) cs → ((runL t cs).length : Int) = t.length + deltas cs
  | [], t, h, _, _, _ => by simp [runL, deltas]
  | c :: r, t, h, ha, ho, hf => by
    have hc := ha c (List.mem_cons_self ..)
    have h2 := putL_clean h (cmOk_path hc) (cmOk_root hc) (cmOk_conts hc).2
    have ho2 := ho; unfold Once at ho2; rw [List.pairwise_cons] at ho2
    rw [runL_cons, runL_len h2 (fun d hd => ha d (List.mem_cons_of_mem _ hd)) ho2.2 (fits_put h ha ho hf), put_delta h hc (hf c (List.mem_cons_self ..))]
    simp [deltas]; omega

/-! ### What LogApply does -/
noncomputable def logGo : List Nd → List Cm → List Nd × Nat
  | t, [] => (t, 0)
  | t, c :: r => if cmDo t c then ((logGo (putL t c.path c.to) r).1, (logGo (putL t c.path c.to) r).2 + 1) else (t, 0)
theorem logGo_le : ∀ (t : List Nd) (cs : List Cm), (logGo t cs).2 ≤ cs.length
  | _, [] => Nat.le_refl _
  | t, c :: r => by
    have := logGo_le (putL t c.path c.to) r
    unfold logGo; split <;> simp <;> omega
theorem cmDo_tree {t : List Nd} {c : Cm} (h : cmDo t c = true) : treeOk t = true ∧ cmOk c = true ∧ get t c.path = c.fr ∧ treeOk (putL t c.path c.to) = true := by
  unfold cmDo putOk at h
  simp only [Bool.and_eq_true, decide_eq_true_eq] at h
  exact ⟨h.1.1.1, h.1.1.2, h.1.2, h.2.2⟩
theorem cmDo_of {t : List Nd} {c : Cm} (h : treeOk t = true) (hc : cmOk c = true) (hf : get t c.path = c.fr) (h2 : treeOk (putL t c.path c.to) = true) : cmDo t c = true := by
  have hp := cmOk_path hc
  have hr := cmOk_root hc
  have hk := (cmOk_conts hc).2
  unfold cmDo putOk
  simp [h, hc, hf, h2, hp, hr, hk]
theorem logGo_tree : ∀ {cs : List Cm} {t : List Nd}, treeOk t = true → treeOk (logGo t cs).1 = true
  | [], _, h => h
  | c :: r, t, h => by
    unfold logGo
    split
    · rename_i hd; exact logGo_tree (cmDo_tree hd).2.2.2
    · exact h
theorem logGo_run : ∀ {cs : List Cm} {t : List Nd}, (logGo t cs).1 = runL t (cs.take (logGo t cs).2)
  | [], _ => rfl
  | c :: r, t => by
    unfold logGo
    split
    · show (logGo (putL t c.path c.to) r).1 = runL t ((c :: r).take ((logGo (putL t c.path c.to) r).2 + 1))
      rw [List.take_succ_cons, runL_cons]
      exact logGo_run
    · rfl
/-- A log whose states are all good is done as far as there is room. -/
theorem logGo_steps : ∀ {cs : List Cm} {t : List Nd}, treeOk t = true → AllOk cs → Once cs → Fits (get t) cs → (∀ k, Good (ovr (get t) (cs.take k))) →
    (∀ k, k ≤ (logGo t cs).2 → treeOk (runL t (cs.take k)) = true) ∧ ((logGo t cs).2 < cs.length → 10 < (runL t (cs.take ((logGo t cs).2 + 1))).length)
  | [], t, h, _, _, _, _ => ⟨fun k hk => by simpa [runL] using h, fun hk => absurd hk (by simp [logGo])⟩
  | c :: r, t, h, ha, ho, hf, hg => by
    have hcl := tree_clean h
    have hc := ha c (List.mem_cons_self ..)
    have h2 := putL_clean hcl (cmOk_path hc) (cmOk_root hc) (cmOk_conts hc).2
    have ho2 := ho; unfold Once at ho2; rw [List.pairwise_cons] at ho2
    have ha2 : AllOk r := fun d hd => ha d (List.mem_cons_of_mem _ hd)
    have hs : ∀ k, ovr (get (putL t c.path c.to)) (r.take k) = ovr (get t) ((c :: r).take (k + 1)) := fun k => by
      funext p
      rw [List.take_succ_cons, ovr_cons (ho.sub (by rw [← List.take_succ_cons]; exact List.take_sublist ..))]
      congr 1
      funext q
      exact get_put hcl (cmOk_path hc) (cmOk_root hc) (cmOk_conts hc).2 q
    have hg1 : Good (get (putL t c.path c.to)) := by have := hg 1; rw [← hs 0] at this; exact this
    have ih := @logGo_steps r (putL t c.path c.to)
    by_cases hd : cmDo t c = true
    · have ht := (cmDo_tree hd).2.2.2
      obtain ⟨i1, i2⟩ := ih ht ha2 ho2.2 (fits_put hcl ha ho hf) (fun k => by rw [hs]; exact hg _)
      have e : (logGo t (c :: r)).2 = (logGo (putL t c.path c.to) r).2 + 1 := by conv => lhs; unfold logGo; rw [if_pos hd]
      rw [e]
      refine ⟨fun k hk => ?_, fun hk => ?_⟩
      · cases k with
        | zero => exact h
        | succ k => rw [List.take_succ_cons, runL_cons]; exact i1 k (by omega)
      · rw [List.take_succ_cons, runL_cons]; exact i2 (by simp at hk; omega)
    · have e : (logGo t (c :: r)).2 = 0 := by unfold logGo; rw [if_neg hd]
      rw [e]
      refine ⟨fun k hk => ?_, fun hk => ?_⟩
      · have : k = 0 := by omega
        subst this; exact h
      · show 10 < (putL t c.path c.to).length
        rcases Nat.lt_or_ge 10 (putL t c.path c.to).length with h3 | h3
        · exact h3
        · exact absurd (cmDo_of h hc (hf c (List.mem_cons_self ..)) (tree_of_good h2 h3 hg1)) hd
/-- .. and all of it, if there is always room. -/
theorem logGo_all {cs : List Cm} {t : List Nd} (h : treeOk t = true) (ha : AllOk cs) (ho : Once cs) (hf : Fits (get t) cs) (hg : ∀ k, Good (ovr (get t) (cs.take k))) (hl : ∀ k, (runL t (cs.take k)).length ≤ 10) :
    logGo t cs = (runL t cs, cs.length) := by
  obtain ⟨_, h2⟩ := logGo_steps h ha ho hf hg
  have h3 := logGo_le t cs
  have e : (logGo t cs).2 = cs.length := by
    rcases Nat.lt_or_ge (logGo t cs).2 cs.length with h4 | h4
    · have := h2 h4; have := hl ((logGo t cs).2 + 1); omega
    · omega
  have e1 := @logGo_run cs t
  rw [e, List.take_length] at e1
  exact Prod.ext e1 e
end Go.Proofs.YtnemajefpgicgaaDoor
