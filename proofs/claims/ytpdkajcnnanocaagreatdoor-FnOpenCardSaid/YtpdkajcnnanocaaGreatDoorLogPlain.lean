/-
  Plain laws: bytes of commands and logs are read back; what is read was written. No program in sight.
-/
import Derived.Test.YtpdkajcnnanocaaGreatDoorLogLoad
import Derived.Test.YtpdkajcnnanocaaGreatDoorLogBytes
import Derived.Test.YtpdkajcnnanocaaGreatDoorPathPlain
namespace Go.Proofs.YtpdkajcnnanocaaGreatDoor
open Go Go.RowKit
set_option linter.unusedVariables false
set_option linter.unusedSimpArgs false

theorem byteOf_num (b : UInt8) : byteOf (b.toNat : Int) = b := by unfold byteOf; simp
theorem nums_byteOf : ∀ {l : List Int}, bytesOk l = true → nums (l.map byteOf) = l
  | [], _ => rfl
  | x :: r, h => by
    simp only [bytesOk, List.all_cons, Bool.and_eq_true] at h
    have h1 := nums_byteOf (l := r) h.2
    have h2 : 0 ≤ x ∧ x ≤ 255 := by simpa [byteOk] using h.1
    simp only [nums, List.map_cons, List.cons.injEq] at h1 ⊢
    exact ⟨byteOf_nat h2, h1⟩
theorem byteOf_nums (s : Str) : (nums s).map byteOf = s := by
  unfold nums
  induction s with
  | nil => rfl
  | cons b r ih => simp only [List.map_cons, byteOf_num, ih]
theorem cmBytes_eq {c : Cm} (h : cmOk c = true) : cmBytes c = c.fr.kind :: c.fr.value :: c.to.kind :: c.to.value :: nums c.path := by unfold cmBytes; rw [if_pos h]; rfl
theorem nums_ok (s : Str) : bytesOk (nums s) = true := by
  unfold bytesOk nums
  rw [List.all_map, List.all_eq_true]
  intro b _
  have := b.toNat_lt
  simp [byteOk]; omega
theorem cmBytes_body {c : Cm} (h : cmOk c = true) : bodyOk (cmBytes c) = true := by
  have h1 := cmOk_len h
  have h2 := contOk_bd (cmOk_conts h).1
  have h3 := contOk_bd (cmOk_conts h).2
  have h4 := nums_ok c.path
  rw [cmBytes_eq h]
  unfold bodyOk bytesOk at *
  simp only [List.all_cons, h4, byteOk, List.length_cons, nums_len]
  simp; omega
theorem cmOf_bytes {c : Cm} (h : cmOk c = true) : cmOf (cmBytes c) = c := by
  rw [cmBytes_eq h]
  show (⟨(nums c.path).map byteOf, ⟨c.fr.kind, c.fr.value⟩, ⟨c.to.kind, c.to.value⟩⟩ : Cm) = c
  rw [byteOf_nums]
theorem fromOk_bytes {c : Cm} (h : cmOk c = true) : fromOk (cmBytes c) = true := by
  unfold fromOk
  rw [cmBytes_body h, cmOf_bytes h, h]
  have := cmOk_len h
  rw [cmBytes_eq h]; simp [nums_len]; omega
theorem fromOk_parts {b : List Int} (h : fromOk b = true) : 5 ≤ b.length ∧ bodyOk b = true ∧ cmOk (cmOf b) = true := by
  unfold fromOk at h; simp at h; exact ⟨h.1.1, h.1.2, h.2⟩
theorem bytes_cmOf {b : List Int} (h : fromOk b = true) : cmBytes (cmOf b) = b := by
  obtain ⟨h1, h2, h3⟩ := fromOk_parts h
  rw [cmBytes_eq h3]
  obtain ⟨b0, b1, b2, b3, r, rfl⟩ := four_of (l := b) (by omega)
  show b0 :: b1 :: b2 :: b3 :: nums (r.map byteOf) = _
  rw [nums_byteOf]
  unfold bodyOk bytesOk at h2
  simp only [List.all_cons, Bool.and_eq_true] at h2
  exact h2.1.1.2.2.2.2

/-! ### Frames -/
theorem headF_frame {b rest : List Int} (h : bodyOk b = true) : headF (fmOf b ++ rest) = some b := by
  have hl := body_len h
  unfold fmOf
  rw [if_pos h]
  show headF ((b.length : Int) :: (b ++ [sumOf b] ++ rest)) = some b
  have e : (b.length : Int).toNat = b.length := by simp
  have e1 : (b ++ [sumOf b] ++ rest).take b.length = b := by rw [List.append_assoc, List.take_left' rfl]
  have e2 : (b ++ [sumOf b] ++ rest)[b.length]? = some (sumOf b) := by
    rw [List.append_assoc, List.getElem?_append_right (Nat.le_refl _), Nat.sub_self]; rfl
  simp only [headF, e, e1, e2, h]
  rw [if_pos ⟨by omega, by omega, by simp, trivial, trivial⟩]
theorem fmOf_len2 {b : List Int} (h : bodyOk b = true) : (fmOf b).length = b.length + 2 := by unfold fmOf; rw [if_pos h]; simp
theorem scan_frame {b rest : List Int} (h : bodyOk b = true) : scan (fmOf b ++ rest) = b :: scan rest := by
  rw [scan_some (headF_frame h)]
  congr 2
  rw [← fmOf_len2 h, List.drop_left' rfl]
theorem scan_nil : scan [] = [] := scan_none rfl
theorem scan_frames : ∀ {bs : List (List Int)}, (∀ b ∈ bs, bodyOk b = true) → scan (bs.flatMap fmOf) = bs
  | [], _ => scan_nil
  | b :: r, h => by
    rw [List.flatMap_cons, scan_frame (h b (List.mem_cons_self ..)), scan_frames (fun c hc => h c (List.mem_cons_of_mem _ hc))]
/-- The frames that are read are those that stand at the beginning. -/
theorem scan_take (l : List Int) : (scan l).flatMap fmOf = l.take (usedF (scan l)) := by
  induction h : l.length using Nat.strongRecOn generalizing l with
  | ind n ih =>
    cases hf : headF l with
    | none => rw [scan_none hf]; rfl
    | some b =>
      have hb := headF_body hf
      have hlen := headF_len hf
      have hl : fmOf b = l.take (b.length + 2) := by
        unfold fmOf; rw [if_pos hb]
        unfold headF at hf
        split at hf
        · cases hf
        · rename_i m r
          split at hf
          · rename_i hc
            obtain ⟨c1, c2, c3, c4, c5⟩ := hc
            have e : r.take m.toNat = b := by injection hf
            have hbl : b.length = m.toNat := by rw [← e]; simp; omega
            rw [e] at c5
            rw [show b.length + 2 = (b.length + 1) + 1 from rfl, List.take_succ_cons, hbl, List.take_add_one, e, c5]
            simp; omega
          · cases hf
      rw [scan_some hf]
      have hi := ih _ (by subst h; simp; omega) (l.drop (b.length + 2)) rfl
      rw [List.flatMap_cons, hi, hl]
      have hu : usedF (b :: scan (l.drop (b.length + 2))) = (b.length + 2) + usedF (scan (l.drop (b.length + 2))) := by simp [usedF]
      rw [hu]; exact (List.take_add (i := b.length + 2)).symm
theorem usedF_append (a b : List (List Int)) : usedF (a ++ b) = usedF a + usedF b := by simp [usedF]
theorem usedF_scan (l : List Int) : usedF (scan l) ≤ l.length := by
  induction h : l.length using Nat.strongRecOn generalizing l with
  | ind n ih =>
    cases hf : headF l with
    | none => rw [scan_none hf]; simp [usedF]
    | some b =>
      have hlen := headF_len hf
      have hi := ih _ (by subst h; simp; omega) (l.drop (b.length + 2)) rfl
      rw [scan_some hf]
      simp [usedF] at hi ⊢; omega
theorem frames_used {bs : List (List Int)} (h : ∀ b ∈ bs, bodyOk b = true) : (bs.flatMap fmOf).length = usedF bs := by
  induction bs with
  | nil => rfl
  | cons b r ih =>
    rw [List.flatMap_cons, List.length_append, ih (fun c hc => h c (List.mem_cons_of_mem _ hc)), fmOf_len2 (h b (List.mem_cons_self ..))]
    simp [usedF]
theorem taken_pre (bs : List (List Int)) : ∃ k, taken bs = bs.take k ∧ k ≤ 20 := by
  unfold taken
  obtain ⟨k, hk⟩ := List.prefix_iff_eq_take.1 (List.takeWhile_prefix (p := fromOk) (l := bs)) ▸ (⟨(bs.takeWhile fromOk).length, rfl⟩ : ∃ k, k = (bs.takeWhile fromOk).length)
  have e := List.prefix_iff_eq_take.1 (List.takeWhile_prefix (p := fromOk) (l := bs))
  exact ⟨min 20 (bs.takeWhile fromOk).length, by rw [← List.take_take, ← e], Nat.min_le_left _ _⟩
theorem taken_ok {bs : List (List Int)} {b : List Int} (h : b ∈ taken bs) : fromOk b = true := by
  unfold taken at h
  exact List.all_eq_true.1 (List.all_takeWhile ..) b (List.mem_of_mem_take h)

theorem taken_all {bs : List (List Int)} (h : ∀ b ∈ bs, fromOk b = true) (h20 : bs.length ≤ 20) : taken bs = bs := by
  have := taken_eq (bs := bs) (k := bs.length) (by rw [List.take_length]; exact h) (Nat.le_refl _) h20 (.inl rfl)
  rwa [List.take_length] at this
theorem cmFrames_eq (l : List Cm) : cmFrames l = (l.map cmBytes).flatMap fmOf := by unfold cmFrames cmFrame; rw [List.flatMap_map]
theorem log_all {l : List Cm} (h : logOk l = true) : ∀ c ∈ l, cmOk c = true := by unfold logOk at h; simp at h; exact h.2
theorem logOk_of {l : List Cm} (h : ∀ c ∈ l, cmOk c = true) (h20 : l.length ≤ 20) : logOk l = true := by unfold logOk; simp; exact ⟨h20, h⟩
theorem map_cmOf_bytes {l : List Cm} (h : ∀ c ∈ l, cmOk c = true) : (l.map cmBytes).map cmOf = l := by
  rw [List.map_map]
  conv => rhs; rw [← List.map_id l]
  exact List.map_congr_left fun c hc => cmOf_bytes (h c hc)
theorem bodies_ok {l : List Cm} (h : ∀ c ∈ l, cmOk c = true) : ∀ b ∈ l.map cmBytes, bodyOk b = true := by
  intro b hb; obtain ⟨c, hc, rfl⟩ := List.mem_map.1 hb; exact cmBytes_body (h c hc)
theorem bodies_from {l : List Cm} (h : ∀ c ∈ l, cmOk c = true) : ∀ b ∈ l.map cmBytes, fromOk b = true := by
  intro b hb; obtain ⟨c, hc, rfl⟩ := List.mem_map.1 hb; exact fromOk_bytes (h c hc)
/-- The bytes of a log are read. -/
theorem load_bytes {l : List Cm} (h : logOk l = true) : logOf (logBytes l) = l ∧ logUsed (logBytes l) = (logBytes l).length := by
  have ha := log_all h
  have hs : scan (cmFrames l) = l.map cmBytes := by rw [cmFrames_eq, scan_frames (bodies_ok ha)]
  have ht : taken (l.map cmBytes) = l.map cmBytes := taken_all (bodies_from ha) (by simpa using log_len h)
  have hb : logBytes l = cmFrames l := by unfold logBytes; rw [if_pos h]
  unfold logOf logUsed
  rw [hb, hs, ht, map_cmOf_bytes ha, cmFrames_eq, frames_used (bodies_ok ha)]
  exact ⟨rfl, rfl⟩
/-- What is read was written. -/
theorem usedF_take_le (bs : List (List Int)) (k : Nat) : usedF (bs.take k) ≤ usedF bs := by
  conv => rhs; rw [← List.take_append_drop k bs, usedF_append]
  omega
theorem bytes_load (l : List Int) : logOk (logOf l) = true ∧ logBytes (logOf l) = l.take (logUsed l) ∧ logUsed l ≤ l.length := by
  have ha : ∀ c ∈ logOf l, cmOk c = true := by
    intro c hc
    unfold logOf at hc
    obtain ⟨b, hb, rfl⟩ := List.mem_map.1 hc
    exact (fromOk_parts (taken_ok hb)).2.2
  have hok := logOk_of ha (logOf_len l)
  obtain ⟨k, hk, _⟩ := taken_pre (scan l)
  have hle : usedF ((scan l).take k) ≤ usedF (scan l) := usedF_take_le _ _
  refine ⟨hok, ?_, ?_⟩
  · unfold logBytes; rw [if_pos hok, cmFrames_eq]
    have e : (logOf l).map cmBytes = taken (scan l) := by
      unfold logOf
      rw [List.map_map]
      conv => rhs; rw [← List.map_id (taken (scan l))]
      exact List.map_congr_left fun b hb => bytes_cmOf (taken_ok hb)
    unfold logUsed
    rw [e, hk]
    have h1 := scan_take l
    have hb1 : ∀ b ∈ (scan l).take k, bodyOk b = true := fun b hb => scan_bodies b (List.mem_of_mem_take hb)
    have h0 : ∀ q r : List (List Int), (∀ b ∈ q, bodyOk b = true) → q.flatMap fmOf = ((q ++ r).flatMap fmOf).take (usedF q) := fun q r hq => by
      rw [List.flatMap_append, ← frames_used hq, List.take_left' rfl]
    have h2 := h0 ((scan l).take k) ((scan l).drop k) hb1
    rw [List.take_append_drop] at h2
    rw [h2, h1, List.take_take, Nat.min_eq_left hle]
  · unfold logUsed; rw [hk]; exact Nat.le_trans hle (usedF_scan l)
/-- Bytes that are used are enough. -/
theorem load_again (l : List Int) : logOf (l.take (logUsed l)) = logOf l ∧ logUsed (l.take (logUsed l)) = logUsed l := by
  obtain ⟨h1, h2, h3⟩ := bytes_load l
  rw [← h2]
  obtain ⟨h4, h5⟩ := load_bytes h1
  refine ⟨h4, ?_⟩
  rw [h5, h2]; simp; omega
/-- A torn list of frames has a beginning. -/
theorem scan_torn : ∀ {bs : List (List Int)} (k : Nat), (∀ b ∈ bs, bodyOk b = true) → ∃ j, scan ((bs.flatMap fmOf).take k) = bs.take j ∧ usedF (bs.take j) ≤ k
  | [], k, _ => ⟨0, by simp [scan_nil], by simp [usedF]⟩
  | b :: r, k, h => by
    have hb := h b (List.mem_cons_self ..)
    have hl := fmOf_len2 hb
    rcases Nat.lt_or_ge k (b.length + 2) with hk | hk
    · refine ⟨0, ?_, by simp [usedF]⟩
      rw [List.flatMap_cons, List.take_append_of_le_length (by omega)]
      refine scan_none ?_
      unfold fmOf; rw [if_pos hb]
      cases k with
      | zero => rfl
      | succ k =>
        rw [List.take_succ_cons]
        simp only [headF]
        rw [if_neg]
        rintro ⟨_, _, h3, _, _⟩
        simp at h3; omega
    · obtain ⟨j, h1, h2⟩ := scan_torn (k - (b.length + 2)) (fun c hc => h c (List.mem_cons_of_mem _ hc)) (bs := r)
      refine ⟨j + 1, ?_, ?_⟩
      · rw [List.flatMap_cons, List.take_append, List.take_of_length_le (by omega), scan_frame hb, hl, h1]; rfl
      · simp [usedF] at h2 ⊢; omega
theorem load_torn {l : List Cm} (k : Nat) (h : logOk l = true) : ∃ j, logOf ((logBytes l).take k) = l.take j ∧ logUsed ((logBytes l).take k) ≤ k := by
  have ha := log_all h
  have hb : logBytes l = (l.map cmBytes).flatMap fmOf := by unfold logBytes; rw [if_pos h, cmFrames_eq]
  obtain ⟨j, h1, h2⟩ := scan_torn k (bodies_ok ha)
  have h3 := log_len h
  have ht : taken ((l.map cmBytes).take j) = (l.map cmBytes).take j := taken_all (fun b hb => bodies_from ha b (List.mem_of_mem_take hb)) (by simp; omega)
  refine ⟨j, ?_, ?_⟩
  · unfold logOf
    rw [hb, h1, ht, ← List.map_take, map_cmOf_bytes (fun c hc => ha c (List.mem_of_mem_take hc))]
  · unfold logUsed
    rw [hb, h1, ht]; exact h2
/-- Logs are one behind the other. -/
theorem bytes_join {l : List Cm} (k : Nat) (h : logOk l = true) : logOk (l.take k) = true ∧ logOk (l.drop k) = true ∧ logBytes (l.take k) ++ logBytes (l.drop k) = logBytes l := by
  have ha := log_all h
  have h3 := log_len h
  have h1 : logOk (l.take k) = true := logOk_of (fun c hc => ha c (List.mem_of_mem_take hc)) (by simp; omega)
  have h2 : logOk (l.drop k) = true := logOk_of (fun c hc => ha c (List.mem_of_mem_drop hc)) (by simp; omega)
  refine ⟨h1, h2, ?_⟩
  unfold logBytes
  rw [if_pos h1, if_pos h2, if_pos h]
  unfold cmFrames
  rw [← List.flatMap_append, List.take_append_drop]
end Go.Proofs.YtpdkajcnnanocaaGreatDoor
