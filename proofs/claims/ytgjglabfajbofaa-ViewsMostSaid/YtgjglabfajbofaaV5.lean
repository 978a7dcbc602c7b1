/- views: the plain law: the jump never falls; a quorum has reached it, and fewer than one are above it; of each part the greatest view is kept. -/
import Derived.Test.YtgjglabfajbofaaV4
namespace Go.Proofs.Ytgjglabfajbofaa
open Go.RowKit

/-- what is heard behind a pair -/
def stepS (s : List Int) (p : Int × Int) : List Int := if heardE s p.1 p.2 = 0 then s.set (p.1 - 1).toNat p.2 else s

theorem srt_perm (xs : List Int) : (srt xs).Perm xs := List.mergeSort_perm _ _
theorem srt_sorted (xs : List Int) : (srt xs).Pairwise (fun x y => x ≤ y) := by
  have := List.pairwise_mergeSort (le := fun x y : Int => decide (x ≤ y)) (by intro a b c; simp; omega) (by intro a b; simp; omega) xs
  exact this.imp (by intro a b h; simpa using h)

theorem reached_srt (xs : List Int) (v : Int) : reachedN (srt xs) v = reachedN xs v := by
  unfold reachedN; exact ((srt_perm xs).filter _).length_eq
theorem ahead_srt (xs : List Int) (v : Int) : aheadN (srt xs) v = aheadN xs v := by
  unfold aheadN; exact ((srt_perm xs).filter _).length_eq

/-- of an ordered list at least as many reach the one at k as stand from there on -/
theorem reached_sorted (ys : List Int) (h : ys.Pairwise fun x y => x ≤ y) (k : Nat) (hk : k < ys.length) : ys.length - k ≤ reachedN ys ys[k] := by
  unfold reachedN
  have hsub : (ys.drop k).length ≤ (ys.filter fun v => decide (ys[k] ≤ v)).length := by
    have h1 : (ys.drop k).filter (fun v => decide (ys[k] ≤ v)) = ys.drop k := by
      rw [List.filter_eq_self]
      intro a ha
      obtain ⟨j, hj, rfl⟩ := List.getElem_of_mem ha
      rw [List.length_drop] at hj
      rw [List.getElem_drop]
      simp only [decide_eq_true_eq]
      rcases Nat.eq_zero_or_pos j with rfl | hp
      · simp
      · exact List.pairwise_iff_getElem.1 h k (k + j) hk (by omega) (by omega)
    rw [← h1]
    exact (List.Sublist.filter _ (List.drop_sublist k ys)).length_le
  rw [List.length_drop] at hsub
  exact hsub

/-- .. and fewer are above it than stand from there on -/
theorem ahead_sorted (ys : List Int) (h : ys.Pairwise fun x y => x ≤ y) (k : Nat) (hk : k < ys.length) : aheadN ys ys[k] < ys.length - k := by
  unfold aheadN
  have h0 : (ys.take (k + 1)).filter (fun v => decide (ys[k] < v)) = [] := by
    rw [List.filter_eq_nil_iff]
    intro a ha
    obtain ⟨j, hj, rfl⟩ := List.getElem_of_mem ha
    rw [List.length_take] at hj
    rw [List.getElem_take]
    simp only [decide_eq_true_eq]
    rcases Nat.lt_or_ge j k with hjk | hjk
    · have := List.pairwise_iff_getElem.1 h j k (by omega) hk hjk; omega
    · have : j = k := by omega
      subst this; omega
  have h1 : ∀ x, (ys.take (k + 1)).filter (fun v => decide (x < v)) = [] → (ys.filter fun v => decide (x < v)).length ≤ (ys.drop (k + 1)).length := by
    intro x h0
    have e3 : ys.filter (fun v => decide (x < v)) = (ys.take (k + 1) ++ ys.drop (k + 1)).filter (fun v => decide (x < v)) := by rw [List.take_append_drop]
    rw [e3, List.filter_append, h0, List.nil_append]
    exact List.length_filter_le _ _
  have h1 := h1 _ h0
  rw [List.length_drop] at h1
  omega

theorem may_parts {s : List Int} (h : mayB s = true) : 1 ≤ s.length ∧ s.length ≤ 21 ∧ 1 ≤ quo s.length ∧ quo s.length ≤ s.length ∧ ∀ v ∈ s, 0 ≤ v ∧ v ≤ 1099511627776 := by
  simp only [mayB, Bool.and_eq_true, decide_eq_true_eq, Bool.not_eq_true', List.any_eq_false, mayV] at h
  obtain ⟨h1, h2⟩ := h
  have : 1 ≤ s.length ∧ s.length ≤ 21 ∧ 1 ≤ quo s.length ∧ quo s.length ≤ s.length := by
    unfold quo at h1 ⊢; split at h1 <;> split <;> omega
  exact ⟨this.1, this.2.1, this.2.2.1, this.2.2.2, fun v hv => by have := h2 v hv; simp at this; omega⟩

theorem jump_meets {s : List Int} (h : mayB s = true) : quo s.length ≤ reachedN s (jumpV s) ∧ (aheadN s (jumpV s) : Int) < quo s.length := by
  obtain ⟨h1, h2, h3, h4, _⟩ := may_parts h
  obtain ⟨q, hq⟩ : ∃ q : Nat, quo s.length = q := ⟨(quo s.length).toNat, by omega⟩
  unfold jumpV
  rw [if_pos h, hq, Int.toNat_natCast]
  rw [hq] at h3 h4
  have hl := srt_len s
  have hk : s.length - q < (srt s).length := by omega
  have hg : (srt s).getD (s.length - q) 0 = (srt s)[s.length - q] := by rw [List.getD_eq_getElem?_getD, List.getElem?_eq_getElem hk]; rfl
  rw [hg, ← reached_srt s, ← ahead_srt s]
  have r := reached_sorted _ (srt_sorted s) _ hk
  have a := ahead_sorted _ (srt_sorted s) _ hk
  omega

theorem reached_mono {s t : List Int} (hl : s.length = t.length) (h : ∀ i (hi : i < s.length), s[i] ≤ t[i]'(by omega)) (v : Int) : reachedN s v ≤ reachedN t v := by
  induction s generalizing t with
  | nil => simp [reachedN]
  | cons x s ih =>
    cases t with
    | nil => simp at hl
    | cons y t =>
      have h0 := h 0 (by simp)
      simp only [List.getElem_cons_zero] at h0
      have := ih (t := t) (by simpa using hl) (fun i hi => by have := h (i + 1) (by simp; omega); simpa using this)
      unfold reachedN at this ⊢
      simp only [List.filter_cons]
      by_cases hx : v ≤ x
      · rw [if_pos (by simpa using hx), if_pos (by simp; omega)]; simp; omega
      · rw [if_neg (by simpa using hx)]
        by_cases hy : v ≤ y
        · rw [if_pos (by simpa using hy)]; simp; omega
        · rw [if_neg (by simpa using hy)]; exact this

theorem reached_ahead {t : List Int} {v v' : Int} (h : v' < v) : reachedN t v ≤ aheadN t v' := by
  unfold reachedN aheadN
  induction t with
  | nil => simp
  | cons x t ih =>
    simp only [List.filter_cons]
    by_cases hx : v ≤ x
    · rw [if_pos (by simpa using hx), if_pos (by simp; omega)]; simp; omega
    · rw [if_neg (by simpa using hx)]
      by_cases hy : v' < x
      · rw [if_pos (by simpa using hy)]; simp; omega
      · rw [if_neg (by simpa using hy)]; exact ih

theorem step_len (s : List Int) (p : Int × Int) : (stepS s p).length = s.length := by unfold stepS; split <;> simp

/-- what a heard view says -/
theorem heard_parts {s : List Int} {i view : Int} (h : heardE s i view = 0) : mayB s = true ∧ 1 ≤ i ∧ i ≤ s.length ∧ 1 ≤ view ∧ view ≤ 1099511627776 ∧ s.getD (i - 1).toNat 0 < view := by
  unfold heardE at h
  split at h
  · rename_i ho
    simp only [heardOk, Bool.and_eq_true, decide_eq_true_eq] at ho
    split at h
    · omega
    · exact ⟨ho.1, ho.2.1, ho.2.2.1, ho.2.2.2.1, ho.2.2.2.2, by omega⟩
  · omega

theorem step_up {s : List Int} (p : Int × Int) : ∀ i (hi : i < s.length), s[i] ≤ (stepS s p)[i]'(by rw [step_len]; exact hi) := by
  intro i hi
  unfold stepS
  by_cases h : heardE s p.1 p.2 = 0
  · obtain ⟨_, _, _, _, _, hv⟩ := heard_parts h
    simp only [if_pos h]
    rw [List.getElem_set]
    split
    · rename_i he
      rw [List.getD_eq_getElem?_getD, he, List.getElem?_eq_getElem hi] at hv
      simp at hv; omega
    · omega
  · simp only [if_neg h]; omega

theorem step_may {s : List Int} (h : mayB s = true) (p : Int × Int) : mayB (stepS s p) = true := by
  obtain ⟨h1, h2, h3, h4, h5⟩ := may_parts h
  have hl := step_len s p
  simp only [mayB, Bool.and_eq_true, decide_eq_true_eq, Bool.not_eq_true', List.any_eq_false, mayV]
  refine ⟨by rw [hl]; omega, fun v hv => ?_⟩
  unfold stepS at hv
  split at hv
  · rename_i he
    obtain ⟨_, _, _, ha, hb, _⟩ := heard_parts he
    rcases List.mem_or_eq_of_mem_set hv with hv | rfl
    · have := h5 v hv; omega
    · omega
  · have := h5 v hv; omega

/-- the theorem of jumps, at one step -/
theorem jump_rises {s : List Int} (h : mayB s = true) (p : Int × Int) : jumpV s ≤ jumpV (stepS s p) := by
  obtain ⟨a1, a2⟩ := jump_meets h
  obtain ⟨b1, b2⟩ := jump_meets (step_may h p)
  rw [step_len] at b1 b2
  have hm := reached_mono (step_len s p).symm (step_up p) (jumpV s)
  by_cases hlt : jumpV (stepS s p) < jumpV s
  · have := reached_ahead (t := stepS s p) hlt
    omega
  · omega

theorem zero_may {n : Int} (h : quo n ≠ 0) : mayB (List.replicate n.toNat 0) = true ∧ ((List.replicate n.toNat (0 : Int)).length : Int) = n := by
  have hn : 1 ≤ n ∧ n ≤ 21 := by unfold quo at h; split at h <;> omega
  have hl : ((List.replicate n.toNat (0 : Int)).length : Int) = n := by simp; omega
  refine ⟨?_, hl⟩
  simp only [mayB, Bool.and_eq_true, decide_eq_true_eq, Bool.not_eq_true', List.any_eq_false, mayV]
  refine ⟨?_, fun v hv => ?_⟩
  · rw [hl]; unfold quo at h ⊢; split at h <;> split <;> omega
  · rw [List.mem_replicate] at hv; omega

theorem zero_jump {n : Int} (h : quo n ≠ 0) : jumpV (List.replicate n.toNat 0) = 0 := by
  obtain ⟨hm, hl⟩ := zero_may h
  unfold jumpV
  rw [if_pos hm]
  have : ∀ k, (srt (List.replicate n.toNat (0 : Int))).getD k 0 = 0 := by
    intro k
    rw [List.getD_eq_getElem?_getD]
    cases hk : (srt (List.replicate n.toNat (0 : Int)))[k]? with
    | none => rfl
    | some x =>
      have := (srt_perm _).mem_iff.1 (List.mem_of_getElem? hk)
      rw [List.mem_replicate] at this
      simp [this.2]
  exact this _
end Go.Proofs.Ytgjglabfajbofaa
