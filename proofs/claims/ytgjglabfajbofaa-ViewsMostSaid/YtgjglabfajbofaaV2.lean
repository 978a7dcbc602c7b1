/- views: New, Heard, Ahead; the reference's Reached. -/
import Derived.Test.YtgjglabfajbofaaV1
namespace Go.Proofs.Ytgjglabfajbofaa
open Go.RowKit

theorem new_any (n : Int) (w : World) :
    Calls Try.prog 9 #[.int .i64 n] w fun e w' => ∃ v', e = .returned v' ∧ Ow i1 1 3 w.heap.size w' v' (if quo n = 0 then [] else List.replicate n.toNat 0) ∧ Below w.heap.size w w' := by
  obtain ⟨i0, hi, hz0, hz1, hz2⟩ := info_parts Try.info_int
  by_cases h : quo n = 0
  · rw [if_pos h]
    have hb : (quo n == 0) = true := by simp [h]
    clear h
    go_enter Try.func9, Try.ntmps9
    go_wp2_with (go_at_call 25; refine (quorum_any _ _).mono ?_; rintro e w' ⟨rfl, rfl⟩)
    go_ret
    exact ⟨_, rfl, Ow.nil _ _ _ _ _, Below.refl _ _⟩
  · rw [if_neg h]
    have hn : 1 ≤ n ∧ n ≤ 21 := by unfold quo at h; split at h <;> omega
    obtain ⟨n, rfl⟩ := Int.eq_ofNat_of_zero_le (by omega : 0 ≤ n)
    have hb : (quo n == 0) = false := by simp [h]
    clear h
    go_enter Try.func9, Try.ntmps9
    go_wp2_with (first
      | (go_at_call 25; refine (quorum_any _ _).mono ?_; rintro e w' ⟨rfl, rfl⟩)
      | (refine wpList_make_full _ rfl _ _ 25 rfl w.heap.size 3 i0 (.int .i64 0) 1 Try.underlying25 hi hz0 hz1 _ _ _ _ n rfl rfl rfl rfl (by rw [hz2]; omega) (by unfold maxLen; omega) (Nat.le_refl _) ?_; intro w1 hown hg))
    go_ret
    refine ⟨_, rfl, ?_, (Below.refl _ w).grown hg (Nat.le_refl _) (fun k e => by cases e)⟩
    unfold Ow
    simp only [Int.toNat_natCast, List.length_replicate]
    rw [show (List.replicate n (0 : Int)).flatMap i1 = (madeCells (Value.int .i64 0).cells (n * 1)).toList by
      rw [flat_i1, List.map_replicate, Nat.mul_one]; exact (toList_madeCells_one _ _).symm]
    exact hown

/-- how many are above a view -/
def aheadN (xs : List Int) (view : Int) : Nat := (xs.filter fun v => decide (view < v)).length
theorem aheadN_le (xs : List Int) (view : Int) : aheadN xs view ≤ xs.length := List.length_filter_le _ _
theorem aheadN_snoc (xs : List Int) (view : Int) (k : Nat) (h : k < xs.length) : aheadN (xs.take (k + 1)) view = aheadN (xs.take k) view + if view < xs[k] then 1 else 0 := by
  unfold aheadN
  rw [List.take_succ_eq_append_getElem h, List.filter_append, List.length_append]
  by_cases hv : view < xs[k] <;> simp [hv]

theorem ahead_any (v : Value) (xs : List Int) (view : Int) (w : World) (B : Nat) (h : Rd i1 1 B w v xs) :
    Calls Try.prog 13 #[v, .int .i64 view] w fun e w' => e = .returned (.int .i64 (if mayB xs then aheadN xs view else 0)) ∧ w = w' := by
  have hc := may_any v xs w B h
  obtain ⟨a, c, rfl, hl, hm, hz, hr⟩ := h.int
  clear h hz
  unfold maxLen at hm
  obtain ⟨q, hq⟩ : ∃ q, mayB xs = q := ⟨_, rfl⟩
  rw [hq] at hc ⊢
  clear hq
  cases q
  · clear hr
    go_enter Try.func13, Try.ntmps13
    go_wp2_with (go_at_call 26; refine hc.mono ?_; rintro e w' ⟨rfl, rfl⟩)
    go_ret
    exact ⟨rfl, rfl⟩
  · go_enter Try.func13, Try.ntmps13
    go_wp2_with (go_at_call 26; refine hc.mono ?_; rintro e w' ⟨rfl, rfl⟩)
    go_loop [5, 13] (fun n i => ∃ k : Nat, k ≤ xs.length ∧ i = .int .i64 k ∧ n = .int .i64 (aheadN (xs.take k) view)) (fun _ i => xs.length - (intOf i).toNat)
    case atStart => exact ⟨0, by omega, rfl, rfl⟩
    case round =>
      obtain ⟨k, hk, rfl, rfl⟩ := hrel
      have hle := aheadN_le (xs.take k) view
      rw [List.length_take] at hle
      by_cases hlt : k < xs.length
      · obtain ⟨b, o, rfl, hb, hcell⟩ := hr (by omega)
        have hck := hcell k hlt
        have Hs := Lib.hid (aheadN_snoc xs view k hlt)
        clear hcell hr hc
        obtain ⟨x, hx⟩ : ∃ x, xs[k] = x := ⟨_, rfl⟩
        rw [hx] at hck Hs
        clear hx
        by_cases hv : view < x
        all_goals
          go_wp2
          go_round
          case rel => exact ⟨k + 1, by omega, by go_num, by have h := Hs.out; first | (rw [if_pos hv] at h; rw [h]; go_num) | (rw [if_neg (by omega)] at h; rw [h]; rfl)⟩
          case measure => simp [intOf]; omega
      · go_wp2
        go_ret
        refine ⟨ret_int ?_, rfl⟩
        rw [List.take_of_length_le (by omega)]
        try simp

def reachedN (xs : List Int) (view : Int) : Nat := (xs.filter fun v => decide (view ≤ v)).length
theorem reachedN_le (xs : List Int) (view : Int) : reachedN xs view ≤ xs.length := List.length_filter_le _ _
theorem reachedN_snoc (xs : List Int) (view : Int) (k : Nat) (h : k < xs.length) : reachedN (xs.take (k + 1)) view = reachedN (xs.take k) view + if view ≤ xs[k] then 1 else 0 := by
  unfold reachedN
  rw [List.take_succ_eq_append_getElem h, List.filter_append, List.length_append]
  by_cases hv : view ≤ xs[k] <;> simp [hv]

theorem reached_any (v : Value) (xs : List Int) (view : Int) (w : World) (B : Nat) (h : Rd i1 1 B w v xs) :
    Calls Try.prog 12 #[v, .int .i64 view] w fun e w' => e = .returned (.int .i64 (reachedN xs view)) ∧ w = w' := by
  obtain ⟨a, c, rfl, hl, hm, hz, hr⟩ := h.int
  clear h hz
  unfold maxLen at hm
  go_enter Try.func12, Try.ntmps12
  go_wp2
  go_loop [5, 6] (fun n i => ∃ k : Nat, k ≤ xs.length ∧ i = .int .i64 k ∧ n = .int .i64 (reachedN (xs.take k) view)) (fun _ i => xs.length - (intOf i).toNat)
  case atStart => exact ⟨0, by omega, rfl, rfl⟩
  case round =>
    obtain ⟨k, hk, rfl, rfl⟩ := hrel
    have hle := reachedN_le (xs.take k) view
    rw [List.length_take] at hle
    by_cases hlt : k < xs.length
    · obtain ⟨b, o, rfl, hb, hcell⟩ := hr (by omega)
      have hck := hcell k hlt
      have Hs := Lib.hid (reachedN_snoc xs view k hlt)
      clear hcell hr
      obtain ⟨x, hx⟩ : ∃ x, xs[k] = x := ⟨_, rfl⟩
      rw [hx] at hck Hs
      clear hx
      by_cases hv : view ≤ x
      all_goals
        go_wp2
        go_round
        case rel => exact ⟨k + 1, by omega, by go_num, by have h := Hs.out; first | (rw [if_pos hv] at h; rw [h]; go_num) | (rw [if_neg (by omega)] at h; rw [h]; rfl)⟩
        case measure => simp [intOf]; omega
    · go_wp2
      go_ret
      refine ⟨ret_int ?_, rfl⟩
      rw [List.take_of_length_le (by omega)]

/-- what is told of a part's view -/
def heardOk (xs : List Int) (i view : Int) : Bool := mayB xs && decide (1 ≤ i ∧ i ≤ xs.length ∧ 1 ≤ view ∧ view ≤ 1099511627776)
def heardE (xs : List Int) (i view : Int) : Int := if heardOk xs i view then (if view ≤ xs.getD (i - 1).toNat 0 then 11 else 0) else 1
def heardL (xs : List Int) (i view : Int) : List Int := if heardE xs i view = 0 then xs.set (i - 1).toNat view else []

theorem heard_no (v : Value) (xs : List Int) (i view : Int) (w : World) (B : Nat) (h : Rd i1 1 B w v xs) (hno : heardOk xs i view = false) :
    Calls Try.prog 10 #[v, .int .i64 i, .int .i64 view] w fun e w' => e = .returned (.tuple #[.slice none 0 0, .int .i64 1]) ∧ w = w' := by
  have hc := may_any v xs w B h
  obtain ⟨a, c, rfl, hl, hm, hz, hr⟩ := h.int
  clear h hz hr
  unfold maxLen at hm
  unfold heardOk at hno
  obtain ⟨q, hq⟩ : ∃ q, mayB xs = q := ⟨_, rfl⟩
  rw [hq] at hc hno
  clear hq
  cases q
  · clear hno
    go_enter Try.func10, Try.ntmps10
    go_wp2_with (go_at_call 26; refine hc.mono ?_; rintro e w' ⟨rfl, rfl⟩)
    go_ret2
    exact ⟨rfl, rfl⟩
  · simp only [Bool.true_and, decide_eq_false_iff_not] at hno
    by_cases h1 : i < 1
    · clear hno
      go_enter Try.func10, Try.ntmps10
      go_wp2_with (go_at_call 26; refine hc.mono ?_; rintro e w' ⟨rfl, rfl⟩)
      go_ret2
      exact ⟨rfl, rfl⟩
    · by_cases h2 : (xs.length : Int) < i
      · clear hno
        go_enter Try.func10, Try.ntmps10
        go_wp2_with (go_at_call 26; refine hc.mono ?_; rintro e w' ⟨rfl, rfl⟩)
        go_ret2
        exact ⟨rfl, rfl⟩
      · by_cases h3 : view < 1
        · clear hno
          go_enter Try.func10, Try.ntmps10
          go_wp2_with (go_at_call 26; refine hc.mono ?_; rintro e w' ⟨rfl, rfl⟩)
          go_ret2
          exact ⟨rfl, rfl⟩
        · have h4 : 1099511627776 < view := by omega
          clear hno
          go_enter Try.func10, Try.ntmps10
          go_wp2_with (go_at_call 26; refine hc.mono ?_; rintro e w' ⟨rfl, rfl⟩)
          go_ret2
          exact ⟨rfl, rfl⟩

theorem heard_yes (v : Value) (xs : List Int) (i view : Int) (w : World) (B : Nat) (h : Rd i1 1 B w v xs) (hB : B ≤ w.heap.size) (hyes : heardOk xs i view = true) :
    Calls Try.prog 10 #[v, .int .i64 i, .int .i64 view] w fun e w' => ∃ v', e = .returned (.tuple #[v', .int .i64 (heardE xs i view)]) ∧ Ow i1 1 3 w.heap.size w' v' (heardL xs i view) ∧ Below w.heap.size w w' := by
  have hc := may_any v xs w B h
  have hcl := cloneI v xs w B h hB
  obtain ⟨a, c, rfl, hl, hm, hz, hr⟩ := h.int
  clear h hz
  unfold maxLen at hm
  simp only [heardOk, Bool.and_eq_true, decide_eq_true_eq] at hyes
  obtain ⟨hq, h1, h2, h3, h4⟩ := hyes
  have hE : heardE xs i view = if view ≤ xs.getD (i - 1).toNat 0 then 11 else 0 := by
    unfold heardE; rw [if_pos]; simp [heardOk, hq, h1, h2, h3, h4]
  have hlen21 : xs.length ≤ 21 := by
    simp only [mayB, Bool.and_eq_true, decide_eq_true_eq] at hq
    have := hq.1; unfold quo at this; split at this <;> omega
  rw [hq] at hc
  clear hq
  obtain ⟨i, rfl⟩ : ∃ k : Nat, i = k + 1 := ⟨(i - 1).toNat, by omega⟩
  have hi : i < xs.length := by omega
  obtain ⟨b, o, rfl, hb, hcell⟩ := hr (by omega)
  have hck := hcell i hi
  clear hcell hr
  have hL : heardL xs (i + 1) view = if view ≤ xs[i] then [] else xs.set i view := by
    unfold heardL; rw [hE]
    simp only [Int.add_sub_cancel, Int.toNat_natCast, List.getD_eq_getElem?_getD, List.getElem?_eq_getElem hi, Option.getD_some]
    split <;> simp
  have hE' : heardE xs (i + 1) view = if view ≤ xs[i] then 11 else 0 := by
    rw [hE]
    simp only [Int.add_sub_cancel, Int.toNat_natCast, List.getD_eq_getElem?_getD, List.getElem?_eq_getElem hi, Option.getD_some]
  rw [hL, hE']
  clear hL hE hE'
  have hcl := hcl (by omega)
  by_cases hv : view ≤ xs[i]
  · rw [if_pos hv, if_pos hv]
    obtain ⟨x, hx⟩ : ∃ x, xs[i] = x := ⟨_, rfl⟩
    rw [hx] at hck hv
    clear hx
    go_enter Try.func10, Try.ntmps10
    go_wp2_with (go_at_call 26; refine hc.mono ?_; rintro e w' ⟨rfl, rfl⟩)
    go_ret2
    exact ⟨_, rfl, Ow.nil _ _ _ _ _, Below.refl _ _⟩
  · rw [if_neg hv, if_neg hv]
    have hset : (xs.set i view).length = xs.length := List.length_set
    obtain ⟨x, hx⟩ : ∃ x, xs[i] = x := ⟨_, rfl⟩
    rw [hx] at hck hv
    clear hx
    go_enter Try.func10, Try.ntmps10
    go_wp2_with (go_at_call 26; refine hc.mono ?_; rintro e w' ⟨rfl, rfl⟩)
    refine hcl.mono ?_
    rintro e w1 ⟨v1, rfl, hown, hbel⟩
    obtain ⟨g, cap, rfl, hg1, hg2, hg3, hfr⟩ := hown.form (by omega)
    have hfi := hfr i
    have hci := Ow.cell (enc := i1) (k := 1) (fun _ => rfl) hown i hi 0 (by decide)
    simp only [Nat.mul_one, Nat.add_zero, i1, List.getElem?_cons_zero] at hci
    go_wp2
    go_ret2
    refine ⟨_, rfl, ?_, hbel.setCell hg1 _⟩
    have := hown.set1 (f := Value.int .i64) i view
    rw [hset] at this
    exact this
end Go.Proofs.Ytgjglabfajbofaa
