/- ViewsMost: the plain law and the walk. -/
import Derived.Test.YtgjglabfajbofaaV7
namespace Go.Proofs.Ytgjglabfajbofaa
open Go.RowKit

def mostStep (k : Int) (m : Int) (p : Int × Int) : Int := if p.1 = k ∧ m < p.2 ∧ p.2 ≤ 1099511627776 then p.2 else m
/-- the greatest view that part k may have been in -/
def mostV (k : Int) (l : List (Int × Int)) : Int := l.foldl (mostStep k) 0
theorem mostV_snoc (k : Int) (l : List (Int × Int)) (p : Int × Int) : mostV k (l ++ [p]) = mostStep k (mostV k l) p := by simp [mostV]

theorem most_fold (k : Nat) (l : List (Int × Int)) : ∀ s (m : Int), mayB s = true → k < s.length → s.getD k 0 = m → (l.foldl stepS s).getD k 0 = l.foldl (mostStep (k + 1)) m := by
  induction l with
  | nil => intro s m _ _ h; exact h
  | cons p l ih =>
    intro s m hs hk hm
    refine ih _ _ (step_may hs p) (by rw [step_len]; exact hk) ?_
    obtain ⟨h1, h2, h3, h4, h5⟩ := may_parts hs
    have hm0 : 0 ≤ m := by
      rw [← hm, List.getD_eq_getElem?_getD, List.getElem?_eq_getElem hk]
      exact (h5 _ (List.getElem_mem hk)).1
    unfold stepS mostStep
    by_cases hE : heardE s p.1 p.2 = 0
    · rw [if_pos hE]
      obtain ⟨_, a1, a2, a3, a4, a5⟩ := heard_parts hE
      by_cases hp : p.1 = k + 1
      · have : (p.1 - 1).toNat = k := by omega
        rw [this] at a5 ⊢
        rw [hm] at a5
        rw [if_pos ⟨hp, a5, a4⟩, List.getD_eq_getElem?_getD, List.getElem?_set_self hk]; rfl
      · rw [if_neg (by intro h; exact hp h.1), List.getD_eq_getElem?_getD, List.getElem?_set_ne (by omega), ← List.getD_eq_getElem?_getD, hm]
    · rw [if_neg hE, if_neg, hm]
      rintro ⟨b1, b2, b3⟩
      apply hE
      have ho : heardOk s p.1 p.2 = true := by
        simp only [heardOk, hs, Bool.true_and, decide_eq_true_eq]; omega
      unfold heardE
      rw [if_pos ho, if_neg]
      have : (p.1 - 1).toNat = k := by omega
      rw [this, hm]; omega

theorem most_state {n : Int} (hq : quo n ≠ 0) (l : List (Int × Int)) (k : Nat) (hk : (k : Int) < n) : (stateV n l).getD k 0 = mostV (k + 1) l := by
  obtain ⟨h1, h2⟩ := zero_may hq
  refine most_fold k l _ 0 h1 (by omega) ?_
  rw [List.getD_eq_getElem?_getD, List.getElem?_eq_getElem (by omega)]
  simp

theorem most_round {n : Int} (hq : quo n ≠ 0) (l : List (Int × Int)) (k : Nat) (hlt : k < l.length) : ∃ (s s' : List Int) (p1 p2 E : Int), stateV n (l.take k) = s ∧ stateV n (l.take (k + 1)) = s' ∧ l[k].1 = p1 ∧ l[k].2 = p2 ∧
    heardE s p1 p2 = E ∧ heardL s p1 p2 = (if E = 0 then s' else []) ∧ (E ≠ 0 → s' = s) := by
  obtain ⟨s, s', p1, p2, E, a, b, c, d, e, f, g, _⟩ := rise_round hq l k hlt
  exact ⟨s, s', p1, p2, E, a, b, c, d, e, f, g⟩

set_option maxHeartbeats 2000000 in
theorem viewsMost_any (n : Int) (v : Value) (l : List (Int × Int)) (w : World) (h : Rd p2 2 w.heap.size w v l) :
    Calls Try.prog 4 #[.int .i64 n, v] w fun e w' => e = .returned (.bool true) ∧ Below w.heap.size w w' := by
  obtain ⟨a, c, rfl, hl, hm, hz, hr⟩ := h.pair
  clear h hz
  unfold maxLen at hm
  by_cases hq : quo n = 0
  · have hb : (quo n == 0) = true := by simp [hq]
    clear hr hq
    go_enter Try.func4, Try.ntmps4
    go_wp2_with (first
      | (go_at_call 7; refine (refQuorum_any _ _).mono ?_; rintro e w' ⟨rfl, rfl⟩)
      | (go_at_call 8; refine (awakeV _).mono ?_; rintro e w1 ⟨rfl, hb1⟩))
    go_ret
    exact ⟨rfl, hb1⟩
  · have hb : (quo n == 0) = false := by simp [hq]
    by_cases h60 : 60 < l.length
    · clear hr hq
      go_enter Try.func4, Try.ntmps4
      go_wp2_with (first
        | (go_at_call 7; refine (refQuorum_any _ _).mono ?_; rintro e w' ⟨rfl, rfl⟩)
        | (go_at_call 8; refine (awakeV _).mono ?_; rintro e w1 ⟨rfl, hb1⟩))
      go_ret
      exact ⟨rfl, hb1⟩
    · have hnew := new_any n w
      rw [if_neg hq] at hnew
      have Hrr := Lib.hid (most_round hq l)
      have Hlen := Lib.hid (stateV_may hq l)
      have Hms := Lib.hid (most_state hq l)
      have hn : 1 ≤ n ∧ n ≤ 21 := by unfold quo at hq; split at hq <;> omega
      obtain ⟨hn1, hn2⟩ := hn
      clear hq
      go_enter Try.func4, Try.ntmps4
      go_wp2_with (go_at_call 7; refine (refQuorum_any _ _).mono ?_; rintro e w' ⟨rfl, rfl⟩)
      refine hnew.mono ?_
      rintro e w1 ⟨v1, rfl, hown1, hb1⟩
      clear hnew
      go_wp2_with fail
      go_loopw [5, 6] (fun vs i wr => ∃ (k : Nat) (x : Value), k ≤ l.length ∧ i = .int .i64 k ∧ x = vs ∧ RiseRel n l w wr x k) (fun _ i _ => l.length - (intOf i).toNat)
      case atStart => exact ⟨0, _, by omega, rfl, rfl, hown1, hb1⟩
      case round =>
        obtain ⟨k, vs, hk, rfl, rfl, hR⟩ := hrel
        by_cases hlt : k < l.length
        · obtain ⟨b, o, rfl, hbb, hcell⟩ := hr (by omega)
          obtain ⟨hc1, hc2⟩ := hcell k hlt
          have hw1 := (hR.below.cell (p := ⟨b, o + k * 2, none⟩) hbb).trans hc1
          have hw2 := (hR.below.cell (p := ⟨b, o + k * 2 + 1, none⟩) hbb).trans hc2
          clear hc1 hc2 hcell hr
          obtain ⟨s, s', p1, p2, E, hs, hs', hp1, hp2, hE, hL, hno⟩ := Hrr.out k hlt
          have hown := hR.own
          have hbel := hR.below
          clear hR
          rw [hp1] at hw1
          rw [hp2] at hw2
          rw [hs] at hown
          have Hs' := Lib.hid hs'; clear hs' hs hp1 hp2
          have hhe := fun (w : World) h => heard_any vs s p1 p2 w wr.heap.size h
          rw [hE, hL] at hhe
          have Hno := Lib.hid hno
          clear hE hL hno
          have hro := Ow.rd (enc := i1) (k := 1) (fun _ => rfl) hown
          have hro' : Rd i1 1 wr.heap.size wr.drew vs s := hro
          have hbr : b < wr.heap.size := Nat.lt_of_lt_of_le hbb hbel.size
          by_cases hE0 : E = 0
          · subst hE0
            rw [if_pos rfl] at hhe
            go_wp2_with fail
            go_region_held3 (fun w' => w'.cell? ⟨b, o + k * 2, none⟩ = some (.int .i64 p1) ∧ w'.cell? ⟨b, o + k * 2 + 1, none⟩ = some (.int .i64 p2)) (go_keep)
              ((go_at_call 10; refine (hhe wr.drew hro' (Nat.le_refl _)).mono ?_; rintro e w2 ⟨v2, rfl, hown2, hb2⟩; have hk1 := (hb2.cell (p := ⟨b, o + k * 2, none⟩) hbr).trans hw1; have hk2 := (hb2.cell (p := ⟨b, o + k * 2 + 1, none⟩) hbr).trans hw2))
            have hB2 : Below w.heap.size w w2 := hbel.drew.trans (hb2.mono hbel.size)
            have ho2 : Ow i1 1 3 w.heap.size w2 v2 s' := hown2.lower hbel.size
            clear hown2 hb2 hk1 hk2 hown hro hro' hhe hw1 hw2
            go_wp2
            go_roundw
            case rel => exact ⟨k + 1, v2, by omega, by go_num, rfl, by rw [Hs'.out]; exact ho2, hB2⟩
            case measure => simp [intOf]; omega
          · have hEb : (E == 0) = false := by simp [hE0]
            obtain rfl := Hno.out hE0
            rw [if_neg hE0] at hhe
            clear hE0
            go_wp2_with fail
            go_region_held3 (fun w' => w'.cell? ⟨b, o + k * 2, none⟩ = some (.int .i64 p1) ∧ w'.cell? ⟨b, o + k * 2 + 1, none⟩ = some (.int .i64 p2)) (go_keep)
              ((go_at_call 10; refine (hhe wr.drew hro' (Nat.le_refl _)).mono ?_; rintro e w2 ⟨v2, rfl, hown2, hb2⟩; have hk1 := (hb2.cell (p := ⟨b, o + k * 2, none⟩) hbr).trans hw1; have hk2 := (hb2.cell (p := ⟨b, o + k * 2 + 1, none⟩) hbr).trans hw2))
            have hB2 : Below w.heap.size w w2 := hbel.drew.trans (hb2.mono hbel.size)
            have ho2 : Ow i1 1 3 w.heap.size w2 vs s' := Ow.below (w := wr.drew) hown hb2
            clear hown2 hb2 hk1 hk2 hown hro hro' hhe hw1 hw2
            go_wp2
            go_roundw
            case rel => exact ⟨k + 1, vs, by omega, by go_num, rfl, by rw [Hs'.out]; exact ho2, hB2⟩
            case measure => simp [intOf]; omega
        · have hown := hR.own
          have hbel := hR.below
          rw [List.take_of_length_le (by omega)] at hown
          clear hR Hrr
          obtain ⟨s, hs⟩ : ∃ s, stateV n l = s := ⟨_, rfl⟩
          have hln := Hlen.out.2
          have hmo := Hms.out
          rw [hs] at hown hln hmo
          have Hmo := Lib.hid hmo
          clear Hlen Hms hs hmo
          subst hln
          obtain ⟨g, cap, rfl, hg1, hg2, hg3, hfr⟩ := hown.form (by omega)
          have Hcell := Lib.hid (fun i hi => Ow.cell (enc := i1) (k := 1) (fun _ => rfl) hown i hi 0 (by decide))
          clear hfr hown1 hb1
          go_wp2_with fail
          obtain ⟨wo, rfl⟩ : ∃ wo : World, wo = wr := ⟨_, rfl⟩
          go_loop [9, 10, 11] (fun k _ _ => ∃ j : Nat, j ≤ s.length ∧ k = .int .i64 ((j : Int) + 1)) (fun k _ _ => s.length + 1 - (intOf k).toNat)
          case atStart => exact ⟨0, by omega, rfl⟩
          case round =>
            obtain ⟨j, hj, rfl⟩ := hrel
            by_cases hjl : j < s.length
            · have hcj := Hcell.out j hjl
              simp only [Nat.mul_one, Nat.add_zero, i1, List.getElem?_cons_zero] at hcj
              have hmj := Hmo.out j (by omega)
              rw [List.getD_eq_getElem?_getD, List.getElem?_eq_getElem hjl] at hmj
              simp only [Option.getD_some] at hmj
              obtain ⟨y, hy⟩ : ∃ y, s[j] = y := ⟨_, rfl⟩
              rw [hy] at hcj hmj
              have Hmj := Lib.hid hmj
              clear hmj hy
              go_wp2_with fail
              go_loop [10, 11] (fun m i => ∃ q : Nat, q ≤ l.length ∧ i = .int .i64 q ∧ m = .int .i64 (mostV (j + 1) (l.take q))) (fun _ i => l.length - (intOf i).toNat)
              case atStart => exact ⟨0, by omega, rfl, rfl⟩
              case round =>
                obtain ⟨q, hq, rfl, rfl⟩ := hrel
                by_cases hlt : q < l.length
                · obtain ⟨b, o, rfl, hbb, hcell⟩ := hr (by omega)
                  obtain ⟨hc1, hc2⟩ := hcell q hlt
                  have hw1 := (hbel.cell (p := ⟨b, o + q * 2, none⟩) hbb).trans hc1
                  have hw2 := (hbel.cell (p := ⟨b, o + q * 2 + 1, none⟩) hbb).trans hc2
                  have hst : mostV (j + 1) (l.take (q + 1)) = mostStep (j + 1) (mostV (j + 1) (l.take q)) l[q] := by rw [List.take_succ_eq_append_getElem hlt, mostV_snoc]
                  clear hc1 hc2 hcell hr
                  obtain ⟨p1, hp1⟩ : ∃ p1, l[q].1 = p1 := ⟨_, rfl⟩
                  obtain ⟨p2, hp2⟩ : ∃ p2, l[q].2 = p2 := ⟨_, rfl⟩
                  unfold mostStep at hst
                  rw [hp1] at hw1 hst
                  rw [hp2] at hw2 hst
                  obtain ⟨m, hm⟩ : ∃ m, mostV (j + 1) (l.take q) = m := ⟨_, rfl⟩
                  rw [hm] at hst ⊢
                  clear hm hp1 hp2
                  have Hst := Lib.hid hst
                  clear hst
                  by_cases h1 : p1 = (j : Int) + 1
                  · have h1b : (p1 == (j : Int) + 1) = true := by simp [h1]
                    have H1 := Lib.hid h1; clear h1
                    by_cases h2 : m < p2
                    · by_cases h3 : p2 ≤ 1099511627776
                      · go_wp2
                        go_round
                        case rel => exact ⟨q + 1, by omega, by go_num, by rw [Hst.out, if_pos ⟨H1.out, h2, h3⟩]⟩
                        case measure => simp [intOf]; omega
                      · go_wp2
                        go_round
                        case rel => exact ⟨q + 1, by omega, by go_num, by rw [Hst.out, if_neg (fun h => by omega)]⟩
                        case measure => simp [intOf]; omega
                    · go_wp2
                      go_round
                      case rel => exact ⟨q + 1, by omega, by go_num, by rw [Hst.out, if_neg (fun h => by omega)]⟩
                      case measure => simp [intOf]; omega
                  · have h1b : (p1 == (j : Int) + 1) = false := by simp [h1]
                    have H1 := Lib.hid h1; clear h1
                    go_wp2
                    go_round
                    case rel => exact ⟨q + 1, by omega, by go_num, by rw [Hst.out, if_neg (fun h => H1.out h.1)]⟩
                    case measure => simp [intOf]; omega
                · rw [List.take_of_length_le (by omega), ← Hmj.out]
                  have hyy : (y != y) = false := by simp
                  clear hr
                  go_wp2
                  go_round
                  case rel => exact ⟨j + 1, by omega, by go_num⟩
                  case measure => simp [intOf]; omega
            · go_wp2_with (go_at_call 8; refine (awakeV _).mono ?_; rintro e w2 ⟨rfl, hb2⟩)
              go_ret
              exact ⟨rfl, hbel.trans (hb2.mono hbel.size)⟩
end Go.Proofs.Ytgjglabfajbofaa
