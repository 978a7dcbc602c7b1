/- ViewsRises: the walk. -/
import Derived.Test.YtgjglabfajbofaaV6
namespace Go.Proofs.Ytgjglabfajbofaa
open Go.RowKit

/-- a pair's two cells -/
def p2 (p : Int × Int) : List Value := [.int .i64 p.1, .int .i64 p.2]

theorem Rd.pair {B : Nat} {w : World} {v : Value} {xs : List (Int × Int)} (h : Rd p2 2 B w v xs) : ∃ a c, v = .slice a xs.length c ∧ xs.length ≤ c ∧ c ≤ maxLen ∧ (a = none → xs.length = 0 ∧ c = 0) ∧
    (0 < xs.length → ∃ b o, a = some ⟨b, o, none⟩ ∧ b < B ∧ ∀ i (h : i < xs.length), w.cell? ⟨b, o + i * 2, none⟩ = some (.int .i64 xs[i].1) ∧ w.cell? ⟨b, o + i * 2 + 1, none⟩ = some (.int .i64 xs[i].2)) := by
  obtain ⟨a, c, rfl, hc, hm, hz, hr⟩ := h
  refine ⟨a, c, rfl, hc, hm, hz, fun hp => ?_⟩
  obtain ⟨b, o, rfl, hlt, hcell⟩ := hr hp
  refine ⟨b, o, rfl, hlt, fun i hi => ⟨?_, ?_⟩⟩
  · have := hcell i hi 0 (by omega)
    simpa [p2] using this
  · have := hcell i hi 1 (by omega)
    simpa [p2] using this

def stateV (n : Int) (l : List (Int × Int)) : List Int := l.foldl stepS (List.replicate n.toNat 0)
theorem stateV_snoc (n : Int) (l : List (Int × Int)) (p : Int × Int) : stateV n (l ++ [p]) = stepS (stateV n l) p := by simp [stateV]
theorem fold_may (l : List (Int × Int)) : ∀ s, mayB s = true → mayB (l.foldl stepS s) = true ∧ (l.foldl stepS s).length = s.length := by
  induction l with
  | nil => intro s h; exact ⟨h, rfl⟩
  | cons p l ih => intro s h; have := ih (stepS s p) (step_may h p); rw [step_len] at this; exact this
theorem stateV_may {n : Int} (h : quo n ≠ 0) (l : List (Int × Int)) : mayB (stateV n l) = true ∧ ((stateV n l).length : Int) = n := by
  obtain ⟨h1, h2⟩ := zero_may h
  obtain ⟨h3, h4⟩ := fold_may l _ h1
  exact ⟨h3, by unfold stateV; rw [h4]; exact h2⟩

/-- the word of the loop: what is heard behind k pairs -/
structure RiseRel (n : Int) (l : List (Int × Int)) (w wr : World) (x : Value) (k : Nat) : Prop where
  own : Ow i1 1 3 w.heap.size wr x (stateV n (l.take k))
  below : Below w.heap.size w wr

theorem rise_round {n : Int} (hq : quo n ≠ 0) (l : List (Int × Int)) (k : Nat) (hlt : k < l.length) : ∃ (s s' : List Int) (p1 p2 E : Int), stateV n (l.take k) = s ∧ stateV n (l.take (k + 1)) = s' ∧ l[k].1 = p1 ∧ l[k].2 = p2 ∧
    heardE s p1 p2 = E ∧ heardL s p1 p2 = (if E = 0 then s' else []) ∧ (E ≠ 0 → s' = s) ∧ mayB s' = true ∧ jumpV s ≤ jumpV s' ∧ quo n ≤ reachedN s' (jumpV s') ∧ (aheadN s' (jumpV s') : Int) < quo n := by
  obtain ⟨hm1, hm2⟩ := stateV_may hq (l.take k)
  obtain ⟨hn1, hn2⟩ := stateV_may hq (l.take (k + 1))
  have hst : stateV n (l.take (k + 1)) = stepS (stateV n (l.take k)) l[k] := by rw [List.take_succ_eq_append_getElem hlt, stateV_snoc]
  have hju := jump_rises hm1 l[k]
  have hme := jump_meets hn1
  rw [hn2] at hme
  rw [← hst] at hju
  refine ⟨_, _, _, _, _, rfl, rfl, rfl, rfl, rfl, ?_, ?_, hn1, hju, hme.1, hme.2⟩
  · rw [hst]; unfold heardL stepS; split <;> rfl
  · intro h; rw [hst]; unfold stepS; rw [if_neg h]

set_option maxHeartbeats 1000000 in
theorem viewsRises_any (n : Int) (v : Value) (l : List (Int × Int)) (w : World) (h : Rd p2 2 w.heap.size w v l) :
    Calls Try.prog 3 #[.int .i64 n, v] w fun e w' => e = .returned (.bool true) ∧ Below w.heap.size w w' := by
  obtain ⟨a, c, rfl, hl, hm, hz, hr⟩ := h.pair
  clear h hz
  unfold maxLen at hm
  by_cases hq : quo n = 0
  · have hb : (quo n == 0) = true := by simp [hq]
    clear hr hq
    go_enter Try.func3, Try.ntmps3
    go_wp2_with (first
      | (go_at_call 7; refine (refQuorum_any _ _).mono ?_; rintro e w' ⟨rfl, rfl⟩)
      | (go_at_call 8; refine (awakeV _).mono ?_; rintro e w1 ⟨rfl, hb1⟩))
    go_ret
    exact ⟨rfl, hb1⟩
  · have hb : (quo n == 0) = false := by simp [hq]
    by_cases h60 : 60 < l.length
    · clear hr hq
      go_enter Try.func3, Try.ntmps3
      go_wp2_with (first
        | (go_at_call 7; refine (refQuorum_any _ _).mono ?_; rintro e w' ⟨rfl, rfl⟩)
        | (go_at_call 8; refine (awakeV _).mono ?_; rintro e w1 ⟨rfl, hb1⟩))
      go_ret
      exact ⟨rfl, hb1⟩
    · have hnew := new_any n w
      rw [if_neg hq] at hnew
      have Hrr := Lib.hid (rise_round hq l)
      have Hj0 := Lib.hid (zero_jump hq)
      clear hq
      go_enter Try.func3, Try.ntmps3
      go_wp2_with (go_at_call 7; refine (refQuorum_any _ _).mono ?_; rintro e w' ⟨rfl, rfl⟩)
      refine hnew.mono ?_
      rintro e w1 ⟨v1, rfl, hown1, hb1⟩
      clear hnew
      go_wp2_with fail
      go_loopw [6, 7, 8] (fun vs j i wr => ∃ (k : Nat) (x : Value), k ≤ l.length ∧ i = .int .i64 k ∧ x = vs ∧ j = .int .i64 (jumpV (stateV n (l.take k))) ∧ RiseRel n l w wr x k) (fun _ _ i _ => l.length - (intOf i).toNat)
      case atStart => exact ⟨0, _, by omega, rfl, rfl, by rw [show stateV n (l.take 0) = List.replicate n.toNat 0 from rfl, Hj0.out], hown1, hb1⟩
      case round =>
        obtain ⟨k, vs, hk, rfl, rfl, rfl, hR⟩ := hrel
        by_cases hlt : k < l.length
        · obtain ⟨b, o, rfl, hbb, hcell⟩ := hr (by omega)
          obtain ⟨hc1, hc2⟩ := hcell k hlt
          have hw1 := (hR.below.cell (p := ⟨b, o + k * 2, none⟩) hbb).trans hc1
          have hw2 := (hR.below.cell (p := ⟨b, o + k * 2 + 1, none⟩) hbb).trans hc2
          clear hc1 hc2 hcell hr
          obtain ⟨s, s', p1, p2, E, hs, hs', hp1, hp2, hE, hL, hno, hmay', hju, hre, hah⟩ := Hrr.out k hlt
          have hown := hR.own
          have hbel := hR.below
          clear hR
          rw [hp1] at hw1
          rw [hp2] at hw2
          rw [hs] at hown ⊢
          have Hs' := Lib.hid hs'; clear hs' hs hp1 hp2
          have hhe := fun (w : World) h => heard_any vs s p1 p2 w wr.heap.size h
          rw [hE, hL] at hhe
          have Hno := Lib.hid hno
          have Hmay' := Lib.hid hmay'
          clear hE hL hno hmay'
          have hro := Ow.rd (enc := i1) (k := 1) (fun _ => rfl) hown
          by_cases hE0 : E = 0
          · subst hE0
            rw [if_pos rfl] at hhe
            have hro' : Rd i1 1 wr.heap.size wr.drew vs s := hro
            have hbr : b < wr.heap.size := Nat.lt_of_lt_of_le hbb hbel.size
            go_wp2_with fail
            go_region_held3 (fun w' => w'.cell? ⟨b, o + k * 2, none⟩ = some (.int .i64 p1) ∧ w'.cell? ⟨b, o + k * 2 + 1, none⟩ = some (.int .i64 p2)) (go_keep)
              ((go_at_call 10; refine (hhe wr.drew hro' (Nat.le_refl _)).mono ?_; rintro e w2 ⟨v2, rfl, hown2, hb2⟩; have hk1 := (hb2.cell (p := ⟨b, o + k * 2, none⟩) hbr).trans hw1; have hk2 := (hb2.cell (p := ⟨b, o + k * 2 + 1, none⟩) hbr).trans hw2))
            have hB2 : Below w.heap.size w w2 := hbel.drew.trans (hb2.mono hbel.size)
            have ho2 : Ow i1 1 3 w.heap.size w2 v2 s' := hown2.lower hbel.size
            have hj := jump_any v2 s' w2 w2.heap.size (Ow.rd (enc := i1) (k := 1) (fun _ => rfl) ho2) (Nat.le_refl _)
            clear hown2 hb2 hk1 hk2 hown hro hro' hhe hw1 hw2
            go_wp2_with (go_at_call 11; refine hj.mono ?_; rintro e w3 ⟨rfl, hb3⟩)
            have ho3 := ho2.below hb3
            have hr3 := Ow.rd (enc := i1) (k := 1) (fun _ => rfl) ho3
            have hrea := reached_any v2 s' (jumpV s') w3 w3.heap.size hr3
            have hahe := ahead_any v2 s' (jumpV s') w3 w3.heap.size hr3
            rw [if_pos Hmay'.out] at hahe
            have HB := Lib.hid (hB2.trans (hb3.mono hB2.size))
            clear hj hr3
            go_wp2_with (first
              | (go_at_call 12; refine hrea.mono ?_; rintro e w' ⟨rfl, rfl⟩)
              | (go_at_call 13; refine hahe.mono ?_; rintro e w' ⟨rfl, rfl⟩))
            go_roundw
            case rel => exact ⟨k + 1, v2, by omega, by go_num, rfl, by rw [Hs'.out], by rw [Hs'.out]; exact ho3, HB.out⟩
            case measure => simp [intOf]; omega
          · have hEb : (E == 0) = false := by simp [hE0]
            obtain rfl := Hno.out hE0
            rw [if_neg hE0] at hhe
            have hro' : Rd i1 1 wr.heap.size wr.drew vs s' := hro
            have hbr : b < wr.heap.size := Nat.lt_of_lt_of_le hbb hbel.size
            clear hE0
            go_wp2_with fail
            go_region_held3 (fun w' => w'.cell? ⟨b, o + k * 2, none⟩ = some (.int .i64 p1) ∧ w'.cell? ⟨b, o + k * 2 + 1, none⟩ = some (.int .i64 p2)) (go_keep)
              ((go_at_call 10; refine (hhe wr.drew hro' (Nat.le_refl _)).mono ?_; rintro e w2 ⟨v2, rfl, hown2, hb2⟩; have hk1 := (hb2.cell (p := ⟨b, o + k * 2, none⟩) hbr).trans hw1; have hk2 := (hb2.cell (p := ⟨b, o + k * 2 + 1, none⟩) hbr).trans hw2))
            have hB2 : Below w.heap.size w w2 := hbel.drew.trans (hb2.mono hbel.size)
            have ho2 : Ow i1 1 3 w.heap.size w2 vs s' := Ow.below (w := wr.drew) hown hb2
            have hj := jump_any vs s' w2 w2.heap.size (Ow.rd (enc := i1) (k := 1) (fun _ => rfl) ho2) (Nat.le_refl _)
            clear hown2 hb2 hk1 hk2 hown hro hro' hhe hw1 hw2
            go_wp2_with (go_at_call 11; refine hj.mono ?_; rintro e w3 ⟨rfl, hb3⟩)
            have ho3 := ho2.below hb3
            have hr3 := Ow.rd (enc := i1) (k := 1) (fun _ => rfl) ho3
            have hrea := reached_any vs s' (jumpV s') w3 w3.heap.size hr3
            have hahe := ahead_any vs s' (jumpV s') w3 w3.heap.size hr3
            rw [if_pos Hmay'.out] at hahe
            have HB := Lib.hid (hB2.trans (hb3.mono hB2.size))
            clear hj hr3
            go_wp2_with (first
              | (go_at_call 12; refine hrea.mono ?_; rintro e w' ⟨rfl, rfl⟩)
              | (go_at_call 13; refine hahe.mono ?_; rintro e w' ⟨rfl, rfl⟩))
            go_roundw
            case rel => exact ⟨k + 1, vs, by omega, by go_num, rfl, by rw [Hs'.out], by rw [Hs'.out]; exact ho3, HB.out⟩
            case measure => simp [intOf]; omega
        · go_wp2_with (go_at_call 8; refine (awakeV _).mono ?_; rintro e w2 ⟨rfl, hb2⟩)
          go_ret
          exact ⟨rfl, hR.below.trans (hb2.mono hR.below.size)⟩
end Go.Proofs.Ytgjglabfajbofaa
