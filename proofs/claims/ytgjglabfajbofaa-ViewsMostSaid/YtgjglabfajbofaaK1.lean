/- Contracts of the smallest functions: keys.Node, keys.Quorum, tithingref04.Quorum. -/
import Derived.Test.YtgjglabfajbofaaProg
import Derived.Test.YtgjglabfajbofaaM0
import Derived.BigQuiet
namespace Go.Proofs.Ytgjglabfajbofaa
open Go.RowKit

/-- how many of n parts are enough -/
def quo (n : Int) : Int := if 1 ≤ n ∧ n ≤ 21 ∧ n % 2 = 1 then n / 2 + 1 else 0

def nodeB (n : Int) : Bool := decide (1 ≤ n ∧ n ≤ 21)


theorem node_any (n : Int) (w : World) :
    Calls Try.prog 43 #[.int .i64 n] w fun e w' => e = .returned (.bool (nodeB n)) ∧ w = w' := by
  go_enter Try.func43, Try.ntmps43
  by_cases h : 1 ≤ n
  all_goals
    go_wp2
    go_ret
    refine ⟨ret_bool ?_, rfl⟩
    simp only [nodeB]
    rw [Bool.eq_iff_iff]
    simp
    try omega

theorem quorum_any (n : Int) (w : World) :
    Calls Try.prog 25 #[.int .i64 n] w fun e w' => e = .returned (.int .i64 (quo n)) ∧ w = w' := by
  by_cases h : 1 ≤ n ∧ n ≤ 21
  · have hb : nodeB n = true := by simp [nodeB, h]
    obtain ⟨h1, h2⟩ := h
    by_cases h3 : n % 2 = 0
    all_goals
      go_enter Try.func25, Try.ntmps25
      go_wp2_with (go_at_call 43; refine (node_any _ _).mono ?_; rintro e w' ⟨rfl, rfl⟩)
      go_ret
      refine ⟨ret_int ?_, rfl⟩
      unfold quo
      first | rw [if_neg (by omega)] | rw [if_pos (by omega)]
  · have hb : nodeB n = false := by simp [nodeB]; omega
    go_enter Try.func25, Try.ntmps25
    go_wp2_with (go_at_call 43; refine (node_any _ _).mono ?_; rintro e w' ⟨rfl, rfl⟩)
    go_ret
    refine ⟨ret_int ?_, rfl⟩
    unfold quo
    rw [if_neg (by omega)]

theorem refQuorum_any (n : Int) (w : World) :
    Calls Try.prog 7 #[.int .i64 n] w fun e w' => e = .returned (.int .i64 (quo n)) ∧ w = w' := by
  go_enter Try.func7, Try.ntmps7
  go_wp2
  go_loop [3] (fun i => ∃ k : Nat, k ≤ 11 ∧ i = .int .i64 k ∧ ∀ j : Nat, j < k → n ≠ 2 * j + 1) (fun i => 11 - (intOf i).toNat)
  case atStart => exact ⟨0, by omega, rfl, fun j hj => by omega⟩
  case round =>
    obtain ⟨k, hk, rfl, hn⟩ := hrel
    have Hn := Lib.hid hn; clear hn
    by_cases hlt : k ≤ 10
    · by_cases he : n = 2 * k + 1
      · have hb : (n == 2 * (k : Int) + 1) = true := by simp [he]
        have He := Lib.hid he; clear he
        go_wp2
        go_ret
        refine ⟨ret_int ?_, rfl⟩
        have he := He.out
        unfold quo
        rw [if_pos (by omega)]; omega
      · have hb : (n == 2 * (k : Int) + 1) = false := by simp [he]
        have He := Lib.hid he; clear he
        go_wp2
        go_round
        case rel => exact ⟨k + 1, by omega, by go_num, fun j hj => by
          by_cases hjk : j = k
          · subst hjk; exact He.out
          · exact Hn.out j (by omega)⟩
        case measure => simp [intOf]; omega
    · go_wp2
      go_ret
      refine ⟨ret_int ?_, rfl⟩
      unfold quo
      rw [if_neg]
      intro h
      exact Hn.out ((n.toNat - 1) / 2) (by omega) (by omega)
end Go.Proofs.Ytgjglabfajbofaa
