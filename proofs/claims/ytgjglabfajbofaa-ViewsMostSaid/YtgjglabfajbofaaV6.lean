/- views: the walk of the laws' own small example, and of ViewsRises. -/
import Derived.Deep.RegionHeld3
import Derived.Test.YtgjglabfajbofaaV5
namespace Go.Proofs.Ytgjglabfajbofaa
open Go.RowKit

theorem heard_any (v : Value) (xs : List Int) (i view : Int) (w : World) (B : Nat) (h : Rd i1 1 B w v xs) (hB : B ≤ w.heap.size) :
    Calls Try.prog 10 #[v, .int .i64 i, .int .i64 view] w fun e w' => ∃ v', e = .returned (.tuple #[v', .int .i64 (heardE xs i view)]) ∧ Ow i1 1 3 w.heap.size w' v' (heardL xs i view) ∧ Below w.heap.size w w' := by
  cases ho : heardOk xs i view with
  | true => exact heard_yes v xs i view w B h hB ho
  | false =>
    refine (heard_no v xs i view w B h ho).mono ?_
    rintro e w' ⟨rfl, rfl⟩
    have hE : heardE xs i view = 1 := by unfold heardE; rw [ho]; rfl
    have hL : heardL xs i view = [] := by unfold heardL; rw [hE]; rfl
    rw [hE, hL]
    exact ⟨_, rfl, Ow.nil _ _ _ _ _, Below.refl _ _⟩

/-- three numbers in a block of their own -/
theorem rd_lit3 (w : World) (a b c : Int) : Rd i1 1 (w.heap.size + 1) (w.alloc (.cells #[.int .i64 a, .int .i64 b, .int .i64 c] 3)) (.slice (some ⟨w.heap.size, 0, none⟩) 3 3) [a, b, c] := by
  have h : Ow i1 1 3 w.heap.size (w.alloc (.cells #[.int .i64 a, .int .i64 b, .int .i64 c] 3)) (.slice (some ⟨w.heap.size, 0, none⟩) 3 3) [a, b, c] :=
    World.ownsRow_lit w #[.int .i64 a, .int .i64 b, .int .i64 c] 3 (Nat.le_refl _) (by simp [maxLen]) rfl
  have := Ow.rd (enc := i1) (k := 1) (fun _ => rfl) h
  simpa using this

theorem srt523 : srt [5, 2, 3] = [2, 3, 5] := by
  simp [srt, List.mergeSort, List.MergeSort.Internal.splitInTwo]

theorem jump523 : jumpV [5, 2, 3] = 3 := by
  unfold jumpV
  rw [srt523]
  decide +kernel

theorem awakeV_facts : heardE [0, 0, 0] 2 5 = 0 ∧ heardL [0, 0, 0] 2 5 = [0, 5, 0] ∧ quo 3 ≠ 0 ∧ mayB [5, 2, 3] = true ∧ jumpV [5, 2, 3] = 3 ∧ aheadN [5, 2, 3] 2 = 2 := by
  refine ⟨by decide +kernel, by decide +kernel, by decide +kernel, by decide +kernel, jump523, by decide +kernel⟩

set_option maxHeartbeats 400000 in
theorem awakeV (w : World) : Calls Try.prog 8 #[] w fun e w' => e = .returned (.bool true) ∧ Below w.heap.size w w' := by
  obtain ⟨f1, f2, f3, f4, f5, f6⟩ := awakeV_facts
  have hnew := new_any 3 w
  rw [if_neg f3] at hnew
  have hrep : List.replicate (3 : Int).toNat (0 : Int) = [0, 0, 0] := rfl
  rw [hrep] at hnew
  have hhe := fun v (w : World) h => heard_any v [0, 0, 0] 2 5 w w.heap.size h (Nat.le_refl _)
  rw [f1, f2] at hhe
  have hj := fun v (w : World) B h (hB : B ≤ w.heap.size) => jump_any v [5, 2, 3] w B h hB
  rw [f5] at hj
  have ha := fun v (w : World) B h => ahead_any v [5, 2, 3] 2 w B h
  rw [f4, if_pos rfl, f6] at ha
  clear f1 f2 f3 f4 f5 f6 hrep
  go_enter Try.func8, Try.ntmps8
  go_wp2_with fail
  refine hnew.mono ?_
  rintro e w1 ⟨v1, rfl, hown1, hb1⟩
  have hh := hhe v1 w1 (Ow.rd (enc := i1) (k := 1) (fun _ => rfl) hown1)
  go_wp2_with fail
  refine hh.mono ?_
  rintro e w2 ⟨v2, rfl, hown2, hb2⟩
  obtain ⟨g, cap, rfl, hg1, hg2, hg3, hfr⟩ := hown2.form (by decide)
  have hci := Ow.cell (enc := i1) (k := 1) (fun _ => rfl) hown2 1 (by decide) 0 (by decide)
  have hb12 := hb1.trans (hb2.mono hb1.size)
  clear hh hhe hnew hown1 hown2 hfr
  have hlit := rd_lit3 w2 5 2 3
  have hjj := hj _ _ _ hlit (by simp)
  simp [i1] at hci
  go_wp2_with fail
  refine hjj.mono ?_
  rintro e w3 ⟨rfl, hb3⟩
  have hlit3 := rd_lit3 w3 5 2 3
  have haa := ha _ _ _ hlit3
  go_wp2_with fail
  refine haa.mono ?_
  rintro e w4 ⟨rfl, rfl⟩
  go_wp2
  go_ret
  have h2 : w.heap.size ≤ w2.heap.size := hb12.size
  have h3 : w2.heap.size + 1 ≤ w3.heap.size := by have := hb3.size; simpa using this
  exact ⟨rfl, ((hb12.alloc h2 _).trans (hb3.mono (by simp; omega))).alloc (by omega) _⟩
end Go.Proofs.Ytgjglabfajbofaa
