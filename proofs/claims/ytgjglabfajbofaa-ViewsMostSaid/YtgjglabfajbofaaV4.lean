/- views: slices.Collect, Sort, Sorted at []int; views.Jump. -/
import Derived.Sort.OwnSortedInts
import Derived.Test.YtgjglabfajbofaaSh
import Derived.Test.YtgjglabfajbofaaV3
namespace Go.Proofs.Ytgjglabfajbofaa
open Go.RowKit Go.Shelf Go.Sort

/-- numbers in order -/
def srt (xs : List Int) : List Int := xs.mergeSort fun x y => decide (x ≤ y)
theorem srt_len (xs : List Int) : (srt xs).length = xs.length := List.length_mergeSort _

theorem sortI (v : Value) (xs : List Int) (w : World) (base : Nat) (hpos : 0 < xs.length) (hlen : xs.length < 4611686018427387904) (h : Ow i1 1 3 base w v xs) :
    Calls Try.prog 47 #[v] w fun e w' => e = .returned (.tuple #[]) ∧ Ow i1 1 3 base w' v (srt xs) ∧ w.grownBy w' v.ownBlock := by
  obtain ⟨hl, h⟩ := h
  rcases h with ⟨rfl, h0⟩ | ⟨g, cap, cur, rfl, hbg, hg, hn, hm, hs, ht⟩
  · omega
  · rw [flat_i1] at ht
    have hH : Holds (Value.int .i64) w g 0 xs.toArray := holds_of_blockI hg (by simpa using ht)
    have hgl : g < w.heap.size := (Array.getElem?_eq_some_iff.1 hg).1
    refine (Any.slices_Sort_int Try.lays189 g 0 cap xs w hH hgl hlen).mono ?_
    rintro e w' ⟨rfl, n, os, rfl⟩
    refine ⟨rfl, ?_, grownBy_sortedI _⟩
    unfold Ow
    rw [flat_i1, srt_len]
    exact ownsRow_sortedI (by simp) hbg hg hn hm hs

set_option maxRecDepth 100000 in
theorem collectI (Bs b off cap : Nat) (zs : List Int) (hbytes : zs.length * 8 ≤ 140737488355328) (w : World)
    (hb : b < w.heap.size) (hBs : Bs < w.heap.size) (hcs : w.cell? ⟨Bs, 0, none⟩ = some (.slice (some ⟨b, off, none⟩) zs.length cap)) (hcz : ∀ j (h : j < zs.length), w.cell? ⟨b, off + j, none⟩ = some (.int .i64 zs[j])) :
    Calls Try.prog 46 #[.func (.func 48) #[] #[.pointer (some ⟨Bs, 0, none⟩)]] w fun e W' => ∃ v, e = .returned v ∧ Ow i1 1 3 w.heap.size W' v zs ∧ Below w.heap.size w W' := by
  have hc : Calls Try.prog 56 #[.slice none 0 0, .func (.func 48) #[] #[.pointer (some ⟨Bs, 0, none⟩)]] w _ := callsIn_wide.1 (appendSeq_in Fence.wide 3 trivial trivial rfl (by omega) Bs b off cap zs hbytes w hb hBs hcs hcz)
  clear hcs hcz
  go_enter Try.func46, Try.ntmps46
  go_wp2_with (go_at_call 56; refine hc.mono ?_; rintro e w' ⟨v, rfl, h1, h2⟩)
  go_ret
  exact ⟨v, rfl, h1, h2⟩

theorem sortedI (Bs b off cap : Nat) (zs : List Int) (hpos : 0 < zs.length) (hbytes : zs.length * 8 ≤ 140737488355328) (w : World)
    (hb : b < w.heap.size) (hBs : Bs < w.heap.size) (hcs : w.cell? ⟨Bs, 0, none⟩ = some (.slice (some ⟨b, off, none⟩) zs.length cap)) (hcz : ∀ j (h : j < zs.length), w.cell? ⟨b, off + j, none⟩ = some (.int .i64 zs[j])) :
    Calls Try.prog 28 #[.func (.func 48) #[] #[.pointer (some ⟨Bs, 0, none⟩)]] w fun e W' => ∃ v, e = .returned v ∧ Ow i1 1 3 w.heap.size W' v (srt zs) ∧ Below w.heap.size w W' := by
  have hc := collectI Bs b off cap zs hbytes w hb hBs hcs hcz
  clear hcs hcz
  go_enter Try.func28, Try.ntmps28
  go_wp2_with (go_at_call 46; refine hc.mono ?_; rintro e w1 ⟨v, rfl, h1, h2⟩)
  have hs := sortI v zs w1 w.heap.size hpos (by omega) h1
  go_wp2_with (go_at_call 47; refine hs.mono ?_; rintro e w2 ⟨rfl, h3, h4⟩)
  go_ret
  exact ⟨v, rfl, h3, h2.grown h4 h2.size (fun k e => (h1.block k e).1)⟩

theorem valuesI (a : Option Addr) (n c : Nat) (w : World) :
    Calls Try.prog 29 #[.slice a n c] w fun e w' => e = .returned (.func (.func 48) #[] #[.pointer (some ⟨w.heap.size, 0, none⟩)]) ∧ w.alloc (.cells #[.slice a n c] 25) = w' := by
  go_enter Try.func29, Try.ntmps29
  go_wp2
  go_ret
  exact ⟨rfl, rfl⟩

/-- the view that a quorum has reached -/
def jumpV (xs : List Int) : Int := if mayB xs then (srt xs).getD (xs.length - (quo xs.length).toNat) 0 else 0

theorem jump_any (v : Value) (xs : List Int) (w : World) (B : Nat) (h : Rd i1 1 B w v xs) (hB : B ≤ w.heap.size) :
    Calls Try.prog 11 #[v] w fun e w' => e = .returned (.int .i64 (jumpV xs)) ∧ Below w.heap.size w w' := by
  have hc := may_any v xs w B h
  unfold jumpV
  obtain ⟨q, hq⟩ : ∃ q, mayB xs = q := ⟨_, rfl⟩
  rw [hq] at hc ⊢
  obtain ⟨a, c, rfl, hl, hm, hz, hr⟩ := h.int
  clear h hz
  cases q
  · clear hr hq hm
    go_enter Try.func11, Try.ntmps11
    go_wp2_with (go_at_call 26; refine hc.mono ?_; rintro e w' ⟨rfl, rfl⟩)
    go_ret
    exact ⟨rfl, Below.refl _ _⟩
  · simp only [mayB, Bool.and_eq_true, decide_eq_true_eq] at hq
    have hq1 := hq.1
    have hqq : 1 ≤ xs.length ∧ xs.length ≤ 21 ∧ 1 ≤ quo xs.length ∧ quo xs.length ≤ xs.length := by
      unfold quo at hq1 ⊢; split at hq1 <;> split <;> omega
    clear hq hq1 hm
    obtain ⟨hp1, hp2, hp3, hp4⟩ := hqq
    obtain ⟨b, o, rfl, hb, hcell⟩ := hr (by omega)
    clear hr
    have hbel : Below w.heap.size w (w.alloc (.cells #[.slice (some ⟨b, o, none⟩) xs.length c] 25)) := (Below.refl _ w).alloc (Nat.le_refl _) _
    have hs := sortedI w.heap.size b o c xs (by omega) (by omega) (w.alloc (.cells #[.slice (some ⟨b, o, none⟩) xs.length c] 25)) (by simp; omega) (by simp) (by simp) (fun j hj => (hbel.cell (p := ⟨b, o + j, none⟩) (by simp; omega)).trans (hcell j hj))
    clear hcell
    have hsl := srt_len xs
    obtain ⟨ys, hys⟩ : ∃ ys, srt xs = ys := ⟨_, rfl⟩
    rw [hys] at hs hsl ⊢
    clear hys
    rw [← hsl] at hp1 hp2 hp3 hp4
    obtain ⟨q, hq⟩ : ∃ q : Nat, quo ys.length = q := ⟨(quo ys.length).toNat, by omega⟩
    have hres : ys.getD (xs.length - (quo xs.length).toNat) 0 = ys.getD (ys.length - q) 0 := by rw [← hsl, hq, Int.toNat_natCast]
    rw [hres]
    clear hres
    rw [hq] at hp3 hp4
    have hqu := fun w => quorum_any ys.length w
    rw [hq] at hqu
    have hlt : ys.length - q < ys.length := by omega
    have hfin : ys.getD (ys.length - q) 0 = ys[ys.length - q] := by rw [List.getD_eq_getElem?_getD, List.getElem?_eq_getElem hlt]; rfl
    rw [hfin]
    clear hfin
    have Hsl := Lib.hid hsl; clear hsl hq
    go_enter Try.func11, Try.ntmps11
    go_wp2_with (first
      | (go_at_call 26; refine hc.mono ?_; rintro e w' ⟨rfl, rfl⟩)
      | (go_at_call 29; refine (valuesI _ _ _ _).mono ?_; rintro e w' ⟨rfl, rfl⟩))
    refine hs.mono ?_
    rintro e w1 ⟨v1, rfl, hown, hbel1⟩
    obtain ⟨g, cap, rfl, hg1, hg2, hg3, hfr⟩ := hown.form (by omega)
    have hci := Ow.cell (enc := i1) (k := 1) (fun _ => rfl) hown (ys.length - q) hlt 0 (by decide)
    simp only [Nat.mul_one, Nat.add_zero, i1, List.getElem?_cons_zero] at hci
    have Hw := Lib.hid (hbel.trans (hbel1.mono (by simp)))
    go_wp2_with (go_at_call 25; refine (hqu _).mono ?_; rintro e w' ⟨rfl, rfl⟩)
    go_ret
    exact ⟨by simp, Hw.out⟩
end Go.Proofs.Ytgjglabfajbofaa
