/- views: what it calls of package slices at []int. -/
import Derived.Test.YtgjglabfajbofaaK1
import Derived.Shelf.Abstract
namespace Go.Proofs.Ytgjglabfajbofaa
open Go.RowKit

/-- a predicate on ints handed over as function g, bound values lb -/
def PredI (g : Nat) (lb : Array Value) (p : Int → Bool) (w : World) : Prop :=
  ∀ W x, Below w.heap.size w W → Calls Try.prog g (#[.int .i64 x] ++ lb) W fun e W' => e = .returned (.bool (p x)) ∧ W = W'

def idxOf (p : Int → Bool) (xs : List Int) : Int := match xs.findIdx? p with | some i => i | none => -1

theorem idx_hit (p : Int → Bool) (xs : List Int) (k : Nat) (h : k < xs.length) (hn : ∀ j (hj : j < k), p (xs[j]'(by omega)) = false) (hp : p xs[k] = true) : idxOf p xs = k := by
  unfold idxOf
  rw [List.findIdx?_eq_some_iff_getElem.2 ⟨h, hp, fun j hj => by simpa using hn j hj⟩]
theorem idx_miss (p : Int → Bool) (xs : List Int) (hn : ∀ j (hj : j < xs.length), p (xs[j]'hj) = false) : idxOf p xs = -1 := by
  unfold idxOf
  rw [List.findIdx?_eq_none_iff.2]
  intro x hx
  obtain ⟨j, hj, rfl⟩ := List.getElem_of_mem hx
  exact hn j hj
theorem idx_any (p : Int → Bool) (xs : List Int) : decide (0 ≤ idxOf p xs) = xs.any p := by
  unfold idxOf
  cases h : xs.findIdx? p with
  | none =>
    rw [List.findIdx?_eq_none_iff] at h
    symm
    simp
    intro x hx; simpa using h x hx
  | some i =>
    obtain ⟨hi, hp, _⟩ := List.findIdx?_eq_some_iff_getElem.1 h
    have : xs.any p = true := List.any_eq_true.2 ⟨_, List.getElem_mem hi, hp⟩
    rw [this]; simp

theorem indexFuncI (g : Nat) (lb : Array Value) (p : Int → Bool) (eg : ∀ args w, (callFunc g args).run Try.prog w = .ok (.enter g args) w) (v : Value) (xs : List Int) (w : World) (hp : PredI g lb p w) (B : Nat) (h : Rd i1 1 B w v xs) :
    Calls Try.prog 55 #[v, .func (.func g) #[] lb] w fun e w' => e = .returned (.int .i64 (idxOf p xs)) ∧ w = w' := by
  obtain ⟨a, c, rfl, hc, hm, _, hr⟩ := h.int
  clear h
  unfold maxLen at hm
  go_enter Try.func55, Try.ntmps55
  go_wp2
  go_loop [8] (fun i => ∃ k : Nat, k ≤ xs.length ∧ i = .int .i64 k ∧ ∀ j (hj : j < k) (hx : j < xs.length), p xs[j] = false) (fun i => xs.length - (intOf i).toNat)
  case atStart => exact ⟨0, by omega, rfl, fun j hj => by omega⟩
  case round =>
    obtain ⟨k, hk, rfl, hn⟩ := hrel
    have Hn := Lib.hid hn; clear hn
    by_cases hlt : k < xs.length
    · obtain ⟨b, o, rfl, hb, hcell⟩ := hr (by omega)
      have hck := hcell k hlt
      have Hc := Lib.hid hcell; clear hcell
      have hpk := hp w xs[k] (Below.refl _ _)
      obtain ⟨q, hq⟩ : ∃ q, p xs[k] = q := ⟨_, rfl⟩
      rw [hq] at hpk
      have Hq := Lib.hid hq; clear hq
      clear hr hp
      cases q
      · go_wp2_with (go_at_fn g; refine hpk.mono ?_; rintro e w' ⟨rfl, rfl⟩)
        go_round
        case rel => exact ⟨k + 1, by omega, by go_num, fun j hj hx => by
          by_cases hjk : j = k
          · subst hjk; exact Hq.out
          · exact Hn.out j (by omega) hx⟩
        case measure => simp [intOf]; omega
      · go_wp2_with (go_at_fn g; refine hpk.mono ?_; rintro e w' ⟨rfl, rfl⟩)
        go_ret
        exact ⟨ret_int (idx_hit p xs k hlt (fun j hj => Hn.out j hj (by omega)) Hq.out).symm, rfl⟩
    · go_wp2
      go_ret
      exact ⟨ret_int (idx_miss p xs (fun j hj => Hn.out j (by omega) hj)).symm, rfl⟩

theorem containsFuncI (g : Nat) (lb : Array Value) (p : Int → Bool) (eg : ∀ args w, (callFunc g args).run Try.prog w = .ok (.enter g args) w) (v : Value) (xs : List Int) (w : World) (hp : PredI g lb p w) (B : Nat) (h : Rd i1 1 B w v xs) :
    Calls Try.prog 44 #[v, .func (.func g) #[] lb] w fun e w' => e = .returned (.bool (xs.any p)) ∧ w = w' := by
  have hc := indexFuncI g lb p eg v xs w hp B h
  have e := idx_any p xs
  generalize idxOf p xs = r at hc e
  have He := Lib.hid e; clear e
  clear h
  go_enter Try.func44, Try.ntmps44
  go_wp2_with (go_at_call 55; refine hc.mono ?_; rintro e w' ⟨rfl, rfl⟩)
  go_ret
  exact ⟨ret_bool He.out, rfl⟩

theorem Try.info_int : (Try.prog.info? 3).map (fun i => (i.zero, i.size, i.bytes)) = some (some (.int .i64 0), 1, 8) := by kernel_rfl

theorem cloneI (v : Value) (xs : List Int) (w : World) (B : Nat) (h : Rd i1 1 B w v xs) (hB : B ≤ w.heap.size) (hlen : xs.length * 8 ≤ 140737488355328) :
    Calls Try.prog 27 #[v] w fun e w' => ∃ v', e = .returned v' ∧ Ow i1 1 3 w.heap.size w' v' xs ∧ Below w.heap.size w w' := by
  have h' := h
  obtain ⟨a, c, rfl, hc, hm, hz, hr⟩ := h'
  unfold maxLen at hm
  clear hr
  have hnil := fun (w : World) => Lib.run_eql_slice_nil (P := Try.prog) w 25 3 a xs.length c 0 0 Try.underlying25
  cases a with
  | none =>
    obtain ⟨h0, rfl⟩ := hz rfl
    have hxs : xs = [] := List.eq_nil_of_length_eq_zero h0
    subst hxs
    clear h hz hm hc hnil
    have hnil := fun (w : World) => Lib.run_eql_slice_nil (P := Try.prog) w 25 3 none 0 0 0 0 Try.underlying25
    go_enter Try.func27, Try.ntmps27
    go_wp2
    go_ret
    exact ⟨_, rfl, Ow.nil _ _ _ _ _, Below.refl _ _⟩
  | some ad =>
    clear hz
    have hown : Ow i1 1 3 w.heap.size (w.alloc (.cells #[] 3)) (.slice (some ⟨w.heap.size, 0, none⟩) 0 0) [] := World.ownsRow_lit w #[] 0 (Nat.le_refl _) (by simp [maxLen]) rfl
    have hr : Rd i1 1 B (w.alloc (.cells #[] 3)) (.slice (some ad) xs.length c) xs := h.below ((Below.refl _ w).alloc hB _)
    go_enter Try.func27, Try.ntmps27
    go_wp2_with (at_builtin; refine wpAppend rfl _ _ 25 3 rfl w.heap.size (.int .i64 0) 1 8 Try.underlying25 Try.info_int rfl (by decide) i1 (fun _ => rfl) i1_one _ [] rfl hown _ xs rfl hr (by unfold maxLen; simp; omega) (by simp; omega) (by simp) ?_; intro v' w1 hown' hg _)
    go_ret
    exact ⟨_, rfl, by simpa using hown', ((Below.refl _ w).alloc (Nat.le_refl _) _).grown hg (by simp) (fun k e => by cases e; simp)⟩

def mayV (v : Int) : Bool := decide (v < 0 ∨ 1099511627776 < v)
theorem may1_any (x : Int) (w : World) : Calls Try.prog 45 #[.int .i64 x] w fun e w' => e = .returned (.bool (mayV x)) ∧ w = w' := by
  by_cases h : x < 0
  all_goals
    go_enter Try.func45, Try.ntmps45
    go_wp2
    go_ret
    refine ⟨ret_bool ?_, rfl⟩
    simp only [mayV]
    rw [Bool.eq_iff_iff]
    simp
    try omega

/-- may there be such views? -/
def mayB (xs : List Int) : Bool := decide (0 < quo xs.length) && !xs.any mayV

theorem may_any (v : Value) (xs : List Int) (w : World) (B : Nat) (h : Rd i1 1 B w v xs) :
    Calls Try.prog 26 #[v] w fun e w' => e = .returned (.bool (mayB xs)) ∧ w = w' := by
  have eg : ∀ args w, (callFunc 45 args).run Try.prog w = .ok (.enter 45 args) w := enters_of Try.func45 (by kernel_rfl) rfl
  have hc := fun W => containsFuncI 45 #[] mayV eg v xs W (fun W x _ => may1_any x W) B
  obtain ⟨q, hq⟩ : ∃ q, xs.any mayV = q := ⟨_, rfl⟩
  have h' := h
  obtain ⟨a, c, rfl, hl, hm, hz, hr⟩ := h'
  clear hr hz
  have hcw := hc w h
  rw [hq] at hcw
  unfold maxLen at hm
  by_cases h0 : 0 < quo xs.length
  all_goals
    have Hq := Lib.hid hq; clear hq h hc
    go_enter Try.func26, Try.ntmps26
    go_wp2_with (first | (go_at_call 25; refine (quorum_any _ _).mono ?_; rintro e w' ⟨rfl, rfl⟩) | (go_at_call 44; refine hcw.mono ?_; rintro e w' ⟨rfl, rfl⟩))
    go_ret
    refine ⟨ret_bool ?_, rfl⟩
    first | (simp [mayB, h0, Hq.out]; done) | (simp [mayB, Hq.out]; intro h; omega)
end Go.Proofs.Ytgjglabfajbofaa
