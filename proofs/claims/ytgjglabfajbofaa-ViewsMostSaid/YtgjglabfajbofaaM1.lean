/- How a law's arguments are opened: a slice that reads as data reads as a list. No program. -/
import Derived.ProofKit
import Derived.OpenShut
import Derived.ShutString
import Derived.ChangeOld
import Derived.Below
import Derived.Deep.Slices
import Derived.Test.YtgjglabfajbofaaM0
namespace Go.Proofs.Ytgjglabfajbofaa
open Go.RowKit Go.ChangeShapes Go.WideShapes Go.ChangeAt

/-- whatever reads as a datum of type e is enc y for some y that is good -/
def Opens {β : Type} (P : Program) (w : World) (e : TypeId) (enc : β → List Value) (G : β → Prop) : Prop :=
  ∀ (H : Type) (encH : TypeId × Value → H) (base : Nat) (spare : Nat → Bool) (held : Bool) (n : Nat) (cs : List Value) (x : DataW H × List MemPlace), DataW.trod encH P w base spare held n e cs = some x → ∃ y : β, cs = enc y ∧ G y

theorem opens_int {P : Program} {w : World} {e : TypeId} {k : IntKind} (he : P.underlying e = some (.int k)) : Opens P w e (fun x : Int => [.int k x]) (fun x => (Lit.int k x).wf = true) := by
  intro H encH base spare held n cs x h
  obtain ⟨y, rfl, _, hw⟩ := DataW.trod_int he h
  exact ⟨y, rfl, hw⟩

theorem opens_bool {P : Program} {w : World} {e : TypeId} (he : P.underlying e = some .bool) : Opens P w e (fun x : Bool => [.bool x]) (fun _ => True) := by
  intro H encH base spare held n cs x h
  obtain ⟨y, rfl, _⟩ := DataW.trod_bool he h
  exact ⟨y, rfl, trivial⟩

theorem opens_string {P : Program} {w : World} {e : TypeId} (he : P.underlying e = some .string) : Opens P w e (fun x : ByteArray => [.string x]) (fun x => x.size ≤ maxLen) := by
  intro H encH base spare held n cs x h
  obtain ⟨y, rfl, _, hw⟩ := DataW.trod_string he h
  exact ⟨y, rfl, hw⟩

theorem Opens.len {β : Type} {P : Program} {w : World} {e : TypeId} {enc : β → List Value} {G : β → Prop} (h : Opens P w e enc G) {H : Type} {encH : TypeId × Value → H} {base : Nat} {spare : Nat → Bool} {held : Bool} {n : Nat} {cs : List Value} {x : DataW H × List MemPlace}
    (hx : DataW.trod encH P w base spare held n e cs = some x) : ∃ y : β, cs = enc y ∧ G y := h H encH base spare held n cs x hx

theorem cells_get {w : World} {base : Nat} {a : Addr} {n : Nat} {cs : List Value} (h : w.cells? base a n = some cs) : cs.length = n ∧ ∀ j, j < n → w.cell? (a.add j) = cs[j]? := by
  unfold World.cells? at h
  split at h
  · refine ⟨by have := mapM_some_length h; simpa using this, fun j hj => ?_⟩
    exact mapM_some_get h j j (by rw [List.getElem?_range hj])
  · cases h

/-- an array of two -/
theorem opens_pair {β : Type} {P : Program} {w : World} {t e : TypeId} {enc : β → List Value} {G : β → Prop} {k : Nat} (ht : P.underlying t = some (.array 2 e)) (hc : P.cellsOf e = k) (h : Opens P w e enc G) (hct : P.cellsOf t = 2 * k) :
    Opens P w t (fun p : β × β => enc p.1 ++ enc p.2) (fun p => G p.1 ∧ G p.2) := by
  intro H encH base spare held n cs x hx
  obtain ⟨xs, m, rfl, _, hlen, hxl, hel⟩ := DataW.trod_array ht hx
  have h0 := hel 0 (by omega)
  have h1 := hel 1 (by omega)
  rw [hc] at h0 h1
  match xs, hxl with
  | [x0, x1], _ =>
    simp only [List.getElem?_cons_zero, List.getElem?_cons_succ] at h0 h1
    obtain ⟨y0, e0, g0⟩ := h.len h0
    obtain ⟨y1, e1, g1⟩ := h.len h1
    refine ⟨(y0, y1), ?_, g0, g1⟩
    simp only [Nat.zero_mul, List.drop_zero, Nat.one_mul] at e0 e1
    rw [hct] at hlen
    have : cs = cs.take k ++ (cs.drop k).take k := by
      rw [List.take_of_length_le (l := cs.drop k) (by rw [List.length_drop]; omega)]
      exact (List.take_append_drop _ _).symm
    rw [this, e0, e1]

theorem list_of {β : Type} {Q : Nat → β → Prop} : ∀ n, (∀ i, i < n → ∃ y, Q i y) → ∃ xs : List β, xs.length = n ∧ ∀ i (h : i < xs.length), Q i xs[i]
  | 0, _ => ⟨[], rfl, fun i h => by simp at h⟩
  | n + 1, h => by
    obtain ⟨xs, hl, hq⟩ := list_of n (fun i hi => h i (by omega))
    obtain ⟨y, hy⟩ := h n (by omega)
    refine ⟨xs ++ [y], by simp [hl], fun i hi => ?_⟩
    rw [List.getElem_append]
    split
    · exact hq i _
    · simp only [List.length_append, List.length_cons, List.length_nil] at hi
      have : i = n := by omega
      subst this
      simpa using hy

/-- a slice that came in reads as a list -/
theorem open_row {β : Type} {P : Program} {W : World} {t e : TypeId} {enc : β → List Value} {G : β → Prop} {k : Nat} (ht : P.underlying t = some (.slice e)) (hc : P.cellsOf e = k) (hk : 0 < k) (ho : Opens P W e enc G) (hl : ∀ x, (enc x).length = k)
    {H : Type} {encH : TypeId × Value → H} {v : Value} {d : DataW H} {ps : List MemPlace} {spare : Nat → Bool} {held : Bool} (h : DataW.Trod encH P W 0 spare held t v d ps) (hv : ∃ a n c, v = .slice a n c) :
    ∃ xs : List β, Rd enc k W.heap.size W v xs ∧ ∀ y ∈ xs, G y := by
  obtain ⟨a0, n0, c0, rfl⟩ := hv
  obtain ⟨fuel, hf⟩ := h
  rcases Deep.open_slice ht hf with ⟨hcs, _⟩ | ⟨a, len, cap, m, n, D, Pl, hcs, _, hle, hmx, hm, _, hx⟩
  · simp [Value.cells] at hcs
    obtain ⟨rfl, rfl, rfl⟩ := hcs
    exact ⟨[], Rd.nil _ _ _ _, by simp⟩
  · simp [Value.cells] at hcs
    obtain ⟨rfl, rfl, rfl⟩ := hcs
    have hlm : n0 ≤ m := by rw [hm]; split <;> omega
    have hel : ∀ i, i < n0 → ∃ y : β, G y ∧ ∀ j, j < k → W.cell? ((a.add (i * k)).add j) = (enc y)[j]? := by
      intro i hi
      obtain ⟨cs', hcs', htr⟩ := hx i (by omega)
      rw [hc] at hcs'
      obtain ⟨y, rfl, hg⟩ := ho.len htr
      exact ⟨y, hg, (cells_get hcs').2⟩
    obtain ⟨xs, hxl, hf⟩ := list_of n0 hel
    refine ⟨xs, ?_, ?_⟩
    · refine ⟨some a, c0, by rw [hxl], by omega, hmx, (fun h => by cases h), fun hp => ?_⟩
      have hspot : a.spot = none := by
        have h0 := (hf 0 hp).2 0 hk
        have hu := List.getElem?_eq_getElem (l := enc (xs[0]'hp)) (i := 0) (by rw [hl]; exact hk)
        rw [hu] at h0
        have := World.cell?_spot h0
        simpa [Addr.add] using this
      obtain ⟨b, o, s⟩ := a
      simp only at hspot
      subst hspot
      have hadd : ∀ i j, ((⟨b, o, none⟩ : Addr).add i).add j = ⟨b, o + i + j, none⟩ := by
        intro i j; unfold Addr.add; split <;> split <;> simp_all
      refine ⟨b, o, rfl, ?_, fun i hi j hj => ?_⟩
      · have h0 := (hf 0 hp).2 0 hk
        have hu := List.getElem?_eq_getElem (l := enc (xs[0]'hp)) (i := 0) (by rw [hl]; exact hk)
        rw [hu, hadd] at h0
        exact World.block_lt_of_cell? W _ h0
      · have h1 := (hf i hi).2 j hj
        rw [hadd] at h1
        exact h1
    · intro y hy
      obtain ⟨i, hi, rfl⟩ := List.getElem_of_mem hy
      exact (hf i hi).1
end Go.Proofs.Ytgjglabfajbofaa
