/- Words on memory: what a slice value reads as; what it owns. No program. -/
import Derived.WalkKit
import Derived.WalkLawsBesides
import Derived.Laws.AppendOwnNone
import Derived.Lib.Hide
namespace Go.Proofs.Ytgjglabfajbofaa
open Go.RowKit

theorem ret_int {k : IntKind} {a b : Int} (h : a = b) : Ending.returned (.int k a) = .returned (.int k b) := by rw [h]
theorem ret_bool {a b : Bool} (h : a = b) : Ending.returned (.bool a) = .returned (.bool b) := by rw [h]

/-- the slice value v reads as xs in w: element i's k cells, enc xs[i], lie at off + i * k, in a block below B -/
def Rd {α : Type} (enc : α → List Value) (k B : Nat) (w : World) (v : Value) (xs : List α) : Prop :=
  ∃ a c, v = .slice a xs.length c ∧ xs.length ≤ c ∧ c ≤ maxLen ∧ (a = none → xs.length = 0 ∧ c = 0) ∧
    (0 < xs.length → ∃ b o, a = some ⟨b, o, none⟩ ∧ b < B ∧ ∀ i (h : i < xs.length) j, j < k → w.cell? ⟨b, o + i * k + j, none⟩ = (enc xs[i])[j]?)

/-- the slice value v owns xs in w: in a block of its own from base on -/
def Ow {α : Type} (enc : α → List Value) (k : Nat) (e : TypeId) (base : Nat) (w : World) (v : Value) (xs : List α) : Prop :=
  w.ownsRow base e k v xs.length (xs.flatMap enc)

section
variable {α : Type} {enc : α → List Value} {k B : Nat} {w w' : World} {v : Value} {xs : List α}

theorem Rd.below (h : Rd enc k B w v xs) (hb : Below B w w') : Rd enc k B w' v xs := by
  obtain ⟨a, c, rfl, hc, hm, hz, hr⟩ := h
  refine ⟨a, c, rfl, hc, hm, hz, fun hp => ?_⟩
  obtain ⟨b, o, rfl, hlt, hcell⟩ := hr hp
  exact ⟨b, o, rfl, hlt, fun i hi j hj => (hb.cell (p := ⟨b, o + i * k + j, none⟩) hlt).trans (hcell i hi j hj)⟩

theorem Rd.mono (h : Rd enc k B w v xs) {B' : Nat} (hb : B ≤ B') : Rd enc k B' w v xs := by
  obtain ⟨a, c, rfl, hc, hm, hz, hr⟩ := h
  refine ⟨a, c, rfl, hc, hm, hz, fun hp => ?_⟩
  obtain ⟨b, o, rfl, hlt, hcell⟩ := hr hp
  exact ⟨b, o, rfl, Nat.lt_of_lt_of_le hlt hb, hcell⟩

theorem Rd.nil (enc : α → List Value) (k B : Nat) (w : World) : Rd enc k B w (.slice none 0 0) [] :=
  ⟨none, 0, rfl, Nat.le_refl _, by simp [maxLen], fun _ => ⟨rfl, rfl⟩, fun h => by simp at h⟩

theorem Rd.len (h : Rd enc k B w v xs) : ∃ a c, v = .slice a xs.length c ∧ xs.length ≤ maxLen := by
  obtain ⟨a, c, rfl, hc, hm, hz, hr⟩ := h
  exact ⟨a, c, rfl, Nat.le_trans hc hm⟩

theorem flat_get (enc : α → List Value) (k : Nat) (hk : ∀ x, (enc x).length = k) : ∀ (xs : List α) (i : Nat) (h : i < xs.length) (j : Nat), j < k → (xs.flatMap enc)[i * k + j]? = (enc xs[i])[j]?
  | [], i, h, j, hj => by simp at h
  | x :: xs, 0, h, j, hj => by
    simp only [List.flatMap_cons, Nat.zero_mul, Nat.zero_add, List.getElem_cons_zero]
    rw [List.getElem?_append_left (by rw [hk]; exact hj)]
  | x :: xs, i + 1, h, j, hj => by
    simp only [List.flatMap_cons, List.getElem_cons_succ]
    rw [List.getElem?_append_right (by rw [hk, Nat.succ_mul]; omega), hk]
    have : (i + 1) * k + j - k = i * k + j := by rw [Nat.succ_mul]; omega
    rw [this]
    exact flat_get enc k hk xs i (by simpa using h) j hj

theorem flat_len (enc : α → List Value) (k : Nat) (hk : ∀ x, (enc x).length = k) (xs : List α) : (xs.flatMap enc).length = xs.length * k := by
  induction xs with
  | nil => simp
  | cons x xs ih => simp only [List.flatMap_cons, List.length_append, hk, ih, List.length_cons, Nat.succ_mul]; omega

theorem lt_flat {i j n k : Nat} (hi : i < n) (hj : j < k) : i * k + j < n * k := by
  calc i * k + j < i * k + k := by omega
    _ = (i + 1) * k := by rw [Nat.succ_mul]
    _ ≤ n * k := Nat.mul_le_mul_right k hi

theorem Ow.rd (hk : ∀ x, (enc x).length = k) {base : Nat} {e : TypeId} (h : Ow enc k e base w v xs) : Rd enc k w.heap.size w v xs := by
  obtain ⟨hl, h⟩ := h
  rcases h with ⟨rfl, h0⟩ | ⟨g, cap, cur, rfl, hb, hg, hn, hm, hs, ht⟩
  · exact ⟨none, 0, by rw [h0], by omega, by simp [maxLen], fun _ => ⟨h0, rfl⟩, fun h => by omega⟩
  · refine ⟨_, cap, rfl, hn, hm, (fun h => by cases h), fun _ => ⟨g, 0, rfl, (Array.getElem?_eq_some_iff.1 hg).1, fun i hi j hj => ?_⟩⟩
    rw [← flat_get enc k hk xs i hi j hj, ← ht]
    rw [List.getElem?_take_of_lt (lt_flat hi hj)]
    simp [World.cell?, hg]

theorem Ow.nil (enc : α → List Value) (k : Nat) (e : TypeId) (base : Nat) (w : World) : Ow enc k e base w (.slice none 0 0) [] := ⟨by simp, .inl ⟨rfl, rfl⟩⟩

theorem Ow.below {base : Nat} {e : TypeId} (h : Ow enc k e base w v xs) (hb : Below w.heap.size w w') : Ow enc k e base w' v xs :=
  World.ownsRow.kept (row := none) h ⟨hb.os, hb.tape, hb.output, hb.size, fun i hi _ => hb.block i hi⟩ (by cases hv : v.ownBlock <;> simp)

theorem Ow.grown {base : Nat} {e : TypeId} (h : Ow enc k e base w v xs) {row : Option Nat} (hg : w.grownBy w' row) (hne : v.ownBlock = none ∨ v.ownBlock ≠ row) : Ow enc k e base w' v xs :=
  World.ownsRow.kept h hg hne

theorem Ow.lower {base base' : Nat} {e : TypeId} (h : Ow enc k e base w v xs) (hb : base' ≤ base) : Ow enc k e base' w v xs := by
  obtain ⟨hl, h⟩ := h
  refine ⟨hl, ?_⟩
  rcases h with h | ⟨g, cap, cur, rfl, hb', r⟩
  · exact .inl h
  · exact .inr ⟨g, cap, cur, rfl, Nat.le_trans hb hb', r⟩

theorem Ow.block {base : Nat} {e : TypeId} (h : Ow enc k e base w v xs) : ∀ g, v.ownBlock = some g → base ≤ g ∧ g < w.heap.size := World.ownsRow.lt h

theorem Ow.len {base : Nat} {e : TypeId} (h : Ow enc k e base w v xs) : ∃ a c, v = .slice a xs.length c := by
  obtain ⟨hl, h⟩ := h
  rcases h with ⟨rfl, h0⟩ | ⟨g, cap, cur, rfl, r⟩
  · exact ⟨none, 0, by rw [h0]⟩
  · exact ⟨_, _, rfl⟩

theorem Ow.form {base : Nat} {e : TypeId} (h : Ow enc k e base w v xs) (hpos : 0 < xs.length) : ∃ g cap, v = .slice (some ⟨g, 0, none⟩) xs.length cap ∧ base ≤ g ∧ g < w.heap.size ∧ xs.length ≤ cap ∧ (∀ j, w.frozen? ⟨g, j, none⟩ = false) := by
  obtain ⟨hl, h⟩ := h
  rcases h with ⟨rfl, h0⟩ | ⟨g, cap, cur, rfl, hb, hg, hn, hm, hs, ht⟩
  · omega
  · exact ⟨g, cap, rfl, hb, (Array.getElem?_eq_some_iff.1 hg).1, hn, fun j => by simp [World.frozen?, hg]⟩

theorem Ow.cell (hk : ∀ x, (enc x).length = k) {base : Nat} {e : TypeId} {g cap : Nat} (h : Ow enc k e base w (.slice (some ⟨g, 0, none⟩) xs.length cap) xs) (i : Nat) (hi : i < xs.length) (j : Nat) (hj : j < k) : w.cell? ⟨g, i * k + j, none⟩ = (enc xs[i])[j]? := by
  rw [← flat_get enc k hk xs i hi j hj]
  exact World.ownsRow.cellAt h (i * k + j) (lt_flat hi hj)

theorem Ow.set1 {f : α → Value} {base : Nat} {e : TypeId} {g cap : Nat} (h : Ow (fun x => [f x]) 1 e base w (.slice (some ⟨g, 0, none⟩) xs.length cap) xs) (i : Nat) (y : α) :
    Ow (fun x => [f x]) 1 e base (w.setCell ⟨g, i, none⟩ (f y)) (.slice (some ⟨g, 0, none⟩) (xs.set i y).length cap) (xs.set i y) := by
  have h' := World.ownsRow.stored h i (f y)
  unfold Ow
  rw [List.length_set]
  have : (xs.set i y).flatMap (fun x => [f x]) = (xs.flatMap fun x => [f x]).set i (f y) := by
    have hm : ∀ l : List α, l.flatMap (fun x => [f x]) = l.map f := fun l => by induction l with | nil => rfl | cons a l ih => simp [ih]
    rw [hm, hm, List.map_set]
  rw [this]
  exact h'.1
end

/-- 'append(s, x...)' onto what the call owns, x whatever slice that reads as ys -/
theorem wpAppend {α : Type} {P : Program} {w : World} {ops : Array Oper} {rest : List Oper} {o : Oper} {a : Act} {Q : Exit → Act → World → Prop} (hgd : o.guard = none) (s x : Operand) (t e : TypeId)
    (ho : o.op = .call { callee := .builtin .append, args := #[s, x], argTypes := #[t, t] }) (base : Nat) (z : Value) (k bytes : Nat)
    (ht : P.underlying t = some (.slice e)) (hinfo : (P.info? e).map (fun i => (i.zero, i.size, i.bytes)) = some (some z, k, bytes)) (hzs : z.cells.size = k) (hk0 : 0 < k)
    (enc : α → List Value) (hk : ∀ x, (enc x).length = k) (h1 : ∀ x, ∀ u ∈ enc x, u.oneCell' = true) (v : Value) (xs : List α) (hs : a.eval s = v) (hown : Ow enc k e base w v xs)
    (v2 : Value) (ys : List α) (hx : a.eval x = v2) {B : Nat} (hr : Rd enc k B w v2 ys) (h63 : xs.length + ys.length ≤ maxLen) (hbytes : (xs.length + ys.length) * bytes ≤ 140737488355328) (hbase : base ≤ w.heap.size)
    (h : ∀ v' w', Ow enc k e base w' v' (xs ++ ys) → w.grownBy w' v.ownBlock → (v' = .slice none 0 0 ↔ v = .slice none 0 0 ∧ ys = []) → wpList P ops Q rest (a.put o.dst v') w') :
    wpList P ops Q (o :: rest) a w := by
  obtain ⟨i, hi, hz, hz1, hz2⟩ := info_parts hinfo
  obtain ⟨ao, c, rfl, hc, hm, hz0, hcell⟩ := hr
  cases ao with
  | none =>
    obtain ⟨h0, rfl⟩ := hz0 rfl
    have hys : ys = [] := List.eq_nil_of_length_eq_zero h0
    subst hys
    refine wpList_append_own_none hgd s x t ho base e i k ht hi v xs.length (xs.flatMap enc) hs hown (by rw [hx]; rfl) ?_
    have h2 := h v w (by simpa using hown) (World.grownBy.refl _ _) (by simp)
    exact h2
  | some ad =>
    refine wpList_append_own w hgd s x t ho base e i z k bytes ht hi hz hz1 hz2 hzs hk0 v xs.length (xs.flatMap enc) hs hown ad ys.length c (ys.flatMap enc) hx (flat_len enc k hk ys) ?_ ?_ h63 hbytes hbase ?_
    · intro j u hj
      have hlt : j < ys.length * k := by
        rw [← flat_len enc k hk ys]
        exact (List.getElem?_eq_some_iff.1 hj).1
      have hpos : 0 < ys.length := by
        rcases Nat.eq_zero_or_pos ys.length with h0 | h0
        · rw [h0] at hlt; omega
        · exact h0
      obtain ⟨b, off, hb, _, hcells⟩ := hcell hpos
      obtain rfl : ad = ⟨b, off, none⟩ := by cases hb; rfl
      have hq : j / k < ys.length := Nat.div_lt_of_lt_mul (by rw [Nat.mul_comm]; exact hlt)
      have hr : j % k < k := Nat.mod_lt _ hk0
      have hj' : j / k * k + j % k = j := by rw [Nat.mul_comm]; exact Nat.div_add_mod j k
      have hc1 := hcells (j / k) hq (j % k) hr
      rw [← flat_get enc k hk ys (j / k) hq (j % k) hr, Nat.add_assoc, hj', hj] at hc1
      have : (⟨b, off, none⟩ : Addr).add j = ⟨b, off + j, none⟩ := by unfold Addr.add; split <;> simp_all
      rw [this]; exact hc1
    · intro u hu
      obtain ⟨y, _, hy⟩ := List.mem_flatMap.1 hu
      exact h1 y u hy
    · intro v' w' ho' hg hn
      refine h v' w' (by unfold Ow; rw [List.length_append, List.flatMap_append]; exact ho') hg ?_
      rw [hn]; simp

def i1 (x : Int) : List Value := [.int .i64 x]
def u1 (x : Int) : List Value := [.int .u8 x]
theorem i1_one (x : Int) : ∀ u ∈ i1 x, u.oneCell' = true := by intro u hu; simp [i1] at hu; subst hu; rfl
theorem u1_one (x : Int) : ∀ u ∈ u1 x, u.oneCell' = true := by intro u hu; simp [u1] at hu; subst hu; rfl
theorem flat_i1 (xs : List Int) : xs.flatMap i1 = xs.map (Value.int .i64) := by
  induction xs with
  | nil => rfl
  | cons x xs ih => simp [i1, ih]
theorem flat_u1 (xs : List Int) : xs.flatMap u1 = xs.map (Value.int .u8) := by
  induction xs with
  | nil => rfl
  | cons x xs ih => simp [u1, ih]

/-- one cell an element, numbers -/
theorem Rd.int {B : Nat} {w : World} {v : Value} {xs : List Int} (h : Rd i1 1 B w v xs) : ∃ a c, v = .slice a xs.length c ∧ xs.length ≤ c ∧ c ≤ maxLen ∧ (a = none → xs.length = 0 ∧ c = 0) ∧
    (0 < xs.length → ∃ b o, a = some ⟨b, o, none⟩ ∧ b < B ∧ ∀ i (h : i < xs.length), w.cell? ⟨b, o + i, none⟩ = some (.int .i64 xs[i])) := by
  obtain ⟨a, c, rfl, hc, hm, hz, hr⟩ := h
  refine ⟨a, c, rfl, hc, hm, hz, fun hp => ?_⟩
  obtain ⟨b, o, rfl, hlt, hcell⟩ := hr hp
  refine ⟨b, o, rfl, hlt, fun i hi => ?_⟩
  have := hcell i hi 0 (by omega)
  simpa [i1] using this

theorem Rd.byte {B : Nat} {w : World} {v : Value} {xs : List Int} (h : Rd u1 1 B w v xs) : ∃ a c, v = .slice a xs.length c ∧ xs.length ≤ c ∧ c ≤ maxLen ∧ (a = none → xs.length = 0 ∧ c = 0) ∧
    (0 < xs.length → ∃ b o, a = some ⟨b, o, none⟩ ∧ b < B ∧ ∀ i (h : i < xs.length), w.cell? ⟨b, o + i, none⟩ = some (.int .u8 xs[i])) := by
  obtain ⟨a, c, rfl, hc, hm, hz, hr⟩ := h
  refine ⟨a, c, rfl, hc, hm, hz, fun hp => ?_⟩
  obtain ⟨b, o, rfl, hlt, hcell⟩ := hr hp
  refine ⟨b, o, rfl, hlt, fun i hi => ?_⟩
  have := hcell i hi 0 (by omega)
  simpa [u1] using this
end Go.Proofs.Ytgjglabfajbofaa
