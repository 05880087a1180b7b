/- Reading what a caller hands in, whatever the type of the block in which it lies. -/
import Derived.Test.YtbgcelfmelpbeaaDoorBase
import Derived.Test.YtbgcelfmelpbeaaDoorProg
import Derived.Deep.Slices
import Derived.ChangeArms
namespace Go.Proofs.YtbgcelfmelpbeaaDoor
open Go.RowKit Go.ChangeShapes Go.WideShapes
section
variable {P : Program} {w : World} {H : Type} {enc : TypeId × Value → H} {base : Nat} {spare : Nat → Bool} {held : Bool}
theorem spot_of_cell {w : World} {a : Addr} {v : Value} (h : w.cell? a = some v) : a = ⟨a.block, a.off, none⟩ := by
  obtain ⟨b, o, s⟩ := a
  cases s with
  | none => rfl
  | some n =>
    unfold World.cell? at h
    split at h <;> simp at h
theorem exists_list {α : Type} [Inhabited α] {n : Nat} {p : Nat → α → Prop} (h : ∀ i, i < n → ∃ x, p i x) : ∃ l : List α, l.length = n ∧ ∀ i (hi : i < l.length), p i l[i] := by
  obtain ⟨f, hf⟩ := Deep.choose_lt h
  exact ⟨(List.range n).map f, by simp, fun i hi => by simpa using hf i (by simpa using hi)⟩
theorem byte_of {a : Int} (h : (Lit.int .u8 a).wf = true) : ∃ c : UInt8, a = (c.toNat : Int) := by
  have hb : 0 ≤ a ∧ a ≤ 255 := by
    have := h
    simp [Lit.wf, IntKind.min, IntKind.max, IntKind.signed, IntKind.bits] at this
    omega
  refine ⟨UInt8.ofNat a.toNat, ?_⟩
  rw [UInt8.toNat_ofNat_of_lt' (by show a.toNat < 256; omega)]
  omega
theorem cell_block {w : World} {b o : Nat} {v : Value} (h : w.cell? ⟨b, o, none⟩ = some v) : ∃ arr t fz, w.heap[b]? = some (.cells arr t fz) ∧ arr[o]? = some v := by
  unfold World.cell? at h
  split at h
  · rename_i c t fz hb
    exact ⟨c, t, fz, hb, by simpa using h⟩
  · cases h
/-- a slice whose elements have one cell each, of a sort f -/
theorem slice_open {α : Type} [Inhabited α] (f : α → Value) {t e : TypeId} (ht : P.underlying t = some (.slice e)) (hc : P.cellsOf e = 1)
    (hg : ∀ n u y, DataW.trod enc P w base spare held n e [u] = some y → ∃ x, u = f x) {fuel : Nat} {v : Value} {x : DataW H × List MemPlace} (h : DataW.trod enc P w base spare held fuel t [v] = some x) :
    ∃ (e' : TypeId) (l : List α), Sl w e' v (l.map f) := by
  rcases Deep.open_slice1 ht hc h with ⟨hv, -⟩ | ⟨a, len, cap, m, n, V, D, Pl, hv, hb, hl, hm, hmm, -, hx⟩
  · obtain rfl : v = .slice none 0 0 := (List.cons.inj hv).1
    exact ⟨e, [], Sl.nil w e⟩
  · obtain rfl : v = .slice (some a) len cap := (List.cons.inj hv).1
    have hlm : len ≤ m := by rw [hmm]; split <;> omega
    have each : ∀ i, i < len → ∃ q : α, w.cell? (a.add i) = some (f q) := by
      intro i hi
      obtain ⟨c0, h2⟩ := hx i (by omega)
      obtain ⟨q, hq⟩ := hg _ _ _ h2
      rw [hq] at c0
      exact ⟨q, c0⟩
    obtain ⟨L, rfl, hL⟩ := exists_list each
    by_cases h0 : L = []
    · subst h0
      exact ⟨e, [], some a, cap, rfl, Nat.zero_le _, .inl rfl, fun h => by cases h⟩
    · have hpos : 0 < L.length := List.length_pos_iff.2 h0
      have ha : a = ⟨a.block, a.off, none⟩ := by
        have := hL 0 hpos
        simp only [Addr.add, if_true] at this
        exact spot_of_cell this
      generalize a.block = b at ha
      generalize a.off = o at ha
      subst ha
      have c0 := hL 0 hpos
      rw [Addr.add_lit] at c0
      obtain ⟨arr, t', fz, hblk, -⟩ := cell_block c0
      refine ⟨t', L, some ⟨b, o, none⟩, cap, by rw [List.length_map], by rw [List.length_map]; exact hl, .inr ⟨b, o, arr, fz, rfl, hblk, fun j hj => ?_⟩, fun h => by cases h⟩
      rw [List.length_map] at hj
      have cj := hL j hj
      rw [Addr.add_lit] at cj
      obtain ⟨arr', t'', fz', hblk', harr⟩ := cell_block cj
      rw [hblk] at hblk'
      cases hblk'
      rw [harr, List.getElem?_map, List.getElem?_eq_getElem hj]
      rfl
end
end Go.Proofs.YtbgcelfmelpbeaaDoor
