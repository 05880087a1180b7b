/- The disk: how it lies in memory (DiskRep), and what its small methods answer. -/
import Derived.Test.YtbgcelfmelpbeaaDoorProg
import Derived.Test.YtbgcelfmelpbeaaDoorBase
namespace Go.Proofs.YtbgcelfmelpbeaaDoor
open Go.RowKit
open Go.ChangeMaps (setBlock)

/-- A disk, as it should be: n sectors; which are safe, which were written last, which wait. -/
structure DM where
  n : Nat
  safe : Nat → List UInt8
  last : Nat → List UInt8
  pend : Nat → Bool
  fuse : Int
  acts : Int
  dead : Bool
def DM.cur (D : DM) (i : Nat) : List UInt8 := if D.pend i then D.last i else D.safe i
/-- a sector's value; its bytes lie in no block of K -/
def SecV (K : Nat → Prop) (w : World) (v : Value) (bs : List UInt8) : Prop := Sl w 5 v (bs.map vB) ∧ bs.length = 256 ∧ ∀ k, v.ownBlock = some k → ¬ K k
/-- Block s of w is a disk: a its row of sectors, m its map; no sector's bytes lie in a block of K. -/
structure DiskRep (K : Nat → Prop) (w : World) (s a m : Nat) (D : DM) : Prop where
  n1 : 1 ≤ D.n
  n2 : D.n ≤ 1024
  f1 : -1 ≤ D.fuse
  f2 : D.fuse ≤ 9223372036854775807
  mem : ∃ cap arr l, w.heap[s]? = some (.cells #[.slice (some ⟨a, 0, none⟩) D.n cap, .map (some m), vI D.fuse, vI D.acts, .bool D.dead] 61 (0, 0)) ∧
    w.heap[a]? = some (.cells arr 22 (0, 0)) ∧ D.n ≤ cap ∧ (∀ i, i < D.n → ∃ v, arr[i]? = some v ∧ SecV K w v (D.safe i)) ∧
    MapI w m l ∧ (∀ p ∈ l, ∃ i : Nat, p.1 = i ∧ i < D.n ∧ D.pend i = true ∧ SecV K w p.2 (D.last i)) ∧ (∀ i, i < D.n → D.pend i = true → ∃ v, ((i : Int), v) ∈ l)
/-- the blocks of a disk -/
def dblk (s a m : Nat) (k : Nat) : Prop := k = s ∨ k = a ∨ k = m
theorem SecV.only {K S : Nat → Prop} {w w' : World} {v : Value} {bs : List UInt8} (h : SecV K w v bs) (ho : Only S w w') (hS : ∀ k arr fz, S k → w.heap[k]? ≠ some (.cells arr 5 fz) ∨ K k) : SecV K w' v bs := by
  obtain ⟨⟨A, c, h1, h2, h3, h4⟩, h5, h6⟩ := h
  refine ⟨⟨A, c, h1, h2, ?_, h4⟩, h5, h6⟩
  rcases h3 with h3 | ⟨b, off, arr, fz, hA, hb, hc⟩
  · exact .inl h3
  · exact .inr ⟨b, off, arr, fz, hA, ho.get hb (fun hs => (hS b arr fz hs).elim (fun hn => hn hb) (h6 b (by rw [h1, hA]; rfl))), hc⟩
theorem DiskRep.no_bytes {K : Nat → Prop} {w : World} {s a m : Nat} {D : DM} (h : DiskRep K w s a m D) : ∀ k arr fz, dblk s a m k → w.heap[k]? ≠ some (.cells arr 5 fz) := by
  obtain ⟨cap, arr, l, h1, h2, _, _, ⟨es, c, h3, _⟩, _⟩ := h.mem
  rintro k arr fz (rfl | rfl | rfl) hk
  · rw [h1] at hk; simp at hk
  · rw [h2] at hk; simp at hk
  · rw [h3] at hk; simp at hk
theorem DiskRep.no_bools {K : Nat → Prop} {w : World} {s a m : Nat} {D : DM} (h : DiskRep K w s a m D) : ∀ k arr fz, dblk s a m k → w.heap[k]? ≠ some (.cells arr 4 fz) := by
  obtain ⟨cap, arr, l, h1, h2, _, _, ⟨es, c, h3, _⟩, _⟩ := h.mem
  rintro k arr fz (rfl | rfl | rfl) hk
  · rw [h1] at hk; simp at hk
  · rw [h2] at hk; simp at hk
  · rw [h3] at hk; simp at hk
theorem DiskRep.no_ints {K : Nat → Prop} {w : World} {s a m : Nat} {D : DM} (h : DiskRep K w s a m D) : ∀ k arr fz, dblk s a m k → w.heap[k]? ≠ some (.cells arr 3 fz) := by
  obtain ⟨cap, arr, l, h1, h2, _, _, ⟨es, c, h3, _⟩, _⟩ := h.mem
  rintro k arr fz (rfl | rfl | rfl) hk
  · rw [h1] at hk; simp at hk
  · rw [h2] at hk; simp at hk
  · rw [h3] at hk; simp at hk
theorem DiskRep.ne {K : Nat → Prop} {w : World} {s a m : Nat} {D : DM} (h : DiskRep K w s a m D) : s ≠ a ∧ s ≠ m ∧ a ≠ m := by
  obtain ⟨cap, arr, l, h1, h2, _, _, ⟨es, c, h3, _⟩, _⟩ := h.mem
  refine ⟨?_, ?_, ?_⟩ <;> rintro rfl
  · rw [h1] at h2; simp at h2
  · rw [h1] at h3; simp at h3
  · rw [h2] at h3; simp at h3
theorem DiskRep.lt {K : Nat → Prop} {w : World} {s a m : Nat} {D : DM} (h : DiskRep K w s a m D) : s < w.heap.size ∧ a < w.heap.size ∧ m < w.heap.size := by
  obtain ⟨cap, arr, l, h1, h2, _, _, ⟨es, c, h3, _⟩, _⟩ := h.mem
  exact ⟨lt_of_get h1, lt_of_get h2, lt_of_get h3⟩
/-- Changes elsewhere leave a disk as it was. -/
theorem DiskRep.only {K S : Nat → Prop} {w w' : World} {s a m : Nat} {D : DM} (h : DiskRep K w s a m D) (ho : Only S w w') (h1 : ¬ S s) (h2 : ¬ S a) (h3 : ¬ S m) (hS : ∀ k arr fz, S k → w.heap[k]? ≠ some (.cells arr 5 fz) ∨ K k) : DiskRep K w' s a m D := by
  obtain ⟨n1, n2, f1, f2, cap, arr, l, g1, g2, g3, g4, g5, g6, g7⟩ := h
  refine ⟨n1, n2, f1, f2, cap, arr, l, ho.get g1 h1, ho.get g2 h2, g3, fun i hi => ?_, g5.only ho h3, fun p hp => ?_, g7⟩
  · obtain ⟨v, hv, hs⟩ := g4 i hi
    exact ⟨v, hv, hs.only ho hS⟩
  · obtain ⟨i, hi1, hi2, hi3, hi4⟩ := g6 p hp
    exact ⟨i, hi1, hi2, hi3, hi4.only ho hS⟩
theorem DiskRep.ext {K : Nat → Prop} {w w' : World} {s a m : Nat} {D : DM} (h : DiskRep K w s a m D) (ho : Ext w w') : DiskRep K w' s a m D := h.only ho id id id (fun _ _ _ h => h.elim)

section small
theorem q_map (w : World) (r : Option Nat) : (binOp .neq 59 (.map r) (.map none)).run Tryd.prog w = .ok (.bool (!r.isNone)) w := run_neq_map_nil w 59 3 22 r Tryd.underlying59
theorem is_nil (w : World) : Calls Tryd.prog 30 #[.pointer none] w fun e w' => e = .returned (.bool false) ∧ w = w' := by
  go_enter Tryd.func30, Tryd.ntmps30
  go_wp2
  go_ret
  exact ⟨rfl, rfl⟩
theorem is_yes (w : World) (s m : Nat) (h : w.cell? ⟨s, 1, none⟩ = some (.map (some m))) : Calls Tryd.prog 30 #[.pointer (some ⟨s, 0, none⟩)] w fun e w' => e = .returned (.bool true) ∧ w = w' := by
  have q := q_map
  go_enter Tryd.func30, Tryd.ntmps30
  go_wp2
  go_ret
  exact ⟨rfl, rfl⟩
theorem able_nil (w : World) : Calls Tryd.prog 29 #[.pointer none] w fun e w' => e = .returned (vI 9) ∧ w = w' := by
  go_enter Tryd.func29, Tryd.ntmps29
  go_wp2_with (go_at_call 30; refine (is_nil _).mono ?_; rintro e w' ⟨rfl, rfl⟩)
  go_ret
  exact ⟨rfl, rfl⟩
theorem able_yes (w : World) (s m : Nat) (d : Bool) (h : w.cell? ⟨s, 1, none⟩ = some (.map (some m))) (h4 : w.cell? ⟨s, 4, none⟩ = some (.bool d)) :
   Calls Tryd.prog 29 #[.pointer (some ⟨s, 0, none⟩)] w fun e w' => e = .returned (vI (if d then 8 else 0)) ∧ w = w' := by
  cases d
  all_goals
    go_enter Tryd.func29, Tryd.ntmps29
    go_wp2_with (go_at_call 30; refine (is_yes _ s m h).mono ?_; rintro e w' ⟨rfl, rfl⟩)
    go_ret
    exact ⟨rfl, rfl⟩
theorem there_nil (w : World) (i : Int) : Calls Tryd.prog 23 #[.pointer none, vI i] w fun e w' => e = .returned (vI 9) ∧ w = w' := by
  go_enter Tryd.func23, Tryd.ntmps23
  go_wp2_with (go_at_call 29; refine (able_nil _).mono ?_; rintro e w' ⟨rfl, rfl⟩)
  go_ret
  exact ⟨rfl, rfl⟩
def thereC (n : Nat) (dead : Bool) (i : Int) : Int := if dead then 8 else if i < 0 ∨ (n : Int) ≤ i then 5 else 0
theorem there_yes (w : World) (s m a n c : Nat) (d : Bool) (i : Int) (h : w.cell? ⟨s, 1, none⟩ = some (.map (some m))) (h4 : w.cell? ⟨s, 4, none⟩ = some (.bool d))
   (h0 : w.cell? ⟨s, 0, none⟩ = some (.slice (some ⟨a, 0, none⟩) n c)) :
   Calls Tryd.prog 23 #[.pointer (some ⟨s, 0, none⟩), vI i] w fun e w' => e = .returned (vI (thereC n d i)) ∧ w = w' := by
  cases d
  · by_cases h1 : i < 0
    · have e : thereC n false i = 5 := by simp [thereC, h1]
      rw [e]
      clear e
      go_enter Tryd.func23, Tryd.ntmps23
      go_wp2_with (go_at_call 29; refine (able_yes _ s m false h h4).mono ?_; rintro e w' ⟨rfl, rfl⟩)
      go_ret
      exact ⟨rfl, rfl⟩
    · by_cases h2 : (n : Int) ≤ i
      · have e : thereC n false i = 5 := by simp [thereC, h2]
        rw [e]
        clear e
        go_enter Tryd.func23, Tryd.ntmps23
        go_wp2_with (go_at_call 29; refine (able_yes _ s m false h h4).mono ?_; rintro e w' ⟨rfl, rfl⟩)
        go_ret
        exact ⟨rfl, rfl⟩
      · have e : thereC n false i = 0 := by simp [thereC, h1, h2]
        rw [e]
        clear e
        go_enter Tryd.func23, Tryd.ntmps23
        go_wp2_with (go_at_call 29; refine (able_yes _ s m false h h4).mono ?_; rintro e w' ⟨rfl, rfl⟩)
        go_ret
        exact ⟨rfl, rfl⟩
  · go_enter Tryd.func23, Tryd.ntmps23
    go_wp2_with (go_at_call 29; refine (able_yes _ s m true h h4).mono ?_; rintro e w' ⟨rfl, rfl⟩)
    go_ret
    exact ⟨rfl, rfl⟩
end small
section methods
variable {K : Nat → Prop} {w : World} {s a m : Nat} {D : DM}
/-- the five cells of a disk -/
theorem DiskRep.cells (h : DiskRep K w s a m D) : ∃ cap, w.cell? ⟨s, 0, none⟩ = some (.slice (some ⟨a, 0, none⟩) D.n cap) ∧ w.cell? ⟨s, 1, none⟩ = some (.map (some m)) ∧ w.cell? ⟨s, 2, none⟩ = some (vI D.fuse) ∧
    w.cell? ⟨s, 3, none⟩ = some (vI D.acts) ∧ w.cell? ⟨s, 4, none⟩ = some (.bool D.dead) ∧ ∀ j, w.frozen? ⟨s, j, none⟩ = false := by
  obtain ⟨cap, arr, l, h1, _⟩ := h.mem
  exact ⟨cap, blk_cell h1 rfl, blk_cell h1 rfl, blk_cell h1 rfl, blk_cell h1 rfl, blk_cell h1 rfl, fun j => blk_free h1 j⟩
theorem disk_Size_nil (w : World) : Calls Tryd.prog 22 #[.pointer none] w fun e w' => e = .returned (vI 0) ∧ w = w' := by
  go_enter Tryd.func22, Tryd.ntmps22
  go_wp2_with (go_at_call 30; refine (is_nil _).mono ?_; rintro e w' ⟨rfl, rfl⟩)
  go_ret
  exact ⟨rfl, rfl⟩
theorem disk_Size (h : DiskRep K w s a m D) : Calls Tryd.prog 22 #[.pointer (some ⟨s, 0, none⟩)] w fun e w' => e = .returned (vI D.n) ∧ w = w' := by
  obtain ⟨cap, c0, c1, -, -, -, -⟩ := h.cells
  go_enter Tryd.func22, Tryd.ntmps22
  go_wp2_with (go_at_call 30; refine (is_yes _ s m c1).mono ?_; rintro e w' ⟨rfl, rfl⟩)
  go_ret
  exact ⟨rfl, rfl⟩
end methods
end Go.Proofs.YtbgcelfmelpbeaaDoor
