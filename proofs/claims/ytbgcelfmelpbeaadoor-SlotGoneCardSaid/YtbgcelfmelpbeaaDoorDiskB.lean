/- The disk: Clone, Read, did, Write, Fuse. -/
import Derived.Test.YtbgcelfmelpbeaaDoorDiskA
import Derived.Lib.LazyBuf
import Derived.Deep.RegionHeld3
namespace Go.Proofs.YtbgcelfmelpbeaaDoor
open Go.RowKit
open Go.ChangeMaps (setBlock)
theorem info_u8 : (Tryd.prog.info? 5).map (fun i => (i.zero, i.size, i.bytes)) = some (some (.int .u8 0), 1, 1) := by kernel_rfl
theorem info_sl : (Tryd.prog.info? 22).map (fun i => (i.zero, i.size, i.bytes)) = some (some (.slice none 0 0), 1, 24) := by kernel_rfl
/-- bytes.Clone: a new row with the same bytes (nil of nil). -/
theorem clone_any {w : World} {v : Value} {bs : List UInt8} (h : Sl w 5 v (bs.map vB)) (hb : bs.length ≤ 1000000000) :
    Calls Tryd.prog 24 #[v] w fun e w' => ∃ v', e = .returned v' ∧ w'.ownsRow w.heap.size 5 1 v' bs.length (bs.map vB) ∧ Ext w w' := by
  have hs := h
  obtain ⟨A, c, rfl, hc, hr, hA⟩ := h
  have q := fun (w : World) a l c => run_eql_slice_nil (P := Tryd.prog) w 22 5 a l c Tryd.underlying22
  cases A with
  | none =>
    have h0 := hA rfl
    obtain rfl : bs = [] := List.eq_nil_of_length_eq_zero (by simp at hc; omega)
    go_enter Tryd.func24, Tryd.ntmps24
    go_wp2
    go_ret
    exact ⟨_, rfl, World.ownsRow_nil _ _ _ _, Only.refl _ _⟩
  | some ad =>
    have hx : Sl (w.alloc (.cells #[] 5)) 5 (.slice (some ad) (bs.map vB).length c) (bs.map vB) := hs.ext ((Only.refl _ w).alloc _)
    have hown : (w.alloc (.cells #[] 5)).ownsRow w.heap.size 5 1 (.slice (some ⟨w.heap.size, 0, none⟩) 0 0) 0 [] := World.ownsRow_made w #[] 0 (Nat.le_refl _) (Nat.zero_le _) rfl
    obtain ⟨v', w1, hrun, ho, hg⟩ := run_append_sl (ty := 22) Tryd.underlying22 info_u8 rfl hown hx (oneCell_map _ (fun _ => rfl) _) (by simp [maxLen]; omega) (by simp; omega) (by simp)
    clear hown hx hs hc hr hA

    go_enter Tryd.func24, Tryd.ntmps24
    go_wp2_with (at_builtin; go_loud (refine wpList_append_run hrun rfl _ _ rfl rfl rfl rfl ?_))
    go_ret
    exact ⟨_, rfl, by simpa using ho, ((Only.refl _ w).alloc _).grown hg (by simp [Value.ownBlock])⟩
section methods
variable {K : Nat → Prop} {w : World} {s a m : Nat} {D : DM}
theorem thereC_ok {n : Nat} {d : Bool} {i : Int} (h : thereC n d i = 0) : d = false ∧ ∃ k : Nat, i = k ∧ k < n := by
  unfold thereC at h
  cases d
  · simp only [Bool.false_eq_true, if_false] at h
    split at h
    · cases h
    · exact ⟨rfl, i.toNat, by omega, by omega⟩
  · simp at h
theorem disk_Read_nil (w : World) (i : Int) : Calls Tryd.prog 32 #[.pointer none, vI i] w fun e w' => e = .returned (.tuple #[.slice none 0 0, vI 9]) ∧ w = w' := by
  go_enter Tryd.func32, Tryd.ntmps32
  go_wp2_with (go_at_call 23; refine (there_nil _ i).mono ?_; rintro e w' ⟨rfl, rfl⟩)
  go_ret2
  exact ⟨rfl, rfl⟩
theorem disk_Read_no (h : DiskRep K w s a m D) (i : Int) (hc : thereC D.n D.dead i ≠ 0) :
    Calls Tryd.prog 32 #[.pointer (some ⟨s, 0, none⟩), vI i] w fun e w' => e = .returned (.tuple #[.slice none 0 0, vI (thereC D.n D.dead i)]) ∧ w = w' := by
  obtain ⟨cap, c0, c1, -, -, c4, -⟩ := h.cells
  have hb : (thereC D.n D.dead i != 0) = true := by simpa using hc
  have ht := there_yes _ s m a D.n cap D.dead i c1 c4 c0
  generalize thereC D.n D.dead i = r at *
  go_enter Tryd.func32, Tryd.ntmps32
  go_wp2_with (go_at_call 23; refine ht.mono ?_; rintro e w' ⟨rfl, rfl⟩)
  go_ret2
  exact ⟨rfl, rfl⟩
theorem zero_sl (w : World) : (zeroValue 22).run Tryd.prog w = .ok (.slice none 0 0) w := by kernel_rfl
theorem disk_Read_yes (h : DiskRep K w s a m D) (k : Nat) (hd : D.dead = false) (hk : k < D.n) :
    Calls Tryd.prog 32 #[.pointer (some ⟨s, 0, none⟩), vI k] w fun e w' => ∃ v', e = .returned (.tuple #[v', vI 0]) ∧ w'.ownsRow w.heap.size 5 1 v' 256 ((D.cur k).map vB) ∧ Ext w w' := by
  obtain ⟨cap, c0, c1, -, -, c4, -⟩ := h.cells
  have hcode : thereC D.n false k = 0 := by unfold thereC; rw [if_neg (by simp), if_neg (by omega)]
  rw [hd] at c4
  have ht := there_yes _ s m a D.n cap false k c1 c4 c0
  rw [hcode] at ht
  have h2 := h.n2
  obtain ⟨cap', arr, l, h1, g2, g3, g4, g5, g6, g7⟩ := h.mem
  by_cases hp : D.pend k = true
  · obtain ⟨v, hv⟩ := g7 k hk hp
    obtain ⟨i, hi, hin, _, hsv⟩ := g6 _ hv
    obtain rfl : k = i := by simp at hi; omega
    have hl := fun ok => run_lookup_yes Tryd.underlying59 Tryd.underlying3 g5 hv ok
    have hl1 := hl true
    simp only [if_true] at hl1
    have hcl := clone_any hsv.1 (by rw [hsv.2.1]; omega)
    rw [hsv.2.1] at hcl
    have ec : D.cur k = D.last k := by unfold DM.cur; rw [if_pos hp]
    rw [ec]
    clear hl g7 g6 g4 hsv hp ec hcode
    go_enter Tryd.func32, Tryd.ntmps32
    go_wp2_with (first
      | (go_at_call 23; refine ht.mono ?_; rintro e w' ⟨rfl, rfl⟩)
      | (go_at_call 24; refine hcl.mono ?_; rintro e w' ⟨v', rfl, ho, hx⟩))
    go_ret2
    exact ⟨_, rfl, ho, hx⟩
  · obtain ⟨v, hv, hsv⟩ := g4 k hk
    have hno : (k : Int) ∉ l.map (·.1) := by
      intro hc
      obtain ⟨p, hpm, hpe⟩ := List.mem_map.1 hc
      obtain ⟨i, hi, _, hpi, _⟩ := g6 p hpm
      rw [hi] at hpe
      obtain rfl : i = k := by omega
      exact hp hpi
    have hl1 := run_lookup_no Tryd.underlying59 Tryd.underlying3 g5 hno (zero_sl w) true
    simp only [if_true] at hl1
    have hcl := clone_any hsv.1 (by rw [hsv.2.1]; omega)
    rw [hsv.2.1] at hcl
    have ec : D.cur k = D.safe k := by unfold DM.cur; rw [if_neg hp]
    rw [ec]
    have ca : w.cell? ⟨a, k, none⟩ = some v := blk_cell g2 hv
    clear g7 g6 g4 hsv hp ec hcode hno
    go_enter Tryd.func32, Tryd.ntmps32
    go_wp2_with (first
      | (go_at_call 23; refine ht.mono ?_; rintro e w' ⟨rfl, rfl⟩)
      | (go_at_call 24; refine hcl.mono ?_; rintro e w' ⟨v', rfl, ho, hx⟩))
    go_ret2
    exact ⟨_, rfl, ho, hx⟩
end methods
end Go.Proofs.YtbgcelfmelpbeaaDoor
