/- Slots, layer 14: contracts. -/
import Derived.Test.YtbgcelfmelpbeaaDoorSectGet
namespace Go.Proofs.YtbgcelfmelpbeaaDoor
open Go.RowKit
set_option linter.unusedSimpArgs false
/-- block t is slots on the disk s -/
def SlotsAt (w : World) (t s f n : Nat) : Prop := w.heap[t]? = some (.cells #[.pointer (some ⟨s, 0, none⟩), vI f, vI n] 56 (0, 0))
section
variable {K : Nat → Prop} {w w' : World} {t s a m f n : Nat} {D : DM}
theorem SlotsAt.cells (h : SlotsAt w t s f n) : w.cell? ⟨t, 0, none⟩ = some (.pointer (some ⟨s, 0, none⟩)) ∧ w.cell? ⟨t, 1, none⟩ = some (vI f) ∧ w.cell? ⟨t, 2, none⟩ = some (vI n) :=
  ⟨blk_cell h rfl, blk_cell h rfl, blk_cell h rfl⟩
theorem SlotsAt.ext (h : SlotsAt w t s f n) (hx : Ext w w') : SlotsAt w' t s f n := hx.get h id
theorem SlotsAt.disk (h : SlotsAt w t s f n) (hd : DiskRep K w s a m D) (ho : Only (dblk s a m) w w') : SlotsAt w' t s f n := by
  refine ho.get h ?_
  unfold SlotsAt at h
  obtain ⟨cap, arr, l, h1, h2, _, _, ⟨es, c, h3, _⟩, _⟩ := hd.mem
  rintro (rfl | rfl | rfl)
  · rw [h1] at h; simp at h
  · rw [h2] at h; simp at h
  · rw [h3] at h; simp at h
theorem slot_New_nil (w : World) (x y : Int) : Calls Tryd.prog 8 #[.pointer none, vI x, vI y] w fun e w' => e = .returned (.tuple #[.pointer none, vI 9]) ∧ w = w' := by
  go_enter Tryd.func8, Tryd.ntmps8
  go_wp2_with (first | (go_at_call 22; refine (disk_Size_nil _).mono ?_; rintro e w' ⟨rfl, rfl⟩))
  go_ret2
  exact ⟨rfl, rfl⟩
theorem slot_New (h : DiskRep K w s a m D) (hf : f + n ≤ D.n) (hn : n ≤ 16) :
    Calls Tryd.prog 8 #[.pointer (some ⟨s, 0, none⟩), vI f, vI n] w fun e w' => ∃ t, e = .returned (.tuple #[.pointer (some ⟨t, 0, none⟩), vI 0]) ∧ SlotsAt w' t s f n ∧ Ext w w' ∧ w.heap.size ≤ t := by
  have h1 := h.n1
  have h2 := h.n2
  have e0 : ((D.n : Int) == 0) = false := by rw [beq_eq_false_iff_ne]; omega
  have e1 : ¬ (f : Int) < 0 := by omega
  have e2 : ¬ (D.n : Int) < f := by omega
  have e3 : ¬ (n : Int) < 0 := by omega
  have e4 : ¬ (16 : Int) < n := by omega
  have e5 : ¬ (D.n : Int) - f < n := by omega
  have d2 : decide ((D.n : Int) < f) = false := by simp; omega
  have d4 : decide ((16 : Int) < n) = false := by simp; omega
  have d5 : decide ((D.n : Int) - f < n) = false := by simp; omega
  have HD := Lib.hid h
  clear h
  go_enter Tryd.func8, Tryd.ntmps8
  go_wp2_with (first | (go_at_call 22; refine (disk_Size HD.out).mono ?_; rintro e w' ⟨rfl, rfl⟩))
  go_ret2
  exact ⟨_, rfl, get_alloc, (Only.refl _ _).alloc _, Nat.le_refl _⟩
theorem slots_at_nil (w : World) (i : Int) : Calls Tryd.prog 19 #[.pointer none, vI i] w fun e w' => e = .returned (.tuple #[vI 0, .slice none 0 0, vI 9]) ∧ w = w' := by
  go_enter Tryd.func19, Tryd.ntmps19
  go_wp2
  go_ret3
  exact ⟨rfl, rfl⟩
theorem slots_at (h : SlotsAt w t s f n) (hd : DiskRep K w s a m D) (hdead : D.dead = false) (i : Nat) (hi : i < n) (hf : f + n ≤ D.n) :
    Calls Tryd.prog 19 #[.pointer (some ⟨t, 0, none⟩), vI i] w fun e w' => ∃ v, e = .returned (.tuple #[vI ((f + i : Nat) : Int), v, vI 0]) ∧ w'.ownsRow w.heap.size 5 1 v 256 ((D.cur (f + i)).map vB) ∧ Ext w w' := by
  obtain ⟨c0, c1, c2⟩ := h.cells
  have h2 := hd.n2
  have e1 : ¬ (i : Int) < 0 := by omega
  have e2 : ¬ (n : Int) ≤ i := by omega
  have d2 : decide ((n : Int) ≤ i) = false := by simp; omega
  have ew : IntKind.i64.wrap ((f : Int) + i) = (f : Int) + i := by rw [IntKind.wrap_i64]; omega
  have hrd := disk_Read_yes (w := w.drew) (hd.ext (Only.refl _ w).drew) (f + i) hdead (by omega)
  rw [show ((f + i : Nat) : Int) = (f : Int) + i by omega] at hrd
  have HS := Lib.hid h
  clear h hd
  go_enter Tryd.func19, Tryd.ntmps19
  go_wp2
  go_region_held3 (fun w' => w'.cell? ⟨t, 0, none⟩ = some (.pointer (some ⟨s, 0, none⟩)) ∧ w'.cell? ⟨t, 1, none⟩ = some (vI f)) (go_keep)
    (first
      | (go_at_call 32; refine hrd.mono ?_; rintro e w1 ⟨v1, rfl, o1, x1⟩; (have k0 := x1.cell (p := ⟨t, 0, none⟩) c0 id); (have k1 := x1.cell (p := ⟨t, 1, none⟩) c1 id); (have k2 := x1.cell (p := ⟨t, 2, none⟩) c2 id); (have O1 := Lib.hid o1); (have X1 := Lib.hid (((Only.refl _ w).drew).trans x1)); clear o1 x1)
      | fail)
  go_wp2
  go_ret3
  refine ⟨_, ?_, O1.out, X1.out⟩
  first | rfl | (rw [show ((f + i : Nat) : Int) = (f : Int) + i by omega]; rfl)
theorem slots_over (h : SlotsAt w t s f n) (hd : DiskRep K w s a m D) (hK : ∀ k, K k → k < w.heap.size) (hdead : D.dead = false) (hfuse : D.fuse = -1) (k : Nat) (hk : k < D.n) {v : Value} {bs : List UInt8} (hv : Sl w 5 v (bs.map vB)) (hl : bs.length = 256) :
    Calls Tryd.prog 27 #[.pointer (some ⟨t, 0, none⟩), vI k, v] w fun e w' => e = .returned (vI 0) ∧ DiskRep K w' s a m (D.put k bs).did.flush.did ∧ Only (dblk s a m) w w' := by
  obtain ⟨c0, c1, c2⟩ := h.cells
  have hwr := disk_Write_yes hd hK k hdead hk hv hl
  obtain ⟨A, c, ev⟩ := hv.len
  rw [List.length_map, hl] at ev
  subst ev
  have HS := Lib.hid h
  have HD := Lib.hid hd
  clear h hd hv
  go_enter Tryd.func27, Tryd.ntmps27
  go_wp2_with (first
    | (go_at_call 10; refine hwr.mono ?_; rintro e w1 ⟨rfl, h1, x1⟩; (have hs1 := HS.out.disk HD.out x1); (obtain ⟨k0, k1, k2⟩ := hs1.cells); (have H1 := Lib.hid h1); (have X1 := Lib.hid x1); clear h1 x1 hs1)
    | (go_at_call 37; refine (disk_Flush H1.out (by simp [DM.did, DM.put, hfuse, hdead])).mono ?_; rintro e w2 ⟨rfl, h2, x2⟩; (have H2 := Lib.hid h2); (have X2 := Lib.hid (X1.out.trans x2)); clear h2 x2))
  go_ret
  exact ⟨rfl, H2.out, X2.out⟩
end
end Go.Proofs.YtbgcelfmelpbeaaDoor
