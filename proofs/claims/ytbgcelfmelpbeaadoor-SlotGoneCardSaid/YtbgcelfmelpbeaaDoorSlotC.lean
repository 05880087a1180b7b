/- Slots, layer 14: contracts where a fuse may be set, or the slot's number or the bytes may not be. -/
import Derived.Test.YtbgcelfmelpbeaaDoorSlotB
namespace Go.Proofs.YtbgcelfmelpbeaaDoor
open Go.RowKit
set_option linter.unusedSimpArgs false
/-- a sector written over, and flushed if the power is there: the code, and the disk -/
def DM.overF (D : DM) (k : Nat) (bs : List UInt8) : Int × DM := if (D.put k bs).did.dead = true then (8, (D.put k bs).did) else (0, (D.put k bs).did.flush.did)
section
variable {K : Nat → Prop} {w w' : World} {t s a m f n : Nat} {D : DM}
theorem slots_at_range (h : SlotsAt w t s f n) (i : Int) (hi : i < 0 ∨ n ≤ i) : Calls Tryd.prog 19 #[.pointer (some ⟨t, 0, none⟩), vI i] w fun e w' => e = .returned (.tuple #[vI 0, .slice none 0 0, vI 1]) ∧ w = w' := by
  obtain ⟨c0, c1, c2⟩ := h.cells
  clear h
  by_cases h0 : i < 0
  · have d0 : decide (i < 0) = true := by simpa using h0
    clear hi
    go_enter Tryd.func19, Tryd.ntmps19
    go_wp2
    go_ret3
    exact ⟨rfl, rfl⟩
  · have h1 : (n : Int) ≤ i := by omega
    have d0 : decide (i < 0) = false := by simpa using h0
    have d1 : decide ((n : Int) ≤ i) = true := by simpa using h1
    clear hi
    go_enter Tryd.func19, Tryd.ntmps19
    go_wp2
    go_ret3
    exact ⟨rfl, rfl⟩
theorem slots_at_dead (h : SlotsAt w t s f n) (hd : DiskRep K w s a m D) (hdead : D.dead = true) (i : Nat) (hi : i < n) (hf : f + n ≤ D.n) :
    Calls Tryd.prog 19 #[.pointer (some ⟨t, 0, none⟩), vI i] w fun e w' => e = .returned (.tuple #[vI ((f + i : Nat) : Int), .slice none 0 0, vI 8]) ∧ Ext w w' := by
  obtain ⟨c0, c1, c2⟩ := h.cells
  have h2 := hd.n2
  have e1 : ¬ (i : Int) < 0 := by omega
  have e2 : ¬ (n : Int) ≤ i := by omega
  have d2 : decide ((n : Int) ≤ i) = false := by simp; omega
  have ew : IntKind.i64.wrap ((f : Int) + i) = (f : Int) + i := by rw [IntKind.wrap_i64]; omega
  have hco : thereC D.n D.dead ((f + i : Nat) : Int) = 8 := by unfold thereC; rw [hdead, if_pos rfl]
  have hrd := disk_Read_no (w := w.drew) (hd.ext (Only.refl _ w).drew) ((f + i : Nat) : Int) (by rw [hco]; decide)
  rw [hco, show ((f + i : Nat) : Int) = (f : Int) + i by omega] at hrd
  clear h hd hco
  go_enter Tryd.func19, Tryd.ntmps19
  go_wp2
  go_region_held3 (fun w' => w'.cell? ⟨t, 0, none⟩ = some (.pointer (some ⟨s, 0, none⟩)) ∧ w'.cell? ⟨t, 1, none⟩ = some (vI f)) (go_keep)
    (first
      | (go_at_call 32; refine hrd.mono ?_; rintro e w1 ⟨rfl, rfl⟩)
      | fail)
  go_wp2
  go_ret3
  refine ⟨?_, (Only.refl _ w).drew⟩
  first | rfl | (rw [show ((f + i : Nat) : Int) = (f : Int) + i by omega]; rfl)
theorem slots_overF (h : SlotsAt w t s f n) (hd : DiskRep K w s a m D) (hK : ∀ k, K k → k < w.heap.size) (hdead : D.dead = false) (k : Nat) (hk : k < D.n) {v : Value} {bs : List UInt8} (hv : Sl w 5 v (bs.map vB)) (hl : bs.length = 256) :
    Calls Tryd.prog 27 #[.pointer (some ⟨t, 0, none⟩), vI k, v] w fun e w' => e = .returned (vI (D.overF k bs).1) ∧ DiskRep K w' s a m (D.overF k bs).2 ∧ Only (dblk s a m) w w' := by
  obtain ⟨c0, c1, c2⟩ := h.cells
  have hwr := disk_Write_yes hd hK k hdead hk hv hl
  obtain ⟨A, c, ev⟩ := hv.len
  rw [List.length_map, hl] at ev
  subst ev
  have HS := Lib.hid h
  have HD := Lib.hid hd
  clear h hd hv
  unfold DM.overF
  by_cases hdd : (D.put k bs).did.dead = true
  · rw [if_pos hdd]
    go_enter Tryd.func27, Tryd.ntmps27
    go_wp2_with (first
      | (go_at_call 10; refine hwr.mono ?_; rintro e w1 ⟨rfl, h1, x1⟩; (have hs1 := HS.out.disk HD.out x1); (obtain ⟨k0, k1, k2⟩ := hs1.cells); (have H1 := Lib.hid h1); (have X1 := Lib.hid x1); clear h1 x1 hs1)
      | (go_at_call 37; refine (disk_Flush_dead H1.out hdd).mono ?_; rintro e w2 ⟨rfl, rfl⟩))
    go_ret
    exact ⟨rfl, H1.out, X1.out⟩
  · rw [if_neg hdd]
    have hdf : (D.put k bs).did.dead = false := by simpa using hdd
    clear hdd
    go_enter Tryd.func27, Tryd.ntmps27
    go_wp2_with (first
      | (go_at_call 10; refine hwr.mono ?_; rintro e w1 ⟨rfl, h1, x1⟩; (have hs1 := HS.out.disk HD.out x1); (obtain ⟨k0, k1, k2⟩ := hs1.cells); (have H1 := Lib.hid h1); (have X1 := Lib.hid x1); clear h1 x1 hs1)
      | (go_at_call 37; refine (disk_Flush H1.out hdf).mono ?_; rintro e w2 ⟨rfl, h2, x2⟩; (have H2 := Lib.hid h2); (have X2 := Lib.hid (X1.out.trans x2)); clear h2 x2))
    go_ret
    exact ⟨rfl, H2.out, X2.out⟩
theorem slots_Put_range (h : SlotsAt w t s f n) (i : Int) (hi : i < 0 ∨ n ≤ i) (v : Value) : Calls Tryd.prog 12 #[.pointer (some ⟨t, 0, none⟩), vI i, v] w fun e w' => e = .returned (vI 1) ∧ w = w' := by
  have hat := slots_at_range h i hi
  clear h hi
  go_enter Tryd.func12, Tryd.ntmps12
  go_wp2_with (first | (go_at_call 19; refine hat.mono ?_; rintro e w' ⟨rfl, rfl⟩))
  go_ret
  exact ⟨rfl, rfl⟩
theorem slots_Put_dead (h : SlotsAt w t s f n) (hd : DiskRep K w s a m D) (hdead : D.dead = true) (i : Nat) (hi : i < n) (hf : f + n ≤ D.n) (v : Value) :
    Calls Tryd.prog 12 #[.pointer (some ⟨t, 0, none⟩), vI i, v] w fun e w' => e = .returned (vI 8) ∧ Ext w w' := by
  have hat := slots_at_dead h hd hdead i hi hf
  clear h hd
  go_enter Tryd.func12, Tryd.ntmps12
  go_wp2_with (first | (go_at_call 19; refine hat.mono ?_; rintro e w1 ⟨rfl, x1⟩))
  go_ret
  exact ⟨rfl, x1⟩
theorem slots_Put_long (h : SlotsAt w t s f n) (hd : DiskRep K w s a m D) (hdead : D.dead = false) (i : Nat) (hi : i < n) (hf : f + n ≤ D.n) (A : Option Addr) (l c : Nat) (hl : 249 < l) :
    Calls Tryd.prog 12 #[.pointer (some ⟨t, 0, none⟩), vI i, .slice A l c] w fun e w' => e = .returned (vI 3) ∧ Ext w w' := by
  have hat := slots_at h hd hdead i hi hf
  clear h hd
  go_enter Tryd.func12, Tryd.ntmps12
  go_wp2_with (first
    | (go_at_call 19; refine hat.mono ?_; rintro e w1 ⟨v1, rfl, o1, x1⟩; (have X1 := Lib.hid x1); clear o1 x1)
    | (go_at_call 26; refine (sect_Put_long _ 4 ⟨by decide, by decide⟩ A l c hl).mono ?_; rintro e w2 ⟨rfl, rfl⟩))
  go_ret
  exact ⟨rfl, X1.out⟩
theorem slots_PutF (h : SlotsAt w t s f n) (hd : DiskRep K w s a m D) (hK : ∀ k, K k → k < w.heap.size) (hdead : D.dead = false) (i : Nat) (hi : i < n) (hf : f + n ≤ D.n) {e0 : TypeId} {v : Value} {bs : List UInt8} (hv : Sl w e0 v (bs.map vB)) (hl : bs.length ≤ 249) :
    Calls Tryd.prog 12 #[.pointer (some ⟨t, 0, none⟩), vI i, v] w fun e w' => e = .returned (vI (D.overF (f + i) (sectOf 4 bs)).1) ∧ DiskRep K w' s a m (D.overF (f + i) (sectOf 4 bs)).2 ∧ Only (dblk s a m) w w' := by
  have hat := slots_at h hd hdead i hi hf
  have hcast : ((f + i : Nat) : Int) = (f : Int) + i := by omega
  have HS := Lib.hid h
  have HD := Lib.hid hd
  have HV := Lib.hid hv
  have HK := Lib.hid hK
  obtain ⟨A, c, ev⟩ := hv.len
  rw [List.length_map] at ev
  subst ev
  clear h hd hv hK
  go_enter Tryd.func12, Tryd.ntmps12
  go_wp2_with (first
    | (go_at_call 19; refine hat.mono ?_; rintro e w1 ⟨v1, rfl, o1, x1⟩; (have X1 := Lib.hid x1); (have hsp := sect_Put (w := w1) 4 ⟨by decide, by decide⟩ (HV.out.ext x1) hl); clear o1 x1)
    | (go_at_call 26; refine hsp.mono ?_; rintro e w2 ⟨v2, rfl, o2, x2⟩; (have x12 := X1.out.trans x2); (have hov := slots_overF (HS.out.ext x12) (HD.out.ext x12) (fun k hk => Nat.lt_of_lt_of_le (HK.out k hk) x12.size) hdead (f + i) (Nat.lt_of_lt_of_le (Nat.add_lt_add_left hi f) hf) (Sl.of_owns o2) (sectOf_len hl)); rw [hcast] at hov; (have X2 := Lib.hid x12); clear o2 x2 x12 hsp)
    | (go_at_call 27; refine hov.mono ?_; rintro e w3 ⟨rfl, h3, x3⟩; (have H3 := Lib.hid h3); (have X3 := Lib.hid ((Ext.only X2.out _).trans x3)); clear h3 x3))
  go_ret
  exact ⟨rfl, H3.out, X3.out⟩
/-- a slot is made zero, or is -/
def DM.clearF (D : DM) (k : Nat) : Int × DM := if D.cur k = zeros 256 then (0, D) else D.overF k (zeros 256)
theorem slots_ClearF (h : SlotsAt w t s f n) (hd : DiskRep K w s a m D) (hK : ∀ k, K k → k < w.heap.size) (hdead : D.dead = false) (i : Nat) (hi : i < n) (hf : f + n ≤ D.n) :
    Calls Tryd.prog 13 #[.pointer (some ⟨t, 0, none⟩), vI i] w fun e w' => e = .returned (vI (D.clearF (f + i)).1) ∧ DiskRep K w' s a m (D.clearF (f + i)).2 ∧ Only (dblk s a m) w w' := by
  have hat := slots_at h hd hdead i hi hf
  have hcast : ((f + i : Nat) : Int) = (f : Int) + i := by omega
  have HS := Lib.hid h
  have HD := Lib.hid hd
  have HK := Lib.hid hK
  clear h hd hK
  unfold DM.clearF
  by_cases hz : D.cur (f + i) = zeros 256
  · rw [if_pos hz]
    generalize D.cur (f + i) = cu at *
    have HC := Lib.hid hz
    clear hz
    go_enter Tryd.func13, Tryd.ntmps13
    go_wp2_with (first
      | (go_at_call 19; refine hat.mono ?_; rintro e w1 ⟨v1, rfl, o1, x1⟩; (have X1 := Lib.hid x1); (have hem := sect_Empty (Sl.of_owns o1)); rw [decide_eq_true HC.out] at hem; clear o1 x1)
      | (go_at_call 21; refine hem.mono ?_; rintro e w2 ⟨rfl, x2⟩; (have X2 := Lib.hid (X1.out.trans x2)); clear x2))
    go_ret
    exact ⟨rfl, HD.out.ext X2.out, Ext.only X2.out _⟩
  · rw [if_neg hz]
    generalize D.cur (f + i) = cu at *
    have HC := Lib.hid hz
    clear hz
    go_enter Tryd.func13, Tryd.ntmps13
    go_wp2_with (first
      | (go_at_call 19; refine hat.mono ?_; rintro e w1 ⟨v1, rfl, o1, x1⟩; (have X1 := Lib.hid x1); (have hem := sect_Empty (Sl.of_owns o1)); rw [decide_eq_false HC.out] at hem; clear o1 x1)
      | (go_at_call 21; refine hem.mono ?_; rintro e w2 ⟨rfl, x2⟩; (have X2 := Lib.hid (X1.out.trans x2)); clear x2)
      | (go_at_call 28; refine (sect_Zero _).mono ?_; rintro e w3 ⟨rfl, hw3⟩; (have x3 := X2.out.trans (show Ext _ w3 from hw3 ▸ (Only.refl _ _).alloc _)); (have ho := hw3 ▸ zero_owns w2); (have hov := slots_overF (HS.out.ext x3) (HD.out.ext x3) (fun k hk => Nat.lt_of_lt_of_le (HK.out k hk) x3.size) hdead (f + i) (Nat.lt_of_lt_of_le (Nat.add_lt_add_left hi f) hf) (Sl.of_owns ho) (zeros_len 256)); rw [hcast] at hov; (have X3 := Lib.hid x3); clear hw3 x3 ho)
      | (go_at_call 27; refine hov.mono ?_; rintro e w4 ⟨rfl, h4, x4⟩; (have H4 := Lib.hid h4); (have X4 := Lib.hid ((Ext.only X3.out _).trans x4)); clear h4 x4))
    go_ret
    exact ⟨rfl, H4.out, X4.out⟩
end
end Go.Proofs.YtbgcelfmelpbeaaDoor
