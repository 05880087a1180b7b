/- The page's example of layer 14 is as it says. -/
import Derived.Test.YtbgcelfmelpbeaaDoorSlotB
import Derived.Lib.SlBytesConst
namespace Go.Proofs.YtbgcelfmelpbeaaDoor
open Go.RowKit
set_option linter.unusedSimpArgs false
theorem num14 {w : World} (n : Int) : Calls Tryd.prog 11 #[vI n] w fun e w' => e = .returned (vI n) ∧ w = w' := by
  go_enter Tryd.func11, Tryd.ntmps11
  go_wp2
  go_ret
  exact ⟨rfl, rfl⟩
/-- a sector written and flushed -/
def DM.over (D : DM) (k : Nat) (bs : List UInt8) : DM := (D.put k bs).did.flush.did
theorem DM.over_cur (D : DM) (k : Nat) (bs : List UInt8) : (D.over k bs).cur k = bs := by
  simp [DM.over, DM.cur, DM.flush, DM.did, DM.put]
theorem sectCode_zero : sectCode (zeros 256) = 5 := by unfold sectCode; rw [if_pos rfl]
set_option maxHeartbeats 2000000 in
set_option maxRecDepth 20000 in
theorem live14 (w : World) : Calls Tryd.prog 5 #[] w fun e w' => e = .returned (.bool true) ∧ Ext w w' := by
  have hcs : ∀ W : World, (convert 22 22 (.slice (some ⟨W.heap.size, 0, none⟩) 1 1)).run Tryd.prog (W.alloc (.cells #[.int .u8 97] 5)) = .ok (.slice (some ⟨W.heap.size, 0, none⟩) 1 1) (W.alloc (.cells #[.int .u8 97] 5 (1, 2))) := fun W => Lib.run_convert_bytes_const W 22 5 #[.int .u8 97] 1 1 Tryd.underlying22 Tryd.underlying5
  go_enter Tryd.func5, Tryd.ntmps5
  go_wp2_with fail
  refine (disk_New (K := fun _ => False) w (fun _ h => h.elim) 4 (by omega) (by omega)).mono ?_
  rintro e w1 ⟨s, a, m, rfl, h1, x1, hs, ha, hm⟩
  have hd : ∀ k, dblk s a m k → w.heap.size ≤ k := by rintro k (rfl | rfl | rfl) <;> assumption
  have HD := Lib.hid hd
  have H1 := Lib.hid h1
  have X1 := Lib.hid x1
  clear h1 x1 hd hs ha hm
  go_wp2_with fail
  refine (slot_New (f := 1) (n := 2) H1.out (by show 1 + 2 ≤ 4; omega) (by omega)).mono ?_
  rintro e w2 ⟨t, rfl, ht, x2, -⟩
  have HT := Lib.hid ht
  have H2 := Lib.hid (H1.out.ext x2)
  have X2 := Lib.hid (X1.out.trans x2)
  clear ht x2 H1 X1
  go_wp2_with fail
  have hsl : Sl (w2.alloc (.cells #[.int .u8 97] 5 (1, 2))) 5 (.slice (some ⟨w2.heap.size, 0, none⟩) 1 1) ([97].map vB) :=
    ⟨_, 1, rfl, Nat.le_refl _, .inr ⟨w2.heap.size, 0, _, _, rfl, get_alloc, fun j hj => by simp at hj; subst hj; rfl⟩, fun h => by cases h⟩
  have hx : Ext w2 (w2.alloc (.cells #[.int .u8 97] 5 (1, 2))) := (Only.refl _ _).alloc _
  refine (slots_Put (HT.out.ext hx) (H2.out.ext hx) (fun _ h => h.elim) rfl rfl 0 (by omega) (by show 1 + 2 ≤ 4; omega) hsl (by decide)).mono ?_
  rintro e w3 ⟨rfl, h3, x3⟩
  change DiskRep _ w3 s a m ((DM.new 4).over 1 (sectOf 4 [97])) at h3
  have HT3 := Lib.hid ((HT.out.ext hx).disk (H2.out.ext hx) x3)
  have H3 := Lib.hid h3
  have X3 := Lib.hid ((X2.out.trans hx).andThen x3 (fun k hk => .inr (HD.out k hk)))
  clear h3 x3 hx hsl HT H2 X2
  go_wp2_with fail
  have hcur := DM.over_cur (DM.new 4) 1 (sectOf 4 [97])
  refine (slots_Get_ok HT3.out H3.out rfl 0 (by omega) (by show 1 + 2 ≤ 4; omega) (by show sectCode (((DM.new 4).over 1 (sectOf 4 [97])).cur 1) = 0; rw [hcur]; exact sectOf_code ⟨by decide, by decide⟩ (by decide)) (by show (((DM.new 4).over 1 (sectOf 4 [97])).cur 1).getD 0 0 = 4; rw [hcur, sectOf_get0]; rfl)).mono ?_
  rintro e w4 ⟨v4, rfl, hv4, x4⟩
  rw [show 1 + 0 = 1 from rfl, hcur, sectOf_body (by decide)] at hv4
  have V4 := Lib.hid hv4
  have HT4 := Lib.hid (HT3.out.ext x4)
  have H4 := Lib.hid (H3.out.ext x4)
  have X4 := Lib.hid (X3.out.trans x4)
  clear hv4 x4 HT3 H3 X3
  go_wp2_with fail
  refine (slots_Clear HT4.out H4.out (fun _ h => h.elim) rfl rfl 0 (by omega) (by show 1 + 2 ≤ 4; omega) (by show ((DM.new 4).over 1 (sectOf 4 [97])).cur 1 ≠ zeros 256; rw [hcur]; intro e; have := sectOf_code (k := 4) (bs := [97]) ⟨by decide, by decide⟩ (by decide); rw [e, sectCode_zero] at this; exact absurd this (by decide))).mono ?_
  rintro e w5 ⟨rfl, h5, x5⟩
  change DiskRep _ w5 s a m (((DM.new 4).over 1 (sectOf 4 [97])).over 1 (zeros 256)) at h5
  have HT5 := Lib.hid (HT4.out.disk H4.out x5)
  have H5 := Lib.hid h5
  have V5 := Lib.hid (V4.out.only x5 H4.out.no_bytes)
  have X5 := Lib.hid (X4.out.andThen x5 (fun k hk => .inr (HD.out k hk)))
  clear h5 x5 HT4 H4 X4 V4 hcur
  go_wp2_with fail
  have hcur := DM.over_cur ((DM.new 4).over 1 (sectOf 4 [97])) 1 (zeros 256)
  have hc5 : sectCode ((((DM.new 4).over 1 (sectOf 4 [97])).over 1 (zeros 256)).cur (1 + 0)) = 5 := by show sectCode ((((DM.new 4).over 1 (sectOf 4 [97])).over 1 (zeros 256)).cur 1) = 5; rw [hcur]; exact sectCode_zero
  have hgb := slots_Get_bad HT5.out H5.out rfl 0 (by omega) (by show 1 + 2 ≤ 4; omega) (by rw [hc5]; decide)
  rw [hc5] at hgb
  refine hgb.mono ?_
  rintro e w6 ⟨rfl, x6⟩
  have hv6 := V5.out.ext x6
  have hcv := conv_sl hv6
  obtain ⟨A6, c6, rfl, -⟩ := hv6
  have X6 := Lib.hid (X5.out.trans x6)
  clear x6 hgb hc5 hcur HT5 H5 X5 V5
  simp only [List.map_cons, List.map_nil, List.length_cons, List.length_nil, Nat.zero_add] at *
  go_wp2_with (first | (go_at_call 11; refine (num14 _).mono ?_; rintro e w' ⟨rfl, rfl⟩))
  go_ret
  exact ⟨rfl, X6.out⟩
end Go.Proofs.YtbgcelfmelpbeaaDoor
