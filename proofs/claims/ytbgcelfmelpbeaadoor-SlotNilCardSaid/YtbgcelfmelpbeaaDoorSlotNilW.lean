/- SlotNil: what nil Slots, and a nil disk, answer; what is spoilt is told: the walk. -/
import Derived.Test.YtbgcelfmelpbeaaDoorLive14
namespace Go.Proofs.YtbgcelfmelpbeaaDoor
open Go.RowKit
set_option linter.unusedSimpArgs false
/-- 256 bytes, zero but the tenth -/
def spoilt : List UInt8 := (zeros 256).set 9 1
theorem spoilt_len : spoilt.length = 256 := by unfold spoilt; rw [List.length_set, zeros_len]
set_option maxRecDepth 20000 in
theorem spoilt_code : sectCode spoilt = 17 := by
  have h9 : spoilt.getD 9 0 = 1 := by unfold spoilt; rfl
  have h0 : spoilt.getD 0 0 = 0 := by unfold spoilt; rfl
  have hz : spoilt ≠ zeros 256 := by
    intro e
    rw [e] at h9
    have : (zeros 256).getD 9 0 = 0 := rfl
    rw [this] at h9
    exact absurd h9 (by decide)
  unfold sectCode
  rw [if_neg hz, if_pos (.inr h0)]
set_option maxRecDepth 20000 in
theorem spoilt_map : spoilt.map vB = (List.replicate 256 (Value.int .u8 0)).set 9 (.int .u8 1) := by
  unfold spoilt
  rw [List.map_set, zeros_map]
  rfl
set_option maxHeartbeats 2000000 in
set_option maxRecDepth 20000 in
theorem slotNil_any (w : World) (i : Int) (A : Option Addr) (n c : Nat) : Calls Tryd.prog 3 #[vI i, .slice A n c] w fun e w' => e = .returned (.bool true) ∧ Ext w w' := by
  by_cases hn : 300 < n
  · have hn' : (300 : Int) < n := by omega
    go_enter Tryd.func3, Tryd.ntmps3
    go_wp2_with (first | (go_at_call 5; refine (live14 _).mono ?_; rintro e wb ⟨rfl, xb⟩))
    go_ret
    exact ⟨rfl, xb⟩
  have hn' : ¬ (300 : Int) < n := by omega
  have hmk : ∀ W : World, (Instr.makeSlice 22 (.int .i64 256) (.int .i64 256)).run Tryd.prog W = .ok (.slice (some ⟨W.heap.size, 0, none⟩) 256 256) (W.alloc (.cells (zrow (.int .u8 0) 256) 5)) := fun W => run_make_z Tryd.underlying22 info_u8 rfl .i64 .i64 256 (by omega) (by omega) W
  go_enter Tryd.func3, Tryd.ntmps3
  go_wp2_with fail
  refine (slots_Get_nil _ _).mono ?_
  rintro e w' ⟨rfl, rfl⟩
  go_wp2_with fail
  refine (slots_Used_nil _).mono ?_
  rintro e w' ⟨rfl, rfl⟩
  go_wp2_with fail
  refine (slot_New_nil _ 0 1).mono ?_
  rintro e w' ⟨rfl, rfl⟩
  go_wp2_with fail
  refine (disk_New (K := fun _ => False) w (fun _ h => h.elim) 2 (by omega) (by omega)).mono ?_
  rintro e w1 ⟨s, a, m, rfl, h1, x1, hs, ha, hm⟩
  have hd : ∀ k, dblk s a m k → w.heap.size ≤ k := by rintro k (rfl | rfl | rfl) <;> assumption
  have HD := Lib.hid hd
  have H1 := Lib.hid h1
  have X1 := Lib.hid x1
  clear h1 x1 hd hs ha hm
  go_wp2_with fail
  refine (slot_New (f := 0) (n := 1) H1.out (by show 0 + 1 ≤ 2; omega) (by omega)).mono ?_
  rintro e w2 ⟨t, rfl, ht, x2, -⟩
  have HT := Lib.hid ht
  have H2 := Lib.hid (H1.out.ext x2)
  have X2 := Lib.hid (X1.out.trans x2)
  clear ht x2 H1 X1
  go_wp2_with fail
  obtain ⟨w3, hw3⟩ : ∃ W, W = w2.alloc (.cells ((zrow (.int .u8 0) 256).setIfInBounds 9 (.int .u8 1)) 5) := ⟨_, rfl⟩
  rw [← hw3]
  have x3 : Ext w2 w3 := by rw [hw3]; exact (Only.refl _ w2).alloc _
  have hsl : Sl w3 5 (.slice (some ⟨w2.heap.size, 0, none⟩) 256 256) (spoilt.map vB) := by
    refine ⟨_, 256, by rw [List.length_map, spoilt_len], Nat.le_of_eq (by rw [List.length_map, spoilt_len]), .inr ⟨w2.heap.size, 0, _, (0, 0), rfl, by rw [hw3]; exact get_alloc, fun j hj => ?_⟩, fun h => by cases h⟩
    rw [Nat.zero_add, spoilt_map, ← Array.getElem?_toList, Array.toList_setIfInBounds, zrow_toList]
  refine (disk_Write_yes (H2.out.ext x3) (fun _ h => h.elim) 0 rfl (by show 0 < 2; omega) hsl spoilt_len).mono ?_
  rintro e w4 ⟨rfl, h4, x4⟩
  have HT4 := Lib.hid ((HT.out.ext x3).disk (H2.out.ext x3) x4)
  have H4 := Lib.hid h4
  have X4 := Lib.hid ((X2.out.trans x3).andThen x4 (fun k hk => .inr (HD.out k hk)))
  clear h4 x4 x3 hsl hw3 HT H2 X2
  go_wp2_with fail
  have hcur : (((DM.new 2).put 0 spoilt).did).cur (0 + 0) = spoilt := rfl
  have hgb := slots_Get_bad HT4.out H4.out rfl 0 (by omega) (by show 0 + 1 ≤ 2; omega) (by rw [hcur, spoilt_code]; decide)
  rw [hcur, spoilt_code] at hgb
  refine hgb.mono ?_
  rintro e w5 ⟨rfl, x5⟩
  have X5 := Lib.hid (X4.out.trans x5)
  clear x5 hgb hcur HT4 H4 X4 HD hmk
  go_wp2_with (first
    | (go_at_call 11; refine (num14 _).mono ?_; rintro e w' ⟨rfl, rfl⟩)
    | (go_at_call 12; refine (slots_Put_nil _ _ _).mono ?_; rintro e w' ⟨rfl, rfl⟩)
    | (go_at_call 13; refine (slots_Clear_nil _ _).mono ?_; rintro e w' ⟨rfl, rfl⟩)
    | (go_at_call 5; refine (live14 _).mono ?_; rintro e wb ⟨rfl, xb⟩; (have XB := Lib.hid (X5.out.trans xb)); clear xb X5))
  go_ret
  exact ⟨rfl, XB.out⟩
end Go.Proofs.YtbgcelfmelpbeaaDoor
