/- DiskApart: what is handed in, and told, is no memory of the disk's: the walk. -/
import Derived.Test.YtbgcelfmelpbeaaLive8
namespace Go.Proofs.Ytbgcelfmelpbeaa
open Go.RowKit
section
variable {K K' : Nat → Prop} {w : World} {s a m : Nat} {D : DM}
theorem DiskRep.weaken (h : DiskRep K w s a m D) (hK : ∀ k, K' k → K k) : DiskRep K' w s a m D := by
  obtain ⟨n1, n2, f1, f2, cap, arr, l, g1, g2, g3, g4, g5, g6, g7⟩ := h
  refine ⟨n1, n2, f1, f2, cap, arr, l, g1, g2, g3, fun i hi => ?_, g5, fun p hp => ?_, g7⟩
  · obtain ⟨v, hv, h1, h2, h3⟩ := g4 i hi
    exact ⟨v, hv, h1, h2, fun k hk hK' => h3 k hk (hK k hK')⟩
  · obtain ⟨i, e1, e2, e3, h1, h2, h3⟩ := g6 p hp
    exact ⟨i, e1, e2, e3, h1, h2, fun k hk hK' => h3 k hk (hK k hK')⟩
theorem SecV.fresh {v : Value} {bs : List UInt8} (h : SecV K w v bs) : SecV (fun k => w.heap.size ≤ k) w v bs := by
  obtain ⟨⟨A, c, hv, hc, hr, hn⟩, h2, h3⟩ := h
  refine ⟨⟨A, c, hv, hc, hr, hn⟩, h2, fun k hk hK => ?_⟩
  rcases hr with hr | ⟨b, off, arr, fz, rfl, hb, _⟩
  · have : bs = [] := List.map_eq_nil_iff.1 hr
    rw [this] at h2; simp at h2
  · rw [hv] at hk
    simp only [Value.ownBlock, Option.some.injEq] at hk
    have := lt_of_get hb
    omega
/-- what is not there yet is no sector's -/
theorem DiskRep.fresh (h : DiskRep K w s a m D) : DiskRep (fun k => w.heap.size ≤ k) w s a m D := by
  obtain ⟨n1, n2, f1, f2, cap, arr, l, g1, g2, g3, g4, g5, g6, g7⟩ := h
  refine ⟨n1, n2, f1, f2, cap, arr, l, g1, g2, g3, fun i hi => ?_, g5, fun p hp => ?_, g7⟩
  · obtain ⟨v, hv, hs⟩ := g4 i hi
    exact ⟨v, hv, hs.fresh⟩
  · obtain ⟨i, e1, e2, e3, hs⟩ := g6 p hp
    exact ⟨i, e1, e2, e3, hs.fresh⟩
end
/-- a row of n, n not 0, as a block -/
theorem owns_block {w : World} {base : Nat} {e : TypeId} {v : Value} {n : Nat} {xs : List Value} (h : w.ownsRow base e 1 v n xs) (hn : 0 < n) :
    ∃ g cap cur, v = .slice (some ⟨g, 0, none⟩) n cap ∧ base ≤ g ∧ w.heap[g]? = some (.cells cur e (0, 0)) ∧ ∀ j, j < n → cur[j]? = xs[j]? := by
  rcases h.2 with ⟨_, h0⟩ | ⟨g, cap, cur, hv, hb, hg, _, _, _, ht⟩
  · omega
  · refine ⟨g, cap, cur, hv, hb, hg, fun j hj => ?_⟩
    rw [← ht, List.getElem?_take_of_lt (by omega), Array.getElem?_toList]
set_option maxHeartbeats 4000000 in
set_option maxRecDepth 100000 in
theorem apart_any (w : World) (c : UInt8) (i : Int) : Calls Try.prog 4 #[vB c, vI i] w fun e w' => e = .returned (.bool true) ∧ Ext w w' := by
  go_enter Try.func4, Try.ntmps4
  go_wp2_with fail
  refine (disk_New (K := K0) w (fun _ h => h.elim) 3 (by omega) (by omega)).mono ?_
  rintro e w1 ⟨s, a, m, rfl, h1, x1, hs, ha, hm⟩
  have hd : ∀ k, dblk s a m k → w.heap.size ≤ k := by rintro k (rfl | rfl | rfl) <;> assumption
  have HD := Lib.hid hd
  have H1 := Lib.hid h1.fresh
  have X1 := Lib.hid x1
  clear h1 x1 hd hs ha hm
  go_wp2_with fail
  refine (full_any c).mono ?_
  rintro e w2 ⟨v2, rfl, o2, x2⟩
  obtain ⟨kb, cb, bb, rfl, hkb, hbb, hbc⟩ := owns_block o2 (by omega)
  have hkb2 := lt_of_get hbb
  have H2 := Lib.hid ((H1.out.ext x2).weaken (K' := (· = kb)) (by rintro k rfl; exact hkb))
  have O2 := Lib.hid (Sl.owned o2)
  have HB2 := Lib.hid hbb
  have X2 := Lib.hid (X1.out.trans x2)
  have hc0 : bb[0]? = some (vB c) := by rw [hbc 0 (by omega), full_map]; rfl
  have HC0 := Lib.hid hc0
  have KB := Lib.hid (Nat.le_trans X1.out.size hkb)
  clear o2 x2 H1 X1 hbb hbc hc0 hkb
  go_wp2_with fail
  refine (disk_Write_yes H2.out (by rintro k rfl; exact hkb2) 1 rfl (by simp [DM.new]) O2.out (full_len c)).mono ?_
  rintro e w3 ⟨rfl, h3, x3⟩
  have hb3 := x3.get HB2.out (fun hk => H2.out.no_bytes _ _ _ hk HB2.out)
  have cb3 : w3.cell? ⟨kb, 0, none⟩ = some (vB c) := blk_cell hb3 HC0.out
  have fb3 : w3.frozen? ⟨kb, 0, none⟩ = false := blk_free hb3 0
  have hset : ∀ u, Only (· = kb) w3 (w3.setCell ⟨kb, 0, none⟩ u) := fun u => (Only.refl _ w3).setCell (by exact Or.inl rfl) u
  have hnk : ∀ k, dblk s a m k → k ≠ kb := by rintro k hk rfl; exact h3.no_bytes _ _ _ hk hb3
  have H3 := Lib.hid (fun u => h3.only (hset u) (hnk s (.inl rfl)) (hnk a (.inr (.inl rfl))) (hnk m (.inr (.inr rfl))) (fun k arr fz hk => .inr hk))
  have X3 := Lib.hid (fun u => (X2.out.andThen x3 (fun k hk => .inr (HD.out k hk))).andThen (hset u) (by rintro k rfl; exact .inr KB.out))
  clear h3 x3 H2 X2 O2 HB2 HC0 hb3 hkb2 hset hnk
  go_wp2_with (go_at_call 7; refine (num_any _).mono ?_; rintro e w' ⟨rfl, rfl⟩)
  obtain ⟨w4, hw4⟩ : ∃ W, W = w3.setCell ⟨kb, 0, none⟩ (.int .u8 (bits .xor .u8 c.toNat 1)) := ⟨_, rfl⟩
  rw [← hw4]
  have h4 : DiskRep (· = kb) w4 s a m ((DM.new 3).put 1 (full c)).did := by rw [hw4]; exact H3.out _
  have x4 : Ext w w4 := by rw [hw4]; exact X3.out _
  have H4 := Lib.hid h4
  have X4 := Lib.hid x4
  clear hw4 h4 x4 H3 X3 cb3 fb3
  refine (disk_Read_yes H4.out 1 rfl (by simp [DM.did, DM.put, DM.new])).mono ?_
  rintro e w5 ⟨v5, rfl, o5, x5⟩
  obtain ⟨kx, cx, bx, rfl, hkx, hbx, hbxc⟩ := owns_block o5 (by omega)
  have hx0 : bx[0]? = some (vB c) := by rw [hbxc 0 (by omega)]; show ((full c).map vB)[0]? = _; rw [full_map]; rfl
  have HX0 := Lib.hid hx0
  have HBX := Lib.hid hbx
  have HKX := Lib.hid hkx
  have X5 := Lib.hid x5
  have H5 := Lib.hid (H4.out.ext x5)
  clear o5 x5 hbx hbxc hx0 hkx
  go_wp2_with fail
  refine (disk_Image H5.out).mono ?_
  rintro e w6 ⟨v6, rfl, ⟨vs, o6, hvs⟩, x6⟩
  have o6' : w6.ownsRow w5.heap.size 30 1 v6 3 vs := o6
  obtain ⟨ky, cy, by_, rfl, hky, hby, hbyc⟩ := owns_block o6' (by omega)
  obtain ⟨u, hu, ou⟩ := hvs 1 (by show 1 < 3; omega)
  have ou' : w6.ownsRow w5.heap.size 5 1 u 256 ((zeros 256).map vB) := ou
  obtain ⟨ku, cu, bu, rfl, hku, hbu, hbuc⟩ := owns_block ou' (by omega)
  have cy1 : w6.cell? ⟨ky, 1, none⟩ = some (.slice (some ⟨ku, 0, none⟩) 256 cu) := blk_cell hby (by rw [hbyc 1 (by omega)]; exact hu)
  have cu0 : w6.cell? ⟨ku, 0, none⟩ = some (vB 0) := blk_cell hbu (by rw [hbuc 0 (by omega), zeros_map]; rfl)
  have fu0 : w6.frozen? ⟨ku, 0, none⟩ = false := blk_free hbu 0
  have hbx6 := x6.get HBX.out id
  have cx0 : w6.cell? ⟨kx, 0, none⟩ = some (vB c) := blk_cell hbx6 HX0.out
  have fx0 : w6.frozen? ⟨kx, 0, none⟩ = false := blk_free hbx6 0
  have X6 := Lib.hid (X5.out.trans x6)
  have HKU := Lib.hid (show w4.heap.size ≤ ku from Nat.le_trans X5.out.size hku)
  have hkux : ku ≠ kx := by
    have := lt_of_get HBX.out
    omega
  have hkyx : ky ≠ kx := by
    have := lt_of_get HBX.out
    omega
  have hkyu : ky ≠ ku := by
    rintro rfl
    rw [hby] at hbu
    injection hbu with hbu
    injection hbu with _ h _
    exact absurd h (by decide)
  clear o6 o6' hvs x6 hby hbyc hu ou ou' hbu hbuc hbx6 H5 HBX HX0 hky hku X5
  have hkxu := hkux.symm
  go_wp2
  have HX6 := X6
  go_region
  obtain ⟨w7, hw7⟩ : ∃ W, W = ((w6.setCell ⟨kx, 0, none⟩ (.int .u8 (bits .xor .u8 c.toNat 3))).setCell ⟨ku, 0, none⟩ (.int .u8 (bits .xor .u8 0 3))).drew := ⟨_, rfl⟩
  rw [← hw7]
  have x7 : Ext w4 w7 := by
    rw [hw7]
    exact ((X6.out.setCell (p := ⟨kx, 0, none⟩) (.inr HKX.out) _).setCell (p := ⟨ku, 0, none⟩) (.inr HKU.out) _).drew
  have H7 := Lib.hid (H4.out.ext x7)
  have X7 := Lib.hid (X4.out.trans x7)
  clear hw7 x7 H4 X4 X6 HX6 HKX HKU cy1 cu0 fu0 cx0 fx0 hkux hkyx hkyu hkxu
  go_wp2_with fail
  refine (disk_Read_yes H7.out 1 rfl (by simp [DM.did, DM.put, DM.new])).mono ?_
  rintro e w8 ⟨v8, rfl, o8, x8⟩
  have V8 := Lib.hid (Sl.owned o8)
  have X8 := Lib.hid (X7.out.trans x8)
  clear o8 x8 H7 X7
  go_wp2_with (first
    | (go_at_call 7; refine (num_any _).mono ?_; rintro e w' ⟨rfl, rfl⟩)
    | (go_at_call 14; refine (disk_Read_nil _ _).mono ?_; rintro e w' ⟨rfl, rfl⟩)
    | (go_at_call 18; refine (disk_Fuse_nil _ _).mono ?_; rintro e w' ⟨rfl, rfl⟩)
    | (go_at_call 13; refine (disk_Crash_nil _ _).mono ?_; rintro e w' ⟨rfl, rfl⟩)
    | (go_at_call 9; refine (full_any c).mono ?_; rintro e w9 ⟨v9, rfl, o9, x9⟩; (have hs1 := same_yes (V8.out.ext x9) (Sl.owned o9) (by rw [full_len]; omega) (show _ = full c from rfl)); (have X9 := Lib.hid (X8.out.trans x9)); clear o9 x9 V8 X8)
    | (go_at_call 15; refine hs1.mono ?_; rintro e wa ⟨rfl, xa⟩; (have XA := Lib.hid (X9.out.trans xa)); clear xa X9 hs1)
    | (go_at_call 8; refine (disk_Write_nil _ _ _).mono ?_; rintro e w' ⟨rfl, rfl⟩)
    | (go_at_call 10; refine (disk_Flush_nil _).mono ?_; rintro e w' ⟨rfl, rfl⟩)
    | (go_at_call 19; refine (disk_Size_nil _).mono ?_; rintro e w' ⟨rfl, rfl⟩)
    | (go_at_call 16; refine (disk_Dead_nil _).mono ?_; rintro e w' ⟨rfl, _, rfl⟩)
    | (go_at_call 17; refine (disk_Image_nil _).mono ?_; rintro e w' ⟨rfl, rfl⟩)
    | (go_at_call 12; refine (disk_Pending_nil _).mono ?_; rintro e w' ⟨rfl, rfl⟩)
    | (go_at_call 20; refine (disk_Acts_nil _).mono ?_; rintro e w' ⟨rfl, rfl⟩)
    | (go_at_call 5; refine (live8 _).mono ?_; rintro e wb ⟨rfl, xb⟩; (have XB := Lib.hid (XA.out.trans (((Only.refl _ wa).drewN _).trans xb)))))
  go_ret
  exact ⟨rfl, XB.out⟩
end Go.Proofs.Ytbgcelfmelpbeaa
