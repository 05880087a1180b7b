/- SlotGone: behind a Clear that is OK, and any crash, the slot's sector is zero; a Put that is OK stays: the walk. -/
import Derived.Test.YtbgcelfmelpbeaaDoorGoneB
import Derived.Test.YtbgcelfmelpbeaaDoorLive14
namespace Go.Proofs.YtbgcelfmelpbeaaDoor
open Go.RowKit
set_option linter.unusedSimpArgs false
structure GoneW (w0 w : World) (s a m t : Nat) (D : DM) : Prop where
  disk : DiskRep (fun _ => False) w s a m D
  slots : SlotsAt w t s 2 4
  ext : Ext w0 w
  news : ∀ k, dblk s a m k → w0.heap.size ≤ k
section
variable {w0 w w' : World} {s a m t : Nat} {D D' : DM}
theorem GoneW.grow (h : GoneW w0 w s a m t D) (hx : Ext w w') : GoneW w0 w' s a m t D := ⟨h.disk.ext hx, h.slots.ext hx, h.ext.trans hx, h.news⟩
theorem GoneW.act (h : GoneW w0 w s a m t D) (hd : DiskRep (fun _ => False) w' s a m D') (ho : Only (dblk s a m) w w') : GoneW w0 w' s a m t D' :=
  ⟨hd, h.slots.disk h.disk ho, h.ext.andThen ho (fun k hk => .inr (h.news k hk)), h.news⟩
end
def keptB : List UInt8 := [107, 101, 112, 116]
def GoneLoop (w : World) (n s a m t : Nat) (i : Value) (wr : World) : Prop := ∃ (k : Nat) (D : DM), k ≤ n ∧ i = vI k ∧ Good8 D ∧ GoneW w wr s a m t D
/-- any Put, in whatever number and of whatever bytes, on a disk that is well -/
theorem put_whatever {w0 w : World} {s a m t : Nat} {D : DM} (hw : GoneW w0 w s a m t D) (hg : Good8 D) (pos : Int) {e0 : TypeId} (vA : Option Addr) (vc : Nat) (bs : List UInt8) (hs : Sl w e0 (.slice vA bs.length vc) (bs.map vB)) :
    Calls Tryd.prog 12 #[.pointer (some ⟨t, 0, none⟩), vI pos, .slice vA bs.length vc] w fun e w' => ∃ c D', e = .returned (vI c) ∧ Good8 D' ∧ GoneW w0 w' s a m t D' := by
  by_cases hp : pos < 0 ∨ ((4 : Nat) : Int) ≤ pos
  · refine (slots_Put_range hw.slots pos hp _).mono ?_
    rintro e w' ⟨rfl, rfl⟩
    exact ⟨1, D, rfl, hg, hw⟩
  · obtain ⟨p, rfl⟩ : ∃ p : Nat, pos = p := ⟨pos.toNat, by omega⟩
    have hp4 : p < 4 := by omega
    by_cases hl : 249 < bs.length
    · refine (slots_Put_long hw.slots hw.disk hg.dead p hp4 (by rw [hg.n]; omega) vA bs.length vc hl).mono ?_
      rintro e w' ⟨rfl, hx⟩
      exact ⟨3, D, rfl, hg, hw.grow hx⟩
    · refine (slots_PutF hw.slots hw.disk (fun _ h => h.elim) hg.dead p hp4 (by rw [hg.n]; omega) hs (by omega)).mono ?_
      rintro e w' ⟨rfl, hd, ho⟩
      exact ⟨_, _, rfl, hg.over _ _, hw.act hd ho⟩
set_option maxHeartbeats 4000000 in
set_option maxRecDepth 20000 in
theorem gone_any (w : World) (vl : Value) (L : List ActS) (ap fuse : Int) (ek : TypeId) (kA : Option Addr) (kc : Nat) (keep : List Bool) (hl : ActsS w vl L) (hk : Sl w ek (.slice kA keep.length kc) (keep.map Value.bool)) (hfu : fuse ≤ 9223372036854775807) :
    Calls Tryd.prog 4 #[vl, vI ap, .agg #[vI fuse, .slice kA keep.length kc]] w fun e w' => e = .returned (.bool true) ∧ Ext w w' := by
  obtain ⟨hlm, Al, cl, rfl, hl2⟩ := id hl
  unfold maxLen at hlm
  have HL := Lib.hid hl
  have HK := Lib.hid hk
  have hcs : ∀ W : World, (convert 22 22 (.slice (some ⟨W.heap.size, 0, none⟩) 4 4)).run Tryd.prog (W.alloc (.cells #[.int .u8 107, .int .u8 101, .int .u8 112, .int .u8 116] 5)) = .ok (.slice (some ⟨W.heap.size, 0, none⟩) 4 4) (W.alloc (.cells #[.int .u8 107, .int .u8 101, .int .u8 112, .int .u8 116] 5 (4, 5))) := fun W => Lib.run_convert_bytes_const W 22 5 #[.int .u8 107, .int .u8 101, .int .u8 112, .int .u8 116] 4 4 Tryd.underlying22 Tryd.underlying5
  have HCS := Lib.hid hcs
  clear hl2 hcs
  go_enter Tryd.func4, Tryd.ntmps4
  go_wp2_with fail
  refine (huge_any (HL.out.ext ((Only.refl _ w).alloc _))).mono ?_
  rintro e w' ⟨u, rfl, hu, rfl⟩
  obtain ⟨w1, hw1⟩ : ∃ W, W = w.alloc (.cells #[vI fuse, .slice kA keep.length kc] 42) := ⟨_, rfl⟩
  rw [← hw1]
  have hbx : w1.heap[w.heap.size]? = some (.cells #[vI fuse, .slice kA keep.length kc] 42 (0, 0)) := by rw [hw1]; exact get_alloc
  have X1 := Lib.hid (show Ext w w1 by rw [hw1]; exact (Only.refl _ w).alloc _)
  have HL1 := Lib.hid (HL.out.ext X1.out)
  have HK1 := Lib.hid (HK.out.ext X1.out)
  have BX0 := Lib.hid (show w1.cell? ⟨w.heap.size, 0, none⟩ = some (vI fuse) from blk_cell hbx rfl)
  have BX1 := Lib.hid (show w1.cell? ⟨w.heap.size, 1, none⟩ = some (.slice kA keep.length kc) from blk_cell hbx rfl)
  generalize w.heap.size = x0 at *
  clear hw1 hbx HL HK
  rcases hu.out with rfl | rfl
  · go_wp2_with (first | (go_at_call 5; refine (live14 _).mono ?_; rintro e wb ⟨rfl, xb⟩))
    go_ret
    exact ⟨rfl, X1.out.trans xb⟩
  by_cases ha0 : ap < 0
  · have d0 : decide (ap < 0) = true := by simpa using ha0
    go_wp2_with (first | (go_at_call 5; refine (live14 _).mono ?_; rintro e wb ⟨rfl, xb⟩))
    go_ret
    exact ⟨rfl, X1.out.trans xb⟩
  have d0 : decide (ap < 0) = false := by simpa using ha0
  by_cases ha3 : 3 < ap
  · have d3 : decide (3 < ap) = true := by simpa using ha3
    go_wp2_with (first | (go_at_call 5; refine (live14 _).mono ?_; rintro e wb ⟨rfl, xb⟩))
    go_ret
    exact ⟨rfl, X1.out.trans xb⟩
  obtain ⟨p, rfl⟩ : ∃ p : Nat, ap = p := ⟨ap.toNat, by omega⟩
  have hp3 : p ≤ 3 := by omega
  have d1 : decide ((p : Int) < 0) = false := by simp
  have d3 : decide (3 < (p : Int)) = false := by simp; omega
  clear d0 ha0 hu
  go_wp2_with fail
  refine (disk_New (K := fun _ => False) w1 (fun _ h => h.elim) 8 (by omega) (by omega)).mono ?_
  rintro e w2 ⟨s, a, m, rfl, h2, x2, hs, ha, hm⟩
  have hd : ∀ k, dblk s a m k → w1.heap.size ≤ k := by rintro k (rfl | rfl | rfl) <;> assumption
  have HD := Lib.hid hd
  have H2 := Lib.hid h2
  have X2 := Lib.hid x2
  clear h2 x2 hd hs ha hm
  go_wp2_with fail
  refine (slot_New (f := 2) (n := 4) H2.out (by show 2 + 4 ≤ 8; omega) (by omega)).mono ?_
  rintro e w3 ⟨t, rfl, ht, x3, -⟩
  have HG := Lib.hid (show GoneW w1 w3 s a m t (DM.new 8) from ⟨H2.out.ext x3, ht, X2.out.trans x3, HD.out⟩)
  clear ht x3 H2 X2 HD
  go_wp2_with (first | (go_at_call 11; refine (num14 _).mono ?_; rintro e w' ⟨rfl, rfl⟩))
  go_loopw [11] (GoneLoop w1 L.length s a m t) (fun i _ => L.length - (RowKit.intOf i).toNat)
  case atStart => exact ⟨0, _, Nat.zero_le _, rfl, Good8.new, HG.out⟩
  case round =>
    obtain ⟨k, D, hk, rfl, hgood, hgw⟩ := hrel
    have HGD := Lib.hid hgood
    have HGW := Lib.hid hgw
    by_cases hlt : k < L.length
    · obtain ⟨hlm', A', c', e1, hcells⟩ := HL1.out
      clear hlm'
      simp only [Value.slice.injEq, true_and] at e1
      obtain ⟨rfl, rfl⟩ := e1
      obtain ⟨b, off, rfl, b0, b1, b2, hsl⟩ := hcells k hlt
      have c0 := hgw.ext.cell b0 id
      generalize L[k] = act at *
      obtain ⟨kd, pos, vA, vc, e0, bs⟩ := act
      have HSL := Lib.hid hsl
      clear hcells hgw hgood hsl
      by_cases h0 : kd = 0
      · subst h0
        go_wp2
        have hpw := put_whatever (HGW.out.grow (Only.refl _ wr).drew) HGD.out pos vA vc bs ((HSL.out.ext HGW.out.ext).ext (Only.refl _ wr).drew)
        have c1 := (HGW.out.grow (Only.refl _ wr).drew).ext.cell b1 id
        have c2 := (HGW.out.grow (Only.refl _ wr).drew).ext.cell b2 id
        refine wp_region_held_drew (S := fun w' => w'.cell? ⟨b, off + k * 3 + 1, none⟩ = some (vI pos) ∧ w'.cell? ⟨b, off + k * 3 + 2, none⟩ = some (.slice vA bs.length vc)) (by kernel_rfl) ⟨c1, c2⟩ (fun hHeld => ?_)
        first
        | (refine wpAnyH_take (i := 0) (v := undef) rfl (by kernel_rfl) (by kernel_rfl) (by kernel_rfl) (fun _ _ _ h => h) (Or.inr ⟨by rfl, rfl⟩) (by assumption) ?_)
        | (refine wpAnyH_take (i := 0) (v := ?_) rfl (by kernel_rfl) (by kernel_rfl) (by kernel_rfl) (fun _ _ _ h => h) (Or.inl ⟨by rfl, ?_⟩) (by assumption) ?_
           rotate_left
           · (intro w hSw; (try dsimp only at hSw); go_simp; try with_reducible rfl))
        try simp only [Act.put, List.setIfInBounds_toArray, List.set_cons_zero, List.set_cons_succ, List.getElem_toArray, List.getElem_cons_zero, List.getElem_cons_succ]
        first
        | (refine wpAnyH_take (i := 1) (v := undef) rfl (by kernel_rfl) (by kernel_rfl) (by kernel_rfl) (fun _ _ _ h => h) (Or.inr ⟨by rfl, rfl⟩) (by assumption) ?_)
        | (refine wpAnyH_take (i := 1) (v := ?_) rfl (by kernel_rfl) (by kernel_rfl) (by kernel_rfl) (fun _ _ _ h => h) (Or.inl ⟨by rfl, ?_⟩) (by assumption) ?_
           rotate_left
           · (intro w hSw; (try dsimp only at hSw); go_simp; try with_reducible rfl))
        try simp only [Act.put, List.setIfInBounds_toArray, List.set_cons_zero, List.set_cons_succ, List.getElem_toArray, List.getElem_cons_zero, List.getElem_cons_succ]
        first
        | (refine wpAnyH_take (i := 2) (v := undef) rfl (by kernel_rfl) (by kernel_rfl) (by kernel_rfl) (fun _ _ _ h => h) (Or.inr ⟨by rfl, rfl⟩) (by assumption) ?_)
        | (refine wpAnyH_take (i := 2) (v := ?_) rfl (by kernel_rfl) (by kernel_rfl) (by kernel_rfl) (fun _ _ _ h => h) (Or.inl ⟨by rfl, ?_⟩) (by assumption) ?_
           rotate_left
           · (intro w hSw; (try dsimp only at hSw); go_simp; try with_reducible rfl))
        try simp only [Act.put, List.setIfInBounds_toArray, List.set_cons_zero, List.set_cons_succ, List.getElem_toArray, List.getElem_cons_zero, List.getElem_cons_succ]
        first
        | (refine wpAnyH_take (i := 3) (v := undef) rfl (by kernel_rfl) (by kernel_rfl) (by kernel_rfl) (fun _ _ _ h => h) (Or.inr ⟨by rfl, rfl⟩) (by assumption) ?_)
        | (refine wpAnyH_take (i := 3) (v := ?_) rfl (by kernel_rfl) (by kernel_rfl) (by kernel_rfl) (fun _ _ _ h => h) (Or.inl ⟨by rfl, ?_⟩) (by assumption) ?_
           rotate_left
           · (intro w hSw; (try dsimp only at hSw); go_simp; try with_reducible rfl))
        try simp only [Act.put, List.setIfInBounds_toArray, List.set_cons_zero, List.set_cons_succ, List.getElem_toArray, List.getElem_cons_zero, List.getElem_cons_succ]
        first
        | (refine wpAnyH_take (i := 4) (v := undef) rfl (by kernel_rfl) (by kernel_rfl) (by kernel_rfl) (fun _ _ _ h => h) (Or.inr ⟨by rfl, rfl⟩) (by assumption) ?_)
        | (refine wpAnyH_take (i := 4) (v := ?_) rfl (by kernel_rfl) (by kernel_rfl) (by kernel_rfl) (fun _ _ _ h => h) (Or.inl ⟨by rfl, ?_⟩) (by assumption) ?_
           rotate_left
           · (intro w hSw; (try dsimp only at hSw); go_simp; try with_reducible rfl))
        try simp only [Act.put, List.setIfInBounds_toArray, List.set_cons_zero, List.set_cons_succ, List.getElem_toArray, List.getElem_cons_zero, List.getElem_cons_succ]
        first
        | (refine wpAnyH_take (i := 5) (v := undef) rfl (by kernel_rfl) (by kernel_rfl) (by kernel_rfl) (fun _ _ _ h => h) (Or.inr ⟨by rfl, rfl⟩) (by assumption) ?_)
        | (refine wpAnyH_take (i := 5) (v := ?_) rfl (by kernel_rfl) (by kernel_rfl) (by kernel_rfl) (fun _ _ _ h => h) (Or.inl ⟨by rfl, ?_⟩) (by assumption) ?_
           rotate_left
           · (intro w hSw; (try dsimp only at hSw); go_simp; try with_reducible rfl))
        try simp only [Act.put, List.setIfInBounds_toArray, List.set_cons_zero, List.set_cons_succ, List.getElem_toArray, List.getElem_cons_zero, List.getElem_cons_succ]
        first
        | (refine wpAnyH_take (i := 6) (v := undef) rfl (by kernel_rfl) (by kernel_rfl) (by kernel_rfl) (fun _ _ _ h => h) (Or.inr ⟨by rfl, rfl⟩) (by assumption) ?_)
        | (refine wpAnyH_take (i := 6) (v := ?_) rfl (by kernel_rfl) (by kernel_rfl) (by kernel_rfl) (fun _ _ _ h => h) (Or.inl ⟨by rfl, ?_⟩) (by assumption) ?_
           rotate_left
           · (intro w hSw; (try dsimp only at hSw); go_simp; try with_reducible rfl))
        try simp only [Act.put, List.setIfInBounds_toArray, List.set_cons_zero, List.set_cons_succ, List.getElem_toArray, List.getElem_cons_zero, List.getElem_cons_succ]
        first
        | (refine wpAnyH_take (i := 7) (v := undef) rfl (by kernel_rfl) (by kernel_rfl) (by kernel_rfl) (fun _ _ _ h => h) (Or.inr ⟨by rfl, rfl⟩) (by assumption) ?_)
        | (refine wpAnyH_take (i := 7) (v := ?_) rfl (by kernel_rfl) (by kernel_rfl) (by kernel_rfl) (fun _ _ _ h => h) (Or.inl ⟨by rfl, ?_⟩) (by assumption) ?_
           rotate_left
           · (intro w hSw; (try dsimp only at hSw); go_simp; try with_reducible rfl))
        try simp only [Act.put, List.setIfInBounds_toArray, List.set_cons_zero, List.set_cons_succ, List.getElem_toArray, List.getElem_cons_zero, List.getElem_cons_succ]
        first
        | (refine wpAnyH_take (i := 8) (v := undef) rfl (by kernel_rfl) (by kernel_rfl) (by kernel_rfl) (fun _ _ _ h => h) (Or.inr ⟨by rfl, rfl⟩) (by assumption) ?_)
        | (refine wpAnyH_take (i := 8) (v := ?_) rfl (by kernel_rfl) (by kernel_rfl) (by kernel_rfl) (fun _ _ _ h => h) (Or.inl ⟨by rfl, ?_⟩) (by assumption) ?_
           rotate_left
           · (intro w hSw; (try dsimp only at hSw); go_simp; try with_reducible rfl))
        try simp only [Act.put, List.setIfInBounds_toArray, List.set_cons_zero, List.set_cons_succ, List.getElem_toArray, List.getElem_cons_zero, List.getElem_cons_succ]
        first
        | (refine wpAnyH_take (i := 9) (v := undef) rfl (by kernel_rfl) (by kernel_rfl) (by kernel_rfl) (fun _ _ _ h => h) (Or.inr ⟨by rfl, rfl⟩) (by assumption) ?_)
        | (refine wpAnyH_take (i := 9) (v := ?_) rfl (by kernel_rfl) (by kernel_rfl) (by kernel_rfl) (fun _ _ _ h => h) (Or.inl ⟨by rfl, ?_⟩) (by assumption) ?_
           rotate_left
           · (intro w hSw; (try dsimp only at hSw); go_simp; try with_reducible rfl))
        try simp only [Act.put, List.setIfInBounds_toArray, List.set_cons_zero, List.set_cons_succ, List.getElem_toArray, List.getElem_cons_zero, List.getElem_cons_succ]
        first
        | (refine wpAnyH_take (i := 10) (v := undef) rfl (by kernel_rfl) (by kernel_rfl) (by kernel_rfl) (fun _ _ _ h => h) (Or.inr ⟨by rfl, rfl⟩) (by assumption) ?_)
        | (refine wpAnyH_take (i := 10) (v := ?_) rfl (by kernel_rfl) (by kernel_rfl) (by kernel_rfl) (fun _ _ _ h => h) (Or.inl ⟨by rfl, ?_⟩) (by assumption) ?_
           rotate_left
           · (intro w hSw; (try dsimp only at hSw); go_simp; try with_reducible rfl))
        try simp only [Act.put, List.setIfInBounds_toArray, List.set_cons_zero, List.set_cons_succ, List.getElem_toArray, List.getElem_cons_zero, List.getElem_cons_succ]
        refine wpAnyH_ready (rs := [11]) (by kernel_rfl) (by simp) ?_
        refine AllReadyH.cons rfl (fun K hK => ?_) AllReadyH.nil
        rw [if_pos (by rfl)]
        simp only [List.getElem_toArray, List.getElem_cons_zero, List.getElem_cons_succ]
        go_simp
        refine hpw.mono ?_
        rintro e w5 ⟨co, D5, rfl, hg5, hw5⟩
        have HG5 := Lib.hid hg5
        have HW5 := Lib.hid hw5
        refine hK.out _ _ ⟨hw5.ext.cell b1 id, hw5.ext.cell b2 id⟩ (fun hHeld => ?_)
        clear hK K
        try simp only [Act.put, List.setIfInBounds_toArray, List.set_cons_zero, List.set_cons_succ, List.getElem_toArray, List.getElem_cons_zero, List.getElem_cons_succ]
        refine wpAnyH_done (by kernel_rfl) ?_ _
        clear hg5 hw5 c0 c1 c2
        go_wp2
        go_roundw
        case rel => exact ⟨k + 1, D5, by omega, by go_num, HG5.out, HW5.out⟩
        case measure => simp [RowKit.intOf]; omega
      · have h0b : (kd == 0) = false := by simpa using h0
        go_wp2
        go_roundw
        case rel => exact ⟨k + 1, D, by omega, by go_num, HGD.out, HGW.out⟩
        case measure => simp [RowKit.intOf]; omega
    · have bx0 := hgw.ext.cell BX0.out id
      have hk' : ¬ (k : Int) < L.length := by omega
      clear hlm hlt hk
      have hmk : ∀ W : World, (Instr.makeSlice 22 (.int .i64 256) (.int .i64 256)).run Tryd.prog W = .ok (.slice (some ⟨W.heap.size, 0, none⟩) 256 256) (W.alloc (.cells (zrow (.int .u8 0) 256) 5)) := fun W => run_make_z Tryd.underlying22 info_u8 rfl .i64 .i64 256 (by omega) (by omega) W
      have HMK := Lib.hid hmk
      clear hmk
      obtain ⟨q, hq, hq4, hqp⟩ : ∃ q : Nat, ((p : Int) + 1).tmod 4 = q ∧ q < 4 ∧ q ≠ p := by
        refine ⟨(p + 1) % 4, ?_, by omega, by omega⟩
        rw [Int.tmod_eq_emod_of_nonneg (by omega)]
        omega
      by_cases hf0 : 0 < fuse
      have HF := Lib.hid hfu
      clear hfu
      go_wp2_with fail
      refine (disk_Fuse hgw.disk fuse HF.out).mono ?_
      rintro e w4 ⟨rfl, h4, x4⟩
      have HC := Lib.hid (hgood.setFuse hf0)
      have HW4 := Lib.hid (hgw.act h4 (x4.mono (fun _ h => .inl h)))
      generalize D.setFuse fuse = D1 at *
      clear h4 x4 hgw hgood HGD HGW
      rotate_left
      have HC := Lib.hid hgood.calm8
      have HW4 := Lib.hid hgw
      obtain ⟨D1, hD1⟩ : ∃ X, X = D := ⟨_, rfl⟩
      obtain ⟨w4, hw4⟩ : ∃ X, X = wr := ⟨_, rfl⟩
      subst hD1 hw4
      clear hgw hgood HGD HGW
      all_goals
        go_wp2_with fail
        refine (slots_ClearF HW4.out.slots HW4.out.disk (fun _ h => h.elim) HC.out.dead p (by omega) (by rw [HC.out.n]; omega)).mono ?_
        rintro e w5 ⟨rfl, h5, x5⟩
        have HW5 := Lib.hid (HW4.out.act h5 x5)
        have HC2 := Lib.hid (clear_done (D := D1) HC.out.calm (p := 2 + p))
        have hn2 : (D1.clearF (2 + p)).2.n = 8 := by rw [clear_n, HC.out.n]
        generalize (D1.clearF (2 + p)).2 = D2 at *
        generalize (D1.clearF (2 + p)).1 = c1 at *
        clear h5 x5 HW4 HC bx0
        have hcs := HCS.out
        go_wp2_with fail
        have hx : Ext w5 (w5.alloc (.cells #[.int .u8 107, .int .u8 101, .int .u8 112, .int .u8 116] 5 (4, 5))) := (Only.refl _ _).alloc _
        have hsl : Sl (w5.alloc (.cells #[.int .u8 107, .int .u8 101, .int .u8 112, .int .u8 116] 5 (4, 5))) 5 (.slice (some ⟨w5.heap.size, 0, none⟩) 4 4) ((keptB).map vB) :=
          ⟨_, 4, rfl, Nat.le_refl _, .inr ⟨w5.heap.size, 0, _, _, rfl, get_alloc, fun j hj => by
            have : j = 0 ∨ j = 1 ∨ j = 2 ∨ j = 3 := by simp [keptB] at hj; omega
            rcases this with rfl | rfl | rfl | rfl <;> rfl⟩, fun h => by cases h⟩
        have HX5 := Lib.hid (HW5.out.grow hx)
        refine (slots_PutG HX5.out.slots HX5.out.disk (fun _ h => h.elim) q hq4 (by rw [hn2]; omega) hsl (by decide)).mono ?_
        rintro e w6 ⟨rfl, h6, x6⟩
        have HW6 := Lib.hid (HX5.out.act h6 x6)
        have HO := Lib.hid (fun hp => put_other (D := D2) (k := 2 + q) (bs := sectOf 4 keptB) (i := 2 + p) (by omega) hp)
        have HP := Lib.hid (put_done (D := D2) (k := 2 + q) (bs := sectOf 4 keptB))
        have hn3 : (D2.putG (2 + q) (sectOf 4 keptB)).2.n = 8 := by rw [put_n, hn2]
        generalize (D2.putG (2 + q) (sectOf 4 keptB)).2 = D3 at *
        generalize (D2.putG (2 + q) (sectOf 4 keptB)).1 = c2 at *
        have bx1 := HW6.out.ext.cell BX1.out id
        clear h6 x6 hsl hx HX5 HW5 hcs hn2
        go_wp2_with fail
        refine (disk_Crash_of (B := w1.heap.size) (keep := keep) HW6.out.disk (fun w' ho => ((Sl.cells HK1.out).ext HW6.out.ext).only ho HW6.out.news)).mono ?_
        rintro e w7 ⟨rfl, h7, x7⟩
        have HW7 := Lib.hid (HW6.out.act h7 x7)
        clear h7 x7 HW6 bx1
        go_wp2_with fail
        refine (disk_Image HW7.out.disk).mono ?_
        rintro e w8 ⟨v8, rfl, ⟨vs, o8, hvs⟩, x8⟩
        have hn4 : (D3.crash keep).n = 8 := hn3
        rw [hn4] at o8
        obtain ⟨ky, cy, by_, rfl, hky, hby, hbyc⟩ := owns_block o8 (by omega)
        obtain ⟨u, hu, ou⟩ := hvs (2 + p) (by rw [hn4]; omega)
        have cu : w8.cell? ⟨ky, 2 + p, none⟩ = some u := blk_cell hby (by rw [hbyc (2 + p) (by omega)]; exact hu)
        have HU := Lib.hid (Sl.of_owns ou)
        have HW8 := Lib.hid (HW7.out.grow x8)
        clear o8 hvs x8 hby hbyc hu ou hky HW7
        go_wp2_with fail
        have hw2 : IntKind.i64.wrap (2 + (p : Int)) = 2 + (p : Int) := by rw [IntKind.wrap_i64]; omega
        have ht2 : (2 + (p : Int)).toNat = 2 + p := by omega
        have hb2 : (0 : Int) ≤ 2 + (p : Int) := by omega
        have hb3 : (2 : Int) + (p : Int) < 8 := by omega
        by_cases hc1 : c1 = 0
        have hsafe : (D3.crash keep).safe (2 + p) = zeros 256 := by
          obtain ⟨g1, g2⟩ := HC2.out hc1
          obtain ⟨g3, g4⟩ := HO.out g1
          rw [(crash_safe g3).1, g4, g2]
        have HU' := Lib.hid (hsafe ▸ HU.out)
        subst hc1
        have hmk := HMK.out
        refine wp_region_held_drew (S := fun w' => w'.cell? ⟨ky, 2 + p, none⟩ = some u) (by kernel_rfl) cu (fun hHeld => ?_)
        first
        | (refine wpAnyH_take (i := 0) (v := undef) rfl (by kernel_rfl) (by kernel_rfl) (by kernel_rfl) (fun _ _ _ h => h) (Or.inr ⟨by rfl, rfl⟩) (by assumption) ?_)
        | (refine wpAnyH_take (i := 0) (v := ?_) rfl (by kernel_rfl) (by kernel_rfl) (by kernel_rfl) (fun _ _ _ h => h) (Or.inl ⟨by rfl, ?_⟩) (by assumption) ?_
           rotate_left
           · (intro w hSw; (try dsimp only at hSw); go_simp; try with_reducible rfl))
        try simp only [Act.put, List.setIfInBounds_toArray, List.set_cons_zero, List.set_cons_succ, List.getElem_toArray, List.getElem_cons_zero, List.getElem_cons_succ]
        refine wpAnyH_ready (rs := [1]) (by kernel_rfl) (by simp) ?_
        refine AllReadyH.cons rfl (fun K hK => ?_) AllReadyH.nil
        rw [if_pos (by rfl)]
        simp only [List.getElem_toArray, List.getElem_cons_zero, List.getElem_cons_succ]
        go_simp
        refine (num14 _).mono ?_
        rintro e w' ⟨rfl, rfl⟩
        refine hK.out _ _ cu (fun hHeld => ?_)
        clear hK K
        try simp only [Act.put, List.setIfInBounds_toArray, List.set_cons_zero, List.set_cons_succ, List.getElem_toArray, List.getElem_cons_zero, List.getElem_cons_succ]
        first
        | (refine wpAnyH_take (i := 2) (v := undef) rfl (by kernel_rfl) (by kernel_rfl) (by kernel_rfl) (fun _ _ _ h => h) (Or.inr ⟨by rfl, rfl⟩) (by assumption) ?_)
        | (refine wpAnyH_take (i := 2) (v := ?_) rfl (by kernel_rfl) (by kernel_rfl) (by kernel_rfl) (fun _ _ _ h => h) (Or.inl ⟨by rfl, ?_⟩) (by assumption) ?_
           rotate_left
           · (intro w hSw; (try dsimp only at hSw); go_simp; try with_reducible rfl))
        try simp only [Act.put, List.setIfInBounds_toArray, List.set_cons_zero, List.set_cons_succ, List.getElem_toArray, List.getElem_cons_zero, List.getElem_cons_succ]
        first
        | (refine wpAnyH_take (i := 3) (v := undef) rfl (by kernel_rfl) (by kernel_rfl) (by kernel_rfl) (fun _ _ _ h => h) (Or.inr ⟨by rfl, rfl⟩) (by assumption) ?_)
        | (refine wpAnyH_take (i := 3) (v := ?_) rfl (by kernel_rfl) (by kernel_rfl) (by kernel_rfl) (fun _ _ _ h => h) (Or.inl ⟨by rfl, ?_⟩) (by assumption) ?_
           rotate_left
           · (intro w hSw; (try dsimp only at hSw); go_simp; try with_reducible rfl))
        try simp only [Act.put, List.setIfInBounds_toArray, List.set_cons_zero, List.set_cons_succ, List.getElem_toArray, List.getElem_cons_zero, List.getElem_cons_succ]
        first
        | (refine wpAnyH_take (i := 4) (v := undef) rfl (by kernel_rfl) (by kernel_rfl) (by kernel_rfl) (fun _ _ _ h => h) (Or.inr ⟨by rfl, rfl⟩) (by assumption) ?_)
        | (refine wpAnyH_take (i := 4) (v := ?_) rfl (by kernel_rfl) (by kernel_rfl) (by kernel_rfl) (fun _ _ _ h => h) (Or.inl ⟨by rfl, ?_⟩) (by assumption) ?_
           rotate_left
           · (intro w hSw; (try dsimp only at hSw); go_simp; try with_reducible rfl))
        try simp only [Act.put, List.setIfInBounds_toArray, List.set_cons_zero, List.set_cons_succ, List.getElem_toArray, List.getElem_cons_zero, List.getElem_cons_succ]
        first
        | (refine wpAnyH_take (i := 5) (v := undef) rfl (by kernel_rfl) (by kernel_rfl) (by kernel_rfl) (fun _ _ _ h => h) (Or.inr ⟨by rfl, rfl⟩) (by assumption) ?_)
        | (refine wpAnyH_take (i := 5) (v := ?_) rfl (by kernel_rfl) (by kernel_rfl) (by kernel_rfl) (fun _ _ _ h => h) (Or.inl ⟨by rfl, ?_⟩) (by assumption) ?_
           rotate_left
           · (intro w hSw; (try dsimp only at hSw); go_simp; try with_reducible rfl))
        try simp only [Act.put, List.setIfInBounds_toArray, List.set_cons_zero, List.set_cons_succ, List.getElem_toArray, List.getElem_cons_zero, List.getElem_cons_succ]
        first
        | (refine wpAnyH_take (i := 6) (v := undef) rfl (by kernel_rfl) (by kernel_rfl) (by kernel_rfl) (fun _ _ _ h => h) (Or.inr ⟨by rfl, rfl⟩) (by assumption) ?_)
        | (refine wpAnyH_take (i := 6) (v := ?_) rfl (by kernel_rfl) (by kernel_rfl) (by kernel_rfl) (fun _ _ _ h => h) (Or.inl ⟨by rfl, ?_⟩) (by assumption) ?_
           rotate_left
           · (intro w hSw; (try dsimp only at hSw); go_simp; try with_reducible rfl))
        try simp only [Act.put, List.setIfInBounds_toArray, List.set_cons_zero, List.set_cons_succ, List.getElem_toArray, List.getElem_cons_zero, List.getElem_cons_succ]
        first
        | (refine wpAnyH_take (i := 7) (v := undef) rfl (by kernel_rfl) (by kernel_rfl) (by kernel_rfl) (fun _ _ _ h => h) (Or.inr ⟨by rfl, rfl⟩) (by assumption) ?_)
        | (refine wpAnyH_take (i := 7) (v := ?_) rfl (by kernel_rfl) (by kernel_rfl) (by kernel_rfl) (fun _ _ _ h => h) (Or.inl ⟨by rfl, ?_⟩) (by assumption) ?_
           rotate_left
           · (intro w hSw; (try dsimp only at hSw); go_simp; try with_reducible rfl))
        try simp only [Act.put, List.setIfInBounds_toArray, List.set_cons_zero, List.set_cons_succ, List.getElem_toArray, List.getElem_cons_zero, List.getElem_cons_succ]
        first
        | (refine wpAnyH_take (i := 8) (v := undef) rfl (by kernel_rfl) (by kernel_rfl) (by kernel_rfl) (fun _ _ _ h => h) (Or.inr ⟨by rfl, rfl⟩) (by assumption) ?_)
        | (refine wpAnyH_take (i := 8) (v := ?_) rfl (by kernel_rfl) (by kernel_rfl) (by kernel_rfl) (fun _ _ _ h => h) (Or.inl ⟨by rfl, ?_⟩) (by assumption) ?_
           rotate_left
           · (intro w hSw; (try dsimp only at hSw); go_simp; try with_reducible rfl))
        try simp only [Act.put, List.setIfInBounds_toArray, List.set_cons_zero, List.set_cons_succ, List.getElem_toArray, List.getElem_cons_zero, List.getElem_cons_succ]
        refine wpAnyH_ready (rs := [9]) (by kernel_rfl) (by simp) ?_
        refine AllReadyH.cons rfl (fun K hK => ?_) AllReadyH.nil
        rw [if_pos (by rfl)]
        simp only [List.getElem_toArray, List.getElem_cons_zero, List.getElem_cons_succ]
        go_simp
        have cu9 := ((Only.refl (fun _ => False) w8).drew.alloc (.cells (zrow (.int .u8 0) 256) 5)).cell cu id
        refine hK.out _ _ cu9 (fun hHeld => ?_)
        clear hK K
        try simp only [Act.put, List.setIfInBounds_toArray, List.set_cons_zero, List.set_cons_succ, List.getElem_toArray, List.getElem_cons_zero, List.getElem_cons_succ]
        have hsm := same_any (w := w8.drew.alloc (.cells (zrow (.int .u8 0) 256) 5)) (HU'.out.ext ((Only.refl _ w8).drew.alloc _)) (Sl.of_owns (zero_owns w8.drew)) (by rw [zeros_len]; omega)
        rw [decide_eq_true rfl] at hsm
        refine wpAnyH_ready (rs := [10]) (by kernel_rfl) (by simp) ?_
        refine AllReadyH.cons rfl (fun K hK => ?_) AllReadyH.nil
        rw [if_pos (by rfl)]
        simp only [List.getElem_toArray, List.getElem_cons_zero, List.getElem_cons_succ]
        go_simp
        refine hsm.mono ?_
        rintro e w9 ⟨rfl, x9⟩
        have HW9 := Lib.hid (HW8.out.grow (((Only.refl _ w8).drew.alloc (.cells (zrow (.int .u8 0) 256) 5)).trans x9))
        refine hK.out _ _ (x9.cell cu9 id) (fun hHeld => ?_)
        clear hK K
        try simp only [Act.put, List.setIfInBounds_toArray, List.set_cons_zero, List.set_cons_succ, List.getElem_toArray, List.getElem_cons_zero, List.getElem_cons_succ]
        clear x9 cu9 hsm hmk HU' hsafe cu
        first
        | (refine wpAnyH_take (i := 11) (v := undef) rfl (by kernel_rfl) (by kernel_rfl) (by kernel_rfl) (fun _ _ _ h => h) (Or.inr ⟨by rfl, rfl⟩) (by assumption) ?_)
        | (refine wpAnyH_take (i := 11) (v := ?_) rfl (by kernel_rfl) (by kernel_rfl) (by kernel_rfl) (fun _ _ _ h => h) (Or.inl ⟨by rfl, ?_⟩) (by assumption) ?_
           rotate_left
           · (intro w hSw; (try dsimp only at hSw); go_simp; try with_reducible rfl))
        try simp only [Act.put, List.setIfInBounds_toArray, List.set_cons_zero, List.set_cons_succ, List.getElem_toArray, List.getElem_cons_zero, List.getElem_cons_succ]
        first
        | (refine wpAnyH_take (i := 12) (v := undef) rfl (by kernel_rfl) (by kernel_rfl) (by kernel_rfl) (fun _ _ _ h => h) (Or.inr ⟨by rfl, rfl⟩) (by assumption) ?_)
        | (refine wpAnyH_take (i := 12) (v := ?_) rfl (by kernel_rfl) (by kernel_rfl) (by kernel_rfl) (fun _ _ _ h => h) (Or.inl ⟨by rfl, ?_⟩) (by assumption) ?_
           rotate_left
           · (intro w hSw; (try dsimp only at hSw); go_simp; try with_reducible rfl))
        try simp only [Act.put, List.setIfInBounds_toArray, List.set_cons_zero, List.set_cons_succ, List.getElem_toArray, List.getElem_cons_zero, List.getElem_cons_succ]
        refine wpAnyH_done (by kernel_rfl) ?_ _
        rotate_left
        have hcb : (c1 == 0) = false := by simpa using hc1
        refine wp_region_held_drew (S := fun w' => w'.cell? ⟨ky, 2 + p, none⟩ = some u) (by kernel_rfl) cu (fun hHeld => ?_)
        first
        | (refine wpAnyH_take (i := 0) (v := undef) rfl (by kernel_rfl) (by kernel_rfl) (by kernel_rfl) (fun _ _ _ h => h) (Or.inr ⟨by rfl, rfl⟩) (by assumption) ?_)
        | (refine wpAnyH_take (i := 0) (v := ?_) rfl (by kernel_rfl) (by kernel_rfl) (by kernel_rfl) (fun _ _ _ h => h) (Or.inl ⟨by rfl, ?_⟩) (by assumption) ?_
           rotate_left
           · (intro w hSw; (try dsimp only at hSw); go_simp; try with_reducible rfl))
        try simp only [Act.put, List.setIfInBounds_toArray, List.set_cons_zero, List.set_cons_succ, List.getElem_toArray, List.getElem_cons_zero, List.getElem_cons_succ]
        refine wpAnyH_ready (rs := [1]) (by kernel_rfl) (by simp) ?_
        refine AllReadyH.cons rfl (fun K hK => ?_) AllReadyH.nil
        rw [if_pos (by rfl)]
        simp only [List.getElem_toArray, List.getElem_cons_zero, List.getElem_cons_succ]
        go_simp
        refine (num14 _).mono ?_
        rintro e w' ⟨rfl, rfl⟩
        refine hK.out _ _ cu (fun hHeld => ?_)
        clear hK K
        try simp only [Act.put, List.setIfInBounds_toArray, List.set_cons_zero, List.set_cons_succ, List.getElem_toArray, List.getElem_cons_zero, List.getElem_cons_succ]
        first
        | (refine wpAnyH_take (i := 2) (v := undef) rfl (by kernel_rfl) (by kernel_rfl) (by kernel_rfl) (fun _ _ _ h => h) (Or.inr ⟨by rfl, rfl⟩) (by assumption) ?_)
        | (refine wpAnyH_take (i := 2) (v := ?_) rfl (by kernel_rfl) (by kernel_rfl) (by kernel_rfl) (fun _ _ _ h => h) (Or.inl ⟨by rfl, ?_⟩) (by assumption) ?_
           rotate_left
           · (intro w hSw; (try dsimp only at hSw); go_simp; try with_reducible rfl))
        try simp only [Act.put, List.setIfInBounds_toArray, List.set_cons_zero, List.set_cons_succ, List.getElem_toArray, List.getElem_cons_zero, List.getElem_cons_succ]
        first
        | (refine wpAnyH_take (i := 3) (v := undef) rfl (by kernel_rfl) (by kernel_rfl) (by kernel_rfl) (fun _ _ _ h => h) (Or.inr ⟨by rfl, rfl⟩) (by assumption) ?_)
        | (refine wpAnyH_take (i := 3) (v := ?_) rfl (by kernel_rfl) (by kernel_rfl) (by kernel_rfl) (fun _ _ _ h => h) (Or.inl ⟨by rfl, ?_⟩) (by assumption) ?_
           rotate_left
           · (intro w hSw; (try dsimp only at hSw); go_simp; try with_reducible rfl))
        try simp only [Act.put, List.setIfInBounds_toArray, List.set_cons_zero, List.set_cons_succ, List.getElem_toArray, List.getElem_cons_zero, List.getElem_cons_succ]
        first
        | (refine wpAnyH_take (i := 4) (v := undef) rfl (by kernel_rfl) (by kernel_rfl) (by kernel_rfl) (fun _ _ _ h => h) (Or.inr ⟨by rfl, rfl⟩) (by assumption) ?_)
        | (refine wpAnyH_take (i := 4) (v := ?_) rfl (by kernel_rfl) (by kernel_rfl) (by kernel_rfl) (fun _ _ _ h => h) (Or.inl ⟨by rfl, ?_⟩) (by assumption) ?_
           rotate_left
           · (intro w hSw; (try dsimp only at hSw); go_simp; try with_reducible rfl))
        try simp only [Act.put, List.setIfInBounds_toArray, List.set_cons_zero, List.set_cons_succ, List.getElem_toArray, List.getElem_cons_zero, List.getElem_cons_succ]
        first
        | (refine wpAnyH_take (i := 5) (v := undef) rfl (by kernel_rfl) (by kernel_rfl) (by kernel_rfl) (fun _ _ _ h => h) (Or.inr ⟨by rfl, rfl⟩) (by assumption) ?_)
        | (refine wpAnyH_take (i := 5) (v := ?_) rfl (by kernel_rfl) (by kernel_rfl) (by kernel_rfl) (fun _ _ _ h => h) (Or.inl ⟨by rfl, ?_⟩) (by assumption) ?_
           rotate_left
           · (intro w hSw; (try dsimp only at hSw); go_simp; try with_reducible rfl))
        try simp only [Act.put, List.setIfInBounds_toArray, List.set_cons_zero, List.set_cons_succ, List.getElem_toArray, List.getElem_cons_zero, List.getElem_cons_succ]
        first
        | (refine wpAnyH_take (i := 6) (v := undef) rfl (by kernel_rfl) (by kernel_rfl) (by kernel_rfl) (fun _ _ _ h => h) (Or.inr ⟨by rfl, rfl⟩) (by assumption) ?_)
        | (refine wpAnyH_take (i := 6) (v := ?_) rfl (by kernel_rfl) (by kernel_rfl) (by kernel_rfl) (fun _ _ _ h => h) (Or.inl ⟨by rfl, ?_⟩) (by assumption) ?_
           rotate_left
           · (intro w hSw; (try dsimp only at hSw); go_simp; try with_reducible rfl))
        try simp only [Act.put, List.setIfInBounds_toArray, List.set_cons_zero, List.set_cons_succ, List.getElem_toArray, List.getElem_cons_zero, List.getElem_cons_succ]
        first
        | (refine wpAnyH_take (i := 7) (v := undef) rfl (by kernel_rfl) (by kernel_rfl) (by kernel_rfl) (fun _ _ _ h => h) (Or.inr ⟨by rfl, rfl⟩) (by assumption) ?_)
        | (refine wpAnyH_take (i := 7) (v := ?_) rfl (by kernel_rfl) (by kernel_rfl) (by kernel_rfl) (fun _ _ _ h => h) (Or.inl ⟨by rfl, ?_⟩) (by assumption) ?_
           rotate_left
           · (intro w hSw; (try dsimp only at hSw); go_simp; try with_reducible rfl))
        try simp only [Act.put, List.setIfInBounds_toArray, List.set_cons_zero, List.set_cons_succ, List.getElem_toArray, List.getElem_cons_zero, List.getElem_cons_succ]
        first
        | (refine wpAnyH_take (i := 8) (v := undef) rfl (by kernel_rfl) (by kernel_rfl) (by kernel_rfl) (fun _ _ _ h => h) (Or.inr ⟨by rfl, rfl⟩) (by assumption) ?_)
        | (refine wpAnyH_take (i := 8) (v := ?_) rfl (by kernel_rfl) (by kernel_rfl) (by kernel_rfl) (fun _ _ _ h => h) (Or.inl ⟨by rfl, ?_⟩) (by assumption) ?_
           rotate_left
           · (intro w hSw; (try dsimp only at hSw); go_simp; try with_reducible rfl))
        try simp only [Act.put, List.setIfInBounds_toArray, List.set_cons_zero, List.set_cons_succ, List.getElem_toArray, List.getElem_cons_zero, List.getElem_cons_succ]
        first
        | (refine wpAnyH_take (i := 9) (v := undef) rfl (by kernel_rfl) (by kernel_rfl) (by kernel_rfl) (fun _ _ _ h => h) (Or.inr ⟨by rfl, rfl⟩) (by assumption) ?_)
        | (refine wpAnyH_take (i := 9) (v := ?_) rfl (by kernel_rfl) (by kernel_rfl) (by kernel_rfl) (fun _ _ _ h => h) (Or.inl ⟨by rfl, ?_⟩) (by assumption) ?_
           rotate_left
           · (intro w hSw; (try dsimp only at hSw); go_simp; try with_reducible rfl))
        try simp only [Act.put, List.setIfInBounds_toArray, List.set_cons_zero, List.set_cons_succ, List.getElem_toArray, List.getElem_cons_zero, List.getElem_cons_succ]
        first
        | (refine wpAnyH_take (i := 10) (v := undef) rfl (by kernel_rfl) (by kernel_rfl) (by kernel_rfl) (fun _ _ _ h => h) (Or.inr ⟨by rfl, rfl⟩) (by assumption) ?_)
        | (refine wpAnyH_take (i := 10) (v := ?_) rfl (by kernel_rfl) (by kernel_rfl) (by kernel_rfl) (fun _ _ _ h => h) (Or.inl ⟨by rfl, ?_⟩) (by assumption) ?_
           rotate_left
           · (intro w hSw; (try dsimp only at hSw); go_simp; try with_reducible rfl))
        try simp only [Act.put, List.setIfInBounds_toArray, List.set_cons_zero, List.set_cons_succ, List.getElem_toArray, List.getElem_cons_zero, List.getElem_cons_succ]
        first
        | (refine wpAnyH_take (i := 11) (v := undef) rfl (by kernel_rfl) (by kernel_rfl) (by kernel_rfl) (fun _ _ _ h => h) (Or.inr ⟨by rfl, rfl⟩) (by assumption) ?_)
        | (refine wpAnyH_take (i := 11) (v := ?_) rfl (by kernel_rfl) (by kernel_rfl) (by kernel_rfl) (fun _ _ _ h => h) (Or.inl ⟨by rfl, ?_⟩) (by assumption) ?_
           rotate_left
           · (intro w hSw; (try dsimp only at hSw); go_simp; try with_reducible rfl))
        try simp only [Act.put, List.setIfInBounds_toArray, List.set_cons_zero, List.set_cons_succ, List.getElem_toArray, List.getElem_cons_zero, List.getElem_cons_succ]
        first
        | (refine wpAnyH_take (i := 12) (v := undef) rfl (by kernel_rfl) (by kernel_rfl) (by kernel_rfl) (fun _ _ _ h => h) (Or.inr ⟨by rfl, rfl⟩) (by assumption) ?_)
        | (refine wpAnyH_take (i := 12) (v := ?_) rfl (by kernel_rfl) (by kernel_rfl) (by kernel_rfl) (fun _ _ _ h => h) (Or.inl ⟨by rfl, ?_⟩) (by assumption) ?_
           rotate_left
           · (intro w hSw; (try dsimp only at hSw); go_simp; try with_reducible rfl))
        try simp only [Act.put, List.setIfInBounds_toArray, List.set_cons_zero, List.set_cons_succ, List.getElem_toArray, List.getElem_cons_zero, List.getElem_cons_succ]
        have HW9 := Lib.hid (HW8.out.grow (Only.refl _ w8).drew)
        obtain ⟨w9, hw9⟩ : ∃ W, W = w8.drew := ⟨_, rfl⟩
        rw [← hw9] at HW9 ⊢
        clear hw9 cu
        refine wpAnyH_done (by kernel_rfl) ?_ _
        all_goals
          go_wp2_with fail
          by_cases hc2 : c2 = 0
          · obtain ⟨g1, g2⟩ := HP.out hc2
            have hcur : (D3.crash keep).cur (2 + q) = sectOf 4 keptB := by rw [(crash_safe g1).2, g2]
            subst hc2
            refine (slots_Get_ok HW9.out.slots HW9.out.disk rfl q hq4 (by rw [hn4]; omega) (by rw [hcur]; exact sectOf_code ⟨by decide, by decide⟩ (by decide)) (by rw [hcur, sectOf_get0]; rfl)).mono ?_
            rintro e wa ⟨va, rfl, ha, xa⟩
            rw [hcur, sectOf_body (by decide)] at ha
            have hcv : (convert 22 9 va).run Tryd.prog wa = .ok (.string { data := #[107, 101, 112, 116] }) wa := conv_sl ha
            obtain ⟨Aa, ca, ea⟩ := ha.len
            have XA := Lib.hid (X1.out.trans (HW9.out.ext.trans xa))
            subst ea
            clear ha xa hcur g1 g2 HW9 HP HO HC2
            simp only [keptB, List.map_cons, List.map_nil, List.length_cons, List.length_nil] at hcv ⊢
            go_wp2_with (first
              | (go_at_call 11; refine (num14 _).mono ?_; rintro e w' ⟨rfl, rfl⟩)
              | (go_at_call 5; refine (live14 _).mono ?_; rintro e wb ⟨rfl, xb⟩; (have XB := Lib.hid (XA.out.trans xb)); clear xb XA))
            go_ret
            exact ⟨rfl, XB.out⟩
          · have hcb2 : (c2 != 0) = true := by simpa using hc2
            refine (slots_Get_any HW9.out.slots HW9.out.disk rfl q hq4 (by rw [hn4]; omega)).mono ?_
            rintro e wa ⟨va, cg, rfl, xa⟩
            have XA := Lib.hid (X1.out.trans (HW9.out.ext.trans xa))
            clear xa HW9 HP HO HC2
            go_wp2_with (first
              | (go_at_call 11; refine (num14 _).mono ?_; rintro e w' ⟨rfl, rfl⟩)
              | (go_at_call 5; refine (live14 _).mono ?_; rintro e wb ⟨rfl, xb⟩; (have XB := Lib.hid (XA.out.trans xb)); clear xb XA))
            go_ret
            exact ⟨rfl, XB.out⟩
end Go.Proofs.YtbgcelfmelpbeaaDoor
