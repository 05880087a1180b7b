/- The disk: New. -/
import Derived.Test.YtbgcelfmelpbeaaDoorDiskH
namespace Go.Proofs.YtbgcelfmelpbeaaDoor
open Go.RowKit
open Go.ChangeMaps (setBlock)
section methods
variable {K : Nat → Prop} {w w' : World} {s a m : Nat} {D : DM}
def zeros (n : Nat) : List UInt8 := List.replicate n 0
theorem zeros_len (n : Nat) : (zeros n).length = n := List.length_replicate
theorem zeros_map (n : Nat) : (zeros n).map vB = List.replicate n (.int .u8 0) := List.map_replicate
/-- a disk as it is made -/
def DM.new (n : Nat) : DM := { n := n, safe := fun _ => zeros 256, last := fun _ => [], pend := fun _ => false, fuse := -1, acts := 0, dead := false }
theorem disk_New_no (w : World) (n : Int) (h : n < 1 ∨ 1024 < n) : Calls Tryd.prog 9 #[vI n] w fun e w' => e = .returned (.tuple #[.pointer none, vI 1]) ∧ w = w' := by
  rcases h with h | h
  · go_enter Tryd.func9, Tryd.ntmps9
    go_wp2
    go_ret2
    exact ⟨rfl, rfl⟩
  · have h1 : ¬ n < 1 := by omega
    go_enter Tryd.func9, Tryd.ntmps9
    go_wp2
    go_ret2
    exact ⟨rfl, rfl⟩
/-- a disk that is being made -/
structure Making (w0 : World) (s m : Nat) (k : Nat) (w : World) : Prop where
  it : ∃ sv vs, w.heap[s]? = some (.cells #[sv, .map (some m), vI (-1), vI 0, .bool false] 61 (0, 0)) ∧ w.heap[m]? = some (.map #[] 0) ∧ w.ownsRow w0.heap.size 22 1 sv k vs ∧
    ∀ i, i < k → ∃ u, vs[i]? = some u ∧ w.ownsRow w0.heap.size 5 1 u 256 ((zeros 256).map vB)
  ext : Ext w0 w
set_option maxHeartbeats 1000000 in
theorem disk_New (w : World) (hK : ∀ k, K k → k < w.heap.size) (n : Nat) (h1 : 1 ≤ n) (h2 : n ≤ 1024) : Calls Tryd.prog 9 #[vI n] w fun e w' => ∃ s a m, e = .returned (.tuple #[.pointer (some ⟨s, 0, none⟩), vI 0]) ∧
    DiskRep K w' s a m (DM.new n) ∧ Ext w w' ∧ w.heap.size ≤ s ∧ w.heap.size ≤ a ∧ w.heap.size ≤ m := by
  have g1 : ¬ (n : Int) < 1 := by omega
  have g2 : ¬ 1024 < (n : Int) := by omega
  have hmm := @run_makeMap Tryd.prog
  have hmk : ∀ W : World, (Instr.makeSlice 22 (.int .i64 256) (.int .i64 256)).run Tryd.prog W = .ok (.slice (some ⟨W.heap.size, 0, none⟩) 256 256) (W.alloc (.cells (zrow (.int .u8 0) 256) 5)) := fun W => run_make_z Tryd.underlying22 info_u8 rfl .i64 .i64 256 (by omega) (by omega) W
  have HK := Lib.hid hK
  clear hK
  go_enter Tryd.func9, Tryd.ntmps9
  go_wp2
  go_loopw [15] (fun c wr => ∃ k : Nat, k ≤ n ∧ c = vI k ∧ Making w (w.heap.size + 1) w.heap.size k wr) (fun c _ => n - (RowKit.intOf c).toNat)
  case atStart =>
    refine ⟨0, Nat.zero_le _, rfl, ⟨⟨.slice none 0 0, [], ?_, ?_, World.ownsRow_nil _ _ _ _, fun i hi => by omega⟩, ?_⟩⟩
    · exact heap_alloc2_new _ _ _
    · exact heap_alloc2_old _ _ _
    · exact ((Only.refl _ w).alloc _).alloc _
  case round =>
    obtain ⟨k, hk, rfl, ⟨⟨sv, vs, hs, hm, hown, hall⟩, hx⟩⟩ := hrel
    by_cases hlt : k < n
    · have c0 : wr.cell? ⟨w.heap.size + 1, 0, none⟩ = some sv := blk_cell hs rfl
      have f0 : wr.frozen? ⟨w.heap.size + 1, 0, none⟩ = false := blk_free hs 0
      have hlt2 := lt_of_get hs
      obtain ⟨A0, c0', rfl, -, hvl⟩ := owns_len hown
      have HS := Lib.hid hs
      have HM := Lib.hid hm
      have HO := Lib.hid hown
      have HA := Lib.hid hall
      have HX := Lib.hid hx
      have HVL := Lib.hid hvl
      clear hs hm hown hall hx hvl
      have hc1 : (wr.alloc (.cells (zrow (.int .u8 0) 256) 5)).cell? ⟨w.heap.size + 1, 0, none⟩ = some (.slice A0 k c0') := ((Only.refl (fun _ => False) wr).alloc _).cell c0 id
      have hc2 : ((wr.alloc (.cells (zrow (.int .u8 0) 256) 5)).alloc (.cells #[.slice (some ⟨wr.heap.size, 0, none⟩) 256 256] 22)).cell? ⟨w.heap.size + 1, 0, none⟩ = some (.slice A0 k c0') := (((Only.refl (fun _ => False) wr).alloc _).alloc _).cell c0 id
      have hns : some (w.heap.size + 1) ≠ (Value.slice A0 k c0').ownBlock := owns_ne HO.out HS.out (by intro c f h; injection h with _ h _; exact absurd h (by decide))
      have hnm : some w.heap.size ≠ (Value.slice A0 k c0').ownBlock := owns_ne HO.out HM.out (by intro c f h; cases h)
      have HNS := Lib.hid hns
      have HNM := Lib.hid hnm
      clear hns hnm
      go_wp2
      go_region_law (first
        | (refine step_append_sl Tryd.underlying48 info_sl rfl rfl _ _ rfl rfl rfl rfl (by exact ((HO.out.alloc _).alloc _)) (by exact Sl.one2 _ _ _ _) (by simp [Value.oneCell']) (by simp [maxLen]; omega) (by simp; omega) (by have := HX.out.size; simp; omega) ?_; intro v2 w2 hown2 hg2; (obtain ⟨A2, c2, rfl, -, -⟩ := owns_len hown2); (have HOW := Lib.hid hown2); (have HG := Lib.hid hg2); clear hown2 hg2; (have hb2 : w2.heap[w.heap.size + 1]? = some (.cells #[.slice A0 k c0', .map (some w.heap.size), vI (-1), vI 0, .bool false] 61 (0, 0)) := (HG.out.block _ (lt_of_get (get_alloc_old (get_alloc_old HS.out))) HNS.out).trans (get_alloc_old (get_alloc_old HS.out))); (have k0 : w2.cell? ⟨w.heap.size + 1, 0, none⟩ = some (.slice A0 k c0') := blk_cell hb2 rfl); (have f2 : w2.frozen? ⟨w.heap.size + 1, 0, none⟩ = false := blk_free hb2 0); (have HB2 := Lib.hid hb2); clear hb2))
      all_goals
        go_wp2
        go_roundw
        case rel =>
          have hm2 : w2.heap[w.heap.size]? = some (.map #[] 0) := (HG.out.block _ (lt_of_get (get_alloc_old (get_alloc_old HM.out))) HNM.out).trans (get_alloc_old (get_alloc_old HM.out))
          have hx2 : Ext w w2 := (((HX.out.alloc _).alloc _).drew).grown HG.out (fun q hq => .inr (HO.out.lt q hq).1)
          have hx3 : Only (· = w.heap.size + 1) w2 (w2.setCell ⟨w.heap.size + 1, 0, none⟩ (.slice A2 (k + 1) c2)) := (Only.refl _ w2).setCell (by exact Or.inl rfl) _
          have hk1 : k + [Value.slice (some ⟨wr.heap.size, 0, none⟩) 256 256].length = k + 1 := rfl
          refine ⟨k + 1, by omega, by go_num, ⟨⟨_, _, get_setCell _ HB2.out, hx3.get hm2 (by omega), owns_only HOW.out hx3 ?_, fun i hi => ?_⟩, ?_⟩⟩
          · rintro q hq rfl
            exact owns_ne HOW.out HB2.out (by intro c f h; injection h with _ h _; exact absurd h (by decide)) hq.symm
          · have o2 := fun {u : Value} {n : Nat} {xs : List Value} {base : Nat} (h : ((wr.alloc (.cells (zrow (.int .u8 0) 256) 5)).alloc (.cells #[.slice (some ⟨wr.heap.size, 0, none⟩) 256 256] 22)).ownsRow base 5 1 u n xs) => by
              have hz := (HO.out.alloc (.cells (zrow (.int .u8 0) 256) 5)).alloc (.cells #[.slice (some ⟨wr.heap.size, 0, none⟩) 256 256] 22)
              have h3 : w2.ownsRow base 5 1 u n xs := World.ownsRow.kept (w := ((wr.alloc (.cells (zrow (.int .u8 0) 256) 5)).alloc (.cells #[.slice (some ⟨wr.heap.size, 0, none⟩) 256 256] 22)).drew) h HG.out (owns_apart h hz (by decide))
              exact owns_only h3 hx3 (by rintro q hq rfl; exact owns_ne h3 HB2.out (by intro c f h; injection h with _ h _; exact absurd h (by decide)) hq.symm)
            by_cases hik : i < k
            · obtain ⟨u, hu, hou⟩ := HA.out i hik
              exact ⟨u, by rw [List.getElem?_append_left (by rw [HVL.out]; exact hik)]; exact hu, o2 ((hou.alloc _).alloc _)⟩
            · obtain rfl : i = k := by omega
              refine ⟨_, by rw [List.getElem?_append_right (by rw [HVL.out]; omega), HVL.out, Nat.sub_self]; rfl, ?_⟩
              have hz := owns_zrow (w := wr) (base := w.heap.size) (e := 5) (z := .int .u8 0) (c := 256) HX.out.size (by simp [maxLen])
              have := o2 (hz.alloc _)
              rw [zeros_map]
              exact this
          · exact hx2.andThen hx3 (fun q hq => .inr (by omega))
        case measure => simp [RowKit.intOf]; omega
    · obtain rfl : k = n := by omega
      go_wp2
      go_ret2
      rcases hown.2 with ⟨rfl, h0⟩ | ⟨g, cap, cur, rfl, hbg, hg, hnc, hcm, hcs, htake⟩
      · omega
      · refine ⟨_, g, _, rfl, ⟨h1, h2, by simp [DM.new], by simp [DM.new], cap, cur, [], hs, hg, hnc, fun i hi => ?_, ⟨#[], 0, hm, by simp⟩, by simp, fun i hi hp => by simp [DM.new] at hp⟩, hx, by omega, hbg, Nat.le_refl _⟩
        obtain ⟨u, hu, hou⟩ := hall i hi
        refine ⟨u, ?_, SecV.of_owns (base := w.heap.size) (bs := zeros 256) (by rw [zeros_len]; exact hou) (zeros_len _) HK.out⟩
        rw [← htake, Nat.mul_one, List.getElem?_take_of_lt (show i < k from hi), Array.getElem?_toList] at hu
        exact hu
end methods
section
variable {K K' : Nat → Prop} {w : World} {s a m : Nat} {D : DM}
theorem DiskRep.weaken (h : DiskRep K w s a m D) (hK : ∀ k, K' k → K k) : DiskRep K' w s a m D := by
  obtain ⟨n1, n2, f1, f2, cap, arr, l, g1, g2, g3, g4, g5, g6, g7⟩ := h
  refine ⟨n1, n2, f1, f2, cap, arr, l, g1, g2, g3, fun i hi => ?_, g5, fun p hp => ?_, g7⟩
  · obtain ⟨v, hv, h1, h2, h3⟩ := g4 i hi
    exact ⟨v, hv, h1, h2, fun k hk hK' => h3 k hk (hK k hK')⟩
  · obtain ⟨i, e1, e2, e3, h1, h2, h3⟩ := g6 p hp
    exact ⟨i, e1, e2, e3, h1, h2, fun k hk hK' => h3 k hk (hK k hK')⟩
theorem SecV.fresh {v : Value} {bs : List UInt8} (h : SecV K w v bs) : SecV (fun k => w.heap.size ≤ k) w v bs := by
  obtain ⟨⟨A, c, hv, hc, hr, hn⟩, h2, h3⟩ := h
  refine ⟨⟨A, c, hv, hc, hr, hn⟩, h2, fun k hk hK => ?_⟩
  rcases hr with hr | ⟨b, off, arr, fz, rfl, hb, _⟩
  · have : bs = [] := List.map_eq_nil_iff.1 hr
    rw [this] at h2; simp at h2
  · rw [hv] at hk
    simp only [Value.ownBlock, Option.some.injEq] at hk
    have := lt_of_get hb
    omega
/-- what is not there yet is no sector's -/
theorem DiskRep.fresh (h : DiskRep K w s a m D) : DiskRep (fun k => w.heap.size ≤ k) w s a m D := by
  obtain ⟨n1, n2, f1, f2, cap, arr, l, g1, g2, g3, g4, g5, g6, g7⟩ := h
  refine ⟨n1, n2, f1, f2, cap, arr, l, g1, g2, g3, fun i hi => ?_, g5, fun p hp => ?_, g7⟩
  · obtain ⟨v, hv, hs⟩ := g4 i hi
    exact ⟨v, hv, hs.fresh⟩
  · obtain ⟨i, e1, e2, e3, hs⟩ := g6 p hp
    exact ⟨i, e1, e2, e3, hs.fresh⟩
end
/-- a row of n, n not 0, as a block -/
theorem owns_block {w : World} {base : Nat} {e : TypeId} {v : Value} {n : Nat} {xs : List Value} (h : w.ownsRow base e 1 v n xs) (hn : 0 < n) :
    ∃ g cap cur, v = .slice (some ⟨g, 0, none⟩) n cap ∧ base ≤ g ∧ w.heap[g]? = some (.cells cur e (0, 0)) ∧ ∀ j, j < n → cur[j]? = xs[j]? := by
  rcases h.2 with ⟨_, h0⟩ | ⟨g, cap, cur, hv, hb, hg, _, _, _, ht⟩
  · omega
  · refine ⟨g, cap, cur, hv, hb, hg, fun j hj => ?_⟩
    rw [← ht, List.getElem?_take_of_lt (by omega), Array.getElem?_toList]
end Go.Proofs.YtbgcelfmelpbeaaDoor
