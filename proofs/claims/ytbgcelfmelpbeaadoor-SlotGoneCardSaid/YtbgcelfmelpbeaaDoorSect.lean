/- Sealed sectors of layer 9: contracts. -/
import Derived.Test.YtbgcelfmelpbeaaDoorDiskI
import Derived.Test.YtbgcelfmelpbeaaDoorTrim
import Derived.Laws.CopyOwn
namespace Go.Proofs.YtbgcelfmelpbeaaDoor
open Go.RowKit
set_option linter.unusedSimpArgs false
set_option maxRecDepth 20000 in
theorem sect_Zero (w : World) : Calls Tryd.prog 28 #[] w fun e w' => e = .returned (.slice (some ⟨w.heap.size, 0, none⟩) 256 256) ∧ w' = w.alloc (.cells (zrow (.int .u8 0) 256) 5) := by
  have hmk : ∀ W : World, (Instr.makeSlice 22 (.int .i64 256) (.int .i64 256)).run Tryd.prog W = .ok (.slice (some ⟨W.heap.size, 0, none⟩) 256 256) (W.alloc (.cells (zrow (.int .u8 0) 256) 5)) := fun W => run_make_z Tryd.underlying22 info_u8 rfl .i64 .i64 256 (by omega) (by omega) W
  go_enter Tryd.func28, Tryd.ntmps28
  go_wp2
  go_ret
  exact ⟨rfl, rfl⟩
theorem zero_owns (w : World) : (w.alloc (.cells (zrow (.int .u8 0) 256) 5)).ownsRow w.heap.size 5 1 (.slice (some ⟨w.heap.size, 0, none⟩) 256 256) 256 ((zeros 256).map vB) := by
  rw [zeros_map]
  exact owns_zrow (Nat.le_refl _) (by simp [maxLen])
set_option maxRecDepth 20000 in
theorem sect_Empty {w : World} {v : Value} {bs : List UInt8} (hv : Sl w 5 v (bs.map vB)) :
    Calls Tryd.prog 21 #[v] w fun e w' => e = .returned (.bool (decide (bs = zeros 256))) ∧ Ext w w' := by
  have hx : Ext w (w.alloc (.cells (zrow (.int .u8 0) 256) 5)) := (Only.refl _ w).alloc _
  have he := bytes_Equal (hv.ext hx) (Sl.of_owns (zero_owns w))
  obtain ⟨A, c, rfl, -⟩ := hv
  rw [List.length_map] at *
  have HX := Lib.hid hx
  clear hx
  go_enter Tryd.func21, Tryd.ntmps21
  go_wp2_with (first
    | (go_at_call 28; refine (sect_Zero _).mono ?_; rintro e w' ⟨rfl, rfl⟩)
    | (go_at_call 35; refine he.mono ?_; rintro e w' ⟨rfl, rfl⟩))
  go_ret
  exact ⟨rfl, HX.out⟩
/-- a sealed sector's first 252 bytes, and all of it -/
def sectHead (k : Nat) (bs : List UInt8) : List UInt8 := [UInt8.ofNat k, UInt8.ofNat (bs.length / 256), UInt8.ofNat bs.length] ++ bs ++ zeros (249 - bs.length)
def sectOf (k : Nat) (bs : List UInt8) : List UInt8 := sectHead k bs ++ markBytes (sectHead k bs)
theorem sectHead_len {k : Nat} {bs : List UInt8} (h : bs.length ≤ 249) : (sectHead k bs).length = 252 := by
  unfold sectHead
  simp [zeros_len]
  omega
theorem sect_Put_long (w : World) (k : Nat) (hk : 1 ≤ k ∧ k ≤ 255) (A : Option Addr) (n c : Nat) (hn : 249 < n) : Calls Tryd.prog 26 #[vI k, .slice A n c] w fun e w' => e = .returned (.tuple #[.slice none 0 0, vI 3]) ∧ w = w' := by
  have h1 : ¬ (k : Int) < 1 := by omega
  have h2 : ¬ (255 : Int) < k := by omega
  have h3 : (249 : Int) < n := by omega
  go_enter Tryd.func26, Tryd.ntmps26
  go_wp2
  go_ret2
  exact ⟨rfl, rfl⟩
theorem row_start (z a b c : Value) : (((zrow z 256).setIfInBounds 0 a).setIfInBounds 1 b).setIfInBounds 2 c = ([a, b, c] ++ List.replicate 253 z).toArray := by
  have e : List.replicate 256 z = z :: z :: z :: List.replicate 253 z := rfl
  unfold zrow
  generalize List.replicate 253 z = R at *
  rw [e]
  simp
theorem splice_start (z a b c : Value) (cs : List Value) : splice ([a, b, c] ++ List.replicate 253 z) 3 cs = [a, b, c] ++ (cs ++ List.replicate (253 - cs.length) z) := by
  unfold splice
  have e : ([a, b, c] ++ List.replicate 253 z).drop (3 + cs.length) = List.replicate (253 - cs.length) z := by
    rw [Nat.add_comm, ← List.drop_replicate]
    generalize List.replicate 253 z = R
    rfl
  rw [e]
  generalize List.replicate 253 z = R
  rfl
theorem vB_nat {n : Nat} (h : n < 256) : vB (UInt8.ofNat n) = .int .u8 (n : Int) := by
  show Value.int .u8 ((UInt8.ofNat n).toNat : Int) = _
  rw [UInt8.toNat_ofNat_of_lt' h]
theorem row_take {k : Nat} {bs : List UInt8} (hk : k < 256) (hl : bs.length ≤ 249) :
    ([.int .u8 (k : Int), .int .u8 ((bs.length : Int) / 256), .int .u8 (bs.length : Int)] ++ (bs.map vB ++ List.replicate (253 - bs.length) (.int .u8 0)) : List Value) = (sectHead k bs).map vB ++ List.replicate 4 (.int .u8 0) := by
  unfold sectHead
  have e1 : (Value.int .u8 ((bs.length : Int) / 256)) = vB (UInt8.ofNat (bs.length / 256)) := by rw [vB_nat (by omega)]; congr 1
  rw [e1, ← vB_nat hk, ← vB_nat (show bs.length < 256 by omega), List.map_append, List.map_append, zeros_map, List.append_assoc, List.append_assoc, List.replicate_append_replicate, show 249 - bs.length + 4 = 253 - bs.length by omega]
  rfl
set_option maxHeartbeats 1000000 in
set_option maxRecDepth 100000 in
theorem sect_Put {w : World} {e0 : TypeId} (k : Nat) (hk : 1 ≤ k ∧ k ≤ 255) {v : Value} {bs : List UInt8} (hv : Sl w e0 v (bs.map vB)) (hl : bs.length ≤ 249) :
    Calls Tryd.prog 26 #[vI k, v] w fun e w' => ∃ v', e = .returned (.tuple #[v', vI 0]) ∧ w'.ownsRow w.heap.size 5 1 v' 256 ((sectOf k bs).map vB) ∧ Ext w w' := by
  have h1 : ¬ (k : Int) < 1 := by omega
  have h2 : ¬ (255 : Int) < k := by omega
  have h3 : ¬ (249 : Int) < bs.length := by omega
  have HV := Lib.hid hv
  obtain ⟨A, c, rfl, -⟩ := hv
  rw [List.length_map] at *
  obtain ⟨Xs, hXs⟩ : ∃ Xs, Xs = bs.map vB := ⟨_, rfl⟩
  have HXs := Lib.hid hXs
  have hXl : Xs.length = bs.length := by rw [hXs, List.length_map]
  have hX1 : ∀ v ∈ Xs, v.oneCell' = true := by rw [hXs]; exact oneCell_map _ (fun _ => rfl) _
  obtain ⟨L0, hL0⟩ : ∃ L0 : List Value, L0 = [.int .u8 (k : Int), .int .u8 ((bs.length : Int) / 256), .int .u8 (bs.length : Int)] ++ List.replicate 253 (.int .u8 0) := ⟨_, rfl⟩
  have HL0 := Lib.hid hL0
  have hL0l : L0.length = 256 := by rw [hL0]; simp
  have hsz : (Tryd.prog.info? 5).map (·.size) = some 1 := by kernel_rfl
  clear hXs hL0
  go_enter Tryd.func26, Tryd.ntmps26
  go_wp2_with (first
    | (go_at_call 28; refine (sect_Zero _).mono ?_; rintro e w1 ⟨rfl, hw1⟩; (have hb := (show w1.heap[w.heap.size]? = some (.cells (zrow (.int .u8 0) 256) 5 (0, 0)) from hw1 ▸ get_alloc)); (have fb := blk_free hb); (have HW := Lib.hid (get_setCell (i := 2) (.int .u8 (bs.length : Int)) (get_setCell (i := 1) (.int .u8 ((bs.length : Int) / 256)) (get_setCell (i := 0) (.int .u8 (k : Int)) hb)))); rw [row_start, ← HL0.out] at HW; (have X1 := Lib.hid (show Ext w w1 from hw1 ▸ (Only.refl _ w).alloc _)); (have z0 := blk_cell (j := 0) hb rfl); (have z1 := blk_cell (j := 1) hb rfl); (have z2 := blk_cell (j := 2) hb rfl); (have f0 := fb 0); (have f1 := fb 1); (have f2 := fb 2); (have X2 := Lib.hid (((X1.out.setCell (p := ⟨w.heap.size, 0, none⟩) (.inr (Nat.le_refl _)) (.int .u8 (k : Int))).setCell (p := ⟨w.heap.size, 1, none⟩) (.inr (Nat.le_refl _)) (.int .u8 ((bs.length : Int) / 256))).setCell (p := ⟨w.heap.size, 2, none⟩) (.inr (Nat.le_refl _)) (.int .u8 (bs.length : Int)))); clear hb hw1 fb)
    | ((refine wpList_copy_splice rfl (.tmp 35) (.tmp 36) 22 22 rfl 5 Tryd.underlying22 hsz _ _ _ _ _ _ rfl rfl w.heap.size 3 L0 5 HW.out Xs (by rw [hXl]; simp [Nat.min_def]; omega) (fun hp => ⟨rfl, by
        obtain ⟨A', c', e1, -, hr, -⟩ := HV.out.ext X2.out
        injection e1 with e1 _ _
        subst e1
        obtain ⟨b', o', rfl⟩ := hr.some (by rw [← HXs.out]; exact hp)
        exact ⟨_, rfl, by rw [HXs.out]; exact hr.news rfl⟩⟩) (by rw [hXl, hL0l]; omega) hX1 w.heap.size w (X2.out.below (Nat.le_refl _) (fun _ h => h.elim)) (Nat.le_refl _) ?_; intro w2 HG2 hb2)))
  obtain ⟨R1, hR1⟩ : ∃ R1 : List Value, R1 = splice L0 3 Xs := ⟨_, rfl⟩
  rw [← hR1] at HG2
  have hR2 : R1 = (sectHead k bs).map vB ++ List.replicate 4 (.int .u8 0) := by
    rw [hR1, HL0.out, splice_start, hXl, HXs.out]
    exact row_take (by omega) hl
  have hR1l : R1.length = 256 := by rw [hR2]; simp [sectHead_len hl]
  have HR2 := Lib.hid hR2
  have x2 : Ext w w2 := Only.of_below hb2 _
  have hsl : Sl w2.drew 5 (.slice (some ⟨w.heap.size, 0, none⟩) 252 256) ((sectHead k bs).map vB) := by
    refine ⟨_, 256, by rw [List.length_map, sectHead_len hl], by rw [List.length_map, sectHead_len hl]; omega, .inr ⟨_, 0, R1.toArray, (0, 0), rfl, HG2.out, fun j hj => ?_⟩, fun h => by cases h⟩
    rw [Nat.zero_add, List.getElem?_toArray, hR2, List.getElem?_append_left hj]
  have hmp := mark_Put hsl (by rw [sectHead_len hl]; omega)
  have X2' := Lib.hid x2
  clear hR1 hR2 hsl x2 HL0 z0 z1 z2 f0 f1 f2 HW hX1 HXs
  refine wp_region_held_drew (S := fun _ => True) (by kernel_rfl) trivial (fun hHeld => ?_)
  first
  | (refine wpAnyH_take (i := 0) (v := undef) rfl (by kernel_rfl) (by kernel_rfl) (by kernel_rfl) (fun _ _ _ h => h) (Or.inr ⟨by rfl, rfl⟩) (by assumption) ?_)
  | (refine wpAnyH_take (i := 0) (v := ?_) rfl (by kernel_rfl) (by kernel_rfl) (by kernel_rfl) (fun _ _ _ h => h) (Or.inl ⟨by rfl, ?_⟩) (by assumption) ?_
     rotate_left
     · (intro w hSw; (try dsimp only at hSw); go_simp; try with_reducible rfl))
  try simp only [Act.put, List.setIfInBounds_toArray, List.set_cons_zero, List.set_cons_succ, List.getElem_toArray, List.getElem_cons_zero, List.getElem_cons_succ]
  first
  | (refine wpAnyH_take (i := 1) (v := undef) rfl (by kernel_rfl) (by kernel_rfl) (by kernel_rfl) (fun _ _ _ h => h) (Or.inr ⟨by rfl, rfl⟩) (by assumption) ?_)
  | (refine wpAnyH_take (i := 1) (v := ?_) rfl (by kernel_rfl) (by kernel_rfl) (by kernel_rfl) (fun _ _ _ h => h) (Or.inl ⟨by rfl, ?_⟩) (by assumption) ?_
     rotate_left
     · (intro w hSw; (try dsimp only at hSw); go_simp; try with_reducible rfl))
  try simp only [Act.put, List.setIfInBounds_toArray, List.set_cons_zero, List.set_cons_succ, List.getElem_toArray, List.getElem_cons_zero, List.getElem_cons_succ]
  first
  | (refine wpAnyH_take (i := 2) (v := undef) rfl (by kernel_rfl) (by kernel_rfl) (by kernel_rfl) (fun _ _ _ h => h) (Or.inr ⟨by rfl, rfl⟩) (by assumption) ?_)
  | (refine wpAnyH_take (i := 2) (v := ?_) rfl (by kernel_rfl) (by kernel_rfl) (by kernel_rfl) (fun _ _ _ h => h) (Or.inl ⟨by rfl, ?_⟩) (by assumption) ?_
     rotate_left
     · (intro w hSw; (try dsimp only at hSw); go_simp; try with_reducible rfl))
  try simp only [Act.put, List.setIfInBounds_toArray, List.set_cons_zero, List.set_cons_succ, List.getElem_toArray, List.getElem_cons_zero, List.getElem_cons_succ]
  first
  | (refine wpAnyH_take (i := 3) (v := undef) rfl (by kernel_rfl) (by kernel_rfl) (by kernel_rfl) (fun _ _ _ h => h) (Or.inr ⟨by rfl, rfl⟩) (by assumption) ?_)
  | (refine wpAnyH_take (i := 3) (v := ?_) rfl (by kernel_rfl) (by kernel_rfl) (by kernel_rfl) (fun _ _ _ h => h) (Or.inl ⟨by rfl, ?_⟩) (by assumption) ?_
     rotate_left
     · (intro w hSw; (try dsimp only at hSw); go_simp; try with_reducible rfl))
  try simp only [Act.put, List.setIfInBounds_toArray, List.set_cons_zero, List.set_cons_succ, List.getElem_toArray, List.getElem_cons_zero, List.getElem_cons_succ]
  refine wpAnyH_ready (rs := [4]) (by kernel_rfl) (by simp) ?_
  refine AllReadyH.cons rfl (fun K hK => ?_) AllReadyH.nil
  rw [if_pos (by rfl)]
  simp only [List.getElem_toArray, List.getElem_cons_zero, List.getElem_cons_succ]
  go_simp
  refine hmp.mono ?_
  rintro e w3 ⟨v3, rfl, o3, x3⟩
  obtain ⟨g2, c2, cur2, rfl, hg2, hb3, hc3⟩ := owns_block o3 (by omega)
  have x03 : Ext w w3 := (X2'.out.drew).trans x3
  have hg3 : w3.heap[w.heap.size]? = some (.cells R1.toArray 5 (0, 0)) := x3.get (w := w2.drew) HG2.out id
  refine hK.out _ _ trivial (fun hHeld => ?_)
  clear hK K
  try simp only [Act.put, List.setIfInBounds_toArray, List.set_cons_zero, List.set_cons_succ, List.getElem_toArray, List.getElem_cons_zero, List.getElem_cons_succ]
  obtain ⟨Ms, hMs⟩ : ∃ Ms, Ms = (markBytes (sectHead k bs)).map vB := ⟨_, rfl⟩
  have hMl : Ms.length = 4 := by rw [hMs]; rfl
  rw [← hMs] at hc3
  refine wpAnyH_ready (rs := [5]) (by kernel_rfl) (by simp) ?_
  refine AllReadyH.cons rfl (fun K hK => ?_) AllReadyH.nil
  refine step_copy_splice rfl (.tmp 39) (.tmp 42) 22 22 rfl 5 Tryd.underlying22 hsz _ _ _ _ _ _ rfl rfl w.heap.size 252 R1 5 hg3 Ms (by rw [hMl]; rfl) (fun _ => ⟨rfl, _, rfl, ?src⟩) (by rw [hMl, hR1l]; omega) (by rw [hMs]; exact oneCell_map _ (fun _ => rfl) _) w.heap.size w (x03.below (Nat.le_refl _) (fun _ h => h.elim)) (Nat.le_refl _) ?_
  case src =>
    intro j u hu
    rw [Addr.add_lit, Nat.zero_add]
    have hj : j < 4 := by have := (List.getElem?_eq_some_iff.1 hu).1; omega
    exact blk_cell hb3 (by rw [hc3 j hj]; exact hu)
  intro w4 HG4 hb4
  refine hK.out _ _ trivial (fun hHeld => ?_)
  clear hK K
  try simp only [Act.put, List.setIfInBounds_toArray, List.set_cons_zero, List.set_cons_succ, List.getElem_toArray, List.getElem_cons_zero, List.getElem_cons_succ]
  refine wpAnyH_done (by kernel_rfl) ?_ _
  go_wp2
  go_ret2
  refine ⟨_, rfl, ⟨by rw [List.length_map]; simp [sectOf, sectHead_len hl, markBytes], .inr ⟨w.heap.size, 256, _, rfl, Nat.le_refl _, HG4.out, Nat.le_refl _, by simp [maxLen], ?_, ?_⟩⟩, Only.of_below hb4 _⟩
  · have := length_splice R1 252 Ms (by rw [hMl, hR1l]; omega)
    simp [this, hR1l]
  · have hsp : splice R1 252 Ms = (sectOf k bs).map vB := by
      unfold splice
      rw [hMl, List.drop_of_length_le (by rw [hR1l]; decide), HR2.out, List.take_left' (by rw [List.length_map, sectHead_len hl]), hMs, List.append_nil, ← List.map_append]
      rfl
    rw [hsp, List.take_of_length_le (by simp [sectOf, sectHead_len hl, markBytes])]
end Go.Proofs.YtbgcelfmelpbeaaDoor
