/- The disk: Image, New. -/
import Derived.Test.YtbgcelfmelpbeaaDoorDiskG
namespace Go.Proofs.YtbgcelfmelpbeaaDoor
open Go.RowKit
open Go.ChangeMaps (setBlock)
section methods
variable {K : Nat → Prop} {w w' : World} {s a m : Nat} {D : DM}
/-- an image: a new row of new rows -/
def Rows (w : World) (base : Nat) (v : Value) (n : Nat) (f : Nat → List UInt8) : Prop :=
  ∃ vs, w.ownsRow base 22 1 v n vs ∧ ∀ i, i < n → ∃ u, vs[i]? = some u ∧ w.ownsRow base 5 1 u (f i).length ((f i).map vB)
theorem disk_Image_nil (w : World) : Calls Tryd.prog 17 #[.pointer none] w fun e w' => e = .returned (.slice none 0 0) ∧ w = w' := by
  go_enter Tryd.func17, Tryd.ntmps17
  go_wp2_with (go_at_call 30; refine (is_nil _).mono ?_; rintro e w' ⟨rfl, rfl⟩)
  go_ret
  exact ⟨rfl, rfl⟩
set_option maxHeartbeats 1000000 in
theorem disk_Image (h : DiskRep K w s a m D) : Calls Tryd.prog 17 #[.pointer (some ⟨s, 0, none⟩)] w fun e w' => ∃ v, e = .returned v ∧ Rows w' w.heap.size v D.n D.safe ∧ Ext w w' := by
  obtain ⟨cap, c0, c1, -, -, -, -⟩ := h.cells
  have n2 := h.n2
  have HD := Lib.hid h
  clear h
  go_enter Tryd.func17, Tryd.ntmps17
  go_wp2_with (first
    | (go_at_call 30; refine (is_yes _ s m c1).mono ?_; rintro e w' ⟨rfl, rfl⟩))
  go_loopw [3, 14] (fun lv c wr => ∃ k : Nat, k ≤ D.n ∧ c = vI k ∧ Rows wr w.heap.size lv k D.safe ∧ Ext w wr) (fun _ c _ => D.n - (RowKit.intOf c).toNat)
  case atStart => exact ⟨0, Nat.zero_le _, rfl, ⟨[], World.ownsRow_nil _ _ _ _, fun i hi => by omega⟩, Only.refl _ _⟩
  case round =>
    obtain ⟨k, hk, rfl, hr, hx⟩ := hrel
    by_cases hlt : k < D.n
    · obtain ⟨capr, arr, l, g1, g2, g3, g4, -⟩ := (HD.out.ext hx).mem
      obtain ⟨u, hu, hsv⟩ := g4 k hlt
      have ca : wr.cell? ⟨a, k, none⟩ = some u := blk_cell g2 hu
      have hcl := clone_any hsv.1 (by rw [hsv.2.1]; omega)
      have hlen := hsv.2.1
      have HX := Lib.hid hx
      obtain ⟨vs, hvs, hall⟩ := hr
      have HV := Lib.hid hvs
      have HA := Lib.hid hall
      have HC := Lib.hid hcl
      obtain ⟨A0, c0', rfl, -, hvl⟩ := owns_len hvs
      have HVL := Lib.hid hvl
      clear g1 g2 g3 g4 hsv hx hu hvs hall hcl hvl
      go_wp2_with (first
        | (go_at_call 24; refine HC.out.mono ?_; rintro e w1 ⟨v', rfl, ho, hx⟩; (obtain ⟨A1, c1', rfl, -, -⟩ := owns_len ho); (have HO := Lib.hid ho); (have HX1 := Lib.hid hx); clear ho hx)
        | (at_builtin; go_loud (refine wpList_append_sl Tryd.underlying48 info_sl rfl rfl _ _ rfl rfl rfl rfl (by exact ((owns_only HV.out HX1.out (fun _ _ h => h)).alloc _)) (by exact Sl.one get_alloc) (by simp [Value.oneCell']) (by simp [maxLen]; omega) (by simp; omega) (by have := HX.out.size; have := HX1.out.size; simp; omega) ?_); intro v2 w2 hown2 hg2; (have HOW := Lib.hid hown2); (have HG := Lib.hid hg2); clear hown2 hg2))
      go_roundw
      case rel =>
        refine ⟨k + 1, by omega, by go_num, ⟨_, HOW.out, fun i hi => ?_⟩, ?_⟩
        · have o2 := fun {u : Value} {n : Nat} {xs : List Value} {base : Nat} (h : w1.ownsRow base 5 1 u n xs) =>
            (h.alloc (.cells #[.slice A1 256 c1'] 22)).kept HG.out (by
              have hz := (owns_only HV.out HX1.out (fun _ _ h => h)).alloc (.cells #[.slice A1 256 c1'] 22)
              exact owns_apart (h.alloc _) hz (by decide))
          by_cases hik : i < k
          · obtain ⟨u, hu, hou⟩ := HA.out i hik
            exact ⟨u, by rw [List.getElem?_append_left (by rw [HVL.out]; exact hik)]; exact hu, o2 (owns_only hou HX1.out (fun _ _ h => h))⟩
          · obtain rfl : i = k := by omega
            refine ⟨_, by rw [List.getElem?_append_right (by rw [HVL.out]; omega), HVL.out, Nat.sub_self]; rfl, ?_⟩
            have := o2 (owns_base HO.out HX.out.size)
            rw [hlen] at this ⊢
            exact this
        · refine ((HX.out.trans HX1.out).alloc _).grown HG.out (fun q hq => .inr ?_)
          have := (HV.out.lt q hq).1
          exact this
      case measure => simp [RowKit.intOf]; omega
    · obtain rfl : k = D.n := by omega
      obtain ⟨vs, hvs, hall⟩ := hr
      obtain ⟨A0, c0', rfl, -, -⟩ := owns_len hvs
      go_wp2
      go_ret
      exact ⟨_, rfl, ⟨vs, hvs, hall⟩, hx⟩
end methods
end Go.Proofs.YtbgcelfmelpbeaaDoor
