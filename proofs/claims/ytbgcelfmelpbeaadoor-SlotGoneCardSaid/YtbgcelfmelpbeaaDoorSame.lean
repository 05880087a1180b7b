/- The references' Same: two texts of whatever bytes. -/
import Derived.Test.YtbgcelfmelpbeaaDoorDiskI
namespace Go.Proofs.YtbgcelfmelpbeaaDoor
open Go.RowKit
/-- two texts of whatever bytes: are they the same? -/
theorem same_any {w : World} {va vb : Value} {xs ys : List UInt8} (ha : Sl w 5 va (xs.map vB)) (hb : Sl w 5 vb (ys.map vB)) (hl : xs.length ≤ 1000000000) :
    Calls Tryd.prog 18 #[va, vb] w fun e w' => e = .returned (.bool (decide (xs = ys))) ∧ Ext w w' := by
  obtain ⟨A, c, rfl, -, ra, -⟩ := ha
  obtain ⟨B, d, rfl, -, rb, -⟩ := hb
  rw [List.length_map, List.length_map]
  by_cases hlen : xs.length = ys.length
  · have b1 : ((xs.length : Int) != ys.length) = false := by simp [hlen]
    have HL := Lib.hid hlen
    have RA := Lib.hid ra
    have RB := Lib.hid rb
    clear hlen ra rb
    go_enter Tryd.func18, Tryd.ntmps18
    go_wp2
    go_loopw [5] (fun c wr => ∃ k : Nat, k ≤ xs.length ∧ c = vI k ∧ Ext w wr ∧ Hid (xs.take k = ys.take k)) (fun c _ => xs.length - (RowKit.intOf c).toNat)
    case atStart => exact ⟨0, Nat.zero_le _, rfl, Only.refl _ _, rfl⟩
    case round =>
      obtain ⟨k, hk, rfl, hx, HT⟩ := hrel
      by_cases hlt : k < xs.length
      · have hly : k < ys.length := by rw [← HL.out]; exact hlt
        obtain ⟨b1', o1, rfl, hc1⟩ := (RA.out.ext hx).cell (j := k) (by simpa using hlt)
        obtain ⟨b2', o2, rfl, hc2⟩ := (RB.out.ext hx).cell (j := k) (by simpa using hly)
        rw [List.getElem_map] at hc1 hc2
        have HX := Lib.hid hx
        clear hx
        by_cases he : xs[k] = ys[k]
        · have hb : (((xs[k].toNat : Int)) != (ys[k].toNat : Int)) = false := by simp [he]
          have HE := Lib.hid he
          clear he
          go_wp2
          go_quiet (fail)
          go_wp2
          go_roundw
          case rel =>
            refine ⟨k + 1, by omega, by go_num, HX.out.drewN _, ?_⟩
            rw [List.take_succ_eq_append_getElem hlt, List.take_succ_eq_append_getElem hly, HT.out, HE.out]
            exact rfl
          case measure => simp [RowKit.intOf]; omega
        · have hb : (((xs[k].toNat : Int)) != (ys[k].toNat : Int)) = true := by
            rw [bne_iff_ne]
            intro h
            exact he (UInt8.toNat_inj.1 (by omega))
          have hne : decide (xs = ys) = false := by
            rw [decide_eq_false_iff_not]
            rintro rfl
            exact he rfl
          have HN := Lib.hid hne
          clear he hne
          go_wp2
          go_quiet (fail)
          go_wp2
          go_ret
          exact ⟨by rw [HN.out]; rfl, HX.out.drewN _⟩
      · have hke : k = xs.length := by omega
        have heq : decide (xs = ys) = true := by
          rw [decide_eq_true_eq]
          have := HT.out
          rw [hke, List.take_length, HL.out, List.take_length] at this
          exact this
        have HE := Lib.hid heq
        clear heq hke
        go_wp2
        go_ret
        exact ⟨by rw [HE.out]; rfl, hx⟩
  · have b1 : ((xs.length : Int) != ys.length) = true := by rw [bne_iff_ne]; omega
    have hne : decide (xs = ys) = false := by
      rw [decide_eq_false_iff_not]
      rintro rfl
      exact hlen rfl
    rw [hne]
    clear hlen hne
    go_enter Tryd.func18, Tryd.ntmps18
    go_wp2
    go_ret
    exact ⟨rfl, Only.refl _ _⟩
end Go.Proofs.YtbgcelfmelpbeaaDoor
