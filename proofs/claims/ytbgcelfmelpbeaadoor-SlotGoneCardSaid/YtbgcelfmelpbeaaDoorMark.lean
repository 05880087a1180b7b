/- The mark of layer 4: contracts. -/
import Derived.Test.YtbgcelfmelpbeaaDoorGauss
namespace Go.Proofs.YtbgcelfmelpbeaaDoor
open Go.RowKit
def markStep (z : Int × Int) (c : UInt8) : Int × Int := gAdd (gMul z (4, 1)) (gOf ((c.toNat : Int) + 1) 0)
def markOf (bs : List UInt8) : Int × Int := bs.foldl markStep (gOf 0 0)
theorem gAdd_ok (x y : Int × Int) : GOk (gAdd x y) := gOf_ok _ _
theorem gMul_ok (x y : Int × Int) : GOk (gMul x y) := gOf_ok _ _
theorem foldl_ok (bs : List UInt8) : ∀ z, GOk z → GOk (bs.foldl markStep z) := by
  induction bs with
  | nil => exact fun z h => h
  | cons c bs ih => exact fun z _ => ih _ (gAdd_ok _ _)
theorem markOf_ok (bs : List UInt8) : GOk (markOf bs) := foldl_ok bs _ (gOf_ok _ _)
set_option maxHeartbeats 1000000 in
theorem mark_Of {w : World} {p : Nat} {v : Value} {bs : List UInt8} (hc : w.cell? ⟨p, 0, none⟩ = some v) (hv : Sl w 5 v (bs.map vB)) (hl : bs.length ≤ 1000000000) :
    Calls Tryd.prog 48 #[.slice (some ⟨p, 0, none⟩) 1 1] w fun e w' => e = .returned (vC (markOf bs)) ∧ w = w' := by
  obtain ⟨A, c, rfl, -, hr, -⟩ := hv
  rw [List.length_map] at *
  have HR := Lib.hid hr
  clear hr
  go_enter Tryd.func48, Tryd.ntmps48
  go_wp2_with (first | (go_at_call 56; refine (gauss_Of _ _ _).mono ?_; rintro e w' ⟨rfl, rfl⟩) | (go_at_call 57; refine (mark_Base _).mono ?_; rintro e w' ⟨rfl, rfl⟩))
  go_loopw [3, 13] (fun z i wr => ∃ k : Nat, k ≤ 1 ∧ i = vI k ∧ z = vC (if k = 0 then gOf 0 0 else markOf bs) ∧ Hid (wr = w)) (fun _ i _ => 1 - (RowKit.intOf i).toNat)
  case atStart => exact ⟨0, by omega, rfl, rfl, rfl⟩
  case round =>
    obtain ⟨k, hk, rfl, rfl, hw⟩ := hrel
    obtain rfl := hw.out
    clear hw
    by_cases hk0 : k = 0
    · subst hk0
      rw [if_pos rfl, show ((0 : Nat) : Int) = 0 from rfl]
      go_wp2
      go_loopw [3, 19] (fun z j w2 => ∃ n : Nat, n ≤ bs.length ∧ j = vI n ∧ z = vC ((bs.take n).foldl markStep (gOf 0 0)) ∧ Hid (w2 = wr)) (fun _ j _ => bs.length - (RowKit.intOf j).toNat)
      case atStart => exact ⟨0, by omega, rfl, rfl, rfl⟩
      case round =>
        obtain ⟨n, hn, rfl, rfl, hw⟩ := hrel
        obtain rfl := hw.out
        clear hw
        by_cases hlt : n < bs.length
        · obtain ⟨b, o, rfl, hb⟩ := HR.out.cell (j := n) (by simpa using hlt)
          rw [List.getElem_map] at hb
          have hst : (bs.take (n + 1)).foldl markStep (gOf 0 0) = markStep ((bs.take n).foldl markStep (gOf 0 0)) bs[n] := by
            rw [List.take_succ_eq_append_getElem hlt, List.foldl_append]; rfl
          have hz := foldl_ok (bs.take n) _ (gOf_ok 0 0)
          have hcb := UInt8.toNat_lt bs[n]
          generalize (bs.take n).foldl markStep (gOf 0 0) = z at *
          generalize bs[n] = ch at *
          have HS := Lib.hid hst
          have HZ := Lib.hid hz
          clear hst hz
          go_wp2_with (first
            | (go_at_call 59; refine (gauss_Mul _ z (4, 1) HZ.out ⟨⟨by decide, by decide⟩, ⟨by decide, by decide⟩⟩).mono ?_; rintro e w' ⟨rfl, rfl⟩)
            | (go_at_call 56; refine (gauss_Of _ _ _).mono ?_; rintro e w' ⟨rfl, rfl⟩)
            | (go_at_call 58; refine (gauss_Add _ _ _ (gMul_ok _ _) (gOf_ok _ _)).mono ?_; rintro e w' ⟨rfl, rfl⟩))
          go_roundw
          case rel => exact ⟨n + 1, by omega, by go_num, by rw [HS.out]; rfl, trivial⟩
          case measure => simp [RowKit.intOf]; omega
        · obtain rfl : n = bs.length := by omega
          rw [List.take_length]
          go_wp2
          go_roundw
          case rel => exact ⟨1, by omega, by go_num, rfl, trivial⟩
          case measure => simp [RowKit.intOf]
    · obtain rfl : k = 1 := by omega
      rw [if_neg (by omega)]
      go_wp2
      go_ret
      exact ⟨rfl, rfl⟩
end Go.Proofs.YtbgcelfmelpbeaaDoor
