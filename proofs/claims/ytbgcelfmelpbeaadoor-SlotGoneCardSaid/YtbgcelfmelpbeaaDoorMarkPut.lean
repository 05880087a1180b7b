/- The mark as bytes; bytes that are the same; bytes trimmed of zeros. -/
import Derived.Test.YtbgcelfmelpbeaaDoorMark
import Derived.Laws.IdiomStrings
import Derived.Lib.BufferRead
namespace Go.Proofs.YtbgcelfmelpbeaaDoor
open Go.RowKit
theorem conv_sl {w : World} {v : Value} {bs : List UInt8} (h : Sl w 5 v (bs.map vB)) : (convert 22 9 v).run Tryd.prog w = .ok (.string ⟨bs.toArray⟩) w := by
  obtain ⟨A, c, rfl, hc, hr, hA⟩ := h
  rw [List.length_map] at *
  cases A with
  | none =>
    have h0 := hA rfl
    obtain rfl : bs = [] := List.eq_nil_of_length_eq_zero (by omega)
    exact Lib.run_convert_nil_bytes w 22 9 5 c Tryd.underlying22 Tryd.underlying5 Tryd.underlying9
  | some a =>
    refine run_convert_bytes_back w 22 9 5 a c bs Tryd.underlying22 Tryd.underlying5 Tryd.underlying9 (fun j hj => ?_)
    exact hr.news rfl j _ (by rw [List.getElem?_map, List.getElem?_eq_getElem hj]; rfl)
set_option maxRecDepth 20000 in
theorem bytes_Equal {w : World} {va vb : Value} {xs ys : List UInt8} (ha : Sl w 5 va (xs.map vB)) (hb : Sl w 5 vb (ys.map vB)) :
    Calls Tryd.prog 35 #[va, vb] w fun e w' => e = .returned (.bool (decide (xs = ys))) ∧ w = w' := by
  have h1 := conv_sl ha
  have h2 := conv_sl hb
  obtain ⟨A, c, rfl, -⟩ := ha
  obtain ⟨B, d, rfl, -⟩ := hb
  rw [List.length_map] at h1 h2
  rw [List.length_map, List.length_map]
  have he : (xs == ys) = decide (xs = ys) := by rw [Bool.eq_iff_iff]; simp
  have HE := Lib.hid he
  clear he
  go_enter Tryd.func35, Tryd.ntmps35
  go_wp2
  go_ret
  exact ⟨by rw [← HE.out]; rfl, rfl⟩
def markBytes (bs : List UInt8) : List UInt8 := [UInt8.ofNat ((markOf bs).1.toNat / 256), UInt8.ofNat (markOf bs).1.toNat, UInt8.ofNat ((markOf bs).2.toNat / 256), UInt8.ofNat (markOf bs).2.toNat]
theorem mark_Put {w : World} {v : Value} {bs : List UInt8} (hv : Sl w 5 v (bs.map vB)) (hl : bs.length ≤ 1000000000) :
    Calls Tryd.prog 36 #[v] w fun e w' => ∃ v', e = .returned v' ∧ w'.ownsRow w.heap.size 5 1 v' 4 ((markBytes bs).map vB) ∧ Ext w w' := by
  have hx : Sl (w.alloc (.cells #[v] 22)) 5 v (bs.map vB) := hv.ext ((Only.refl _ w).alloc _)
  have hm := mark_Of (p := w.heap.size) (blk_cell get_alloc rfl) hx hl
  have hp := gauss_Parts (w.alloc (.cells #[v] 22)) (markOf bs) (by have := (markOf_ok bs).1; omega) (by have := (markOf_ok bs).2; omega)
  obtain ⟨h1, h2⟩ := markOf_ok bs
  obtain ⟨A, c, rfl, -⟩ := hv
  rw [List.length_map] at *
  unfold markBytes
  generalize markOf bs = z at *
  obtain ⟨a, b⟩ := z
  simp only at h1 h2
  clear hx hl
  go_enter Tryd.func36, Tryd.ntmps36
  go_wp2_with (first | (go_at_call 48; refine hm.mono ?_; rintro e w' ⟨rfl, rfl⟩) | (go_at_call 47; refine hp.mono ?_; rintro e w' ⟨rfl, rfl⟩))
  go_ret
  refine ⟨_, rfl, ?_, ((Only.refl _ w).alloc _).alloc _⟩
  have ea : ∀ x : Int, 0 ≤ x ∧ x < 8191 → vB (UInt8.ofNat (x.toNat / 256)) = .int .u8 (x / 256) ∧ vB (UInt8.ofNat x.toNat) = .int .u8 (x % 256) := by
    intro x hx
    constructor
    · show Value.int .u8 ((UInt8.ofNat (x.toNat / 256)).toNat : Int) = _
      rw [UInt8.toNat_ofNat_of_lt' (by show x.toNat / 256 < 256; omega)]
      congr 1
      omega
    · show Value.int .u8 ((UInt8.ofNat x.toNat).toNat : Int) = _
      rw [UInt8.toNat_ofNat']
      congr 1
      omega
  refine ⟨rfl, .inr ⟨_, 4, #[.int .u8 (a / 256), .int .u8 (a % 256), .int .u8 (b / 256), .int .u8 (b % 256)], rfl, Nat.le_succ _, ?_, Nat.le_refl _, by simp [maxLen], rfl, ?_⟩⟩
  · have := @get_alloc (w.alloc (.cells #[.slice A bs.length c] 22)) (.cells #[.int .u8 (a / 256), .int .u8 (a % 256), .int .u8 (b / 256), .int .u8 (b % 256)] 5)
    rwa [show (w.alloc (.cells #[.slice A bs.length c] 22)).heap.size = w.heap.size + 1 by simp] at this
  · simp only [List.map_cons, List.map_nil, (ea a h1).1, (ea a h1).2, (ea b h2).1, (ea b h2).2]
    rfl
theorem mark_Check {w : World} {v vm : Value} {bs ms : List UInt8} (hv : Sl w 5 v (bs.map vB)) (hm : Sl w 5 vm (ms.map vB)) (hl : bs.length ≤ 1000000000) :
    Calls Tryd.prog 33 #[v, vm] w fun e w' => e = .returned (.bool (decide (markBytes bs = ms))) ∧ Ext w w' := by
  have hp := mark_Put hv hl
  have HM := Lib.hid hm
  obtain ⟨A, c, rfl, -⟩ := hv
  obtain ⟨B, d, rfl, -⟩ := hm
  simp only [List.length_map] at *
  clear hl
  go_enter Tryd.func33, Tryd.ntmps33
  go_wp2_with (first
    | (go_at_call 36; refine hp.mono ?_; rintro e w1 ⟨v1, rfl, o1, x1⟩; (have he := bytes_Equal (Sl.of_owns o1) (HM.out.ext x1)); (have X1 := Lib.hid x1); clear o1 x1)
    | (go_at_call 35; refine he.mono ?_; rintro e w2 ⟨rfl, rfl⟩))
  go_ret
  exact ⟨rfl, X1.out⟩
end Go.Proofs.YtbgcelfmelpbeaaDoor
