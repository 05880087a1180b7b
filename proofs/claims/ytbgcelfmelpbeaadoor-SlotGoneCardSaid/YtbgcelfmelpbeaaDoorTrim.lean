/- bytes.Trim of one byte: is anything left? -/
import Derived.Test.YtbgcelfmelpbeaaDoorMarkPut
namespace Go.Proofs.YtbgcelfmelpbeaaDoor
open Go.RowKit
theorem Rd.sub {w : World} {e : TypeId} {b off l h : Nat} {cs : List Value} (hr : Rd w e (some ⟨b, off, none⟩) cs) (hh : h ≤ cs.length) : Rd w e (some ⟨b, off + l, none⟩) ((cs.take h).drop l) := by
  rcases hr with rfl | ⟨b', off', arr, fz, hA, hb, hc⟩
  · exact .inl (by simp)
  · cases hA
    refine .inr ⟨b, off + l, arr, fz, rfl, hb, fun j hj => ?_⟩
    simp only [List.length_drop, List.length_take] at hj
    rw [show off + l + j = off + (l + j) by omega, hc (l + j) (by omega), List.getElem?_drop, List.getElem?_take_of_lt (by omega)]
theorem Rd.some {w : World} {e : TypeId} {A : Option Addr} {cs : List Value} (hr : Rd w e A cs) (h : 0 < cs.length) : ∃ b off, A = some ⟨b, off, none⟩ := by
  obtain ⟨b, off, hA, -⟩ := hr.cell h
  exact ⟨b, off, hA⟩
/-- all of bytes.Trim's cutting at the right -/
theorem trim_right {w : World} {b off c : Nat} {bs : List UInt8} (z : UInt8) (hr : Rd w 5 (some ⟨b, off, none⟩) (bs.map vB)) (hc : bs.length ≤ c) (hm : bs.length ≤ 1000000000) :
    Calls Tryd.prog 41 #[.slice (some ⟨b, off, none⟩) bs.length c, vB z] w fun e w' => (∃ n : Nat, e = .returned (.slice (some ⟨b, off, none⟩) n c) ∧ n ≤ bs.length ∧ ∀ j (hj : j < bs.length), n ≤ j → bs[j] = z) ∧ w = w' := by
  have HR := Lib.hid hr
  clear hr
  go_enter Tryd.func41, Tryd.ntmps41
  go_wp2
  go_loopw [0] (fun v wr => ∃ n : Nat, n ≤ bs.length ∧ v = .slice (some ⟨b, off, none⟩) n c ∧ Hid (∀ j (hj : j < bs.length), n ≤ j → bs[j] = z) ∧ Hid (w = wr)) (fun v _ => match v with | .slice _ n _ => n | _ => 0)
  case atStart => exact ⟨bs.length, Nat.le_refl _, rfl, fun j hj hn => by omega, rfl⟩
  case round =>
    obtain ⟨n, hn, rfl, HZ, hw⟩ := hrel
    obtain rfl := hw.out
    clear hw
    by_cases h0 : n = 0
    · subst h0
      go_wp2
      go_ret
      exact ⟨⟨0, rfl, Nat.zero_le _, HZ.out⟩, rfl⟩
    · obtain ⟨m, rfl⟩ : ∃ m, n = m + 1 := ⟨n - 1, by omega⟩
      obtain ⟨b', o', hA, hcell⟩ := HR.out.cell (j := m) (by simp; omega)
      cases hA
      rw [List.getElem_map] at hcell
      have hmb : m < bs.length := by omega
      obtain ⟨y, hy⟩ : ∃ y, bs[m] = y := ⟨_, rfl⟩
      rw [hy] at hcell
      by_cases hyz : y = z
      · subst hyz
        have hz' : ∀ j (hj : j < bs.length), m ≤ j → bs[j] = y := by
          intro j hj hmj
          by_cases hjm : j = m
          · subst hjm; exact hy
          · exact HZ.out j hj (by omega)
        have HZ' := Lib.hid hz'
        clear hz' HZ hy h0 hn
        go_wp2
        go_roundw
        case rel => exact ⟨m, by omega, by go_num, HZ'.out, trivial⟩
        case measure => simp
      · have hne : ((y.toNat : Int) == (z.toNat : Int)) = false := by
          rw [beq_eq_false_iff_ne]
          intro h
          exact hyz (UInt8.toNat_inj.1 (by omega))
        clear hyz hy h0 hn
        go_wp2
        go_ret
        exact ⟨⟨m + 1, rfl, hmb, HZ.out⟩, rfl⟩
theorem trim_left {w : World} {A : Option Addr} {c : Nat} {bs : List UInt8} (z : UInt8) (hr : Rd w 5 A (bs.map vB)) (hc : bs.length ≤ c) :
    Calls Tryd.prog 40 #[.slice A bs.length c, vB z] w fun e w' => (∃ A' n c', e = .returned (.slice A' n c') ∧ (0 < n ↔ ∃ x ∈ bs, x ≠ z)) ∧ w = w' := by
  have HR := Lib.hid hr
  clear hr
  go_enter Tryd.func40, Tryd.ntmps40
  go_wp2
  go_loopw [0] (fun v wr => ∃ (m : Nat) (A : Option Addr) (c : Nat), m ≤ bs.length ∧ v = .slice A (bs.length - m) c ∧ bs.length - m ≤ c ∧ Hid (Rd w 5 A ((bs.drop m).map vB)) ∧ Hid (∀ j (hj : j < bs.length), j < m → bs[j] = z) ∧ Hid (w = wr)) (fun v _ => match v with | .slice _ n _ => n | _ => 0)
  case atStart => exact ⟨0, A, c, Nat.zero_le _, rfl, hc, HR.out, fun j hj hn => by omega, rfl⟩
  case round =>
    obtain ⟨m, A, c, hm, rfl, hcm, HRm, HZ, hw⟩ := hrel
    obtain rfl := hw.out
    clear hw HR hc
    by_cases h0 : m = bs.length
    · subst h0
      have hno : ¬ ∃ x ∈ bs, x ≠ z := by
        rintro ⟨x, hx, hn⟩
        obtain ⟨j, hj, rfl⟩ := List.getElem_of_mem hx
        exact hn (HZ.out j hj hj)
      have HN := Lib.hid hno
      rw [Nat.sub_self] at *
      clear hno HZ HRm
      go_wp2
      go_ret
      exact ⟨⟨_, _, _, rfl, by simp [HN.out]⟩, rfl⟩
    · have hmb : m < bs.length := by omega
      obtain ⟨b', o', rfl, hcell⟩ := HRm.out.cell (j := 0) (by simp; omega)
      rw [List.getElem_map, List.getElem_drop] at hcell
      simp only [Nat.add_zero] at hcell
      obtain ⟨y, hy⟩ : ∃ y, bs[m] = y := ⟨_, rfl⟩
      rw [hy] at hcell
      have hl : bs.length - m = bs.length - (m + 1) + 1 := by omega
      rw [hl] at *
      by_cases hyz : y = z
      · subst hyz
        have hz' : ∀ j (hj : j < bs.length), j < m + 1 → bs[j] = y := by
          intro j hj hmj
          by_cases hjm : j = m
          · subst hjm; exact hy
          · exact HZ.out j hj (by omega)
        have HZ' := Lib.hid hz'
        have hsub := HRm.out.sub (l := 1) (h := bs.length - m) (by simp)
        rw [List.take_of_length_le (by simp), ← List.map_drop, List.drop_drop] at hsub
        have HS := Lib.hid hsub
        clear hz' HZ hy h0 hm hl hsub HRm
        generalize hn : bs.length - (m + 1) = n at *
        by_cases hc1 : c = 1
        · subst hc1
          obtain rfl : n = 0 := by omega
          go_wp2
          go_roundw
          case rel => exact ⟨m + 1, _, _, by omega, by rw [hn], by omega, .inl (by rw [List.drop_eq_nil_of_le (by omega)]; rfl), HZ'.out, trivial⟩
          case measure => simp
        · go_wp2
          go_roundw
          case rel => exact ⟨m + 1, _, _, by omega, by rw [hn], by omega, HS.out, HZ'.out, trivial⟩
          case measure => simp
      · have hne : ((y.toNat : Int) == (z.toNat : Int)) = false := by
          rw [beq_eq_false_iff_ne]
          intro h
          exact hyz (UInt8.toNat_inj.1 (by omega))
        have hyes : ∃ x ∈ bs, x ≠ z := ⟨y, by rw [← hy]; exact List.getElem_mem _, hyz⟩
        have HY := Lib.hid hyes
        clear hyz hy h0 hm hl hyes HZ HRm
        go_wp2
        go_ret
        exact ⟨⟨_, _, _, rfl, by simp [HY.out]⟩, rfl⟩
set_option maxRecDepth 20000 in
theorem bytes_Trim0 {w : World} {v : Value} {bs : List UInt8} (hv : Sl w 5 v (bs.map vB)) (hm : bs.length ≤ 1000000000) :
    Calls Tryd.prog 34 #[v, .string { data := #[0] }] w fun e w' => (∃ A' n c', e = .returned (.slice A' n c') ∧ decide (0 < (n : Int)) = bs.any (· != 0)) ∧ Ext w w' := by
  obtain ⟨A, c, rfl, hc, hr, -⟩ := hv
  rw [List.length_map] at *
  by_cases h0 : bs = []
  · subst h0
    rw [List.length_nil]
    go_enter Tryd.func34, Tryd.ntmps34
    go_wp2
    go_ret
    exact ⟨⟨_, _, _, rfl, rfl⟩, Only.refl _ _⟩
  have hpos : 0 < bs.length := List.length_pos_iff.2 h0
  obtain ⟨b, off, rfl⟩ := hr.some (by simpa using hpos)
  have hR := trim_right (w := w.drew) 0 (show Rd w.drew 5 (some ⟨b, off, none⟩) (bs.map vB) from hr) hc hm
  have hn0 : ((bs.length : Int) == 0) = false := by rw [beq_eq_false_iff_ne]; omega
  have HRR := Lib.hid hr
  clear hr h0 hpos
  go_enter Tryd.func34, Tryd.ntmps34
  go_wp2
  go_region_held3 (fun _ => True) (trivial)
    (first
      | (go_at_call 41; refine hR.mono ?_; rintro e w1 ⟨⟨n, rfl, hn, hz⟩, rfl⟩; (have hsub := (show Rd w.drew 5 (some ⟨b, off, none⟩) (bs.map vB) from HRR.out).sub (l := 0) (h := n) (by rw [List.length_map]; exact hn)); (have HZ := Lib.hid hz); rw [List.drop_zero, Nat.add_zero, ← List.map_take] at hsub; (have hL := trim_left 0 hsub (show (bs.take n).length ≤ c by rw [List.length_take]; omega)); rw [List.length_take, Nat.min_eq_left hn] at hL; clear hz hsub)
      | (go_at_call 40; refine hL.mono ?_; rintro e w2 ⟨⟨A2, n2, c2, rfl, hn2⟩, rfl⟩; (have HN := Lib.hid hn2); clear hn2))
  all_goals
    go_wp2
    go_ret
    refine ⟨⟨_, _, _, rfl, ?_⟩, (Only.refl _ w).drew⟩
    rw [Bool.eq_iff_iff, decide_eq_true_eq, List.any_eq_true]
    have h1 : (0 < (n2 : Int)) ↔ 0 < n2 := by omega
    rw [h1, HN.out]
    constructor
    · rintro ⟨x, hx, hn⟩
      exact ⟨x, List.mem_of_mem_take hx, by simpa using hn⟩
    · rintro ⟨x, hx, hn⟩
      obtain ⟨j, hj, rfl⟩ := List.getElem_of_mem hx
      have hjn : j < n := by
        refine Nat.lt_of_not_le fun h => ?_
        rw [HZ.out j hj h] at hn
        simp at hn
      refine ⟨bs[j], ?_, by simpa using hn⟩
      rw [← List.getElem_take (j := n) (h := by rw [List.length_take]; omega)]
      exact List.getElem_mem _
end Go.Proofs.YtbgcelfmelpbeaaDoor
