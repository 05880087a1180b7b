/- The references' small functions on bytes: Same, Copy; the statements' Full and num. -/
import Derived.Test.YtbgcelfmelpbeaaDiskI
namespace Go.Proofs.Ytbgcelfmelpbeaa
open Go.RowKit
/-- two texts of whatever bytes: are they the same? -/
theorem same_any {w : World} {va vb : Value} {xs ys : List UInt8} (ha : Sl w 5 va (xs.map vB)) (hb : Sl w 5 vb (ys.map vB)) (hl : xs.length ≤ 1000000000) :
    Calls Try.prog 15 #[va, vb] w fun e w' => e = .returned (.bool (decide (xs = ys))) ∧ Ext w w' := by
  obtain ⟨A, c, rfl, -, ra, -⟩ := ha
  obtain ⟨B, d, rfl, -, rb, -⟩ := hb
  rw [List.length_map, List.length_map]
  by_cases hlen : xs.length = ys.length
  · have b1 : ((xs.length : Int) != ys.length) = false := by simp [hlen]
    have HL := Lib.hid hlen
    have RA := Lib.hid ra
    have RB := Lib.hid rb
    clear hlen ra rb
    go_enter Try.func15, Try.ntmps15
    go_wp2
    go_loopw [5] (fun c wr => ∃ k : Nat, k ≤ xs.length ∧ c = vI k ∧ Ext w wr ∧ Hid (xs.take k = ys.take k)) (fun c _ => xs.length - (RowKit.intOf c).toNat)
    case atStart => exact ⟨0, Nat.zero_le _, rfl, Only.refl _ _, rfl⟩
    case round =>
      obtain ⟨k, hk, rfl, hx, HT⟩ := hrel
      by_cases hlt : k < xs.length
      · have hly : k < ys.length := by rw [← HL.out]; exact hlt
        obtain ⟨b1', o1, rfl, hc1⟩ := (RA.out.ext hx).cell (j := k) (by simpa using hlt)
        obtain ⟨b2', o2, rfl, hc2⟩ := (RB.out.ext hx).cell (j := k) (by simpa using hly)
        rw [List.getElem_map] at hc1 hc2
        have HX := Lib.hid hx
        clear hx
        by_cases he : xs[k] = ys[k]
        · have hb : (((xs[k].toNat : Int)) != (ys[k].toNat : Int)) = false := by simp [he]
          have HE := Lib.hid he
          clear he
          go_wp2
          go_quiet (fail)
          go_wp2
          go_roundw
          case rel =>
            refine ⟨k + 1, by omega, by go_num, HX.out.drewN _, ?_⟩
            rw [List.take_succ_eq_append_getElem hlt, List.take_succ_eq_append_getElem hly, HT.out, HE.out]
            exact rfl
          case measure => simp [RowKit.intOf]; omega
        · have hb : (((xs[k].toNat : Int)) != (ys[k].toNat : Int)) = true := by
            rw [bne_iff_ne]
            intro h
            exact he (UInt8.toNat_inj.1 (by omega))
          have hne : decide (xs = ys) = false := by
            rw [decide_eq_false_iff_not]
            rintro rfl
            exact he rfl
          have HN := Lib.hid hne
          clear he hne
          go_wp2
          go_quiet (fail)
          go_wp2
          go_ret
          exact ⟨by rw [HN.out]; rfl, HX.out.drewN _⟩
      · have hke : k = xs.length := by omega
        have heq : decide (xs = ys) = true := by
          rw [decide_eq_true_eq]
          have := HT.out
          rw [hke, List.take_length, HL.out, List.take_length] at this
          exact this
        have HE := Lib.hid heq
        clear heq hke
        go_wp2
        go_ret
        exact ⟨by rw [HE.out]; rfl, hx⟩
  · have b1 : ((xs.length : Int) != ys.length) = true := by rw [bne_iff_ne]; omega
    have hne : decide (xs = ys) = false := by
      rw [decide_eq_false_iff_not]
      rintro rfl
      exact hlen rfl
    rw [hne]
    clear hlen hne
    go_enter Try.func15, Try.ntmps15
    go_wp2
    go_ret
    exact ⟨rfl, Only.refl _ _⟩
/-- bytes, in new memory -/
theorem copy_any {w : World} {v : Value} {bs : List UInt8} (h : Sl w 5 v (bs.map vB)) (hb : bs.length ≤ 1000000000) :
    Calls Try.prog 11 #[v] w fun e w' => ∃ v', e = .returned v' ∧ w'.ownsRow w.heap.size 5 1 v' bs.length (bs.map vB) ∧ Ext w w' := by
  have hown : (w.alloc (.cells #[] 5)).ownsRow w.heap.size 5 1 (.slice (some ⟨w.heap.size, 0, none⟩) 0 0) 0 [] := World.ownsRow_made w #[] 0 (Nat.le_refl _) (Nat.zero_le _) rfl
  have hx : Sl (w.alloc (.cells #[] 5)) 5 v (bs.map vB) := h.ext ((Only.refl _ w).alloc _)
  obtain ⟨v', w1, hrun, ho, hg⟩ := run_append_sl (ty := 30) Try.underlying30 info_u8 rfl hown hx (oneCell_map _ (fun _ => rfl) _) (by simp [maxLen]; omega) (by simp; omega) (by simp)
  clear hown hx h
  go_enter Try.func11, Try.ntmps11
  go_wp2_with (at_builtin; refine wpList_append_run hrun rfl _ _ rfl rfl rfl rfl ?_)
  go_ret
  exact ⟨_, rfl, by simpa using ho, ((Only.refl _ w).alloc _).grown hg (by simp [Value.ownBlock])⟩
theorem num_any {w : World} (n : Int) : Calls Try.prog 7 #[vI n] w fun e w' => e = .returned (vI n) ∧ w = w' := by
  go_enter Try.func7, Try.ntmps7
  go_wp2
  go_ret
  exact ⟨rfl, rfl⟩
/-- a sector of one byte -/
def full (c : UInt8) : List UInt8 := List.replicate 256 c
theorem full_len (c : UInt8) : (full c).length = 256 := List.length_replicate
theorem full_map (c : UInt8) : (full c).map vB = List.replicate 256 (vB c) := List.map_replicate
set_option maxHeartbeats 1000000 in
set_option maxRecDepth 20000 in
theorem full_any {w : World} (c : UInt8) : Calls Try.prog 9 #[vB c] w fun e w' => ∃ v, e = .returned v ∧ w'.ownsRow w.heap.size 5 1 v 256 ((full c).map vB) ∧ Ext w w' := by
  have hmk : ∀ W : World, (Instr.makeSlice 30 (.int .i64 256) (.int .i64 256)).run Try.prog W = .ok (.slice (some ⟨W.heap.size, 0, none⟩) 256 256) (W.alloc (.cells (zrow (.int .u8 0) 256) 5)) := fun W => run_make_z Try.underlying30 info_u8 rfl .i64 .i64 256 (by omega) (by omega) W
  go_enter Try.func9, Try.ntmps9
  go_wp2
  go_loopw [4] (fun i wr => ∃ (k : Nat) (cs : Array Value), k ≤ 256 ∧ i = vI k ∧ wr.heap[w.heap.size]? = some (.cells cs 5 (0, 0)) ∧ cs.size = 256 ∧ (∀ j, j < k → cs[j]? = some (vB c)) ∧ Ext w wr) (fun i _ => 256 - (RowKit.intOf i).toNat)
  case atStart => exact ⟨0, _, Nat.zero_le _, rfl, get_alloc, zrow_size _ _, fun j hj => by omega, (Only.refl _ w).alloc _⟩
  case round =>
    obtain ⟨k, cs, hk, rfl, hb, hsz, hcs, hx⟩ := hrel
    by_cases hlt : k < 256
    · obtain ⟨u, hu⟩ : ∃ u, cs[k]? = some u := ⟨cs[k]'(by omega), Array.getElem?_eq_getElem (by omega)⟩
      have cc : wr.cell? ⟨w.heap.size, k, none⟩ = some u := blk_cell hb hu
      have cf : wr.frozen? ⟨w.heap.size, k, none⟩ = false := blk_free hb k
      have HB := Lib.hid hb
      have HZ := Lib.hid hsz
      have HC := Lib.hid hcs
      have HX := Lib.hid hx
      clear hb hsz hcs hx hu
      go_wp2
      go_roundw
      case rel =>
        refine ⟨k + 1, _, by omega, by go_num, get_setCell _ HB.out, by rw [Array.size_setIfInBounds]; exact HZ.out, fun j hj => ?_, HX.out.setCell (.inr (Nat.le_refl _)) _⟩
        by_cases hjk : j = k
        · subst hjk
          rw [Array.getElem?_setIfInBounds_self_of_lt (by rw [HZ.out]; exact hlt)]
        · rw [Array.getElem?_setIfInBounds_ne (by omega)]
          exact HC.out j (by omega)
      case measure => simp [RowKit.intOf]; omega
    · have HB := Lib.hid hb
      have HC := Lib.hid hcs
      have HZ := Lib.hid hsz
      clear hb hcs hsz
      go_wp2
      go_ret
      have hb := HB.out
      have hsz := HZ.out
      have hcs : ∀ j, j < 256 → cs[j]? = some (vB c) := fun j hj => HC.out j (by omega)
      refine ⟨_, rfl, ⟨by rw [full_map, List.length_replicate], .inr ⟨_, 256, cs, rfl, Nat.le_refl _, hb, Nat.le_refl _, by simp [maxLen], by omega, ?_⟩⟩, hx⟩
      rw [full_map]
      refine List.ext_getElem? (fun j => ?_)
      by_cases hj : j < 256
      · rw [List.getElem?_take_of_lt (by omega), Array.getElem?_toList, hcs j hj, List.getElem?_replicate, if_pos hj]
      · rw [List.getElem?_eq_none (by simp; omega), List.getElem?_eq_none (by rw [List.length_replicate]; omega)]
end Go.Proofs.Ytbgcelfmelpbeaa
