/- The page's example of layer 8 is as it says. -/
import Derived.Test.YtbgcelfmelpbeaaOne
namespace Go.Proofs.Ytbgcelfmelpbeaa
open Go.RowKit
abbrev K0 : Nat → Prop := fun _ => False
theorem same_yes {w : World} {va vb : Value} {xs ys : List UInt8} (ha : Sl w 5 va (xs.map vB)) (hb : Sl w 5 vb (ys.map vB)) (hl : ys.length ≤ 1000000000) (h : xs = ys) :
    Calls Try.prog 15 #[va, vb] w fun e w' => e = .returned (.bool true) ∧ Ext w w' := by
  have := same_any ha hb (by rw [h]; exact hl)
  rwa [decide_eq_true h] at this
theorem same_no {w : World} {va vb : Value} {xs ys : List UInt8} (ha : Sl w 5 va (xs.map vB)) (hb : Sl w 5 vb (ys.map vB)) (hl : xs.length ≤ 1000000000) (h : xs ≠ ys) :
    Calls Try.prog 15 #[va, vb] w fun e w' => e = .returned (.bool false) ∧ Ext w w' := by
  have := same_any ha hb hl
  rwa [decide_eq_false h] at this
theorem Sl.owned {w : World} {base : Nat} {e : TypeId} {v : Value} {bs : List UInt8} {n : Nat} (h : w.ownsRow base e 1 v n (bs.map vB)) : Sl w e v (bs.map vB) := Sl.of_owns h
theorem Sl.owned_only {S : Nat → Prop} {w w' : World} {v : Value} {bs : List UInt8} (h : Sl w 5 v (bs.map vB)) (ho : Only S w w') (hS : ∀ k arr fz, S k → w.heap[k]? ≠ some (.cells arr 5 fz)) : Sl w' 5 v (bs.map vB) := h.only ho hS
set_option maxHeartbeats 2000000 in
set_option maxRecDepth 20000 in
theorem live8 (w : World) : Calls Try.prog 5 #[] w fun e w' => e = .returned (.bool true) ∧ Ext w w' := by
  go_enter Try.func5, Try.ntmps5
  go_wp2_with fail
  refine (disk_New (K := K0) w (fun _ h => h.elim) 4 (by omega) (by omega)).mono ?_
  rintro e w1 ⟨s, a, m, rfl, h1, x1, hs, ha, hm⟩
  have H1 := Lib.hid h1
  have X1 := Lib.hid x1
  clear h1 x1
  go_wp2_with fail
  refine (full_any 7).mono ?_
  rintro e w2 ⟨v2, rfl, o2, x2⟩
  have h2 := H1.out.ext x2
  have O2 := Lib.hid o2
  have X2 := Lib.hid (X1.out.trans x2)
  have H2 := Lib.hid h2
  clear o2 x2 h2 H1 X1
  go_wp2_with fail
  refine (disk_Write_yes H2.out (fun _ h => h.elim) 3 rfl (by simp [DM.new]) (Sl.owned O2.out) (full_len 7)).mono ?_
  rintro e w3 ⟨rfl, h3, x3⟩
  have hd : ∀ k, dblk s a m k → w.heap.size ≤ k := by rintro k (rfl | rfl | rfl) <;> assumption
  have HD := Lib.hid hd
  have H3 := Lib.hid h3
  have X3 := Lib.hid (X2.out.andThen x3 (fun k hk => .inr (hd k hk)))
  clear h3 x3 hd O2 H2 X2
  go_wp2_with fail
  refine (disk_Crash (keep := []) H3.out (Sl.nil _ _)).mono ?_
  rintro e w4 ⟨rfl, h4, x4⟩
  have H4 := Lib.hid h4
  have X4 := Lib.hid (X3.out.andThen x4 (fun k hk => .inr (HD.out k hk)))
  clear h4 x4 H3 X3
  go_wp2_with fail
  refine (disk_Read_yes H4.out 3 rfl (by simp [DM.crash, DM.did, DM.put, DM.new])).mono ?_
  rintro e w5 ⟨v5, rfl, o5, x5⟩
  have H5 := Lib.hid (H4.out.ext x5)
  have V5 := Lib.hid (Sl.owned o5)
  have X5 := Lib.hid (X4.out.trans x5)
  clear o5 x5 H4 X4
  go_wp2_with fail
  refine (full_any 7).mono ?_
  rintro e w6 ⟨v6, rfl, o6, x6⟩
  have H6 := Lib.hid (H5.out.ext x6)
  have V6 := Lib.hid (V5.out.ext x6)
  have O6 := Lib.hid (Sl.owned o6)
  have X6 := Lib.hid (X5.out.trans x6)
  clear o6 x6 H5 V5 X5
  go_wp2_with fail
  refine (disk_Write_yes H6.out (fun _ h => h.elim) 3 rfl (by simp [DM.crash, DM.did, DM.put, DM.new]) O6.out (full_len 7)).mono ?_
  rintro e w7 ⟨rfl, h7, x7⟩
  have H7 := Lib.hid h7
  have V7 := Lib.hid (V6.out.only x7 H6.out.no_bytes)
  have X7 := Lib.hid (X6.out.andThen x7 (fun k hk => .inr (HD.out k hk)))
  clear h7 x7 H6 V6 X6 O6
  go_wp2_with fail
  refine (disk_Flush H7.out rfl).mono ?_
  rintro e w8 ⟨rfl, h8, x8⟩
  have H8 := Lib.hid h8
  have V8 := Lib.hid (V7.out.only x8 H7.out.no_bytes)
  have X8 := Lib.hid (X7.out.andThen x8 (fun k hk => .inr (HD.out k hk)))
  clear h8 x8 H7 V7 X7
  go_wp2_with fail
  refine (disk_Crash (keep := []) H8.out (Sl.nil _ _)).mono ?_
  rintro e w9 ⟨rfl, h9, x9⟩
  have H9 := Lib.hid h9
  have V9 := Lib.hid (V8.out.only x9 H8.out.no_bytes)
  have X9 := Lib.hid (X8.out.andThen x9 (fun k hk => .inr (HD.out k hk)))
  clear h9 x9 H8 V8 X8
  go_wp2_with fail
  refine (disk_Read_yes H9.out 3 rfl (by simp [DM.crash, DM.flush, DM.did, DM.put, DM.new])).mono ?_
  rintro e wa ⟨va, rfl, oa, xa⟩
  have VA := Lib.hid (V9.out.ext xa)
  have UA := Lib.hid (Sl.owned oa)
  have XA := Lib.hid (X9.out.trans xa)
  clear oa xa H9 V9 X9
  go_wp2_with (go_at_call 7; refine (num_any _).mono ?_; rintro e w' ⟨rfl, rfl⟩)
  refine (full_any 0).mono ?_
  rintro e wb ⟨vb, rfl, ob, xb⟩
  have hs1 := same_yes (VA.out.ext xb) (Sl.owned ob) (by rw [full_len]; omega) (show _ = full 0 from rfl)
  have UB := Lib.hid (UA.out.ext xb)
  have XB := Lib.hid (XA.out.trans xb)
  clear ob xb VA UA XA
  go_wp2_with fail
  refine hs1.mono ?_
  rintro e wc ⟨rfl, xc⟩
  have UC := Lib.hid (UB.out.ext xc)
  have XC := Lib.hid (XB.out.trans xc)
  clear xc UB XB hs1
  go_wp2_with fail
  refine (full_any 7).mono ?_
  rintro e wd ⟨vd, rfl, od, xd⟩
  have hs2 := same_yes (UC.out.ext xd) (Sl.owned od) (by rw [full_len]; omega) (show _ = full 7 from rfl)
  have XD := Lib.hid (XC.out.trans xd)
  clear od xd UC XC
  go_wp2_with fail
  refine hs2.mono ?_
  rintro e we ⟨rfl, xe⟩
  have XE := Lib.hid (XD.out.trans xe)
  clear xe XD hs2
  go_wp2
  go_ret
  exact ⟨rfl, XE.out⟩
end Go.Proofs.Ytbgcelfmelpbeaa
