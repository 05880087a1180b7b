/- SlotGone: the plain law of the disk; what a slot tells in whatever state. -/
import Derived.Test.YtbgcelfmelpbeaaDoorGoneA
namespace Go.Proofs.YtbgcelfmelpbeaaDoor
open Go.RowKit
set_option linter.unusedSimpArgs false
structure Good8 (D : DM) : Prop where
  n : D.n = 8
  dead : D.dead = false
  fuse : D.fuse = -1
  calm : ∀ i, D.pend i = false
structure Calm8 (D : DM) : Prop where
  n : D.n = 8
  dead : D.dead = false
  calm : ∀ i, D.pend i = false
theorem Good8.new : Good8 (DM.new 8) := ⟨rfl, rfl, rfl, fun _ => rfl⟩
theorem Good8.over {D : DM} (h : Good8 D) (k : Nat) (bs : List UInt8) : Good8 (D.overF k bs).2 := by
  have hd : (D.put k bs).did.dead = false := by simp [DM.did, DM.put, h.fuse, h.dead]
  unfold DM.overF
  rw [if_neg (by rw [hd]; simp)]
  refine ⟨h.n, ?_, ?_, fun i => ?_⟩
  · simp [DM.did, DM.flush, DM.put, h.fuse, h.dead]
  · simp [DM.did, DM.flush, DM.put, h.fuse]
  · simp [DM.did, DM.flush, DM.put]
theorem Good8.calm8 {D : DM} (h : Good8 D) : Calm8 D := ⟨h.n, h.dead, h.calm⟩
theorem Good8.setFuse {D : DM} (h : Good8 D) {x : Int} (hx : 0 < x) : Calm8 (D.setFuse x) := by
  have h0 : decide (x = 0) = false := by simp; omega
  refine ⟨?_, ?_, fun i => ?_⟩
  · simp [DM.setFuse, h.dead, h.n]
  · simp [DM.setFuse, h.dead, h0]
  · simp [DM.setFuse, h.dead, h.calm i]
theorem over_n (D : DM) (k : Nat) (bs : List UInt8) : (D.overF k bs).2.n = D.n := by
  unfold DM.overF; split <;> rfl
theorem over_done {D : DM} {k : Nat} {bs : List UInt8} (h : (D.overF k bs).1 = 0) : (∀ i, (D.overF k bs).2.pend i = false) ∧ (D.overF k bs).2.safe k = bs ∧ ∀ i, i ≠ k → (D.overF k bs).2.safe i = D.cur i := by
  unfold DM.overF at *
  split
  · rename_i hd
    rw [if_pos hd] at h
    exact absurd (show (8 : Int) = 0 from h) (by decide)
  · refine ⟨fun i => rfl, ?_, fun i hi => ?_⟩
    · show (D.put k bs).did.cur k = bs
      simp [DM.cur, DM.did, DM.put]
    · show (D.put k bs).did.cur i = D.cur i
      simp [DM.cur, DM.did, DM.put, hi]
theorem over_other {D : DM} {k : Nat} {bs : List UInt8} {i : Nat} (hi : i ≠ k) (hp : D.pend i = false) : (D.overF k bs).2.pend i = false ∧ (D.overF k bs).2.safe i = D.safe i := by
  unfold DM.overF
  split
  · refine ⟨?_, rfl⟩
    show (if i = k then true else D.pend i) = false
    rw [if_neg hi, hp]
  · refine ⟨rfl, ?_⟩
    show (D.put k bs).did.cur i = D.safe i
    simp [DM.cur, DM.did, DM.put, hi, hp]
theorem clear_n (D : DM) (k : Nat) : (D.clearF k).2.n = D.n := by
  unfold DM.clearF; split
  · rfl
  · exact over_n _ _ _
theorem clear_done {D : DM} (hc : ∀ i, D.pend i = false) {p : Nat} (h : (D.clearF p).1 = 0) : (D.clearF p).2.pend p = false ∧ (D.clearF p).2.safe p = zeros 256 := by
  unfold DM.clearF at *
  split
  · rename_i hz
    refine ⟨hc p, ?_⟩
    have : D.cur p = D.safe p := by simp [DM.cur, hc p]
    rw [← this]; exact hz
  · rename_i hz
    rw [if_neg hz] at h
    exact ⟨(over_done h).1 p, (over_done h).2.1⟩
/-- a slot is put, if the power is there -/
def DM.putG (D : DM) (k : Nat) (bs : List UInt8) : Int × DM := if D.dead = true then (8, D) else D.overF k bs
theorem put_n (D : DM) (k : Nat) (bs : List UInt8) : (D.putG k bs).2.n = D.n := by
  unfold DM.putG; split
  · rfl
  · exact over_n _ _ _
theorem put_other {D : DM} {k : Nat} {bs : List UInt8} {i : Nat} (hi : i ≠ k) (hp : D.pend i = false) : (D.putG k bs).2.pend i = false ∧ (D.putG k bs).2.safe i = D.safe i := by
  unfold DM.putG; split
  · exact ⟨hp, rfl⟩
  · exact over_other hi hp
theorem put_done {D : DM} {k : Nat} {bs : List UInt8} (h : (D.putG k bs).1 = 0) : (D.putG k bs).2.pend k = false ∧ (D.putG k bs).2.safe k = bs := by
  unfold DM.putG at *
  split
  · rename_i hd
    rw [if_pos hd] at h
    exact absurd (show (8 : Int) = 0 from h) (by decide)
  · rename_i hd
    rw [if_neg hd] at h
    exact ⟨(over_done h).1 k, (over_done h).2.1⟩
theorem crash_safe {D : DM} {keep : List Bool} {i : Nat} (h : D.pend i = false) : (D.crash keep).safe i = D.safe i ∧ (D.crash keep).cur i = D.safe i := by
  have e : (D.crash keep).safe i = D.safe i := by simp [DM.crash, h]
  exact ⟨e, by simp [DM.cur, DM.crash, h]⟩
section
variable {K : Nat → Prop} {w w' : World} {t s a m f n : Nat} {D : DM}
theorem slots_PutG (h : SlotsAt w t s f n) (hd : DiskRep K w s a m D) (hK : ∀ k, K k → k < w.heap.size) (i : Nat) (hi : i < n) (hf : f + n ≤ D.n) {e0 : TypeId} {v : Value} {bs : List UInt8} (hv : Sl w e0 v (bs.map vB)) (hl : bs.length ≤ 249) :
    Calls Tryd.prog 12 #[.pointer (some ⟨t, 0, none⟩), vI i, v] w fun e w' => e = .returned (vI (D.putG (f + i) (sectOf 4 bs)).1) ∧ DiskRep K w' s a m (D.putG (f + i) (sectOf 4 bs)).2 ∧ Only (dblk s a m) w w' := by
  unfold DM.putG
  by_cases hdead : D.dead = true
  · rw [if_pos hdead]
    exact (slots_Put_dead h hd hdead i hi hf v).mono fun e w' ⟨he, hx⟩ => ⟨he, hd.ext hx, Ext.only hx _⟩
  · rw [if_neg hdead]
    exact slots_PutF h hd hK (by simpa using hdead) i hi hf hv hl
theorem slots_Get_other (h : SlotsAt w t s f n) (hd : DiskRep K w s a m D) (hdead : D.dead = false) (i : Nat) (hi : i < n) (hf : f + n ≤ D.n) (hc : sectCode (D.cur (f + i)) = 0) (h4 : (D.cur (f + i)).getD 0 0 ≠ 4) :
    Calls Tryd.prog 6 #[.pointer (some ⟨t, 0, none⟩), vI i] w fun e w' => e = .returned (.tuple #[.slice none 0 0, vI 17]) ∧ Ext w w' := by
  have hat := slots_at h hd hdead i hi hf
  generalize D.cur (f + i) = cu at *
  have HC := Lib.hid hc
  have hk : ((((cu.getD 0 0).toNat : Int)) != 4) = true := by
    rw [bne_iff_ne]
    intro e
    exact h4 (UInt8.toNat_inj.1 (by rw [show (4 : UInt8).toNat = 4 from rfl]; omega))
  generalize hs0 : ((cu.getD 0 0).toNat : Int) = s0 at *
  have HS0 := Lib.hid hs0
  clear h hd hc h4 hs0
  go_enter Tryd.func6, Tryd.ntmps6
  go_wp2
  first | refine wp_scope_on (fn := Tryd.f6) 0 rfl ?_ | refine wp_scope_on (fn := Tryd.f6) 1 rfl ?_
  go_wp2_with (first
    | (go_at_call 19; refine hat.mono ?_; rintro e w1 ⟨v1, rfl, o1, x1⟩; (have X1 := Lib.hid x1); (have hg := sect_Get_ok (Sl.of_owns o1) (owns_length o1) HC.out); rw [HS0.out] at hg; clear o1 x1)
    | (go_at_call 20; refine hg.mono ?_; rintro e w2 ⟨⟨v2, rfl, o2⟩, x2⟩; (have X2 := Lib.hid (X1.out.trans x2)); clear o2 x2))
  go_step3
  refine ⟨rfl, ?_⟩
  go_wp2
  go_ret2
  exact ⟨rfl, X2.out⟩
theorem slots_Get_any (h : SlotsAt w t s f n) (hd : DiskRep K w s a m D) (hdead : D.dead = false) (i : Nat) (hi : i < n) (hf : f + n ≤ D.n) :
    Calls Tryd.prog 6 #[.pointer (some ⟨t, 0, none⟩), vI i] w fun e w' => ∃ v c, e = .returned (.tuple #[v, vI c]) ∧ Ext w w' := by
  by_cases hc : sectCode (D.cur (f + i)) = 0
  · by_cases h4 : (D.cur (f + i)).getD 0 0 = 4
    · exact (slots_Get_ok h hd hdead i hi hf hc h4).mono fun e w' ⟨v, he, _, hx⟩ => ⟨v, 0, he, hx⟩
    · exact (slots_Get_other h hd hdead i hi hf hc h4).mono fun e w' ⟨he, hx⟩ => ⟨_, 17, he, hx⟩
  · exact (slots_Get_bad h hd hdead i hi hf hc).mono fun e w' ⟨he, hx⟩ => ⟨_, _, he, hx⟩
end
end Go.Proofs.YtbgcelfmelpbeaaDoor
