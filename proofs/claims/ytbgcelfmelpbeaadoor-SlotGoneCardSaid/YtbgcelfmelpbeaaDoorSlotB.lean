/- Slots, layer 14: what is put is got. -/
import Derived.Test.YtbgcelfmelpbeaaDoorSlot
namespace Go.Proofs.YtbgcelfmelpbeaaDoor
open Go.RowKit
set_option linter.unusedSimpArgs false
theorem head_eq (k : Nat) (bs : List UInt8) : sectHead k bs = UInt8.ofNat k :: UInt8.ofNat (bs.length / 256) :: UInt8.ofNat bs.length :: (bs ++ zeros (249 - bs.length)) := by
  unfold sectHead; simp
theorem sectOf_len {k : Nat} {bs : List UInt8} (h : bs.length ≤ 249) : (sectOf k bs).length = 256 := by
  unfold sectOf
  rw [List.length_append, sectHead_len h]; rfl
theorem sectOf_get0 (k : Nat) (bs : List UInt8) : (sectOf k bs).getD 0 0 = UInt8.ofNat k := by
  unfold sectOf; rw [head_eq]; rfl
theorem sectOf_sectLen {k : Nat} {bs : List UInt8} (h : bs.length ≤ 249) : sectLen (sectOf k bs) = bs.length := by
  unfold sectLen sectOf
  rw [head_eq]
  show (UInt8.ofNat (bs.length / 256)).toNat * 256 + (UInt8.ofNat bs.length).toNat = _
  rw [UInt8.toNat_ofNat_of_lt' (by show bs.length / 256 < 256; omega), UInt8.toNat_ofNat_of_lt' (by show bs.length < 256; omega)]
  omega
theorem sectOf_body {k : Nat} {bs : List UInt8} (h : bs.length ≤ 249) : sectBody (sectOf k bs) = bs := by
  unfold sectBody
  rw [sectOf_sectLen h]
  unfold sectOf
  rw [head_eq, Nat.add_comm]
  show (bs ++ zeros (249 - bs.length) ++ markBytes _).take bs.length = bs
  rw [List.append_assoc, List.take_left' rfl]
theorem sectOf_code {k : Nat} {bs : List UInt8} (hk : 1 ≤ k ∧ k ≤ 255) (h : bs.length ≤ 249) : sectCode (sectOf k bs) = 0 := by
  have h0 : UInt8.ofNat k ≠ 0 := by
    intro e
    have := congrArg UInt8.toNat e
    rw [UInt8.toNat_ofNat_of_lt' (by show k < 256; omega)] at this
    simp at this
    omega
  have ht : (sectOf k bs).take 252 = sectHead k bs := List.take_left' (sectHead_len h)
  have hd : (sectOf k bs).drop 252 = markBytes (sectHead k bs) := List.drop_left' (sectHead_len h)
  have hz : sectOf k bs ≠ zeros 256 := by
    intro e
    have : (sectOf k bs).getD 0 0 = (zeros 256).getD 0 0 := by rw [e]
    rw [sectOf_get0] at this
    exact h0 this
  have hany : ((sectHead k bs).drop (3 + bs.length)).any (· != 0) = false := by
    rw [head_eq, Nat.add_comm]
    show ((bs ++ zeros (249 - bs.length)).drop bs.length).any (· != 0) = false
    rw [List.drop_left' rfl]
    simp [zeros]
  unfold sectCode
  rw [if_neg hz, sectOf_sectLen h, sectOf_get0, if_neg (by intro g; exact g.elim (fun g => by omega) h0), ht, hd, if_neg (by simp), if_neg (by rw [hany]; simp)]
section
variable {K : Nat → Prop} {w w' : World} {t s a m f n : Nat} {D : DM}
theorem owns_length {w : World} {base : Nat} {v : Value} {bs : List UInt8} {n : Nat} (h : w.ownsRow base 5 1 v n (bs.map vB)) : bs.length = n := by
  have := h.1
  rw [List.length_map] at this
  omega
theorem slots_Put_nil (w : World) (i : Int) (v : Value) : Calls Tryd.prog 12 #[.pointer none, vI i, v] w fun e w' => e = .returned (vI 9) ∧ w = w' := by
  go_enter Tryd.func12, Tryd.ntmps12
  go_wp2_with (first | (go_at_call 19; refine (slots_at_nil _ _).mono ?_; rintro e w' ⟨rfl, rfl⟩))
  go_ret
  exact ⟨rfl, rfl⟩
theorem slots_Get_nil (w : World) (i : Int) : Calls Tryd.prog 6 #[.pointer none, vI i] w fun e w' => e = .returned (.tuple #[.slice none 0 0, vI 9]) ∧ w = w' := by
  go_enter Tryd.func6, Tryd.ntmps6
  go_wp2
  first | refine wp_scope_on (fn := Tryd.f6) 0 rfl ?_ | refine wp_scope_on (fn := Tryd.f6) 1 rfl ?_
  go_wp2_with (first | (go_at_call 19; refine (slots_at_nil _ _).mono ?_; rintro e w' ⟨rfl, rfl⟩))
  go_step3
  refine ⟨rfl, ?_⟩
  go_wp2
  go_ret2
  exact ⟨rfl, rfl⟩
theorem slots_Clear_nil (w : World) (i : Int) : Calls Tryd.prog 13 #[.pointer none, vI i] w fun e w' => e = .returned (vI 9) ∧ w = w' := by
  go_enter Tryd.func13, Tryd.ntmps13
  go_wp2_with (first | (go_at_call 19; refine (slots_at_nil _ _).mono ?_; rintro e w' ⟨rfl, rfl⟩))
  go_ret
  exact ⟨rfl, rfl⟩
theorem slots_Used_nil (w : World) : Calls Tryd.prog 7 #[.pointer none] w fun e w' => e = .returned (.tuple #[.slice none 0 0, vI 9]) ∧ w = w' := by
  go_enter Tryd.func7, Tryd.ntmps7
  go_wp2
  go_ret2
  exact ⟨rfl, rfl⟩
theorem slots_Put (h : SlotsAt w t s f n) (hd : DiskRep K w s a m D) (hK : ∀ k, K k → k < w.heap.size) (hdead : D.dead = false) (hfuse : D.fuse = -1) (i : Nat) (hi : i < n) (hf : f + n ≤ D.n) {e0 : TypeId} {v : Value} {bs : List UInt8} (hv : Sl w e0 v (bs.map vB)) (hl : bs.length ≤ 249) :
    Calls Tryd.prog 12 #[.pointer (some ⟨t, 0, none⟩), vI i, v] w fun e w' => e = .returned (vI 0) ∧ DiskRep K w' s a m (D.put (f + i) (sectOf 4 bs)).did.flush.did ∧ Only (dblk s a m) w w' := by
  have hat := slots_at h hd hdead i hi hf
  have hcast : ((f + i : Nat) : Int) = (f : Int) + i := by omega
  have HS := Lib.hid h
  have HD := Lib.hid hd
  have HV := Lib.hid hv
  have HK := Lib.hid hK
  obtain ⟨A, c, ev⟩ := hv.len
  rw [List.length_map] at ev
  subst ev
  clear h hd hv hK
  go_enter Tryd.func12, Tryd.ntmps12
  go_wp2_with (first
    | (go_at_call 19; refine hat.mono ?_; rintro e w1 ⟨v1, rfl, o1, x1⟩; (have X1 := Lib.hid x1); (have hsp := sect_Put (w := w1) 4 ⟨by decide, by decide⟩ (HV.out.ext x1) hl); clear o1 x1)
    | (go_at_call 26; refine hsp.mono ?_; rintro e w2 ⟨v2, rfl, o2, x2⟩; (have x12 := X1.out.trans x2); (have hov := slots_over (HS.out.ext x12) (HD.out.ext x12) (fun k hk => Nat.lt_of_lt_of_le (HK.out k hk) x12.size) hdead hfuse (f + i) (Nat.lt_of_lt_of_le (Nat.add_lt_add_left hi f) hf) (Sl.of_owns o2) (sectOf_len hl)); rw [hcast] at hov; (have X2 := Lib.hid x12); clear o2 x2 x12 hsp)
    | (go_at_call 27; (refine hov.mono ?_; rintro e w3 ⟨rfl, h3, x3⟩; (have H3 := Lib.hid h3); (have X3 := Lib.hid ((Ext.only X2.out _).trans x3)); clear h3 x3)))
  go_ret
  exact ⟨rfl, H3.out, X3.out⟩
theorem slots_Get_ok (h : SlotsAt w t s f n) (hd : DiskRep K w s a m D) (hdead : D.dead = false) (i : Nat) (hi : i < n) (hf : f + n ≤ D.n) (hc : sectCode (D.cur (f + i)) = 0) (h4 : (D.cur (f + i)).getD 0 0 = 4) :
    Calls Tryd.prog 6 #[.pointer (some ⟨t, 0, none⟩), vI i] w fun e w' => ∃ v, e = .returned (.tuple #[v, vI 0]) ∧ Sl w' 5 v ((sectBody (D.cur (f + i))).map vB) ∧ Ext w w' := by
  have hat := slots_at h hd hdead i hi hf
  generalize D.cur (f + i) = cu at *
  have HC := Lib.hid hc
  have H4 := Lib.hid h4
  clear h hd hc h4
  go_enter Tryd.func6, Tryd.ntmps6
  go_wp2
  go_step3
  go_wp2_with (first
    | (go_at_call 19; refine hat.mono ?_; rintro e w1 ⟨v1, rfl, o1, x1⟩; (have X1 := Lib.hid x1); (have hg := sect_Get_ok (Sl.of_owns o1) (owns_length o1) HC.out); rw [H4.out] at hg; clear o1 x1)
    | (go_at_call 20; refine hg.mono ?_; rintro e w2 ⟨⟨v2, rfl, o2⟩, x2⟩; (have X2 := Lib.hid (X1.out.trans x2)); (have O2 := Lib.hid o2); clear o2 x2))
  rw [Exit.noGoto_ret]
  go_ret2
  exact ⟨_, rfl, O2.out, X2.out⟩
theorem slots_Get_bad (h : SlotsAt w t s f n) (hd : DiskRep K w s a m D) (hdead : D.dead = false) (i : Nat) (hi : i < n) (hf : f + n ≤ D.n) (hc : sectCode (D.cur (f + i)) ≠ 0) :
    Calls Tryd.prog 6 #[.pointer (some ⟨t, 0, none⟩), vI i] w fun e w' => e = .returned (.tuple #[.slice none 0 0, vI (sectCode (D.cur (f + i)))]) ∧ Ext w w' := by
  have hat := slots_at h hd hdead i hi hf
  generalize D.cur (f + i) = cu at *
  have HC := Lib.hid hc
  have hb : (sectCode cu == 0) = false := by simpa using hc
  have hb2 : (sectCode cu != 0) = true := by simpa using hc
  have hgb : ∀ {w : World} {v : Value}, w.ownsRow w.heap.size 5 1 v 256 (cu.map vB) → True := fun _ => trivial
  clear h hd hc hgb
  have hget : ∀ (w1 : World) (v1 : Value) (base : Nat), w1.ownsRow base 5 1 v1 256 (cu.map vB) → Calls Tryd.prog 20 #[v1] w1 fun e w' => e = .returned (.tuple #[vI 0, .slice none 0 0, vI (sectCode cu)]) ∧ Ext w1 w' := fun w1 v1 base o => sect_Get_bad (Sl.of_owns o) (owns_length o) HC.out
  generalize sectCode cu = code at *
  have HG := Lib.hid hget
  clear hget HC
  go_enter Tryd.func6, Tryd.ntmps6
  go_wp2
  first | refine wp_scope_on (fn := Tryd.f6) 0 rfl ?_ | refine wp_scope_on (fn := Tryd.f6) 1 rfl ?_
  go_wp2_with (first
    | (go_at_call 19; refine hat.mono ?_; rintro e w1 ⟨v1, rfl, o1, x1⟩; (have X1 := Lib.hid x1); (have hg := HG.out _ _ _ o1); clear o1 x1)
    | (go_at_call 20; refine hg.mono ?_; rintro e w2 ⟨rfl, x2⟩; (have X2 := Lib.hid (X1.out.trans x2)); clear x2))
  go_step3
  refine ⟨rfl, ?_⟩
  go_wp2
  go_ret2
  exact ⟨rfl, X2.out⟩
theorem slots_Clear (h : SlotsAt w t s f n) (hd : DiskRep K w s a m D) (hK : ∀ k, K k → k < w.heap.size) (hdead : D.dead = false) (hfuse : D.fuse = -1) (i : Nat) (hi : i < n) (hf : f + n ≤ D.n) (hc : D.cur (f + i) ≠ zeros 256) :
    Calls Tryd.prog 13 #[.pointer (some ⟨t, 0, none⟩), vI i] w fun e w' => e = .returned (vI 0) ∧ DiskRep K w' s a m (D.put (f + i) (zeros 256)).did.flush.did ∧ Only (dblk s a m) w w' := by
  have hat := slots_at h hd hdead i hi hf
  have hcast : ((f + i : Nat) : Int) = (f : Int) + i := by omega
  generalize D.cur (f + i) = cu at *
  have HS := Lib.hid h
  have HD := Lib.hid hd
  have HK := Lib.hid hK
  have HC := Lib.hid hc
  clear h hd hK hc
  go_enter Tryd.func13, Tryd.ntmps13
  go_wp2_with (first
    | (go_at_call 19; refine hat.mono ?_; rintro e w1 ⟨v1, rfl, o1, x1⟩; (have X1 := Lib.hid x1); (have hem := sect_Empty (Sl.of_owns o1)); rw [decide_eq_false HC.out] at hem; clear o1 x1)
    | (go_at_call 21; refine hem.mono ?_; rintro e w2 ⟨rfl, x2⟩; (have X2 := Lib.hid (X1.out.trans x2)); clear x2)
    | (go_at_call 28; refine (sect_Zero _).mono ?_; rintro e w3 ⟨rfl, hw3⟩; (have x3 := X2.out.trans (show Ext _ w3 from hw3 ▸ (Only.refl _ _).alloc _)); (have ho := hw3 ▸ zero_owns w2); (have hov := slots_over (HS.out.ext x3) (HD.out.ext x3) (fun k hk => Nat.lt_of_lt_of_le (HK.out k hk) x3.size) hdead hfuse (f + i) (Nat.lt_of_lt_of_le (Nat.add_lt_add_left hi f) hf) (Sl.of_owns ho) (zeros_len 256)); rw [hcast] at hov; (have X3 := Lib.hid x3); clear hw3 x3 ho)
    | (go_at_call 27; refine hov.mono ?_; rintro e w4 ⟨rfl, h4, x4⟩; (have H4 := Lib.hid h4); (have X4 := Lib.hid ((Ext.only X3.out _).trans x4)); clear h4 x4))
  go_ret
  exact ⟨rfl, H4.out, X4.out⟩
end
end Go.Proofs.YtbgcelfmelpbeaaDoor
