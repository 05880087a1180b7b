/- What a sealed sector carries: sect.Get. -/
import Derived.Test.YtbgcelfmelpbeaaDoorSect
import Derived.ScopeJumps
import Derived.WalkMore
namespace Go.Proofs.YtbgcelfmelpbeaaDoor
open Go.RowKit
set_option linter.unusedSimpArgs false
def sectLen (s : List UInt8) : Nat := (s.getD 1 0).toNat * 256 + (s.getD 2 0).toNat
/-- what sect.Get says of 256 bytes -/
def sectCode (s : List UInt8) : Int :=
  if s = zeros 256 then 5 else if 249 < sectLen s ∨ s.getD 0 0 = 0 then 17 else if markBytes (s.take 252) ≠ s.drop 252 then 17
  else if ((s.take 252).drop (3 + sectLen s)).any (· != 0) then 17 else 0
def sectBody (s : List UInt8) : List UInt8 := (s.take (3 + sectLen s)).drop 3
theorem wp_scope_on {P : Program} {a : Act} {w : World} {fn : Func} {post : Ending → World → Prop} {c rest : Code} (l : Nat) (hf : findLabel c l = some rest)
    (first : c.wp P (Exit.jump l (fun a w => rest.wp P (bodyPost P fn post) a w) (bodyPost P fn post)) a w) : (Code.scope c).wp P (bodyPost P fn post) a w :=
  wp_scope_jumps l _ (fun _ _ => 0) hf first (fun a w h => Code.wp_mono (fun e a w hq => by
    cases e with
    | goto l' => exact (hq : False).elim
    | _ => exact hq) h)
theorem sect_Get_len (w : World) (A : Option Addr) (n c : Nat) (hn : n ≠ 256) : Calls Tryd.prog 20 #[.slice A n c] w fun e w' => e = .returned (.tuple #[vI 0, .slice none 0 0, vI 1]) ∧ w = w' := by
  have h1 : ((n : Int) != 256) = true := by rw [bne_iff_ne]; omega
  go_enter Tryd.func20, Tryd.ntmps20
  go_wp2
  go_step3
  go_wp2
  rw [Exit.noGoto_ret]
  go_ret3
  exact ⟨rfl, rfl⟩
theorem getD_get {s : List UInt8} {j : Nat} (h : j < s.length) : s.getD j 0 = s[j] := by simp [List.getD, h]
theorem or_i64 (a b : Nat) (ha : a < 4611686018427387904) (hb : b < 4611686018427387904) : bits .or .i64 (a : Int) (b : Int) = ((a ||| b : Nat) : Int) := by
  have hx : a ||| b < 2 ^ 62 := Nat.or_lt_two_pow (by omega) (by omega)
  have h1 : (BitVec.ofInt 64 (a : Int)).toNat = a := by
    rw [BitVec.ofInt_natCast, BitVec.toNat_ofNat]; exact Nat.mod_eq_of_lt (by omega)
  have h2 : (BitVec.ofInt 64 (b : Int)).toNat = b := by
    rw [BitVec.ofInt_natCast, BitVec.toNat_ofNat]; exact Nat.mod_eq_of_lt (by omega)
  show IntKind.i64.wrap ((BitVec.ofInt 64 (a : Int) ||| BitVec.ofInt 64 (b : Int)).toNat : Int) = _
  rw [BitVec.toNat_or, h1, h2, IntKind.wrap_i64]
  omega
theorem wrap_small {n : Int} (h0 : 0 ≤ n) (h1 : n ≤ 9223372036854775807) : wrap64 n = n := by
  unfold wrap64
  omega
theorem or_bytes (x y : UInt8) : bits .or .i64 (wrap64 (wrap64 (x.toNat : Int) * 256)) (wrap64 (y.toNat : Int)) = ((x.toNat * 256 + y.toNat : Nat) : Int) := by
  have hx := UInt8.toNat_lt x
  have hy := UInt8.toNat_lt y
  rw [wrap_small (n := (x.toNat : Int)) (by omega) (by omega), wrap_small (by omega) (by omega), wrap_small (by omega) (by omega), show (x.toNat : Int) * 256 = ((x.toNat * 256 : Nat) : Int) by omega, or_i64 _ _ (by omega) (by omega)]
  have := Nat.shiftLeft_add_eq_or_of_lt (i := 8) (b := y.toNat) (by omega) x.toNat
  rw [Nat.shiftLeft_eq] at this
  rw [show x.toNat * 256 = x.toNat * 2 ^ 8 from rfl, this]
theorem or_bytes' (x y : UInt8) : bits .or .i64 ((x.toNat : Int) * 256) (y.toNat : Int) = ((x.toNat * 256 + y.toNat : Nat) : Int) := by
  have hx := UInt8.toNat_lt x
  have hy := UInt8.toNat_lt y
  have := or_bytes x y
  rwa [wrap_small (n := (x.toNat : Int)) (by omega) (by omega), wrap_small (by omega) (by omega), wrap_small (by omega) (by omega)] at this
theorem sl_sub {w : World} {b off : Nat} {s : List UInt8} (hr : Rd w 5 (some ⟨b, off, none⟩) (s.map vB)) (hs : s.length = 256) {l h c : Nat} (hl : l ≤ h) (hh : h ≤ 256) (hc : h - l ≤ c) :
    Sl w 5 (.slice (some ⟨b, off + l, none⟩) (h - l) c) (((s.take h).drop l).map vB) := by
  have hlen : (((s.take h).drop l).map vB).length = h - l := by simp; omega
  refine ⟨some ⟨b, off + l, none⟩, c, by rw [hlen], by rw [hlen]; exact hc, ?_, fun h => by cases h⟩
  have := hr.sub (l := l) (h := h) (by rw [List.length_map]; omega)
  rwa [← List.map_take, ← List.map_drop] at this
theorem rd3 {w : World} {b off : Nat} {s : List UInt8} (h : Rd w 5 (some ⟨b, off, none⟩) (s.map vB)) {l0 : 0 < s.length} {l1 : 1 < s.length} {l2 : 2 < s.length} {s0 s1 s2 : UInt8} (h0 : s[0] = s0) (h1 : s[1] = s1) (h2 : s[2] = s2) :
    w.cell? ⟨b, off, none⟩ = some (vB s0) ∧ w.cell? ⟨b, off + 1, none⟩ = some (vB s1) ∧ w.cell? ⟨b, off + 2, none⟩ = some (vB s2) := by
  have hc : ∀ j (hj : j < s.length), w.cell? ⟨b, off + j, none⟩ = some (vB s[j]) := by
    intro j hj
    obtain ⟨b', o', hA, h⟩ := h.cell (j := j) (by simpa using hj)
    cases hA
    rw [List.getElem_map] at h
    exact h
  exact ⟨by have := hc 0 l0; rwa [h0] at this, by have := hc 1 l1; rwa [h1] at this, by have := hc 2 l2; rwa [h2] at this⟩
set_option maxHeartbeats 1000000 in
set_option maxRecDepth 20000 in
theorem sect_Get_bad {w : World} {v : Value} {s : List UInt8} (hv : Sl w 5 v (s.map vB)) (hl : s.length = 256) (hc : sectCode s ≠ 0) :
    Calls Tryd.prog 20 #[v] w fun e w' => e = .returned (.tuple #[vI 0, .slice none 0 0, vI (sectCode s)]) ∧ Ext w w' := by
  have he := sect_Empty hv
  obtain ⟨A, c, rfl, hcap, hr, -⟩ := hv
  rw [List.length_map, hl] at he hcap ⊢
  by_cases hz : s = zeros 256
  · have hcode : sectCode s = 5 := by unfold sectCode; rw [if_pos hz]
    rw [decide_eq_true hz] at he
    rw [hcode]
    clear hcode hz hr hc
    go_enter Tryd.func20, Tryd.ntmps20
    go_wp2
    go_step3
    go_wp2_with (first | (go_at_call 21; refine he.mono ?_; rintro e w' ⟨rfl, x⟩))
    rw [Exit.noGoto_ret]
    go_ret3
    exact ⟨rfl, x⟩
  · rw [decide_eq_false hz] at he
    obtain ⟨b, off, rfl⟩ := hr.some (by rw [List.length_map, hl]; omega)
    have HR := Lib.hid hr
    obtain ⟨s0, hs0⟩ : ∃ x, s[0]'(by omega) = x := ⟨_, rfl⟩
    obtain ⟨s1, hs1⟩ : ∃ x, s[1]'(by omega) = x := ⟨_, rfl⟩
    obtain ⟨s2, hs2⟩ : ∃ x, s[2]'(by omega) = x := ⟨_, rfl⟩
    have hn : sectLen s = s1.toNat * 256 + s2.toNat := by unfold sectLen; rw [getD_get (by omega), getD_get (by omega), hs1, hs2]
    have hcd : s.getD 0 0 = s0 := by rw [getD_get (by omega), hs0]
    have hcode : sectCode s = 17 := by
      unfold sectCode at hc ⊢
      rw [if_neg hz] at hc ⊢
      split
      · rfl
      · split
        · rfl
        · split
          · rfl
          · rename_i g1 g2 g3
            rw [if_neg g1, if_neg g2, if_neg g3] at hc
            exact absurd rfl hc
    rw [hcode]
    have HZZ := Lib.hid hz
    clear hz
    go_enter Tryd.func20, Tryd.ntmps20
    go_wp2
    first | refine wp_scope_on (fn := Tryd.f20) 0 rfl ?_ | refine wp_scope_on (fn := Tryd.f20) 1 rfl ?_ | refine wp_scope_on (fn := Tryd.f20) 2 rfl ?_ | refine wp_scope_on (fn := Tryd.f20) 3 rfl ?_
    go_wp2_with (first | (go_at_call 21; refine he.mono ?_; rintro e w1 ⟨rfl, x1⟩; (have X1 := Lib.hid x1); (have hrd := HR.out.ext x1); (have HRD := Lib.hid hrd); clear x1))
    obtain ⟨d0, d1, d2⟩ := rd3 HRD.out hs0 hs1 hs2
    go_quiet (fail)
    rw [or_bytes, ← hn]
    have HC := Lib.hid hc
    have HCD := Lib.hid hcd
    clear d1 d2 hn hs0 hs1 hs2 he hr hc hcode HR hcd
    by_cases hb : 249 < sectLen s
    · have hb' : (249 : Int) < sectLen s := by omega
      go_wp2
      go_step3
      refine ⟨rfl, ?_⟩
      go_wp2
      go_ret3
      exact ⟨rfl, X1.out.drewN _⟩
    · have hb' : ¬ (249 : Int) < sectLen s := by omega
      have hb2 : decide ((249 : Int) < sectLen s) = false := by simp; omega
      by_cases h0 : s0 = 0
      · subst h0
        go_wp2
        go_step3
        refine ⟨rfl, ?_⟩
        go_wp2
        go_ret3
        exact ⟨rfl, X1.out.drewN _⟩
      · have h0' : ((s0.toNat : Int) == 0) = false := by
          rw [beq_eq_false_iff_ne]
          intro h
          exact h0 (UInt8.toNat_inj.1 (by simpa using h))
        have HB := Lib.hid hb
        have H0 := Lib.hid h0
        have hc1 : (252 : Int) ≤ c := by omega
        have hc0 : ¬ c = 0 := by omega
        have hc2 : ¬ c = 252 := by omega
        clear h0 hb hb'
        go_wp2
        obtain ⟨w2, hw2⟩ : ∃ W, W = (w1.drewN nq).drew := ⟨_, rfl⟩
        have hx2 : Ext w1 w2 := by rw [hw2]; exact ((Only.refl _ w1).drewN _).drew
        have hck := mark_Check (sl_sub (HRD.out.ext hx2) hl (l := 0) (h := 252) (by omega) (by omega) (c := c) (by omega)) (sl_sub (HRD.out.ext hx2) hl (l := 252) (h := 256) (by omega) (by omega) (c := c - 252) (by omega)) (by simp; omega)
        rw [List.drop_zero, List.take_of_length_le (i := 256) (by omega)] at hck
        have X2 := Lib.hid (X1.out.trans hx2)
        have HRD2 := Lib.hid (HRD.out.ext hx2)
        refine wp_region_held_drew (S := fun _ => True) (by kernel_rfl) trivial (fun hHeld => ?_)
        rw [← hw2]
        clear hw2 hx2 HRD X1 d0
        by_cases hmk : markBytes (s.take 252) = s.drop 252
        · rw [decide_eq_true hmk] at hck
          have HMK := Lib.hid hmk
          clear hmk
          first
          | (refine wpAnyH_take (i := 0) (v := undef) rfl (by kernel_rfl) (by kernel_rfl) (by kernel_rfl) (fun _ _ _ h => h) (Or.inr ⟨by rfl, rfl⟩) (by assumption) ?_)
          | (refine wpAnyH_take (i := 0) (v := ?_) rfl (by kernel_rfl) (by kernel_rfl) (by kernel_rfl) (fun _ _ _ h => h) (Or.inl ⟨by rfl, ?_⟩) (by assumption) ?_
             rotate_left
             · (intro w hSw; (try dsimp only at hSw); go_simp; try with_reducible rfl))
          try simp only [Act.put, List.setIfInBounds_toArray, List.set_cons_zero, List.set_cons_succ, List.getElem_toArray, List.getElem_cons_zero, List.getElem_cons_succ]
          first
          | (refine wpAnyH_take (i := 1) (v := undef) rfl (by kernel_rfl) (by kernel_rfl) (by kernel_rfl) (fun _ _ _ h => h) (Or.inr ⟨by rfl, rfl⟩) (by assumption) ?_)
          | (refine wpAnyH_take (i := 1) (v := ?_) rfl (by kernel_rfl) (by kernel_rfl) (by kernel_rfl) (fun _ _ _ h => h) (Or.inl ⟨by rfl, ?_⟩) (by assumption) ?_
             rotate_left
             · (intro w hSw; (try dsimp only at hSw); go_simp; try with_reducible rfl))
          try simp only [Act.put, List.setIfInBounds_toArray, List.set_cons_zero, List.set_cons_succ, List.getElem_toArray, List.getElem_cons_zero, List.getElem_cons_succ]
          first
          | (refine wpAnyH_take (i := 2) (v := undef) rfl (by kernel_rfl) (by kernel_rfl) (by kernel_rfl) (fun _ _ _ h => h) (Or.inr ⟨by rfl, rfl⟩) (by assumption) ?_)
          | (refine wpAnyH_take (i := 2) (v := ?_) rfl (by kernel_rfl) (by kernel_rfl) (by kernel_rfl) (fun _ _ _ h => h) (Or.inl ⟨by rfl, ?_⟩) (by assumption) ?_
             rotate_left
             · (intro w hSw; (try dsimp only at hSw); go_simp; try with_reducible rfl))
          try simp only [Act.put, List.setIfInBounds_toArray, List.set_cons_zero, List.set_cons_succ, List.getElem_toArray, List.getElem_cons_zero, List.getElem_cons_succ]
          first
          | (refine wpAnyH_take (i := 3) (v := undef) rfl (by kernel_rfl) (by kernel_rfl) (by kernel_rfl) (fun _ _ _ h => h) (Or.inr ⟨by rfl, rfl⟩) (by assumption) ?_)
          | (refine wpAnyH_take (i := 3) (v := ?_) rfl (by kernel_rfl) (by kernel_rfl) (by kernel_rfl) (fun _ _ _ h => h) (Or.inl ⟨by rfl, ?_⟩) (by assumption) ?_
             rotate_left
             · (intro w hSw; (try dsimp only at hSw); go_simp; try with_reducible rfl))
          try simp only [Act.put, List.setIfInBounds_toArray, List.set_cons_zero, List.set_cons_succ, List.getElem_toArray, List.getElem_cons_zero, List.getElem_cons_succ]
          refine wpAnyH_ready (rs := [4]) (by kernel_rfl) (by simp) ?_
          refine AllReadyH.cons rfl (fun K hK => ?_) AllReadyH.nil
          rw [if_pos (by rfl)]
          simp only [List.getElem_toArray, List.getElem_cons_zero, List.getElem_cons_succ]
          go_simp
          refine hck.mono ?_
          rintro e w3 ⟨rfl, x3⟩
          have X3 := Lib.hid (X2.out.trans x3)
          have htr := bytes_Trim0 (sl_sub (HRD2.out.ext x3) hl (l := 3 + sectLen s) (h := 252) (by have := HB.out; omega) (by omega) (c := c - (3 + sectLen s)) (by omega)) (by simp; omega)
          have hany : ((s.take 252).drop (3 + sectLen s)).any (· != 0) = true := by
            have hor : ¬ (249 < sectLen s ∨ s.getD 0 0 = 0) := by rw [HCD.out]; intro h; exact h.elim HB.out H0.out
            cases ha : ((s.take 252).drop (3 + sectLen s)).any (· != 0) with
            | true => rfl
            | false =>
              refine absurd ?_ HC.out
              unfold sectCode
              rw [if_neg HZZ.out, if_neg hor, if_neg (by rw [HMK.out]; simp), if_neg (by rw [ha]; simp)]
          rw [hany] at htr
          clear x3 X2 HRD2 hany
          refine hK.out _ _ trivial (fun hHeld => ?_)
          clear hK K
          try simp only [Act.put, List.setIfInBounds_toArray, List.set_cons_zero, List.set_cons_succ, List.getElem_toArray, List.getElem_cons_zero, List.getElem_cons_succ]
          first
          | (refine wpAnyH_take (i := 5) (v := undef) rfl (by kernel_rfl) (by kernel_rfl) (by kernel_rfl) (fun _ _ _ h => h) (Or.inr ⟨by rfl, rfl⟩) (by assumption) ?_)
          | (refine wpAnyH_take (i := 5) (v := ?_) rfl (by kernel_rfl) (by kernel_rfl) (by kernel_rfl) (fun _ _ _ h => h) (Or.inl ⟨by rfl, ?_⟩) (by assumption) ?_
             rotate_left
             · (intro w hSw; (try dsimp only at hSw); go_simp; try with_reducible rfl))
          try simp only [Act.put, List.setIfInBounds_toArray, List.set_cons_zero, List.set_cons_succ, List.getElem_toArray, List.getElem_cons_zero, List.getElem_cons_succ]
          refine wpAnyH_done (by kernel_rfl) ?_ _
          generalize sectLen s = n at *
          have hn3 : (3 : Int) + n ≤ 252 := by have := HB.out; omega
          have hcn : ¬ c = 3 + n := by omega
          go_wp2_with (first | (go_at_call 34; refine htr.mono ?_; rintro e w4 ⟨⟨A4, n4, c4, rfl, h4⟩, x4⟩; (have h5 := of_decide_eq_true h4); (have X4 := Lib.hid (X3.out.trans x4)); clear x4 h4))
          go_step3
          refine ⟨rfl, ?_⟩
          go_wp2
          go_ret3
          exact ⟨rfl, X4.out⟩
        · rw [decide_eq_false hmk] at hck
          clear hmk
          first
          | (refine wpAnyH_take (i := 0) (v := undef) rfl (by kernel_rfl) (by kernel_rfl) (by kernel_rfl) (fun _ _ _ h => h) (Or.inr ⟨by rfl, rfl⟩) (by assumption) ?_)
          | (refine wpAnyH_take (i := 0) (v := ?_) rfl (by kernel_rfl) (by kernel_rfl) (by kernel_rfl) (fun _ _ _ h => h) (Or.inl ⟨by rfl, ?_⟩) (by assumption) ?_
             rotate_left
             · (intro w hSw; (try dsimp only at hSw); go_simp; try with_reducible rfl))
          try simp only [Act.put, List.setIfInBounds_toArray, List.set_cons_zero, List.set_cons_succ, List.getElem_toArray, List.getElem_cons_zero, List.getElem_cons_succ]
          first
          | (refine wpAnyH_take (i := 1) (v := undef) rfl (by kernel_rfl) (by kernel_rfl) (by kernel_rfl) (fun _ _ _ h => h) (Or.inr ⟨by rfl, rfl⟩) (by assumption) ?_)
          | (refine wpAnyH_take (i := 1) (v := ?_) rfl (by kernel_rfl) (by kernel_rfl) (by kernel_rfl) (fun _ _ _ h => h) (Or.inl ⟨by rfl, ?_⟩) (by assumption) ?_
             rotate_left
             · (intro w hSw; (try dsimp only at hSw); go_simp; try with_reducible rfl))
          try simp only [Act.put, List.setIfInBounds_toArray, List.set_cons_zero, List.set_cons_succ, List.getElem_toArray, List.getElem_cons_zero, List.getElem_cons_succ]
          first
          | (refine wpAnyH_take (i := 2) (v := undef) rfl (by kernel_rfl) (by kernel_rfl) (by kernel_rfl) (fun _ _ _ h => h) (Or.inr ⟨by rfl, rfl⟩) (by assumption) ?_)
          | (refine wpAnyH_take (i := 2) (v := ?_) rfl (by kernel_rfl) (by kernel_rfl) (by kernel_rfl) (fun _ _ _ h => h) (Or.inl ⟨by rfl, ?_⟩) (by assumption) ?_
             rotate_left
             · (intro w hSw; (try dsimp only at hSw); go_simp; try with_reducible rfl))
          try simp only [Act.put, List.setIfInBounds_toArray, List.set_cons_zero, List.set_cons_succ, List.getElem_toArray, List.getElem_cons_zero, List.getElem_cons_succ]
          first
          | (refine wpAnyH_take (i := 3) (v := undef) rfl (by kernel_rfl) (by kernel_rfl) (by kernel_rfl) (fun _ _ _ h => h) (Or.inr ⟨by rfl, rfl⟩) (by assumption) ?_)
          | (refine wpAnyH_take (i := 3) (v := ?_) rfl (by kernel_rfl) (by kernel_rfl) (by kernel_rfl) (fun _ _ _ h => h) (Or.inl ⟨by rfl, ?_⟩) (by assumption) ?_
             rotate_left
             · (intro w hSw; (try dsimp only at hSw); go_simp; try with_reducible rfl))
          try simp only [Act.put, List.setIfInBounds_toArray, List.set_cons_zero, List.set_cons_succ, List.getElem_toArray, List.getElem_cons_zero, List.getElem_cons_succ]
          refine wpAnyH_ready (rs := [4]) (by kernel_rfl) (by simp) ?_
          refine AllReadyH.cons rfl (fun K hK => ?_) AllReadyH.nil
          rw [if_pos (by rfl)]
          simp only [List.getElem_toArray, List.getElem_cons_zero, List.getElem_cons_succ]
          go_simp
          refine hck.mono ?_
          rintro e w3 ⟨rfl, x3⟩
          have X3 := Lib.hid (X2.out.trans x3)
          clear x3 X2 HRD2
          refine hK.out _ _ trivial (fun hHeld => ?_)
          clear hK K
          try simp only [Act.put, List.setIfInBounds_toArray, List.set_cons_zero, List.set_cons_succ, List.getElem_toArray, List.getElem_cons_zero, List.getElem_cons_succ]
          first
          | (refine wpAnyH_take (i := 5) (v := undef) rfl (by kernel_rfl) (by kernel_rfl) (by kernel_rfl) (fun _ _ _ h => h) (Or.inr ⟨by rfl, rfl⟩) (by assumption) ?_)
          | (refine wpAnyH_take (i := 5) (v := ?_) rfl (by kernel_rfl) (by kernel_rfl) (by kernel_rfl) (fun _ _ _ h => h) (Or.inl ⟨by rfl, ?_⟩) (by assumption) ?_
             rotate_left
             · (intro w hSw; (try dsimp only at hSw); go_simp; try with_reducible rfl))
          try simp only [Act.put, List.setIfInBounds_toArray, List.set_cons_zero, List.set_cons_succ, List.getElem_toArray, List.getElem_cons_zero, List.getElem_cons_succ]
          refine wpAnyH_done (by kernel_rfl) ?_ _
          go_wp2
          go_step3
          refine ⟨rfl, ?_⟩
          go_wp2
          go_ret3
          exact ⟨rfl, X3.out⟩
theorem sectCode_ok {s : List UInt8} (h : sectCode s = 0) : s ≠ zeros 256 ∧ sectLen s ≤ 249 ∧ s.getD 0 0 ≠ 0 ∧ markBytes (s.take 252) = s.drop 252 ∧ ((s.take 252).drop (3 + sectLen s)).any (· != 0) = false := by
  unfold sectCode at h
  split at h
  · exact absurd h (by decide)
  · rename_i h1
    split at h
    · exact absurd h (by decide)
    · rename_i h2
      split at h
      · exact absurd h (by decide)
      · rename_i h3
        split at h
        · exact absurd h (by decide)
        · rename_i h4
          refine ⟨h1, Nat.le_of_not_lt fun h => h2 (.inl h), fun h => h2 (.inr h), Classical.not_not.1 h3, by simpa using h4⟩
set_option maxHeartbeats 1000000 in
set_option maxRecDepth 20000 in
theorem sect_Get_ok {w : World} {v : Value} {s : List UInt8} (hv : Sl w 5 v (s.map vB)) (hl : s.length = 256) (hc : sectCode s = 0) :
    Calls Tryd.prog 20 #[v] w fun e w' => (∃ v', e = .returned (.tuple #[vI ((s.getD 0 0).toNat : Int), v', vI 0]) ∧ Sl w' 5 v' ((sectBody s).map vB)) ∧ Ext w w' := by
  obtain ⟨hz, hb, h0, hmk, hany⟩ := sectCode_ok hc
  have he := sect_Empty hv
  obtain ⟨A, c, rfl, hcap, hr, -⟩ := hv
  rw [List.length_map, hl] at he hcap ⊢
  rw [decide_eq_false hz] at he
  obtain ⟨b, off, rfl⟩ := hr.some (by rw [List.length_map, hl]; omega)
  have HR := Lib.hid hr
  obtain ⟨s0, hs0⟩ : ∃ x, s[0]'(by omega) = x := ⟨_, rfl⟩
  obtain ⟨s1, hs1⟩ : ∃ x, s[1]'(by omega) = x := ⟨_, rfl⟩
  obtain ⟨s2, hs2⟩ : ∃ x, s[2]'(by omega) = x := ⟨_, rfl⟩
  have hn : sectLen s = s1.toNat * 256 + s2.toNat := by unfold sectLen; rw [getD_get (by omega), getD_get (by omega), hs1, hs2]
  have hcd : s.getD 0 0 = s0 := by rw [getD_get (by omega), hs0]
  rw [hcd] at h0 ⊢
  have HMK := Lib.hid hmk
  have HANY := Lib.hid hany
  have hbody : sectBody s = (s.take (3 + sectLen s)).drop 3 := rfl
  have HBODY := Lib.hid hbody
  clear hz hmk hany hbody
  go_enter Tryd.func20, Tryd.ntmps20
  go_wp2
  go_step3
  go_wp2_with (first | (go_at_call 21; refine he.mono ?_; rintro e w1 ⟨rfl, x1⟩; (have X1 := Lib.hid x1); (have hrd := HR.out.ext x1); (have HRD := Lib.hid hrd); clear x1 hrd))
  obtain ⟨d0, d1, d2⟩ := rd3 HRD.out hs0 hs1 hs2
  go_quiet (fail)
  first | rw [or_bytes', ← hn] | rw [or_bytes, ← hn]
  have hb' : ¬ (249 : Int) < sectLen s := by omega
  have hb2 : decide ((249 : Int) < sectLen s) = false := by simp; omega
  have h0' : ((s0.toNat : Int) == 0) = false := by
    rw [beq_eq_false_iff_ne]
    intro h
    exact h0 (UInt8.toNat_inj.1 (by simpa using h))
  have HB := Lib.hid hb
  have hc1 : (252 : Int) ≤ c := by omega
  have hc0 : ¬ c = 0 := by omega
  have hc2 : ¬ c = 252 := by omega
  clear d1 d2 hn hs1 hs2 he hr hc HR hcd h0 hb
  go_wp2
  obtain ⟨w2, hw2⟩ : ∃ W, W = (w1.drewN nq).drew := ⟨_, rfl⟩
  have hx2 : Ext w1 w2 := by rw [hw2]; exact ((Only.refl _ w1).drewN _).drew
  have hck := mark_Check (sl_sub (HRD.out.ext hx2) hl (l := 0) (h := 252) (by omega) (by omega) (c := c) (by omega)) (sl_sub (HRD.out.ext hx2) hl (l := 252) (h := 256) (by omega) (by omega) (c := c - 252) (by omega)) (by simp; omega)
  rw [List.drop_zero, List.take_of_length_le (i := 256) (by omega), decide_eq_true HMK.out] at hck
  have X2 := Lib.hid (X1.out.trans hx2)
  have HRD2 := Lib.hid (HRD.out.ext hx2)
  refine wp_region_held_drew (S := fun _ => True) (by kernel_rfl) trivial (fun hHeld => ?_)
  rw [← hw2]
  clear hw2 hx2 HRD X1 d0
  first
  | (refine wpAnyH_take (i := 0) (v := undef) rfl (by kernel_rfl) (by kernel_rfl) (by kernel_rfl) (fun _ _ _ h => h) (Or.inr ⟨by rfl, rfl⟩) (by assumption) ?_)
  | (refine wpAnyH_take (i := 0) (v := ?_) rfl (by kernel_rfl) (by kernel_rfl) (by kernel_rfl) (fun _ _ _ h => h) (Or.inl ⟨by rfl, ?_⟩) (by assumption) ?_
     rotate_left
     · (intro w hSw; (try dsimp only at hSw); go_simp; try with_reducible rfl))
  try simp only [Act.put, List.setIfInBounds_toArray, List.set_cons_zero, List.set_cons_succ, List.getElem_toArray, List.getElem_cons_zero, List.getElem_cons_succ]
  first
  | (refine wpAnyH_take (i := 1) (v := undef) rfl (by kernel_rfl) (by kernel_rfl) (by kernel_rfl) (fun _ _ _ h => h) (Or.inr ⟨by rfl, rfl⟩) (by assumption) ?_)
  | (refine wpAnyH_take (i := 1) (v := ?_) rfl (by kernel_rfl) (by kernel_rfl) (by kernel_rfl) (fun _ _ _ h => h) (Or.inl ⟨by rfl, ?_⟩) (by assumption) ?_
     rotate_left
     · (intro w hSw; (try dsimp only at hSw); go_simp; try with_reducible rfl))
  try simp only [Act.put, List.setIfInBounds_toArray, List.set_cons_zero, List.set_cons_succ, List.getElem_toArray, List.getElem_cons_zero, List.getElem_cons_succ]
  first
  | (refine wpAnyH_take (i := 2) (v := undef) rfl (by kernel_rfl) (by kernel_rfl) (by kernel_rfl) (fun _ _ _ h => h) (Or.inr ⟨by rfl, rfl⟩) (by assumption) ?_)
  | (refine wpAnyH_take (i := 2) (v := ?_) rfl (by kernel_rfl) (by kernel_rfl) (by kernel_rfl) (fun _ _ _ h => h) (Or.inl ⟨by rfl, ?_⟩) (by assumption) ?_
     rotate_left
     · (intro w hSw; (try dsimp only at hSw); go_simp; try with_reducible rfl))
  try simp only [Act.put, List.setIfInBounds_toArray, List.set_cons_zero, List.set_cons_succ, List.getElem_toArray, List.getElem_cons_zero, List.getElem_cons_succ]
  first
  | (refine wpAnyH_take (i := 3) (v := undef) rfl (by kernel_rfl) (by kernel_rfl) (by kernel_rfl) (fun _ _ _ h => h) (Or.inr ⟨by rfl, rfl⟩) (by assumption) ?_)
  | (refine wpAnyH_take (i := 3) (v := ?_) rfl (by kernel_rfl) (by kernel_rfl) (by kernel_rfl) (fun _ _ _ h => h) (Or.inl ⟨by rfl, ?_⟩) (by assumption) ?_
     rotate_left
     · (intro w hSw; (try dsimp only at hSw); go_simp; try with_reducible rfl))
  try simp only [Act.put, List.setIfInBounds_toArray, List.set_cons_zero, List.set_cons_succ, List.getElem_toArray, List.getElem_cons_zero, List.getElem_cons_succ]
  refine wpAnyH_ready (rs := [4]) (by kernel_rfl) (by simp) ?_
  refine AllReadyH.cons rfl (fun K hK => ?_) AllReadyH.nil
  rw [if_pos (by rfl)]
  simp only [List.getElem_toArray, List.getElem_cons_zero, List.getElem_cons_succ]
  go_simp
  refine hck.mono ?_
  rintro e w3 ⟨rfl, x3⟩
  have X3 := Lib.hid (X2.out.trans x3)
  have HRD3 := Lib.hid (HRD2.out.ext x3)
  have htr := bytes_Trim0 (sl_sub HRD3.out hl (l := 3 + sectLen s) (h := 252) (by have := HB.out; omega) (by omega) (c := c - (3 + sectLen s)) (by omega)) (by simp; omega)
  rw [HANY.out] at htr
  clear x3 X2 HRD2
  refine hK.out _ _ trivial (fun hHeld => ?_)
  clear hK K
  try simp only [Act.put, List.setIfInBounds_toArray, List.set_cons_zero, List.set_cons_succ, List.getElem_toArray, List.getElem_cons_zero, List.getElem_cons_succ]
  first
  | (refine wpAnyH_take (i := 5) (v := undef) rfl (by kernel_rfl) (by kernel_rfl) (by kernel_rfl) (fun _ _ _ h => h) (Or.inr ⟨by rfl, rfl⟩) (by assumption) ?_)
  | (refine wpAnyH_take (i := 5) (v := ?_) rfl (by kernel_rfl) (by kernel_rfl) (by kernel_rfl) (fun _ _ _ h => h) (Or.inl ⟨by rfl, ?_⟩) (by assumption) ?_
     rotate_left
     · (intro w hSw; (try dsimp only at hSw); go_simp; try with_reducible rfl))
  try simp only [Act.put, List.setIfInBounds_toArray, List.set_cons_zero, List.set_cons_succ, List.getElem_toArray, List.getElem_cons_zero, List.getElem_cons_succ]
  refine wpAnyH_done (by kernel_rfl) ?_ _
  have HLB := Lib.hid (show (sectBody s).length ≤ 249 by rw [HBODY.out]; have := HB.out; simp; omega)
  have hsub := fun w (h : Rd w 5 (some ⟨b, off, none⟩) (s.map vB)) => sl_sub h hl (l := 3) (h := 3 + sectLen s) (c := c - 3) (by omega) (by have := HB.out; omega) (by have := HB.out; omega)
  rw [← HBODY.out] at hsub
  have HSUB := Lib.hid hsub
  clear hsub
  generalize sectLen s = n at *
  have hn3 : (3 : Int) + n ≤ 252 := by have := HB.out; omega
  have hn4 : (3 : Int) + n ≤ c := by omega
  have hcn : ¬ c = 3 + n := by omega
  have hc3 : ¬ c = 3 := by omega
  go_wp2_with (first | (go_at_call 34; refine htr.mono ?_; rintro e w4 ⟨⟨A4, n4, c4, rfl, h4⟩, x4⟩; (have h5 := of_decide_eq_false h4); (have X4 := Lib.hid (X3.out.trans x4)); (have hrd4 := HRD3.out.ext x4); (have HRD4 := Lib.hid hrd4); clear x4 hrd4 X3 HRD3))
  obtain ⟨d0, -, -⟩ := rd3 (l0 := by omega) (l1 := by omega) (l2 := by omega) (HRD4.out) hs0 rfl rfl
  clear hs0
  have hcl := clone_any (w := w4.drew) (HSUB.out w4.drew HRD4.out) (by have := HLB.out; omega)
  rw [Nat.add_sub_cancel_left] at hcl
  have hs0b := UInt8.toNat_lt s0
  refine wp_region_held_drew (S := fun w' => w'.cell? ⟨b, off, none⟩ = some (vB s0)) (by kernel_rfl) d0 (fun hHeld => ?_)
  have hw3 : IntKind.i64.wrap (3 + (n : Int)) = 3 + (n : Int) := by rw [IntKind.wrap_i64]; omega
  have hw4 : IntKind.i64.wrap (s0.toNat : Int) = (s0.toNat : Int) := by rw [IntKind.wrap_i64]; omega
  have hq1 : (0 : Int) ≤ 3 + (n : Int) := by omega
  have hq2 : (3 : Int) ≤ 3 + (n : Int) := by omega
  have hq3 : max (3 + (n : Int)) 0 = 3 + (n : Int) := by omega
  have hq4 : (3 + (n : Int)).toNat = 3 + n := by omega
  first
  | (refine wpAnyH_take (i := 0) (v := undef) rfl (by kernel_rfl) (by kernel_rfl) (by kernel_rfl) (fun _ _ _ h => h) (Or.inr ⟨by rfl, rfl⟩) (by assumption) ?_)
  | (refine wpAnyH_take (i := 0) (v := ?_) rfl (by kernel_rfl) (by kernel_rfl) (by kernel_rfl) (fun _ _ _ h => h) (Or.inl ⟨by rfl, ?_⟩) (by assumption) ?_
     rotate_left
     · (intro w hSw; (try dsimp only at hSw); go_simp; try with_reducible rfl))
  try simp only [Act.put, List.setIfInBounds_toArray, List.set_cons_zero, List.set_cons_succ, List.getElem_toArray, List.getElem_cons_zero, List.getElem_cons_succ]
  first
  | (refine wpAnyH_take (i := 1) (v := undef) rfl (by kernel_rfl) (by kernel_rfl) (by kernel_rfl) (fun _ _ _ h => h) (Or.inr ⟨by rfl, rfl⟩) (by assumption) ?_)
  | (refine wpAnyH_take (i := 1) (v := ?_) rfl (by kernel_rfl) (by kernel_rfl) (by kernel_rfl) (fun _ _ _ h => h) (Or.inl ⟨by rfl, ?_⟩) (by assumption) ?_
     rotate_left
     · (intro w hSw; (try dsimp only at hSw); go_simp; try with_reducible rfl))
  try simp only [Act.put, List.setIfInBounds_toArray, List.set_cons_zero, List.set_cons_succ, List.getElem_toArray, List.getElem_cons_zero, List.getElem_cons_succ]
  first
  | (refine wpAnyH_take (i := 2) (v := undef) rfl (by kernel_rfl) (by kernel_rfl) (by kernel_rfl) (fun _ _ _ h => h) (Or.inr ⟨by rfl, rfl⟩) (by assumption) ?_)
  | (refine wpAnyH_take (i := 2) (v := ?_) rfl (by kernel_rfl) (by kernel_rfl) (by kernel_rfl) (fun _ _ _ h => h) (Or.inl ⟨by rfl, ?_⟩) (by assumption) ?_
     rotate_left
     · (intro w hSw; (try dsimp only at hSw); go_simp; try with_reducible rfl))
  try simp only [Act.put, List.setIfInBounds_toArray, List.set_cons_zero, List.set_cons_succ, List.getElem_toArray, List.getElem_cons_zero, List.getElem_cons_succ]
  first
  | (refine wpAnyH_take (i := 3) (v := undef) rfl (by kernel_rfl) (by kernel_rfl) (by kernel_rfl) (fun _ _ _ h => h) (Or.inr ⟨by rfl, rfl⟩) (by assumption) ?_)
  | (refine wpAnyH_take (i := 3) (v := ?_) rfl (by kernel_rfl) (by kernel_rfl) (by kernel_rfl) (fun _ _ _ h => h) (Or.inl ⟨by rfl, ?_⟩) (by assumption) ?_
     rotate_left
     · (intro w hSw; (try dsimp only at hSw); go_simp; try with_reducible rfl))
  try simp only [Act.put, List.setIfInBounds_toArray, List.set_cons_zero, List.set_cons_succ, List.getElem_toArray, List.getElem_cons_zero, List.getElem_cons_succ]
  first
  | (refine wpAnyH_take (i := 4) (v := undef) rfl (by kernel_rfl) (by kernel_rfl) (by kernel_rfl) (fun _ _ _ h => h) (Or.inr ⟨by rfl, rfl⟩) (by assumption) ?_)
  | (refine wpAnyH_take (i := 4) (v := ?_) rfl (by kernel_rfl) (by kernel_rfl) (by kernel_rfl) (fun _ _ _ h => h) (Or.inl ⟨by rfl, ?_⟩) (by assumption) ?_
     rotate_left
     · (intro w hSw; (try dsimp only at hSw); go_simp; try with_reducible rfl))
  try simp only [Act.put, List.setIfInBounds_toArray, List.set_cons_zero, List.set_cons_succ, List.getElem_toArray, List.getElem_cons_zero, List.getElem_cons_succ]
  first
  | (refine wpAnyH_take (i := 5) (v := undef) rfl (by kernel_rfl) (by kernel_rfl) (by kernel_rfl) (fun _ _ _ h => h) (Or.inr ⟨by rfl, rfl⟩) (by assumption) ?_)
  | (refine wpAnyH_take (i := 5) (v := ?_) rfl (by kernel_rfl) (by kernel_rfl) (by kernel_rfl) (fun _ _ _ h => h) (Or.inl ⟨by rfl, ?_⟩) (by assumption) ?_
     rotate_left
     · (intro w hSw; (try dsimp only at hSw); go_simp; try with_reducible rfl))
  try simp only [Act.put, List.setIfInBounds_toArray, List.set_cons_zero, List.set_cons_succ, List.getElem_toArray, List.getElem_cons_zero, List.getElem_cons_succ]
  first
  | (refine wpAnyH_take (i := 6) (v := undef) rfl (by kernel_rfl) (by kernel_rfl) (by kernel_rfl) (fun _ _ _ h => h) (Or.inr ⟨by rfl, rfl⟩) (by assumption) ?_)
  | (refine wpAnyH_take (i := 6) (v := ?_) rfl (by kernel_rfl) (by kernel_rfl) (by kernel_rfl) (fun _ _ _ h => h) (Or.inl ⟨by rfl, ?_⟩) (by assumption) ?_
     rotate_left
     · (intro w hSw; (try dsimp only at hSw); go_simp; try with_reducible rfl))
  try simp only [Act.put, List.setIfInBounds_toArray, List.set_cons_zero, List.set_cons_succ, List.getElem_toArray, List.getElem_cons_zero, List.getElem_cons_succ]
  first
  | (refine wpAnyH_take (i := 7) (v := undef) rfl (by kernel_rfl) (by kernel_rfl) (by kernel_rfl) (fun _ _ _ h => h) (Or.inr ⟨by rfl, rfl⟩) (by assumption) ?_)
  | (refine wpAnyH_take (i := 7) (v := ?_) rfl (by kernel_rfl) (by kernel_rfl) (by kernel_rfl) (fun _ _ _ h => h) (Or.inl ⟨by rfl, ?_⟩) (by assumption) ?_
     rotate_left
     · (intro w hSw; (try dsimp only at hSw); go_simp; try with_reducible rfl))
  try simp only [Act.put, List.setIfInBounds_toArray, List.set_cons_zero, List.set_cons_succ, List.getElem_toArray, List.getElem_cons_zero, List.getElem_cons_succ]
  refine wpAnyH_ready (rs := [8]) (by kernel_rfl) (by simp) ?_
  refine AllReadyH.cons rfl (fun K hK => ?_) AllReadyH.nil
  rw [if_pos (by rfl)]
  simp only [List.getElem_toArray, List.getElem_cons_zero, List.getElem_cons_succ]
  go_simp
  refine hcl.mono ?_
  rintro e w5 ⟨v5, rfl, o5, x5⟩
  have d5 := x5.cell (p := ⟨b, off, none⟩) d0 id
  refine hK.out _ _ d5 (fun hHeld => ?_)
  clear hK K
  try simp only [Act.put, List.setIfInBounds_toArray, List.set_cons_zero, List.set_cons_succ, List.getElem_toArray, List.getElem_cons_zero, List.getElem_cons_succ]
  first
  | (refine wpAnyH_take (i := 9) (v := undef) rfl (by kernel_rfl) (by kernel_rfl) (by kernel_rfl) (fun _ _ _ h => h) (Or.inr ⟨by rfl, rfl⟩) (by assumption) ?_)
  | (refine wpAnyH_take (i := 9) (v := ?_) rfl (by kernel_rfl) (by kernel_rfl) (by kernel_rfl) (fun _ _ _ h => h) (Or.inl ⟨by rfl, ?_⟩) (by assumption) ?_
     rotate_left
     · (intro w hSw; (try dsimp only at hSw); go_simp; try with_reducible rfl))
  try simp only [Act.put, List.setIfInBounds_toArray, List.set_cons_zero, List.set_cons_succ, List.getElem_toArray, List.getElem_cons_zero, List.getElem_cons_succ]
  first
  | (refine wpAnyH_take (i := 10) (v := undef) rfl (by kernel_rfl) (by kernel_rfl) (by kernel_rfl) (fun _ _ _ h => h) (Or.inr ⟨by rfl, rfl⟩) (by assumption) ?_)
  | (refine wpAnyH_take (i := 10) (v := ?_) rfl (by kernel_rfl) (by kernel_rfl) (by kernel_rfl) (fun _ _ _ h => h) (Or.inl ⟨by rfl, ?_⟩) (by assumption) ?_
     rotate_left
     · (intro w hSw; (try dsimp only at hSw); go_simp; try with_reducible rfl))
  try simp only [Act.put, List.setIfInBounds_toArray, List.set_cons_zero, List.set_cons_succ, List.getElem_toArray, List.getElem_cons_zero, List.getElem_cons_succ]
  first
  | (refine wpAnyH_take (i := 11) (v := undef) rfl (by kernel_rfl) (by kernel_rfl) (by kernel_rfl) (fun _ _ _ h => h) (Or.inr ⟨by rfl, rfl⟩) (by assumption) ?_)
  | (refine wpAnyH_take (i := 11) (v := ?_) rfl (by kernel_rfl) (by kernel_rfl) (by kernel_rfl) (fun _ _ _ h => h) (Or.inl ⟨by rfl, ?_⟩) (by assumption) ?_
     rotate_left
     · (intro w hSw; (try dsimp only at hSw); go_simp; try with_reducible rfl))
  try simp only [Act.put, List.setIfInBounds_toArray, List.set_cons_zero, List.set_cons_succ, List.getElem_toArray, List.getElem_cons_zero, List.getElem_cons_succ]
  refine wpAnyH_done (by kernel_rfl) ?_ _
  go_wp2
  rw [Exit.noGoto_ret]
  go_ret3
  refine ⟨⟨_, ?_, Sl.of_owns o5⟩, (X4.out.drew).trans x5⟩
  first | rfl | (rw [wrap_small (by omega) (by omega)]; rfl)
end Go.Proofs.YtbgcelfmelpbeaaDoor
