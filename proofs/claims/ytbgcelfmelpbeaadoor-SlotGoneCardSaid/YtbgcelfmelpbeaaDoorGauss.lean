/- The complex numbers of layer 3, and the mark of layer 4: contracts. -/
import Derived.Test.YtbgcelfmelpbeaaDoorBase
import Derived.Test.YtbgcelfmelpbeaaDoorFloat
import Derived.Test.YtbgcelfmelpbeaaDoorProg
namespace Go.Proofs.YtbgcelfmelpbeaaDoor
open Go.RowKit
abbrev vC (z : Int × Int) : Value := .complex .f64 (fi z.1) (fi z.2)
def gOf (a b : Int) : Int × Int := (a % 8191, b % 8191)
def gAdd (x y : Int × Int) : Int × Int := gOf (x.1 + y.1) (x.2 + y.2)
def gMul (x y : Int × Int) : Int × Int := gOf (x.1 * y.1 - x.2 * y.2) (x.1 * y.2 + x.2 * y.1)
def GOk (z : Int × Int) : Prop := (0 ≤ z.1 ∧ z.1 < 8191) ∧ (0 ≤ z.2 ∧ z.2 < 8191)
theorem gOf_ok (a b : Int) : GOk (gOf a b) := ⟨⟨Int.emod_nonneg _ (by decide), Int.emod_lt_of_pos _ (by decide)⟩, ⟨Int.emod_nonneg _ (by decide), Int.emod_lt_of_pos _ (by decide)⟩⟩
theorem gauss_rest (w : World) (n : Int) : Calls Tryd.prog 65 #[vI n] w fun e w' => e = .returned (vI (n % 8191)) ∧ w = w' := by
  have hm := Int.mul_tdiv_add_tmod n 8191
  have hd := Int.mul_ediv_add_emod n 8191
  have b1 := Int.tmod_lt_of_pos n (show (0 : Int) < 8191 by decide)
  have b2 := Int.lt_tmod_of_pos n (show (0 : Int) < 8191 by decide)
  by_cases h : n.tmod 8191 < 0
  · have e1 : n.tmod 8191 + 8191 = n % 8191 := by omega
    clear hm hd b1 b2
    go_enter Tryd.func65, Tryd.ntmps65
    go_wp2
    go_ret
    exact ⟨rfl, rfl⟩
  · have e1 : n.tmod 8191 = n % 8191 := by omega
    clear hm hd b1 b2
    rw [e1] at h
    go_enter Tryd.func65, Tryd.ntmps65
    go_wp2
    go_ret
    exact ⟨rfl, rfl⟩
theorem gauss_Of (w : World) (a b : Int) : Calls Tryd.prog 56 #[vI a, vI b] w fun e w' => e = .returned (vC (gOf a b)) ∧ w = w' := by
  go_enter Tryd.func56, Tryd.ntmps56
  go_wp2_with (first | (go_at_call 65; refine (gauss_rest _ _).mono ?_; rintro e w' ⟨rfl, rfl⟩))
  go_ret
  exact ⟨rfl, rfl⟩
theorem gauss_Parts (w : World) (z : Int × Int) (h1 : z.1.natAbs < 2 ^ 53) (h2 : z.2.natAbs < 2 ^ 53) : Calls Tryd.prog 47 #[vC z] w fun e w' => e = .returned (.tuple #[vI z.1, vI z.2]) ∧ w = w' := by
  obtain ⟨a, b⟩ := z
  have e1 : ∀ W, (convert 92 3 (.float .f64 (fi a))).run Tryd.prog W = .ok (vI a) W := fun W => run_convert_float_int W 92 3 .f64 .i64 (fi a) a (by rw [Tryd.underlying92]; rfl) Tryd.underlying3 (int_fi h1)
  have e2 : ∀ W, (convert 92 3 (.float .f64 (fi b))).run Tryd.prog W = .ok (vI b) W := fun W => run_convert_float_int W 92 3 .f64 .i64 (fi b) b (by rw [Tryd.underlying92]; rfl) Tryd.underlying3 (int_fi h2)
  clear h1 h2
  go_enter Tryd.func47, Tryd.ntmps47
  go_wp2
  go_ret2
  exact ⟨rfl, rfl⟩
theorem gauss_back (w : World) (a b : Int) (h1 : a.natAbs < 2 ^ 53) (h2 : b.natAbs < 2 ^ 53) : Calls Tryd.prog 66 #[.complex .f64 (fi a) (fi b)] w fun e w' => e = .returned (vC (gOf a b)) ∧ w = w' := by
  have hp := gauss_Parts w (a, b) h1 h2
  clear h1 h2
  go_enter Tryd.func66, Tryd.ntmps66
  go_wp2_with (first | (go_at_call 47; refine hp.mono ?_; rintro e w' ⟨rfl, rfl⟩) | (go_at_call 56; refine (gauss_Of _ _ _).mono ?_; rintro e w' ⟨rfl, rfl⟩))
  go_ret
  exact ⟨rfl, rfl⟩
theorem gauss_Add (w : World) (x y : Int × Int) (hx : GOk x) (hy : GOk y) : Calls Tryd.prog 58 #[vC x, vC y] w fun e w' => e = .returned (vC (gAdd x y)) ∧ w = w' := by
  have hs := fun W => run_complex_sum (P := Tryd.prog) W .add (.inl rfl) 84 .f64 (fi x.1) (fi x.2) (fi y.1) (fi y.2) _ _ (cadd_fi (by have := hx.1; omega) (by have := hx.2; omega) (by have := hy.1; omega) (by have := hy.2; omega))
  have hb := gauss_back w (x.1 + y.1) (x.2 + y.2) (by have := hx.1; have := hy.1; omega) (by have := hx.2; have := hy.2; omega)
  clear hx hy
  go_enter Tryd.func58, Tryd.ntmps58
  go_wp2_with (first | (go_at_call 66; refine hb.mono ?_; rintro e w' ⟨rfl, rfl⟩))
  go_ret
  exact ⟨rfl, rfl⟩
theorem mul_lt {x y : Int} (hx : 0 ≤ x ∧ x < 8191) (hy : 0 ≤ y ∧ y < 8191) : 0 ≤ x * y ∧ x * y < 67108864 := by
  refine ⟨Int.mul_nonneg hx.1 hy.1, ?_⟩
  calc x * y ≤ 8191 * 8191 := Int.mul_le_mul (by omega) (by omega) hy.1 (by omega)
    _ < 67108864 := by decide
theorem gauss_Mul (w : World) (x y : Int × Int) (hx : GOk x) (hy : GOk y) : Calls Tryd.prog 59 #[vC x, vC y] w fun e w' => e = .returned (vC (gMul x y)) ∧ w = w' := by
  have hs := fun W => run_complex_mul (P := Tryd.prog) W 84 (fi x.1) (fi x.2) (fi y.1) (fi y.2) _ _ (cmul_fi hx.1 hx.2 hy.1 hy.2)
  have h1 := mul_lt hx.1 hy.1
  have h2 := mul_lt hx.2 hy.2
  have h3 := mul_lt hx.1 hy.2
  have h4 := mul_lt hx.2 hy.1
  have hb := gauss_back w (x.1 * y.1 - x.2 * y.2) (x.1 * y.2 + x.2 * y.1) (by omega) (by omega)
  clear hx hy h1 h2 h3 h4
  go_enter Tryd.func59, Tryd.ntmps59
  go_wp2_with (first | (go_at_call 66; refine hb.mono ?_; rintro e w' ⟨rfl, rfl⟩))
  go_ret
  exact ⟨rfl, rfl⟩
theorem mark_Base (w : World) : Calls Tryd.prog 57 #[] w fun e w' => e = .returned (vC (4, 1)) ∧ w = w' := by
  go_enter Tryd.func57, Tryd.ntmps57
  go_wp2_with (first | (go_at_call 56; refine (gauss_Of _ 4 1).mono ?_; rintro e w' ⟨rfl, rfl⟩))
  go_ret
  exact ⟨rfl, rfl⟩
end Go.Proofs.YtbgcelfmelpbeaaDoor
