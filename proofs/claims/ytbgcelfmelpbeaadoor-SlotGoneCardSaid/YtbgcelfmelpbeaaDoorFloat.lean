/- Whole numbers in a float64: below 2^53 a sum, a difference, a product of two not below nought are exact. Plain arithmetic; no program in sight. -/
import Derived.Laws.FloatArith
import Derived.Laws.ComplexArith
namespace Go.Proofs.YtbgcelfmelpbeaaDoor
open Ieee
/-- d stands for the whole number n, and its sign is n's -/
def IsInt (d : Datum) (n : Int) : Prop := ∃ k : Nat, d = .number (decide (n < 0)) (n.natAbs * 2 ^ k) (-(k : Int))
theorem log2_mul_pow {M k : Nat} (hM : M ≠ 0) : (M * 2 ^ k).log2 = M.log2 + k := by
  have hp : M * 2 ^ k ≠ 0 := Nat.mul_ne_zero hM (Nat.ne_of_gt (Nat.two_pow_pos k))
  refine (Nat.log2_eq_iff hp).2 ⟨?_, ?_⟩
  · rw [Nat.pow_add]
    exact Nat.mul_le_mul_right _ (Nat.log2_self_le hM)
  · rw [show M.log2 + k + 1 = M.log2 + 1 + k by omega, Nat.pow_add]
    exact Nat.mul_lt_mul_of_pos_right (Nat.lt_log2_self) (Nat.two_pow_pos k)
theorem cut_even {neg : Bool} {q drop : Nat} (hq : q ≠ 0) : Toward.even.cut neg (q * 2 ^ drop) drop = q := by
  unfold Toward.cut
  have hl : min drop ((q * 2 ^ drop).log2 + 2) = drop := by rw [log2_mul_pow hq]; omega
  simp only [hl, Nat.one_shiftLeft]
  have hp := Nat.two_pow_pos drop
  rw [Nat.mul_div_cancel _ hp, Nat.mul_mod_left]
  have h1 : ¬ 2 ^ drop < 2 * 0 := by omega
  have h2 : (2 ^ drop == 2 * 0) = false := by simp
  simp [h1, h2]
theorem cut_zero {neg : Bool} {q drop : Nat} : Toward.zero.cut neg (q * 2 ^ drop) drop = q := by
  unfold Toward.cut
  by_cases hq : q = 0
  · subst hq; simp
  have hl : min drop ((q * 2 ^ drop).log2 + 2) = drop := by rw [log2_mul_pow hq]; omega
  simp only [hl, Nat.one_shiftLeft]
  rw [Nat.mul_div_cancel _ (Nat.two_pow_pos drop)]
  rfl
/-- where a whole number lies -/
def rungOf (M : Nat) : Nat := (M.log2 + 1022) * 2 ^ 52 + M * 2 ^ (52 - M.log2)
theorem log2_le {M : Nat} (h : M < 2 ^ 53) : M.log2 ≤ 52 := by
  by_cases h0 : M = 0
  · subst h0; decide
  · have := (Nat.log2_lt h0).2 h
    omega
theorem top_ge {M : Nat} (h0 : M ≠ 0) (h : M < 2 ^ 53) : 2 ^ 52 ≤ M * 2 ^ (52 - M.log2) ∧ M * 2 ^ (52 - M.log2) < 2 ^ 53 := by
  have hl := log2_le h
  constructor
  · calc 2 ^ 52 = 2 ^ M.log2 * 2 ^ (52 - M.log2) := by rw [← Nat.pow_add]; congr 1; omega
      _ ≤ _ := Nat.mul_le_mul_right _ (Nat.log2_self_le h0)
  · calc M * 2 ^ (52 - M.log2) < 2 ^ (M.log2 + 1) * 2 ^ (52 - M.log2) := Nat.mul_lt_mul_of_pos_right Nat.lt_log2_self (Nat.two_pow_pos _)
      _ = 2 ^ 53 := by rw [← Nat.pow_add]; congr 1; omega
theorem nearest_int {neg : Bool} {M k : Nat} (h0 : M ≠ 0) (h : M < 2 ^ 53) : double.nearest neg (M * 2 ^ k) (-(k : Int)) = double.word neg (rungOf M) := by
  have hl := log2_le h
  have ht := top_ge h0 h
  have hp : M * 2 ^ k ≠ 0 := Nat.mul_ne_zero h0 (Nat.ne_of_gt (Nat.two_pow_pos k))
  unfold Format.nearest
  rw [if_neg hp]
  have hlast : max (-(k : Int) + ((M * 2 ^ k).log2 : Nat) - (double.fractionBits : Nat)) double.leastPlace = (M.log2 : Int) - 52 := by
    rw [log2_mul_pow h0]
    have e1 : double.leastPlace = -1074 := by decide
    have e2 : double.fractionBits = 52 := rfl
    rw [e1, e2]
    omega
  simp only [hlast]
  have hkept : Toward.even.cut neg ((M * 2 ^ k) <<< (-(k : Int) - ((M.log2 : Int) - 52)).toNat) ((M.log2 : Int) - 52 - -(k : Int)).toNat = M * 2 ^ (52 - M.log2) := by
    by_cases hk : k ≤ 52 - M.log2
    · rw [show (-(k : Int) - ((M.log2 : Int) - 52)).toNat = 52 - M.log2 - k by omega, show ((M.log2 : Int) - 52 - -(k : Int)).toNat = 0 by omega, Nat.shiftLeft_eq, Nat.mul_assoc, ← Nat.pow_add,
        show k + (52 - M.log2 - k) = 52 - M.log2 by omega]
      have := cut_even (neg := neg) (q := M * 2 ^ (52 - M.log2)) (drop := 0) (by omega)
      simpa using this
    · rw [show (-(k : Int) - ((M.log2 : Int) - 52)).toNat = 0 by omega, show ((M.log2 : Int) - 52 - -(k : Int)).toNat = k - (52 - M.log2) by omega, Nat.shiftLeft_eq, Nat.pow_zero, Nat.mul_one]
      have e : M * 2 ^ k = M * 2 ^ (52 - M.log2) * 2 ^ (k - (52 - M.log2)) := by rw [Nat.mul_assoc, ← Nat.pow_add]; congr 2; omega
      rw [e]
      exact cut_even (by omega)
  rw [hkept]
  have e1 : ((M.log2 : Int) - 52 - double.leastPlace).toNat = M.log2 + 1022 := by
    rw [show double.leastPlace = -1074 by decide]; omega
  have e2 : double.binade = 2 ^ 52 := rfl
  have e3 : double.infRung = 2047 * 2 ^ 52 := by decide
  rw [e1, e2, e3]
  unfold rungOf
  congr 1
  omega
theorem write_int {d : Datum} {n : Int} (hd : IsInt d n) (hn : n.natAbs < 2 ^ 53) : double.write d = floatOfInt .f64 n := by
  obtain ⟨k, rfl⟩ := hd
  show double.nearest _ _ _ = double.nearest _ _ 0
  by_cases h0 : n.natAbs = 0
  · obtain rfl : n = 0 := by omega
    simp [Format.nearest]
  · rw [nearest_int h0 hn]
    have := nearest_int (neg := decide (n < 0)) (k := 0) h0 hn
    simp only [Nat.pow_zero, Nat.mul_one] at this
    exact this.symm
theorem read_word {neg : Bool} {M : Nat} (h0 : M ≠ 0) (h : M < 2 ^ 53) : double.read (double.word neg (rungOf M)) = .number neg (M * 2 ^ (52 - M.log2)) (-((52 - M.log2 : Nat) : Int)) := by
  have hl := log2_le h
  obtain ⟨ht1, ht2⟩ := top_ge h0 h
  generalize hT : M * 2 ^ (52 - M.log2) = T at *
  have hr : rungOf M = (M.log2 + 1023) * 2 ^ 52 + (T - 2 ^ 52) := by unfold rungOf; rw [hT]; omega
  have hr1 : 2 ^ 52 ≤ rungOf M := by omega
  have hr2 : rungOf M < 2047 * 2 ^ 52 := by omega
  have hmod : rungOf M % 2 ^ 52 = T - 2 ^ 52 := by
    rw [hr, Nat.mul_comm, Nat.mul_add_mod]; exact Nat.mod_eq_of_lt (by omega)
  have hdiv : rungOf M / 2 ^ 52 = M.log2 + 1023 := by
    rw [hr, Nat.mul_comm, Nat.mul_add_div (by decide)]
    have : (T - 2 ^ 52) / 2 ^ 52 = 0 := Nat.div_eq_of_lt (by omega)
    omega
  have hsw : double.signWeight = 2 ^ 63 := rfl
  have hneg : (double.word neg (rungOf M) / double.signWeight % 2 == 1) = neg := by
    rw [hsw]
    cases neg
    · have e : double.word false (rungOf M) = rungOf M := rfl
      rw [e, show rungOf M / 2 ^ 63 = 0 by omega]; rfl
    · have e : double.word true (rungOf M) = 2 ^ 63 + rungOf M := rfl
      rw [e, show (2 ^ 63 + rungOf M) / 2 ^ 63 = 1 by omega]; rfl
  have hrung : double.word neg (rungOf M) % double.signWeight = rungOf M := by
    rw [hsw]
    cases neg
    · have e : double.word false (rungOf M) = rungOf M := rfl
      rw [e]; exact Nat.mod_eq_of_lt (by omega)
    · have e : double.word true (rungOf M) = 2 ^ 63 + rungOf M := rfl
      rw [e]; omega
  unfold Format.read
  simp only [hneg, hrung]
  have e2 : double.binade = 2 ^ 52 := rfl
  have e3 : double.infRung = 2047 * 2 ^ 52 := by decide
  rw [e2, e3, if_neg (by omega), if_pos hr2, hmod, hdiv, show double.leastPlace = -1074 by decide]
  rw [show 2 ^ 52 + (T - 2 ^ 52) = T by omega, show (-1074 : Int) + ((M.log2 + 1023 - 1 : Nat) : Int) = -((52 - M.log2 : Nat) : Int) by omega]
theorem read_int {n : Int} (hn : n.natAbs < 2 ^ 53) : IsInt (double.read (floatOfInt .f64 n)) n := by
  show IsInt (double.read (double.nearest (decide (n < 0)) n.natAbs 0)) n
  by_cases h0 : n.natAbs = 0
  · obtain rfl : n = 0 := by omega
    obtain ⟨k, hk⟩ : ∃ k : Nat, double.leastPlace = -(k : Int) := ⟨1074, by decide⟩
    have e : double.read (double.nearest (decide ((0 : Int) < 0)) (Int.natAbs 0) 0) = .number false 0 double.leastPlace := rfl
    rw [e, hk]
    exact ⟨k, by rw [Int.natAbs_zero, Nat.zero_mul]; rfl⟩
  · have := nearest_int (neg := decide (n < 0)) (k := 0) h0 hn
    simp only [Nat.pow_zero, Nat.mul_one] at this
    have e : double.nearest (decide (n < 0)) n.natAbs 0 = double.word (decide (n < 0)) (rungOf n.natAbs) := this
    rw [e, read_word h0 hn]
    exact ⟨_, rfl⟩
theorem signed_int {n : Int} {k up : Nat} : signed (decide (n < 0)) (n.natAbs * 2 ^ k) up = n * 2 ^ (k + up) := by
  unfold signed
  rw [Nat.shiftLeft_eq, Nat.mul_assoc, ← Nat.pow_add]
  have e : ((n.natAbs * 2 ^ (k + up) : Nat) : Int) = n.natAbs * 2 ^ (k + up) := by push_cast; rfl
  rw [e]
  by_cases h : n < 0
  · rw [if_pos (by simpa using h), show (n.natAbs : Int) = -n by omega, Int.neg_mul, Int.neg_neg]
  · rw [if_neg (by simpa using h), show (n.natAbs : Int) = n by omega]
theorem pow_pos' (k : Nat) : (0 : Int) < 2 ^ k := Int.pow_pos (by decide)
theorem natAbs_mul_pow (n : Int) (k : Nat) : (n * 2 ^ k).natAbs = n.natAbs * 2 ^ k := by
  rw [Int.natAbs_mul, Int.natAbs_pow]; rfl
theorem mul_pow_lt {n : Int} {k : Nat} : n * 2 ^ k < 0 ↔ n < 0 := by
  have := pow_pos' k
  constructor
  · intro h
    refine Int.not_le.1 fun hn => ?_
    have := Int.mul_nonneg hn (Int.le_of_lt this)
    omega
  · intro h; exact Int.mul_neg_of_neg_of_pos h this
theorem mul_pow_zero {n : Int} {k : Nat} : n * 2 ^ k = 0 ↔ n = 0 := by
  have := pow_pos' k
  rw [Int.mul_eq_zero]
  constructor
  · rintro (h | h)
    · exact h
    · omega
  · exact Or.inl
theorem sum_int {d e : Datum} {a b : Int} (hd : IsInt d a) (he : IsInt e b) : ∃ r, d.sum e = some r ∧ IsInt r (a + b) := by
  obtain ⟨i, rfl⟩ := hd
  obtain ⟨j, rfl⟩ := he
  refine ⟨_, rfl, ?_⟩
  have hb : min (-(i : Int)) (-(j : Int)) = -((max i j : Nat) : Int) := by omega
  simp only [hb, signed_int]
  have e1 : i + (-(i : Int) - -((max i j : Nat) : Int)).toNat = max i j := by omega
  have e2 : j + (-(j : Int) - -((max i j : Nat) : Int)).toNat = max i j := by omega
  rw [e1, e2, ← Int.add_mul]
  generalize max i j = k
  refine ⟨k, ?_⟩
  rw [natAbs_mul_pow]
  congr 1
  by_cases h0 : a + b = 0
  · rw [if_pos (mul_pow_zero.2 h0)]
    simp only [h0]
    by_cases ha : a < 0 <;> by_cases hb : b < 0 <;> simp [ha, hb] <;> omega
  · rw [if_neg (fun h => h0 (mul_pow_zero.1 h))]
    exact decide_eq_decide.2 mul_pow_lt
theorem diff_int {d e : Datum} {a b : Int} (hd : IsInt d a) (he : IsInt e b) : ∃ r, d.sum e.opposite = some r ∧ IsInt r (a - b) := by
  obtain ⟨i, rfl⟩ := hd
  obtain ⟨j, rfl⟩ := he
  refine ⟨_, rfl, ?_⟩
  have hb : min (-(i : Int)) (-(j : Int)) = -((max i j : Nat) : Int) := by omega
  have hs : signed (!decide (b < 0)) (b.natAbs * 2 ^ j) (-(j : Int) - -((max i j : Nat) : Int)).toNat = -(signed (decide (b < 0)) (b.natAbs * 2 ^ j) (-(j : Int) - -((max i j : Nat) : Int)).toNat) := by
    unfold signed
    by_cases h : b < 0 <;> simp [h]
  simp only [hb, hs, signed_int]
  have e1 : i + (-(i : Int) - -((max i j : Nat) : Int)).toNat = max i j := by omega
  have e2 : j + (-(j : Int) - -((max i j : Nat) : Int)).toNat = max i j := by omega
  rw [e1, e2, ← Int.sub_eq_add_neg, ← Int.sub_mul]
  generalize max i j = k
  refine ⟨k, ?_⟩
  rw [natAbs_mul_pow]
  congr 1
  by_cases h0 : a - b = 0
  · rw [if_pos (mul_pow_zero.2 h0)]
    simp only [h0]
    by_cases ha : a < 0 <;> by_cases hb : b < 0 <;> simp [ha, hb] <;> omega
  · rw [if_neg (fun h => h0 (mul_pow_zero.1 h))]
    exact decide_eq_decide.2 mul_pow_lt
theorem prod_int {d e : Datum} {a b : Int} (hd : IsInt d a) (he : IsInt e b) (ha : 0 ≤ a) (hb : 0 ≤ b) : ∃ r, d.product e = some r ∧ IsInt r (a * b) := by
  obtain ⟨i, rfl⟩ := hd
  obtain ⟨j, rfl⟩ := he
  refine ⟨_, rfl, i + j, ?_⟩
  have hab := Int.mul_nonneg ha hb
  have e1 : decide (a < 0) = false := by simpa using ha
  have e2 : decide (b < 0) = false := by simpa using hb
  have e3 : decide (a * b < 0) = false := by simpa using hab
  rw [e1, e2, e3, Int.natAbs_mul]
  congr 1
  · rw [Nat.pow_add, Nat.mul_mul_mul_comm]
  · push_cast; omega
theorem toInt_int {d : Datum} {n : Int} (hd : IsInt d n) : d.toInt .zero = some n := by
  obtain ⟨k, rfl⟩ := hd
  unfold Datum.toInt Datum.integral
  simp only
  rw [show (-(k : Int)).toNat = 0 by omega, show (-(-(k : Int))).toNat = k by omega, Nat.shiftLeft_eq, Nat.pow_zero, Nat.mul_one, cut_zero]
  have := @signed_int n 0 0
  simp at this
  rw [this]
/-! ### words -/
abbrev fi (n : Int) : Nat := floatOfInt .f64 n
theorem add_fi {a b : Int} (ha : a.natAbs < 2 ^ 53) (hb : b.natAbs < 2 ^ 53) (hr : (a + b).natAbs < 2 ^ 53) : floatBits .add .f64 (fi a) (fi b) = some (fi (a + b)) := by
  obtain ⟨r, h1, h2⟩ := sum_int (read_int ha) (read_int hb)
  show ((double.read _).sum (double.read _)).map double.write = _
  rw [h1, Option.map_some, write_int h2 hr]
theorem sub_fi {a b : Int} (ha : a.natAbs < 2 ^ 53) (hb : b.natAbs < 2 ^ 53) (hr : (a - b).natAbs < 2 ^ 53) : floatBits .sub .f64 (fi a) (fi b) = some (fi (a - b)) := by
  obtain ⟨r, h1, h2⟩ := diff_int (read_int ha) (read_int hb)
  show ((double.read _).sum (double.read _).opposite).map double.write = _
  rw [h1, Option.map_some, write_int h2 hr]
theorem mul_fi {a b : Int} (ha0 : 0 ≤ a) (hb0 : 0 ≤ b) (ha : a.natAbs < 2 ^ 53) (hb : b.natAbs < 2 ^ 53) (hr : (a * b).natAbs < 2 ^ 53) : floatBits .mul .f64 (fi a) (fi b) = some (fi (a * b)) := by
  obtain ⟨r, h1, h2⟩ := prod_int (read_int ha) (read_int hb) ha0 hb0
  show ((double.read _).product (double.read _)).map double.write = _
  rw [h1, Option.map_some, write_int h2 hr]
theorem int_fi {n : Int} (hn : n.natAbs < 2 ^ 53) : floatToIntVal .f64 (fi n) .i64 = some n := by
  unfold floatToIntVal
  show (match (double.read (fi n)).toInt .zero with | some n => _ | none => none) = _
  rw [toInt_int (read_int hn)]
  have : IntKind.min .i64 ≤ n ∧ n ≤ IntKind.max .i64 := by
    constructor
    · show (-9223372036854775808 : Int) ≤ n; omega
    · show n ≤ (9223372036854775807 : Int); omega
  simp only
  rw [if_pos this]
theorem cadd_fi {a b c d : Int} (ha : a.natAbs < 2 ^ 50) (hb : b.natAbs < 2 ^ 50) (hc : c.natAbs < 2 ^ 50) (hd : d.natAbs < 2 ^ 50) : cSumBits .add .f64 (fi a) (fi b) (fi c) (fi d) = some (fi (a + c), fi (b + d)) := by
  unfold cSumBits
  rw [add_fi (by omega) (by omega) (by omega), add_fi (by omega) (by omega) (by omega)]
  rfl
theorem cmul_fi {a b c d : Int} (ha : 0 ≤ a ∧ a < 8191) (hb : 0 ≤ b ∧ b < 8191) (hc : 0 ≤ c ∧ c < 8191) (hd : 0 ≤ d ∧ d < 8191) : cMulBits (fi a) (fi b) (fi c) (fi d) = some (fi (a * c - b * d), fi (a * d + b * c)) := by
  have hm : ∀ {x y : Int}, 0 ≤ x ∧ x < 8191 → 0 ≤ y ∧ y < 8191 → 0 ≤ x * y ∧ x * y < 67108864 := by
    intro x y hx hy
    refine ⟨Int.mul_nonneg hx.1 hy.1, ?_⟩
    calc x * y ≤ 8191 * 8191 := Int.mul_le_mul (by omega) (by omega) hy.1 (by omega)
      _ < 67108864 := by decide
  have h1 := hm ha hc
  have h2 := hm hb hd
  have h3 := hm ha hd
  have h4 := hm hb hc
  unfold cMulBits
  rw [mul_fi ha.1 hc.1 (by omega) (by omega) (by omega), mul_fi hb.1 hd.1 (by omega) (by omega) (by omega)]
  simp only [Option.bind_some]
  rw [sub_fi (by omega) (by omega) (by omega)]
  simp only [Option.bind_some]
  rw [mul_fi ha.1 hd.1 (by omega) (by omega) (by omega), mul_fi hb.1 hc.1 (by omega) (by omega) (by omega)]
  simp only [Option.bind_some]
  rw [add_fi (by omega) (by omega) (by omega)]
  rfl
end Go.Proofs.YtbgcelfmelpbeaaDoor
