/- Plain: what is packed is read. -/
import Derived.Test.YtgmdgaioiifgnaaGreatPk
import Derived.Test.YtgmdgaioiifgnaaGreatC
set_option linter.unusedVariables false
set_option linter.unusedSimpArgs false
namespace Go.Proofs.YtgmdgaioiifgnaaGreat
open Go.RowKit Go.Proofs.YtgmdgaioiifgnaaGreatW.PrintWords
theorem or_u8 (n : Int) (h : 0 ≤ n) : bits .or .u8 (n % 256) 128 = n % 128 + 128 := by
  obtain ⟨x, rfl⟩ := Int.eq_ofNat_of_zero_le h
  have hx : ((x : Int) % 256) = ((x % 256 : Nat) : Int) := by omega
  rw [hx]
  have hlt : x % 256 < 256 := Nat.mod_lt _ (by decide)
  have hall : ∀ y : Fin 256, bits .or .u8 ((y.val : Nat) : Int) 128 = ((y.val % 128 + 128 : Nat) : Int) := by decide +kernel
  have := hall ⟨x % 256, hlt⟩
  simp only at this
  rw [this]
  omega
theorem bt_append_left {a b : ByteArray} {k : Nat} (h : k < a.size) : bt (a ++ b) k = bt a k := by
  have h2 : k < (a ++ b).size := by rw [ByteArray.size_append]; omega
  rw [← bt_at (a ++ b) k (by simpa using h2), ← bt_at a k (by simpa using h)]
  simp [ByteArray.getElem_append_left, h]
theorem bt_strOfNums {l : List Int} {k : Nat} (h : k < l.length) (h0 : 0 ≤ l[k]) (h1 : l[k] < 256) : bt (strOfNums l) k = l[k] := by
  have h2 : k < (strOfNums l).size := by rw [strOfNums_size]; exact h
  rw [← bt_at (strOfNums l) k (by simpa using h2)]
  have h3 : (strOfNums l)[k] = (strOfNums l).data.toList[k]'(by rw [← Lib.size_eq]; exact h2) := rfl
  simp only [Int.toNat_natCast]
  rw [h3]
  simp only [strOfNums_data, List.getElem_map]
  simp
  omega
theorem numI_small {n : Int} (h : ¬ 127 < n) : numI n = [n % 256] := by rw [numI, dif_neg h]
theorem numI_big {n : Int} (h : 127 < n) : numI n = (n % 128 + 128) :: numI (n / 128) := by rw [numI, dif_pos h, or_u8 n (by omega)]
theorem numI_ne (n : Int) : numI n ≠ [] := by
  by_cases h : 127 < n
  · rw [numI_big h]; simp
  · rw [numI_small h]; simp
theorem bt_at_mid {a b : ByteArray} {x : List Int} {y : Int} (hy0 : 0 ≤ y) (hy1 : y < 256) (ha : a.size = 0 → True) : bt (a ++ strOfNums (y :: x) ++ b) a.size = y := by
  have h1 : (strOfNums (y :: x)).size = x.length + 1 := by rw [strOfNums_size]; rfl
  have h2 : a.size < (a ++ strOfNums (y :: x)).size := by rw [ByteArray.size_append]; omega
  rw [bt_append_left h2]
  have h3 := bt_strOfNums (l := y :: x) (k := 0) (by simp) hy0 hy1
  have h4 : a.size < (a ++ strOfNums (y :: x)).size := h2
  rw [← bt_at (a ++ strOfNums (y :: x)) a.size (by simpa using h4)]
  rw [← bt_at (strOfNums (y :: x)) (0 : Nat) (by simp; omega)] at h3
  simp only [Int.toNat_natCast] at h3 ⊢
  rw [ByteArray.getElem_append_right (Nat.le_refl _)]
  simpa using h3
theorem rdStep_or {s : ByteArray} {k : Nat} {z b : Int} (hk : k ≤ 8) (hz0 : 0 ≤ z) (hz1 : z < 2 ^ (7 * k)) (hb : bits .and .u8 (bt s k) 127 = b) (hb0 : 0 ≤ b) (hb1 : b < 128) : rdStep s k z = z + b * 2 ^ (7 * k) := by
  unfold rdStep
  rw [hb]
  obtain ⟨x, rfl⟩ := Int.eq_ofNat_of_zero_le hz0
  obtain ⟨y, rfl⟩ := Int.eq_ofNat_of_zero_le hb0
  have hp : ((2 : Int) ^ (7 * k)) = ((2 ^ (7 * k) : Nat) : Int) := by simp
  have hpk : (2 : Nat) ^ (7 * k) ≤ 2 ^ 56 := Nat.pow_le_pow_right (by decide) (by omega)
  have h56 : (2 : Nat) ^ 56 = 72057594037927936 := by decide
  have hyl : y < 128 := by omega
  have hx : x < 2 ^ (7 * k) := by rw [hp] at hz1; omega
  have hprod : y * 2 ^ (7 * k) < 128 * 2 ^ 56 := Nat.lt_of_lt_of_le (Nat.mul_lt_mul_of_pos_right hyl (Nat.two_pow_pos _)) (Nat.mul_le_mul_left _ hpk)
  have hw1 : IntKind.u64.wrap (y : Int) = (y : Int) := by rw [IntKind.wrap_u64]; omega
  rw [hw1, hp]
  have e1 : ((y : Int) * ((2 ^ (7 * k) : Nat) : Int)) = ((y * 2 ^ (7 * k) : Nat) : Int) := by rw [Int.natCast_mul]
  rw [e1]
  have hw2 : IntKind.u64.wrap ((y * 2 ^ (7 * k) : Nat) : Int) = ((y * 2 ^ (7 * k) : Nat) : Int) := by rw [IntKind.wrap_u64]; omega
  rw [hw2]
  have hxl : x < 2 ^ 63 := by
    have h63 : (2 : Nat) ^ 63 = 9223372036854775808 := by decide
    omega
  have h := (bits_nat .u64 63 (by decide) (fun n h0 h1 => by rw [IntKind.wrap_u64]; omega) x (y * 2 ^ (7 * k)) hxl (by omega)).2
  rw [h, Nat.or_comm, Nat.mul_comm y, ← Nat.two_pow_add_eq_or_of_lt hx]
  rw [Int.natCast_add, Int.natCast_mul, Int.add_comm]
theorem and_u8 (b : Int) (h0 : 0 ≤ b) (h1 : b < 256) : bits .and .u8 b 127 = b % 128 := by
  obtain ⟨x, rfl⟩ := Int.eq_ofNat_of_zero_le h0
  have hall : ∀ y : Fin 256, bits .and .u8 ((y.val : Nat) : Int) 127 = ((y.val % 128 : Nat) : Int) := by decide +kernel
  have := hall ⟨x, by omega⟩
  simp only at this
  rw [this]
  omega
theorem strOfNums_cons (x : Int) (l : List Int) : strOfNums (x :: l) = strOfNums [x] ++ strOfNums l := by
  have h : (strOfNums (x :: l)).data = (strOfNums [x] ++ strOfNums l).data := by
    apply Array.toList_inj.1
    rw [ByteArray.data_append, Array.toList_append, strOfNums_data, strOfNums_data, strOfNums_data]
    rfl
  exact ByteArray.ext h
theorem pow7 (k : Nat) : (2 : Int) ^ (7 * (k + 1)) = 2 ^ (7 * k) * 128 := by
  rw [Nat.mul_add, Int.pow_add]; rfl
theorem rdNum_num (T : ByteArray) : ∀ (L : Nat) (m : Int) (a : ByteArray) (z : Int), (numI m).length = L → 0 ≤ m → a.size + L ≤ 9 → 0 ≤ z → z < 2 ^ (7 * a.size) →
    rdNum (a ++ strOfNums (numI m) ++ T) a.size z = (z + m * 2 ^ (7 * a.size), ((a.size + L : Nat) : Int), 0)
  | 0, m, a, z, hL, _, _, _, _ => absurd (List.eq_nil_of_length_eq_zero hL) (numI_ne m)
  | L + 1, m, a, z, hL, hm, ha, hz0, hz1 => by
    by_cases hb : 127 < m
    · rw [numI_big hb] at hL ⊢
      have hx0 : 0 ≤ m % 128 + 128 := by omega
      have hx1 : m % 128 + 128 < 256 := by omega
      have hbt := bt_at_mid (a := a) (b := T) (x := numI (m / 128)) hx0 hx1 (fun _ => trivial)
      have hlt : a.size < (a ++ strOfNums ((m % 128 + 128) :: numI (m / 128)) ++ T).size := by
        rw [ByteArray.size_append, ByteArray.size_append, strOfNums_size, List.length_cons]; omega
      have hst := rdStep_or (s := a ++ strOfNums ((m % 128 + 128) :: numI (m / 128)) ++ T) (k := a.size) (z := z) (b := m % 128) (by omega) hz0 hz1 (by rw [hbt, and_u8 _ hx0 hx1]; omega) (by omega) (by omega)
      rw [← rdNum_next hlt (by omega) (by rw [hbt]; omega), hst]
      have hs : a ++ strOfNums ((m % 128 + 128) :: numI (m / 128)) ++ T = (a ++ strOfNums [m % 128 + 128]) ++ strOfNums (numI (m / 128)) ++ T := by
        rw [strOfNums_cons]; simp only [ByteArray.append_assoc]
      have hsz : (a ++ strOfNums [m % 128 + 128]).size = a.size + 1 := by rw [ByteArray.size_append, strOfNums_size]; rfl
      have hP : 0 < (2 : Int) ^ (7 * a.size) := Int.pow_pos (by decide)
      have ih := rdNum_num T L (m / 128) (a ++ strOfNums [m % 128 + 128]) (z + m % 128 * 2 ^ (7 * a.size)) (by simpa using hL) (by omega) (by rw [hsz]; omega)
        (by have := Int.mul_nonneg (show 0 ≤ m % 128 by omega) (Int.le_of_lt hP); omega)
        (by
          rw [hsz, pow7]
          generalize (2 : Int) ^ (7 * a.size) = P at *
          have h1 : m % 128 * P ≤ 127 * P := Int.mul_le_mul_of_nonneg_right (by omega) (Int.le_of_lt hP)
          omega)
      rw [hsz] at ih
      rw [hs, ih, pow7]
      generalize (2 : Int) ^ (7 * a.size) = P at *
      have e : m = m % 128 + 128 * (m / 128) := by omega
      refine Prod.ext ?_ (Prod.ext ?_ rfl)
      · show z + m % 128 * P + m / 128 * (P * 128) = z + m * P
        have e2 : m * P = (m % 128 + 128 * (m / 128)) * P := by rw [← e]
        rw [e2, Int.add_mul, Int.mul_assoc, Int.mul_comm P 128, Int.mul_left_comm]
        omega
      · show ((a.size + 1 + L : Nat) : Int) = ((a.size + (L + 1) : Nat) : Int)
        omega
    · rw [numI_small hb] at hL ⊢
      have hx0 : 0 ≤ m % 256 := by omega
      have hx1 : m % 256 < 256 := by omega
      have hbt := bt_at_mid (a := a) (b := T) (x := []) hx0 hx1 (fun _ => trivial)
      have hlt : a.size < (a ++ strOfNums [m % 256] ++ T).size := by
        rw [ByteArray.size_append, ByteArray.size_append, strOfNums_size, List.length_cons]; omega
      have hst := rdStep_or (s := a ++ strOfNums [m % 256] ++ T) (k := a.size) (z := z) (b := m) (by omega) hz0 hz1 (by rw [hbt, and_u8 _ hx0 hx1]; omega) hm (by omega)
      have hL0 : L = 0 := by simpa using hL.symm
      subst hL0
      rw [rdNum_last hlt (by omega) (by rw [hbt]; omega), hst]
      rfl
theorem numI_len9 (n : Int) (h0 : 0 ≤ n) (h1 : n ≤ 4611686018427387904) : (numI n).length ≤ 9 :=
  numI_len_le 8 n h0 (by have : (128 : Int) ^ (8 + 1) = 9223372036854775808 := by decide
                         omega)
/-- What Number writes, ReadNumber reads. -/
theorem readNumber_number (n : Int) (T : ByteArray) (h0 : 0 ≤ n) (h1 : n ≤ 4611686018427387904) : readNumber (numberB n ++ T) = (n, ((numberB n).size : Int), 0) := by
  have h := rdNum_num T _ n (⟨#[]⟩ : ByteArray) 0 rfl h0 (by have := numI_len9 n h0 h1; show 0 + _ ≤ 9; omega) (Int.le_refl _) (by show (0 : Int) < 2 ^ (7 * 0); decide)
  rw [emp_append] at h
  have hz : (⟨#[]⟩ : ByteArray).size = 0 := rfl
  rw [hz] at h
  rw [readNumber, numberB, strOfNums_size]
  have e : (0 : Int) + n * 2 ^ (7 * 0) = n := by simp
  rw [e, Nat.zero_add] at h
  exact h
end Go.Proofs.YtgmdgaioiifgnaaGreat
