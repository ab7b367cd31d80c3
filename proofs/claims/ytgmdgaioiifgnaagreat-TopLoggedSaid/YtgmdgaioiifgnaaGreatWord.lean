/- Plain: the eight bytes of a point's bits, read again; a point's time. -/
import Derived.Test.YtgmdgaioiifgnaaGreatCodec
set_option linter.unusedVariables false
set_option linter.unusedSimpArgs false
namespace Go.Proofs.YtgmdgaioiifgnaaGreat
open Go.RowKit Go.Proofs.YtgmdgaioiifgnaaGreatW.PrintWords
theorem pow8 (i : Nat) : (2 : Int) ^ (8 * (i + 1)) = 2 ^ (8 * i) * 256 := by
  rw [Nat.mul_add, Int.pow_add]; rfl
theorem word_bt (m : Int) (h0 : 0 ≤ m) (h1 : m ≤ 18446744073709551615) (i : Nat) (hi : i < 8) : bt (strOfNums (wordI m)) i = m / 2 ^ (8 * i) % 256 := by
  have hl : i < (wordI m).length := hi
  have hr : ∀ x ∈ wordI m, 0 ≤ x ∧ x < 256 := by
    intro x hx
    simp only [wordI, List.mem_cons, List.not_mem_nil, or_false] at hx
    rcases hx with rfl | rfl | rfl | rfl | rfl | rfl | rfl | rfl <;> omega
  obtain ⟨r0, r1⟩ := hr _ (List.getElem_mem hl)
  rw [bt_strOfNums hl r0 r1]
  rcases (by omega : i = 0 ∨ i = 1 ∨ i = 2 ∨ i = 3 ∨ i = 4 ∨ i = 5 ∨ i = 6 ∨ i = 7) with rfl | rfl | rfl | rfl | rfl | rfl | rfl | rfl <;> simp [wordI]
  omega
theorem word_or (m : Int) (h0 : 0 ≤ m) (h1 : m ≤ 18446744073709551615) (i : Nat) (hi : i < 8) : bits .or .u64 (m % 2 ^ (8 * i)) (IntKind.u64.wrap (m / 2 ^ (8 * i) % 256 * 2 ^ (8 * i))) = m % 2 ^ (8 * (i + 1)) := by
  obtain ⟨x, rfl⟩ := Int.eq_ofNat_of_zero_le h0
  have hp : ((2 : Int) ^ (8 * i)) = ((2 ^ (8 * i) : Nat) : Int) := by simp
  have hpk : (2 : Nat) ^ (8 * i) ≤ 2 ^ 56 := Nat.pow_le_pow_right (by decide) (by omega)
  have h56 : (2 : Nat) ^ 56 = 72057594037927936 := by decide
  rw [pow8, hp]
  generalize hP : 2 ^ (8 * i) = P at *
  have hP0 : 0 < P := by rw [← hP]; exact Nat.two_pow_pos _
  have e1 : ((x : Int) % (P : Int)) = ((x % P : Nat) : Int) := by omega
  have e2 : ((x : Int) / (P : Int) % 256 * (P : Int)) = ((x / P % 256 * P : Nat) : Int) := by
    rw [Int.natCast_mul]; congr 1
  have hb : x / P % 256 < 256 := Nat.mod_lt _ (by decide)
  have hm : x / P % 256 * P ≤ 255 * P := Nat.mul_le_mul_right _ (by omega)
  have hx64 : x < 18446744073709551616 := by omega
  have hprod : x / P % 256 * P ≤ 18374686479671623680 := by omega
  rw [e1, e2]
  have hw : IntKind.u64.wrap ((x / P % 256 * P : Nat) : Int) = ((x / P % 256 * P : Nat) : Int) := by rw [IntKind.wrap_u64]; omega
  rw [hw]
  have h64 : (2 : Nat) ^ 64 = 18446744073709551616 := by decide
  have hlow : x % P < P := Nat.mod_lt _ hP0
  have h := (bits_nat .u64 64 (by decide) (fun n h0 h1 => by rw [IntKind.wrap_u64]; omega) (x % P) (x / P % 256 * P) (by omega) (by omega)).2
  rw [h, Nat.or_comm, Nat.mul_comm]
  have hlow2 : x % P < 2 ^ (8 * i) := by rw [hP]; exact hlow
  have hadd := Nat.two_pow_add_eq_or_of_lt hlow2 (x / P % 256)
  rw [hP] at hadd
  rw [← hadd]
  have e3 : ((x : Int) % ((P : Int) * 256)) = ((x % (P * 256) : Nat) : Int) := by rw [Int.natCast_emod, Int.natCast_mul]; rfl
  rw [e3]
  congr 1
  rw [Nat.mod_mul]
  omega
theorem word_full (m : Int) (h0 : 0 ≤ m) (h1 : m ≤ 18446744073709551615) : m % 2 ^ (8 * 8) = m := by
  have : (2 : Int) ^ (8 * 8) = 18446744073709551616 := by decide
  rw [this]; omega
theorem word_low (m : Int) (h0 : 0 ≤ m) (i : Nat) (hi : i ≤ 8) : 0 ≤ m % 2 ^ (8 * i) ∧ m % 2 ^ (8 * i) ≤ 18446744073709551615 := by
  have hp : (0 : Int) < 2 ^ (8 * i) := Int.pow_pos (by decide)
  have hle : (2 : Int) ^ (8 * i) ≤ 18446744073709551616 := by
    have h1 : (2 : Nat) ^ (8 * i) ≤ 2 ^ 64 := Nat.pow_le_pow_right (by decide) (by omega)
    have h2 : (2 : Nat) ^ 64 = 18446744073709551616 := by decide
    have h3 : ((2 : Int) ^ (8 * i)) = ((2 ^ (8 * i) : Nat) : Int) := by simp
    omega
  have h4 := Int.emod_lt_of_pos m hp
  have h5 := Int.emod_nonneg m (by omega : (2 : Int) ^ (8 * i) ≠ 0)
  omega
end Go.Proofs.YtgmdgaioiifgnaaGreat
