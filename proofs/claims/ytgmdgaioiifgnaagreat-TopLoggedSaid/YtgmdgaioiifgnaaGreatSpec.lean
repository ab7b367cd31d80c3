/- Plain functions: what the functions of gleaner compute. No program in sight. -/
import Derived.Test.YtgmdgaioiifgnaaGreatWWords
import Derived.OpenShut
import Derived.Lib.Strings
import Derived.Lib.Repeat
set_option linter.unusedVariables false
set_option linter.unusedSimpArgs false
namespace Go.Proofs.YtgmdgaioiifgnaaGreat
open Go.RowKit Go.Proofs.YtgmdgaioiifgnaaGreatW.PrintWords

theorem bits_u32 (op : BinOp) (x y : Int) : 0 ≤ bits op .u32 x y ∧ bits op .u32 x y < 4294967296 := by
  have h := bounds_u32 (wf_bits op .u32 x y)
  omega

/-! ### log.Check -/
def crcBit (z : Int) : Int := bits .xor .u32 (z / 2) (2197175160 * bits .and .u32 z 1 % 4294967296)
def crcBits : Nat → Int → Int
  | 0, z => z
  | n + 1, z => crcBit (crcBits n z)
def crcByte (z b : Int) : Int := crcBits 8 (bits .xor .u32 z b)
def crcAll (s : ByteArray) : Nat → Int
  | 0 => 4294967295
  | n + 1 => crcByte (crcAll s n) (bt s n)
theorem crcBits_u32 (z : Int) (h0 : 0 ≤ z) (h1 : z < 4294967296) : ∀ n, 0 ≤ crcBits n z ∧ crcBits n z < 4294967296
  | 0 => ⟨h0, h1⟩
  | n + 1 => by simp only [crcBits, crcBit]; exact bits_u32 _ _ _
theorem crcAll_u32 (s : ByteArray) : ∀ n, 0 ≤ crcAll s n ∧ crcAll s n < 4294967296
  | 0 => by simp only [crcAll]; omega
  | n + 1 => by simp only [crcAll, crcByte]; exact crcBits_u32 _ (bits_u32 _ _ _).1 (bits_u32 _ _ _).2 8
def crc (s : ByteArray) : Int := bits .xor .u32 IntKind.u32.max (crcAll s s.size)
theorem crc_u32 (s : ByteArray) : 0 ≤ crc s ∧ crc s < 4294967296 := by unfold crc; exact bits_u32 _ _ _
/-! ### log.part -/
def byteB (n : Int) : UInt8 := UInt8.ofNat (n.toNat % 256)
def nums8 (l : List Int) : ByteArray := ⟨(l.map byteB).toArray⟩
def partOf (kind : Int) (s : ByteArray) : ByteArray :=
  strOfNums [kind, (s.size : Int) % 256, (s.size : Int) / 256 % 256, crc s % 256, crc s / 256 % 256, crc s / 65536 % 256, crc s / 16777216] ++ s
/-! ### labels.IsName -/
def letterB (c : Int) : Bool := decide (97 ≤ c ∧ c ≤ 122) || decide (65 ≤ c ∧ c ≤ 90) || decide (c = 95)
def digitB (c : Int) : Bool := decide (48 ≤ c ∧ c ≤ 57)
def nameAt (s : ByteArray) (i : Nat) : Bool := letterB (bt s i) || (i != 0 && digitB (bt s i))
def isName (s : ByteArray) : Bool := (List.range s.size).all (nameAt s) && decide (s.size ≠ 0) && decide (s.size ≤ 40)
/-! ### noughts up to a page's end -/
def padL (n : Nat) : List UInt8 := if 128 - n % 128 < 7 then List.replicate (128 - n % 128) 0 else []
theorem padL_repeat : ∀ n : Nat, List.replicate n (0 : UInt8) = Lib.repeatL [0] n
  | 0 => rfl
  | n + 1 => by rw [List.replicate_succ, padL_repeat n]; rfl
/-! ### wire.Number: the bytes of a number -/
def numI (n : Int) : List Int := if h : 127 < n then bits .or .u8 (n % 256) 128 :: numI (n / 128) else [n % 256]
termination_by n.toNat
decreasing_by omega
def numberB (n : Int) : ByteArray := strOfNums (numI n)
theorem numI_len_le : ∀ (k : Nat) (n : Int), 0 ≤ n → n < 128 ^ (k + 1) → (numI n).length ≤ k + 1
  | 0, n, h0, h => by rw [numI, dif_neg (by omega)]; simp
  | k + 1, n, h0, h => by
    rw [numI]
    split
    · have := numI_len_le k (n / 128) (by omega) (by rw [Int.pow_succ] at h; exact Int.ediv_lt_of_lt_mul (by omega) h)
      simp; omega
    · simp
theorem numI_len (n : Int) (h0 : 0 ≤ n) (h1 : n ≤ 18446744073709551615) : (numI n).length ≤ 10 :=
  numI_len_le 9 n h0 (by have : (128 : Int) ^ (9 + 1) = 1180591620717411303424 := by decide
                         omega)
theorem numberB_size (n : Int) (h0 : 0 ≤ n) (h1 : n ≤ 18446744073709551615) : (numberB n).size ≤ 10 := by
  rw [numberB, strOfNums_size]; exact numI_len n h0 h1
def zig (n : Int) : Int := if n < 0 then -2 * n - 1 else 2 * n
/-! ### wire.ReadNumber -/
def rdStep (s : ByteArray) (k : Nat) (z : Int) : Int := bits .or .u64 z (IntKind.u64.wrap (IntKind.u64.wrap (bits .and .u8 (bt s k) 127) * 2 ^ (7 * k)))
def rdNum (s : ByteArray) (k : Nat) (z : Int) : Int × Int × Int :=
  if k < s.size then (if k = 10 ∨ k = 9 ∧ 1 < bt s 9 then (0, 0, 3) else if bt s k < 128 then (rdStep s k z, (k : Int) + 1, 0) else rdNum s (k + 1) (rdStep s k z)) else (0, 0, 1)
termination_by s.size - k
def readNumber (s : ByteArray) : Int × Int × Int := rdNum s 0 0
/-! ### record.word -/
def wordI (n : Int) : List Int := [n % 256, n / 256 % 256, n / 65536 % 256, n / 16777216 % 256, n / 4294967296 % 256, n / 1099511627776 % 256, n / 281474976710656 % 256, n / 72057594037927936]
/-! ### log.Append -/
def leftL (L : List UInt8) : Nat := 128 - L.length % 128
def paddedL (L : List UInt8) : List UInt8 := L ++ padL L.length
def takeN (L : List UInt8) (r : ByteArray) : Nat := min r.size (leftL (paddedL L) - 7)
def kindN (first last : Bool) : Int := if first then (if last then 1 else 2) else (if last then 4 else 3)
def roundL (first : Bool) (L : List UInt8) (r : ByteArray) : List UInt8 := paddedL L ++ (partOf (kindN first (takeN L r == r.size)) (r.extract 0 (takeN L r))).data.toList
def appMu (first : Bool) (L : List UInt8) (r : ByteArray) : Nat := if first = false ∧ r.size = 0 then 0 else 1 + 2 * r.size + (if leftL (paddedL L) = 7 then 1 else 0)
theorem paddedL_left (L : List UInt8) : 7 ≤ leftL (paddedL L) ∧ leftL (paddedL L) ≤ 128 ∧ (paddedL L).length ≤ L.length + 6 := by
  unfold paddedL padL leftL
  split
  · simp only [List.length_append, List.length_replicate]; omega
  · simp only [List.append_nil]; omega
theorem partOf_size (k : Int) (s : ByteArray) : (partOf k s).data.toList.length = 7 + s.size := by
  rw [partOf, ByteArray.data_append, Array.toList_append, List.length_append, strOfNums_data, List.length_map, ← Lib.size_eq]
  rfl
theorem extract_size0 (r : ByteArray) (n : Nat) (h : n ≤ r.size) : (r.extract 0 n).size = n := by simp [ByteArray.size_extract]; omega
theorem roundL_length (first : Bool) (L : List UInt8) (r : ByteArray) : (roundL first L r).length = (paddedL L).length + 7 + takeN L r := by
  rw [roundL, List.length_append, partOf_size, extract_size0 r (takeN L r) (Nat.min_le_left _ _)]; omega
theorem appMu_lt (first : Bool) (L : List UInt8) (r : ByteArray) (h : ¬ (first = false ∧ r.size = 0)) : appMu false (roundL first L r) (r.extract (takeN L r) r.size) < appMu first L r := by
  have hp := paddedL_left L
  have hl := roundL_length first L r
  have ht : takeN L r ≤ r.size := Nat.min_le_left _ _
  have hs : (r.extract (takeN L r) r.size).size = r.size - takeN L r := by simp [ByteArray.size_extract]
  rw [appMu.eq_1 first, if_neg h, appMu]
  split
  · omega
  · rename_i h2
    rw [hs] at h2 ⊢
    have hne : takeN L r ≠ r.size := fun e => h2 ⟨rfl, by omega⟩
    have ht2 : takeN L r = leftL (paddedL L) - 7 := by
      unfold takeN at hne ⊢
      omega
    have hm : (roundL first L r).length % 128 = 0 := by rw [hl, ht2]; unfold leftL at *; omega
    have hpad : paddedL (roundL first L r) = roundL first L r := by unfold paddedL padL; rw [if_neg (by omega)]; simp
    have hleft : leftL (paddedL (roundL first L r)) = 128 := by rw [hpad]; unfold leftL; omega
    rw [if_neg (by omega)]
    split <;> omega
def appGo (first : Bool) (L : List UInt8) (r : ByteArray) : List UInt8 :=
  if h : first = false ∧ r.size = 0 then L else appGo false (roundL first L r) (r.extract (takeN L r) r.size)
termination_by appMu first L r
decreasing_by exact appMu_lt _ _ _ h
theorem appGo_end (L : List UInt8) (r : ByteArray) (h : r.size = 0) : appGo false L r = L := by rw [appGo, dif_pos ⟨rfl, h⟩]
theorem appGo_next {first : Bool} {L : List UInt8} {r : ByteArray} (h : ¬ (first = false ∧ r.size = 0)) : appGo false (roundL first L r) (r.extract (takeN L r) r.size) = appGo first L r := by rw [appGo.eq_1 first, dif_neg h]
/-- log.Append: the log behind, and the error. -/
def appendLog (log rec : ByteArray) : ByteArray × Int :=
  if 20000 < rec.size then (⟨#[]⟩, 2) else if 1000000 < (appGo true log.data.toList rec).length then (⟨#[]⟩, 2) else (⟨(appGo true log.data.toList rec).toArray⟩, 0)
theorem appPsi (first : Bool) (L : List UInt8) (r : ByteArray) (h : ¬ (first = false ∧ r.size = 0)) :
    (roundL first L r).length + 13 * appMu false (roundL first L r) (r.extract (takeN L r) r.size) + (r.extract (takeN L r) r.size).size ≤ L.length + 13 * appMu first L r + r.size := by
  have hp := paddedL_left L
  have hl := roundL_length first L r
  have ht : takeN L r ≤ r.size := Nat.min_le_left _ _
  have hs : (r.extract (takeN L r) r.size).size = r.size - takeN L r := by simp [ByteArray.size_extract]
  have := appMu_lt first L r h
  omega
theorem kind_range (a b : Bool) : 1 ≤ kindN a b ∧ kindN a b ≤ 4 := by cases a <;> cases b <;> decide
theorem appMu_le (L : List UInt8) (r : ByteArray) : appMu true L r ≤ 2 + 2 * r.size := by
  rw [appMu, if_neg (by simp)]; split <;> omega
/-! ### log.read -/
theorem or_bytes (a b : Int) (a0 : 0 ≤ a) (a1 : a ≤ 255) (b0 : 0 ≤ b) (b1 : b ≤ 255) : bits .or .i64 a (b * 256) = a + 256 * b := by
  obtain ⟨x, rfl⟩ := Int.eq_ofNat_of_zero_le a0
  obtain ⟨y, rfl⟩ := Int.eq_ofNat_of_zero_le b0
  have h := (bits_nat .i64 16 (by decide) (fun n h0 h1 => by rw [IntKind.wrap_i64]; omega) x (y * 256) (by omega) (by omega)).2
  rw [show ((y : Int) * 256) = ((y * 256 : Nat) : Int) from by omega, h, Nat.or_comm, show y * 256 = 2 ^ 8 * y from by omega, ← Nat.two_pow_add_eq_or_of_lt (by omega)]
  omega
def headLen (h : ByteArray) : Int := bt h 1 + 256 * bt h 2
def kindBegins (k : Int) : Bool := decide (k = 1) || decide (k = 2)
/-- One part at a place: where it ends, its kind, its bytes. -/
def readStep (log : ByteArray) (at_ : Nat) (in_ : Bool) : Option (Nat × Int × ByteArray) :=
  let q := at_ + (padL at_).length
  if Lib.hasPrefix (log.data.toList.drop at_) (padL at_) = false then none
  else if log.size < q + 7 then none
  else
    let h := log.extract q (q + 7)
    let n := (headLen h).toNat
    if min (128 - q % 128) (log.size - q) < n + 7 then none
    else
      let s := log.extract (q + 7) (q + 7 + n)
      if bt h 0 < 1 ∨ 4 < bt h 0 ∨ kindBegins (bt h 0) = in_ ∨ partOf (bt h 0) s ≠ h ++ s then none
      else some (q + 7 + n, bt h 0, s)
theorem readStep_lt {log : ByteArray} {at_ : Nat} {in_ : Bool} {a2 : Nat} {k : Int} {s : ByteArray} (h : readStep log at_ in_ = some (a2, k, s)) : at_ < a2 ∧ a2 ≤ log.size := by
  unfold readStep at h
  simp only at h
  split at h
  · cases h
  · split at h
    · cases h
    · split at h
      · cases h
      · split at h
        · cases h
        · simp only [Option.some.injEq, Prod.mk.injEq] at h
          omega
def readGo (log : ByteArray) (at_ : Nat) (opn : ByteArray) (in_ : Bool) : List (ByteArray × Int) :=
  match h : readStep log at_ in_ with
  | none => []
  | some (a2, k, s) => if k = 2 ∨ k = 3 then readGo log a2 (opn ++ s) true else (opn ++ s, (a2 : Int)) :: readGo log a2 ⟨#[]⟩ false
termination_by log.size - at_
decreasing_by all_goals (have := readStep_lt h; omega)
def readAll (log : ByteArray) : List (ByteArray × Int) := readGo log 0 ⟨#[]⟩ false
theorem readGo_none {log : ByteArray} {at_ : Nat} {opn : ByteArray} {in_ : Bool} (h : readStep log at_ in_ = none) : readGo log at_ opn in_ = [] := by
  rw [readGo]; split
  · rfl
  · rename_i h2; rw [h] at h2; cases h2
theorem readGo_more {log : ByteArray} {at_ a2 : Nat} {k : Int} {opn s : ByteArray} {in_ : Bool} (h : readStep log at_ in_ = some (a2, k, s)) (hk : k = 2 ∨ k = 3) : readGo log at_ opn in_ = readGo log a2 (opn ++ s) true := by
  rw [readGo]; split
  · rename_i h2; rw [h] at h2; cases h2
  · rename_i h2; rw [h] at h2; simp only [Option.some.injEq, Prod.mk.injEq] at h2; obtain ⟨rfl, rfl, rfl⟩ := h2; rw [if_pos hk]
theorem readGo_done {log : ByteArray} {at_ a2 : Nat} {k : Int} {opn s : ByteArray} {in_ : Bool} (h : readStep log at_ in_ = some (a2, k, s)) (hk : ¬ (k = 2 ∨ k = 3)) : readGo log at_ opn in_ = (opn ++ s, (a2 : Int)) :: readGo log a2 ⟨#[]⟩ false := by
  rw [readGo]; split
  · rename_i h2; rw [h] at h2; cases h2
  · rename_i h2; rw [h] at h2; simp only [Option.some.injEq, Prod.mk.injEq] at h2; obtain ⟨rfl, rfl, rfl⟩ := h2; rw [if_neg hk]
end Go.Proofs.YtgmdgaioiifgnaaGreat
