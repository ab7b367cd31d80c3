/- What the replacer of labels.Text makes of a text: plain. -/
import Derived.Test.YtgmdgaioiifgnaaGreatSpec
import Derived.Lib.Bytealg
set_option linter.unusedVariables false
set_option linter.unusedSimpArgs false
namespace Go.Proofs.YtgmdgaioiifgnaaGreat
open Go.RowKit Go.Proofs.YtgmdgaioiifgnaaGreatW.PrintWords
def isEsc (c : Int) : Bool := c == 10 || c == 34 || c == 92
def escX (c : Int) : Int := if c = 10 then 110 else c
def escC (c : Int) : List Int := if isEsc c then [92, escX c] else [c]
def escP (s : ByteArray) : Nat → List Int
  | 0 => []
  | n + 1 => escP s n ++ escC (bt s n)
def escS (s : ByteArray) : ByteArray := strOfNums (escP s s.size)
theorem escC_yes {c : Int} (h : isEsc c = true) : escC c = [92, escX c] := by rw [escC, if_pos h]
theorem escC_no {c : Int} (h : isEsc c = false) : escC c = [c] := by rw [escC, if_neg (by simp [h])]
theorem escC_len (c : Int) : (escC c).length = if isEsc c then 2 else 1 := by unfold escC; split <;> rfl
theorem escP_len (s : ByteArray) : ∀ n, n ≤ (escP s n).length ∧ (escP s n).length ≤ 2 * n
  | 0 => ⟨Nat.le_refl _, Nat.le_refl _⟩
  | n + 1 => by
    have h := escP_len s n
    have h2 := escC_len (bt s n)
    rw [escP, List.length_append, h2]
    split <;> omega
theorem escP_mono (s : ByteArray) (n : Nat) : ∀ m, (escP s n).length + m ≤ (escP s (n + m)).length
  | 0 => Nat.le_refl _
  | m + 1 => by
    have h := escP_mono s n m
    have h2 := escC_len (bt s (n + m : Nat))
    rw [show n + (m + 1) = (n + m) + 1 from rfl, escP, List.length_append, h2]
    split <;> omega
theorem escP_le {s : ByteArray} {n m : Nat} (h : n ≤ m) : (escP s n).length + (m - n) ≤ (escP s m).length := by
  have := escP_mono s n (m - n)
  rwa [Nat.add_sub_cancel' h] at this
theorem bytesOf_take (s : ByteArray) (n : Nat) (h : n < s.size) : (bytesOf s).take (n + 1) = (bytesOf s).take n ++ [bt s n] := by
  have hl : n < (bytesOf s).length := by rw [bytesOf_length]; exact h
  rw [List.take_succ_eq_append_getElem hl]
  congr 2
  have := rd_bytesOf s n
  rw [← this, rd, Int.toNat_natCast, List.getD_eq_getElem?_getD, List.getElem?_eq_getElem hl]
  rfl
theorem escP_same (s : ByteArray) : ∀ n, n ≤ s.size → (escP s n).length = n → escP s n = (bytesOf s).take n
  | 0, _, _ => by simp [escP]
  | n + 1, hn, h => by
    have h1 := escP_len s n
    have h2 := escC_len (bt s n)
    rw [escP, List.length_append, h2] at h
    have h3 : isEsc (bt s n) = false := by
      cases hh : isEsc (bt s n)
      · rfl
      · rw [hh, if_pos rfl] at h; omega
    rw [h3, if_neg (by decide)] at h
    rw [escP, escP_same s n (by omega) (by omega), escC_no h3, bytesOf_take s n (by omega)]
theorem strOfNums_bytesOf (s : ByteArray) : strOfNums (bytesOf s) = s := by
  have h : (strOfNums (bytesOf s)).data = s.data := by
    apply Array.toList_inj.1
    rw [strOfNums_data, bytesOf, List.map_map]
    conv => rhs; rw [← List.map_id s.data.toList]
    apply List.map_congr_left
    intro b _
    simp
  cases s
  cases hh : strOfNums (bytesOf _)
  rw [hh] at h
  simp only at h
  rw [h]
theorem escS_same (s : ByteArray) (h : (escP s s.size).length = s.size) : escS s = s := by
  rw [escS, escP_same s s.size (Nat.le_refl _) h, List.take_of_length_le (by rw [bytesOf_length]; exact Nat.le_refl _), strOfNums_bytesOf]
/-- How many of a byte there are. -/
def cntB (s : ByteArray) (c : UInt8) : Nat := Lib.countByte s.data.toList c
theorem cntB_take (s : ByteArray) (c : UInt8) (n : Nat) (h : n < s.size) : ((s.data.toList.take (n + 1)).count c : Nat) = (s.data.toList.take n).count c + if bt s n = (c.toNat : Int) then 1 else 0 := by
  have hl : n < s.data.toList.length := by rw [← Lib.size_eq]; exact h
  rw [List.take_succ_eq_append_getElem hl, List.count_append, List.count_singleton]
  congr 1
  have hb : bt s n = ((s.data.toList[n]).toNat : Int) := by
    rw [← bt_at s n (by simpa using h)]; rfl
  rw [hb]
  by_cases he : s.data.toList[n] = c
  · simp [he]
  · have : ¬ ((s.data.toList[n]).toNat : Int) = (c.toNat : Int) := fun e => he (UInt8.toNat_inj.1 (by omega))
    rw [if_neg this, if_neg (by simpa using he)]
theorem escP_cnt (s : ByteArray) : ∀ n, n ≤ s.size → (escP s n).length = n + ((s.data.toList.take n).count 10 + (s.data.toList.take n).count 34 + (s.data.toList.take n).count 92)
  | 0, _ => by simp [escP]
  | n + 1, hn => by
    have h := escP_cnt s n (by omega)
    have h2 := escC_len (bt s n)
    rw [escP, List.length_append, h2, h, cntB_take s 10 n (by omega), cntB_take s 34 n (by omega), cntB_take s 92 n (by omega)]
    have e10 : ((10 : UInt8).toNat : Int) = 10 := rfl
    have e34 : ((34 : UInt8).toNat : Int) = 34 := rfl
    have e92 : ((92 : UInt8).toNat : Int) = 92 := rfl
    rw [e10, e34, e92]
    unfold isEsc
    by_cases h10 : bt s n = 10
    · simp [h10]; omega
    · by_cases h34 : bt s n = 34
      · simp [h34]; omega
      · by_cases h92 : bt s n = 92
        · simp [h92]; omega
        · simp [h10, h34, h92]; omega
theorem escP_cntB (s : ByteArray) : (escP s s.size).length = s.size + (cntB s 10 + cntB s 34 + cntB s 92) := by
  have h := escP_cnt s s.size (Nat.le_refl _)
  rw [List.take_of_length_le (by rw [← Lib.size_eq]; exact Nat.le_refl _)] at h
  exact h
theorem cntB_le (s : ByteArray) (c : UInt8) : cntB s c ≤ s.size := by
  rw [cntB, Lib.countByte, Lib.size_eq]; exact List.count_le_length
/-- The bytes that are sought, in the replacer's order, and how many of the first k there are. -/
def escK (k : Nat) : UInt8 := if k = 0 then 10 else if k = 1 then 34 else 92
def cntK (s : ByteArray) : Nat → Nat
  | 0 => 0
  | k + 1 => cntK s k + cntB s (escK k)
theorem cntK_3 (s : ByteArray) : (escP s s.size).length = s.size + cntK s 3 := by rw [escP_cntB]; simp [cntK, escK]
end Go.Proofs.YtgmdgaioiifgnaaGreat
