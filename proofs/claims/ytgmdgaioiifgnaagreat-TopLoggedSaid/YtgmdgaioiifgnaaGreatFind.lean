/- labels.find, labels.Value, labels.check. -/
import Derived.Test.YtgmdgaioiifgnaaGreatRec
import Derived.Handy
set_option linter.unusedVariables false
set_option linter.unusedSimpArgs false
namespace Go.Proofs.YtgmdgaioiifgnaaGreat
open Go.RowKit Go.Proofs.YtgmdgaioiifgnaaGreatW.PrintWords
def cmpLab (l : List Lab) (m : ByteArray) (i : Nat) : Int := cmpS (rdLab l i).n m
def findLab (l : List Lab) (m : ByteArray) : Nat := bs (cmpLab l m) 0 l.length
def hasLab (l : List Lab) (m : ByteArray) : Bool := decide (findLab l m < l.length) && (cmpLab l m (findLab l m) == 0)
def valueLab (l : List Lab) (m : ByteArray) : ByteArray := if hasLab l m then (rdLab l (findLab l m)).v else ⟨#[]⟩
theorem findLab_lt {l : List Lab} {m : ByteArray} (h : hasLab l m = true) : findLab l m < l.length := by simp [hasLab] at h; exact h.1
set_option maxHeartbeats 400000 in
theorem findLab1_calls (x : Lab) (m : ByteArray) (w : World) : Calls Tryz.prog 102 #[.agg #[.string x.n, .string x.v], .string m] w fun e w' => e = .returned (.int .i64 (cmpS x.n m)) ∧ Below w.heap.size w w' := by
  go_enter Tryz.func102, Tryz.ntmps102
  go_wp2_with (go_at_call 73; refine (cmpS_calls _ _ _).mono ?_; rintro e w1 ⟨rfl, rfl⟩)
  go_ret
  exact ⟨rfl, below_alloc (Below.refl _ _) _⟩
set_option maxHeartbeats 1000000 in
set_option maxRecDepth 100000 in
theorem bsearchLab_calls (A : Option Addr) (c : Nat) (l : List Lab) (m : ByteArray) (w : World) (hC : kLab.C w A l.length l) (hl : l.length ≤ 1000000) : Calls Tryz.prog 101 #[.slice A l.length c, .string m, .func (.func 102) #[] #[]] w fun e w' => e = .returned (.tuple #[.int .i64 (findLab l m), .bool (hasLab l m)]) ∧ Below w.heap.size w w' := by
  have HC := Aside0.mk hC
  have hln : (l.length : Int) ≤ 9223372036854775807 := by have := hC.2.1; omega
  have HB0 := Aside0.mk (Below.refl w.heap.size w)
  clear hC
  go_enter Tryz.func101, Tryz.ntmps101
  go_wp2
  go_loopw [9, 10] (fun x y wr => ∃ i j : Nat, i ≤ j ∧ j ≤ l.length ∧ x = .int .i64 i ∧ y = .int .i64 j ∧ Aside0 (bs (cmpLab l m) i j = findLab l m) ∧ Aside0 (Below w.heap.size w wr)) (fun x y _ => (intOf y).toNat - (intOf x).toNat)
  case atStart => exact ⟨0, l.length, by omega, by omega, rfl, rfl, ⟨rfl⟩, HB0⟩
  case round =>
    obtain ⟨i, j, hij, hj, rfl, rfl, HX, HB⟩ := hrel
    clear HB0
    by_cases hlt : i < j
    · have hC2 := Kd.C_below HC.out HB.out
      obtain ⟨ad, rfl, h0, h1⟩ := at_lab hC2 ((i + j) / 2) (half_le hlt hj)
      have hltb : (i : Int) < (j : Int) := by omega
      have t1 : IntKind.i64.wrap ((i : Int) + (j : Int)) = (i : Int) + j := IntWalk.i64_in _ (by omega)
      have HLT := Aside0.mk hlt
      go_wp2_with (go_at_call 102; refine (findLab1_calls _ _ _).mono ?_; rintro e w2 ⟨rfl, hb2⟩)
      · go_roundw
        case rel => exact ⟨(i + j) / 2 + 1, j, by omega, hj, by go_num, rfl, ⟨(bs_lt (c := cmpLab l m) HLT.out ‹_›).symm.trans HX.out⟩, ⟨below_step HB.out hb2⟩⟩
        case measure => simp [intOf]; omega
      · go_roundw
        case rel => exact ⟨i, (i + j) / 2, by omega, by omega, rfl, by go_num, ⟨(bs_ge (c := cmpLab l m) HLT.out (Int.not_lt.2 ‹_›)).symm.trans HX.out⟩, ⟨below_step HB.out hb2⟩⟩
        case measure => simp [intOf]; omega
    · obtain rfl : i = j := by omega
      have hf : findLab l m = i := HX.out.symm.trans (bs_end (by omega))
      have HF := Aside0.mk hf
      by_cases hi : i < l.length
      · have hC2 := Kd.C_below HC.out HB.out
        obtain ⟨ad, rfl, h0, h1⟩ := at_lab hC2 i hi
        have HH := Aside0.mk (show hasLab l m = (cmpS (rdLab l i).n m == 0) by rw [hasLab, hf, decide_eq_true hi]; rfl)
        have hib : (i : Int) < (l.length : Int) := by omega
        go_wp2_with (go_at_call 102; refine (findLab1_calls _ _ _).mono ?_; rintro e w2 ⟨rfl, hb2⟩)
        all_goals go_ret2
        all_goals exact ⟨by rw [HF.out, HH.out]; rfl, below_step HB.out hb2⟩
      · have HH := Aside0.mk (show hasLab l m = false by rw [hasLab, hf, decide_eq_false hi]; rfl)
        have hib : ¬ (i : Int) < (l.length : Int) := by omega
        go_wp2_with fail
        go_ret2
        exact ⟨by first | (rw [HH.out]; rfl) | (rw [HF.out, HH.out]; rfl), HB.out⟩
set_option maxHeartbeats 400000 in
theorem findLab_calls (A : Option Addr) (c : Nat) (l : List Lab) (m : ByteArray) (w : World) (hC : kLab.C w A l.length l) (hl : l.length ≤ 1000000) : Calls Tryz.prog 89 #[.slice A l.length c, .string m] w fun e w' => e = .returned (.tuple #[.int .i64 (findLab l m), .bool (hasLab l m)]) ∧ Below w.heap.size w w' := by
  have HC := Aside0.mk hC
  clear hC
  go_enter Tryz.func89, Tryz.ntmps89
  go_wp2_with (go_at_call 101; refine (bsearchLab_calls _ _ l m _ HC.out hl).mono ?_; rintro e w2 ⟨rfl, hb2⟩)
  go_ret2
  exact ⟨rfl, hb2⟩
set_option maxHeartbeats 400000 in
set_option maxRecDepth 100000 in
theorem valueLab_calls (A : Option Addr) (c : Nat) (l : List Lab) (m : ByteArray) (w : World) (hC : kLab.C w A l.length l) (hl : l.length ≤ 1000000) : Calls Tryz.prog 63 #[.slice A l.length c, .string m] w fun e w' => e = .returned (.string (valueLab l m)) ∧ Below w.heap.size w w' := by
  have HC := Aside0.mk hC
  clear hC
  by_cases hh : hasLab l m = true
  · have HV := Aside0.mk (show valueLab l m = (rdLab l (findLab l m)).v by rw [valueLab, if_pos hh])
    have hlt := findLab_lt hh
    have hltb : (findLab l m : Int) < (l.length : Int) := by omega
    have HH := Aside0.mk hh
    clear hh
    go_enter Tryz.func63, Tryz.ntmps63
    go_wp2_with (go_at_call 89; refine (findLab_calls _ _ l m _ HC.out hl).mono ?_; rw [HH.out]; rintro e w2 ⟨rfl, hb2⟩; obtain ⟨ad, rfl, h0, h1⟩ := at_lab (Kd.C_below HC.out hb2) (findLab l m) hlt)
    go_ret
    exact ⟨by rw [HV.out]; rfl, hb2⟩
  · have hh : hasLab l m = false := by simpa using hh
    have HV := Aside0.mk (show valueLab l m = ⟨#[]⟩ by rw [valueLab, if_neg (by simp [hh])])
    have HH := Aside0.mk hh
    clear hh
    go_enter Tryz.func63, Tryz.ntmps63
    go_wp2_with (go_at_call 89; refine (findLab_calls _ _ l m _ HC.out hl).mono ?_; rw [HH.out]; rintro e w2 ⟨rfl, hb2⟩)
    go_ret
    exact ⟨by rw [HV.out]; rfl, hb2⟩
set_option maxHeartbeats 400000 in
set_option maxRecDepth 100000 in
/-- labels.check of one list of labels. -/
theorem check1_calls (b : Nat) (A : Option Addr) (c : Nat) (l : List Lab) (w : World) (hb : w.cell? ⟨b, 0, none⟩ = some (.slice A l.length c)) (hC : kLab.C w A l.length l) (hS : SmallL l) : Calls Tryz.prog 62 #[.slice (some ⟨b, 0, none⟩) 1 1] w fun e w' => e = .returned (.int .i64 (checkLab l)) ∧ Below w.heap.size w w' := by
  have HC := Aside0.mk hC
  have HS := Aside0.mk hS
  clear hC hS
  have HB0 := Aside0.mk (Below.refl w.heap.size w)
  have HCB := Aside0.mk hb
  clear hb
  by_cases hz : checkLab l = 0
  · have HZ := Aside0.mk hz
    clear hz
    go_enter Tryz.func62, Tryz.ntmps62
    go_wp2
    go_loopw [8] (fun i wr => ∃ j : Nat, j ≤ 1 ∧ i = .int .i64 j ∧ Aside0 (Below w.heap.size w wr)) (fun i _ => 1 - (intOf i).toNat)
    case atStart => exact ⟨0, by omega, rfl, HB0⟩
    case round =>
      clear HB0
      obtain ⟨j, hj, rfl, HB⟩ := hrel
      rcases (by omega : j = 0 ∨ j = 1) with rfl | rfl
      · have hb2 := pw_cell_below HB.out HCB.out
        go_wp2_with (go_at_call 61; refine (checkLab_calls A c l _ (Kd.C_below HC.out HB.out) HS.out).mono ?_; rw [HZ.out]; rintro e w2 ⟨rfl, hb3⟩)
        go_roundw
        case rel => exact ⟨1, by omega, by go_num, ⟨below_step HB.out hb3⟩⟩
        case measure => simp [intOf]
      · go_wp2_with fail
        go_ret
        exact ⟨by rw [HZ.out]; rfl, HB.out⟩
  · have HZ := Aside0.mk (show (checkLab l != 0) = true by simpa using hz)
    go_enter Tryz.func62, Tryz.ntmps62
    go_wp2
    go_loopw [8] (fun i wr => i = .int .i64 0 ∧ Aside0 (Below w.heap.size w wr)) (fun i _ => 1 - (intOf i).toNat)
    case atStart => exact ⟨rfl, HB0⟩
    case round =>
      clear HB0
      obtain ⟨rfl, HB⟩ := hrel
      have hb2 := pw_cell_below HB.out HCB.out
      have hz2 := HZ.out
      go_wp2_with (go_at_call 61; refine (checkLab_calls A c l _ (Kd.C_below HC.out HB.out) HS.out).mono ?_; rintro e w2 ⟨rfl, hb3⟩)
      go_ret
      exact ⟨rfl, below_step HB.out hb3⟩
end Go.Proofs.YtgmdgaioiifgnaaGreat
