/- The kinds of api.Ref, api.Known, and the walk of record.Find. -/
import Derived.Test.YtgmdgaioiifgnaaGreatCmp
import Derived.Test.YtgmdgaioiifgnaaGreatClone
import Derived.Test.YtgmdgaioiifgnaaGreatShelf
set_option linter.unusedVariables false
set_option linter.unusedSimpArgs false
namespace Go.Proofs.YtgmdgaioiifgnaaGreat
open Go.RowKit Go.Proofs.YtgmdgaioiifgnaaGreatW.PrintWords
structure Rf where
  ref : Int
  ls : List Lab
  deriving DecidableEq
def zRf : Rf := ⟨0, []⟩
def kRef : Kd Rf := Kd.iso (Kd.pair (Kd.int .i64) (Kd.slice 64 kLab)) (fun x : Rf => (x.ref, x.ls))
theorem kRef_open {w : World} {x : Rf} {cs : List Value} (h : kRef.K w x cs) : ∃ A c, cs = [.int .i64 x.ref, .slice A x.ls.length c] ∧ x.ls.length ≤ c ∧ kLab.C w A x.ls.length x.ls := by
  obtain ⟨_, _, rfl, rfl, A, c, rfl, h1, h2⟩ := h
  exact ⟨A, c, rfl, h1, h2⟩
theorem kRef_openM {w : World} {base : Nat} {ok : Nat → Prop} {x : Rf} {cs : List Value} (h : kRef.M w base ok x cs) : ∃ v, cs = [.int .i64 x.ref, v] ∧ kLab.R 64 w base ok v x.ls := by
  obtain ⟨_, _, rfl, rfl, v, rfl, h1⟩ := h
  exact ⟨v, rfl, h1⟩
theorem kRef_mkM {w : World} {base : Nat} {ok : Nat → Prop} {r : Int} {ls : List Lab} {v : Value} (h : kLab.R 64 w base ok v ls) : kRef.M w base ok ⟨r, ls⟩ [.int .i64 r, v] := ⟨[.int .i64 r], [v], rfl, rfl, v, rfl, h⟩
def rdRef (xs : List Rf) (i : Nat) : Rf := xs.getD i zRf
theorem rdRef_eq {l : List Rf} {k : Nat} (hk : k < l.length) : rdRef l k = l[k] := by simp [rdRef, List.getD_eq_getElem?_getD, List.getElem?_eq_getElem hk]
theorem at_ref {w : World} {A : Option Addr} {n : Nat} {xs : List Rf} (h : kRef.C w A n xs) (i : Nat) (h1 : i < n) : ∃ ad A' c', A = some ad ∧ w.cell? (ad.add (i * 2)) = some (.int .i64 (rdRef xs i).ref) ∧ w.cell? ⟨(ad.add (i * 2)).block, (ad.add (i * 2)).off + 1, none⟩ = some (.slice A' (rdRef xs i).ls.length c') ∧ (rdRef xs i).ls.length ≤ c' ∧ kLab.C w A' (rdRef xs i).ls.length (rdRef xs i).ls := by
  obtain ⟨ad, c, e, _, hK, hc0⟩ := Kd.C_get h zRf (i : Int) (by omega) (by omega)
  rw [Int.toNat_natCast] at hK hc0
  obtain ⟨A', c', rfl, h2, h3⟩ := kRef_open hK
  exact ⟨ad, A', c', e, hc0 0 _ rfl, by rw [← add_field _ _ 1 (by omega)]; exact hc0 1 _ rfl, h2, h3⟩
theorem infoRef : (Tryz.prog.info? 62).map (fun i => (i.zero, i.size, i.bytes)) = some (some (.agg #[.int .i64 0, .slice none 0 0]), 2, 32) := by kernel_rfl
/-! ### The binary search -/
def bs (c : Nat → Int) (i j : Nat) : Nat := if i < j then (if c ((i + j) / 2) < 0 then bs c ((i + j) / 2 + 1) j else bs c i ((i + j) / 2)) else i
termination_by j - i
decreasing_by all_goals omega
theorem bs_lt {c : Nat → Int} {i j : Nat} (h : i < j) (h2 : c ((i + j) / 2) < 0) : bs c i j = bs c ((i + j) / 2 + 1) j := by rw [bs, if_pos h, if_pos h2]
theorem bs_ge {c : Nat → Int} {i j : Nat} (h : i < j) (h2 : ¬ c ((i + j) / 2) < 0) : bs c i j = bs c i ((i + j) / 2) := by rw [bs, if_pos h, if_neg h2]
theorem bs_end {c : Nat → Int} {i j : Nat} (h : ¬ i < j) : bs c i j = i := by rw [bs, if_neg h]
theorem bs_le (c : Nat → Int) (i j : Nat) (h : i ≤ j) : bs c i j ≤ j := by
  fun_induction bs c i j with
  | case1 i j h1 h2 ih => exact ih (by omega)
  | case2 i j h1 h2 ih => have := ih (by omega); omega
  | case3 i j h1 => exact h
def cmpRef (l : List Rf) (m : Int) (i : Nat) : Int := Lib.compareInt (rdRef l i).ref m
def findRef (l : List Rf) (m : Int) : Nat := bs (cmpRef l m) 0 l.length
def hasRef (l : List Rf) (m : Int) : Bool := decide (findRef l m < l.length) && (cmpRef l m (findRef l m) == 0)
set_option maxHeartbeats 400000 in
theorem find1_calls (r m : Int) (v : Value) (w : World) (hv : v.oneCell' = true) : Calls Tryz.prog 68 #[.agg #[.int .i64 r, v], .int .i64 m] w fun e w' => e = .returned (.int .i64 (Lib.compareInt r m)) ∧ Below w.heap.size w w' := by
  go_enter Tryz.func68, Tryz.ntmps68
  go_wp2_with (go_at_call 69; refine (Tryz.cmp_Compare_int _ _ _).mono ?_; rintro e w1 ⟨rfl, rfl⟩)
  go_ret
  exact ⟨rfl, below_alloc (Below.refl _ _) _⟩
theorem half_le {i j n : Nat} (h : i < j) (hj : j ≤ n) : (i + j) / 2 < n := by omega
set_option maxHeartbeats 1000000 in
set_option maxRecDepth 100000 in
theorem bsearch_calls (A : Option Addr) (c : Nat) (l : List Rf) (m : Int) (w : World) (hC : kRef.C w A l.length l) (hl : l.length ≤ 1000000) : Calls Tryz.prog 67 #[.slice A l.length c, .int .i64 m, .func (.func 68) #[] #[]] w fun e w' => e = .returned (.tuple #[.int .i64 (findRef l m), .bool (hasRef l m)]) ∧ Below w.heap.size w w' := by
  have HC := Aside0.mk hC
  have hln : (l.length : Int) ≤ 9223372036854775807 := by have := hC.2.1; omega
  have HB0 := Aside0.mk (Below.refl w.heap.size w)
  clear hC
  go_enter Tryz.func67, Tryz.ntmps67
  go_wp2
  go_loopw [9, 10] (fun x y wr => ∃ i j : Nat, i ≤ j ∧ j ≤ l.length ∧ x = .int .i64 i ∧ y = .int .i64 j ∧ Aside0 (bs (cmpRef l m) i j = findRef l m) ∧ Aside0 (Below w.heap.size w wr)) (fun x y _ => (intOf y).toNat - (intOf x).toNat)
  case atStart => exact ⟨0, l.length, by omega, by omega, rfl, rfl, ⟨rfl⟩, HB0⟩
  case round =>
    obtain ⟨i, j, hij, hj, rfl, rfl, HX, HB⟩ := hrel
    clear HB0
    by_cases hlt : i < j
    · have hC2 := Kd.C_below HC.out HB.out
      obtain ⟨ad, A', c', rfl, h0, h1, h2, h3⟩ := at_ref hC2 ((i + j) / 2) (half_le hlt hj)
      have hltb : (i : Int) < (j : Int) := by omega
      have t1 : IntKind.i64.wrap ((i : Int) + (j : Int)) = (i : Int) + j := IntWalk.i64_in _ (by omega)
      have HLT := Aside0.mk hlt
      go_wp2_with (go_at_call 68; refine (find1_calls _ _ _ _ rfl).mono ?_; rintro e w2 ⟨rfl, hb2⟩)
      · go_roundw
        case rel => exact ⟨(i + j) / 2 + 1, j, by omega, hj, by go_num, rfl, ⟨(bs_lt (c := cmpRef l m) HLT.out ‹_›).symm.trans HX.out⟩, ⟨below_step HB.out hb2⟩⟩
        case measure => simp [intOf]; omega
      · go_roundw
        case rel => exact ⟨i, (i + j) / 2, by omega, by omega, rfl, by go_num, ⟨(bs_ge (c := cmpRef l m) HLT.out (Int.not_lt.2 ‹_›)).symm.trans HX.out⟩, ⟨below_step HB.out hb2⟩⟩
        case measure => simp [intOf]; omega
    · obtain rfl : i = j := by omega
      have hf : findRef l m = i := HX.out.symm.trans (bs_end (by omega))
      have HF := Aside0.mk hf
      by_cases hi : i < l.length
      · have hC2 := Kd.C_below HC.out HB.out
        obtain ⟨ad, A', c', rfl, h0, h1, h2, h3⟩ := at_ref hC2 i hi
        have HH := Aside0.mk (show hasRef l m = (Lib.compareInt (rdRef l i).ref m == 0) by rw [hasRef, hf, decide_eq_true hi]; rfl)
        have hib : (i : Int) < (l.length : Int) := by omega
        go_wp2_with (go_at_call 68; refine (find1_calls _ _ _ _ rfl).mono ?_; rintro e w2 ⟨rfl, hb2⟩)
        all_goals go_ret2
        all_goals exact ⟨by rw [HF.out, HH.out]; rfl, below_step HB.out hb2⟩
      · have HH := Aside0.mk (show hasRef l m = false by rw [hasRef, hf, decide_eq_false hi]; rfl)
        have hib : ¬ (i : Int) < (l.length : Int) := by omega
        go_wp2_with fail
        go_ret2
        exact ⟨by first | (rw [HH.out]; rfl) | (rw [HF.out, HH.out]; rfl), HB.out⟩
set_option maxHeartbeats 400000 in
theorem find_calls (A : Option Addr) (c : Nat) (l : List Rf) (m : Int) (v1 v2 : Value) (w : World) (h1 : v1.oneCell' = true) (h2 : v2.oneCell' = true) (hC : kRef.C w A l.length l) (hl : l.length ≤ 1000000) : Calls Tryz.prog 41 #[.agg #[.slice A l.length c, v1, v2], .int .i64 m] w fun e w' => e = .returned (.tuple #[.int .i64 (findRef l m), .bool (hasRef l m)]) ∧ Below w.heap.size w w' := by
  have HC := Aside0.mk hC
  clear hC
  go_enter Tryz.func41, Tryz.ntmps41
  go_wp2_with (go_at_call 67; refine (bsearch_calls _ _ l m _ (Kd.C_below HC.out (below_alloc (Below.refl _ _) _)) hl).mono ?_; rintro e w2 ⟨rfl, hb2⟩)
  go_ret2
  exact ⟨rfl, below_step (below_alloc (Below.refl _ _) _) hb2⟩
end Go.Proofs.YtgmdgaioiifgnaaGreat
