/- gleanerlaw.choose, logBegun, recordBegun. -/
import Derived.Test.YtgmdgaioiifgnaaGreatRpl
import Derived.Test.YtgmdgaioiifgnaaGreatSk
import Derived.Test.YtgmdgaioiifgnaaGreatPlog
import Derived.Test.YtgmdgaioiifgnaaGreatPack
set_option linter.unusedVariables false
set_option linter.unusedSimpArgs false
namespace Go.Proofs.YtgmdgaioiifgnaaGreat
open Go.RowKit Go.Proofs.YtgmdgaioiifgnaaGreatW.PrintWords
/-! ### choose -/
def absN (n : Int) : Int := if n < 0 then -(n + 1) else n
set_option maxHeartbeats 1000000 in
theorem choose_calls (n m : Int) (w : World) (hn0 : -9223372036854775808 ≤ n) (hn1 : n ≤ 9223372036854775807) (hm0 : 0 < m) (hm1 : m ≤ 9223372036854775807) :
    Calls Tryz.prog 11 #[.int .i64 n, .int .i64 m] w fun e w' => e = .returned (.int .i64 (absN n % m)) ∧ w' = w := by
  have hmn : ¬ m = 0 := by omega
  by_cases h : n < 0
  · have e1 : IntKind.i64.wrap (n + 1) = n + 1 := IntWalk.i64_in _ (by omega)
    have e2 : IntKind.i64.wrap (-(n + 1)) = -(n + 1) := IntWalk.i64_in _ (by omega)
    have HX := Aside0.mk (show absN n = -(n + 1) from if_pos h)
    have e3 : IntKind.i64.wrap ((-(n + 1)).tmod m) = -(n + 1) % m := by
      rw [Int.tmod_eq_emod_of_nonneg (by omega)]
      have := Int.emod_nonneg (-(n + 1)) (show m ≠ 0 by omega)
      have := Int.emod_lt_of_pos (-(n + 1)) hm0
      exact IntWalk.i64_in _ (by omega)
    have e4 : -((n + 1).tmod m) = -(n + 1) % m := by rw [← Int.neg_tmod, Int.tmod_eq_emod_of_nonneg (by omega)]
    go_enter Tryz.func11, Tryz.ntmps11
    go_wp2
    go_ret
    exact ⟨by rw [HX.out, ← e4]; rfl, rfl⟩
  · have HX := Aside0.mk (show absN n = n from if_neg h)
    have e3 : IntKind.i64.wrap (n.tmod m) = n % m := by
      rw [Int.tmod_eq_emod_of_nonneg (by omega)]
      have := Int.emod_nonneg n (show m ≠ 0 by omega)
      have := Int.emod_lt_of_pos n hm0
      exact IntWalk.i64_in _ (by omega)
    go_enter Tryz.func11, Tryz.ntmps11
    go_wp2
    go_ret
    exact ⟨by rw [HX.out]; rfl, rfl⟩
/-! ### logBegun -/
theorem one_string {w : World} {b : Nat} {s : ByteArray} (h : w.cell? ⟨b, 0, none⟩ = some (.string s)) : Kd.string.C w (some ⟨b, 0, none⟩) 1 [s] := by
  refine ⟨rfl, by decide, fun _ => ⟨_, rfl, fun j p hp => ?_⟩⟩
  cases j with
  | zero =>
    obtain rfl : s = p := by simpa using hp
    refine ⟨[.string s], rfl, rfl, fun i u hu => ?_⟩
    cases i with
    | zero => obtain rfl : .string s = u := by simpa using hu
              simpa [Addr.add] using h
    | succ i => simp at hu
  | succ j => simp at hp
def abB : ByteArray := { data := #[97, 98] }
theorem log_ab : (logL [] [abB]).length = 9 := by
  have h : ¬ (true = false ∧ abB.size = 0) := by simp
  have ht : takeN [] abB = abB.size := by decide
  rw [logL, logL, ← appGo_next h, appGo_end _ _ (by rw [rest_size, ht]; decide), round_len, ht]
  rfl
theorem app_ab : appendLog ⟨#[]⟩ abB = (⟨(logL [] [abB]).toArray⟩, 0) := append_fits (ps := []) (p := abB) (fun q hq => absurd hq List.not_mem_nil) (by decide) (by decide)
theorem read_ab : readAll ⟨(logL [] [abB]).toArray⟩ = [(abB, 9)] := by
  have h := read_cut [abB] 9 (by rw [log_ab]; omega)
  rw [List.take_of_length_le (by rw [log_ab]; omega)] at h
  have he : endsL [] [abB] = [9] := by
    have := log_ab
    simp only [logL] at this
    simp only [endsL, this]
    rfl
  rw [h, wholeN, he]
  rfl
set_option maxHeartbeats 1000000 in
set_option maxRecDepth 100000 in
theorem logBegun_calls (w : World) : Calls Tryz.prog 4 #[] w fun e w' => e = .returned (.bool true) ∧ Below w.heap.size w w' := by
  have HAB := Aside0.mk (show ({ data := #[97, 98] } : ByteArray) = abB from rfl)
  have HL := Aside0.mk (show (⟨(logL [] [abB]).toArray⟩ : ByteArray).size = 9 from log_ab)
  go_enter Tryz.func4, Tryz.ntmps4
  go_wp2_with fail
  refine (append_calls _ _ w (by decide) (by decide)).mono ?_; rintro e w1 ⟨he, hb1⟩
  rw [HAB.out, app_ab] at he
  obtain rfl : e = .returned (.tuple #[.string ⟨(logL [] [abB]).toArray⟩, .int .i64 0]) := he
  have HB1 := Aside0.mk hb1
  have hl := HL.out
  generalize hS : (⟨(logL [] [abB]).toArray⟩ : ByteArray) = S at *
  have HR := Aside0.mk (show readAll S = [(abB, 9)] by rw [← hS]; exact read_ab)
  clear hb1 hS
  go_wp2_with fail
  refine (logRead_calls S w1 (by omega)).mono ?_; rw [HR.out]; rintro e w2 ⟨⟨v1, rfl, hv⟩, hb2⟩
  obtain ⟨A, c, rfl, l0, k0⟩ := hv.reads
  have K0 := Aside0.mk k0
  have HB2 := Aside0.mk (below_step HB1.out hb2)
  have hli : ((S.size : Nat) : Int) = 9 := by omega
  clear hb2 hv k0
  go_wp2_with fail
  refine (sameTexts_calls [abB] A (some ⟨w2.heap.size, 0, none⟩) c 1 _ (Kd.C_below K0.out (below_alloc (Below.refl _ _) _)) (one_string (by simp [abB]))).mono ?_; rintro e w3 ⟨rfl, hb3⟩
  have HB3 := Aside0.mk (below_step (below_alloc HB2.out _) hb3)
  clear hb3
  go_wp2
  go_ret
  exact ⟨rfl, HB3.out⟩
/-! ### recordBegun -/
def rcB : Rc := ⟨2, [], [⟨1, -1, 0⟩]⟩
theorem rcB_ok : checkRc rcB = 0 := by decide
theorem rcB_size : (packB rcB).size = 12 := by
  have h1 : numberB 1 = strOfNums [1] := by rw [numberB, numI_small (by omega)]; rfl
  have e : packB rcB = ⟨#[2]⟩ ++ strOfNums [1] ++ (strOfNums [1] ++ strOfNums [1] ++ strOfNums (wordI 0) ++ ⟨#[]⟩) := by
    show ⟨#[2]⟩ ++ numberB 1 ++ (numberB 1 ++ numberB 1 ++ strOfNums (wordI 0) ++ ⟨#[]⟩) = _
    rw [h1]
  rw [e]
  decide
theorem rcB_fit : RcFit rcB := ⟨rcB_ok, by rw [rcB_size]; decide, fun p hp => by rw [List.mem_singleton.1 hp]; decide, fun x hx => absurd hx List.not_mem_nil⟩
theorem one_pt {w : World} {b : Nat} {p : Pt} (h0 : w.cell? ⟨b, 0, none⟩ = some (.int .i64 p.ref)) (h1 : w.cell? ⟨b, 1, none⟩ = some (.int .i64 p.time)) (h2 : w.cell? ⟨b, 2, none⟩ = some (.int .u64 p.bits)) : kPt.C w (some ⟨b, 0, none⟩) 1 [p] := by
  refine ⟨rfl, by decide, fun _ => ⟨_, rfl, fun j q hq => ?_⟩⟩
  cases j with
  | zero =>
    obtain rfl : p = q := by simpa using hq
    refine ⟨[.int .i64 p.ref, .int .i64 p.time, .int .u64 p.bits], rfl, Kd.K_of_M _ (kPt_mkM w 0 (fun _ => True) p), fun i u hu => ?_⟩
    match i, hu with
    | 0, hu => obtain rfl : .int .i64 p.ref = u := by simpa using hu
               simpa [Addr.add] using h0
    | 1, hu => obtain rfl : .int .i64 p.time = u := by simpa using hu
               simpa [Addr.add] using h1
    | 2, hu => obtain rfl : .int .u64 p.bits = u := by simpa using hu
               simpa [Addr.add] using h2
    | i + 3, hu => simp at hu
  | succ j => simp at hq
set_option maxHeartbeats 1000000 in
set_option maxRecDepth 100000 in
theorem recordBegun_calls (w : World) : Calls Tryz.prog 5 #[] w fun e w' => e = .returned (.bool true) ∧ Below w.heap.size w w' := by
  have HV := Aside0.mk (show RcV (w.alloc (.cells #[.int .i64 1, .int .i64 (-1), .int .u64 0] 50)) (.agg #[.int .i64 2, .slice none 0 0, .slice (some ⟨w.heap.size, 0, none⟩) 1 1]) rcB from
    ⟨none, 0, some ⟨w.heap.size, 0, none⟩, 1, rfl, by decide, by decide, ⟨rfl, by decide, fun h => absurd h (by decide)⟩, one_pt (p := ⟨1, -1, 0⟩) (by simp) (by simp) (by simp)⟩)
  have HP := Aside0.mk (show packRc rcB = (packB rcB, 0) by rw [packRc, if_neg (by rw [rcB_ok]; decide)])
  have hl := rcB_size
  have HU := Aside0.mk (fun w => unpack_calls rcB w (by rw [rcB_size]; decide) rcB_fit.bits rcB_ok rcB_fit.labs)
  generalize hS : packB rcB = S at *
  clear hS
  go_enter Tryz.func5, Tryz.ntmps5
  go_wp2_with fail
  refine (pack_calls _ rcB _ HV.out rcB_fit.labs rcB_fit.bits).mono ?_; rintro e w1 ⟨he, hb1⟩
  rw [HP.out] at he
  obtain rfl : e = .returned (.tuple #[.string S, .int .i64 0]) := he
  have HB1 := Aside0.mk (below_step (below_alloc (Below.refl _ _) _) hb1)
  clear hb1
  have hli : ((S.size : Nat) : Int) = 12 := by omega
  go_wp2_with fail
  refine (HU.out w1).mono ?_; rintro e w2 ⟨⟨v, rfl, ⟨A0, c0, A1, c1, rfl, r0, r1⟩⟩, hb2⟩
  obtain ⟨ad, rfl, x0, x1, x2⟩ := at_pt (row_parts r1).2 0 (by decide)
  have HB2 := Aside0.mk (below_alloc (below_step HB1.out hb2) (.cells #[.int .i64 rcB.kind, .slice A0 rcB.refs.length c0, .slice (some ad) rcB.pts.length c1] 35))
  have y1 : w2.cell? ⟨ad.block, ad.off + 1, none⟩ = some (.int .i64 (-1)) := by simpa [Addr.add, rdPt, rcB] using x1
  have z1 : (w2.alloc (.cells #[.int .i64 rcB.kind, .slice A0 rcB.refs.length c0, .slice (some ad) rcB.pts.length c1] 35)).cell? ⟨ad.block, ad.off + 1, none⟩ = some (.int .i64 (-1)) := pw_cell_below (below_alloc (Below.refl _ _) _) y1
  clear r0 r1 hb2 x0 x1 x2
  have hpl : ((rcB.pts.length : Nat) : Int) = 1 := rfl
  go_wp2_with fail
  go_ret
  exact ⟨rfl, HB2.out⟩
end Go.Proofs.YtgmdgaioiifgnaaGreat
