/- slices.ContainsFunc(refs, as the ref at hand): record.learn$1. -/
import Derived.Test.YtgmdgaioiifgnaaGreatRec
set_option linter.unusedVariables false
set_option linter.unusedSimpArgs false
namespace Go.Proofs.YtgmdgaioiifgnaaGreat
open Go.RowKit Go.Proofs.YtgmdgaioiifgnaaGreatW.PrintWords
def sameLs (ls : List Lab) (x : Rf) : Bool := orderLab x.ls ls == 0
def hasSame (l : List Rf) (ls : List Lab) : Bool := l.any (sameLs ls)
set_option maxHeartbeats 1000000 in
theorem same1_calls (o : Rf) (A B : Option Addr) (c d : Nat) (ls : List Lab) (b : Nat) (w : World) (hA : kLab.C w A o.ls.length o.ls) (hB : kLab.C w B ls.length ls) (hb : w.cell? ⟨b, 1, none⟩ = some (.slice B ls.length d)) : Calls Tryz.prog 44 #[.agg #[.int .i64 o.ref, .slice A o.ls.length c], .pointer (some ⟨b, 0, none⟩)] w fun e w' => e = .returned (.bool (sameLs ls o)) ∧ Below w.heap.size w w' := by
  have HA := Aside0.mk (Kd.C_below hA (below_alloc (Below.refl w.heap.size w) (.cells #[.int .i64 o.ref, .slice A o.ls.length c] 62)))
  have HB := Aside0.mk (Kd.C_below hB (below_alloc (Below.refl w.heap.size w) (.cells #[.int .i64 o.ref, .slice A o.ls.length c] 62)))
  have hne := pw_cell_below (below_alloc (Below.refl w.heap.size w) (.cells #[.int .i64 o.ref, .slice A o.ls.length c] 62)) hb
  clear hA hB
  go_enter Tryz.func44, Tryz.ntmps44
  go_wp2_with (go_at_call 42; refine (order_calls A B c d o.ls ls _ HA.out HB.out).mono ?_; rintro e w2 ⟨rfl, hb2⟩)
  go_ret
  exact ⟨rfl, below_step (below_alloc (Below.refl _ _) _) hb2⟩
set_option maxHeartbeats 1000000 in
set_option maxRecDepth 100000 in
theorem indexSame_calls (A B : Option Addr) (c d : Nat) (l : List Rf) (ls : List Lab) (b : Nat) (w : World) (hA : kRef.C w A l.length l) (hB : kLab.C w B ls.length ls) (hb : w.cell? ⟨b, 1, none⟩ = some (.slice B ls.length d)) : Calls Tryz.prog 74 #[.slice A l.length c, .func (.func 44) #[] #[.pointer (some ⟨b, 0, none⟩)]] w fun e w' => ∃ k : Int, e = .returned (.int .i64 k) ∧ decide (0 ≤ k) = hasSame l ls ∧ Below w.heap.size w w' := by
  have HA := Aside0.mk hA
  have HB := Aside0.mk hB
  have Hb := Aside0.mk hb
  have hln : (l.length : Int) ≤ 9223372036854775807 := by have := hA.2.1; omega
  have H0 := Aside0.mk (Below.refl w.heap.size w)
  clear hA hB hb
  go_enter Tryz.func74, Tryz.ntmps74
  go_wp2
  go_loopw [8] (fun i wr => ∃ k : Nat, k ≤ l.length ∧ i = .int .i64 k ∧ Aside0 (∀ x ∈ l.take k, sameLs ls x = false) ∧ Aside0 (Below w.heap.size w wr)) (fun i _ => l.length - (intOf i).toNat)
  case atStart => exact ⟨0, by omega, rfl, ⟨by simp⟩, H0⟩
  case round =>
    obtain ⟨k, hk, rfl, HX, HW⟩ := hrel
    clear H0
    by_cases hlt : k < l.length
    · obtain ⟨ad, A', c', rfl, h0, h1, h2, h3⟩ := at_ref (Kd.C_below HA.out HW.out) k hlt
      have H3 := Aside0.mk h3
      clear h3
      have hltb : (k : Int) < (l.length : Int) := by omega
      have hcb := pw_cell_below HW.out Hb.out
      by_cases hs : sameLs ls (rdRef l k) = true
      · have HS := Aside0.mk hs
        have HR := Aside0.mk (show decide ((0 : Int) ≤ k) = hasSame l ls by
          rw [hasSame, List.any_eq_true.2 ⟨_, List.getElem_mem hlt, by rw [← rdRef_eq hlt]; exact hs⟩]
          simp)
        clear hs
        go_wp2_with (go_at_call 44; refine (same1_calls (rdRef l k) A' B c' d ls b _ H3.out (Kd.C_below HB.out HW.out) hcb).mono ?_; rw [HS.out]; rintro e w2 ⟨rfl, hb2⟩)
        go_ret
        exact ⟨_, rfl, HR.out, below_step HW.out hb2⟩
      · have hs : sameLs ls (rdRef l k) = false := by simpa using hs
        have HS := Aside0.mk hs
        have HT := Aside0.mk (take_succ_all HX.out hlt (by rw [← rdRef_eq hlt]; exact hs))
        clear hs
        go_wp2_with (go_at_call 44; refine (same1_calls (rdRef l k) A' B c' d ls b _ H3.out (Kd.C_below HB.out HW.out) hcb).mono ?_; rw [HS.out]; rintro e w2 ⟨rfl, hb2⟩)
        go_roundw
        case rel => exact ⟨k + 1, by omega, by go_num, HT, ⟨below_step HW.out hb2⟩⟩
        case measure => simp [intOf]; omega
    · obtain rfl : k = l.length := by omega
      have hltb : ¬ (l.length : Int) < (l.length : Int) := by omega
      have HR := Aside0.mk (show decide ((0 : Int) ≤ -1) = hasSame l ls by
        have := HX.out
        rw [List.take_length] at this
        rw [hasSame, List.any_eq_false.2 (fun x hx => by simp [this x hx])]
        rfl)
      go_wp2_with fail
      go_ret
      exact ⟨-1, rfl, HR.out, HW.out⟩
set_option maxHeartbeats 1000000 in
theorem containsSame_calls (A B : Option Addr) (c d : Nat) (l : List Rf) (ls : List Lab) (b : Nat) (w : World) (hA : kRef.C w A l.length l) (hB : kLab.C w B ls.length ls) (hb : w.cell? ⟨b, 1, none⟩ = some (.slice B ls.length d)) : Calls Tryz.prog 43 #[.slice A l.length c, .func (.func 44) #[] #[.pointer (some ⟨b, 0, none⟩)]] w fun e w' => e = .returned (.bool (hasSame l ls)) ∧ Below w.heap.size w w' := by
  go_enter Tryz.func43, Tryz.ntmps43
  go_wp2_with (go_at_call 74; refine (indexSame_calls A B c d l ls b _ hA hB hb).mono ?_; rintro e w2 ⟨k, rfl, hk, hb2⟩)
  go_ret
  exact ⟨by rw [← hk]; rfl, hb2⟩
end Go.Proofs.YtgmdgaioiifgnaaGreat
