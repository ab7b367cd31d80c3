/- gleanerref.SameTexts, SameLabels, SameRefs, SameKnown: of two that say the same they say yes. -/
import Derived.Test.YtgmdgaioiifgnaaGreatKn
set_option linter.unusedVariables false
set_option linter.unusedSimpArgs false
namespace Go.Proofs.YtgmdgaioiifgnaaGreat
open Go.RowKit Go.Proofs.YtgmdgaioiifgnaaGreatW.PrintWords
set_option maxHeartbeats 1000000 in
set_option maxRecDepth 100000 in
theorem sameTexts_calls (l : List ByteArray) (A B : Option Addr) (c d : Nat) (w : World) (hA : Kd.string.C w A l.length l) (hB : Kd.string.C w B l.length l) :
    Calls Tryz.prog 13 #[.slice A l.length c, .slice B l.length d] w fun e w' => e = .returned (.bool true) ∧ Below w.heap.size w w' := by
  have HA := Aside0.mk hA
  have HB := Aside0.mk hB
  have hln : (l.length : Int) ≤ 9223372036854775807 := by have := hA.2.1; omega
  clear hA hB
  go_enter Tryz.func13, Tryz.ntmps13
  go_wp2
  go_loopw [5] (fun i wr => ∃ j : Nat, j ≤ l.length ∧ i = .int .i64 j ∧ Aside0 (Below w.heap.size w wr)) (fun i _ => l.length - (intOf i).toNat)
  case atStart => exact ⟨0, by omega, rfl, ⟨Below.refl _ _⟩⟩
  case round =>
    obtain ⟨j, hj, rfl, HW⟩ := hrel
    by_cases hlt : j < l.length
    · have hltb : (j : Int) < (l.length : Int) := by omega
      obtain ⟨ad, rfl, x0⟩ := Kd.at_string (Kd.C_below HA.out HW.out) j (by omega) hltb
      obtain ⟨ad2, rfl, x1⟩ := Kd.at_string (Kd.C_below HB.out HW.out) j (by omega) hltb
      rw [Int.toNat_natCast] at x0 x1
      go_wp2_with fail
      go_quiet (fail)
      go_wp2_with fail
      go_roundw
      case rel => exact ⟨j + 1, by omega, by go_num, ⟨below_drewN HW.out _⟩⟩
      case measure => simp [intOf]; omega
    · obtain rfl : j = l.length := by omega
      have hltb : ¬ (l.length : Int) < (l.length : Int) := by omega
      go_wp2_with fail
      go_ret
      exact ⟨rfl, HW.out⟩
set_option maxHeartbeats 1000000 in
set_option maxRecDepth 100000 in
theorem sameLabels_calls (l : List Lab) (A B : Option Addr) (c d : Nat) (w : World) (hA : kLab.C w A l.length l) (hB : kLab.C w B l.length l) :
    Calls Tryz.prog 52 #[.slice A l.length c, .slice B l.length d] w fun e w' => e = .returned (.bool true) ∧ Below w.heap.size w w' := by
  have HA := Aside0.mk hA
  have HB := Aside0.mk hB
  have hln : (l.length : Int) ≤ 9223372036854775807 := by have := hA.2.1; omega
  clear hA hB
  go_enter Tryz.func52, Tryz.ntmps52
  go_wp2
  go_loopw [5] (fun i wr => ∃ j : Nat, j ≤ l.length ∧ i = .int .i64 j ∧ Aside0 (Below w.heap.size w wr)) (fun i _ => l.length - (intOf i).toNat)
  case atStart => exact ⟨0, by omega, rfl, ⟨Below.refl _ _⟩⟩
  case round =>
    obtain ⟨j, hj, rfl, HW⟩ := hrel
    by_cases hlt : j < l.length
    · have hltb : (j : Int) < (l.length : Int) := by omega
      obtain ⟨ad, rfl, x0, x1⟩ := at_lab (Kd.C_below HA.out HW.out) j hlt
      obtain ⟨ad2, rfl, y0, y1⟩ := at_lab (Kd.C_below HB.out HW.out) j hlt
      go_wp2_with fail
      go_quiet (fail)
      go_wp2_with fail
      go_roundw
      case rel => exact ⟨j + 1, by omega, by go_num, ⟨below_drewN HW.out _⟩⟩
      case measure => simp [intOf]; omega
    · obtain rfl : j = l.length := by omega
      have hltb : ¬ (l.length : Int) < (l.length : Int) := by omega
      go_wp2_with fail
      go_ret
      exact ⟨rfl, HW.out⟩
set_option maxHeartbeats 1000000 in
set_option maxRecDepth 100000 in
theorem sameRefs_calls (l : List Rf) (A B : Option Addr) (c d : Nat) (w : World) (hA : kRef.C w A l.length l) (hB : kRef.C w B l.length l) :
    Calls Tryz.prog 30 #[.slice A l.length c, .slice B l.length d] w fun e w' => e = .returned (.bool true) ∧ Below w.heap.size w w' := by
  have HA := Aside0.mk hA
  have HB := Aside0.mk hB
  have hln : (l.length : Int) ≤ 9223372036854775807 := by have := hA.2.1; omega
  clear hA hB
  go_enter Tryz.func30, Tryz.ntmps30
  go_wp2
  go_loopw [5] (fun i wr => ∃ j : Nat, j ≤ l.length ∧ i = .int .i64 j ∧ Aside0 (Below w.heap.size w wr)) (fun i _ => l.length - (intOf i).toNat)
  case atStart => exact ⟨0, by omega, rfl, ⟨Below.refl _ _⟩⟩
  case round =>
    obtain ⟨j, hj, rfl, HW⟩ := hrel
    by_cases hlt : j < l.length
    · have hltb : (j : Int) < (l.length : Int) := by omega
      obtain ⟨ad, A', c', rfl, x0, x1, x2, x3⟩ := at_ref (Kd.C_below HA.out HW.out) j hlt
      obtain ⟨ad2, B', d', rfl, y0, y1, y2, y3⟩ := at_ref (Kd.C_below HB.out HW.out) j hlt
      have X3 := Aside0.mk x3
      have Y3 := Aside0.mk y3
      clear x3 y3
      go_wp2_with fail
      go_region_held3 (fun W => W.cell? (ad.add (j * 2)) = some (.int .i64 (rdRef l j).ref) ∧ W.cell? ⟨(ad.add (j * 2)).block, (ad.add (j * 2)).off + 1, none⟩ = some (.slice A' (rdRef l j).ls.length c') ∧ W.cell? (ad2.add (j * 2)) = some (.int .i64 (rdRef l j).ref) ∧ W.cell? ⟨(ad2.add (j * 2)).block, (ad2.add (j * 2)).off + 1, none⟩ = some (.slice B' (rdRef l j).ls.length d')) (first | exact ⟨x0, x1, y0, y1⟩ | (go_split_ands; exact ⟨pw_cell_below hb2 ‹_›, pw_cell_below hb2 ‹_›, pw_cell_below hb2 ‹_›, pw_cell_below hb2 ‹_›⟩) | go_keep) (first | (go_at_call 52; refine (sameLabels_calls _ _ _ _ _ _ (Kd.C_below X3.out (below_drew (Below.refl _ _))) (Kd.C_below Y3.out (below_drew (Below.refl _ _)))).mono ?_; rintro e w2 ⟨rfl, hb2⟩))
      go_wp2_with fail
      go_roundw
      case rel => exact ⟨j + 1, by omega, by go_num, ⟨below_step (below_drew HW.out) hb2⟩⟩
      case measure => simp [intOf]; omega
    · obtain rfl : j = l.length := by omega
      have hltb : ¬ (l.length : Int) < (l.length : Int) := by omega
      go_wp2_with fail
      go_ret
      exact ⟨rfl, HW.out⟩
/-- The two variables of SameKnown. -/
structure SK (w U : World) (a0 a1 a2 b0 b1 b2 : Value) : Prop where
  x : U.heap[w.heap.size]? = some (.cells #[a0, a1, a2] 28 (0, 0))
  y : U.heap[w.heap.size + 1]? = some (.cells #[b0, b1, b2] 28 (0, 0))
  below : Below w.heap.size w U
theorem SK.to {w U V : World} {a0 a1 a2 b0 b1 b2 : Value} (h : SK w U a0 a1 a2 b0 b1 b2) (hb : Below U.heap.size U V) : SK w V a0 a1 a2 b0 b1 b2 :=
  ⟨(hb.block _ (Array.getElem?_eq_some_iff.1 h.x).1).trans h.x, (hb.block _ (Array.getElem?_eq_some_iff.1 h.y).1).trans h.y, below_step h.below hb⟩
theorem SK.new (w : World) (a0 a1 a2 b0 b1 b2 : Value) : SK w ((w.alloc (.cells #[a0, a1, a2] 28)).alloc (.cells #[b0, b1, b2] 28)) a0 a1 a2 b0 b1 b2 := by
  refine ⟨?_, heap_alloc2_new w _ _, below_alloc (below_alloc (Below.refl _ _) _) _⟩
  have hb := below_alloc (Below.refl (w.alloc (.cells #[a0, a1, a2] 28)).heap.size (w.alloc (.cells #[a0, a1, a2] 28))) (.cells #[b0, b1, b2] 28)
  exact (hb.block _ (by simp)).trans (heap_alloc_new w _)
set_option maxHeartbeats 2000000 in
set_option maxRecDepth 100000 in
theorem sameKnown_calls (u v : Value) (k : Kn) (w : World) (hu : KnV w u k) (hv : KnV w v k) :
    Calls Tryz.prog 10 #[u, v] w fun e w' => e = .returned (.bool true) ∧ Below w.heap.size w w' := by
  obtain ⟨A0, c0, A1, c1, A2, c2, rfl, l0, l1, l2, h0, h1, h2⟩ := hu
  obtain ⟨B0, d0, B1, d1, B2, d2, rfl, m0, m1, m2, g0, g1, g2⟩ := hv
  have H0 := Aside0.mk h0
  have H1 := Aside0.mk h1
  have H2 := Aside0.mk h2
  have G0 := Aside0.mk g0
  have G1 := Aside0.mk g1
  have G2 := Aside0.mk g2
  have hl1 : (k.lasts.length : Int) ≤ 9223372036854775807 := by have := h1.2.1; omega
  have hl2 : (k.has.length : Int) ≤ 9223372036854775807 := by have := h2.2.1; omega
  clear h0 h1 h2 g0 g1 g2
  have HW := Aside0.mk (SK.new w (.slice A0 k.refs.length c0) (.slice A1 k.lasts.length c1) (.slice A2 k.has.length c2) (.slice B0 k.refs.length d0) (.slice B1 k.lasts.length d1) (.slice B2 k.has.length d2))
  go_enter Tryz.func10, Tryz.ntmps10
  go_wp2_with fail
  refine (sameRefs_calls _ _ _ _ _ _ (Kd.C_below H0.out HW.out.below) (Kd.C_below G0.out HW.out.below)).mono ?_; rintro e w2 ⟨rfl, hb2⟩
  have HS := Aside0.mk (HW.out.to hb2)
  clear HW hb2
  have x0 := cell_head HS.out.x
  have x1 := cell_mid HS.out.x
  have x2 := cell_last HS.out.x
  have y0 := cell_head HS.out.y
  have y1 := cell_mid HS.out.y
  have y2 := cell_last HS.out.y
  go_wp2_with fail
  go_loopw [5] (fun i wr => ∃ j : Nat, j ≤ k.lasts.length ∧ i = .int .i64 j ∧ Aside0 (SK w wr (.slice A0 k.refs.length c0) (.slice A1 k.lasts.length c1) (.slice A2 k.has.length c2) (.slice B0 k.refs.length d0) (.slice B1 k.lasts.length d1) (.slice B2 k.has.length d2))) (fun i _ => k.lasts.length - (intOf i).toNat)
  case atStart => exact ⟨0, by omega, rfl, HS⟩
  case round =>
    obtain ⟨j, hj, rfl, HR⟩ := hrel
    clear HS x0 x1 x2 y0 y1 y2
    have x0 := cell_head HR.out.x
    have x1 := cell_mid HR.out.x
    have x2 := cell_last HR.out.x
    have y0 := cell_head HR.out.y
    have y1 := cell_mid HR.out.y
    have y2 := cell_last HR.out.y
    by_cases hlt : j < k.lasts.length
    · have hltb : (j : Int) < (k.lasts.length : Int) := by omega
      obtain ⟨ad, rfl, q0⟩ := Kd.at_int (Kd.C_below H1.out HR.out.below) j (by omega) hltb
      obtain ⟨ad2, rfl, q1⟩ := Kd.at_int (Kd.C_below G1.out HR.out.below) j (by omega) hltb
      rw [Int.toNat_natCast] at q0 q1
      go_wp2_with fail
      go_quiet (fail)
      go_wp2_with fail
      go_roundw
      case rel => exact ⟨j + 1, by omega, by go_num, ⟨HR.out.to (below_drewN (Below.refl _ _) _)⟩⟩
      case measure => simp [intOf]; omega
    · obtain rfl : j = k.lasts.length := by omega
      have hltb : ¬ (k.lasts.length : Int) < (k.lasts.length : Int) := by omega
      go_wp2_with fail
      go_loopw [6] (fun i wr => ∃ j : Nat, j ≤ k.has.length ∧ i = .int .i64 j ∧ Aside0 (SK w wr (.slice A0 k.refs.length c0) (.slice A1 k.lasts.length c1) (.slice A2 k.has.length c2) (.slice B0 k.refs.length d0) (.slice B1 k.lasts.length d1) (.slice B2 k.has.length d2))) (fun i _ => k.has.length - (intOf i).toNat)
      case atStart => exact ⟨0, by omega, rfl, HR⟩
      case round =>
        obtain ⟨j, hj, rfl, HT⟩ := hrel
        clear HR x0 x1 x2 y0 y1 y2
        have x0 := cell_head HT.out.x
        have x1 := cell_mid HT.out.x
        have x2 := cell_last HT.out.x
        have y0 := cell_head HT.out.y
        have y1 := cell_mid HT.out.y
        have y2 := cell_last HT.out.y
        by_cases hlt : j < k.has.length
        · have hltc : (j : Int) < (k.has.length : Int) := by omega
          obtain ⟨ad, rfl, q0⟩ := Kd.at_bool (Kd.C_below H2.out HT.out.below) j (by omega) hltc
          obtain ⟨ad2, rfl, q1⟩ := Kd.at_bool (Kd.C_below G2.out HT.out.below) j (by omega) hltc
          rw [Int.toNat_natCast] at q0 q1
          go_wp2_with fail
          go_quiet (fail)
          go_wp2_with fail
          go_roundw
          case rel => exact ⟨j + 1, by omega, by go_num, ⟨HT.out.to (below_drewN (Below.refl _ _) _)⟩⟩
          case measure => simp [intOf]; omega
        · obtain rfl : j = k.has.length := by omega
          have hltc : ¬ (k.has.length : Int) < (k.has.length : Int) := by omega
          go_wp2_with fail
          go_ret
          exact ⟨rfl, HT.out.below⟩
end Go.Proofs.YtgmdgaioiifgnaaGreat
