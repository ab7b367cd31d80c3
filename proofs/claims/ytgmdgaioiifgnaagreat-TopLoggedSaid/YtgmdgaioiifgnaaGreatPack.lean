/- record.Pack. -/
import Derived.Test.YtgmdgaioiifgnaaGreatPk
set_option linter.unusedVariables false
set_option linter.unusedSimpArgs false
namespace Go.Proofs.YtgmdgaioiifgnaaGreat
open Go.RowKit Go.Proofs.YtgmdgaioiifgnaaGreatW.PrintWords
def packVal (p : ByteArray × Int) : Ending := .returned (.tuple #[.string p.1, .int .i64 p.2])
theorem strLit1 (c : Int) : strOfNums [c] = ⟨#[byteB c]⟩ → True := fun _ => trivial
theorem keepB {W U : World} {a b c : Addr} {u v x : Value} (h1 : W.cell? a = some u) (h2 : W.cell? b = some v) (h3 : W.cell? c = some x) (hb : Below W.heap.size W U) : U.cell? a = some u ∧ U.cell? b = some v ∧ U.cell? c = some x := ⟨pw_cell_below hb h1, pw_cell_below hb h2, pw_cell_below hb h3⟩
theorem keepW {W U : World} {a b : Addr} {u v : Value} (h1 : W.cell? a = some u) (h2 : W.cell? b = some v) (hb : Below W.heap.size W U) : U.cell? a = some u ∧ U.cell? b = some v := ⟨pw_cell_below hb h1, pw_cell_below hb h2⟩
theorem app4 (s a b c : ByteArray) : s ++ (a ++ b) ++ c = s ++ (a ++ b ++ c) := by simp only [ByteArray.append_assoc]
set_option maxHeartbeats 4000000 in
set_option maxRecDepth 100000 in
theorem packSeries_calls (A0 A1 : Option Addr) (c0 c1 : Nat) (refs : List Rf) (w : World) (l0 : refs.length ≤ c0) (h0 : kRef.C w A0 refs.length refs) (h1 : kPt.C w A1 0 []) (hS : ∀ x ∈ refs, SmallL x.ls) (hz : checkRc ⟨1, refs, []⟩ = 0) : Calls Tryz.prog 7 #[.agg #[.int .i64 1, .slice A0 refs.length c0, .slice A1 0 c1]] w fun e w' => e = packVal (packB ⟨1, refs, []⟩, 0) ∧ Below w.heap.size w w' := by
  have HV := Aside0.mk (show RcV w (.agg #[.int .i64 1, .slice A0 refs.length c0, .slice A1 0 c1]) ⟨1, refs, []⟩ from ⟨A0, c0, A1, c1, rfl, l0, Nat.zero_le _, h0, h1⟩)
  have H0 := Aside0.mk h0
  have HS := Aside0.mk hS
  have HZ := Aside0.mk hz
  have HO := Aside0.mk (rc_ok hz)
  have hn := (rc_ok hz).nrefs
  simp only at hn
  have hrl : (refs.length : Int) ≤ 200 := by omega
  have HB := Aside0.mk (below_alloc (Below.refl w.heap.size w) (.cells #[.int .i64 1, .slice A0 refs.length c0, .slice A1 0 c1] 35))
  have HN := Aside0.mk (heap_alloc_new w (.cells #[.int .i64 1, .slice A0 refs.length c0, .slice A1 0 c1] 35))
  have HPB := Aside0.mk (show packB ⟨1, refs, []⟩ = ⟨#[1]⟩ ++ numberB refs.length ++ refsB refs from rfl)
  have hnb := numberB_le refs.length (by omega) (by omega)
  have hs1 : ¬ 9223372036854775807 < 1 + (numberB refs.length).size := by omega
  have HHS := Aside0.mk (show (⟨#[1]⟩ ++ numberB refs.length : ByteArray).size ≤ 100 by rw [ByteArray.size_append]; show 1 + _ ≤ 100; omega)
  clear h0 h1 hS hz hnb hn
  have kc : ∀ W : World, (convert 58 9 (.slice (some ⟨W.heap.size, 0, none⟩) 1 1)).run Tryz.prog (W.alloc (.cells #[.int .u8 1] 5)) = .ok (.string ⟨#[1]⟩) (W.alloc (.cells #[.int .u8 1] 5)) := fun W => own_string (P := Tryz.prog) Tryz.underlying58 Tryz.underlying5 Tryz.underlying9 (own_lit W W.heap.size 5 .u8 [1] (Nat.le_refl _) (by simp))
  go_enter Tryz.func7, Tryz.ntmps7
  go_wp2_with (first | (go_at_call 16; refine (check_calls _ ⟨1, refs, []⟩ _ (HV.out.below HB.out) HS.out).mono ?_; rw [HZ.out]; rintro e w2 ⟨rfl, hb2⟩; have HB2 := Aside0.mk (below_step HB.out hb2); have HN2 := Aside0.mk (block_below' HN.out hb2); have q0 := cell_head HN2.out; have q1 := cell_mid HN2.out; have q2 := cell_last HN2.out; have HB2a := Aside0.mk (below_alloc HB2.out (.cells #[.int .u8 1] 5)); have HN2a := Aside0.mk (block_below' HN2.out (below_alloc (Below.refl w2.heap.size w2) (.cells #[.int .u8 1] 5))); have r0 := cell_head HN2a.out; have r1 := cell_mid HN2a.out; clear hb2) | (go_at_call 19; go_loud (refine (recNumber_calls _ _ (by omega) (by omega)).mono ?_; rintro e w3 ⟨rfl, hb3⟩; have HB3 := Aside0.mk (below_step HB2a.out hb3); have HN3 := Aside0.mk (block_below' HN2a.out hb3); have r2 := cell_mid HN3.out; clear hb3)))
  generalize hS0 : (⟨#[1]⟩ ++ numberB refs.length : ByteArray) = S0 at *
  have HS0 := Aside0.mk hS0

  clear hS0 q0 q1 q2 r0 r1 r2 HB2 HN2 HB2a HN2a HB HN
  go_loopw [5, 34] (fun s i wr => ∃ (j : Nat) (S : ByteArray), j ≤ refs.length ∧ i = .int .i64 j ∧ s = .string S ∧ S.size ≤ 100 + 4500 * j ∧ Aside0 (S = S0 ++ refsB (refs.take j)) ∧ Aside0 (Below w.heap.size w wr)) (fun _ i _ => refs.length - (intOf i).toNat)
  case atStart => exact ⟨0, S0, by omega, rfl, rfl, by have := HHS.out; omega, ⟨by simp [refsB, append_emp]⟩, HB3⟩
  case round =>
    clear HB3 HN3
    obtain ⟨j, S, hj, rfl, rfl, hSs, HSQ, HB⟩ := hrel
    by_cases hlt : j < refs.length
    · have hltb : (j : Int) < (refs.length : Int) := by omega
      obtain ⟨ad, A', c', rfl, g0, g1, g2, g3⟩ := at_ref (Kd.C_below H0.out HB.out) j hlt
      obtain ⟨o1, o2, o3, o4⟩ := HO.out.refs j hlt
      have hsm := check_small o4
      have HNX := Aside0.mk (refsB_take hlt)
      simp only at o1 o2 o3 o4 hsm
      obtain ⟨x, hx⟩ : ∃ x, rdRef refs j = x := ⟨_, rfl⟩
      rw [hx] at g0 g1 g2 g3 o1 o2 o3 o4 hsm HNX
      clear hx g2 o3 o4
      have HSM := Aside0.mk hsm.2
      have hl20 := hsm.1
      clear hsm
      have G3 := Aside0.mk (Kd.C_below g3 (below_alloc (Below.refl wr.heap.size wr) (.cells #[.int .i64 x.ref, .slice A' x.ls.length c'] 62)))
      clear g3
      have hn1 := numberB_le x.ref (by omega) (by omega)
      have hn2 := numberB_le x.ls.length (by omega) (by omega)
      have hs2 : ¬ 9223372036854775807 < (numberB x.ref).size + (numberB x.ls.length).size := by omega
      have hs3 : ¬ 9223372036854775807 < S.size + ((numberB x.ref).size + (numberB x.ls.length).size) := by omega
      have HSZ := Aside0.mk (show (S ++ (numberB x.ref ++ numberB x.ls.length)).size ≤ 100 + 4500 * j + 20 by rw [ByteArray.size_append, ByteArray.size_append]; omega)
      clear hn1 hn2
      go_wp2_with fail
      have hMh := heap_alloc_new wr (.cells #[.int .i64 x.ref, .slice A' x.ls.length c'] 62)
      have x0 : (wr.alloc (.cells #[.int .i64 x.ref, .slice A' x.ls.length c'] 62)).cell? ⟨wr.heap.size, 0, none⟩ = some (.int .i64 x.ref) := by rw [row_cell hMh]; rfl
      have x1 : (wr.alloc (.cells #[.int .i64 x.ref, .slice A' x.ls.length c'] 62)).cell? ⟨wr.heap.size, 1, none⟩ = some (.slice A' x.ls.length c') := by rw [row_cell hMh]; rfl
      have HBW := Aside0.mk (below_alloc HB.out (.cells #[.int .i64 x.ref, .slice A' x.ls.length c'] 62))
      clear hMh g0 g1 HB
      generalize wr.alloc (.cells #[.int .i64 x.ref, .slice A' x.ls.length c'] 62) = W at *
      generalize wr.heap.size = M at *
      have hcur := below_drew (Below.refl W.heap.size W)
      go_region_held3 (fun U => U.cell? ⟨M, 0, none⟩ = some (.int .i64 x.ref) ∧ U.cell? ⟨M, 1, none⟩ = some (.slice A' x.ls.length c'))
        (first | exact keepW x0 x1 hcur | go_keep)
        (first
          | (go_at_call 19; refine (recNumber_calls _ _ (by omega) (by omega)).mono ?_; rintro e w2 ⟨rfl, hb2⟩; replace hcur := below_step hcur hb2))
      have HC2 := Aside0.mk hcur
      have x1b := pw_cell_below hcur x1
      have HBV := Aside0.mk (below_step HBW.out hcur)
      clear hcur x0 x1 hb2
      generalize hS1 : S ++ (numberB x.ref ++ numberB (x.ls.length : Int)) = S1 at *
      have HS1 := Aside0.mk hS1
      have hS1z := HSZ.out
      clear hS1 HSZ hs2 hs3
      go_wp2_with fail
      have hl20b : (x.ls.length : Int) ≤ 20 := by omega
      go_loopw [5, 51] (fun s i wr => ∃ (m : Nat) (T : ByteArray), m ≤ x.ls.length ∧ i = .int .i64 m ∧ s = .string T ∧ T.size ≤ 100 + 4500 * j + 20 + 220 * m ∧ Aside0 (T = S1 ++ labsB (x.ls.take m)) ∧ Aside0 (Below W.heap.size W wr)) (fun _ i _ => x.ls.length - (intOf i).toNat)
      case atStart => exact ⟨0, S1, by omega, rfl, rfl, by omega, ⟨by simp [labsB, append_emp]⟩, HC2⟩
      case round =>
        clear HBV HC2
        obtain ⟨m, T, hm, rfl, rfl, hTs, HTQ, HBI⟩ := hrel
        by_cases hlm : m < x.ls.length
        · have hlmb : (m : Int) < (x.ls.length : Int) := by omega
          obtain ⟨ad2, rfl, y0, y1⟩ := at_lab (Kd.C_below G3.out HBI.out) m hlm
          have HNL := Aside0.mk (labsB_take hlm)
          obtain ⟨sn, sv⟩ := HSM.out m hlm
          obtain ⟨y, hy⟩ : ∃ y, rdLab x.ls m = y := ⟨_, rfl⟩
          rw [hy] at y0 y1 HNL sn sv
          clear hy
          have ht1 := txtB_size y.n (by omega)
          have ht2 := txtB_size y.v sv
          have hs2 : ¬ 9223372036854775807 < (numberB y.n.size).size + y.n.size + ((numberB y.v.size).size + y.v.size) := by unfold txtB at ht1 ht2; rw [ByteArray.size_append] at ht1 ht2; omega
          have hs3 : ¬ 9223372036854775807 < T.size + ((numberB y.n.size).size + y.n.size + ((numberB y.v.size).size + y.v.size)) := by unfold txtB at ht1 ht2; rw [ByteArray.size_append] at ht1 ht2; omega
          have HSZ := Aside0.mk (show (T ++ (numberB y.n.size ++ y.n ++ (numberB y.v.size ++ y.v))).size ≤ 100 + 4500 * j + 20 + 220 * (m + 1) by unfold txtB at ht1 ht2; rw [ByteArray.size_append, ByteArray.size_append]; omega)
          clear ht1 ht2
          go_wp2_with fail
          have hMh := heap_alloc_new wr (.cells #[.string y.n, .string y.v] 64)
          have x0 : (wr.alloc (.cells #[.string y.n, .string y.v] 64)).cell? ⟨wr.heap.size, 0, none⟩ = some (.string y.n) := by rw [row_cell hMh]; rfl
          have x1 : (wr.alloc (.cells #[.string y.n, .string y.v] 64)).cell? ⟨wr.heap.size, 1, none⟩ = some (.string y.v) := by rw [row_cell hMh]; rfl
          have HBJ := Aside0.mk (below_alloc HBI.out (.cells #[.string y.n, .string y.v] 64))
          clear hMh y0 y1 HBI
          generalize wr.alloc (.cells #[.string y.n, .string y.v] 64) = V at *
          generalize wr.heap.size = N at *
          have hcur := below_drew (Below.refl V.heap.size V)
          go_region_held3 (fun U => U.cell? ⟨N, 0, none⟩ = some (.string y.n) ∧ U.cell? ⟨N, 1, none⟩ = some (.string y.v))
            (first | exact keepW x0 x1 hcur | go_keep)
            (first
              | (go_at_call 20; refine (recText_calls _ _ (by omega)).mono ?_; rintro e w2 ⟨rfl, hb2⟩; replace hcur := below_step hcur hb2))
          have HBK := Aside0.mk (below_step HBJ.out hcur)
          clear hcur x0 x1 hb2 hs2 hs3
          go_wp2_with fail
          go_roundw
          case rel => exact ⟨m + 1, _, by omega, by go_num, rfl, HSZ.out, ⟨by rw [HTQ.out, HNL.out, labB, txtB, txtB]; simp only [ByteArray.append_assoc]⟩, HBK⟩
          case measure => simp [intOf]; omega
        · obtain rfl : m = x.ls.length := by omega
          have hlmb : ¬ (x.ls.length : Int) < (x.ls.length : Int) := by omega
          have HF := Aside0.mk (show T = S0 ++ refsB (refs.take (j + 1)) by
            rw [HTQ.out, List.take_length, ← HS1.out, HSQ.out, HNX.out, refB]
            simp only [ByteArray.append_assoc])
          go_wp2_with fail
          go_roundw
          case rel => exact ⟨j + 1, T, by omega, by go_num, rfl, by omega, HF, ⟨below_step HBW.out HBI.out⟩⟩
          case measure => simp [intOf]; omega
    · obtain rfl : j = refs.length := by omega
      have hltb : ¬ (refs.length : Int) < (refs.length : Int) := by omega
      have HF := Aside0.mk (show S = packB ⟨1, refs, []⟩ by rw [HSQ.out, HPB.out, List.take_length])
      go_wp2_with fail
      go_ret2
      exact ⟨by rw [← HF.out]; rfl, HB.out⟩
theorem zig_range (t : Int) (h0 : -9007199254740991 ≤ t) (h1 : t ≤ 9007199254740991) : 0 ≤ zig t ∧ zig t ≤ 18014398509481982 := by unfold zig; split <;> omega
set_option maxHeartbeats 4000000 in
set_option maxRecDepth 100000 in
theorem packSamples_calls (A0 A1 : Option Addr) (c0 c1 : Nat) (pts : List Pt) (w : World) (l1 : pts.length ≤ c1) (h0 : kRef.C w A0 0 []) (h1 : kPt.C w A1 pts.length pts) (hp : ∀ p ∈ pts, 0 ≤ p.bits ∧ p.bits ≤ 18446744073709551615) (hz : checkRc ⟨2, [], pts⟩ = 0) : Calls Tryz.prog 7 #[.agg #[.int .i64 2, .slice A0 0 c0, .slice A1 pts.length c1]] w fun e w' => e = packVal (packB ⟨2, [], pts⟩, 0) ∧ Below w.heap.size w w' := by
  have HV := Aside0.mk (show RcV w (.agg #[.int .i64 2, .slice A0 0 c0, .slice A1 pts.length c1]) ⟨2, [], pts⟩ from ⟨A0, c0, A1, c1, rfl, Nat.zero_le _, l1, h0, h1⟩)
  have H1 := Aside0.mk h1
  have HP := Aside0.mk hp
  have HZ := Aside0.mk hz
  have HO := Aside0.mk (rc_ok hz)
  have hn := (rc_ok hz).npts
  simp only at hn
  have hpl : (pts.length : Int) ≤ 200 := by omega
  have HB := Aside0.mk (below_alloc (Below.refl w.heap.size w) (.cells #[.int .i64 2, .slice A0 0 c0, .slice A1 pts.length c1] 35))
  have HN := Aside0.mk (heap_alloc_new w (.cells #[.int .i64 2, .slice A0 0 c0, .slice A1 pts.length c1] 35))
  have HPB := Aside0.mk (show packB ⟨2, [], pts⟩ = ⟨#[2]⟩ ++ numberB pts.length ++ ptsB pts from rfl)
  have hnb := numberB_le pts.length (by omega) (by omega)
  have hs1 : ¬ 9223372036854775807 < 1 + (numberB pts.length).size := by omega
  have HHS := Aside0.mk (show (⟨#[2]⟩ ++ numberB pts.length : ByteArray).size ≤ 100 by rw [ByteArray.size_append]; show 1 + _ ≤ 100; omega)
  clear h0 h1 hp hz hnb hn
  have kc : ∀ W : World, (convert 58 9 (.slice (some ⟨W.heap.size, 0, none⟩) 1 1)).run Tryz.prog (W.alloc (.cells #[.int .u8 2] 5)) = .ok (.string ⟨#[2]⟩) (W.alloc (.cells #[.int .u8 2] 5)) := fun W => own_string (P := Tryz.prog) Tryz.underlying58 Tryz.underlying5 Tryz.underlying9 (own_lit W W.heap.size 5 .u8 [2] (Nat.le_refl _) (by simp))
  go_enter Tryz.func7, Tryz.ntmps7
  go_wp2_with (first | (go_at_call 16; refine (check_calls _ ⟨2, [], pts⟩ _ (HV.out.below HB.out) (fun x hx => absurd hx List.not_mem_nil)).mono ?_; rw [HZ.out]; rintro e w2 ⟨rfl, hb2⟩; have HB2 := Aside0.mk (below_step HB.out hb2); have HN2 := Aside0.mk (block_below' HN.out hb2); have q0 := cell_head HN2.out; have q1 := cell_mid HN2.out; have q2 := cell_last HN2.out; have HB2a := Aside0.mk (below_alloc HB2.out (.cells #[.int .u8 2] 5)); have HN2a := Aside0.mk (block_below' HN2.out (below_alloc (Below.refl w2.heap.size w2) (.cells #[.int .u8 2] 5))); have r0 := cell_head HN2a.out; have r1 := cell_last HN2a.out; clear hb2) | (go_at_call 19; refine (recNumber_calls _ _ (by omega) (by omega)).mono ?_; rintro e w3 ⟨rfl, hb3⟩; have HB3 := Aside0.mk (below_step HB2a.out hb3); have HN3 := Aside0.mk (block_below' HN2a.out hb3); have r2 := cell_last HN3.out; clear hb3))
  generalize hS0 : (⟨#[2]⟩ ++ numberB pts.length : ByteArray) = S0 at *
  have HS0 := Aside0.mk hS0
  clear hS0 q0 q1 q2 r0 r1 r2 HB2 HN2 HB2a HN2a HB HN
  go_loopw [5, 76] (fun s i wr => ∃ (j : Nat) (S : ByteArray), j ≤ pts.length ∧ i = .int .i64 j ∧ s = .string S ∧ S.size ≤ 100 + 30 * j ∧ Aside0 (S = S0 ++ ptsB (pts.take j)) ∧ Aside0 (Below w.heap.size w wr)) (fun _ i _ => pts.length - (intOf i).toNat)
  case atStart => exact ⟨0, S0, by omega, rfl, rfl, by have := HHS.out; omega, ⟨by simp [ptsB, append_emp]⟩, HB3⟩
  case round =>
    clear HB3 HN3
    obtain ⟨j, S, hj, rfl, rfl, hSs, HSQ, HB⟩ := hrel
    by_cases hlt : j < pts.length
    · have hltb : (j : Int) < (pts.length : Int) := by omega
      obtain ⟨ad, rfl, g0, g1, g2⟩ := at_pt (Kd.C_below H1.out HB.out) j hlt
      obtain ⟨o1, o2, o3, o4⟩ := HO.out.pts j hlt
      have hbt := HP.out (rdPt pts j) (by rw [rdPt_eq hlt]; exact List.getElem_mem hlt)
      have HNX := Aside0.mk (ptsB_take hlt)
      simp only at o1 o2 o3 o4
      obtain ⟨x, hx⟩ : ∃ x, rdPt pts j = x := ⟨_, rfl⟩
      rw [hx] at g0 g1 g2 o1 o2 o3 o4 hbt HNX
      clear hx
      obtain ⟨b1, b2⟩ := hbt
      have hzg := zig_range x.time o3 o4
      have hn1 := numberB_le x.ref (by omega) (by omega)
      have hn2 := numberB_le (zig x.time) (by omega) (by omega)
      have hn3 : (strOfNums (wordI x.bits)).size = 8 := by rw [strOfNums_size]; rfl
      have hs2 : ¬ 9223372036854775807 < (numberB x.ref).size + (numberB (zig x.time)).size := by omega
      have hs3 : ¬ 9223372036854775807 < (numberB x.ref).size + (numberB (zig x.time)).size + (strOfNums (wordI x.bits)).size := by omega
      have hs4 : ¬ 9223372036854775807 < S.size + ((numberB x.ref).size + (numberB (zig x.time)).size + (strOfNums (wordI x.bits)).size) := by omega
      have HSZ := Aside0.mk (show (S ++ (numberB x.ref ++ numberB (zig x.time) ++ strOfNums (wordI x.bits))).size ≤ 100 + 30 * (j + 1) by rw [ByteArray.size_append, ByteArray.size_append, ByteArray.size_append]; omega)
      clear hn1 hn2 hn3 hzg
      go_wp2_with fail
      have hMh := heap_alloc_new wr (.cells #[.int .i64 x.ref, .int .i64 x.time, .int .u64 x.bits] 50)
      have x0 := cell_head hMh
      have x1 := cell_mid hMh
      have x2 := cell_last hMh
      have HBW := Aside0.mk (below_alloc HB.out (.cells #[.int .i64 x.ref, .int .i64 x.time, .int .u64 x.bits] 50))
      clear hMh g0 g1 g2 HB
      generalize wr.alloc (.cells #[.int .i64 x.ref, .int .i64 x.time, .int .u64 x.bits] 50) = W at *
      generalize wr.heap.size = M at *
      have hcur := below_drew (Below.refl W.heap.size W)
      go_region_held3 (fun U => U.cell? ⟨M, 0, none⟩ = some (.int .i64 x.ref) ∧ U.cell? ⟨M, 1, none⟩ = some (.int .i64 x.time) ∧ U.cell? ⟨M, 2, none⟩ = some (.int .u64 x.bits))
        (first | exact keepB x0 x1 x2 hcur | go_keep)
        (first
          | (go_at_call 19; refine (recNumber_calls _ _ (by omega) (by omega)).mono ?_; rintro e w2 ⟨rfl, hb2⟩; replace hcur := below_step hcur hb2)
          | (go_at_call 21; refine (recSigned_calls _ _ (by omega) (by omega)).mono ?_; rintro e w2 ⟨rfl, hb2⟩; replace hcur := below_step hcur hb2)
          | (go_at_call 22; refine (word_calls _ _ b1 b2).mono ?_; rintro e w2 ⟨rfl, hb2⟩; replace hcur := below_step hcur hb2))
      have HBK := Aside0.mk (below_step HBW.out hcur)
      clear hcur x0 x1 x2 hb2 hs2 hs3 hs4
      go_wp2_with fail
      go_roundw
      case rel => exact ⟨j + 1, _, by omega, by go_num, rfl, HSZ.out, ⟨by rw [HSQ.out, HNX.out, ptB]; simp only [ByteArray.append_assoc]⟩, HBK⟩
      case measure => simp [intOf]; omega
    · obtain rfl : j = pts.length := by omega
      have hltb : ¬ (pts.length : Int) < (pts.length : Int) := by omega
      have HF := Aside0.mk (show S = packB ⟨2, [], pts⟩ by rw [HSQ.out, HPB.out, List.take_length])
      go_wp2_with fail
      go_ret2
      exact ⟨by rw [← HF.out]; rfl, HB.out⟩
set_option maxHeartbeats 1000000 in
set_option maxRecDepth 100000 in
theorem pack_calls (v : Value) (r : Rc) (w : World) (hv : RcV w v r) (hS : ∀ x ∈ r.refs, SmallL x.ls) (hp : ∀ p ∈ r.pts, 0 ≤ p.bits ∧ p.bits ≤ 18446744073709551615) : Calls Tryz.prog 7 #[v] w fun e w' => e = packVal (packRc r) ∧ Below w.heap.size w w' := by
  by_cases hz : checkRc r = 0
  · have HX : packRc r = (packB r, 0) := by rw [packRc, if_neg (fun h => h hz)]
    rw [HX]
    have hk := (rc_ok hz).kind
    obtain ⟨kind, refs, pts⟩ := r
    obtain ⟨A0, c0, A1, c1, rfl, l0, l1, h0, h1⟩ := hv
    simp only at *
    rcases hk with ⟨rfl, rfl⟩ | ⟨rfl, rfl⟩
    · exact packSeries_calls A0 A1 c0 c1 refs w l0 h0 h1 hS hz
    · exact packSamples_calls A0 A1 c0 c1 pts w l1 h0 h1 hp hz
  · have HX := Aside0.mk (show packRc r = (⟨#[]⟩, checkRc r) by rw [packRc, if_pos hz])
    have hzb : (checkRc r != 0) = true := by simpa using hz
    have HV := Aside0.mk hv
    obtain ⟨A0, c0, A1, c1, rfl, l0, l1, h0, h1⟩ := hv
    have HB := Aside0.mk (below_alloc (Below.refl w.heap.size w) (.cells #[.int .i64 r.kind, .slice A0 r.refs.length c0, .slice A1 r.pts.length c1] 35))
    have HS := Aside0.mk hS
    clear hz h0 h1 hS hp
    go_enter Tryz.func7, Tryz.ntmps7
    go_wp2_with (go_at_call 16; refine (check_calls _ r _ (HV.out.below HB.out) HS.out).mono ?_; rintro e w2 ⟨rfl, hb2⟩)
    go_ret2
    exact ⟨by rw [HX.out]; rfl, below_step HB.out hb2⟩
end Go.Proofs.YtgmdgaioiifgnaaGreat
