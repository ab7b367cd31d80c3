/- record.isRef, isTime, checkRef, check. -/
import Derived.Test.YtgmdgaioiifgnaaGreatRcd
import Derived.Handy
set_option linter.unusedVariables false
set_option linter.unusedSimpArgs false
namespace Go.Proofs.YtgmdgaioiifgnaaGreat
open Go.RowKit Go.Proofs.YtgmdgaioiifgnaaGreatW.PrintWords
def isRefB (n : Int) : Bool := decide (1 ≤ n) && decide (n ≤ 1000000)
def isTimeB (t : Int) : Bool := decide (-9007199254740991 ≤ t) && decide (t ≤ 9007199254740991)
set_option maxHeartbeats 400000 in
theorem isRef_calls (n : Int) (w : World) : Calls Tryz.prog 37 #[.int .i64 n] w fun e w' => e = .returned (.bool (isRefB n)) ∧ w = w' := by
  go_enter Tryz.func37, Tryz.ntmps37
  go_wp2
  all_goals go_ret
  all_goals exact ⟨by simp [isRefB]; omega, rfl⟩
set_option maxHeartbeats 400000 in
theorem isTime_calls (n : Int) (w : World) : Calls Tryz.prog 35 #[.int .i64 n] w fun e w' => e = .returned (.bool (isTimeB n)) ∧ w = w' := by
  go_enter Tryz.func35, Tryz.ntmps35
  go_wp2
  all_goals go_ret
  all_goals exact ⟨by simp [isTimeB]; omega, rfl⟩
def checkRf (x : Rf) : Int := if isRefB x.ref = false then 3 else if x.ls.length = 0 then 1 else checkLab x.ls
set_option maxHeartbeats 1000000 in
theorem checkRef_calls (x : Rf) (A : Option Addr) (c : Nat) (w : World) (hC : kLab.C w A x.ls.length x.ls) (hS : SmallL x.ls) : Calls Tryz.prog 34 #[.agg #[.int .i64 x.ref, .slice A x.ls.length c]] w fun e w' => e = .returned (.int .i64 (checkRf x)) ∧ Below w.heap.size w w' := by
  have HC := Aside0.mk (Kd.C_below hC (below_alloc (Below.refl w.heap.size w) (.cells #[.int .i64 x.ref, .slice A x.ls.length c] 62)))
  clear hC
  by_cases h1 : isRefB x.ref = false
  · have HX := Aside0.mk (show checkRf x = 3 from if_pos h1)
    have H1 := Aside0.mk h1
    clear h1
    go_enter Tryz.func34, Tryz.ntmps34
    go_wp2_with (first | (go_at_call 37; refine (isRef_calls _ _).mono ?_; rw [H1.out]; rintro e w2 ⟨rfl, rfl⟩))
    go_ret
    exact ⟨by rw [HX.out]; rfl, below_alloc (Below.refl _ _) _⟩
  · have h1 : isRefB x.ref = true := by simpa using h1
    have H1 := Aside0.mk h1
    by_cases h2 : x.ls.length = 0
    · have HX := Aside0.mk (show checkRf x = 1 by rw [checkRf, if_neg (by simp [h1]), if_pos h2])
      have h2b : ((x.ls.length : Int) == 0) = true := by simp [h2]
      clear h1
      go_enter Tryz.func34, Tryz.ntmps34
      go_wp2_with (first | (go_at_call 37; refine (isRef_calls _ _).mono ?_; rw [H1.out]; rintro e w2 ⟨rfl, rfl⟩))
      go_ret
      exact ⟨by rw [HX.out]; rfl, below_alloc (Below.refl _ _) _⟩
    · have HX := Aside0.mk (show checkRf x = checkLab x.ls by rw [checkRf, if_neg (by simp [h1]), if_neg h2])
      have h2b : ((x.ls.length : Int) == 0) = false := beq_false_of_ne (by omega)
      clear h1
      go_enter Tryz.func34, Tryz.ntmps34
      go_wp2_with (first | (go_at_call 37; refine (isRef_calls _ _).mono ?_; rw [H1.out]; rintro e w2 ⟨rfl, rfl⟩) | (go_at_call 61; refine (checkLab_calls A c x.ls _ HC.out hS).mono ?_; rintro e w3 ⟨rfl, hb3⟩))
      go_ret
      exact ⟨by rw [HX.out]; rfl, below_step (below_alloc (Below.refl _ _) _) hb3⟩
theorem cell_at_new (w : World) (x y z : Value) (T : TypeId) : (w.alloc (.cells #[x, y, z] T)).cell? ⟨w.heap.size, 2, none⟩ = some z := by simp
def firstErr : List Rf → Int
  | [] => 0
  | x :: xs => if checkRf x = 0 then firstErr xs else checkRf x
def badPt (p : Pt) : Bool := !(isRefB p.ref && isTimeB p.time)
def checkRc (r : Rc) : Int :=
  if r.kind ≠ 1 ∧ r.kind ≠ 2 then 7
  else if (r.kind = 1 ∧ 0 < r.pts.length) ∨ (r.kind = 2 ∧ 0 < r.refs.length) then 1
  else if 200 < r.refs.length ∨ 200 < r.pts.length then 2
  else if firstErr r.refs = 0 then (if r.pts.any badPt = true then 3 else 0) else firstErr r.refs
theorem drop_ref' {l : List Rf} {j : Nat} (h : j < l.length) : l.drop j = rdRef l j :: l.drop (j + 1) := by rw [List.drop_eq_getElem_cons h, rdRef_eq h]
set_option maxHeartbeats 2000000 in
set_option maxRecDepth 100000 in
theorem check_calls (v : Value) (r : Rc) (w : World) (hv : RcV w v r) (hS : ∀ x ∈ r.refs, SmallL x.ls) : Calls Tryz.prog 16 #[v] w fun e w' => e = .returned (.int .i64 (checkRc r)) ∧ Below w.heap.size w w' := by
  obtain ⟨A0, c0, A1, c1, rfl, l0, l1, h0, h1⟩ := hv
  have H0 := Aside0.mk h0
  have H1 := Aside0.mk h1
  have HS := Aside0.mk hS
  have hrl : (r.refs.length : Int) ≤ 9223372036854775807 := by have := h0.2.1; omega
  have hpl : (r.pts.length : Int) ≤ 9223372036854775807 := by have := h1.2.1; omega
  have HB := Aside0.mk (below_alloc (Below.refl w.heap.size w) (.cells #[.int .i64 r.kind, .slice A0 r.refs.length c0, .slice A1 r.pts.length c1] 35))
  clear h0 h1 hS
  by_cases hk : r.kind ≠ 1 ∧ r.kind ≠ 2
  · have HX := Aside0.mk (show checkRc r = 7 from if_pos hk)
    have k1 : (r.kind != 1) = true := by simpa using hk.1
    have k2 : (r.kind != 2) = true := by simpa using hk.2
    clear hk
    go_enter Tryz.func16, Tryz.ntmps16
    go_wp2
    go_ret
    exact ⟨by rw [HX.out]; rfl, HB.out⟩
  · by_cases hb : (r.kind = 1 ∧ 0 < r.pts.length) ∨ (r.kind = 2 ∧ 0 < r.refs.length)
    · have HX := Aside0.mk (show checkRc r = 1 by rw [checkRc, if_neg hk, if_pos hb])
      clear hk
      rcases hb with ⟨hb, hb2⟩ | ⟨hb, hb2⟩
      · have hb3 : (0 : Int) < (r.pts.length : Int) := by omega
        go_enter Tryz.func16, Tryz.ntmps16
        rw [hb]
        go_wp2
        go_ret
        rw [hb] at HB
        exact ⟨by rw [HX.out]; rfl, HB.out⟩
      · have hb3 : (0 : Int) < (r.refs.length : Int) := by omega
        go_enter Tryz.func16, Tryz.ntmps16
        rw [hb]
        go_wp2
        go_ret
        rw [hb] at HB
        exact ⟨by rw [HX.out]; rfl, HB.out⟩
    · obtain ⟨kind, refs, pts⟩ := r
      simp only at *
      have hk12 : (kind = 1 ∧ pts = []) ∨ (kind = 2 ∧ refs = []) := by
        have h3 : kind = 1 ∨ kind = 2 := by omega
        rcases h3 with h3 | h3
        · exact .inl ⟨h3, List.eq_nil_of_length_eq_zero (by omega)⟩
        · exact .inr ⟨h3, List.eq_nil_of_length_eq_zero (by omega)⟩
      by_cases hm : 200 < refs.length ∨ 200 < pts.length
      · have HX := Aside0.mk (show checkRc ⟨kind, refs, pts⟩ = 2 by rw [checkRc, if_neg hk, if_neg hb, if_pos hm])
        have hm2 : (200 : Int) < (refs.length : Int) ∨ (200 : Int) < (pts.length : Int) := by omega
        clear hk hb hm
        rcases hk12 with ⟨rfl, rfl⟩ | ⟨rfl, rfl⟩ <;> rcases hm2 with hm2 | hm2
        all_goals first
          | (exfalso; simp at hm2; done)
          | (go_enter Tryz.func16, Tryz.ntmps16
             go_wp2
             go_ret
             exact ⟨by rw [HX.out]; rfl, HB.out⟩)
      · have HX := Aside0.mk (show checkRc ⟨kind, refs, pts⟩ = if firstErr refs = 0 then (if pts.any badPt = true then 3 else 0) else firstErr refs by rw [checkRc, if_neg hk, if_neg hb, if_neg hm])
        have hm2 : (refs.length : Int) ≤ 200 := by omega
        have hm3 : (pts.length : Int) ≤ 200 := by omega
        clear hk hb hm
        rcases hk12 with ⟨rfl, rfl⟩ | ⟨rfl, rfl⟩
        · clear hm3
          have HX2 := Aside0.mk (show checkRc ⟨1, refs, []⟩ = firstErr refs by rw [HX.out]; split <;> simp_all)
          go_enter Tryz.func16, Tryz.ntmps16
          go_wp2
          have hz := cell_at_new w (.int .i64 1) (.slice A0 refs.length c0) (.slice A1 0 c1) 35
          have HB2 : Aside0 (Below w.heap.size w (w.alloc (.cells #[.int .i64 1, .slice A0 refs.length c0, .slice A1 0 c1] 35))) := HB
          clear HB HX
          generalize w.alloc (.cells #[.int .i64 1, .slice A0 refs.length c0, .slice A1 0 c1] 35) = w1 at *
          go_loopw [52] (fun i wr => ∃ j : Nat, j ≤ refs.length ∧ i = .int .i64 j ∧ wr.cell? ⟨w.heap.size, 2, none⟩ = some (.slice A1 0 c1) ∧ Aside0 (firstErr (refs.drop j) = firstErr refs) ∧ Aside0 (Below w.heap.size w wr)) (fun i _ => refs.length - (intOf i).toNat)
          case atStart => exact ⟨0, by omega, rfl, hz, ⟨rfl⟩, HB2⟩
          case round =>
            clear hz HB2
            obtain ⟨j, hj, rfl, hz, HE, HB⟩ := hrel
            by_cases hlt : j < refs.length
            · have hltb : (j : Int) < (refs.length : Int) := by omega
              obtain ⟨ad, A', c', rfl, g0, g1, g2, g3⟩ := at_ref (Kd.C_below H0.out HB.out) j hlt
              have G3 := Aside0.mk (Kd.C_below g3 (below_alloc (Below.refl wr.heap.size wr) (.cells #[.int .i64 (rdRef refs j).ref, .slice A' (rdRef refs j).ls.length c'] 62)))
              have GS := Aside0.mk (show SmallL (rdRef refs j).ls by rw [rdRef_eq hlt]; exact HS.out _ (List.getElem_mem hlt))
              have hz2 := pw_cell_below (below_alloc (Below.refl wr.heap.size wr) (.cells #[.int .i64 (rdRef refs j).ref, .slice A' (rdRef refs j).ls.length c'] 62)) hz
              have HBa := Aside0.mk (below_alloc HB.out (.cells #[.int .i64 (rdRef refs j).ref, .slice A' (rdRef refs j).ls.length c'] 62))
              clear g3
              by_cases he : checkRf (rdRef refs j) = 0
              · have HN := Aside0.mk (show firstErr (refs.drop (j + 1)) = firstErr refs by rw [← HE.out, drop_ref' hlt, firstErr, if_pos he])
                have H0e := Aside0.mk he
                clear he
                go_wp2_with (go_at_call 34; refine (checkRef_calls (rdRef refs j) A' c' _ G3.out GS.out).mono ?_; rw [H0e.out]; rintro e w2 ⟨rfl, hb2⟩; have hz3 := pw_cell_below hb2 hz2)
                go_roundw
                case rel => exact ⟨j + 1, by omega, by go_num, hz3, HN, ⟨below_step HBa.out hb2⟩⟩
                case measure => simp [intOf]; omega
              · have HN := Aside0.mk (show firstErr refs = checkRf (rdRef refs j) by rw [← HE.out, drop_ref' hlt, firstErr, if_neg he])
                have heb : (checkRf (rdRef refs j) != 0) = true := by simpa using he
                clear he
                go_wp2_with (go_at_call 34; refine (checkRef_calls (rdRef refs j) A' c' _ G3.out GS.out).mono ?_; rintro e w2 ⟨rfl, hb2⟩)
                go_ret
                exact ⟨by rw [HX2.out, HN.out]; rfl, below_step HBa.out hb2⟩
            · obtain rfl : j = refs.length := by omega
              have hltb : ¬ (refs.length : Int) < (refs.length : Int) := by omega
              have HN := Aside0.mk (show firstErr refs = 0 by rw [← HE.out, List.drop_length]; rfl)
              go_wp2_with fail
              go_rounds 1
              go_ret
              exact ⟨by rw [HX2.out, HN.out]; rfl, HB.out⟩
        · have HX2 := Aside0.mk (show checkRc ⟨2, [], pts⟩ = if pts.any badPt = true then 3 else 0 by rw [HX.out]; rfl)
          go_enter Tryz.func16, Tryz.ntmps16
          go_wp2
          go_rounds 1
          go_loopw [65] (fun i wr => ∃ j : Nat, j ≤ pts.length ∧ i = .int .i64 j ∧ Aside0 ((pts.take j).any badPt = false) ∧ Aside0 (Below w.heap.size w wr)) (fun i _ => pts.length - (intOf i).toNat)
          case atStart => exact ⟨0, by omega, rfl, ⟨by simp⟩, HB⟩
          case round =>
            clear HB
            obtain ⟨j, hj, rfl, HE, HB⟩ := hrel
            by_cases hlt : j < pts.length
            · have hltb : (j : Int) < (pts.length : Int) := by omega
              obtain ⟨ad, rfl, g0, g1, g2⟩ := at_pt (Kd.C_below H1.out HB.out) j hlt
              have HBa := Aside0.mk (below_alloc HB.out (.cells #[.int .i64 (rdPt pts j).ref, .int .i64 (rdPt pts j).time, .int .u64 (rdPt pts j).bits] 50))
              have hcs : (isRefB (rdPt pts j).ref = false) ∨ (isRefB (rdPt pts j).ref = true ∧ isTimeB (rdPt pts j).time = false) ∨ (isRefB (rdPt pts j).ref = true ∧ isTimeB (rdPt pts j).time = true) := by
                cases isRefB (rdPt pts j).ref <;> cases isTimeB (rdPt pts j).time <;> simp
              rcases hcs with h1 | ⟨h1, h2⟩ | ⟨h1, h2⟩
              · have HN := Aside0.mk (show pts.any badPt = true from List.any_eq_true.2 ⟨_, List.getElem_mem hlt, by rw [← rdPt_eq hlt, badPt, h1]; rfl⟩)
                have K1 := Aside0.mk h1
                clear h1
                go_wp2_with (go_at_call 37; refine (isRef_calls _ _).mono ?_; rw [K1.out]; rintro e w2 ⟨rfl, rfl⟩)
                go_ret
                exact ⟨by rw [HX2.out, HN.out]; rfl, HBa.out⟩
              · have HN := Aside0.mk (show pts.any badPt = true from List.any_eq_true.2 ⟨_, List.getElem_mem hlt, by rw [← rdPt_eq hlt, badPt, h1, h2]; rfl⟩)
                have K1 := Aside0.mk h1
                have K2 := Aside0.mk h2
                clear h1 h2
                go_wp2_with (first | (go_at_call 37; refine (isRef_calls _ _).mono ?_; rw [K1.out]; rintro e w2 ⟨rfl, rfl⟩) | (go_at_call 35; refine (isTime_calls _ _).mono ?_; rw [K2.out]; rintro e w2 ⟨rfl, rfl⟩))
                go_ret
                exact ⟨by rw [HX2.out, HN.out]; rfl, HBa.out⟩
              · have HN := Aside0.mk (show (pts.take (j + 1)).any badPt = false by rw [List.take_succ_eq_append_getElem hlt, List.any_append, HE.out, ← rdPt_eq hlt]; simp [badPt, h1, h2])
                have K1 := Aside0.mk h1
                have K2 := Aside0.mk h2
                clear h1 h2
                go_wp2_with (first | (go_at_call 37; refine (isRef_calls _ _).mono ?_; rw [K1.out]; rintro e w2 ⟨rfl, rfl⟩) | (go_at_call 35; refine (isTime_calls _ _).mono ?_; rw [K2.out]; rintro e w2 ⟨rfl, rfl⟩))
                go_roundw
                case rel => exact ⟨j + 1, by omega, by go_num, HN, HBa⟩
                case measure => simp [intOf]; omega
            · obtain rfl : j = pts.length := by omega
              have hltb : ¬ (pts.length : Int) < (pts.length : Int) := by omega
              have HN := Aside0.mk (show pts.any badPt = false by have h := HE.out; rwa [List.take_length] at h)
              go_wp2_with fail
              go_ret
              exact ⟨by rw [HX2.out, HN.out]; rfl, HB.out⟩
end Go.Proofs.YtgmdgaioiifgnaaGreat
