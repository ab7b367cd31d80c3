/- record.Check of what is known, in rows that fit together. -/
import Derived.Test.YtgmdgaioiifgnaaGreatText
import Derived.Test.YtgmdgaioiifgnaaGreatCheck
import Derived.Test.YtgmdgaioiifgnaaGreatKn
set_option linter.unusedVariables false
set_option linter.unusedSimpArgs false
namespace Go.Proofs.YtgmdgaioiifgnaaGreat
open Go.RowKit Go.Proofs.YtgmdgaioiifgnaaGreatW.PrintWords
def knAt (k : Kn) (i : Nat) : Int :=
  if checkRf (rdRef k.refs i) ≠ 0 then checkRf (rdRef k.refs i)
  else if isTimeB (rd k.lasts i) = false then 3
  else if rdOf false k.has i = false ∧ rd k.lasts i ≠ 0 then 1
  else if 0 < i ∧ (rdRef k.refs i).ref ≤ (rdRef k.refs (i - 1)).ref then 4
  else 0
def knTexts (k : Kn) : List ByteArray := k.refs.map fun x => textLab x.ls
def twinText (l : List ByteArray) (i : Nat) : Bool := (l.take i).any fun y => decide (y = rdOf ByteArray.empty l i)
def twinTexts (l : List ByteArray) : Bool := (List.range l.length).any (twinText l)
def knErr (k : Kn) (i : Nat) : Option Int := if knAt k i = 0 then none else some (knAt k i)
def checkKn (k : Kn) : Int := match (List.range k.refs.length).findSome? (knErr k) with
  | some e => e
  | none => if twinTexts (knTexts k) then 6 else 0
theorem checkKn_bad {k : Kn} {i : Nat} (hi : i < k.refs.length) (h : ∀ j, j < i → knAt k j = 0) (hb : knAt k i ≠ 0) : checkKn k = knAt k i := by
  have hs : (List.range k.refs.length).findSome? (knErr k) = some (knAt k i) := by
    refine list_findSome_at (k := i) (fun x hx => ?_) (by simpa using hi) ?_
    · rw [List.take_range] at hx
      have := List.mem_range.1 hx
      rw [knErr, if_pos (h x (by omega))]
    · rw [List.getElem_range, knErr, if_neg hb]
  rw [checkKn, hs]
theorem checkKn_good {k : Kn} (h : ∀ j, j < k.refs.length → knAt k j = 0) : checkKn k = if twinTexts (knTexts k) then 6 else 0 := by
  have hs : (List.range k.refs.length).findSome? (knErr k) = none := by
    rw [List.findSome?_eq_none_iff]
    intro x hx
    rw [knErr, if_pos (h x (List.mem_range.1 hx))]
  rw [checkKn, hs]
theorem knAt_lab {k : Kn} {i : Nat} (hi : i < k.refs.length) (h : knAt k i = 0) : checkLab (rdRef k.refs i).ls = 0 := by
  have h1 : checkRf (rdRef k.refs i) = 0 := by
    by_cases h2 : checkRf (rdRef k.refs i) = 0
    · exact h2
    · rw [knAt, if_pos h2] at h; exact absurd h h2
  unfold checkRf at h1
  split at h1
  · exact absurd h1 (by decide)
  · split at h1
    · exact absurd h1 (by decide)
    · exact h1
theorem knAt_cases {k : Kn} {j : Nat} {x : Rf} {lv : Int} {hv : Bool} (hx : rdRef k.refs j = x) (hl : rd k.lasts j = lv) (hh : rdOf false k.has j = hv) : knAt k j = if checkRf x ≠ 0 then checkRf x else if isTimeB lv = false then 3 else if hv = false ∧ lv ≠ 0 then 1 else if 0 < j ∧ x.ref ≤ (rdRef k.refs (j - 1)).ref then 4 else 0 := by
  subst hx; subst hl; subst hh; rfl
def MetT (M : List (ByteArray × Value)) (l : List ByteArray) (k : Nat) : Prop := ∀ x, mget M x = if (l.take k).any (fun y => decide (y = x)) then some (.bool true) else none
theorem MetT.next {M : List (ByteArray × Value)} {l : List ByteArray} {k : Nat} (h : MetT M l k) (hk : k < l.length) : MetT (mput M (rdOf ByteArray.empty l k) (.bool true)) l (k + 1) := by
  intro x
  have hr : rdOf ByteArray.empty l k = l[k] := by simp [rdOf, List.getD_eq_getElem?_getD, List.getElem?_eq_getElem hk]
  rw [List.take_succ_eq_append_getElem hk, List.any_append, ← hr]
  by_cases hx : x = rdOf ByteArray.empty l k
  · subst hx; rw [mget_put_same]; simp
  · rw [mget_put_other _ _ hx, h x]
    have h2 : ([rdOf ByteArray.empty l k].any fun y => decide (y = x)) = false := by
      rw [List.any_cons, List.any_nil, decide_eq_false (fun e => hx e.symm)]; rfl
    rw [h2, Bool.or_false]
theorem twinText_at {l : List ByteArray} {k : Nat} (hk : k < l.length) (h : twinText l k = true) : twinTexts l = true := List.any_eq_true.2 ⟨k, by simpa using hk, h⟩
theorem twinText_none {l : List ByteArray} (h : ∀ i, i < l.length → twinText l i = false) : twinTexts l = false := List.any_eq_false.2 (fun i hi => by rw [h i (by simpa using hi)]; simp)
theorem knTexts_at {k : Kn} {i : Nat} (hi : i < k.refs.length) : rdOf ByteArray.empty (knTexts k) i = textLab (rdRef k.refs i).ls := by
  rw [rdRef_eq hi]
  simp [rdOf, knTexts, List.getD_eq_getElem?_getD, List.getElem?_eq_getElem, hi]
set_option maxHeartbeats 4000000 in
set_option maxRecDepth 100000 in
theorem kcheck_calls (v : Value) (k : Kn) (w : World) (hv : KnV w v k) (hk : KnOk k) : Calls Tryz.prog 15 #[v] w fun e w' => e = .returned (.int .i64 (checkKn k)) ∧ Below w.heap.size w w' := by
  obtain ⟨A0, c0, A1, c1, A2, c2, rfl, l0, l1, l2, h0, h1, h2⟩ := hv
  obtain ⟨hl1, hl2, hl3, hl4⟩ := hk
  have HR := Aside0.mk hl4
  have H0 := Aside0.mk h0
  have H1 := Aside0.mk h1
  have H2 := Aside0.mk h2
  have HBX := Aside0.mk (below_alloc (Below.refl w.heap.size w) (.cells #[.slice A0 k.refs.length c0, .slice A1 k.lasts.length c1, .slice A2 k.has.length c2] 28))
  have HNW := heap_alloc_new w (.cells #[.slice A0 k.refs.length c0, .slice A1 k.lasts.length c1, .slice A2 k.has.length c2] 28)
  have q0 : (w.alloc (.cells #[.slice A0 k.refs.length c0, .slice A1 k.lasts.length c1, .slice A2 k.has.length c2] 28)).cell? ⟨w.heap.size, 0, none⟩ = some (.slice A0 k.refs.length c0) := by rw [row_cell HNW]; rfl
  have q1 : (w.alloc (.cells #[.slice A0 k.refs.length c0, .slice A1 k.lasts.length c1, .slice A2 k.has.length c2] 28)).cell? ⟨w.heap.size, 1, none⟩ = some (.slice A1 k.lasts.length c1) := by rw [row_cell HNW]; rfl
  have q2 : (w.alloc (.cells #[.slice A0 k.refs.length c0, .slice A1 k.lasts.length c1, .slice A2 k.has.length c2] 28)).cell? ⟨w.heap.size, 2, none⟩ = some (.slice A2 k.has.length c2) := by rw [row_cell HNW]; rfl
  clear h0 h1 h2 HNW hl4
  have hb1 : ((k.lasts.length : Int) != (k.refs.length : Int)) = false := by simp; omega
  have hb2 : ((k.has.length : Int) != (k.refs.length : Int)) = false := by simp; omega
  have hb3 : ¬ (1000 : Int) < (k.refs.length : Int) := by omega
  have HL1 := Aside0.mk hl1
  have HL2 := Aside0.mk hl2
  clear hl1 hl2
  go_enter Tryz.func15, Tryz.ntmps15
  go_wp2
  have HQ := Aside0.mk (And.intro q0 (And.intro q1 q2))
  clear q0 q1 q2 hb1 hb2 hb3
  generalize w.alloc (.cells #[.slice A0 k.refs.length c0, .slice A1 k.lasts.length c1, .slice A2 k.has.length c2] 28) = W1 at *
  go_loopw [36] (fun i wr => ∃ j : Nat, j ≤ k.refs.length ∧ i = .int .i64 j ∧ Aside0 (∀ x, x < j → knAt k x = 0) ∧ Aside0 (Below W1.heap.size W1 wr)) (fun i _ => k.refs.length - (intOf i).toNat)
  case atStart => exact ⟨0, by omega, rfl, ⟨fun x hx => absurd hx (Nat.not_lt_zero x)⟩, ⟨Below.refl _ _⟩⟩
  case round =>
    obtain ⟨j, hj, rfl, HA, HB⟩ := hrel
    have hbw := HB.out
    have p0 := pw_cell_below hbw HQ.out.1
    have p1 := pw_cell_below hbw HQ.out.2.1
    have p2 := pw_cell_below hbw HQ.out.2.2
    clear hbw
    by_cases hlt : j < k.refs.length
    · have hltb : (j : Int) < (k.refs.length : Int) := by omega
      have HW := Aside0.mk (below_step HBX.out HB.out)
      obtain ⟨ad, A', c', rfl, g0, g1, g2, g3⟩ := at_ref (Kd.C_below H0.out HW.out) j hlt
      have hjl : (j : Int) < (k.lasts.length : Int) := by have := HL1.out; omega
      have hjh : (j : Int) < (k.has.length : Int) := by have := HL2.out; omega
      obtain ⟨ad1, rfl, u1⟩ := Kd.at_int (Kd.C_below H1.out HW.out) (j : Int) (by omega) hjl
      obtain ⟨ad2, rfl, u2⟩ := Kd.at_bool (Kd.C_below H2.out HW.out) (j : Int) (by omega) hjh
      rw [Int.toNat_natCast] at u1 u2
      have GS := Aside0.mk (show SmallL (rdRef k.refs j).ls by rw [rdRef_eq hlt]; exact (HR.out _ (List.getElem_mem hlt)).2)
      obtain ⟨x, hx⟩ : ∃ x, rdRef k.refs j = x := ⟨_, rfl⟩
      obtain ⟨lv, hlv⟩ : ∃ x, rd k.lasts j = x := ⟨_, rfl⟩
      obtain ⟨hv, hhv⟩ : ∃ x, rdOf false k.has j = x := ⟨_, rfl⟩
      have hkn := knAt_cases hx hlv hhv
      rw [hx] at g0 g1 g2 g3 GS
      rw [hlv] at u1
      rw [hhv] at u2
      clear hx hlv hhv g2
      have G3 := Aside0.mk (Kd.C_below g3 (below_alloc (Below.refl wr.heap.size wr) (.cells #[.int .i64 x.ref, .slice A' x.ls.length c'] 62)))
      clear g3
      by_cases he : checkRf x = 0
      · rw [if_neg (fun h => h he)] at hkn
        have HE := Aside0.mk he
        clear he
        by_cases ht : isTimeB lv = false
        · rw [if_pos ht] at hkn
          have HTM := Aside0.mk ht
          clear ht
          have HX := Aside0.mk (show checkKn k = 3 by rw [checkKn_bad hlt HA.out (by rw [hkn]; decide), hkn])
          clear hkn
          go_wp2_with (first | (go_at_call 34; refine (checkRef_calls x A' c' _ G3.out GS.out).mono ?_; rw [HE.out]; rintro e w2 ⟨rfl, hb2⟩; have hbx := below_step (below_alloc (Below.refl wr.heap.size wr) (.cells #[.int .i64 x.ref, .slice A' x.ls.length c'] 62)) hb2; have t0 := pw_cell_below hbx p0; have t1 := pw_cell_below hbx p1; have t2 := pw_cell_below hbx p2; have v1 := pw_cell_below hbx u1; have v2 := pw_cell_below hbx u2; have m0 := new_cells hb2 0; simp at m0; have HB2 := Aside0.mk (below_step HB.out hbx); clear hbx) | (go_at_call 35; refine (isTime_calls _ _).mono ?_; rw [HTM.out]; rintro e w3 ⟨rfl, rfl⟩))
          go_ret
          exact ⟨by rw [HX.out]; rfl, below_step HBX.out HB2.out⟩
        · rw [if_neg ht] at hkn
          have HTM := Aside0.mk (show isTimeB lv = true by simpa using ht)
          clear ht
          by_cases hh : hv = false ∧ lv ≠ 0
          · rw [if_pos hh] at hkn
            obtain ⟨rfl, hl0⟩ := hh
            have hl0b : (lv != 0) = true := by simpa using hl0
            clear hl0
            have HX := Aside0.mk (show checkKn k = 1 by rw [checkKn_bad hlt HA.out (by rw [hkn]; decide), hkn])
            clear hkn
            go_wp2_with (first | (go_at_call 34; refine (checkRef_calls x A' c' _ G3.out GS.out).mono ?_; rw [HE.out]; rintro e w2 ⟨rfl, hb2⟩; have hbx := below_step (below_alloc (Below.refl wr.heap.size wr) (.cells #[.int .i64 x.ref, .slice A' x.ls.length c'] 62)) hb2; have t0 := pw_cell_below hbx p0; have t1 := pw_cell_below hbx p1; have t2 := pw_cell_below hbx p2; have v1 := pw_cell_below hbx u1; have v2 := pw_cell_below hbx u2; have m0 := new_cells hb2 0; simp at m0; have HB2 := Aside0.mk (below_step HB.out hbx); clear hbx) | (go_at_call 35; refine (isTime_calls _ _).mono ?_; rw [HTM.out]; rintro e w3 ⟨rfl, rfl⟩))
            go_ret
            exact ⟨by rw [HX.out]; rfl, below_step HBX.out HB2.out⟩
          · rw [if_neg hh] at hkn
            have hcs : hv = true ∨ (hv = false ∧ lv = 0) := by
              cases hv
              · exact .inr ⟨rfl, by by_cases h0 : lv = 0; exact h0; exact absurd ⟨rfl, h0⟩ hh⟩
              · exact .inl rfl
            clear hh
            by_cases hpos : 0 < j
            · obtain ⟨ad', A'', c'', e', g0', g1', _, _⟩ := at_ref (Kd.C_below H0.out HW.out) (j - 1) (by omega)
              injection e' with e'
              subst e'
              obtain ⟨pv, hpv⟩ : ∃ y, (rdRef k.refs (j - 1)).ref = y := ⟨_, rfl⟩
              rw [hpv] at g0' hkn
              clear hpv g1'
              have hjI : (j : Int) ≤ 1000 := by omega
              have hj0 : (0 : Int) < (j : Int) := by omega
              have hj1 : (1 : Int) ≤ (j : Int) := by omega
              have hjm : (j : Int) - 1 < (k.refs.length : Int) := by omega
              have HW1 := Aside0.mk (show IntKind.i64.wrap ((j : Int) - 1) = (j : Int) - 1 by rw [IntKind.wrap_i64]; omega)
              have HTN := Aside0.mk (show ((j : Int) - 1).toNat = j - 1 by omega)
              by_cases hle : x.ref ≤ pv
              · rw [if_pos ⟨hpos, hle⟩] at hkn
                have HX := Aside0.mk (show checkKn k = 4 by rw [checkKn_bad hlt HA.out (by rw [hkn]; decide), hkn])
                clear hkn
                rcases hcs with rfl | ⟨rfl, rfl⟩
                all_goals
                  go_wp2_with (first | (go_at_call 34; refine (checkRef_calls x A' c' _ G3.out GS.out).mono ?_; rw [HE.out]; rintro e w2 ⟨rfl, hb2⟩; have hbx := below_step (below_alloc (Below.refl wr.heap.size wr) (.cells #[.int .i64 x.ref, .slice A' x.ls.length c'] 62)) hb2; have t0 := pw_cell_below hbx p0; have t1 := pw_cell_below hbx p1; have t2 := pw_cell_below hbx p2; have v1 := pw_cell_below hbx u1; have v2 := pw_cell_below hbx u2; have m0 := new_cells hb2 0; simp at m0; have HB2 := Aside0.mk (below_step HB.out hbx); have gp := pw_cell_below hbx g0'; clear hbx) | (go_at_call 35; refine (isTime_calls _ _).mono ?_; rw [HTM.out]; rintro e w3 ⟨rfl, rfl⟩))
                  have hw1 := HW1.out
                  have htn := HTN.out
                  go_quiet (fail)
                  clear hw1 htn
                  have HB3 := Aside0.mk (below_step HB2.out (pw_below_drewN (Below.refl _ _) nq))
                  go_wp2_with fail
                  go_ret
                  exact ⟨by rw [HX.out]; rfl, below_step HBX.out HB3.out⟩
              · rw [if_neg (fun h => hle h.2)] at hkn
                have HN := Aside0.mk (show ∀ y, y < j + 1 → knAt k y = 0 from fun y hy => by
                  rcases Nat.lt_or_ge y j with h | h
                  · exact HA.out y h
                  · obtain rfl : y = j := by omega
                    exact hkn)
                clear hkn
                rcases hcs with rfl | ⟨rfl, rfl⟩
                all_goals
                  go_wp2_with (first | (go_at_call 34; refine (checkRef_calls x A' c' _ G3.out GS.out).mono ?_; rw [HE.out]; rintro e w2 ⟨rfl, hb2⟩; have hbx := below_step (below_alloc (Below.refl wr.heap.size wr) (.cells #[.int .i64 x.ref, .slice A' x.ls.length c'] 62)) hb2; have t0 := pw_cell_below hbx p0; have t1 := pw_cell_below hbx p1; have t2 := pw_cell_below hbx p2; have v1 := pw_cell_below hbx u1; have v2 := pw_cell_below hbx u2; have m0 := new_cells hb2 0; simp at m0; have HB2 := Aside0.mk (below_step HB.out hbx); have gp := pw_cell_below hbx g0'; clear hbx) | (go_at_call 35; refine (isTime_calls _ _).mono ?_; rw [HTM.out]; rintro e w3 ⟨rfl, rfl⟩))
                  have hw1 := HW1.out
                  have htn := HTN.out
                  go_quiet (fail)
                  clear hw1 htn
                  have HB3 := Aside0.mk (below_step HB2.out (pw_below_drewN (Below.refl _ _) nq))
                  go_wp2_with fail
                  go_roundw
                  case rel => exact ⟨j + 1, by omega, by go_num, HN, HB3⟩
                  case measure => simp [intOf]; omega
            · rw [if_neg (fun h => hpos h.1)] at hkn
              have HN := Aside0.mk (show ∀ y, y < j + 1 → knAt k y = 0 from fun y hy => by
                obtain rfl : y = j := (by omega)
                exact hkn)
              have hj0 : ¬ (0 : Int) < (j : Int) := by omega
              clear hkn
              rcases hcs with rfl | ⟨rfl, rfl⟩
              all_goals
                go_wp2_with (first | (go_at_call 34; refine (checkRef_calls x A' c' _ G3.out GS.out).mono ?_; rw [HE.out]; rintro e w2 ⟨rfl, hb2⟩; have hbx := below_step (below_alloc (Below.refl wr.heap.size wr) (.cells #[.int .i64 x.ref, .slice A' x.ls.length c'] 62)) hb2; have t0 := pw_cell_below hbx p0; have t1 := pw_cell_below hbx p1; have t2 := pw_cell_below hbx p2; have v1 := pw_cell_below hbx u1; have v2 := pw_cell_below hbx u2; have m0 := new_cells hb2 0; simp at m0; have HB2 := Aside0.mk (below_step HB.out hbx); clear hbx) | (go_at_call 35; refine (isTime_calls _ _).mono ?_; rw [HTM.out]; rintro e w3 ⟨rfl, rfl⟩))
                go_quiet (fail)
                have HB3 := Aside0.mk (below_step HB2.out (pw_below_drewN (Below.refl _ _) nq))
                go_wp2_with fail
                go_roundw
                case rel => exact ⟨j + 1, by omega, by go_num, HN, HB3⟩
                case measure => simp [intOf]; omega
      · rw [if_pos he] at hkn
        have HX := Aside0.mk (show checkKn k = checkRf x by rw [checkKn_bad hlt HA.out (by rw [hkn]; exact he), hkn])
        have heb : (checkRf x != 0) = true := by simpa using he
        clear he hkn
        go_wp2_with (go_at_call 34; refine (checkRef_calls x A' c' _ G3.out GS.out).mono ?_; rintro e w2 ⟨rfl, hb2⟩; have HB2 := Aside0.mk (below_step HB.out (below_step (below_alloc (Below.refl wr.heap.size wr) (.cells #[.int .i64 x.ref, .slice A' x.ls.length c'] 62)) hb2)))
        go_ret
        exact ⟨by rw [HX.out]; rfl, below_step HBX.out HB2.out⟩
    · obtain rfl : j = k.refs.length := by omega
      have hltb : ¬ (k.refs.length : Int) < (k.refs.length : Int) := by omega
      have HG := Aside0.mk (checkKn_good HA.out)
      have HLB := Aside0.mk (fun i (hi : i < k.refs.length) => knAt_lab hi (HA.out i hi))
      clear HA hltb
      have hmm := @run_makeMap Tryz.prog
      have p0n := pw_cell_below (below_alloc (Below.refl wr.heap.size wr) (.map #[] 0)) p0
      go_wp2
      have HM0 := Aside0.mk (MapOf.made keyS wr)
      have HB1 := Aside0.mk (below_alloc HB.out (.map #[] 0))
      have hbm : W1.heap.size ≤ wr.heap.size := HB.out.size
      obtain ⟨W2, hW2⟩ : ∃ W2, W2 = wr.alloc (.map #[] 0) := ⟨_, rfl⟩
      rw [← hW2] at HM0 HB1 ⊢
      generalize wr.heap.size = bm at *
      clear hmm hW2 HB p0 p1 p2 p0n
      go_loopw [89] (fun i W => ∃ (j : Nat) (M : List (ByteArray × Value)), j ≤ k.refs.length ∧ i = .int .i64 j ∧ Aside0 (MapOf keyS W bm M) ∧ Aside0 (MetT M (knTexts k) j) ∧ Aside0 (∀ i, i < j → twinText (knTexts k) i = false) ∧ Aside0 (Below W1.heap.size W1 W)) (fun i _ => k.refs.length - (intOf i).toNat)
      case atStart => exact ⟨0, [], by omega, rfl, HM0, ⟨fun x => by simp [mget]⟩, ⟨fun i hi => absurd hi (Nat.not_lt_zero i)⟩, HB1⟩
      case round =>
        clear HM0 HB1
        obtain ⟨j, M, hj, rfl, HM, HMet, HT, HB⟩ := hrel
        have hkl : (knTexts k).length = k.refs.length := by simp [knTexts]
        have HKL := Aside0.mk hkl
        clear hkl
        by_cases hlt : j < k.refs.length
        · have HW := Aside0.mk (below_step HBX.out HB.out)
          obtain ⟨ad, A', c', rfl, g0, g1, g2, g3⟩ := at_ref (Kd.C_below H0.out HW.out) j hlt
          have hltb : (j : Int) < (k.refs.length : Int) := by omega
          have GS := Aside0.mk (show SmallL (rdRef k.refs j).ls by rw [rdRef_eq hlt]; exact (HR.out _ (List.getElem_mem hlt)).2)
          have GZ := Aside0.mk (HLB.out j hlt)
          have HTX := Aside0.mk (knTexts_at hlt)
          obtain ⟨x, hx⟩ : ∃ x, rdRef k.refs j = x := ⟨_, rfl⟩
          rw [hx] at g0 g1 g2 g3 GS GZ HTX
          clear hx g2
          have G3 := Aside0.mk (Kd.C_below g3 (below_alloc (Below.refl wr.heap.size wr) (.cells #[.int .i64 x.ref, .slice A' x.ls.length c'] 62)))
          clear g3
          by_cases htw : twinText (knTexts k) j = true
          · have HX := Aside0.mk (show checkKn k = 6 by rw [HG.out, if_pos (twinText_at (by rw [HKL.out]; exact hlt) htw)])
            have HGet : Aside0 (mget M (textLab x.ls) = some (.bool true)) := ⟨by rw [← HTX.out]; exact (HMet.out _).trans (if_pos htw)⟩
            clear htw
            go_wp2_with (first | (go_at_call 36; refine (text_calls A' c' x.ls _ G3.out GS.out GZ.out).mono ?_; rintro e w2 ⟨rfl, hb2⟩; have HBW := Aside0.mk (below_step (below_alloc (Below.refl wr.heap.size wr) (.cells #[.int .i64 x.ref, .slice A' x.ls.length c'] 62)) hb2); clear hb2) | (at_lookup; refine map_lookup keyS rfl (.tmp 99) (.tmp 100) false rfl Tryz.underlying90 Tryz.underlying9 Tryz.zeroValue4 (HM.out.below _ HBW.out) rfl (textLab x.ls) rfl ?_; simp only [Bool.false_eq_true, if_false, HGet.out, Option.getD_some]))
            go_ret
            exact ⟨by rw [HX.out]; rfl, below_step HBX.out (below_step HB.out HBW.out)⟩
          · have htw2 : twinText (knTexts k) j = false := by simpa using htw
            have HTW := Aside0.mk htw2
            have HGet : Aside0 (mget M (textLab x.ls) = none) := ⟨by rw [← HTX.out]; exact (HMet.out _).trans (if_neg htw)⟩
            clear htw htw2
            go_wp2_with (first | (go_at_call 36; refine (text_calls A' c' x.ls _ G3.out GS.out GZ.out).mono ?_; rintro e w2 ⟨rfl, hb2⟩; have HBW := Aside0.mk (below_step (below_alloc (Below.refl wr.heap.size wr) (.cells #[.int .i64 x.ref, .slice A' x.ls.length c'] 62)) hb2); clear hb2) | (at_lookup; refine map_lookup keyS rfl (.tmp 99) (.tmp 100) false rfl Tryz.underlying90 Tryz.underlying9 Tryz.zeroValue4 (HM.out.below _ HBW.out) rfl (textLab x.ls) rfl ?_; simp only [Bool.false_eq_true, if_false, HGet.out, Option.getD_none]) | (at_mapUpdate; refine map_update keyS rfl (.tmp 102) (.tmp 103) (.const (.bool true)) rfl Tryz.underlying90 Tryz.underlying9 (HM.out.below _ HBW.out) rfl (textLab x.ls) rfl (.bool true) rfl ?_; intro w5 hm5 hg5; have HM5 := Aside0.mk hm5; have HB5 := Aside0.mk (pw_below_grown (below_step HB.out HBW.out) (some bm) (by have h1 := HB.out.size; have h2 := HBW.out.size; omega) hg5 (fun q hq => by injection hq with hq; omega)); clear hm5 hg5))
            go_roundw
            case rel => exact ⟨j + 1, _, by omega, by go_num, HM5, ⟨by rw [← HTX.out]; exact HMet.out.next (by rw [HKL.out]; exact hlt)⟩, ⟨fun i hi => by
              rcases Nat.lt_or_ge i j with h | h
              · exact HT.out i h
              · obtain rfl : i = j := (by omega)
                exact HTW.out⟩, HB5⟩
            case measure => simp [intOf]; omega
        · obtain rfl : j = k.refs.length := by omega
          have hltb : ¬ (k.refs.length : Int) < (k.refs.length : Int) := by omega
          have HX := Aside0.mk (show checkKn k = 0 by rw [HG.out, twinText_none (by rw [HKL.out]; exact HT.out)]; rfl)
          go_wp2_with fail
          go_ret
          exact ⟨by rw [HX.out]; rfl, below_step HBX.out HB.out⟩
end Go.Proofs.YtgmdgaioiifgnaaGreat
