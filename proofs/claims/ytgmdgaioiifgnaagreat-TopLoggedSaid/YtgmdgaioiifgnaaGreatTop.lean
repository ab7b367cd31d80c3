/- gleanerlaw.TopLogged: always true. -/
import Derived.Test.YtgmdgaioiifgnaaGreatTopk
import Derived.Test.YtgmdgaioiifgnaaGreatD
set_option linter.unusedVariables false
set_option linter.unusedSimpArgs false
namespace Go.Proofs.YtgmdgaioiifgnaaGreat
open Go.RowKit Go.Proofs.YtgmdgaioiifgnaaGreatW.PrintWords
theorem TS.new (w w2 : World) (hb : Below w.heap.size w w2) : TS w (((w2.alloc (.cells #[.slice none 0 0, .slice none 0 0, .slice none 0 0] 28)).alloc (.cells #[.slice none 0 0, .slice none 0 0, .slice none 0 0] 28)).alloc (.cells #[.int .i64 0] 3)) w2.heap.size [] (.slice none 0 0) (.slice none 0 0) (.slice none 0 0) (some ⟨w2.heap.size + 1, 0, none⟩) (some ⟨w2.heap.size + 1 + 1, 0, none⟩) 1 1 [zTri] := by
  have s1 : (w2.alloc (.cells #[.slice none 0 0, .slice none 0 0, .slice none 0 0] 28)).heap.size = w2.heap.size + 1 := by simp
  have s2 : ((w2.alloc (.cells #[.slice none 0 0, .slice none 0 0, .slice none 0 0] 28)).alloc (.cells #[.slice none 0 0, .slice none 0 0, .slice none 0 0] 28)).heap.size = w2.heap.size + 1 + 1 := by simp
  have hz := hb.size
  have k1 := OwnRow.lit (R := kTri.M (w2.alloc (.cells #[.slice none 0 0, .slice none 0 0, .slice none 0 0] 28)) w.heap.size (fun _ => True)) (size := 3) (e := 28) (ps := [zTri]) (w2.alloc (.cells #[.slice none 0 0, .slice none 0 0, .slice none 0 0] 28)) w.heap.size (inner := [.slice none 0 0, .slice none 0 0, .slice none 0 0]) ⟨rfl, fun j p hp => by
    cases j with
    | zero => obtain rfl : zTri = p := by simpa using hp
              exact ⟨rfl, rfl, rfl, rfl⟩
    | succ j => simp at hp⟩ (by rw [s1]; omega) (by decide)
  have k2 := OwnRow.lit (R := (Kd.int .i64).M ((w2.alloc (.cells #[.slice none 0 0, .slice none 0 0, .slice none 0 0] 28)).alloc (.cells #[.slice none 0 0, .slice none 0 0, .slice none 0 0] 28)) w.heap.size (fun _ => True)) (size := 1) (e := 3) (ps := [(0 : Int)]) ((w2.alloc (.cells #[.slice none 0 0, .slice none 0 0, .slice none 0 0] 28)).alloc (.cells #[.slice none 0 0, .slice none 0 0, .slice none 0 0] 28)) w.heap.size (inner := [.int .i64 0]) ⟨rfl, fun j p hp => by
    cases j with
    | zero => obtain rfl : (0 : Int) = p := by simpa using hp
              rfl
    | succ j => simp at hp⟩ (by rw [s2]; omega) (by decide)
  rw [s1] at k1
  rw [s2] at k2
  have hK : kTri.R 28 ((w2.alloc (.cells #[.slice none 0 0, .slice none 0 0, .slice none 0 0] 28)).alloc (.cells #[.slice none 0 0, .slice none 0 0, .slice none 0 0] 28)) w.heap.size (fun q => q ≠ w2.heap.size) (.slice (some ⟨w2.heap.size + 1, 0, none⟩) 1 1) [zTri] :=
    ⟨fun k hk => by have : w2.heap.size + 1 = k := by simpa [Value.ownBlock] using hk
                    omega, k1⟩
  refine ⟨hz, ?_, rfl, zKnOk, fun r hr => absurd hr List.not_mem_nil, trivial, Kd.R_below hK (below_alloc (Below.refl _ _) _), rfl, fun j hj => ?_, fun j hj q hq => ?_, ⟨fun _ _ => trivial, k2⟩, below_alloc (below_alloc (below_alloc hb _) _) _⟩
  · exact block_below' (block_below' (heap_alloc_new w2 _) (below_alloc (Below.refl _ _) _)) (below_alloc (Below.refl _ _) _)
  · obtain rfl : j = 0 := by simpa using hj
    exact zKnO _ _
  · obtain rfl : j = 0 := by simpa using hj
    simp [zTri, Value.ownBlock] at hq
def logB (rs : List Rc) : ByteArray := ⟨(logL [] (rs.map packB)).toArray⟩
theorem keep6 {W U : World} {p1 p2 p3 p4 p5 p6 : Addr} {v1 v2 v3 v4 v5 v6 : Value} (h1 : W.cell? p1 = some v1) (h2 : W.cell? p2 = some v2) (h3 : W.cell? p3 = some v3) (h4 : W.cell? p4 = some v4) (h5 : W.cell? p5 = some v5) (h6 : W.cell? p6 = some v6) (hb : Below W.heap.size W U) :
    U.cell? p1 = some v1 ∧ U.cell? p2 = some v2 ∧ U.cell? p3 = some v3 ∧ U.cell? p4 = some v4 ∧ U.cell? p5 = some v5 ∧ U.cell? p6 = some v6 :=
  ⟨pw_cell_below hb h1, pw_cell_below hb h2, pw_cell_below hb h3, pw_cell_below hb h4, pw_cell_below hb h5, pw_cell_below hb h6⟩
theorem keep7 {W U : World} {p1 p2 p3 p4 p5 p6 p7 : Addr} {v1 v2 v3 v4 v5 v6 v7 : Value} (h1 : W.cell? p1 = some v1) (h2 : W.cell? p2 = some v2) (h3 : W.cell? p3 = some v3) (h4 : W.cell? p4 = some v4) (h5 : W.cell? p5 = some v5) (h6 : W.cell? p6 = some v6) (h7 : W.cell? p7 = some v7) (hb : Below W.heap.size W U) :
    U.cell? p1 = some v1 ∧ U.cell? p2 = some v2 ∧ U.cell? p3 = some v3 ∧ U.cell? p4 = some v4 ∧ U.cell? p5 = some v5 ∧ U.cell? p6 = some v6 ∧ U.cell? p7 = some v7 :=
  ⟨pw_cell_below hb h1, pw_cell_below hb h2, pw_cell_below hb h3, pw_cell_below hb h4, pw_cell_below hb h5, pw_cell_below hb h6, pw_cell_below hb h7⟩
structure TopIn (w : World) (A : Option Addr) (l : List Rc) : Prop where
  row : kRc.C w A l.length l
  labs : ∀ r ∈ l, ∀ x ∈ r.refs, SmallL x.ls
  bits : ∀ r ∈ l, ∀ p ∈ r.pts, 0 ≤ p.bits ∧ p.bits ≤ 18446744073709551615
set_option maxHeartbeats 8000000 in
set_option maxRecDepth 100000 in
theorem top_calls (A : Option Addr) (c : Nat) (l : List Rc) (cut : Int) (w : World) (hin : TopIn w A l) (hc0 : -9223372036854775808 ≤ cut) (hc1 : cut ≤ 9223372036854775807) :
    Calls Tryz.prog 3 #[.slice A l.length c, .int .i64 cut] w fun e w' => e = .returned (.bool true) ∧ Below w.heap.size w w' := by
  have HIN := Aside0.mk hin
  have hln : (l.length : Int) ≤ 9223372036854775807 := by have := hin.row.2.1; omega
  clear hin
  go_enter Tryz.func3, Tryz.ntmps3
  go_wp2_with fail
  refine (logBegun_calls w).mono ?_; rintro e w1 ⟨rfl, hb1⟩
  go_wp2_with fail
  refine (recordBegun_calls w1).mono ?_; rintro e w2 ⟨rfl, hb2⟩
  have HTS := Aside0.mk (TS.new w w2 (below_step hb1 hb2))
  clear hb1 hb2
  go_wp2_with fail
  generalize hkb : w2.heap.size = kb at *
  clear hkb
  go_loopw [5, 7, 8, 9] (fun s kn en i wr => ∃ (j : Nat) (rs : List Rc) (a b c : Value) (Ak Ae : Option Addr) (ck ce : Nat) (tris : List Tri), j ≤ l.length ∧ j ≤ 20 ∧ i = .int .i64 j ∧ s = .string (logB rs) ∧ kn = .slice Ak tris.length ck ∧ en = .slice Ae (rs.length + 1) ce ∧ Aside0 (TS w wr kb rs a b c Ak Ae ck ce tris) ∧ Aside0 (rs.length ≤ j)) (fun _ _ _ i _ => l.length - (intOf i).toNat)
  case atStart => exact ⟨0, [], _, _, _, _, _, _, _, _, by omega, by omega, rfl, rfl, rfl, rfl, HTS, ⟨Nat.zero_le _⟩⟩
  case round =>
    obtain ⟨j, rs, a, b, c', Ak, Ae, ck, ce, tris, hj, hj20, rfl, rfl, rfl, rfl, HT, HRL⟩ := hrel
    clear HTS
    by_cases hlt : j < l.length ∧ j < 20
    · obtain ⟨hlt, hlt20⟩ := hlt
      have hltb : (j : Int) < (l.length : Int) := by omega
      have hlt20b : (j : Int) < 20 := by omega
      obtain ⟨ad, B0, d0, B1, d1, rfl, y0, y1, y2, hv⟩ := at_rc (Kd.C_below HIN.out.row HT.out.below) j hlt
      have HV := Aside0.mk hv
      have HLB := Aside0.mk (show (∀ x ∈ (rdRc l j).refs, SmallL x.ls) ∧ (∀ p ∈ (rdRc l j).pts, 0 ≤ p.bits ∧ p.bits ≤ 18446744073709551615) by rw [rdRc_eq hlt]; exact ⟨HIN.out.labs _ (List.getElem_mem hlt), HIN.out.bits _ (List.getElem_mem hlt)⟩)
      have x0 := cell_head HT.out.kc
      have x1 := cell_mid HT.out.kc
      have x2 := cell_last HT.out.kc
      generalize hr : rdRc l j = r at *
      have HRR := Aside0.mk hr
      clear hv hr
      go_wp2_with fail
      go_region_held3 (fun U => U.cell? ⟨kb, 0, none⟩ = some a ∧ U.cell? ⟨kb, 1, none⟩ = some b ∧ U.cell? ⟨kb, 2, none⟩ = some c' ∧ U.cell? (ad.add (j * 3)) = some (.int .i64 r.kind) ∧ U.cell? ⟨(ad.add (j * 3)).block, (ad.add (j * 3)).off + 1, none⟩ = some (.slice B0 r.refs.length d0) ∧ U.cell? ⟨(ad.add (j * 3)).block, (ad.add (j * 3)).off + 2, none⟩ = some (.slice B1 r.pts.length d1))
        (first
          | exact ⟨x0, x1, x2, y0, y1, y2⟩
          | exact keep6 x0 x1 x2 y0 y1 y2 (below_alloc (below_drew (Below.refl wr.heap.size wr)) _)
          | exact keep6 x0 x1 x2 y0 y1 y2 (below_step (below_drew (Below.refl wr.heap.size wr)) hb4)
          | exact keep6 x0 x1 x2 y0 y1 y2 (below_alloc (below_step (below_drew (Below.refl wr.heap.size wr)) hb4) _)
          | exact keep6 x0 x1 x2 y0 y1 y2 (below_step (below_alloc (below_drew (Below.refl wr.heap.size wr)) _) hb4)
          | exact keep6 x0 x1 x2 y0 y1 y2 (below_set (below_set (below_set (below_step (below_alloc (below_drew (Below.refl wr.heap.size wr)) _) hb4) (Nat.le_refl _)) (Nat.le_refl _)) (Nat.le_refl _))
          | go_keep)
        (first
          | (go_at_call 6; refine (lrn_calls _ _ (kFold zKn rs) r _ (by first | exact (HT.out.own.below (below_drew (Below.refl _ _))).reads | exact (HT.out.own.below (below_alloc (below_drew (Below.refl _ _)) _)).reads) (by first | exact HV.out.below (below_drew (Below.refl _ _)) | exact HV.out.below (below_alloc (below_drew (Below.refl _ _)) _)) HT.out.ok HLB.out.1).mono ?_; rintro e w4 ⟨⟨xa, xb, xc, rfl, hk4⟩, hok4, hb4⟩; obtain ⟨Xr, er, rfl⟩ := Kd.R_slice hk4.refs; obtain ⟨Xl, el, rfl⟩ := Kd.R_slice hk4.lasts; obtain ⟨Xh, eh, rfl⟩ := Kd.R_slice hk4.has; have hc4 := cells_of_below hb4; have hf4 := frozen_of_below hb4; have hs4 := size_of_below hb4))
      have hTL := TL.late HT.out hb4 hk4 hok4
      generalize w4.alloc (.cells #[.slice Xr (learnAll (kFold zKn rs) r).1.refs.length er, .slice Xl (learnAll (kFold zKn rs) r).1.lasts.length el, .slice Xh (learnAll (kFold zKn rs) r).1.has.length eh] 28) = U at hTL ⊢
      generalize w4.heap.size = N at hTL ⊢
      rotate_left
      obtain ⟨h3, hTL⟩ := TL.early HT.out rfl hb4 hk4 hok4
      rw [set3 h3]
      generalize w4.setRow wr.heap.size #[.slice Xr (learnAll (kFold zKn rs) r).1.refs.length er, .slice Xl (learnAll (kFold zKn rs) r).1.lasts.length el, .slice Xh (learnAll (kFold zKn rs) r).1.has.length eh] = U at hTL ⊢
      generalize wr.heap.size = N at hTL ⊢
      clear h3
      rotate_left
      · have HTL := Aside0.mk hTL
        clear hTL hb4 hk4 hok4 hc4 hf4 hs4 x0 x1 x2 y0 y1 y2 HT
        obtain ⟨ad', B0', d0', B1', d1', he, y0, y1, y2, hv⟩ := at_rc (Kd.C_below HIN.out.row HTL.out.ts.below) j hlt
        obtain rfl : ad = ad' := Option.some.inj he
        rw [HRR.out] at y0 y1 y2 hv
        have HV2 := Aside0.mk hv
        clear he hv
        go_wp2_with fail
        refine (pack_calls _ r _ HV2.out HLB.out.1 HLB.out.2).mono ?_; rintro e w5 ⟨he5, hb5⟩
        have HTL5 := Aside0.mk (HTL.out.to hb5)
        clear HTL hb5 y0 y1 y2
        by_cases hx : (learnAll (kFold zKn rs) r).2 = 0
        · obtain ⟨hck, hlk, hke⟩ := learnAll_ok hx
          obtain rfl : e = .returned (.tuple #[.string (packB r), .int .i64 0]) := by rw [he5, packVal, packRc, if_neg (fun h => h hck)]
          rw [hx]
          have HCK := Aside0.mk hck
          have HLK := Aside0.mk hlk
          have HKE := Aside0.mk hke
          have HPB := Aside0.mk (packB_small hck)
          have HLS := Aside0.mk (logL_size (rs.map packB) (fun p hp => by obtain ⟨q, hq, rfl⟩ := List.mem_map.1 hp; exact (HTL5.out.ts.fit q hq).2) (by rw [List.length_map]; have := HRL.out; omega))
          have HLS2 := Aside0.mk (show (logB rs).size ≤ 1000000 by have h1 := HLS.out; have h2 : (logB rs).size = (logL [] (rs.map packB)).length := rfl; rw [List.length_map] at h1; have := HRL.out; omega)
          have HPQ := Aside0.mk (show packB r = packB r from rfl)
          clear hck hlk hke he5 hx
          generalize hk2 : (learnAll (kFold zKn rs) r).1 = k2 at *
          have HK2 := Aside0.mk hk2
          clear hk2
          go_wp2_with fail
          refine (append_calls (logB rs) (packB r) w5 (by have := HLS2.out; omega) (by have := HPB.out; omega)).mono ?_; rintro e w6 ⟨he6, hb6⟩
          have HTL6 := Aside0.mk (HTL5.out.to hb6)
          clear HTL5 hb6
          by_cases hbig : (packB r).size ≤ 20000
          · obtain rfl : e = .returned (.tuple #[.string (logB (rs ++ [r])), .int .i64 0]) := by
              rw [he6, logB, append_fits (fun q hq => by obtain ⟨p, hp, rfl⟩ := List.mem_map.1 hq; exact (HTL6.out.ts.fit p hp).2) (by rw [List.length_map]; have := HRL.out; omega) hbig, logB, List.map_append]
              rfl
            have HBIG := Aside0.mk hbig
            clear he6 hbig
            have z0 := cell_head HTL6.out.blk
            have z1 := cell_mid HTL6.out.blk
            have z2 := cell_last HTL6.out.blk
            have x0 := cell_head HTL6.out.ts.kc
            have x1 := cell_mid HTL6.out.ts.kc
            have x2 := cell_last HTL6.out.ts.kc
            have x3 := free3 HTL6.out.ts.kc
            go_wp2_with fail
            go_region
            rw [set3 HTL6.out.ts.kc]
            have hTM := (HTL6.out.ts.store (r := r) HKE.out.symm (by have := HTL6.out.own; rw [HK2.out] at this; exact this) (by have := HTL6.out.ok; rw [HK2.out] at this; exact this) HLK.out ⟨⟨HCK.out, by have := HPB.out; omega, HLB.out.2, HLB.out.1⟩, HBIG.out⟩ HTL6.out.apt).to (below_drew (Below.refl _ _))
            generalize (w6.setRow kb #[.slice Xr k2.refs.length er, .slice Xl k2.lasts.length el, .slice Xh k2.has.length eh]).drew = W7 at hTM ⊢
            have HTM := Aside0.mk hTM
            clear hTM z0 z1 z2 x0 x1 x2 x3 HTL6
            have x0 := cell_head HTM.out.kc
            have x1 := cell_mid HTM.out.kc
            have x2 := cell_last HTM.out.kc
            have HF7 := Aside0.mk (show ∀ q, W7.heap.size ≤ q → q ≠ kb from fun q hq he => by have := (Array.getElem?_eq_some_iff.1 HTM.out.kc).1; omega)
            have HL7 := Aside0.mk (show (tris.length + 1) * 72 ≤ 140737488355328 by have := HTM.out.tl; have := HRL.out; omega)
            have HE7 := Aside0.mk (show ((0 :: endsL [] (rs.map packB)).length + 1) * 8 ≤ 140737488355328 by have := HRL.out; simp [endsL_length]; omega)
            have HEL := Aside0.mk (show ∀ p : Int, ((0 :: endsL [] (rs.map packB)) ++ [p]).length = rs.length + 1 + 1 by intro p; simp [endsL_length])
            go_wp2_with (first
              | (at_builtin; refine Kd.R_append kTri (w0 := w) w.heap.size rfl (.tmp 75) (.tmp 77) 29 28 _ 72 rfl Tryz.underlying29 infoKn rfl (by decide) (by decide) (.slice Ak tris.length ck) tris (.slice Xr k2.refs.length er, .slice Xl k2.lasts.length el, .slice Xh k2.has.length eh) [.slice Xr k2.refs.length er, .slice Xl k2.lasts.length el, .slice Xh k2.has.length eh] (fun q => q ≠ kb) (fun _ => False) rfl rfl (HTM.out.new.tri) (fun _ h => h.elim) HF7.out HTM.out.known HTM.out.below HTM.out.below.size HL7.out ?_; intro v1 w8 h1 hb8 hg8 hat8; obtain ⟨Ak2, ck2, rfl⟩ := Kd.R_slice h1; have HTN := Aside0.mk (HTM.out.push h1 hb8 hg8); clear h1 hb8 hg8 hat8 x0 x1 x2)
              | (at_builtin; refine Kd.R_append (Kd.int .i64) (w0 := w) w.heap.size rfl (.tmp 79) (.tmp 82) 25 3 _ 8 rfl Tryz.underlying25 info3 rfl (by decide) (by decide) (.slice Ae (rs.length + 1) ce) (0 :: endsL [] (rs.map packB)) ((logB (rs ++ [r])).size : Int) [.int .i64 ((logB (rs ++ [r])).size : Int)] (fun _ => True) (fun _ => False) rfl rfl rfl (fun _ h => h.elim) (fun _ _ => trivial) HTN.out.ends HTN.out.below HTN.out.below.size HE7.out ?_; intro v2 w9 h2 hb9 hg9 hat9; obtain ⟨Ae2, ce2, rfl⟩ := Kd.R_slice h2; rw [HEL.out] at h2 hat9 ⊢; have HTS9 := Aside0.mk (HTN.out.push h2 hb9 hg9 hat9); clear h2 hb9 hg9 hat9))
            exact ⟨⟨j + 1, rs ++ [r], _, _, _, Ak2, Ae2, ck2, ce2, _, by omega, by omega, by go_num, rfl, by simp, by simp, HTS9, ⟨by have := HRL.out; simp; omega⟩⟩, by simp [intOf]; omega⟩
          · obtain rfl : e = .returned (.tuple #[.string ⟨#[]⟩, .int .i64 2]) := by rw [he6, appendLog, if_pos (by omega)]; rfl
            have hgt : ((packB r).size : Int) > 20000 := by omega
            have hgt2 : (20000 : Int) < ((packB r).size : Int) := by omega
            clear he6 hbig
            go_wp2_with fail
            go_ret
            exact ⟨rfl, HTL6.out.ts.below⟩
        · obtain ⟨p1, hp1⟩ : ∃ x, (packRc r).1 = x := ⟨_, rfl⟩
          obtain ⟨p2, hp2⟩ : ∃ x, (packRc r).2 = x := ⟨_, rfl⟩
          obtain rfl : e = .returned (.tuple #[.string p1, .int .i64 p2]) := by rw [he5, packVal, hp1, hp2]
          have hxb : ((learnAll (kFold zKn rs) r).2 != 0) = true := by simpa using hx
          clear he5 hp1 hp2
          go_wp2_with fail
          exact ⟨⟨j + 1, rs, _, _, _, _, _, _, _, _, by omega, by omega, by go_num, rfl, rfl, rfl, ⟨HTL5.out.ts⟩, ⟨Nat.le_succ_of_le HRL.out⟩⟩, by simp [intOf]; omega⟩
      · have HTL := Aside0.mk hTL
        clear hTL hb4 hk4 hok4 hc4 hf4 hs4 x0 x1 x2 y0 y1 y2 HT
        obtain ⟨ad', B0', d0', B1', d1', he, y0, y1, y2, hv⟩ := at_rc (Kd.C_below HIN.out.row HTL.out.ts.below) j hlt
        obtain rfl : ad = ad' := Option.some.inj he
        rw [HRR.out] at y0 y1 y2 hv
        have HV2 := Aside0.mk hv
        clear he hv
        go_wp2_with fail
        refine (pack_calls _ r _ HV2.out HLB.out.1 HLB.out.2).mono ?_; rintro e w5 ⟨he5, hb5⟩
        have HTL5 := Aside0.mk (HTL.out.to hb5)
        clear HTL hb5 y0 y1 y2
        by_cases hx : (learnAll (kFold zKn rs) r).2 = 0
        · obtain ⟨hck, hlk, hke⟩ := learnAll_ok hx
          obtain rfl : e = .returned (.tuple #[.string (packB r), .int .i64 0]) := by rw [he5, packVal, packRc, if_neg (fun h => h hck)]
          rw [hx]
          have HCK := Aside0.mk hck
          have HLK := Aside0.mk hlk
          have HKE := Aside0.mk hke
          have HPB := Aside0.mk (packB_small hck)
          have HLS := Aside0.mk (logL_size (rs.map packB) (fun p hp => by obtain ⟨q, hq, rfl⟩ := List.mem_map.1 hp; exact (HTL5.out.ts.fit q hq).2) (by rw [List.length_map]; have := HRL.out; omega))
          have HLS2 := Aside0.mk (show (logB rs).size ≤ 1000000 by have h1 := HLS.out; have h2 : (logB rs).size = (logL [] (rs.map packB)).length := rfl; rw [List.length_map] at h1; have := HRL.out; omega)
          have HPQ := Aside0.mk (show packB r = packB r from rfl)
          clear hck hlk hke he5 hx
          generalize hk2 : (learnAll (kFold zKn rs) r).1 = k2 at *
          have HK2 := Aside0.mk hk2
          clear hk2
          go_wp2_with fail
          refine (append_calls (logB rs) (packB r) w5 (by have := HLS2.out; omega) (by have := HPB.out; omega)).mono ?_; rintro e w6 ⟨he6, hb6⟩
          have HTL6 := Aside0.mk (HTL5.out.to hb6)
          clear HTL5 hb6
          by_cases hbig : (packB r).size ≤ 20000
          · obtain rfl : e = .returned (.tuple #[.string (logB (rs ++ [r])), .int .i64 0]) := by
              rw [he6, logB, append_fits (fun q hq => by obtain ⟨p, hp, rfl⟩ := List.mem_map.1 hq; exact (HTL6.out.ts.fit p hp).2) (by rw [List.length_map]; have := HRL.out; omega) hbig, logB, List.map_append]
              rfl
            have HBIG := Aside0.mk hbig
            clear he6 hbig
            have z0 := cell_head HTL6.out.blk
            have z1 := cell_mid HTL6.out.blk
            have z2 := cell_last HTL6.out.blk
            have x0 := cell_head HTL6.out.ts.kc
            have x1 := cell_mid HTL6.out.ts.kc
            have x2 := cell_last HTL6.out.ts.kc
            have x3 := free3 HTL6.out.ts.kc
            go_wp2_with fail
            go_region
            rw [set3 HTL6.out.ts.kc]
            have hTM := (HTL6.out.ts.store (r := r) HKE.out.symm (by have := HTL6.out.own; rw [HK2.out] at this; exact this) (by have := HTL6.out.ok; rw [HK2.out] at this; exact this) HLK.out ⟨⟨HCK.out, by have := HPB.out; omega, HLB.out.2, HLB.out.1⟩, HBIG.out⟩ HTL6.out.apt).to (below_drew (Below.refl _ _))
            generalize (w6.setRow kb #[.slice Xr k2.refs.length er, .slice Xl k2.lasts.length el, .slice Xh k2.has.length eh]).drew = W7 at hTM ⊢
            have HTM := Aside0.mk hTM
            clear hTM z0 z1 z2 x0 x1 x2 x3 HTL6
            have x0 := cell_head HTM.out.kc
            have x1 := cell_mid HTM.out.kc
            have x2 := cell_last HTM.out.kc
            have HF7 := Aside0.mk (show ∀ q, W7.heap.size ≤ q → q ≠ kb from fun q hq he => by have := (Array.getElem?_eq_some_iff.1 HTM.out.kc).1; omega)
            have HL7 := Aside0.mk (show (tris.length + 1) * 72 ≤ 140737488355328 by have := HTM.out.tl; have := HRL.out; omega)
            have HE7 := Aside0.mk (show ((0 :: endsL [] (rs.map packB)).length + 1) * 8 ≤ 140737488355328 by have := HRL.out; simp [endsL_length]; omega)
            have HEL := Aside0.mk (show ∀ p : Int, ((0 :: endsL [] (rs.map packB)) ++ [p]).length = rs.length + 1 + 1 by intro p; simp [endsL_length])
            go_wp2_with (first
              | (at_builtin; refine Kd.R_append kTri (w0 := w) w.heap.size rfl (.tmp 75) (.tmp 77) 29 28 _ 72 rfl Tryz.underlying29 infoKn rfl (by decide) (by decide) (.slice Ak tris.length ck) tris (.slice Xr k2.refs.length er, .slice Xl k2.lasts.length el, .slice Xh k2.has.length eh) [.slice Xr k2.refs.length er, .slice Xl k2.lasts.length el, .slice Xh k2.has.length eh] (fun q => q ≠ kb) (fun _ => False) rfl rfl (HTM.out.new.tri) (fun _ h => h.elim) HF7.out HTM.out.known HTM.out.below HTM.out.below.size HL7.out ?_; intro v1 w8 h1 hb8 hg8 hat8; obtain ⟨Ak2, ck2, rfl⟩ := Kd.R_slice h1; have HTN := Aside0.mk (HTM.out.push h1 hb8 hg8); clear h1 hb8 hg8 hat8 x0 x1 x2)
              | (at_builtin; refine Kd.R_append (Kd.int .i64) (w0 := w) w.heap.size rfl (.tmp 79) (.tmp 82) 25 3 _ 8 rfl Tryz.underlying25 info3 rfl (by decide) (by decide) (.slice Ae (rs.length + 1) ce) (0 :: endsL [] (rs.map packB)) ((logB (rs ++ [r])).size : Int) [.int .i64 ((logB (rs ++ [r])).size : Int)] (fun _ => True) (fun _ => False) rfl rfl rfl (fun _ h => h.elim) (fun _ _ => trivial) HTN.out.ends HTN.out.below HTN.out.below.size HE7.out ?_; intro v2 w9 h2 hb9 hg9 hat9; obtain ⟨Ae2, ce2, rfl⟩ := Kd.R_slice h2; rw [HEL.out] at h2 hat9 ⊢; have HTS9 := Aside0.mk (HTN.out.push h2 hb9 hg9 hat9); clear h2 hb9 hg9 hat9))
            exact ⟨⟨j + 1, rs ++ [r], _, _, _, Ak2, Ae2, ck2, ce2, _, by omega, by omega, by go_num, rfl, by simp, by simp, HTS9, ⟨by have := HRL.out; simp; omega⟩⟩, by simp [intOf]; omega⟩
          · obtain rfl : e = .returned (.tuple #[.string ⟨#[]⟩, .int .i64 2]) := by rw [he6, appendLog, if_pos (by omega)]; rfl
            have hgt : ((packB r).size : Int) > 20000 := by omega
            have hgt2 : (20000 : Int) < ((packB r).size : Int) := by omega
            clear he6 hbig
            go_wp2_with fail
            go_ret
            exact ⟨rfl, HTL6.out.ts.below⟩
        · obtain ⟨p1, hp1⟩ : ∃ x, (packRc r).1 = x := ⟨_, rfl⟩
          obtain ⟨p2, hp2⟩ : ∃ x, (packRc r).2 = x := ⟨_, rfl⟩
          obtain rfl : e = .returned (.tuple #[.string p1, .int .i64 p2]) := by rw [he5, packVal, hp1, hp2]
          have hxb : ((learnAll (kFold zKn rs) r).2 != 0) = true := by simpa using hx
          clear he5 hp1 hp2
          go_wp2_with fail
          exact ⟨⟨j + 1, rs, _, _, _, _, _, _, _, _, by omega, by omega, by go_num, rfl, rfl, rfl, ⟨HTL5.out.ts⟩, ⟨Nat.le_succ_of_le HRL.out⟩⟩, by simp [intOf]; omega⟩
    · have hcs : ¬ (j : Int) < (l.length : Int) ∨ ((j : Int) < (l.length : Int) ∧ ¬ (j : Int) < 20) := by omega
      have HLS2 := Aside0.mk (show (logB rs).size ≤ 1000000 by have h1 := logL_size (rs.map packB) (fun p hp => by obtain ⟨q, hq, rfl⟩ := List.mem_map.1 hp; exact (HT.out.fit q hq).2) (by rw [List.length_map]; have := HRL.out; omega); have h2 : (logB rs).size = (logL [] (rs.map packB)).length := rfl; rw [List.length_map] at h1; have := HRL.out; omega)
      have HRW := Aside0.mk (show readAll (logB rs) = (rs.map packB).zip (endsL [] (rs.map packB)) from read_whole _)
      have HEW := Aside0.mk (show endAt (endsL [] (rs.map packB)) rs.length = ((logB rs).size : Int) from endAt_whole rs)
      have HEL := Aside0.mk (show (endsL [] (rs.map packB)).length = rs.length by rw [endsL_length, List.length_map])
      have HFT := Aside0.mk HT.out.fit
      have HCH := Aside0.mk HT.out.chain
      rcases hcs with hcs | ⟨hcs, hcs2⟩
      · go_wp2_with fail
        refine (replay_calls (logB rs) rs (endsL [] (rs.map packB)) wr (by have := HLS2.out; omega) HEL.out HRW.out (fun r hr => (HT.out.fit r hr).1) HT.out.chain).mono ?_; rw [HEW.out]; rintro e w5 ⟨⟨xa, xb, xc, rfl, ho5⟩, hb5⟩
        have hT5 := HT.out.to hb5
        obtain ⟨Xr, er, rfl⟩ := Kd.R_slice ho5.refs
        obtain ⟨Xl, el, rfl⟩ := Kd.R_slice ho5.lasts
        obtain ⟨Xh, eh, rfl⟩ := Kd.R_slice ho5.has
        have hb6 := below_alloc (Below.refl w5.heap.size w5) (.cells #[.slice Xr (kFold zKn rs).refs.length er, .slice Xl (kFold zKn rs).lasts.length el, .slice Xh (kFold zKn rs).has.length eh] 28)
        have HT6 := Aside0.mk (hT5.to hb6)
        have HO6 := Aside0.mk (ho5.below hb6)
        have HA6 := Aside0.mk (hT5.after (xa := .slice Xr (kFold zKn rs).refs.length er) (xb := .slice Xl (kFold zKn rs).lasts.length el) (xc := .slice Xh (kFold zKn rs).has.length eh))
        have x0 := cell_head HT6.out.kc
        have x1 := cell_mid HT6.out.kc
        have x2 := cell_last HT6.out.kc
        have z0 := cell_head HA6.out.blk
        have z1 := cell_mid HA6.out.blk
        have z2 := cell_last HA6.out.blk
        clear hT5 ho5 hb5 hb6
        go_wp2_with fail
        generalize w5.alloc (.cells #[.slice Xr (kFold zKn rs).refs.length er, .slice Xl (kFold zKn rs).lasts.length el, .slice Xh (kFold zKn rs).has.length eh] 28) = W6 at *
        generalize w5.heap.size = N at *
        refine (sameKnown_calls _ _ (kFold zKn rs) W6 HO6.out.reads HT6.out.own.reads).mono ?_; rintro e w7 ⟨rfl, hb7⟩
        have HA7 := Aside0.mk (HA6.out.to hb7)
        clear HA6 HO6 HT6 hb7 x0 x1 x2 z0 z1 z2 HT
        have hsz : ((logB rs).size : Int) ≤ 1000000 := by have := HLS2.out; omega
        have hsz1 : IntKind.i64.wrap (((logB rs).size : Int) + 1) = ((logB rs).size : Int) + 1 := IntWalk.i64_in _ (by omega)
        go_wp2_with fail
        refine (choose_calls cut (((logB rs).size : Int) + 1) w7 hc0 hc1 (by omega) (by omega)).mono ?_; rintro e w8 ⟨rfl, rfl⟩
        obtain ⟨d, hd⟩ : ∃ d : Nat, (d : Int) = absN cut % (((logB rs).size : Int) + 1) := ⟨(absN cut % (((logB rs).size : Int) + 1)).toNat, Int.toNat_of_nonneg (Int.emod_nonneg _ (by omega))⟩
        have hdl : d ≤ (logB rs).size := by have := Int.emod_lt_of_pos (absN cut) (show (0 : Int) < ((logB rs).size : Int) + 1 by omega); omega
        rw [← hd]
        clear hd hsz1
        have HRL2 := Aside0.mk (show rs.length ≤ 20 by have := HRL.out; omega)
        have hrl : rs.length ≤ 20 := HRL2.out
        go_wp2_with fail
        have HR8 := Aside0.mk (HA7.out)
        go_loopw [17, 18] (fun p i wx => ∃ i' : Nat, i' ≤ rs.length + 1 ∧ i = .int .i64 i' ∧ p = .int .i64 (atF (0 :: endsL [] (rs.map packB)) d i' : Nat) ∧ wx = w8) (fun _ i _ => rs.length + 1 - (intOf i).toNat)
        case atStart => exact ⟨0, by omega, rfl, rfl, rfl⟩
        case round =>
          obtain ⟨i', hi', rfl, rfl, rfl⟩ := hrel
          by_cases hil : i' < rs.length + 1
          · have hilb : (i' : Int) < (rs.length : Int) + 1 := by omega
            have hilc : (i' : Int) < ((rs.length + 1 : Nat) : Int) := by omega
            obtain ⟨hx1, -, k2⟩ := Kd.R_reads' HA7.out.ends
            obtain ⟨ad2, hae, q0⟩ := Kd.at_int k2 i' (by omega) (by omega)
            have HEV := Aside0.mk (show rd (0 :: endsL [] (rs.map packB)) (i' : Int) = (0 :: endsL [] (rs.map packB)).getD i' 0 by simp [rd])
            rw [Int.toNat_natCast, HEV.out] at q0
            obtain ⟨ev, hev⟩ : ∃ ev, (0 :: endsL [] (rs.map packB)).getD i' 0 = ev := ⟨_, rfl⟩
            rw [hev] at q0
            subst hae
            by_cases hle : ev ≤ (d : Int)
            · have HAT := Aside0.mk (show atF (0 :: endsL [] (rs.map packB)) d (i' + 1) = i' by rw [atF, hev, if_pos hle])
              clear hx1 k2 hev
              go_wp2_with fail
              exact ⟨⟨i' + 1, by omega, by go_num, by rw [HAT.out], trivial⟩, by simp [intOf]; omega⟩
            · have HAT := Aside0.mk (show atF (0 :: endsL [] (rs.map packB)) d (i' + 1) = atF (0 :: endsL [] (rs.map packB)) d i' by rw [atF, hev, if_neg hle])
              clear hx1 k2 hev
              go_wp2_with fail
              exact ⟨⟨i' + 1, by omega, by go_num, by rw [HAT.out], trivial⟩, by simp [intOf]; omega⟩
          · obtain rfl : i' = rs.length + 1 := by omega
            have hilb : ¬ ((rs.length : Int) + 1) < (rs.length : Int) + 1 := by omega
            have hilc : ¬ (((rs.length + 1 : Nat) : Int)) < ((rs.length + 1 : Nat) : Int) := by omega
            have hat : atF (0 :: endsL [] (rs.map packB)) d (rs.length + 1) = wholeN (rs.map packB) d := by have := atF_whole (rs.map packB) d (by omega); rw [List.length_map] at this; exact this
            have hwl : wholeN (rs.map packB) d ≤ rs.length := by have := wholeN_le (rs.map packB) d; rw [List.length_map] at this; exact this
            rw [hat]
            have HRC := Aside0.mk (show readAll ((logB rs).extract 0 d) = ((rs.take (wholeN (rs.map packB) d)).map packB).zip ((endsL [] (rs.map packB)).take (wholeN (rs.map packB) d)) by
              have h := read_cut (rs.map packB) d hdl
              rw [← List.map_take] at h
              rw [← h]
              congr 1
              apply ba_ext
              rw [Lib.extract_data, List.drop_zero, Nat.sub_zero]
              rfl)
            have HXS := Aside0.mk (show ((logB rs).extract 0 d).size = d from extract_size0 _ _ hdl)
            generalize wholeN (rs.map packB) (d : Int) = m at *
            clear hat
            have HML := Aside0.mk (show ((endsL [] (rs.map packB)).take m).length = (rs.take m).length by rw [List.length_take, List.length_take, HEL.out])
            have HEM := Aside0.mk (show endAt ((endsL [] (rs.map packB)).take m) (rs.take m).length = (0 :: endsL [] (rs.map packB)).getD m 0 by rw [List.length_take, Nat.min_eq_left hwl]; exact endAt_take)
            have HFM := Aside0.mk (show ∀ r ∈ rs.take m, RcFit r from fun r hr => (HFT.out r (List.mem_of_mem_take hr)).1)
            have HCM := Aside0.mk (show Chain zKn (rs.take m) by have := HCH.out; rw [← List.take_append_drop m rs] at this; exact (Chain.app.1 this).1)
            go_wp2_with fail
            refine (replay_calls ((logB rs).extract 0 d) (rs.take m) ((endsL [] (rs.map packB)).take m) _ (by rw [HXS.out]; omega) HML.out HRC.out HFM.out HCM.out).mono ?_; rw [HEM.out]; rintro e w9 ⟨⟨ya, yb, yc, rfl, ho9⟩, hb9⟩
            generalize hkm : kFold zKn (rs.take m) = km at *
            obtain ⟨Yr, gr, rfl⟩ := Kd.R_slice ho9.refs
            obtain ⟨Yl, gl, rfl⟩ := Kd.R_slice ho9.lasts
            obtain ⟨Yh, gh, rfl⟩ := Kd.R_slice ho9.has
            have HA9 := Aside0.mk (HA7.out.to hb9)
            have HO9 := Aside0.mk ho9
            have HKM := Aside0.mk hkm
            have z0 := cell_head HA9.out.blk
            have z1 := cell_mid HA9.out.blk
            have z2 := cell_last HA9.out.blk
            have z3 := free3 HA9.out.blk
            obtain ⟨ev, hev⟩ : ∃ ev, (0 :: endsL [] (rs.map packB)).getD m 0 = ev := ⟨_, rfl⟩
            have HEV := Aside0.mk hev
            rw [hev]
            clear ho9 hb9 hkm hev
            go_wp2_with fail
            rw [set3 HA9.out.blk]
            have hg : w9.grownBy (w9.setRow N #[.slice Yr km.refs.length gr, .slice Yl km.lasts.length gl, .slice Yh km.has.length gh]) (some N) := grown_setRow (World.grownBy.refl w9 _) _ _ (.inl rfl)
            have HAX := Aside0.mk (HA9.out.store (a2 := .slice Yr km.refs.length gr) (b2 := .slice Yl km.lasts.length gl) (c2 := .slice Yh km.has.length gh))
            have HXO := Aside0.mk (HO9.out.typed HA9.out.blk hg)
            clear hg z0 z1 z2 z3 HA9 HO9
            generalize w9.setRow N #[.slice Yr km.refs.length gr, .slice Yl km.lasts.length gl, .slice Yh km.has.length gh] = W9 at *
            have n0 := cell_head HAX.out.blk
            have n1 := cell_mid HAX.out.blk
            have n2 := cell_last HAX.out.blk
            obtain ⟨-, -, k2⟩ := Kd.R_reads' HAX.out.ends
            obtain ⟨ad2, hae, q0⟩ := Kd.at_int k2 m (by omega) (by simp [endsL_length]; omega)
            rw [Int.toNat_natCast, show rd (0 :: endsL [] (rs.map packB)) (m : Int) = ev by rw [← HEV.out]; simp [rd]] at q0
            subst hae
            have hmt : m < tris.length := by have := HAX.out.tl; omega
            have hmtb : (m : Int) < (tris.length : Int) := by omega
            have hm1 : (m : Int) < ((rs.length + 1 : Nat) : Int) := by omega
            have hm2 : (m : Int) < (rs.length : Int) + 1 := by omega
            have htl : (tris.length : Int) ≤ 9223372036854775807 := by have := HAX.out.tl; omega
            obtain ⟨-, -, k3⟩ := Kd.R_reads' HAX.out.known
            obtain ⟨ad3, hak, t0, t1, t2⟩ := at_tri k3 m hmt
            subst hak
            have hkn := HAX.out.kns m hwl
            rw [HKM.out] at hkn
            obtain ⟨⟨ta, tb, tc⟩, ht⟩ : ∃ t, tris.getD m zTri = t := ⟨_, rfl⟩
            rw [ht] at t0 t1 t2 hkn
            have HKN := Aside0.mk (show KnO w W9 ta tb tc km from hkn)
            replace t0 : W9.cell? (ad3.add (m * 3)) = some ta := t0
            replace t1 : W9.cell? ⟨(ad3.add (m * 3)).block, (ad3.add (m * 3)).off + 1, none⟩ = some tb := t1
            replace t2 : W9.cell? ⟨(ad3.add (m * 3)).block, (ad3.add (m * 3)).off + 2, none⟩ = some tc := t2
            clear hkn ht k2 k3 hmt
            go_wp2_with fail
            go_region_held3 (fun U => U.cell? ⟨N, 0, none⟩ = some (.slice Yr km.refs.length gr) ∧ U.cell? ⟨N, 1, none⟩ = some (.slice Yl km.lasts.length gl) ∧ U.cell? ⟨N, 2, none⟩ = some (.slice Yh km.has.length gh) ∧ U.cell? (ad2.add m) = some (.int .i64 ev) ∧ U.cell? (ad3.add (m * 3)) = some ta ∧ U.cell? ⟨(ad3.add (m * 3)).block, (ad3.add (m * 3)).off + 1, none⟩ = some tb ∧ U.cell? ⟨(ad3.add (m * 3)).block, (ad3.add (m * 3)).off + 2, none⟩ = some tc)
              (first
                | exact ⟨n0, n1, n2, q0, t0, t1, t2⟩
                | exact keep7 n0 n1 n2 q0 t0 t1 t2 (below_drew (Below.refl W9.heap.size W9))
                | exact keep7 n0 n1 n2 q0 t0 t1 t2 (below_step (below_drew (Below.refl W9.heap.size W9)) hb10)
                | go_keep)
              (first
                | (go_at_call 10; refine (sameKnown_calls _ _ km _ (HXO.out.below (below_drew (Below.refl _ _))).reads (HKN.out.below (below_drew (Below.refl _ _))).reads).mono ?_; rintro e w10 ⟨rfl, hb10⟩))
            have HFB := Aside0.mk (below_step (below_drew HAX.out.below) hb10)
            clear hb10
            go_wp2_with fail
            go_ret
            exact ⟨rfl, HFB.out⟩
      · go_wp2_with fail
        refine (replay_calls (logB rs) rs (endsL [] (rs.map packB)) wr (by have := HLS2.out; omega) HEL.out HRW.out (fun r hr => (HT.out.fit r hr).1) HT.out.chain).mono ?_; rw [HEW.out]; rintro e w5 ⟨⟨xa, xb, xc, rfl, ho5⟩, hb5⟩
        have hT5 := HT.out.to hb5
        obtain ⟨Xr, er, rfl⟩ := Kd.R_slice ho5.refs
        obtain ⟨Xl, el, rfl⟩ := Kd.R_slice ho5.lasts
        obtain ⟨Xh, eh, rfl⟩ := Kd.R_slice ho5.has
        have hb6 := below_alloc (Below.refl w5.heap.size w5) (.cells #[.slice Xr (kFold zKn rs).refs.length er, .slice Xl (kFold zKn rs).lasts.length el, .slice Xh (kFold zKn rs).has.length eh] 28)
        have HT6 := Aside0.mk (hT5.to hb6)
        have HO6 := Aside0.mk (ho5.below hb6)
        have HA6 := Aside0.mk (hT5.after (xa := .slice Xr (kFold zKn rs).refs.length er) (xb := .slice Xl (kFold zKn rs).lasts.length el) (xc := .slice Xh (kFold zKn rs).has.length eh))
        have x0 := cell_head HT6.out.kc
        have x1 := cell_mid HT6.out.kc
        have x2 := cell_last HT6.out.kc
        have z0 := cell_head HA6.out.blk
        have z1 := cell_mid HA6.out.blk
        have z2 := cell_last HA6.out.blk
        clear hT5 ho5 hb5 hb6
        go_wp2_with fail
        generalize w5.alloc (.cells #[.slice Xr (kFold zKn rs).refs.length er, .slice Xl (kFold zKn rs).lasts.length el, .slice Xh (kFold zKn rs).has.length eh] 28) = W6 at *
        generalize w5.heap.size = N at *
        refine (sameKnown_calls _ _ (kFold zKn rs) W6 HO6.out.reads HT6.out.own.reads).mono ?_; rintro e w7 ⟨rfl, hb7⟩
        have HA7 := Aside0.mk (HA6.out.to hb7)
        clear HA6 HO6 HT6 hb7 x0 x1 x2 z0 z1 z2 HT
        have hsz : ((logB rs).size : Int) ≤ 1000000 := by have := HLS2.out; omega
        have hsz1 : IntKind.i64.wrap (((logB rs).size : Int) + 1) = ((logB rs).size : Int) + 1 := IntWalk.i64_in _ (by omega)
        go_wp2_with fail
        refine (choose_calls cut (((logB rs).size : Int) + 1) w7 hc0 hc1 (by omega) (by omega)).mono ?_; rintro e w8 ⟨rfl, rfl⟩
        obtain ⟨d, hd⟩ : ∃ d : Nat, (d : Int) = absN cut % (((logB rs).size : Int) + 1) := ⟨(absN cut % (((logB rs).size : Int) + 1)).toNat, Int.toNat_of_nonneg (Int.emod_nonneg _ (by omega))⟩
        have hdl : d ≤ (logB rs).size := by have := Int.emod_lt_of_pos (absN cut) (show (0 : Int) < ((logB rs).size : Int) + 1 by omega); omega
        rw [← hd]
        clear hd hsz1
        have HRL2 := Aside0.mk (show rs.length ≤ 20 by have := HRL.out; omega)
        have hrl : rs.length ≤ 20 := HRL2.out
        go_wp2_with fail
        have HR8 := Aside0.mk (HA7.out)
        go_loopw [17, 18] (fun p i wx => ∃ i' : Nat, i' ≤ rs.length + 1 ∧ i = .int .i64 i' ∧ p = .int .i64 (atF (0 :: endsL [] (rs.map packB)) d i' : Nat) ∧ wx = w8) (fun _ i _ => rs.length + 1 - (intOf i).toNat)
        case atStart => exact ⟨0, by omega, rfl, rfl, rfl⟩
        case round =>
          obtain ⟨i', hi', rfl, rfl, rfl⟩ := hrel
          by_cases hil : i' < rs.length + 1
          · have hilb : (i' : Int) < (rs.length : Int) + 1 := by omega
            have hilc : (i' : Int) < ((rs.length + 1 : Nat) : Int) := by omega
            obtain ⟨hx1, -, k2⟩ := Kd.R_reads' HA7.out.ends
            obtain ⟨ad2, hae, q0⟩ := Kd.at_int k2 i' (by omega) (by omega)
            have HEV := Aside0.mk (show rd (0 :: endsL [] (rs.map packB)) (i' : Int) = (0 :: endsL [] (rs.map packB)).getD i' 0 by simp [rd])
            rw [Int.toNat_natCast, HEV.out] at q0
            obtain ⟨ev, hev⟩ : ∃ ev, (0 :: endsL [] (rs.map packB)).getD i' 0 = ev := ⟨_, rfl⟩
            rw [hev] at q0
            subst hae
            by_cases hle : ev ≤ (d : Int)
            · have HAT := Aside0.mk (show atF (0 :: endsL [] (rs.map packB)) d (i' + 1) = i' by rw [atF, hev, if_pos hle])
              clear hx1 k2 hev
              go_wp2_with fail
              exact ⟨⟨i' + 1, by omega, by go_num, by rw [HAT.out], trivial⟩, by simp [intOf]; omega⟩
            · have HAT := Aside0.mk (show atF (0 :: endsL [] (rs.map packB)) d (i' + 1) = atF (0 :: endsL [] (rs.map packB)) d i' by rw [atF, hev, if_neg hle])
              clear hx1 k2 hev
              go_wp2_with fail
              exact ⟨⟨i' + 1, by omega, by go_num, by rw [HAT.out], trivial⟩, by simp [intOf]; omega⟩
          · obtain rfl : i' = rs.length + 1 := by omega
            have hilb : ¬ ((rs.length : Int) + 1) < (rs.length : Int) + 1 := by omega
            have hilc : ¬ (((rs.length + 1 : Nat) : Int)) < ((rs.length + 1 : Nat) : Int) := by omega
            have hat : atF (0 :: endsL [] (rs.map packB)) d (rs.length + 1) = wholeN (rs.map packB) d := by have := atF_whole (rs.map packB) d (by omega); rw [List.length_map] at this; exact this
            have hwl : wholeN (rs.map packB) d ≤ rs.length := by have := wholeN_le (rs.map packB) d; rw [List.length_map] at this; exact this
            rw [hat]
            have HRC := Aside0.mk (show readAll ((logB rs).extract 0 d) = ((rs.take (wholeN (rs.map packB) d)).map packB).zip ((endsL [] (rs.map packB)).take (wholeN (rs.map packB) d)) by
              have h := read_cut (rs.map packB) d hdl
              rw [← List.map_take] at h
              rw [← h]
              congr 1
              apply ba_ext
              rw [Lib.extract_data, List.drop_zero, Nat.sub_zero]
              rfl)
            have HXS := Aside0.mk (show ((logB rs).extract 0 d).size = d from extract_size0 _ _ hdl)
            generalize wholeN (rs.map packB) (d : Int) = m at *
            clear hat
            have HML := Aside0.mk (show ((endsL [] (rs.map packB)).take m).length = (rs.take m).length by rw [List.length_take, List.length_take, HEL.out])
            have HEM := Aside0.mk (show endAt ((endsL [] (rs.map packB)).take m) (rs.take m).length = (0 :: endsL [] (rs.map packB)).getD m 0 by rw [List.length_take, Nat.min_eq_left hwl]; exact endAt_take)
            have HFM := Aside0.mk (show ∀ r ∈ rs.take m, RcFit r from fun r hr => (HFT.out r (List.mem_of_mem_take hr)).1)
            have HCM := Aside0.mk (show Chain zKn (rs.take m) by have := HCH.out; rw [← List.take_append_drop m rs] at this; exact (Chain.app.1 this).1)
            go_wp2_with fail
            refine (replay_calls ((logB rs).extract 0 d) (rs.take m) ((endsL [] (rs.map packB)).take m) _ (by rw [HXS.out]; omega) HML.out HRC.out HFM.out HCM.out).mono ?_; rw [HEM.out]; rintro e w9 ⟨⟨ya, yb, yc, rfl, ho9⟩, hb9⟩
            generalize hkm : kFold zKn (rs.take m) = km at *
            obtain ⟨Yr, gr, rfl⟩ := Kd.R_slice ho9.refs
            obtain ⟨Yl, gl, rfl⟩ := Kd.R_slice ho9.lasts
            obtain ⟨Yh, gh, rfl⟩ := Kd.R_slice ho9.has
            have HA9 := Aside0.mk (HA7.out.to hb9)
            have HO9 := Aside0.mk ho9
            have HKM := Aside0.mk hkm
            have z0 := cell_head HA9.out.blk
            have z1 := cell_mid HA9.out.blk
            have z2 := cell_last HA9.out.blk
            have z3 := free3 HA9.out.blk
            obtain ⟨ev, hev⟩ : ∃ ev, (0 :: endsL [] (rs.map packB)).getD m 0 = ev := ⟨_, rfl⟩
            have HEV := Aside0.mk hev
            rw [hev]
            clear ho9 hb9 hkm hev
            go_wp2_with fail
            rw [set3 HA9.out.blk]
            have hg : w9.grownBy (w9.setRow N #[.slice Yr km.refs.length gr, .slice Yl km.lasts.length gl, .slice Yh km.has.length gh]) (some N) := grown_setRow (World.grownBy.refl w9 _) _ _ (.inl rfl)
            have HAX := Aside0.mk (HA9.out.store (a2 := .slice Yr km.refs.length gr) (b2 := .slice Yl km.lasts.length gl) (c2 := .slice Yh km.has.length gh))
            have HXO := Aside0.mk (HO9.out.typed HA9.out.blk hg)
            clear hg z0 z1 z2 z3 HA9 HO9
            generalize w9.setRow N #[.slice Yr km.refs.length gr, .slice Yl km.lasts.length gl, .slice Yh km.has.length gh] = W9 at *
            have n0 := cell_head HAX.out.blk
            have n1 := cell_mid HAX.out.blk
            have n2 := cell_last HAX.out.blk
            obtain ⟨-, -, k2⟩ := Kd.R_reads' HAX.out.ends
            obtain ⟨ad2, hae, q0⟩ := Kd.at_int k2 m (by omega) (by simp [endsL_length]; omega)
            rw [Int.toNat_natCast, show rd (0 :: endsL [] (rs.map packB)) (m : Int) = ev by rw [← HEV.out]; simp [rd]] at q0
            subst hae
            have hmt : m < tris.length := by have := HAX.out.tl; omega
            have hmtb : (m : Int) < (tris.length : Int) := by omega
            have hm1 : (m : Int) < ((rs.length + 1 : Nat) : Int) := by omega
            have hm2 : (m : Int) < (rs.length : Int) + 1 := by omega
            have htl : (tris.length : Int) ≤ 9223372036854775807 := by have := HAX.out.tl; omega
            obtain ⟨-, -, k3⟩ := Kd.R_reads' HAX.out.known
            obtain ⟨ad3, hak, t0, t1, t2⟩ := at_tri k3 m hmt
            subst hak
            have hkn := HAX.out.kns m hwl
            rw [HKM.out] at hkn
            obtain ⟨⟨ta, tb, tc⟩, ht⟩ : ∃ t, tris.getD m zTri = t := ⟨_, rfl⟩
            rw [ht] at t0 t1 t2 hkn
            have HKN := Aside0.mk (show KnO w W9 ta tb tc km from hkn)
            replace t0 : W9.cell? (ad3.add (m * 3)) = some ta := t0
            replace t1 : W9.cell? ⟨(ad3.add (m * 3)).block, (ad3.add (m * 3)).off + 1, none⟩ = some tb := t1
            replace t2 : W9.cell? ⟨(ad3.add (m * 3)).block, (ad3.add (m * 3)).off + 2, none⟩ = some tc := t2
            clear hkn ht k2 k3 hmt
            go_wp2_with fail
            go_region_held3 (fun U => U.cell? ⟨N, 0, none⟩ = some (.slice Yr km.refs.length gr) ∧ U.cell? ⟨N, 1, none⟩ = some (.slice Yl km.lasts.length gl) ∧ U.cell? ⟨N, 2, none⟩ = some (.slice Yh km.has.length gh) ∧ U.cell? (ad2.add m) = some (.int .i64 ev) ∧ U.cell? (ad3.add (m * 3)) = some ta ∧ U.cell? ⟨(ad3.add (m * 3)).block, (ad3.add (m * 3)).off + 1, none⟩ = some tb ∧ U.cell? ⟨(ad3.add (m * 3)).block, (ad3.add (m * 3)).off + 2, none⟩ = some tc)
              (first
                | exact ⟨n0, n1, n2, q0, t0, t1, t2⟩
                | exact keep7 n0 n1 n2 q0 t0 t1 t2 (below_drew (Below.refl W9.heap.size W9))
                | exact keep7 n0 n1 n2 q0 t0 t1 t2 (below_step (below_drew (Below.refl W9.heap.size W9)) hb10)
                | go_keep)
              (first
                | (go_at_call 10; refine (sameKnown_calls _ _ km _ (HXO.out.below (below_drew (Below.refl _ _))).reads (HKN.out.below (below_drew (Below.refl _ _))).reads).mono ?_; rintro e w10 ⟨rfl, hb10⟩))
            have HFB := Aside0.mk (below_step (below_drew HAX.out.below) hb10)
            clear hb10
            go_wp2_with fail
            go_ret
            exact ⟨rfl, HFB.out⟩
end Go.Proofs.YtgmdgaioiifgnaaGreat
