/- record.reader: a point is read (record$2). -/
import Derived.Test.YtgmdgaioiifgnaaGreatRdr
import Derived.Test.YtgmdgaioiifgnaaGreatWord
import Derived.Test.YtgmdgaioiifgnaaGreatPack
set_option linter.unusedVariables false
set_option linter.unusedSimpArgs false
namespace Go.Proofs.YtgmdgaioiifgnaaGreat
open Go.RowKit Go.Proofs.YtgmdgaioiifgnaaGreatW.PrintWords
/-- The points read so far. -/
structure PtI (ws w : World) (rb pb ob : Nat) (kind : Int) (pts : List Pt) (T : ByteArray) (j : Nat) : Prop where
  rd : RdS w rb (ptsB (pts.drop j) ++ T)
  pc : w.heap[pb]? = some (.cells #[.pointer (some ⟨rb, 0, none⟩)] 84 (0, 0))
  oc : ∃ A c, w.heap[ob]? = some (.cells #[.int .i64 kind, .slice none 0 0, .slice A j c] 35 (0, 0)) ∧ Row kPt 50 ws w (.slice A j c) (pts.take j)
  fr : ws.grownBy w (some rb)
  obig : ws.heap.size ≤ ob
theorem ptsB_drop {l : List Pt} {k : Nat} (h : k < l.length) : ptsB (l.drop k) = numberB (rdPt l k).ref ++ (numberB (zig (rdPt l k).time) ++ (strOfNums (wordI (rdPt l k).bits) ++ ptsB (l.drop (k + 1)))) := by
  rw [List.drop_eq_getElem_cons h, ← rdPt_eq h, ptsB, ptB]
  simp only [ByteArray.append_assoc]
theorem PtI.next {ws w w4 w5 : World} {rb pb ob : Nat} {kind : Int} {pts : List Pt} {T : ByteArray} {j : Nat} {A A5 : Option Addr} {c c5 : Nat} {v : Value} (h : PtI ws w rb pb ob kind pts T j) (hG : ws.grownBy w4 (some rb))
    (X5 : w5.heap[ob]? = some (.cells #[.int .i64 kind, .slice none 0 0, .slice A j c] 35 (0, 0))) (P5 : w5.heap[pb]? = some (.cells #[.pointer (some ⟨rb, 0, none⟩)] 84 (0, 0))) (R5 : w5.heap[rb]? = some (.cells #[.string (ptsB (pts.drop (j + 1)) ++ T)] 86 (0, 0)))
    (k1 : Row kPt 50 ws w5 (.slice A5 (j + 1) c5) (pts.take j ++ [rdPt pts j])) (k3 : w4.grownBy w5 v.ownBlock) (hv : ∀ k, v.ownBlock = some k → ws.heap.size ≤ k) (hne_x : ob ≠ rb) (hne_xp : ob ≠ pb) (hj : j < pts.length) :
    PtI ws (w5.setCell ⟨ob, 2, none⟩ (.slice A5 (j + 1) c5)) rb pb ob kind pts T (j + 1) := by
  have hs : w5.setCell ⟨ob, 2, none⟩ (.slice A5 (j + 1) c5) = w5.setRow ob #[.int .i64 kind, .slice none 0 0, .slice A5 (j + 1) c5] := setCell_eq_setRow w5 ob 2 _ _ _ (.slice A5 (j + 1) c5) X5
  have hg : w5.grownBy (w5.setRow ob #[.int .i64 kind, .slice none 0 0, .slice A5 (j + 1) c5]) (some ob) := grown_setRow (World.grownBy.refl w5 _) _ _ (.inl rfl)
  rw [hs]
  refine ⟨(setRow_other _ _ _ _ (Ne.symm hne_x)).trans R5, (setRow_other _ _ _ _ (Ne.symm hne_xp)).trans P5, ⟨A5, c5, setRow_heap _ _ _ _ _ _ X5, ?_⟩, grown_far (grown_far hG k3 hv) hg (fun q hq => by injection hq with hq; rw [← hq]; exact h.obig), h.obig⟩
  rw [List.take_succ_eq_append_getElem hj, ← rdPt_eq hj]
  exact Row.typed k1 X5 (by decide) hg
/-- Behind the first statement: the point's variable. -/
structure PMid (w U : World) (rb N : Nat) (x : Pt) (S : ByteArray) : Prop where
  pt : U.heap[N]? = some (.cells #[.int .i64 x.ref, .int .i64 (zig x.time), .int .u64 0] 50 (0, 0))
  rd : RdS U rb S
  fr : w.grownBy U (some rb)
  big : w.heap.size ≤ N
theorem PMid.set {w w3 : World} {rb N : Nat} {x : Pt} {S : ByteArray} {a b c : Value} (hob : w3.heap[N]? = some (.cells #[a, b, c] 50 (0, 0))) (hrd : RdS w3 rb S) (fr : w.grownBy w3 (some rb)) (big : w.heap.size ≤ N) (hNr : ¬ N = rb) :
    PMid w (((w3.setCell ⟨N, 0, none⟩ (.int .i64 x.ref)).setCell ⟨N, 1, none⟩ (.int .i64 (zig x.time))).setCell ⟨N, 2, none⟩ (.int .u64 0)) rb N x S := by
  rw [set3 hob]
  exact ⟨setRow_heap _ _ _ _ _ _ hob, (setRow_other _ _ _ _ (fun he => hNr he.symm)).trans hrd, grown_far fr (grown_setRow (World.grownBy.refl w3 (some N)) N _ (.inl rfl)) (fun q hq => by injection hq with hq; omega), big⟩
theorem cells_of_grown {w w1 : World} {rb : Nat} (h : w.grownBy w1 (some rb)) : ∀ b j, b < w.heap.size → ¬ b = rb → w1.cell? ⟨b, j, none⟩ = w.cell? ⟨b, j, none⟩ := fun b j hb hn => World.cell?_of_block (h.block b hb (fun he => hn (Option.some.inj he)))
theorem frozen_of_grown {w w1 : World} {rb : Nat} (h : w.grownBy w1 (some rb)) : ∀ b j, b < w.heap.size → ¬ b = rb → w1.frozen? ⟨b, j, none⟩ = w.frozen? ⟨b, j, none⟩ := fun b j hb hn => World.frozen?_of_block (h.block b hb (fun he => hn (Option.some.inj he)))
theorem size_of_grown {w w1 : World} {rb : Option Nat} (h : w.grownBy w1 rb) : ∀ n, n < w.heap.size → n < w1.heap.size := fun n hn => Nat.lt_of_lt_of_le hn h.size
theorem cell_lt {w : World} {a : Addr} {v : Value} (h : w.cell? a = some v) : a.block < w.heap.size := by
  rcases Nat.lt_or_ge a.block w.heap.size with h1 | h1
  · exact h1
  · simp only [World.cell?, Array.getElem?_eq_none h1] at h
    cases h
theorem cell_set3 {w : World} {pb N : Nat} {v a b c : Value} (h : w.cell? ⟨pb, 0, none⟩ = some v) (hne : ¬ pb = N) : (((w.setCell ⟨N, 0, none⟩ a).setCell ⟨N, 1, none⟩ b).setCell ⟨N, 2, none⟩ c).cell? ⟨pb, 0, none⟩ = some v := by
  have hn : ∀ j, (⟨N, j, none⟩ : Addr) ≠ ⟨pb, 0, none⟩ := fun j he => hne (by injection he with he; exact he.symm)
  rw [World.cell?_setCell_other _ _ _ _ (hn 2), World.cell?_setCell_other _ _ _ _ (hn 1), World.cell?_setCell_other _ _ _ _ (hn 0)]
  exact h
set_option maxHeartbeats 4000000 in
set_option maxRecDepth 100000 in
theorem pt1_calls (ws w : World) (rb pb ob : Nat) (kind : Int) (pts : List Pt) (T : ByteArray) (j : Nat) (hj : j < pts.length) (hl : pts.length ≤ 1000000) (h : PtI ws w rb pb ob kind pts T j) (hz : (ptsB (pts.drop j) ++ T).size ≤ 140737488351232) (hr0 : 0 ≤ (rdPt pts j).ref) (hr1 : (rdPt pts j).ref ≤ 1000000)
    (ht0 : -9007199254740991 ≤ (rdPt pts j).time) (ht1 : (rdPt pts j).time ≤ 9007199254740991) (hb0 : 0 ≤ (rdPt pts j).bits) (hb1 : (rdPt pts j).bits ≤ 18446744073709551615) :
    Calls Tryz.prog 60 #[.pointer (some ⟨pb, 0, none⟩), .pointer (some ⟨ob, 0, none⟩)] w fun e w' => e = .returned (.tuple #[]) ∧ PtI ws w' rb pb ob kind pts T (j + 1) := by
  obtain ⟨A, c, oc, hrow⟩ := h.oc
  have hrd := h.rd
  rw [ptsB_drop hj] at hrd hz
  obtain ⟨x, hx⟩ : ∃ x, rdPt pts j = x := ⟨_, rfl⟩
  rw [hx] at hrd hz hr0 hr1 ht0 ht1 hb0 hb1
  simp only [ByteArray.append_assoc] at hrd hz
  have HZ1 := Aside0.mk hz
  have HZ2 := Aside0.mk (show (numberB (zig x.time) ++ (strOfNums (wordI x.bits) ++ (ptsB (pts.drop (j + 1)) ++ T))).size ≤ 140737488351232 by rw [ByteArray.size_append] at hz; omega)
  have HZ3 := Aside0.mk (show (strOfNums (wordI x.bits) ++ (ptsB (pts.drop (j + 1)) ++ T)).size ≤ 140737488351232 by have h2 := HZ2.out; rw [ByteArray.size_append] at h2; omega)
  have hzg := zig_range x.time ht0 ht1
  have hne_x : ob ≠ rb := types_ne oc hrd (by decide)
  have hne_p : pb ≠ rb := types_ne h.pc hrd (by decide)
  have hne_xp : ob ≠ pb := types_ne oc h.pc (by decide)
  have p0 : w.drew.cell? ⟨pb, 0, none⟩ = some (.pointer (some ⟨rb, 0, none⟩)) := ptr_cell h.pc
  have hR : RdS w.drew rb (numberB x.ref ++ (numberB (zig x.time) ++ (strOfNums (wordI x.bits) ++ (ptsB (pts.drop (j + 1)) ++ T)))) := hrd.below (below_drew (Below.refl _ _))
  have hG : w.grownBy w.drew (some rb) := grown_below _ (below_drew (Below.refl _ _))
  have hwr : ¬ w.heap.size = rb := fun he => by have := (Array.getElem?_eq_some_iff.1 hrd).1; omega
  have hpb0 : ¬ pb = w.heap.size := fun he => by have := cell_lt p0; simp at this; omega
  have HI := Aside0.mk h
  have HX := Aside0.mk oc
  have HRow := Aside0.mk hrow
  have HR0 := Aside0.mk hrd
  have HXX := Aside0.mk hx
  clear h hz hrd oc hrow hx
  go_enter Tryz.func60, Tryz.ntmps60
  go_wp2_with fail
  rename_i Q' K hK
  have rest : ∀ (N : Nat) (U : World), PMid w U rb N x (strOfNums (wordI x.bits) ++ (ptsB (pts.drop (j + 1)) ++ T)) → Exit.then K Q' .normal { tmps := #[.pointer (some ⟨pb, 0, none⟩), .pointer (some ⟨ob, 0, none⟩), .pointer (some ⟨N, 0, none⟩), undef, undef, .pointer (some ⟨rb, 0, none⟩), .int .i64 x.ref, .pointer (some ⟨rb, 0, none⟩), .int .i64 (zig x.time), .agg #[.int .i64 x.ref, .int .i64 (zig x.time), .int .u64 0], undef, undef, undef, undef, undef, undef, undef, undef, undef, undef, undef, undef, undef, undef, undef, undef, undef, undef, undef, undef, undef, undef, undef, undef, undef, undef, undef, undef, undef, undef, undef, undef, undef, undef, undef, undef, undef, undef, undef], defers := [] } U := by
    intro N U mid
    clear p0 hR hG hpb0
    obtain ⟨mpt, mrd, mfr, mbig⟩ := mid
    have MP := Aside0.mk mpt
    have MR := Aside0.mk mrd
    have MF := Aside0.mk mfr
    have hNr : N ≠ rb := types_ne mpt mrd (by decide)
    have n0 := cell_head mpt
    have n1 := cell_mid mpt
    have n2 := cell_last mpt
    have nf := free_obj mpt 1
    have HP1 := Aside0.mk (obj_grown HI.out.pc mfr hne_p)
    have q0 := ptr_cell HP1.out
    have HO1 := Aside0.mk (obj_grown HX.out mfr hne_x)
    have hNo : N ≠ ob := types_ne mpt HO1.out (by decide)
    have hNp : N ≠ pb := types_ne mpt HP1.out (by decide)
    clear mpt mrd mfr
    refine hK _ _ ?_
    clear hK
    by_cases hs : 0 ≤ x.time
    · have hzm : (zig x.time % 2 == 0) = true := by simp [zig]; omega
      have hzd : zig x.time / 2 = x.time := by unfold zig; split <;> omega
      go_wp2_with fail
      have hs1 : U.setCell ⟨N, 1, none⟩ (.int .i64 x.time) = U.setRow N #[.int .i64 x.ref, .int .i64 x.time, .int .u64 0] := setCell_eq_setRow U N 1 _ _ _ _ MP.out
      rw [hs1]
      clear hs1
      have G1 := Aside0.mk (grown_setRow (World.grownBy.refl U (some N)) N #[.int .i64 x.ref, .int .i64 x.time, .int .u64 0] (.inl rfl))
      have P1 := Aside0.mk (setRow_heap _ _ _ #[.int .i64 x.ref, .int .i64 x.time, .int .u64 0] _ _ MP.out)
      have R1 := Aside0.mk (show RdS (U.setRow N #[.int .i64 x.ref, .int .i64 x.time, .int .u64 0]) rb (strOfNums (wordI x.bits) ++ (ptsB (pts.drop (j + 1)) ++ T)) from (setRow_other _ _ _ _ (Ne.symm hNr)).trans MR.out)
      have Q1 := Aside0.mk ((setRow_other U N pb #[.int .i64 x.ref, .int .i64 x.time, .int .u64 0] (Ne.symm hNp)).trans HP1.out)
      have O1 := Aside0.mk ((setRow_other U N ob #[.int .i64 x.ref, .int .i64 x.time, .int .u64 0] (Ne.symm hNo)).trans HO1.out)
      have F1 := Aside0.mk (grown_far MF.out G1.out (fun q hq => by injection hq with hq; omega))
      clear n0 n1 n2 nf q0 G1
      generalize U.setRow N #[.int .i64 x.ref, .int .i64 x.time, .int .u64 0] = U1 at *
      obtain ⟨wd, hwd⟩ : ∃ wd, strOfNums (wordI x.bits) = wd := ⟨_, rfl⟩
      have hws : wd.size = 8 := by rw [← hwd, strOfNums_size]; rfl
      have HWD := Aside0.mk hwd
      have HWS := Aside0.mk hws
      rw [hwd] at R1
      have HZW := Aside0.mk (show (wd ++ (ptsB (pts.drop (j + 1)) ++ T)).size ≤ 140737488351232 by rw [← hwd]; exact HZ3.out)
      clear hwd
      refine (take_calls rb wd _ 8 U1 R1.out (by omega) HZW.out).mono ?_; rintro e w5 ⟨rfl, hr5, hg5⟩
      have kb : ∀ W : World, (convert 9 58 (.string wd)).run Tryz.prog W = .ok (.slice (some ⟨W.heap.size, 0, none⟩) 8 (grownCap W 8 0 5)) (Lib.bytesWorld W 5 wd) := fun W => by
        have := print_bytes (P := Tryz.prog) 9 58 5 Tryz.underlying9 Tryz.underlying58 Tryz.underlying5 wd W
        rw [HWS.out] at this
        exact this
      have P5 := Aside0.mk (obj_grown P1.out hg5 hNr)
      have Q5 := Aside0.mk (obj_grown Q1.out hg5 hne_p)
      have O5 := Aside0.mk (obj_grown O1.out hg5 hne_x)
      have F5 := Aside0.mk (grown_near F1.out hg5)
      have R5 := Aside0.mk hr5
      clear hr5 hg5 hws R1 P1 Q1 O1 F1 MP MR MF
      go_wp2_with fail
      have hbv := bytes_below (Below.refl w5.heap.size w5) (Nat.le_refl _) 5 wd
      have HBYT := Aside0.mk (bytes_reads w5 5 wd (by rw [HWS.out]; omega))
      have HNV := Aside0.mk (show N < w5.heap.size from (Array.getElem?_eq_some_iff.1 P5.out).1)
      have P6 := Aside0.mk (block_below' P5.out hbv)
      have Q6 := Aside0.mk (block_below' Q5.out hbv)
      have O6 := Aside0.mk (block_below' O5.out hbv)
      have F6 := Aside0.mk (grown_near F5.out (grown_below _ hbv))
      have R6 := Aside0.mk (R5.out.below hbv)
      clear hbv P5 Q5 O5 F5 R5 kb
      generalize Lib.bytesWorld w5 5 wd = V at *
      go_loopw [28] (fun i wr => ∃ m : Nat, m ≤ 8 ∧ i = .int .i64 m ∧ Aside0 (wr.heap[N]? = some (.cells #[.int .i64 x.ref, .int .i64 x.time, .int .u64 (x.bits % 2 ^ (8 * m))] 50 (0, 0))) ∧ Aside0 (V.grownBy wr (some N))) (fun i _ => 8 - (intOf i).toNat)
      case atStart => exact ⟨0, by omega, rfl, ⟨by rw [show x.bits % 2 ^ (8 * 0) = 0 from by simp [Int.emod_one]]; exact P6.out⟩, ⟨World.grownBy.refl _ _⟩⟩
      case round =>
        obtain ⟨m, hm, rfl, HP, HGV⟩ := hrel
        by_cases hlt : m < 8
        · have hltb : (m : Int) < 8 := by omega
          obtain ⟨ad, he, hbc⟩ := HBYT.out.at_ m (by omega) (by rw [HWS.out]; omega)
          cases he
          rw [rd_bytesOf, Int.toNat_natCast, add_plain] at hbc
          have hbc2 := cell_grown hbc HGV.out (show w5.heap.size ≠ N by have := HNV.out; omega)
          have hbt : bt wd m = x.bits / 2 ^ (8 * m) % 256 := by rw [← HWD.out]; exact word_bt x.bits hb0 hb1 m hlt
          have hbr := bt_range wd m
          obtain ⟨b, hbb⟩ : ∃ b, bt wd m = b := ⟨_, rfl⟩
          rw [hbb] at hbc2 hbt hbr
          have HBT := Aside0.mk hbt
          have HWO := Aside0.mk (word_or x.bits hb0 hb1 m hlt)
          clear hbb hbc hbt
          have y2 := cell_last HP.out
          have yf := free_obj HP.out 2
          have hlow := word_low x.bits hb0 m (by omega)
          obtain ⟨acc, hacc⟩ : ∃ a, x.bits % 2 ^ (8 * m) = a := ⟨_, rfl⟩
          rw [hacc] at y2 hlow
          rw [hacc] at HP HWO
          clear hacc
          go_wp2_with fail
          have hmul : IntKind.i64.wrap (8 * (m : Int)) = 8 * (m : Int) := by rw [IntKind.wrap_i64]; omega
          have htn : (8 * (m : Int)).toNat = 8 * m := by omega
          have hmb : 8 * (m : Int) < 64 := by omega
          have hm0 : 0 ≤ 8 * (m : Int) := by omega
          go_region
          have hval : bits .or .u64 acc (IntKind.u64.wrap (b * 2 ^ (8 * m))) = x.bits % 2 ^ (8 * (m + 1)) := by rw [HBT.out]; exact HWO.out
          rw [hval, setCell_eq_setRow wr N 2 _ _ _ _ HP.out]
          have HP2 := Aside0.mk (show (wr.setRow N #[.int .i64 x.ref, .int .i64 x.time, .int .u64 (x.bits % 2 ^ (8 * (m + 1)))]).drew.heap[N]? = some (.cells #[.int .i64 x.ref, .int .i64 x.time, .int .u64 (x.bits % 2 ^ (8 * (m + 1)))] 50 (0, 0)) from setRow_heap _ _ _ _ _ _ HP.out)
          have HG2 := Aside0.mk (show V.grownBy (wr.setRow N #[.int .i64 x.ref, .int .i64 x.time, .int .u64 (x.bits % 2 ^ (8 * (m + 1)))]).drew (some N) from grown_drew (grown_near HGV.out (grown_setRow (World.grownBy.refl wr (some N)) N _ (.inl rfl))))
          clear hval hmul htn hmb hm0 y2 yf hbc2 HWO
          obtain ⟨acc2, hacc2⟩ : ∃ a, x.bits % 2 ^ (8 * (m + 1)) = a := ⟨_, rfl⟩
          rw [hacc2] at HP2 HG2 ⊢
          have HA2 := Aside0.mk hacc2
          clear hacc2
          change Exit.inBlock 1 _ _ _ (wr.setRow N #[.int .i64 x.ref, .int .i64 x.time, .int .u64 acc2]).drew
          generalize (wr.setRow N #[.int .i64 x.ref, .int .i64 x.time, .int .u64 acc2]).drew = w8 at *
          go_wp2_with fail
          go_roundw
          case rel => exact ⟨m + 1, by omega, by go_num, ⟨by rw [HA2.out]; exact HP2.out⟩, HG2⟩
          case measure => simp [intOf]; omega
        · obtain rfl : m = 8 := by omega
          have hltb : ¬ ((8 : Nat) : Int) < 8 := by omega
          have hwf := word_full x.bits hb0 hb1
          have HP8 := Aside0.mk (show wr.heap[N]? = some (.cells #[.int .i64 x.ref, .int .i64 x.time, .int .u64 x.bits] 50 (0, 0)) by rw [← hwf]; exact HP.out)
          clear hwf
          have F8 := Aside0.mk (grown_far F6.out HGV.out (fun q hq => by injection hq with hq; omega))
          have hRow8 := Aside0.mk (Row.typed HRow.out HR0.out (by decide) F8.out)
          have O8 := Aside0.mk (obj_grown O6.out HGV.out (Ne.symm hNo))
          have Q8 := Aside0.mk (obj_grown Q6.out HGV.out (Ne.symm hNp))
          have R8 := Aside0.mk (show RdS wr rb _ from obj_grown R6.out HGV.out (Ne.symm hNr))
          have z0 := cell_head HP8.out
          have z1 := cell_mid HP8.out
          have z2 := cell_last HP8.out
          have z3 := cell_last O8.out
          have HTT := Aside0.mk (show Tryz.prog.underlying 33 = some (.slice 50) by kernel_rfl)
          have hinfoP : (Tryz.prog.info? 50).map (fun i => (i.zero, i.size, i.bytes)) = some (some (.agg #[.int .i64 0, .int .i64 0, .int .u64 0]), 3, 24) := by kernel_rfl
          have HL1 := Aside0.mk (show (pts.take j ++ [(⟨x.ref, x.time, x.bits⟩ : Pt)]).length = j + 1 by simp; omega)
          clear HP HGV O6 Q6 R6 P6 F6
          go_wp2_with (at_builtin; (refine Kd.R_append kPt ws.heap.size rfl (.tmp 44) (.tmp 46) 33 50 _ 24 rfl HTT.out hinfoP rfl (by decide) (by omega) (.slice A j c) (pts.take j) ⟨x.ref, x.time, x.bits⟩ [.int .i64 x.ref, .int .i64 x.time, .int .u64 x.bits] (fun _ => True) (fun _ => False) rfl rfl (kPt_mkM _ _ _ _) (fun _ h => h.elim) (fun _ _ => trivial) hRow8.out (Below.refl _ _) (Nat.le_trans HI.out.fr.size F8.out.size) (by simp; omega) ?_; intro v1 w9 k1 k2 k3 k4; obtain ⟨inner, ho⟩ := Kd.R_own hRow8.out; obtain ⟨A5, c5, h5⟩ := Kd.R_slice k1; rw [HL1.out] at h5; subst h5; have X5 := kept_obj O8.out ho (fun cells he => by injection he with _ he; exact absurd he (by decide)) k3; have PP5 := kept_obj Q8.out ho (fun cells he => by injection he with _ he; exact absurd he (by decide)) k3; have RR5 := kept_obj R8.out ho (fun cells he => by injection he with _ he; exact absurd he (by decide)) k3; have FIN := Aside0.mk (HI.out.next (grown_near HI.out.fr F8.out) X5 PP5 RR5 (by rw [HXX.out]; exact k1) k3 (fun q hq => own_base ho q hq) hne_x hne_xp hj); have y5 := cell_last X5; have f5 := free_obj X5 2; clear X5 PP5 RR5 k1 k2 k3 k4 ho))
          go_end0
          exact ⟨rfl, FIN.out⟩
    · have hzm : (zig x.time % 2 == 0) = false := by simp [zig]; omega
      have hzd : -(zig x.time + 1) = 2 * x.time := by unfold zig; split <;> omega
      go_wp2_with fail
      have hs1 : U.setCell ⟨N, 1, none⟩ (.int .i64 x.time) = U.setRow N #[.int .i64 x.ref, .int .i64 x.time, .int .u64 0] := setCell_eq_setRow U N 1 _ _ _ _ MP.out
      rw [hs1]
      clear hs1
      have G1 := Aside0.mk (grown_setRow (World.grownBy.refl U (some N)) N #[.int .i64 x.ref, .int .i64 x.time, .int .u64 0] (.inl rfl))
      have P1 := Aside0.mk (setRow_heap _ _ _ #[.int .i64 x.ref, .int .i64 x.time, .int .u64 0] _ _ MP.out)
      have R1 := Aside0.mk (show RdS (U.setRow N #[.int .i64 x.ref, .int .i64 x.time, .int .u64 0]) rb (strOfNums (wordI x.bits) ++ (ptsB (pts.drop (j + 1)) ++ T)) from (setRow_other _ _ _ _ (Ne.symm hNr)).trans MR.out)
      have Q1 := Aside0.mk ((setRow_other U N pb #[.int .i64 x.ref, .int .i64 x.time, .int .u64 0] (Ne.symm hNp)).trans HP1.out)
      have O1 := Aside0.mk ((setRow_other U N ob #[.int .i64 x.ref, .int .i64 x.time, .int .u64 0] (Ne.symm hNo)).trans HO1.out)
      have F1 := Aside0.mk (grown_far MF.out G1.out (fun q hq => by injection hq with hq; omega))
      clear n0 n1 n2 nf q0 G1
      generalize U.setRow N #[.int .i64 x.ref, .int .i64 x.time, .int .u64 0] = U1 at *
      obtain ⟨wd, hwd⟩ : ∃ wd, strOfNums (wordI x.bits) = wd := ⟨_, rfl⟩
      have hws : wd.size = 8 := by rw [← hwd, strOfNums_size]; rfl
      have HWD := Aside0.mk hwd
      have HWS := Aside0.mk hws
      rw [hwd] at R1
      have HZW := Aside0.mk (show (wd ++ (ptsB (pts.drop (j + 1)) ++ T)).size ≤ 140737488351232 by rw [← hwd]; exact HZ3.out)
      clear hwd
      refine (take_calls rb wd _ 8 U1 R1.out (by omega) HZW.out).mono ?_; rintro e w5 ⟨rfl, hr5, hg5⟩
      have kb : ∀ W : World, (convert 9 58 (.string wd)).run Tryz.prog W = .ok (.slice (some ⟨W.heap.size, 0, none⟩) 8 (grownCap W 8 0 5)) (Lib.bytesWorld W 5 wd) := fun W => by
        have := print_bytes (P := Tryz.prog) 9 58 5 Tryz.underlying9 Tryz.underlying58 Tryz.underlying5 wd W
        rw [HWS.out] at this
        exact this
      have P5 := Aside0.mk (obj_grown P1.out hg5 hNr)
      have Q5 := Aside0.mk (obj_grown Q1.out hg5 hne_p)
      have O5 := Aside0.mk (obj_grown O1.out hg5 hne_x)
      have F5 := Aside0.mk (grown_near F1.out hg5)
      have R5 := Aside0.mk hr5
      clear hr5 hg5 hws R1 P1 Q1 O1 F1 MP MR MF
      go_wp2_with fail
      have hbv := bytes_below (Below.refl w5.heap.size w5) (Nat.le_refl _) 5 wd
      have HBYT := Aside0.mk (bytes_reads w5 5 wd (by rw [HWS.out]; omega))
      have HNV := Aside0.mk (show N < w5.heap.size from (Array.getElem?_eq_some_iff.1 P5.out).1)
      have P6 := Aside0.mk (block_below' P5.out hbv)
      have Q6 := Aside0.mk (block_below' Q5.out hbv)
      have O6 := Aside0.mk (block_below' O5.out hbv)
      have F6 := Aside0.mk (grown_near F5.out (grown_below _ hbv))
      have R6 := Aside0.mk (R5.out.below hbv)
      clear hbv P5 Q5 O5 F5 R5 kb
      generalize Lib.bytesWorld w5 5 wd = V at *
      go_loopw [28] (fun i wr => ∃ m : Nat, m ≤ 8 ∧ i = .int .i64 m ∧ Aside0 (wr.heap[N]? = some (.cells #[.int .i64 x.ref, .int .i64 x.time, .int .u64 (x.bits % 2 ^ (8 * m))] 50 (0, 0))) ∧ Aside0 (V.grownBy wr (some N))) (fun i _ => 8 - (intOf i).toNat)
      case atStart => exact ⟨0, by omega, rfl, ⟨by rw [show x.bits % 2 ^ (8 * 0) = 0 from by simp [Int.emod_one]]; exact P6.out⟩, ⟨World.grownBy.refl _ _⟩⟩
      case round =>
        obtain ⟨m, hm, rfl, HP, HGV⟩ := hrel
        by_cases hlt : m < 8
        · have hltb : (m : Int) < 8 := by omega
          obtain ⟨ad, he, hbc⟩ := HBYT.out.at_ m (by omega) (by rw [HWS.out]; omega)
          cases he
          rw [rd_bytesOf, Int.toNat_natCast, add_plain] at hbc
          have hbc2 := cell_grown hbc HGV.out (show w5.heap.size ≠ N by have := HNV.out; omega)
          have hbt : bt wd m = x.bits / 2 ^ (8 * m) % 256 := by rw [← HWD.out]; exact word_bt x.bits hb0 hb1 m hlt
          have hbr := bt_range wd m
          obtain ⟨b, hbb⟩ : ∃ b, bt wd m = b := ⟨_, rfl⟩
          rw [hbb] at hbc2 hbt hbr
          have HBT := Aside0.mk hbt
          have HWO := Aside0.mk (word_or x.bits hb0 hb1 m hlt)
          clear hbb hbc hbt
          have y2 := cell_last HP.out
          have yf := free_obj HP.out 2
          have hlow := word_low x.bits hb0 m (by omega)
          obtain ⟨acc, hacc⟩ : ∃ a, x.bits % 2 ^ (8 * m) = a := ⟨_, rfl⟩
          rw [hacc] at y2 hlow
          rw [hacc] at HP HWO
          clear hacc
          go_wp2_with fail
          have hmul : IntKind.i64.wrap (8 * (m : Int)) = 8 * (m : Int) := by rw [IntKind.wrap_i64]; omega
          have htn : (8 * (m : Int)).toNat = 8 * m := by omega
          have hmb : 8 * (m : Int) < 64 := by omega
          have hm0 : 0 ≤ 8 * (m : Int) := by omega
          go_region
          have hval : bits .or .u64 acc (IntKind.u64.wrap (b * 2 ^ (8 * m))) = x.bits % 2 ^ (8 * (m + 1)) := by rw [HBT.out]; exact HWO.out
          rw [hval, setCell_eq_setRow wr N 2 _ _ _ _ HP.out]
          have HP2 := Aside0.mk (show (wr.setRow N #[.int .i64 x.ref, .int .i64 x.time, .int .u64 (x.bits % 2 ^ (8 * (m + 1)))]).drew.heap[N]? = some (.cells #[.int .i64 x.ref, .int .i64 x.time, .int .u64 (x.bits % 2 ^ (8 * (m + 1)))] 50 (0, 0)) from setRow_heap _ _ _ _ _ _ HP.out)
          have HG2 := Aside0.mk (show V.grownBy (wr.setRow N #[.int .i64 x.ref, .int .i64 x.time, .int .u64 (x.bits % 2 ^ (8 * (m + 1)))]).drew (some N) from grown_drew (grown_near HGV.out (grown_setRow (World.grownBy.refl wr (some N)) N _ (.inl rfl))))
          clear hval hmul htn hmb hm0 y2 yf hbc2 HWO
          obtain ⟨acc2, hacc2⟩ : ∃ a, x.bits % 2 ^ (8 * (m + 1)) = a := ⟨_, rfl⟩
          rw [hacc2] at HP2 HG2 ⊢
          have HA2 := Aside0.mk hacc2
          clear hacc2
          change Exit.inBlock 1 _ _ _ (wr.setRow N #[.int .i64 x.ref, .int .i64 x.time, .int .u64 acc2]).drew
          generalize (wr.setRow N #[.int .i64 x.ref, .int .i64 x.time, .int .u64 acc2]).drew = w8 at *
          go_wp2_with fail
          go_roundw
          case rel => exact ⟨m + 1, by omega, by go_num, ⟨by rw [HA2.out]; exact HP2.out⟩, HG2⟩
          case measure => simp [intOf]; omega
        · obtain rfl : m = 8 := by omega
          have hltb : ¬ ((8 : Nat) : Int) < 8 := by omega
          have hwf := word_full x.bits hb0 hb1
          have HP8 := Aside0.mk (show wr.heap[N]? = some (.cells #[.int .i64 x.ref, .int .i64 x.time, .int .u64 x.bits] 50 (0, 0)) by rw [← hwf]; exact HP.out)
          clear hwf
          have F8 := Aside0.mk (grown_far F6.out HGV.out (fun q hq => by injection hq with hq; omega))
          have hRow8 := Aside0.mk (Row.typed HRow.out HR0.out (by decide) F8.out)
          have O8 := Aside0.mk (obj_grown O6.out HGV.out (Ne.symm hNo))
          have Q8 := Aside0.mk (obj_grown Q6.out HGV.out (Ne.symm hNp))
          have R8 := Aside0.mk (show RdS wr rb _ from obj_grown R6.out HGV.out (Ne.symm hNr))
          have z0 := cell_head HP8.out
          have z1 := cell_mid HP8.out
          have z2 := cell_last HP8.out
          have z3 := cell_last O8.out
          have HTT := Aside0.mk (show Tryz.prog.underlying 33 = some (.slice 50) by kernel_rfl)
          have hinfoP : (Tryz.prog.info? 50).map (fun i => (i.zero, i.size, i.bytes)) = some (some (.agg #[.int .i64 0, .int .i64 0, .int .u64 0]), 3, 24) := by kernel_rfl
          have HL1 := Aside0.mk (show (pts.take j ++ [(⟨x.ref, x.time, x.bits⟩ : Pt)]).length = j + 1 by simp; omega)
          clear HP HGV O6 Q6 R6 P6 F6
          go_wp2_with (at_builtin; (refine Kd.R_append kPt ws.heap.size rfl (.tmp 44) (.tmp 46) 33 50 _ 24 rfl HTT.out hinfoP rfl (by decide) (by omega) (.slice A j c) (pts.take j) ⟨x.ref, x.time, x.bits⟩ [.int .i64 x.ref, .int .i64 x.time, .int .u64 x.bits] (fun _ => True) (fun _ => False) rfl rfl (kPt_mkM _ _ _ _) (fun _ h => h.elim) (fun _ _ => trivial) hRow8.out (Below.refl _ _) (Nat.le_trans HI.out.fr.size F8.out.size) (by simp; omega) ?_; intro v1 w9 k1 k2 k3 k4; obtain ⟨inner, ho⟩ := Kd.R_own hRow8.out; obtain ⟨A5, c5, h5⟩ := Kd.R_slice k1; rw [HL1.out] at h5; subst h5; have X5 := kept_obj O8.out ho (fun cells he => by injection he with _ he; exact absurd he (by decide)) k3; have PP5 := kept_obj Q8.out ho (fun cells he => by injection he with _ he; exact absurd he (by decide)) k3; have RR5 := kept_obj R8.out ho (fun cells he => by injection he with _ he; exact absurd he (by decide)) k3; have FIN := Aside0.mk (HI.out.next (grown_near HI.out.fr F8.out) X5 PP5 RR5 (by rw [HXX.out]; exact k1) k3 (fun q hq => own_base ho q hq) hne_x hne_xp hj); have y5 := cell_last X5; have f5 := free_obj X5 2; clear X5 PP5 RR5 k1 k2 k3 k4 ho))
          go_end0
          exact ⟨rfl, FIN.out⟩
  go_region_held3 (fun U => U.cell? ⟨pb, 0, none⟩ = some (.pointer (some ⟨rb, 0, none⟩)))
    (first | exact p0 | exact pw_cell_below (below_alloc (Below.refl _ _) _) p0 | exact cell_set3 p0 hpb0 | exact cell_set3 p0 hpb2 | go_keep)
    (first
      | (go_at_call 57; refine (rdNumber_calls rb x.ref _ _ (by first | exact hR | exact hR.below (below_alloc (Below.refl _ _) _)) hr0 (by omega) HZ1.out).mono ?_; rintro e w2 ⟨rfl, hr, hg⟩; replace hR := hr; replace p0 := cell_grown (by first | exact p0 | exact pw_cell_below (below_alloc (Below.refl _ _) _) p0) hg hne_p; have hpb2 : ¬ pb = w2.heap.size := (fun he => by have := cell_lt p0; simp at this; omega); have hc2 := cells_of_grown hg; have hf2 := frozen_of_grown hg; have hs2 := size_of_grown hg; have hw2 : ¬ w2.heap.size = rb := fun he => by have := (Array.getElem?_eq_some_iff.1 hr).1; omega)
      | (go_at_call 57; refine (rdNumber_calls rb (zig x.time) _ _ (by first | exact hR | exact hR.below (below_alloc (Below.refl _ _) _)) (by omega) (by omega) HZ2.out).mono ?_; rintro e w3 ⟨rfl, hr3, hg3⟩; replace hR := hr3; replace p0 := cell_grown (by first | exact p0 | exact pw_cell_below (below_alloc (Below.refl _ _) _) p0) hg3 hne_p; have hc3 := cells_of_grown hg3; have hf3 := frozen_of_grown hg3; have hs3 := size_of_grown hg3; have hw3 : ¬ w3.heap.size = rb := fun he => by have := (Array.getElem?_eq_some_iff.1 hr3).1; omega))
  · exact rest _ _ ⟨heap_alloc_new _ _, hR.below (below_alloc (Below.refl _ _) _), grown_near (grown_near (grown_near hG hg) hg3) (grown_below _ (below_alloc (Below.refl _ _) _)), Nat.le_trans hg.size hg3.size⟩
  · exact rest _ _ (PMid.set (obj_grown (heap_alloc_new w2 _) hg3 hw2) hR (grown_near (grown_near (grown_near hG hg) (grown_below _ (below_alloc (Below.refl _ _) _))) hg3) hg.size hw2)
  · exact rest _ _ (PMid.set (obj_grown (obj_grown (heap_alloc_new w.drew _) hg hwr) hg3 hwr) hR (grown_near (grown_near (grown_near hG (grown_below _ (below_alloc (Below.refl _ _) _))) hg) hg3) (Nat.le_refl _) hwr)
end Go.Proofs.YtgmdgaioiifgnaaGreat
