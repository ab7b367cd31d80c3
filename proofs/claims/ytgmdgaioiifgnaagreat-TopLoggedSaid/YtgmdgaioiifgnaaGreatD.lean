/- Walks of log.Append (over a builder of its own). -/
import Derived.Test.YtgmdgaioiifgnaaGreatC
import Derived.Test.YtgmdgaioiifgnaaGreatA
set_option linter.unusedVariables false
set_option linter.unusedSimpArgs false
namespace Go.Proofs.YtgmdgaioiifgnaaGreat
open Go.RowKit Go.Proofs.YtgmdgaioiifgnaaGreatW.PrintWords

theorem ibelow {T e : TypeId} {B b : Nat} {bs : List Value} {w w1 : World} (h : Lib.IsBuilder T e B b bs w) (hb : Below w.heap.size w w1) : Lib.IsBuilder T e B b bs w1 := by
  rcases h with h | h
  · obtain ⟨h1, v, h2, h3, h4⟩ := h
    exact .inl ⟨h1, v, blk_below h2 hb, pw_own_below h3 hb, h4⟩
  · obtain ⟨h1, v, h2, h3, h4⟩ := h
    exact .inr ⟨h1, v, blk_below h2 hb, pw_own_below h3 hb, h4⟩
/-- A builder of the call's own: the first block that it made; it holds the bytes L. -/
structure BL (w0 w : World) (L : List UInt8) : Prop where
  is : Lib.IsBuilder 69 5 w0.heap.size w0.heap.size (Lib.byteCells L) w
  below : Below w0.heap.size w0 w
theorem BL.fresh (w : World) : BL w (w.alloc (.cells #[.pointer none, .slice none 0 0] 69)) [] := ⟨Lib.fresh_isBuilder _ _ _, (Below.refl _ _).alloc (Nat.le_refl _) _⟩
theorem BL.then {w0 w w1 : World} {L : List UInt8} (h : BL w0 w L) (hb : Below w.heap.size w w1) : BL w0 w1 L := ⟨ibelow h.is hb, below_then h.below h.below.size hb⟩
theorem len_bl {w0 w : World} {L : List UInt8} (h : BL w0 w L) : Calls Tryz.prog 25 #[.pointer (some ⟨w0.heap.size, 0, none⟩)] w fun e w' => e = .returned (.int .i64 L.length) ∧ w = w' :=
  (Tryz.Builder_Len _ _ _ _ h.is).mono (by rintro e w' ⟨rfl, rfl⟩; exact ⟨by simp [Lib.byteCells], rfl⟩)
theorem write_bl {w0 w : World} {L : List UInt8} (h : BL w0 w L) (s : ByteArray) (hl : L.length + s.size ≤ 140737488355328) : Calls Tryz.prog 23 #[.pointer (some ⟨w0.heap.size, 0, none⟩), .string s] w fun e w' => e = .returned (.tuple #[.int .i64 s.size, .nilIface]) ∧ BL w0 w' (L ++ s.data.toList) :=
  (Tryz.writeString _ _ _ s _ h.is (by simpa [Lib.byteCells] using hl) h.below.size).mono (by
    rintro e w' ⟨rfl, hb, hbl⟩
    refine ⟨rfl, .inr ?_, h.below.trans hbl⟩
    rwa [show Lib.byteCells (L ++ s.data.toList) = Lib.byteCells L ++ Lib.strCells s from by simp [Lib.byteCells, Lib.strCells]])
theorem string_bl {w0 w : World} {L : List UInt8} (h : BL w0 w L) : Calls Tryz.prog 28 #[.pointer (some ⟨w0.heap.size, 0, none⟩)] w fun e w' => e = .returned (.string ⟨L.toArray⟩) ∧ Below w0.heap.size w0 w' :=
  (Tryz.Builder_String_any _ _ L _ h.is h.below.size).mono (by rintro e w' ⟨rfl, hb⟩; exact ⟨rfl, h.below.trans hb⟩)

theorem nonempty_of (R : ByteArray) (h : R.size ≠ 0) : R.toList.isEmpty = false := by
  rw [Lib.toList_data]
  cases hh : R.data.toList with
  | nil => exfalso; have h1 := Lib.size_eq R; rw [hh] at h1; exact h h1
  | cons a l => rfl
def appVal (r : ByteArray × Int) : Ending := .returned (.tuple #[.string r.1, .int .i64 r.2])
set_option maxHeartbeats 1000000 in
set_option maxRecDepth 100000 in
theorem append_calls (log rec : ByteArray) (w : World) (hs : log.size ≤ 70368744177664) (hr : rec.size ≤ 140737488351232) :
    Calls Tryz.prog 8 #[.string log, .string rec] w fun e w' => e = appVal (appendLog log rec) ∧ Below w.heap.size w w' := by
  by_cases hlong : 20000 < rec.size
  · have e0 : appendLog log rec = (⟨#[]⟩, 2) := by rw [appendLog, if_pos hlong]
    rw [e0]
    clear e0
    go_enter Tryz.func8, Tryz.ntmps8
    go_wp2
    go_ret2
    exact ⟨rfl, Below.refl _ _⟩
  · have HE : Aside0 (appendLog log rec = if 1000000 < (appGo true log.data.toList rec).length then (⟨#[]⟩, 2) else (⟨(appGo true log.data.toList rec).toArray⟩, 0)) := ⟨by rw [appendLog, if_neg hlong]⟩
    have H0 := Aside0.mk (BL.fresh w)
    go_enter Tryz.func8, Tryz.ntmps8
    go_wp2_with (go_at_call 23; refine (write_bl H0.out log (by simp; omega)).mono ?_; rintro e w1 ⟨rfl, h1⟩)
    have H1 := Aside0.mk h1
    clear h1 H0
    have hm0 := appMu_le log.data.toList rec
    have hls := Lib.size_eq log
    go_loopg [1, 7] (appMu true log.data.toList rec) (fun k r f wr => ∃ (R : ByteArray) (L : List UInt8) (first : Bool), r = .string R ∧ f = .bool first ∧ Aside0 (appMu first L R ≤ k) ∧ Aside0 (BL w wr L) ∧ Aside0 (appGo first L R = appGo true log.data.toList rec) ∧ R.size ≤ 20000 ∧ Aside0 (L.length + 13 * appMu first L R + R.size ≤ 70368744977664))
    case atStart => exact ⟨rec, log.data.toList, true, rfl, rfl, ⟨Nat.le_refl _⟩, ⟨by simpa using H1.out⟩, ⟨rfl⟩, by omega, ⟨by omega⟩⟩
    case round =>
      clear hm0 hls H1
      obtain ⟨R, L, first, rfl, rfl, HM, HB, HG, hR, HP⟩ := hrel
      by_cases hend : first = false ∧ R.size = 0
      · obtain ⟨rfl, hz⟩ := hend
        have hL : Aside0 (appGo true log.data.toList rec = L) := ⟨by rw [← HG.out, appGo_end _ _ hz]⟩
        have hre : R.toList = [] := List.eq_nil_of_length_eq_zero (by rw [Lib.toList_data, ← Lib.size_eq, hz])
        by_cases hbig : 1000000 < L.length
        · have hbig2 : (1000000 : Int) < (L.length : Int) := by omega
          go_wp2_with (go_at_call 25; refine (len_bl HB.out).mono ?_; rintro e w2 ⟨rfl, rfl⟩)
          go_ret2
          exact ⟨by rw [HE.out, hL.out, if_pos hbig]; rfl, HB.out.below⟩
        · have hbig2 : ¬ (1000000 : Int) < (L.length : Int) := by omega
          go_wp2_with (first | (go_at_call 25; refine (len_bl HB.out).mono ?_; rintro e w2 ⟨rfl, rfl⟩) | (go_at_call 28; refine (string_bl HB.out).mono ?_; rintro e w2 ⟨rfl, hb2⟩))
          go_ret2
          exact ⟨by rw [HE.out, hL.out, if_neg hbig]; rfl, hb2⟩
      · have HN := Aside0.mk hend
        have hp := paddedL_left L
        have hl := HP.out
        have ht : takeN L R ≤ R.size := Nat.min_le_left _ _
        have hsz : Aside0 ((R.extract 0 (takeN L R)).size = takeN L R) := ⟨extract_size0 _ _ ht⟩
        have hps : Aside0 (∀ k, (partOf k (R.extract 0 (takeN L R))).size = 7 + takeN L R) := ⟨fun k => by rw [Lib.size_eq, partOf_size, extract_size0 _ _ ht]⟩
        have hpl : Aside0 (L ++ padL L.length = paddedL L) := ⟨rfl⟩
        have hmin : min (R.size : Int) (128 - ((paddedL L).length : Int) % 128 - 7) = ((takeN L R : Nat) : Int) := by unfold takeN; unfold leftL at hp ⊢; omega
        have hN : (takeN L R : Int) ≤ (R.size : Int) := by omega
        have hd := appPsi first L R hend
        have hlt := appMu_lt first L R hend
        have HD := Aside0.mk hd
        obtain ⟨k1, hk1, hk2⟩ : ∃ k1, appMu false (roundL first L R) (R.extract (takeN L R) R.size) ≤ k1 ∧ k1 < gk := ⟨_, Nat.le_refl _, Nat.lt_of_lt_of_le hlt HM.out⟩
        have HK1 := Aside0.mk hk1
        have HK2 := Aside0.mk hk2
        clear hk1 hk2
        have HGN := Aside0.mk (appGo_next (L := L) (r := R) hend)
        have hk := kind_range first (takeN L R == R.size)
        clear hend hd hlt
        have HMN := Aside0.mk hmin
        clear hmin
        have hpd : (padL L.length).length ≤ 6 := by
          have := hp.2.2; rw [← hpl.out, List.length_append] at this; omega
        have hcs : (first = false ∧ takeN L R = R.size) ∨ (first = true ∧ takeN L R = R.size) ∨ (first = false ∧ takeN L R < R.size) ∨ (first = true ∧ takeN L R < R.size) := by
          cases first <;> simp <;> omega
        rcases hcs with ⟨rfl, hlast⟩ | ⟨rfl, hlast⟩ | ⟨rfl, hlast⟩ | ⟨rfl, hlast⟩
        all_goals
          try have hlb : ((takeN L R : Int) == (R.size : Int)) = false := by simp; omega
          try have hlb : ((takeN L R : Int) == (R.size : Int)) = true := by simp; omega
          try have hlc : (takeN L R == R.size) = false := by simp; omega
          try have hlc : (takeN L R == R.size) = true := by simp; omega
          try have hre := nonempty_of R (fun e => HN.out ⟨rfl, e⟩)
          have HLC := Aside0.mk hlc
          have HLA := Aside0.mk hlast
          clear hlast hlc
          go_wp2_with fail
          refine (len_bl HB.out).mono ?_; rintro e w2 ⟨rfl, rfl⟩
          go_wp2_with fail
          refine (padding_calls _ _ (by omega)).mono ?_; rintro e w2 ⟨rfl, hb2⟩
          have H2 := Aside0.mk (HB.out.then hb2)
          clear hb2 HB
          go_wp2_with fail
          refine (write_bl H2.out _ (by simp [ByteArray.size]; omega)).mono ?_; rintro e w3 ⟨rfl, h3⟩
          rw [show L ++ (⟨(padL L.length).toArray⟩ : ByteArray).data.toList = paddedL L from by simp [paddedL]] at h3
          have H3 := Aside0.mk h3
          clear h3 H2
          go_wp2_with fail
          refine (len_bl H3.out).mono ?_; rintro e w4 ⟨rfl, rfl⟩
          go_wp2_with fail
          refine (left_calls _ _ (by omega) (by omega)).mono ?_; rintro e w4 ⟨rfl, rfl⟩
          have hmin := HMN.out
          go_wp2_with fail
          refine (logPart_calls _ _ _ (by rw [hsz.out]; omega) (by omega) (by omega)).mono ?_; rintro e w5 ⟨rfl, hb5⟩
          have H4 := Aside0.mk (H3.out.then hb5)
          clear hb5 H3 hmin
          go_wp2_with fail
          refine (write_bl H4.out _ (by rw [hps.out]; omega)).mono ?_; rintro e w6 ⟨rfl, h6⟩
          first | rw [show paddedL L ++ (partOf _ (R.extract 0 (takeN L R))).data.toList = roundL true L R from by rw [roundL, HLC.out]; rfl] at h6 | rw [show paddedL L ++ (partOf _ (R.extract 0 (takeN L R))).data.toList = roundL false L R from by rw [roundL, HLC.out]; rfl] at h6
          have H6 := Aside0.mk h6
          clear h6 H4
          go_wp2_with fail
          go_roundg k1
          case measure => exact HK2.out
          case rel => exact ⟨_, _, false, rfl, rfl, HK1, H6, ⟨by rw [HGN.out]; exact HG.out⟩, by simp [ByteArray.size_extract]; omega, ⟨Nat.le_trans HD.out HP.out⟩⟩
end Go.Proofs.YtgmdgaioiifgnaaGreat
