/- Walks of log.read, log.Ends, log.Read. -/
import Derived.Test.YtgmdgaioiifgnaaGreatD
import Derived.Test.YtgmdgaioiifgnaaGreatMem
import Derived.Lib.IndexBytes
set_option linter.unusedVariables false
set_option linter.unusedSimpArgs false
namespace Go.Proofs.YtgmdgaioiifgnaaGreat
open Go.RowKit Go.Proofs.YtgmdgaioiifgnaaGreatW.PrintWords
theorem btN (s : ByteArray) (k : Nat) (h : k < s.size) : ((s[k]'h).toNat : Int) = bt s k := bt_at s k (by simpa using h)
theorem info9 : (Tryz.prog.info? 9).map (fun i => (i.zero, i.size, i.bytes)) = some (some (.string ⟨#[]⟩), 1, 16) := by kernel_rfl
theorem info3 : (Tryz.prog.info? 3).map (fun i => (i.zero, i.size, i.bytes)) = some (some (.int .i64 0), 1, 8) := by kernel_rfl
section
variable {log : ByteArray} {at_ q : Nat} {in_ : Bool} {hd s : ByteArray}
theorem step_no1 (h : Lib.hasPrefix (log.data.toList.drop at_) (padL at_) = false) : readStep log at_ in_ = none := by unfold readStep; simp only; rw [if_pos h]
theorem step_no2 (hq : q = at_ + (padL at_).length) (h : ¬ Lib.hasPrefix (log.data.toList.drop at_) (padL at_) = false) (h2 : log.size < q + 7) : readStep log at_ in_ = none := by
  subst hq; unfold readStep; simp only; rw [if_neg h, if_pos h2]
theorem step_no3 (hq : q = at_ + (padL at_).length) (h : ¬ Lib.hasPrefix (log.data.toList.drop at_) (padL at_) = false) (h2 : ¬ log.size < q + 7) (hh : log.extract q (q + 7) = hd) (h3 : min (128 - q % 128) (log.size - q) < (headLen hd).toNat + 7) : readStep log at_ in_ = none := by
  subst hq; subst hh; unfold readStep; simp only; rw [if_neg h, if_neg h2, if_pos h3]
theorem step_no4 (hq : q = at_ + (padL at_).length) (h : ¬ Lib.hasPrefix (log.data.toList.drop at_) (padL at_) = false) (h2 : ¬ log.size < q + 7) (hh : log.extract q (q + 7) = hd) (h3 : ¬ min (128 - q % 128) (log.size - q) < (headLen hd).toNat + 7)
    (hs : log.extract (q + 7) (q + 7 + (headLen hd).toNat) = s) (h4 : bt hd 0 < 1 ∨ 4 < bt hd 0 ∨ kindBegins (bt hd 0) = in_ ∨ partOf (bt hd 0) s ≠ hd ++ s) : readStep log at_ in_ = none := by
  subst hq; subst hh; subst hs; unfold readStep; simp only; rw [if_neg h, if_neg h2, if_neg h3, if_pos h4]
theorem step_yes (hq : q = at_ + (padL at_).length) (h : ¬ Lib.hasPrefix (log.data.toList.drop at_) (padL at_) = false) (h2 : ¬ log.size < q + 7) (hh : log.extract q (q + 7) = hd) (h3 : ¬ min (128 - q % 128) (log.size - q) < (headLen hd).toNat + 7)
    (hs : log.extract (q + 7) (q + 7 + (headLen hd).toNat) = s) (h4 : ¬ (bt hd 0 < 1 ∨ 4 < bt hd 0 ∨ kindBegins (bt hd 0) = in_ ∨ partOf (bt hd 0) s ≠ hd ++ s)) : readStep log at_ in_ = some (q + 7 + (headLen hd).toNat, bt hd 0, s) := by
  subst hq; subst hh; subst hs; unfold readStep; simp only; rw [if_neg h, if_neg h2, if_neg h3, if_neg h4]
end
theorem slice_str {P : Program} {t : TypeId} (ht : P.underlying t = some .string) (s : ByteArray) (i j : Int) (a b : Nat) (hi : i = a) (hj : j = b) (h1 : a ≤ b) (h2 : b ≤ s.size) (w : World) :
    (Instr.slice t (.string s) (some (.int .i64 i)) (some (.int .i64 j)) none).run P w = .ok (.string (s.extract a b)) w := by
  subst hi; subst hj
  rw [run_slice_string (P := P) (w := w) t s .i64 .i64 a b ht (by omega) (by omega) (by omega)]
  simp
def ReadPost (w0 : World) (l : List (ByteArray × Int)) (e : Ending) (w' : World) : Prop := ∃ v1 v2, e = .returned (.tuple #[v1, v2]) ∧ Row Kd.string 9 w0 w' v1 (l.map (·.1)) ∧ Row (Kd.int .i64) 3 w0 w' v2 (l.map (·.2)) ∧ Below w0.heap.size w0 w'
theorem partOf_size' (k : Int) (s : ByteArray) : (partOf k s).size = 7 + s.size := by rw [Lib.size_eq, partOf_size]
/-- The state of the loop: what has been read, and what is still to come. -/
structure ReadSt (log : ByteArray) (w wr : World) (r v : Value) (at_ : Nat) (opn : ByteArray) (in_ : Bool) : Prop where
  ex : ∃ l : List (ByteArray × Int), Row Kd.string 9 w wr r (l.map (·.1)) ∧ Row (Kd.int .i64) 3 w wr v (l.map (·.2)) ∧ l ++ readGo log at_ opn in_ = readAll log ∧ l.length ≤ at_
  below : Below w.heap.size w wr
theorem ReadSt.then {log : ByteArray} {w wr w1 : World} {r v : Value} {at_ : Nat} {opn : ByteArray} {in_ : Bool} (h : ReadSt log w wr r v at_ opn in_) (hb : Below wr.heap.size wr w1) : ReadSt log w w1 r v at_ opn in_ := by
  obtain ⟨⟨l, h1, h2, h3⟩, h4⟩ := h
  exact ⟨⟨l, h1.below hb, h2.below hb, h3⟩, below_then h4 h4.size hb⟩
theorem ReadSt.stop {log : ByteArray} {w wr : World} {r v : Value} {at_ : Nat} {opn : ByteArray} {in_ : Bool} (h : ReadSt log w wr r v at_ opn in_) (hn : readStep log at_ in_ = none) : ReadPost w (readAll log) (.returned (.tuple #[r, v])) wr := by
  obtain ⟨⟨l, h1, h2, h3, _⟩, h4⟩ := h
  rw [readGo_none hn, List.append_nil] at h3
  exact ⟨r, v, rfl, h3 ▸ h1, h3 ▸ h2, h4⟩
theorem ReadSt.more {log : ByteArray} {w wr : World} {r v : Value} {at_ a2 : Nat} {k : Int} {s opn : ByteArray} {in_ : Bool} (h : ReadSt log w wr r v at_ opn in_) (hn : readStep log at_ in_ = some (a2, k, s)) (hk : k = 2 ∨ k = 3) : ReadSt log w wr r v a2 (opn ++ s) true := by
  obtain ⟨⟨l, h1, h2, h3, h5⟩, h4⟩ := h
  have := readStep_lt hn
  exact ⟨⟨l, h1, h2, by rw [← h3, readGo_more hn hk], by omega⟩, h4⟩
set_option maxHeartbeats 4000000 in
set_option maxRecDepth 100000 in
theorem read_calls (log : ByteArray) (w : World) (hs : log.size ≤ 1099511627776) :
    Calls Tryz.prog 31 #[.string log] w fun e w' => ReadPost w (readAll log) e w' := by
  have H0 := Aside0.mk (ReadSt.mk (log := log) (at_ := 0) (opn := ⟨#[]⟩) (in_ := false) ⟨[], Row.nil Kd.string 9 w w, Row.nil (Kd.int .i64) 3 w w, rfl, by simp⟩ (Below.refl w.heap.size w))
  go_enter Tryz.func31, Tryz.ntmps31
  go_wp2
  go_loopw [2, 3, 4, 5, 6] (fun r v o i a wr => ∃ (at_ : Nat) (opn : ByteArray) (in_ : Bool), at_ ≤ log.size ∧ opn.size ≤ at_ ∧ a = .int .i64 at_ ∧ o = .string opn ∧ i = .bool in_ ∧ Aside0 (ReadSt log w wr r v at_ opn in_)) (fun _ _ _ _ a _ => log.size - (intOf a).toNat)
  case atStart => exact ⟨0, ⟨#[]⟩, false, by omega, by simp [ByteArray.size], rfl, rfl, rfl, H0⟩
  case round =>
    clear H0
    obtain ⟨at_, opn, in_, hat, hopn, rfl, rfl, rfl, HS⟩ := hrel
    go_wp2_with fail
    refine (padding_calls _ _ (by omega)).mono ?_; rintro e w2 ⟨rfl, hb2⟩
    have H2 := Aside0.mk (HS.out.then hb2)
    clear HS hb2
    obtain ⟨q, hq⟩ : ∃ q, q = at_ + (padL at_).length := ⟨_, rfl⟩
    have HQ := Aside0.mk hq
    have hcs : (Lib.hasPrefix (log.data.toList.drop at_) (padL at_) = false) ∨ (¬ Lib.hasPrefix (log.data.toList.drop at_) (padL at_) = false ∧ padL at_ = []) ∨ (¬ Lib.hasPrefix (log.data.toList.drop at_) (padL at_) = false ∧ ¬ padL at_ = []) := by
      by_cases h1 : Lib.hasPrefix (log.data.toList.drop at_) (padL at_) = false <;> by_cases h2 : padL at_ = [] <;> simp [h1, h2]
    rcases hcs with hpf | ⟨hpf, hp0⟩ | ⟨hpf, hp0⟩
    · have hne : ¬ padL at_ = [] := fun e => by rw [e] at hpf; simp [Lib.hasPrefix] at hpf
      have HX := Aside0.mk (step_no1 (in_ := in_) hpf)
      obtain ⟨pd, hpd⟩ : ∃ pd : ByteArray, pd = ⟨(padL at_).toArray⟩ := ⟨_, rfl⟩
      have HPF : Aside0 (Lib.hasPrefix (log.extract at_ log.size).data.toList pd.data.toList = false) := ⟨by rw [Lib.extract_to_end, hpd]; exact hpf⟩
      have hpe : pd.toList.isEmpty = false := by rw [Lib.toList_data, hpd]; simpa using hne
      rw [← hpd]
      clear hpd hne hpf hq
      go_wp2_with (go_at_call 53; refine (Tryz.strings_HasPrefix _ _ _).mono ?_; rw [HPF.out]; rintro e w3 ⟨rfl, rfl⟩)
      go_ret2
      exact H2.out.stop HX.out
    all_goals
      have HPN := Aside0.mk hpf
      have HPP : Aside0 (padL at_ = [] ∨ Lib.hasPrefix (log.extract at_ log.size).data.toList (padL at_) = true) := ⟨.inr (by rw [Lib.extract_to_end]; simpa using hpf)⟩
      have hql : q ≤ log.size := by
        have h1 : (padL at_).isPrefixOf (log.data.toList.drop at_) = true := by simpa [Lib.hasPrefix] using hpf
        have h2 := (List.isPrefixOf_iff_prefix.1 h1).length_le
        rw [List.length_drop, ← Lib.size_eq] at h2
        omega
      clear hpf
      first
      | (obtain rfl : q = at_ := by have h1 := HQ.out; rw [hp0] at h1; simpa using h1
         rw [hp0]
         clear hq hp0)
      | (obtain ⟨pd, hpd⟩ : ∃ pd : ByteArray, pd = ⟨(padL at_).toArray⟩ := ⟨_, rfl⟩
         have HPF : Aside0 (Lib.hasPrefix (log.extract at_ log.size).data.toList pd.data.toList = true) := ⟨by rw [hpd]; exact HPP.out.resolve_left hp0⟩
         have hpe : pd.toList.isEmpty = false := by rw [Lib.toList_data, hpd]; simpa using hp0
         have hq2 : (at_ : Int) + (pd.size : Int) = (q : Int) := by rw [hpd, hq]; simp [ByteArray.size]
         rw [← hpd]
         clear hpd hp0 hq)
      by_cases h7 : log.size < q + 7
      · have HX := Aside0.mk (step_no2 (in_ := in_) HQ.out HPN.out h7)
        have h7b : (log.size : Int) - (q : Int) < 7 := by omega
        go_wp2_with (go_at_call 53; refine (Tryz.strings_HasPrefix _ _ _).mono ?_; rw [HPF.out]; rintro e w3 ⟨rfl, rfl⟩)
        go_ret2
        exact H2.out.stop HX.out
      · have h7b : ¬ (log.size : Int) - (q : Int) < 7 := by omega
        have H7 := Aside0.mk h7
        have h7c : (q : Int) + 7 ≤ (log.size : Int) := by omega
        have h7d : (q : Int) ≤ (q : Int) + 7 := by omega
        have h7e : ((q : Int) + 7).toNat = q + 7 := by omega
        have hsz0 : (log.extract q (q + 7)).size = 7 := by simp [ByteArray.size_extract]; omega
        go_wp2_with (go_at_call 53; refine (Tryz.strings_HasPrefix _ _ _).mono ?_; rw [HPF.out]; rintro e w3 ⟨rfl, rfl⟩)
        clear h7
        generalize hhd : log.extract q (q + 7) = hd at *
        have HH := Aside0.mk hhd
        clear hhd
        have HSZ := Aside0.mk hsz0
        have i0 : (0 : Int) < (hd.size : Int) := by omega
        have i1 : (1 : Int) < (hd.size : Int) := by omega
        have i2 : (2 : Int) < (hd.size : Int) := by omega
        have q0 : 0 < hd.size := by omega
        have q1 : 1 < hd.size := by omega
        have q2 : 2 < hd.size := by omega
        clear hsz0
        have b0 := btN hd 0 q0
        have b1 := btN hd 1 q1
        have b2 := btN hd 2 q2
        have r0 := bt_range hd 0
        have r1 := bt_range hd 1
        have r2 := bt_range hd 2
        have hor := or_bytes (bt hd 1) (bt hd 2) r1.1 r1.2 r2.1 r2.2
        have hnn : bt hd 1 + 256 * bt hd 2 = ((headLen hd).toNat : Int) := by unfold headLen; omega
        have hnb : (headLen hd).toNat ≤ 65535 := by unfold headLen; omega
        generalize hn : (headLen hd).toNat = n at *
        have HN := Aside0.mk hn
        clear hn
        rw [hnn] at hor
        clear hnn
        go_quiet (fail)
        have HD := Aside0.mk (H2.out.then (pw_below_drewN (Below.refl _ _) nq))
        clear H2
        clear hor b1 b2 r1 r2 i1 i2 q1 q2
        by_cases h3 : min (128 - q % 128) (log.size - q) < n + 7
        · have HX := Aside0.mk (step_no3 (in_ := in_) HQ.out HPN.out H7.out HH.out (by rw [HN.out]; exact h3))
          have h3b : min (128 - (q : Int) % 128) ((log.size : Int) - (q : Int)) - 7 < (n : Int) := by omega
          go_wp2_with (go_at_call 26; refine (left_calls _ _ (by omega) (by omega)).mono ?_; rintro e w4 ⟨rfl, rfl⟩)
          go_ret2
          exact HD.out.stop HX.out
        · have h3b : ¬ min (128 - (q : Int) % 128) ((log.size : Int) - (q : Int)) - 7 < (n : Int) := by omega
          have H3 : Aside0 (¬ min (128 - q % 128) (log.size - q) < (headLen hd).toNat + 7) := ⟨by rw [HN.out]; exact h3⟩
          have hq3 : q + 7 + n ≤ log.size := by omega
          clear h3
          have hsl := fun wx : World => slice_str (P := Tryz.prog) Tryz.underlying9 log ((q : Int) + 7) ((q : Int) + 7 + (n : Int)) (q + 7) (q + 7 + n) (by omega) (by omega) (by omega) (by omega) wx
          have hss : (log.extract (q + 7) (q + 7 + n)).size = n := by simp [ByteArray.size_extract]; omega
          have HEX : Aside0 (log.extract (q + 7) (q + 7 + (headLen hd).toNat) = log.extract (q + 7) (q + 7 + n)) := ⟨by rw [HN.out]⟩
          generalize hsd : log.extract (q + 7) (q + 7 + n) = sd at *
          have HSD := Aside0.mk hsd
          have hsb : sd.size ≤ 140737488351232 := by omega
          have hsc : sd.size ≤ n := by omega
          have HSS := Aside0.mk hss
          have hps := partOf_size' (bt hd 0) sd
          have hsz2 : ¬ 9223372036854775807 < hd.size + sd.size := by have := HSZ.out; omega
          have hsz3 : ¬ 9223372036854775807 < opn.size + sd.size := by omega
          clear hsd hss hps
          generalize hkd : bt hd 0 = kd at *
          have HKD := Aside0.mk hkd
          clear hkd
          have hks : kd < 1 ∨ 4 < kd ∨ kd = 1 ∨ kd = 2 ∨ kd = 3 ∨ kd = 4 := by omega
          have hin : in_ = true ∨ in_ = false := by cases in_ <;> simp
          have STOP := Aside0.mk (fun h4 : (kd < 1 ∨ 4 < kd ∨ kindBegins kd = in_ ∨ partOf kd sd ≠ hd ++ sd) => step_no4 (in_ := in_) HQ.out HPN.out H7.out HH.out H3.out HEX.out (by rw [HKD.out]; exact h4))
          have YES := Aside0.mk (fun h4 : ¬ (kd < 1 ∨ 4 < kd ∨ kindBegins kd = in_ ∨ partOf kd sd ≠ hd ++ sd) => step_yes (in_ := in_) HQ.out HPN.out H7.out HH.out H3.out HEX.out (by rw [HKD.out]; exact h4))
          rw [HKD.out, HN.out] at YES
          by_cases hbad : kd < 1 ∨ 4 < kd ∨ kindBegins kd = in_
          · have HX := Aside0.mk (STOP.out (by rcases hbad with h | h | h <;> simp [h]))
            clear STOP YES
            have hc2 : kd < 1 ∨ 4 < kd ∨ (kd = 1 ∧ in_ = true) ∨ (kd = 2 ∧ in_ = true) ∨ (kd = 3 ∧ in_ = false) ∨ (kd = 4 ∧ in_ = false) := by
              rcases hks with h | h | rfl | rfl | rfl | rfl <;> rcases hin with rfl | rfl <;> simp_all [kindBegins]
            clear hbad hks hin
            rcases hc2 with h | h | ⟨rfl, rfl⟩ | ⟨rfl, rfl⟩ | ⟨rfl, rfl⟩ | ⟨rfl, rfl⟩
            all_goals
              try have k1 : (kd == 1) = false := by simp; omega
              try have k2 : (kd == 2) = false := by simp; omega
              go_wp2_with (go_at_call 26; refine (left_calls _ _ (by omega) (by omega)).mono ?_; rintro e w4 ⟨rfl, rfl⟩)
              go_ret2
              exact HD.out.stop HX.out
          · have hc2 : (kd = 1 ∧ in_ = false) ∨ (kd = 2 ∧ in_ = false) ∨ (kd = 3 ∧ in_ = true) ∨ (kd = 4 ∧ in_ = true) := by
              rcases hks with h | h | rfl | rfl | rfl | rfl <;> rcases hin with rfl | rfl <;> simp_all [kindBegins]
            have HB := Aside0.mk hbad
            clear hbad hks hin
            by_cases hpt : partOf kd sd = hd ++ sd
            · have HX := Aside0.mk (YES.out (by intro h; rcases h with h | h | h | h; exact HB.out (.inl h); exact HB.out (.inr (.inl h)); exact HB.out (.inr (.inr h)); exact h hpt))
              clear STOP YES
              have hpb : ((partOf kd sd).toList == (hd ++ sd).toList) = true := by rw [hpt]; simp
              have hadd : (q : Int) + (7 + (n : Int)) = ((q + 7 + n : Nat) : Int) := by omega
              clear hpt
              have hc3 : ((kd = 1 ∧ in_ = false) ∨ (kd = 4 ∧ in_ = true)) ∨ ((kd = 2 ∧ in_ = false) ∨ (kd = 3 ∧ in_ = true)) := by
                rcases hc2 with h | h | h | h <;> simp [h]
              clear hc2
              rcases hc3 with hc3 | hc3
              · rcases hc3 with ⟨rfl, rfl⟩ | ⟨rfl, rfl⟩
                all_goals
                  go_wp2_with (first | (go_at_call 26; refine (left_calls _ _ (by omega) (by omega)).mono ?_; rintro e w4 ⟨rfl, rfl⟩) | (go_at_call 27; refine (logPart_calls _ _ _ (by omega) (by omega) (by omega)).mono ?_; rintro e w4 ⟨rfl, hb4⟩; obtain ⟨⟨l, hr, he, hl, hlen⟩, hbw⟩ := HD.out.then hb4; have HRR := Aside0.mk hr; have HEE := Aside0.mk he; have HLL := Aside0.mk hl; have HBW := Aside0.mk hbw; clear hr he hl hbw HD hb4) | (at_builtin; refine row_append Kd.string Tryz.underlying44 info9 rfl (by decide) (by decide) (.tmp 114) (.tmp 116) rfl rfl _ (l.map (·.1)) (opn ++ sd) [.string (opn ++ sd)] rfl rfl (fun _ => False) rfl (fun _ hk => hk.elim) HRR.out HBW.out (by simp; omega) ?_; intro v5 w5 h5 hb5 hg5; obtain ⟨_, ho5⟩ := Kd.R_own HRR.out; have HE5 := Aside0.mk (HEE.out.apart ho5 (by decide) hg5); have HR5 := Aside0.mk h5; have HB5 := Aside0.mk hb5; clear h5 hb5 hg5 ho5) | (at_builtin; refine row_append (Kd.int .i64) Tryz.underlying25 info3 rfl (by decide) (by decide) (.tmp 118) (.tmp 120) rfl rfl _ (l.map (·.2)) ((q + 7 + n : Nat) : Int) [.int .i64 ((q + 7 + n : Nat) : Int)] rfl rfl (fun _ => False) rfl (fun _ hk => hk.elim) HE5.out HB5.out (by simp; omega) ?_; intro v6 w6 h6 hb6 hg6; obtain ⟨_, ho6⟩ := Kd.R_own HE5.out; have HR6 := Aside0.mk (HR5.out.apart ho6 (by decide) hg6); have HE6 := Aside0.mk h6; have HB6 := Aside0.mk hb6; clear h6 hb6 hg6 ho6))
                  go_roundw
                  case rel => exact ⟨q + 7 + n, ⟨#[]⟩, false, by omega, by simp [ByteArray.size], by go_num, rfl, rfl, ⟨⟨⟨l ++ [(opn ++ sd, ((q + 7 + n : Nat) : Int))], by simpa using HR6.out, by simpa using HE6.out, by rw [List.append_assoc, List.singleton_append, ← readGo_done HX.out (by decide)]; exact HLL.out, by simp; omega⟩, HB6.out⟩⟩⟩
                  case measure => simp [intOf]; omega
              · rcases hc3 with ⟨rfl, rfl⟩ | ⟨rfl, rfl⟩
                all_goals
                  go_wp2_with (first | (go_at_call 26; refine (left_calls _ _ (by omega) (by omega)).mono ?_; rintro e w4 ⟨rfl, rfl⟩) | (go_at_call 27; refine (logPart_calls _ _ _ (by omega) (by omega) (by omega)).mono ?_; rintro e w4 ⟨rfl, hb4⟩; have HD4 := Aside0.mk (HD.out.then hb4); clear hb4))
                  go_roundw
                  case rel => exact ⟨q + 7 + n, opn ++ sd, true, by omega, by rw [ByteArray.size_append]; omega, by go_num, rfl, rfl, ⟨HD4.out.more HX.out (by decide)⟩⟩
                  case measure => simp [intOf]; omega
            · have HX := Aside0.mk (STOP.out (.inr (.inr (.inr hpt))))
              clear STOP YES
              have hpb : ((partOf kd sd).toList == (hd ++ sd).toList) = false := by
                rw [beq_eq_false_iff_ne, Lib.toList_data, Lib.toList_data]; intro h; exact hpt (ByteArray.ext (Array.toList_inj.1 h))
              clear hpt
              rcases hc2 with ⟨rfl, rfl⟩ | ⟨rfl, rfl⟩ | ⟨rfl, rfl⟩ | ⟨rfl, rfl⟩
              all_goals
                go_wp2_with (first | (go_at_call 26; refine (left_calls _ _ (by omega) (by omega)).mono ?_; rintro e w4 ⟨rfl, rfl⟩) | (go_at_call 27; refine (logPart_calls _ _ _ (by omega) (by omega) (by omega)).mono ?_; rintro e w4 ⟨rfl, hb4⟩))
                go_ret2
                exact (HD.out.then hb4).stop HX.out
end Go.Proofs.YtgmdgaioiifgnaaGreat
