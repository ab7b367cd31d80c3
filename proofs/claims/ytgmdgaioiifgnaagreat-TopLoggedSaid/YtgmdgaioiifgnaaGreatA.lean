import Derived.Test.YtgmdgaioiifgnaaGreatSpec
import Derived.Test.YtgmdgaioiifgnaaGreatProg
import Derived.Lib.Strings
set_option linter.unusedVariables false
set_option linter.unusedSimpArgs false
namespace Go.Proofs.YtgmdgaioiifgnaaGreat
open Go.RowKit Go.Proofs.YtgmdgaioiifgnaaGreatW.PrintWords
set_option maxHeartbeats 400000 in
set_option maxRecDepth 100000 in
theorem logCheck_calls (s : ByteArray) (w : World) (hs : s.size ≤ 140737488351232) :
    Calls Tryz.prog 51 #[.string s] w fun e w' => e = .returned (.int .u32 (crc s)) ∧ Below w.heap.size w w' := by
  have kb := fun W => print_bytes (P := Tryz.prog) 9 58 5 Tryz.underlying9 Tryz.underlying58 Tryz.underlying5 s W
  have HR := Aside0.mk (bytes_reads w 5 s (by omega))
  have HB := Aside0.mk (bytes_below (Below.refl w.heap.size w) (Nat.le_refl _) 5 s)
  go_enter Tryz.func51, Tryz.ntmps51
  go_wp2
  obtain ⟨W, hW⟩ : ∃ W, W = Lib.bytesWorld w 5 s := ⟨_, rfl⟩
  rw [← hW] at HR HB ⊢
  clear hW kb
  go_loop [3, 10] (fun c i => ∃ k : Nat, k ≤ s.size ∧ i = .int .i64 k ∧ c = .int .u32 (crcAll s k)) (fun _ i => s.size - (intOf i).toNat)
  case atStart => exact ⟨0, Nat.zero_le _, rfl, rfl⟩
  case round =>
    obtain ⟨k, hk, rfl, rfl⟩ := hrel
    by_cases hlt : k < s.size
    · obtain ⟨ad, e, hcell⟩ := HR.out.at_ k (by omega) (by omega)
      cases e
      rw [rd_bytesOf] at hcell
      have hbt := bt_range s k
      simp only [Int.toNat_natCast, add_plain] at hcell
      have z01 := bits_u32 .xor (crcAll s k) (bt s k)
      go_wp2
      go_loop [3, 18] (fun c i => ∃ j : Nat, j ≤ 8 ∧ i = .int .i64 j ∧ c = .int .u32 (crcBits j (bits .xor .u32 (crcAll s k) (bt s k)))) (fun _ i => 8 - (intOf i).toNat)
      case atStart => exact ⟨0, Nat.zero_le _, rfl, rfl⟩
      case round =>
        obtain ⟨j, hj, rfl, rfl⟩ := hrel
        have z2 := crcBits_u32 _ z01.1 z01.2 j
        by_cases hj8 : j < 8
        · go_wp2
          go_round
          case rel => exact ⟨j + 1, by omega, by go_num, rfl⟩
          case measure => simp [intOf]; omega
        · obtain rfl : j = 8 := by omega
          go_wp2
          go_round
          case rel => exact ⟨k + 1, by omega, by go_num, rfl⟩
          case measure => simp [intOf]; omega
    · obtain rfl : k = s.size := by omega
      have z2 := crcAll_u32 s s.size
      go_wp2
      go_ret
      exact ⟨rfl, HB.out⟩

set_option maxHeartbeats 400000 in
set_option maxRecDepth 100000 in
theorem logPart_calls (kind : Int) (s : ByteArray) (w : World) (hs : s.size ≤ 140737488351232) (h0 : 0 ≤ kind) (h1 : kind < 256) :
    Calls Tryz.prog 27 #[.int .u8 kind, .string s] w fun e w' => e = .returned (.string (partOf kind s)) ∧ Below w.heap.size w w' := by
  have hc := crc_u32 s
  have kc := fun W : World => own_string (P := Tryz.prog) Tryz.underlying58 Tryz.underlying5 Tryz.underlying9 (own_lit W W.heap.size 5 .u8 [kind, (s.size : Int) % 256, (s.size : Int) / 256 % 256, crc s % 256, crc s / 256 % 256, crc s / 65536 % 256, crc s / 16777216] (Nat.le_refl _) (by simp))
  simp only [nums, List.map_cons, List.map_nil, List.length_cons, List.length_nil, Nat.reduceAdd] at kc
  have hz : (strOfNums [kind, (s.size : Int) % 256, (s.size : Int) / 256 % 256, crc s % 256, crc s / 256 % 256, crc s / 65536 % 256, crc s / 16777216]).size = 7 := strOfNums_size _
  have hsz : ¬ 9223372036854775807 < (strOfNums [kind, (s.size : Int) % 256, (s.size : Int) / 256 % 256, crc s % 256, crc s / 256 % 256, crc s / 65536 % 256, crc s / 16777216]).size + s.size := by omega
  clear hz
  go_enter Tryz.func27, Tryz.ntmps27
  go_wp2_with (go_at_call 51; refine (logCheck_calls _ _ hs).mono ?_; rintro e w1 ⟨rfl, hb1⟩)
  go_ret
  exact ⟨rfl, below_alloc hb1 _⟩

theorem iter_below (w : World) (s : ByteArray) (p : Nat) : Below w.heap.size w (w.iter s p) := (Below.refl _ _).alloc (Nat.le_refl _) _

theorem range_name (s : ByteArray) (w : World) (pos : Nat) (hlt : pos < s.size) : ∃ (r : Int) (p2 : Nat), (∀ ty, (Instr.next (.pointer (some ⟨w.heap.size, 0, none⟩)) true ty).run Tryz.prog (w.iter s pos) = .ok (.tuple #[.bool true, .int .i64 pos, .int .i32 r]) (w.iter s p2)) ∧
    (nameAt s pos = (letterB r || (pos != 0 && digitB r))) ∧ (nameAt s pos = true → p2 = pos + 1) := by
  by_cases ha : (s[pos]'hlt).toNat < 128
  · have hb : ((s[pos]'hlt).toNat : Int) = bt s pos := bt_at s pos (by simpa using hlt)
    exact ⟨_, _, fun ty => run_next_ascii (P := Tryz.prog) w s pos ty hlt ha, by rw [hb]; rfl, fun _ => rfl⟩
  · have hd := decode_high s pos hlt (by omega)
    have hb : ((s[pos]'hlt).toNat : Int) = bt s pos := bt_at s pos (by simpa using hlt)
    have e1 : nameAt s pos = false := by simp [nameAt, letterB, digitB]; omega
    refine ⟨_, _, fun ty => run_next_any (P := Tryz.prog) w s pos ty hlt, ?_, ?_⟩
    · rw [e1]; simp [letterB, digitB]; omega
    · rw [e1]; simp

theorem isName_false (s : ByteArray) (pos : Nat) (h : pos < s.size) (hn : nameAt s pos = false) : isName s = false := by
  have : (List.range s.size).all (nameAt s) = false := by
    rw [List.all_eq_false]; exact ⟨pos, by simpa using h, by simp [hn]⟩
  simp [isName, this]
theorem bytes_empty (s : ByteArray) : (!s.toList.isEmpty && decide ((s.size : Int) ≤ 40)) = (decide (s.size ≠ 0) && decide (s.size ≤ 40)) := by
  have h : s.toList.length = s.size := by rw [Lib.toList_data]; exact (Lib.size_eq s).symm
  cases hl : s.toList with
  | nil => rw [hl] at h; simp at h; simp [← h]
  | cons a l => rw [hl] at h; simp at h; simp [← h]; omega
theorem isName_end (s : ByteArray) (h : ∀ i, i < s.size → nameAt s i = true) : isName s = (decide (s.size ≠ 0) && decide (s.size ≤ 40)) := by
  have : (List.range s.size).all (nameAt s) = true := by
    rw [List.all_eq_true]; intro i hi; exact h i (by simpa using hi)
  simp [isName, this]

set_option maxHeartbeats 1000000 in
set_option maxRecDepth 100000 in
theorem isName_calls (s : ByteArray) (w : World) (hs : s.size ≤ 140737488351232) :
    Calls Tryz.prog 100 #[.string s] w fun e w' => e = .returned (.bool (isName s)) ∧ Below w.heap.size w w' := by
  go_enter Tryz.func100, Tryz.ntmps100
  go_wp2
  go_loopw [3] (fun _ wr => ∃ pos : Nat, pos ≤ s.size ∧ wr = w.iter s pos ∧ Aside0 (∀ i, i < pos → nameAt s i = true)) (fun _ wr => s.size - wr.iterPos w.heap.size)
  case atStart => exact ⟨0, Nat.zero_le _, rfl, ⟨fun i hi => by omega⟩⟩
  case round =>
    obtain ⟨pos, hp, rfl, HA⟩ := hrel
    by_cases hlt : pos < s.size
    · obtain ⟨r, p2, hnx, hn, hp2⟩ := range_name s w pos hlt
      have HN := Aside0.mk hn
      have HP := Aside0.mk hp2
      clear hn hp2
      have hcs : r < 48 ∨ (48 ≤ r ∧ r ≤ 57) ∨ (57 < r ∧ r < 65) ∨ (65 ≤ r ∧ r ≤ 90) ∨ (90 < r ∧ r < 95) ∨ r = 95 ∨ (95 < r ∧ r < 97) ∨ (97 ≤ r ∧ r ≤ 122) ∨ 122 < r := by omega
      have hz : pos = 0 ∨ 0 < pos := by omega
      rcases hz with rfl | hz <;> rcases hcs with c | ⟨c, c2⟩ | ⟨c, c2⟩ | ⟨c, c2⟩ | ⟨c, c2⟩ | rfl | ⟨c, c2⟩ | ⟨c, c2⟩ | c
      all_goals
        try have d90 : decide (r ≤ 90) = false := decide_eq_false (by omega)
        try have d122 : decide (r ≤ 122) = false := decide_eq_false (by omega)
        try have h95 : (r == 95) = false := by simp; omega
        try have hpz : ((pos : Int) == 0) = false := by simp; omega
        go_wp2
        all_goals first
        | (go_ret; exact ⟨by rw [isName_false s _ hlt (by rw [HN.out]; first | (simp [letterB, digitB]; done) | (simp [letterB, digitB]; omega))]; rfl, iter_below _ _ _⟩)
        | (have hy := HN.out.trans (show _ = true by first | (simp [letterB, digitB]; done) | (simp [letterB, digitB]; omega))
           have e := HP.out hy
           go_roundw
           case rel =>
             refine ⟨p2, by omega, rfl, ⟨fun i hi => ?_⟩⟩
             rcases Nat.lt_or_ge (i + 1) p2 with h | h
             · exact HA.out i (by omega)
             · exact (Nat.add_right_cancel ((show i + 1 = p2 by omega).trans e)).symm ▸ hy
           case measure => simp; omega)
    · obtain rfl : pos = s.size := by omega
      have hnx := fun ty => run_next_end (P := Tryz.prog) w s s.size ty hlt
      go_wp2
      all_goals
        go_ret
        exact ⟨by rw [isName_end s HA.out, ← bytes_empty]; first | rfl | (rename_i h; rw [h]; rfl), iter_below _ _ _⟩
end Go.Proofs.YtgmdgaioiifgnaaGreat
