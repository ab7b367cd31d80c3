/- Walks of wire.ReadNumber, record.word, log.Append, log.read, log.Ends, log.Read. -/
import Derived.Test.YtgmdgaioiifgnaaGreatB
import Derived.Test.YtgmdgaioiifgnaaGreatShelf2
set_option linter.unusedVariables false
set_option linter.unusedSimpArgs false
namespace Go.Proofs.YtgmdgaioiifgnaaGreat
open Go.RowKit Go.Proofs.YtgmdgaioiifgnaaGreatW.PrintWords

theorem rdNum_end {s : ByteArray} {k : Nat} {z : Int} (h : ¬ k < s.size) : rdNum s k z = (0, 0, 1) := by rw [rdNum, if_neg h]
theorem rdNum_bad {s : ByteArray} {k : Nat} {z : Int} (h : k < s.size) (h2 : k = 10 ∨ k = 9 ∧ 1 < bt s 9) : rdNum s k z = (0, 0, 3) := by rw [rdNum, if_pos h, if_pos h2]
theorem rdNum_last {s : ByteArray} {k : Nat} {z : Int} (h : k < s.size) (h2 : ¬ (k = 10 ∨ k = 9 ∧ 1 < bt s 9)) (h3 : bt s k < 128) : rdNum s k z = (rdStep s k z, (k : Int) + 1, 0) := by rw [rdNum, if_pos h, if_neg h2, if_pos h3]
theorem rdNum_next {s : ByteArray} {k : Nat} {z : Int} (h : k < s.size) (h2 : ¬ (k = 10 ∨ k = 9 ∧ 1 < bt s 9)) (h3 : ¬ bt s k < 128) : rdNum s (k + 1) (rdStep s k z) = rdNum s k z := by rw [rdNum.eq_1 s k, if_pos h, if_neg h2, if_neg h3]
def rdVal (r : Int × Int × Int) : Ending := .returned (.tuple #[.int .u64 r.1, .int .i64 r.2.1, .int .i64 r.2.2])
set_option maxHeartbeats 400000 in
set_option maxRecDepth 100000 in
theorem readNumber_calls (s : ByteArray) (w : World) (hs : s.size ≤ 140737488351232) :
    Calls Tryz.prog 85 #[.string s] w fun e w' => e = rdVal (readNumber s) ∧ w = w' := by
  go_enter Tryz.func85, Tryz.ntmps85
  go_wp2
  go_loop [5, 9] (fun n i => ∃ (k : Nat) (z : Int), k ≤ s.size ∧ k ≤ 10 ∧ i = .int .i64 k ∧ n = .int .u64 z ∧ Aside0 (rdNum s k z = readNumber s)) (fun _ i => s.size - (intOf i).toNat)
  case atStart => exact ⟨0, 0, by omega, by omega, rfl, rfl, ⟨rfl⟩⟩
  case round =>
    obtain ⟨k, z, hk, hk2, rfl, rfl, HZ⟩ := hrel
    by_cases hlt : k < s.size
    · have hbt : ((s[k]'hlt).toNat : Int) = bt s k := bt_at s k (by simpa using hlt)
      rcases (by omega : k < 9 ∨ (k = 9 ∧ ¬ 1 < bt s 9) ∨ (k = 9 ∧ 1 < bt s 9) ∨ k = 10) with h9 | ⟨rfl, h9⟩ | ⟨rfl, h9⟩ | rfl
      · have e9 : ((k : Int) == 9) = false := by simp; omega
        have e10 : ((k : Int) == 10) = false := by simp; omega
        by_cases hb : bt s k < 128
        · go_wp2
          go_ret3
          exact ⟨by rw [← HZ.out, rdNum_last hlt (by omega) hb]; rfl, rfl⟩
        · go_wp2
          go_round
          case rel => exact ⟨k + 1, _, by omega, by omega, by go_num, rfl, ⟨by rw [← HZ.out, ← rdNum_next hlt (by omega) hb]; rfl⟩⟩
          case measure => simp [intOf]; omega
      · by_cases hb : bt s 9 < 128
        · go_wp2
          go_ret3
          exact ⟨by rw [← HZ.out, rdNum_last hlt (by omega) hb]; rfl, rfl⟩
        · omega
      · go_wp2
        go_ret3
        exact ⟨by rw [← HZ.out, rdNum_bad hlt (by omega)]; rfl, rfl⟩
      · go_wp2
        go_ret3
        exact ⟨by rw [← HZ.out, rdNum_bad hlt (by omega)]; rfl, rfl⟩
    · go_wp2
      go_ret3
      exact ⟨by rw [← HZ.out, rdNum_end hlt]; rfl, rfl⟩
set_option maxHeartbeats 400000 in
set_option maxRecDepth 100000 in
theorem word_calls (n : Int) (w : World) (h0 : 0 ≤ n) (h1 : n ≤ 18446744073709551615) :
    Calls Tryz.prog 22 #[.int .u64 n] w fun e w' => e = .returned (.string (strOfNums (wordI n))) ∧ Below w.heap.size w w' := by
  have kc := fun W : World => own_string (P := Tryz.prog) Tryz.underlying58 Tryz.underlying5 Tryz.underlying9 (own_lit W W.heap.size 103 .u8 (wordI n) (Nat.le_refl _) (by simp [wordI]))
  simp only [wordI, nums, List.map_cons, List.map_nil, List.length_cons, List.length_nil, Nat.reduceAdd] at kc
  have HB := Aside0.mk (Below.refl w.heap.size w)
  go_enter Tryz.func22, Tryz.ntmps22
  go_wp2
  go_rounds 9
  go_ret
  exact ⟨rfl, below_alloc HB.out _⟩
end Go.Proofs.YtgmdgaioiifgnaaGreat
