/- Walks of wire.Number, wire.ReadNumber, record.number, text, signed, word, log.left, log.padding. -/
import Derived.Test.YtgmdgaioiifgnaaGreatSpec
import Derived.Test.YtgmdgaioiifgnaaGreatProg
import Derived.Test.YtgmdgaioiifgnaaGreatShelf
import Derived.Lib.Strings
import Derived.Handy
set_option linter.unusedVariables false
set_option linter.unusedSimpArgs false
namespace Go.Proofs.YtgmdgaioiifgnaaGreat
open Go.RowKit Go.Proofs.YtgmdgaioiifgnaaGreatW.PrintWords
theorem info8 : (Tryz.prog.info? 5).map (fun i => (i.zero, i.size, i.bytes)) = some (some (.int .u8 0), 1, 1) := by kernel_rfl

set_option maxHeartbeats 400000 in
theorem left_calls (n : Int) (w : World) (h0 : 0 ≤ n) (h1 : n ≤ 4611686018427387904) :
    Calls Tryz.prog 26 #[.int .i64 n] w fun e w' => e = .returned (.int .i64 (128 - n % 128)) ∧ w = w' := by
  go_enter Tryz.func26, Tryz.ntmps26
  go_wp2
  go_ret
  exact ⟨rfl, rfl⟩

set_option maxHeartbeats 400000 in
theorem padding_calls (n : Nat) (w : World) (h1 : n ≤ 4611686018427387904) :
    Calls Tryz.prog 24 #[.int .i64 n] w fun e w' => e = .returned (.string ⟨(padL n).toArray⟩) ∧ Below w.heap.size w w' := by
  by_cases hc : 128 - n % 128 < 7
  · have hL : padL n = Lib.repeatL (⟨#[0]⟩ : ByteArray).data.toList (128 - n % 128) := by
      rw [padL, if_pos hc, padL_repeat]
    rw [hL]
    have hc2 : (128 : Int) - (n : Int) % 128 < 7 := by omega
    have HM : Aside0 ((128 : Int) - (n : Int) % 128 = ((128 - n % 128 : Nat) : Int)) := ⟨by omega⟩
    clear hL
    go_enter Tryz.func24, Tryz.ntmps24
    go_wp2_with (first | (go_at_call 26; refine (left_calls _ _ (by omega) (by omega)).mono ?_; rintro e w1 ⟨rfl, rfl⟩) | (go_at_call 50; rw [HM.out]; refine (Tryz.strings_Repeat _ (128 - n % 128) _ (by omega) (by simp [ByteArray.size]; omega)).mono ?_; rintro e w1 ⟨rfl, hb⟩))
    go_ret
    exact ⟨rfl, hb⟩
  · have hL : padL n = [] := by rw [padL, if_neg hc]
    rw [hL]
    have hc2 : ¬ (128 : Int) - (n : Int) % 128 < 7 := by omega
    go_enter Tryz.func24, Tryz.ntmps24
    go_wp2_with (go_at_call 26; refine (left_calls _ _ (by omega) (by omega)).mono ?_; rintro e w1 ⟨rfl, rfl⟩)
    go_ret
    exact ⟨rfl, Below.refl _ _⟩

section
variable {ops : Array Oper} {rest : List Oper} {o : Oper} {a : Act} {Q : Exit → Act → World → Prop}
/-- Bytes of the call's own (from w0 on). -/
def Own8 (w0 w : World) (v : Value) (xs : List Int) : Prop := (Kd.int .u8).R 5 w w0.heap.size (fun _ => True) v xs
theorem Own8.nil (w0 w : World) : Own8 w0 w (.slice none 0 0) [] := Kd.R_nil _ _ _ _ _
/-- append(v, x) on bytes of the call's own. -/
theorem append8 {w0 W : World} (s x : Operand) (hgd : o.guard = none) (ho : o.op = .call { callee := .builtin .append, args := #[s, x], argTypes := #[58, 58] }) (v : Value) (xs : List Int) (p : Int) (hs : a.eval s = v) (hx : a.eval x = .slice (some ⟨W.heap.size, 0, none⟩) 1 1)
    (HO : Own8 w0 W v xs) (HB : Below w0.heap.size w0 W) (hl : xs.length + 1 ≤ 140737488355328) (h : ∀ v1 w1, Own8 w0 w1 v1 (xs ++ [p]) → Below w0.heap.size w0 w1 → wpList Tryz.prog ops Q rest (a.put o.dst v1) w1) :
    wpList Tryz.prog ops Q (o :: rest) a (W.alloc (.cells #[.int .u8 p] 5)) :=
  Kd.R_append (Kd.int .u8) (w0 := w0) w0.heap.size hgd s x 58 5 (.int .u8 0) 1 ho Tryz.underlying58 info8 rfl (by decide) (by decide) v xs p [.int .u8 p] (fun _ => True) (fun _ => False) hs hx rfl (fun _ hk => hk.elim) (fun _ _ => trivial) HO HB HB.size (by omega) (fun v1 w1 h1 h2 _ _ => h v1 w1 h1 h2)
theorem Own8.string {w0 w : World} {v : Value} {xs : List Int} (h : Own8 w0 w v xs) : (convert 58 9 v).run Tryz.prog w = .ok (.string (strOfNums xs)) w :=
  own_string (P := Tryz.prog) Tryz.underlying58 Tryz.underlying5 Tryz.underlying9 (Kd.own_of_R h)
end

set_option maxHeartbeats 400000 in
theorem number_calls (n : Int) (w : World) (h0 : 0 ≤ n) (h1 : n ≤ 18446744073709551615) :
    Calls Tryz.prog 48 #[.int .u64 n] w fun e w' => e = .returned (.string (numberB n)) ∧ Below w.heap.size w w' := by
  have hB := Below.refl w.heap.size w
  have hN := Aside0.mk (Own8.nil w w)
  have hl := numI_len n h0 h1
  go_enter Tryz.func48, Tryz.ntmps48
  go_wp2
  go_loopw [0, 3] (fun m v wr => ∃ (z : Int) (xs : List Int), 0 ≤ z ∧ z ≤ 18446744073709551615 ∧ m = .int .u64 z ∧ Aside0 (xs ++ numI z = numI n) ∧ Aside0 (Own8 w wr v xs) ∧ Below w.heap.size w wr) (fun m _ _ => (intOf m).toNat)
  case atStart => exact ⟨n, [], h0, h1, rfl, ⟨rfl⟩, hN, hB⟩
  case round =>
    obtain ⟨z, xs, z0, z1, rfl, HX, HO, HB⟩ := hrel
    have hxl : xs.length ≤ 10 := by have := congrArg List.length HX.out; simp at this; omega
    by_cases hz : 127 < z
    · have HY : Aside0 (numI z = bits .or .u8 (z % 256) 128 :: numI (z / 128)) := ⟨by rw [numI, dif_pos hz]⟩
      go_wp2_with (at_builtin; refine append8 (w0 := w) (.tmp 6) (.tmp 10) rfl rfl _ xs _ rfl rfl HO.out HB (by omega) ?_; intro v1 w1 ho1 hb1)
      have HO1 := Aside0.mk ho1
      clear ho1
      go_roundw
      case rel => exact ⟨z / 128, _, by omega, by omega, rfl, ⟨by rw [← HX.out, HY.out, List.append_assoc]; rfl⟩, HO1, hb1⟩
      case measure => simp [intOf]; omega
    · have HY : Aside0 (numI z = [z]) := ⟨by rw [numI, dif_neg hz, Int.emod_eq_of_lt (by omega) (by omega)]⟩
      go_wp2_with (at_builtin; refine append8 (w0 := w) (.tmp 14) (.tmp 17) rfl rfl _ xs _ rfl rfl HO.out HB (by omega) ?_; intro v1 w1 ho1 hb1; have hcv := ho1.string)
      go_ret
      exact ⟨by rw [numberB, ← HX.out, HY.out]; rfl, hb1⟩

set_option maxHeartbeats 400000 in
theorem recNumber_calls (n : Int) (w : World) (h0 : 0 ≤ n) (h1 : n ≤ 9223372036854775807) :
    Calls Tryz.prog 19 #[.int .i64 n] w fun e w' => e = .returned (.string (numberB n)) ∧ Below w.heap.size w w' := by
  go_enter Tryz.func19, Tryz.ntmps19
  go_wp2_with (go_at_call 48; refine (number_calls _ _ (by omega) (by omega)).mono ?_; rintro e w1 ⟨rfl, hb⟩)
  go_ret
  exact ⟨rfl, hb⟩
set_option maxHeartbeats 400000 in
theorem recText_calls (s : ByteArray) (w : World) (hs : s.size ≤ 140737488351232) :
    Calls Tryz.prog 20 #[.string s] w fun e w' => e = .returned (.string (numberB s.size ++ s)) ∧ Below w.heap.size w w' := by
  have hl := numberB_size s.size (by omega) (by omega)
  have hsz : ¬ 9223372036854775807 < (numberB s.size).size + s.size := by omega
  clear hl
  go_enter Tryz.func20, Tryz.ntmps20
  go_wp2_with (go_at_call 19; refine (recNumber_calls _ _ (by omega) (by omega)).mono ?_; rintro e w1 ⟨rfl, hb⟩)
  go_ret
  exact ⟨rfl, hb⟩
set_option maxHeartbeats 400000 in
theorem recSigned_calls (n : Int) (w : World) (h0 : -4611686018427387903 ≤ n) (h1 : n ≤ 4611686018427387903) :
    Calls Tryz.prog 21 #[.int .i64 n] w fun e w' => e = .returned (.string (numberB (zig n))) ∧ Below w.heap.size w w' := by
  by_cases hn : n < 0
  · have hz : zig n = -2 * n - 1 := by simp [zig, hn]
    rw [hz]
    clear hz
    go_enter Tryz.func21, Tryz.ntmps21
    go_wp2_with (go_at_call 19; refine (recNumber_calls _ _ (by omega) (by omega)).mono ?_; rintro e w1 ⟨rfl, hb⟩)
    go_ret
    exact ⟨rfl, hb⟩
  · have hz : zig n = 2 * n := by simp [zig, hn]
    rw [hz]
    clear hz
    go_enter Tryz.func21, Tryz.ntmps21
    go_wp2_with (go_at_call 19; refine (recNumber_calls _ _ (by omega) (by omega)).mono ?_; rintro e w1 ⟨rfl, hb⟩)
    go_ret
    exact ⟨rfl, hb⟩
end Go.Proofs.YtgmdgaioiifgnaaGreat
