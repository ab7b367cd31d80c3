/- record.reader: number, take, text, where what is read is there. -/
import Derived.Test.YtgmdgaioiifgnaaGreatCodec
import Derived.Test.YtgmdgaioiifgnaaGreatOnce
set_option linter.unusedVariables false
set_option linter.unusedSimpArgs false
namespace Go.Proofs.YtgmdgaioiifgnaaGreat
open Go.RowKit Go.Proofs.YtgmdgaioiifgnaaGreatW.PrintWords
/-- A reader, and what is left to be read. -/
def RdS (w : World) (rb : Nat) (S : ByteArray) : Prop := w.heap[rb]? = some (.cells #[.string S] 86 (0, 0))
section
variable {w w1 : World} {rb : Nat} {S S' : ByteArray}
theorem RdS.cell (h : RdS w rb S) : w.cell? ⟨rb, 0, none⟩ = some (.string S) := by rw [row_cell h]; rfl
theorem RdS.free (h : RdS w rb S) : w.frozen? ⟨rb, 0, none⟩ = false := by simp [World.frozen?, show w.heap[rb]? = _ from h]
theorem RdS.below (h : RdS w rb S) (hb : Below w.heap.size w w1) : RdS w1 rb S := block_below' h hb
theorem RdS.set (h : RdS w rb S) : RdS (w.setCell ⟨rb, 0, none⟩ (.string S')) rb S' := by
  rw [setCell_eq_setRow w rb 0 _ _ _ _ h]
  exact setRow_heap _ _ _ _ _ _ h
theorem RdS.grown (h : RdS w rb S) : w.grownBy (w.setCell ⟨rb, 0, none⟩ (.string S')) (some rb) := by
  rw [setCell_eq_setRow w rb 0 _ _ _ _ h]
  exact grown_setRow (World.grownBy.refl w (some rb)) rb _ (.inl rfl)
end
theorem extract_left (a T : ByteArray) : (a ++ T).extract 0 a.size = a := ByteArray.extract_append_eq_left rfl
theorem extract_right (a T : ByteArray) : (a ++ T).extract a.size (a ++ T).size = T := ByteArray.extract_append_eq_right rfl (by rw [ByteArray.size_append])
set_option maxHeartbeats 1000000 in
set_option maxRecDepth 100000 in
theorem take_calls (rb : Nat) (a T : ByteArray) (n : Int) (w : World) (h : RdS w rb (a ++ T)) (hn : n = a.size) (hsz : (a ++ T).size ≤ 140737488351232) :
    Calls Tryz.prog 54 #[.pointer (some ⟨rb, 0, none⟩), .int .i64 n] w fun e w' => e = .returned (.string a) ∧ RdS w' rb T ∧ w.grownBy w' (some rb) := by
  have h0 : 0 ≤ n := by omega
  have HN := Aside0.mk hn
  have H := Aside0.mk h
  have q := h.cell
  have f := h.free
  have hle : n ≤ ((a ++ T).size : Int) := by rw [hn, ByteArray.size_append]; omega
  have hlb : ((a ++ T).size : Int) ≤ 9223372036854775807 := by omega
  have HR := Aside0.mk (h.set (S' := T))
  have HG := Aside0.mk (h.grown (S' := T))
  have htn : n.toNat = a.size := by omega
  have hEL := extract_left a T
  have hER := extract_right a T
  generalize hS : a ++ T = S at *
  have HS := Aside0.mk hS
  clear hS h hn
  go_enter Tryz.func54, Tryz.ntmps54
  go_wp2
  go_ret
  exact ⟨rfl, HR.out, HG.out⟩
set_option maxHeartbeats 1000000 in
set_option maxRecDepth 100000 in
theorem rdNumber_calls (rb : Nat) (n : Int) (T : ByteArray) (w : World) (h : RdS w rb (numberB n ++ T)) (h0 : 0 ≤ n) (h1 : n ≤ 4611686018427387904) (hsz : (numberB n ++ T).size ≤ 140737488351232) :
    Calls Tryz.prog 57 #[.pointer (some ⟨rb, 0, none⟩)] w fun e w' => e = .returned (.int .i64 n) ∧ RdS w' rb T ∧ w.grownBy w' (some rb) := by
  have HRN := Aside0.mk (readNumber_number n T h0 h1)
  have hEL := extract_left (numberB n) T
  have hER := extract_right (numberB n) T
  have hle : ((numberB n).size : Int) ≤ ((numberB n ++ T).size : Int) := by rw [ByteArray.size_append]; omega
  have h1b : decide (4611686018427387904 < n) = false := decide_eq_false (by omega)
  have hnn : ((numberB n).toList == (numberB n).toList) = true := by simp
  generalize hS : numberB n ++ T = S at *
  have HS := Aside0.mk hS
  have H := Aside0.mk h
  have q := h.cell
  clear hS h
  go_enter Tryz.func57, Tryz.ntmps57
  go_wp2_with (go_at_call 85; refine (readNumber_calls S _ hsz).mono ?_; rw [HRN.out]; rintro e w2 ⟨he, rfl⟩; obtain rfl : e = .returned (.tuple #[.int .u64 n, .int .i64 (numberB n).size, .int .i64 0]) := he)
  have hcur := below_drew (Below.refl w.heap.size w)
  go_region_held3 (fun U => U.cell? ⟨rb, 0, none⟩ = some (.string S))
    (first | exact pw_cell_below hcur q | go_keep)
    (first
      | (go_at_call 48; refine (number_calls _ _ (by omega) (by omega)).mono ?_; rintro e w2 ⟨rfl, hb2⟩; replace hcur := below_step hcur hb2))
  have R2 := H.out.below hcur
  have q2 := R2.cell
  have f2 := R2.free
  have HR := Aside0.mk (R2.set (S' := T))
  have HG := Aside0.mk (grown_trans (grown_below (some rb) hcur) (R2.grown (S' := T)))
  clear R2 hcur hb2 q
  go_wp2_with fail
  go_ret
  exact ⟨rfl, HR.out, HG.out⟩
set_option maxHeartbeats 1000000 in
set_option maxRecDepth 100000 in
theorem rdText_calls (rb : Nat) (s T : ByteArray) (w : World) (h : RdS w rb (txtB s ++ T)) (hsz : (txtB s ++ T).size ≤ 140737488351232) :
    Calls Tryz.prog 59 #[.pointer (some ⟨rb, 0, none⟩)] w fun e w' => e = .returned (.string s) ∧ RdS w' rb T ∧ w.grownBy w' (some rb) := by
  have hs : (s ++ T).size ≤ 140737488351232 := by rw [txtB, ByteArray.append_assoc, ByteArray.size_append] at hsz; omega
  have hss : (s.size : Int) ≤ 4611686018427387904 := by rw [ByteArray.size_append] at hs; omega
  have hsz2 : (numberB s.size ++ (s ++ T)).size ≤ 140737488351232 := by rw [← ByteArray.append_assoc]; exact hsz
  have H := Aside0.mk (show RdS w rb (numberB s.size ++ (s ++ T)) by rw [← ByteArray.append_assoc]; exact h)
  have HZ := Aside0.mk hsz2
  have HY := Aside0.mk hs
  clear h hsz hsz2 hs
  go_enter Tryz.func59, Tryz.ntmps59
  go_wp2_with (first | (go_at_call 57; refine (rdNumber_calls rb _ _ _ H.out (by omega) hss HZ.out).mono ?_; rintro e w2 ⟨rfl, hr, hg⟩; have HR := Aside0.mk hr; have HG := Aside0.mk hg; clear hr hg) | (go_at_call 54; refine (take_calls rb s T _ _ HR.out rfl HY.out).mono ?_; rintro e w3 ⟨rfl, hr, hg⟩; have HR3 := Aside0.mk hr; have HG3 := Aside0.mk (grown_trans HG.out hg); clear hr hg))
  go_ret
  exact ⟨rfl, HR3.out, HG3.out⟩
theorem enter_run {P : Program} {f : FuncId} {fn : Func} {c : Code} (hf : P.funcs[f]? = some fn) (hname : (fn.name == "runtime.NumGoroutine") = false) (hb : fn.body = some c) (args : Array Value) (w : World) :
    (callFunc f args).run P w = .ok (.enter f args) w := by
  have h1 : fn.name ≠ "runtime.NumGoroutine" := by simpa using hname
  simp [callFunc, hf, h1, hb]
set_option maxHeartbeats 1000000 in
set_option maxRecDepth 100000 in
/-- many things: f reads one after the other. -/
theorem many_calls (rb fN : Nat) (caps : Array Value) (n : Nat) (T : ByteArray) (Inv : Nat → World → Prop) (w : World) (h : RdS w rb (numberB n ++ T)) (hn : n ≤ T.size) (hsz : (numberB n ++ T).size ≤ 140737488351232)
    (hf : ∀ w1 : World, (callFunc fN caps).run Tryz.prog w1 = .ok (.enter fN caps) w1) (hi : ∀ w1, w.grownBy w1 (some rb) → RdS w1 rb T → Inv 0 w1)
    (hs : ∀ j w1, j < n → Inv j w1 → Calls Tryz.prog fN caps w1 fun e w2 => e = .returned (.tuple #[]) ∧ Inv (j + 1) w2) :
    Calls Tryz.prog 55 #[.pointer (some ⟨rb, 0, none⟩), .func (.func fN) #[] caps] w fun e w' => e = .returned (.tuple #[]) ∧ Inv n w' := by
  have HI := Aside0.mk hi
  have HS := Aside0.mk hs
  have H := Aside0.mk h
  have HZ := Aside0.mk hsz
  have hnt : decide (T.size < n) = false := decide_eq_false (by omega)
  have hnb : (n : Int) ≤ 140737488351232 := by rw [ByteArray.size_append] at hsz; omega
  clear hi hs h hsz hn
  go_enter Tryz.func55, Tryz.ntmps55
  go_wp2_with (go_at_call 57; refine (rdNumber_calls rb _ _ _ H.out (by omega) (by omega) HZ.out).mono ?_; rintro e w2 ⟨rfl, hr, hg⟩; have q := hr.cell; have HV := Aside0.mk (HI.out _ hg hr); clear hr hg)
  clear q hnt
  go_loopw [17] (fun i wr => ∃ j : Nat, j ≤ n ∧ i = .int .i64 j ∧ Aside0 (Inv j wr)) (fun i _ => n - (intOf i).toNat)
  case atStart => exact ⟨0, by omega, rfl, HV⟩
  case round =>
    clear HV
    obtain ⟨j, hj, rfl, HV⟩ := hrel
    by_cases hlt : j < n
    · have hltb : (j : Int) < (n : Int) := by omega
      go_wp2_with fail
      refine (HS.out j wr hlt HV.out).mono ?_; rintro e w3 ⟨rfl, hv⟩
      have HV3 := Aside0.mk hv
      clear hv HV
      go_wp2_with fail
      go_roundw
      case rel => exact ⟨j + 1, by omega, by go_num, HV3⟩
      case measure => simp [intOf]; omega
    · obtain rfl : j = n := by omega
      have hltb : ¬ (j : Int) < (j : Int) := by omega
      go_wp2_with fail
      go_end0
      exact ⟨rfl, HV.out⟩
end Go.Proofs.YtgmdgaioiifgnaaGreat
