/- slices.Clone: printed by clone.py. -/
import Derived.Test.YtgmdgaioiifgnaaGreatKinds
import Derived.Test.YtgmdgaioiifgnaaGreatMem
import Derived.Lib.SliceRun
set_option linter.unusedVariables false
set_option linter.unusedSimpArgs false
namespace Go.Proofs.YtgmdgaioiifgnaaGreat
open Go.RowKit Go.Proofs.YtgmdgaioiifgnaaGreatW.PrintWords
/-- An empty row that has just been laid. -/
theorem row_made {α : Type} (d : Kd α) (e : Nat) (w : World) : Row d e w (w.alloc (.cells #[] e)) (.slice (some ⟨w.heap.size, 0, none⟩) 0 0) [] :=
  ⟨fun _ _ => trivial, [], World.ownsRow_made w #[] 0 (Nat.le_refl _) (by unfold maxLen; omega) (by simp), Reps.none _ _⟩

set_option maxHeartbeats 1000000 in
set_option maxRecDepth 100000 in
theorem clone_int_calls (A : Option Addr) (c : Nat) (xs : List Int) (w : World) (hC : (Kd.int .i64).C w A xs.length xs) (hbig : xs.length * 8 ≤ 140737488355328) :
    Calls Tryz.prog 38 #[.slice A xs.length c] w fun e w' => ∃ A' c', e = .returned (.slice A' xs.length c') ∧ Row (Kd.int .i64) 3 w w' (.slice A' xs.length c') xs ∧ Below w.heap.size w w' := by
  have HC := Aside0.mk hC
  clear hC
  have hT : Tryz.prog.underlying 25 = some (.slice 3) := by kernel_rfl
  have hinfo : (Tryz.prog.info? 3).map (fun i => (i.zero, i.size, i.bytes)) = some (some (.int .i64 0), 1, 8) := by kernel_rfl
  have q22 : ∀ (w : World) (a : Option Addr) (n c n' c' : Nat), (binOp .eql 25 (.slice a n c) (.slice none n' c')).run Tryz.prog w = .ok (.bool a.isNone) w := fun w a n c n' c' => Lib.run_eql_slice_nil w _ _ a n c n' c' hT
  cases A with
  | none =>
    have h0 : xs = [] := by
      rcases Nat.eq_zero_or_pos xs.length with h | h
      · exact List.eq_nil_of_length_eq_zero h
      · obtain ⟨ad, he, _⟩ := HC.out.2.2 h
        cases he
    subst h0
    go_enter Tryz.func38, Tryz.ntmps38
    go_wp2
    go_ret
    exact ⟨none, 0, rfl, Row.nil _ _ _ _, Below.refl _ _⟩
  | some ad =>
    obtain ⟨b, o, q⟩ := ad
    have HB := Aside0.mk (Below.refl w.heap.size w)
    have HN := Aside0.mk (row_made (Kd.int .i64) 3 w)
    go_enter Tryz.func38, Tryz.ntmps38
    go_wp2_with (at_builtin; refine Kd.R_append_rows (Kd.int .i64) (w0 := w) w.heap.size rfl _ _ 25 3 (.int .i64 0) 8 rfl hT hinfo (by kernel_rfl) (by decide) (by omega) _ [] xs _ _ _ (fun _ => True) (fun _ => False) rfl rfl HN.out (Kd.C_below HC.out (below_alloc (Below.refl _ _) _)) (fun _ _ h => h) (fun _ h => h.elim) (fun _ _ => trivial) (below_alloc HB.out _) (by simp) (by simpa using hbig) ?_; intro v1 w1 k1 k2 k3 k4)
    go_ret
    obtain ⟨A', c', rfl⟩ := Kd.R_slice k1
    exact ⟨A', c', rfl, k1, k2⟩

set_option maxHeartbeats 1000000 in
set_option maxRecDepth 100000 in
theorem clone_bool_calls (A : Option Addr) (c : Nat) (xs : List Bool) (w : World) (hC : (Kd.bool).C w A xs.length xs) (hbig : xs.length * 1 ≤ 140737488355328) :
    Calls Tryz.prog 39 #[.slice A xs.length c] w fun e w' => ∃ A' c', e = .returned (.slice A' xs.length c') ∧ Row (Kd.bool) 4 w w' (.slice A' xs.length c') xs ∧ Below w.heap.size w w' := by
  have HC := Aside0.mk hC
  clear hC
  have hT : Tryz.prog.underlying 26 = some (.slice 4) := by kernel_rfl
  have hinfo : (Tryz.prog.info? 4).map (fun i => (i.zero, i.size, i.bytes)) = some (some (.bool false), 1, 1) := by kernel_rfl
  have q22 : ∀ (w : World) (a : Option Addr) (n c n' c' : Nat), (binOp .eql 26 (.slice a n c) (.slice none n' c')).run Tryz.prog w = .ok (.bool a.isNone) w := fun w a n c n' c' => Lib.run_eql_slice_nil w _ _ a n c n' c' hT
  cases A with
  | none =>
    have h0 : xs = [] := by
      rcases Nat.eq_zero_or_pos xs.length with h | h
      · exact List.eq_nil_of_length_eq_zero h
      · obtain ⟨ad, he, _⟩ := HC.out.2.2 h
        cases he
    subst h0
    go_enter Tryz.func39, Tryz.ntmps39
    go_wp2
    go_ret
    exact ⟨none, 0, rfl, Row.nil _ _ _ _, Below.refl _ _⟩
  | some ad =>
    obtain ⟨b, o, q⟩ := ad
    have HB := Aside0.mk (Below.refl w.heap.size w)
    have HN := Aside0.mk (row_made (Kd.bool) 4 w)
    go_enter Tryz.func39, Tryz.ntmps39
    go_wp2_with (at_builtin; refine Kd.R_append_rows (Kd.bool) (w0 := w) w.heap.size rfl _ _ 26 4 (.bool false) 1 rfl hT hinfo (by kernel_rfl) (by decide) (by omega) _ [] xs _ _ _ (fun _ => True) (fun _ => False) rfl rfl HN.out (Kd.C_below HC.out (below_alloc (Below.refl _ _) _)) (fun _ _ h => h) (fun _ h => h.elim) (fun _ _ => trivial) (below_alloc HB.out _) (by simp) (by simpa using hbig) ?_; intro v1 w1 k1 k2 k3 k4)
    go_ret
    obtain ⟨A', c', rfl⟩ := Kd.R_slice k1
    exact ⟨A', c', rfl, k1, k2⟩

set_option maxHeartbeats 1000000 in
set_option maxRecDepth 100000 in
theorem clone_lab_calls (A : Option Addr) (c : Nat) (xs : List Lab) (w : World) (hC : (kLab).C w A xs.length xs) (hbig : xs.length * 32 ≤ 140737488355328) :
    Calls Tryz.prog 40 #[.slice A xs.length c] w fun e w' => ∃ A' c', e = .returned (.slice A' xs.length c') ∧ Row (kLab) 64 w w' (.slice A' xs.length c') xs ∧ Below w.heap.size w w' := by
  have HC := Aside0.mk hC
  clear hC
  have hT : Tryz.prog.underlying 60 = some (.slice 64) := by kernel_rfl
  have hinfo : (Tryz.prog.info? 64).map (fun i => (i.zero, i.size, i.bytes)) = some (some (.agg #[.string ⟨#[]⟩, .string ⟨#[]⟩]), 2, 32) := by kernel_rfl
  have q22 : ∀ (w : World) (a : Option Addr) (n c n' c' : Nat), (binOp .eql 60 (.slice a n c) (.slice none n' c')).run Tryz.prog w = .ok (.bool a.isNone) w := fun w a n c n' c' => Lib.run_eql_slice_nil w _ _ a n c n' c' hT
  cases A with
  | none =>
    have h0 : xs = [] := by
      rcases Nat.eq_zero_or_pos xs.length with h | h
      · exact List.eq_nil_of_length_eq_zero h
      · obtain ⟨ad, he, _⟩ := HC.out.2.2 h
        cases he
    subst h0
    go_enter Tryz.func40, Tryz.ntmps40
    go_wp2
    go_ret
    exact ⟨none, 0, rfl, Row.nil _ _ _ _, Below.refl _ _⟩
  | some ad =>
    obtain ⟨b, o, q⟩ := ad
    have HB := Aside0.mk (Below.refl w.heap.size w)
    have HN := Aside0.mk (row_made (kLab) 64 w)
    go_enter Tryz.func40, Tryz.ntmps40
    go_wp2_with (at_builtin; refine Kd.R_append_rows (kLab) (w0 := w) w.heap.size rfl _ _ 60 64 (.agg #[.string ⟨#[]⟩, .string ⟨#[]⟩]) 32 rfl hT hinfo (by kernel_rfl) (by decide) (by omega) _ [] xs _ _ _ (fun _ => True) (fun _ => False) rfl rfl HN.out (Kd.C_below HC.out (below_alloc (Below.refl _ _) _)) (fun _ _ h => h) (fun _ h => h.elim) (fun _ _ => trivial) (below_alloc HB.out _) (by simp) (by simpa using hbig) ?_; intro v1 w1 k1 k2 k3 k4)
    go_ret
    obtain ⟨A', c', rfl⟩ := Kd.R_slice k1
    exact ⟨A', c', rfl, k1, k2⟩
end Go.Proofs.YtgmdgaioiifgnaaGreat
