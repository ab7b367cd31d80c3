/- log.Ends, log.Read. -/
import Derived.Test.YtgmdgaioiifgnaaGreatE
set_option linter.unusedVariables false
set_option linter.unusedSimpArgs false
namespace Go.Proofs.YtgmdgaioiifgnaaGreat
open Go.RowKit Go.Proofs.YtgmdgaioiifgnaaGreatW.PrintWords
theorem ends_calls (log : ByteArray) (w : World) (hs : log.size ≤ 1099511627776) :
    Calls Tryz.prog 29 #[.string log] w fun e w' => ReadPost w (readAll log) e w' := by
  have HS := Aside0.mk hs
  go_enter Tryz.func29, Tryz.ntmps29
  go_wp2_with fail
  refine (read_calls log w HS.out).mono ?_; rintro e w2 ⟨v1, v2, rfl, h1, h2, hb⟩
  have H1 := Aside0.mk h1
  have H2 := Aside0.mk h2
  have HB := Aside0.mk hb
  clear h1 h2 hb
  go_wp2
  go_ret2
  exact ⟨v1, v2, rfl, H1.out, H2.out, HB.out⟩
theorem read_rows {w0 : World} {l : List (ByteArray × Int)} {e : Ending} {w' : World} (h : ReadPost w0 l e w') : ∃ l1 l2 v1 v2, l1 = l.map (·.1) ∧ l2 = l.map (·.2) ∧ e = .returned (.tuple #[v1, v2]) ∧ Row Kd.string 9 w0 w' v1 l1 ∧ Row (Kd.int .i64) 3 w0 w' v2 l2 ∧ Below w0.heap.size w0 w' := by
  obtain ⟨v1, v2, h1, h2, h3, h4⟩ := h
  exact ⟨_, _, v1, v2, rfl, rfl, h1, h2, h3, h4⟩
structure ReadUp (w0 : World) (l : List (ByteArray × Int)) (e : Ending) (w' : World) : Prop where
  ex : ∃ v1, e = .returned (.tuple #[v1, .int .i64 ((l.map (·.2)).getLast?.getD 0)]) ∧ Row Kd.string 9 w0 w' v1 (l.map (·.1))
  below : Below w0.heap.size w0 w'
theorem logRead_calls (log : ByteArray) (w : World) (hs : log.size ≤ 1099511627776) :
    Calls Tryz.prog 12 #[.string log] w fun e w' => ReadUp w (readAll log) e w' := by
  have HS := Aside0.mk hs
  by_cases h0 : readAll log = []
  · have H0 := Aside0.mk h0
    clear h0
    go_enter Tryz.func12, Tryz.ntmps12
    go_wp2_with fail
    refine (read_calls log w HS.out).mono ?_; rw [H0.out]; rintro e w2 ⟨v1, v2, rfl, h1, h2, hb⟩
    obtain ⟨A1, c1, rfl, l1, k1⟩ := h1.reads
    obtain ⟨A2, c2, rfl, l2, k2⟩ := h2.reads
    have HB := Aside0.mk hb
    clear h1 h2 hb k1 k2
    go_wp2
    go_ret2
    rw [H0.out]
    exact ⟨⟨_, rfl, Row.nil _ _ _ _⟩, HB.out⟩
  · have hpos : 0 < (readAll log).length := List.length_pos_iff.2 h0
    have HP := Aside0.mk hpos
    clear h0
    go_enter Tryz.func12, Tryz.ntmps12
    go_wp2_with fail
    refine (read_calls log w HS.out).mono ?_; intro e w2 hrd
    obtain ⟨l1, l2, v1, v2, hl1, hl2, rfl, h1, h2, hb⟩ := read_rows hrd
    clear hrd
    have hN : l1.length = l2.length := by rw [hl1, hl2]; simp
    have hP : 0 < l2.length := by rw [hl2]; simpa using HP.out
    have HG : Aside0 (∀ v A, Row Kd.string 9 w A v l1 → Below w.heap.size w A → ReadUp w (readAll log) (.returned (.tuple #[v, .int .i64 (l2.getLast?.getD 0)])) A) := ⟨fun v A h1 h2 => by rw [hl2]; rw [hl1] at h1; exact ⟨⟨v, rfl, h1⟩, h2⟩⟩
    clear hl1 hl2
    obtain ⟨A1, c1, rfl, q1, k1⟩ := h1.reads
    obtain ⟨A2, c2, rfl, q2, k2⟩ := h2.reads
    have H1 := Aside0.mk h1
    have HB := Aside0.mk hb
    have hln : (l1.length : Int) ≤ 9223372036854775807 := by have := k1.2.1; omega
    obtain ⟨ad, rfl, x0⟩ := Kd.at_int k2 ((l2.length : Int) - 1) (by omega) (by omega)
    have HX := Aside0.mk (show rd l2 ((l2.length : Int) - 1) = l2.getLast?.getD 0 by
      have e1 : ((l2.length : Int) - 1).toNat = l2.length - 1 := by omega
      rw [List.getLast?_eq_getElem?]
      simp [rd, e1, List.getD_eq_getElem?_getD])
    have e1 : ((l2.length : Int) - 1).toNat = l2.length - 1 := by omega
    have hz : ((l1.length : Int) == 0) = false := beq_false_of_ne (by omega)
    have hz2 : ¬ (l1.length : Int) = 0 := by omega
    have hs0 : IntKind.i64.wrap ((l2.length : Int) - 1) = (l2.length : Int) - 1 := IntWalk.i64_in _ (by omega)
    clear h1 h2 hb k1 k2
    have i1 : (0 : Int) ≤ (l2.length : Int) - 1 := by omega
    have i2 : (l2.length : Int) - 1 < (l2.length : Int) := by omega
    rw [HX.out, e1] at x0
    go_wp2_with fail
    go_quiet (fail)
    go_wp2
    go_ret2
    have := HG.out _ _ (H1.out.below (pw_below_drewN (Below.refl _ _) nq)) (pw_below_drewN HB.out nq)
    rw [hN] at this
    exact this
end Go.Proofs.YtgmdgaioiifgnaaGreat
