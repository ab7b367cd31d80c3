/- Walks of cmp.Compare (texts), byName, slices.IsSortedFunc, labels.Check, cmp.Or, slices.CompareFunc, labels.Order. -/
import Derived.Test.YtgmdgaioiifgnaaGreatLab
import Derived.StillTailTactics
import Derived.Deep.RegionHeld3
import Derived.WalkLawsBesides
set_option linter.unusedVariables false
set_option linter.unusedSimpArgs false
namespace Go.Proofs.YtgmdgaioiifgnaaGreat
open Go.RowKit Go.Proofs.YtgmdgaioiifgnaaGreatW.PrintWords
def cmpS (a b : ByteArray) : Int := if Op.bytesLess a.toList b.toList = true then -1 else if (a.toList == b.toList) = true then 0 else 1
theorem cmpS_range (a b : ByteArray) : -1 ≤ cmpS a b ∧ cmpS a b ≤ 1 := by unfold cmpS; split <;> (try split) <;> omega
set_option maxHeartbeats 400000 in
theorem isNaNS_calls (a : ByteArray) (w : World) : Calls Tryz.prog 93 #[.string a] w fun e w' => e = .returned (.bool false) ∧ w = w' := by
  go_enter Tryz.func93, Tryz.ntmps93
  go_wp2
  go_ret
  exact ⟨by simp, rfl⟩
set_option maxHeartbeats 400000 in
theorem cmpS_calls (a b : ByteArray) (w : World) : Calls Tryz.prog 73 #[.string a, .string b] w fun e w' => e = .returned (.int .i64 (cmpS a b)) ∧ w = w' := by
  by_cases h1 : Op.bytesLess a.toList b.toList = true
  · have HX := Aside0.mk (show cmpS a b = -1 by rw [cmpS, if_pos h1])
    go_enter Tryz.func73, Tryz.ntmps73
    go_wp2_with (go_at_call 93; refine (isNaNS_calls _ _).mono ?_; rintro e w1 ⟨rfl, rfl⟩)
    go_ret
    exact ⟨by rw [HX.out]; rfl, rfl⟩
  · have h1b : Op.bytesLess a.toList b.toList = false := by simpa using h1
    by_cases h2 : (a.toList == b.toList) = true
    · have HX := Aside0.mk (show cmpS a b = 0 by rw [cmpS, if_neg h1, if_pos h2])
      clear h1
      go_enter Tryz.func73, Tryz.ntmps73
      go_wp2_with (go_at_call 93; refine (isNaNS_calls _ _).mono ?_; rintro e w1 ⟨rfl, rfl⟩)
      go_ret
      exact ⟨by rw [HX.out]; rfl, rfl⟩
    · have HX := Aside0.mk (show cmpS a b = 1 by rw [cmpS, if_neg h1, if_neg h2])
      have h2b : (a.toList == b.toList) = false := by simpa using h2
      clear h1 h2
      go_enter Tryz.func73, Tryz.ntmps73
      go_wp2_with (go_at_call 93; refine (isNaNS_calls _ _).mono ?_; rintro e w1 ⟨rfl, rfl⟩)
      go_ret
      exact ⟨by rw [HX.out]; rfl, rfl⟩
set_option maxHeartbeats 400000 in
theorem byName_calls (x y : Lab) (w : World) : Calls Tryz.prog 88 #[.agg #[.string x.n, .string x.v], .agg #[.string y.n, .string y.v]] w fun e w' => e = .returned (.int .i64 (cmpS x.n y.n)) ∧ Below w.heap.size w w' := by
  go_enter Tryz.func88, Tryz.ntmps88
  go_wp2_with (go_at_call 73; refine (cmpS_calls _ _ _).mono ?_; rintro e w1 ⟨rfl, rfl⟩)
  go_ret
  exact ⟨rfl, below_alloc (below_alloc (Below.refl _ _) _) _⟩
def or2 (p q : Int) : Int := if p ≠ 0 then p else q
set_option maxHeartbeats 400000 in
theorem or2_calls (p q : Int) (b : Nat) (W : World) (hW : W.cell? ⟨b, 0, none⟩ = some (.int .i64 p)) (hW1 : W.cell? ⟨b, 1, none⟩ = some (.int .i64 q)) : Calls Tryz.prog 72 #[.slice (some ⟨b, 0, none⟩) 2 2] W fun e w' => e = .returned (.int .i64 (or2 p q)) ∧ W = w' := by
  by_cases hp : p = 0
  · subst hp
    by_cases hq : q = 0
    · subst hq
      go_enter Tryz.func72, Tryz.ntmps72
      go_wp2
      go_rounds 3
      go_ret
      exact ⟨rfl, rfl⟩
    · have hqb : (q != 0) = true := by simpa using hq
      go_enter Tryz.func72, Tryz.ntmps72
      go_wp2
      go_rounds 3
      go_ret
      exact ⟨rfl, rfl⟩
  · have hpb : (p != 0) = true := by simpa using hp
    have HX := Aside0.mk (show or2 p q = p from if_pos hp)
    clear hp
    rw [HX.out]
    go_enter Tryz.func72, Tryz.ntmps72
    go_wp2
    go_rounds 3
    go_ret
    exact ⟨rfl, rfl⟩
set_option maxHeartbeats 400000 in
set_option maxRecDepth 100000 in
theorem orderf_calls (x y : Lab) (w : World) : Calls Tryz.prog 71 #[.agg #[.string x.n, .string x.v], .agg #[.string y.n, .string y.v]] w fun e w' => e = .returned (.int .i64 (or2 (cmpS x.n y.n) (cmpS x.v y.v))) ∧ Below w.heap.size w w' := by
  have HB := Aside0.mk (below_alloc (below_alloc (Below.refl w.heap.size w) (.cells #[.string x.n, .string x.v] 64)) (.cells #[.string y.n, .string y.v] 64))
  go_enter Tryz.func71, Tryz.ntmps71
  go_wp2
  have c0 : ((w.alloc (.cells #[.string x.n, .string x.v] 64)).alloc (.cells #[.string y.n, .string y.v] 64)).cell? ⟨w.heap.size, 0, none⟩ = some (.string x.n) := by simp
  have c1 : ((w.alloc (.cells #[.string x.n, .string x.v] 64)).alloc (.cells #[.string y.n, .string y.v] 64)).cell? ⟨w.heap.size, 1, none⟩ = some (.string x.v) := by simp
  have c2 : ((w.alloc (.cells #[.string x.n, .string x.v] 64)).alloc (.cells #[.string y.n, .string y.v] 64)).cell? ⟨w.heap.size + 1, 0, none⟩ = some (.string y.n) := by simp
  have c3 : ((w.alloc (.cells #[.string x.n, .string x.v] 64)).alloc (.cells #[.string y.n, .string y.v] 64)).cell? ⟨w.heap.size + 1, 1, none⟩ = some (.string y.v) := by simp
  generalize (w.alloc (.cells #[.string x.n, .string x.v] 64)).alloc (.cells #[.string y.n, .string y.v] 64) = W at *
  go_region_held3 (fun U => U.cell? ⟨w.heap.size, 0, none⟩ = some (.string x.n) ∧ U.cell? ⟨w.heap.size, 1, none⟩ = some (.string x.v) ∧ U.cell? ⟨w.heap.size + 1, 0, none⟩ = some (.string y.n) ∧ U.cell? ⟨w.heap.size + 1, 1, none⟩ = some (.string y.v)) (first | exact ⟨c0, c1, c2, c3⟩ | go_keep) (first | (go_at_call 73; refine (cmpS_calls _ _ _).mono ?_; rintro e w2 ⟨rfl, rfl⟩) | (go_at_call 72; refine (or2_calls (cmpS x.n y.n) (cmpS x.v y.v) _ _ (by simp) (by simp)).mono ?_; rintro e w1 ⟨rfl, rfl⟩))
  go_wp2_with fail
  go_ret
  exact ⟨rfl, below_drew (below_alloc HB.out _)⟩
def notLess (l : List Lab) (i : Nat) : Bool := !decide (cmpS (rdLab l (i + 1)).n (rdLab l i).n < 0)
def sortedLab (l : List Lab) : Bool := (List.range (l.length - 1)).all (notLess l)
theorem sorted_no {l : List Lab} {m : Nat} (h : m + 1 < l.length) (hn : cmpS (rdLab l (m + 1)).n (rdLab l m).n < 0) : sortedLab l = false :=
  List.all_eq_false.2 ⟨m, by simp; omega, by simp [notLess, hn]⟩
theorem sorted_yes {l : List Lab} (h : ∀ m, m + 1 < l.length → ¬ cmpS (rdLab l (m + 1)).n (rdLab l m).n < 0) : sortedLab l = true :=
  List.all_eq_true.2 (fun m hm => by have := h m (by simp at hm; omega); simp [notLess, this])
def checkLab (l : List Lab) : Int := if eachLab false l ≠ 0 then eachLab false l else if sortedLab l then 0 else 4
set_option maxHeartbeats 400000 in
set_option maxRecDepth 100000 in
theorem sorted_calls (A : Option Addr) (c : Nat) (l : List Lab) (w : World) (hC : kLab.C w A l.length l) : Calls Tryz.prog 87 #[.slice A l.length c, .func (.func 88) #[] #[]] w fun e w' => e = .returned (.bool (sortedLab l)) ∧ Below w.heap.size w w' := by
  have HC := Aside0.mk hC
  have hln : (l.length : Int) ≤ 9223372036854775807 := by have := hC.2.1; omega
  have HB0 := Aside0.mk (Below.refl w.heap.size w)
  clear hC
  go_enter Tryz.func87, Tryz.ntmps87
  go_wp2
  go_loopw [5] (fun i wr => ∃ k : Int, -1 ≤ k ∧ k < l.length ∧ i = .int .i64 k ∧ Aside0 (∀ m : Nat, k < (m : Int) + 1 → m + 1 < l.length → ¬ cmpS (rdLab l (m + 1)).n (rdLab l m).n < 0) ∧ Aside0 (Below w.heap.size w wr)) (fun i _ => (intOf i).toNat)
  case atStart => exact ⟨(l.length : Int) - 1, by omega, by omega, rfl, ⟨fun m h1 h2 => by omega⟩, HB0⟩
  case round =>
    obtain ⟨k, hk, hk2, rfl, HA, HB⟩ := hrel
    clear HB0
    by_cases hpos : 0 < k
    · obtain ⟨m, rfl⟩ : ∃ m : Nat, k = (m : Int) + 1 := ⟨(k - 1).toNat, by omega⟩
      have hC2 := Kd.C_below HC.out HB.out
      obtain ⟨ad, rfl, h0, h1⟩ := at_lab hC2 (m + 1) (by omega)
      obtain ⟨ad2, e2, h2, h3⟩ := at_lab hC2 m (by omega)
      cases e2
      have t1 : ((m : Int) + 1).toNat = m + 1 := by omega
      have t2 : (m : Int) + 1 - 1 = m := by omega
      have i1 : (0 : Int) ≤ (m : Int) + 1 := by omega
      have i2 : (m : Int) < (l.length : Int) := by omega
      have s1 : IntKind.i64.wrap ((m : Int) + 1 - 1) = m := by rw [t2]; exact IntWalk.i64_in _ (by omega)
      have s2 : IntKind.i64.wrap (m : Int) = m := IntWalk.i64_in _ (by omega)
      go_wp2_with fail
      go_region_held3 (fun W => W.cell? (ad.add ((m + 1) * 2)) = some (.string (rdLab l (m + 1)).n) ∧ W.cell? ⟨(ad.add ((m + 1) * 2)).block, (ad.add ((m + 1) * 2)).off + 1, none⟩ = some (.string (rdLab l (m + 1)).v) ∧ W.cell? (ad.add (m * 2)) = some (.string (rdLab l m).n) ∧ W.cell? ⟨(ad.add (m * 2)).block, (ad.add (m * 2)).off + 1, none⟩ = some (.string (rdLab l m).v)) (first | exact ⟨h0, h1, h2, h3⟩ | (go_split_ands; exact ⟨pw_cell_below hb2 ‹_›, pw_cell_below hb2 ‹_›, pw_cell_below hb2 ‹_›, pw_cell_below hb2 ‹_›⟩) | go_keep) (first | (go_at_call 88; refine (byName_calls (rdLab l (m + 1)) (rdLab l m) _).mono ?_; rintro e w2 ⟨rfl, hb2⟩))
      have HB2 := Aside0.mk (below_step (below_drew HB.out) hb2)
      clear hb2
      by_cases hless : cmpS (rdLab l (m + 1)).n (rdLab l m).n < 0
      · have HX := Aside0.mk (sorted_no (l := l) (m := m) (by omega) hless)
        go_wp2_with fail
        go_ret
        exact ⟨by rw [HX.out]; rfl, HB2.out⟩
      · have HX := Aside0.mk hless
        have hlb : decide (cmpS (rdLab l (m + 1)).n (rdLab l m).n < 0) = false := decide_eq_false hless
        go_wp2_with fail
        all_goals first | (exact absurd ‹cmpS (rdLab l (m + 1)).n (rdLab l m).n < 0› HX.out) | skip
        go_roundw
        case rel => exact ⟨(m : Int), by omega, by omega, by go_num, ⟨fun j h3 h4 => by
          rcases Nat.lt_or_ge m j with h5 | h5
          · have := HA.out j (by omega) h4
            omega
          · obtain rfl : j = m := by omega
            exact HX.out⟩, HB2⟩
        case measure => simp [intOf]
    · have HX := Aside0.mk (sorted_yes (l := l) (fun m hm => HA.out m (by omega) hm))
      go_wp2_with fail
      go_ret
      exact ⟨by rw [HX.out]; rfl, HB.out⟩
set_option maxHeartbeats 400000 in
theorem checkLab_calls (A : Option Addr) (c : Nat) (l : List Lab) (w : World) (hC : kLab.C w A l.length l) (hS : SmallL l) : Calls Tryz.prog 61 #[.slice A l.length c] w fun e w' => e = .returned (.int .i64 (checkLab l)) ∧ Below w.heap.size w w' := by
  have HC := Aside0.mk hC
  clear hC
  by_cases he : eachLab false l = 0
  · have HE := Aside0.mk he
    by_cases hs : sortedLab l = true
    · have HX := Aside0.mk (show checkLab l = 0 by rw [checkLab, if_neg (by simp [he]), if_pos hs])
      have HS2 := Aside0.mk hs
      clear he hs
      go_enter Tryz.func61, Tryz.ntmps61
      go_wp2_with (first | (go_at_call 86; refine (each_calls A c l false _ HC.out hS).mono ?_; rw [HE.out]; rintro e w1 ⟨rfl, hb1⟩) | (go_at_call 87; refine (sorted_calls A c l _ (Kd.C_below HC.out hb1)).mono ?_; rw [HS2.out]; rintro e w2 ⟨rfl, hb2⟩))
      go_ret
      exact ⟨by rw [HX.out]; rfl, below_step hb1 hb2⟩
    · have hs2 : sortedLab l = false := by simpa using hs
      have HX := Aside0.mk (show checkLab l = 4 by rw [checkLab, if_neg (by simp [he]), if_neg hs])
      have HS2 := Aside0.mk hs2
      clear he hs hs2
      go_enter Tryz.func61, Tryz.ntmps61
      go_wp2_with (first | (go_at_call 86; refine (each_calls A c l false _ HC.out hS).mono ?_; rw [HE.out]; rintro e w1 ⟨rfl, hb1⟩) | (go_at_call 87; refine (sorted_calls A c l _ (Kd.C_below HC.out hb1)).mono ?_; rw [HS2.out]; rintro e w2 ⟨rfl, hb2⟩))
      go_ret
      exact ⟨by rw [HX.out]; rfl, below_step hb1 hb2⟩
  · have HX := Aside0.mk (show checkLab l = eachLab false l by rw [checkLab, if_pos he])
    have heb : (eachLab false l != 0) = true := by simpa using he
    go_enter Tryz.func61, Tryz.ntmps61
    go_wp2_with (go_at_call 86; refine (each_calls A c l false _ HC.out hS).mono ?_; rintro e w1 ⟨rfl, hb1⟩)
    go_ret
    exact ⟨by rw [HX.out]; rfl, hb1⟩
def orderLab : List Lab → List Lab → Int
  | [], [] => 0
  | [], _ :: _ => -1
  | _ :: _, [] => 1
  | x :: a, y :: b => if or2 (cmpS x.n y.n) (cmpS x.v y.v) ≠ 0 then or2 (cmpS x.n y.n) (cmpS x.v y.v) else orderLab a b
theorem rd_drop {l : List Lab} {k : Nat} (hk : k < l.length) : l.drop k = rdLab l k :: l.drop (k + 1) := by rw [List.drop_eq_getElem_cons hk, rdLab_eq hk]
set_option maxHeartbeats 1000000 in
set_option maxRecDepth 100000 in
theorem compareF_calls (A B : Option Addr) (c d : Nat) (l m : List Lab) (w : World) (hC : kLab.C w A l.length l) (hD : kLab.C w B m.length m) : Calls Tryz.prog 70 #[.slice A l.length c, .slice B m.length d, .func (.func 71) #[] #[]] w fun e w' => e = .returned (.int .i64 (orderLab l m)) ∧ Below w.heap.size w w' := by
  have HC := Aside0.mk hC
  have HD := Aside0.mk hD
  have hln : (l.length : Int) ≤ 9223372036854775807 := by have := hC.2.1; omega
  have hlm : (m.length : Int) ≤ 9223372036854775807 := by have := hD.2.1; omega
  have HB0 := Aside0.mk (Below.refl w.heap.size w)
  clear hC hD
  go_enter Tryz.func70, Tryz.ntmps70
  go_wp2
  go_loopw [13] (fun i wr => ∃ k : Nat, k ≤ l.length ∧ i = .int .i64 k ∧ Aside0 (k ≤ m.length ∧ orderLab (l.drop k) (m.drop k) = orderLab l m) ∧ Aside0 (Below w.heap.size w wr)) (fun i _ => l.length - (intOf i).toNat)
  case atStart => exact ⟨0, by omega, rfl, ⟨by omega, rfl⟩, HB0⟩
  case round =>
    obtain ⟨k, hk, rfl, HO, HB⟩ := hrel
    clear HB0
    by_cases hlt : k < l.length
    · have hC2 := Kd.C_below HC.out HB.out
      obtain ⟨ad, rfl, h0, h1⟩ := at_lab hC2 k hlt
      have hltb : (k : Int) < (l.length : Int) := by omega
      by_cases hm : k < m.length
      · have hD2 := Kd.C_below HD.out HB.out
        obtain ⟨bd, rfl, g0, g1⟩ := at_lab hD2 k hm
        have hmb : ¬ (m.length : Int) ≤ (k : Int) := by omega
        have hmb2 : (k : Int) < (m.length : Int) := by omega
        by_cases hz : or2 (cmpS (rdLab l k).n (rdLab m k).n) (cmpS (rdLab l k).v (rdLab m k).v) = 0
        · have g2 := pw_cell_below (below_alloc (Below.refl wr.heap.size wr) (.cells #[.string (rdLab l k).n, .string (rdLab l k).v] 64)) g0
          have g3 := pw_cell_below (below_alloc (Below.refl wr.heap.size wr) (.cells #[.string (rdLab l k).n, .string (rdLab l k).v] 64)) g1
          have HZ := Aside0.mk hz
          have HN := Aside0.mk (show orderLab (l.drop (k + 1)) (m.drop (k + 1)) = orderLab l m by rw [← HO.out.2, rd_drop hlt, rd_drop hm]; exact (if_neg (by simp [hz])).symm)
          clear hz
          go_wp2_with (go_at_call 71; refine (orderf_calls (rdLab l k) (rdLab m k) _).mono ?_; rw [HZ.out]; rintro e w2 ⟨rfl, hb2⟩)
          go_roundw
          case rel => exact ⟨k + 1, by omega, by go_num, ⟨by omega, HN.out⟩, ⟨below_step (below_alloc (below_alloc HB.out _) _) hb2⟩⟩
          case measure => simp [intOf]; omega
        · have g2 := pw_cell_below (below_alloc (Below.refl wr.heap.size wr) (.cells #[.string (rdLab l k).n, .string (rdLab l k).v] 64)) g0
          have g3 := pw_cell_below (below_alloc (Below.refl wr.heap.size wr) (.cells #[.string (rdLab l k).n, .string (rdLab l k).v] 64)) g1
          have HN := Aside0.mk (show orderLab l m = or2 (cmpS (rdLab l k).n (rdLab m k).n) (cmpS (rdLab l k).v (rdLab m k).v) by rw [← HO.out.2, rd_drop hlt, rd_drop hm]; exact if_pos hz)
          have hzb : (or2 (cmpS (rdLab l k).n (rdLab m k).n) (cmpS (rdLab l k).v (rdLab m k).v) != 0) = true := by simpa using hz
          go_wp2_with (go_at_call 71; refine (orderf_calls (rdLab l k) (rdLab m k) _).mono ?_; rintro e w2 ⟨rfl, hb2⟩)
          go_ret
          exact ⟨by rw [HN.out]; rfl, below_step (below_alloc (below_alloc HB.out _) _) hb2⟩
      · have hmb : (m.length : Int) ≤ (k : Int) := by omega
        have HN := Aside0.mk (show orderLab l m = 1 by rw [← HO.out.2, rd_drop hlt, show m.drop k = [] from List.drop_eq_nil_of_le (by omega)]; rfl)
        go_wp2_with fail
        go_ret
        exact ⟨by rw [HN.out]; rfl, below_alloc HB.out _⟩
    · obtain rfl : k = l.length := by omega
      by_cases hm : l.length < m.length
      · have hmb : (l.length : Int) < (m.length : Int) := by omega
        have HN := Aside0.mk (show orderLab l m = -1 by rw [← HO.out.2, List.drop_length, rd_drop hm]; rfl)
        go_wp2_with fail
        go_ret
        exact ⟨by rw [HN.out]; rfl, HB.out⟩
      · have hmb : ¬ (l.length : Int) < (m.length : Int) := by omega
        have HN := Aside0.mk (show orderLab l m = 0 by rw [← HO.out.2, List.drop_length, show m.drop l.length = [] from List.drop_eq_nil_of_le (by omega)]; rfl)
        go_wp2_with fail
        go_ret
        exact ⟨by rw [HN.out]; rfl, HB.out⟩
set_option maxHeartbeats 400000 in
theorem order_calls (A B : Option Addr) (c d : Nat) (l m : List Lab) (w : World) (hC : kLab.C w A l.length l) (hD : kLab.C w B m.length m) : Calls Tryz.prog 42 #[.slice A l.length c, .slice B m.length d] w fun e w' => e = .returned (.int .i64 (orderLab l m)) ∧ Below w.heap.size w w' := by
  go_enter Tryz.func42, Tryz.ntmps42
  go_wp2_with (go_at_call 70; refine (compareF_calls A B c d l m _ hC hD).mono ?_; rintro e w1 ⟨rfl, hb1⟩)
  go_ret
  exact ⟨rfl, hb1⟩
end Go.Proofs.YtgmdgaioiifgnaaGreat
