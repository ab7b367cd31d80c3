/- Walks of labels.each, byName, Check. -/
import Derived.Test.YtgmdgaioiifgnaaGreatKinds
import Derived.Test.YtgmdgaioiifgnaaGreatA
import Derived.Test.YtgmdgaioiifgnaaGreatD
set_option linter.unusedVariables false
set_option linter.unusedSimpArgs false
namespace Go.Proofs.YtgmdgaioiifgnaaGreat
open Go.RowKit Go.Proofs.YtgmdgaioiifgnaaGreatW.PrintWords
def badLab (empty : Bool) (x : Lab) : Option Int :=
  if isName x.n = false ∨ (x.v.size = 0 ∧ empty = false) then some 1 else if 100 < x.v.size then some 2 else none
def twinAt (l : List Lab) (k : Nat) : Bool := (l.take k).any fun y => decide (y.n = (rdLab l k).n)
def twins (l : List Lab) : Bool := (List.range l.length).any (twinAt l)
def eachLab (empty : Bool) (l : List Lab) : Int :=
  if 20 < l.length then 2 else match l.findSome? (badLab empty) with
    | some e => e
    | none => if twins l then 6 else 0
theorem each_bad {empty : Bool} {l : List Lab} {k : Nat} {e : Int} (h20 : ¬ 20 < l.length) (h : ∀ x ∈ l.take k, badLab empty x = none) (hk : k < l.length) (he : badLab empty (rdLab l k) = some e) : eachLab empty l = e := by
  rw [rdLab_eq hk] at he
  rw [eachLab, if_neg h20, list_findSome_at h hk he]
theorem each_good {empty : Bool} {l : List Lab} (h20 : ¬ 20 < l.length) (h : ∀ x ∈ l.take l.length, badLab empty x = none) : eachLab empty l = if twins l then 6 else 0 := by
  rw [List.take_length] at h
  rw [eachLab, if_neg h20, List.findSome?_eq_none_iff.2 h]
theorem twins_at {l : List Lab} {k : Nat} (hk : k < l.length) (h : twinAt l k = true) : twins l = true := List.any_eq_true.2 ⟨k, by simpa using hk, h⟩
theorem twins_none {l : List Lab} (h : ∀ i, i < l.length → twinAt l i = false) : twins l = false := List.any_eq_false.2 (fun i hi => by rw [h i (by simpa using hi)]; simp)
/-- The names that were met: what the map tells of them. -/
def Met (M : List (ByteArray × Value)) (l : List Lab) (k : Nat) : Prop := ∀ x, mget M x = if (l.take k).any (fun y => decide (y.n = x)) then some (.bool true) else none
theorem Met.next {M : List (ByteArray × Value)} {l : List Lab} {k : Nat} (h : Met M l k) (hk : k < l.length) : Met (mput M (rdLab l k).n (.bool true)) l (k + 1) := by
  intro x
  rw [List.take_succ_eq_append_getElem hk, List.any_append, ← rdLab_eq hk]
  by_cases hx : x = (rdLab l k).n
  · subst hx; rw [mget_put_same]; simp
  · rw [mget_put_other _ _ hx, h x]
    have : decide ((rdLab l k).n = x) = false := decide_eq_false (fun e => hx e.symm)
    simp [this]
set_option maxHeartbeats 1000000 in
set_option maxRecDepth 100000 in
theorem each_calls (A : Option Addr) (c : Nat) (l : List Lab) (empty : Bool) (w : World) (hC : kLab.C w A l.length l) (hS : SmallL l) :
    Calls Tryz.prog 86 #[.slice A l.length c, .bool empty] w fun e w' => e = .returned (.int .i64 (eachLab empty l)) ∧ Below w.heap.size w w' := by
  have HC := Aside0.mk hC
  have HS := Aside0.mk hS
  have HB0 := Aside0.mk (Below.refl w.heap.size w)
  clear hC hS
  have hln : (l.length : Int) ≤ 9223372036854775807 := by have := HC.out.2.1; omega
  by_cases h20 : 20 < l.length
  · have h20b : (20 : Int) < (l.length : Int) := by omega
    go_enter Tryz.func86, Tryz.ntmps86
    go_wp2
    go_ret
    exact ⟨by rw [eachLab, if_pos h20]; rfl, HB0.out⟩
  · have h20b : ¬ (20 : Int) < (l.length : Int) := by omega
    go_enter Tryz.func86, Tryz.ntmps86
    go_wp2
    go_loopw [15] (fun i wr => ∃ k : Nat, k ≤ l.length ∧ i = .int .i64 k ∧ Aside0 (Below w.heap.size w wr) ∧ Aside0 (∀ x ∈ l.take k, badLab empty x = none)) (fun i _ => l.length - (intOf i).toNat)
    case atStart => exact ⟨0, by omega, rfl, HB0, ⟨by simp⟩⟩
    case round =>
      clear HB0
      obtain ⟨k, hk, rfl, HB, HN⟩ := hrel
      by_cases hlt : k < l.length
      · have hC2 := Kd.C_below HC.out HB.out
        obtain ⟨ad, rfl, h0, h1⟩ := at_lab hC2 k hlt
        obtain ⟨s1, s2⟩ := HS.out.at k hlt
        have hltb : (k : Int) < (l.length : Int) := by omega
        have hcs : isName (rdLab l k).n = false ∨ (isName (rdLab l k).n = true ∧ (rdLab l k).v.size = 0 ∧ empty = false) ∨ (isName (rdLab l k).n = true ∧ (rdLab l k).v.size = 0 ∧ empty = true) ∨ (isName (rdLab l k).n = true ∧ ¬ (rdLab l k).v.size = 0 ∧ 100 < (rdLab l k).v.size) ∨ (isName (rdLab l k).n = true ∧ ¬ (rdLab l k).v.size = 0 ∧ ¬ 100 < (rdLab l k).v.size) := by
          by_cases h1 : isName (rdLab l k).n = false
          · exact .inl h1
          · have h1' : isName (rdLab l k).n = true := by simpa using h1
            by_cases h2 : (rdLab l k).v.size = 0
            · cases empty
              · exact .inr (.inl ⟨h1', h2, rfl⟩)
              · exact .inr (.inr (.inl ⟨h1', h2, rfl⟩))
            · by_cases h3 : 100 < (rdLab l k).v.size
              · exact .inr (.inr (.inr (.inl ⟨h1', h2, h3⟩)))
              · exact .inr (.inr (.inr (.inr ⟨h1', h2, h3⟩)))
        rcases hcs with hb | ⟨hn, hv, rfl⟩ | ⟨hn, hv, rfl⟩ | ⟨hn, hv, hv2⟩ | ⟨hn, hv, hv2⟩
        · have HX := Aside0.mk (each_bad (e := 1) h20 HN.out hlt (by rw [badLab, if_pos (.inl hb)]))
          have HNM := Aside0.mk hb
          clear hb
          go_wp2_with (go_at_call 100; refine (isName_calls _ _ (by omega)).mono ?_; rw [HNM.out]; rintro e w2 ⟨rfl, hb2⟩)
          go_ret
          exact ⟨by rw [HX.out]; rfl, below_step (below_alloc HB.out _) hb2⟩
        · have HX := Aside0.mk (each_bad (e := 1) h20 HN.out hlt (by rw [badLab, if_pos (.inr ⟨hv, rfl⟩)]))
          have hve : (rdLab l k).v.toList = [] := List.eq_nil_of_length_eq_zero (by rw [Lib.toList_data, ← Lib.size_eq, hv])
          have HNM := Aside0.mk hn
          clear hn hv
          go_wp2_with (go_at_call 100; refine (isName_calls _ _ (by omega)).mono ?_; rw [HNM.out]; rintro e w2 ⟨rfl, hb2⟩; have c0 := new_cells hb2 0; have c1 := new_cells hb2 1; simp at c0 c1)
          go_ret
          exact ⟨by rw [HX.out]; rfl, below_step (below_alloc HB.out _) hb2⟩
        · have HX := Aside0.mk (show badLab true (rdLab l k) = none by rw [badLab, if_neg (by simp [hn]), if_neg (by omega)])
          have hve : (rdLab l k).v.toList = [] := List.eq_nil_of_length_eq_zero (by rw [Lib.toList_data, ← Lib.size_eq, hv])
          have hvs : ¬ (100 : Int) < ((rdLab l k).v.size : Int) := by omega
          have HNM := Aside0.mk hn
          clear hn hv
          go_wp2_with (go_at_call 100; refine (isName_calls _ _ (by omega)).mono ?_; rw [HNM.out]; rintro e w2 ⟨rfl, hb2⟩; have c0 := new_cells hb2 0; have c1 := new_cells hb2 1; simp at c0 c1)
          go_roundw
          case rel => exact ⟨k + 1, by omega, by go_num, ⟨below_step (below_alloc HB.out _) hb2⟩, ⟨take_succ_all HN.out hlt (by rw [← rdLab_eq hlt]; exact HX.out)⟩⟩
          case measure => simp [intOf]; omega
        · have HX := Aside0.mk (each_bad (e := 2) h20 HN.out hlt (by rw [badLab, if_neg (by simp [hn]; exact fun e => (hv (by rw [e]; rfl)).elim), if_pos hv2]))
          have hve := nonempty_of (rdLab l k).v hv
          have hvs : (100 : Int) < ((rdLab l k).v.size : Int) := by omega
          have HNM := Aside0.mk hn
          clear hn hv
          go_wp2_with (go_at_call 100; refine (isName_calls _ _ (by omega)).mono ?_; rw [HNM.out]; rintro e w2 ⟨rfl, hb2⟩; have c0 := new_cells hb2 0; have c1 := new_cells hb2 1; simp at c0 c1)
          go_ret
          exact ⟨by rw [HX.out]; rfl, below_step (below_alloc HB.out _) hb2⟩
        · have HX := Aside0.mk (show badLab empty (rdLab l k) = none by rw [badLab, if_neg (by simp [hn]; exact fun e => (hv (by rw [e]; rfl)).elim), if_neg hv2])
          have hve := nonempty_of (rdLab l k).v hv
          have hvs : ¬ (100 : Int) < ((rdLab l k).v.size : Int) := by omega
          have HNM := Aside0.mk hn
          clear hn hv
          go_wp2_with (go_at_call 100; refine (isName_calls _ _ (by omega)).mono ?_; rw [HNM.out]; rintro e w2 ⟨rfl, hb2⟩; have c0 := new_cells hb2 0; have c1 := new_cells hb2 1; simp at c0 c1)
          go_roundw
          case rel => exact ⟨k + 1, by omega, by go_num, ⟨below_step (below_alloc HB.out _) hb2⟩, ⟨take_succ_all HN.out hlt (by rw [← rdLab_eq hlt]; exact HX.out)⟩⟩
          case measure => simp [intOf]; omega
      · obtain rfl : k = l.length := by omega
        have HG := Aside0.mk (each_good h20 HN.out)
        clear HN
        have hmm := @run_makeMap Tryz.prog
        go_wp2
        have HM0 := Aside0.mk (MapOf.made keyS wr)
        have hbm : w.heap.size ≤ wr.heap.size := HB.out.size
        have HB1 := Aside0.mk (below_alloc HB.out (.map #[] 0))
        obtain ⟨W1, hW1⟩ : ∃ W1, W1 = wr.alloc (.map #[] 0) := ⟨_, rfl⟩
        rw [← hW1] at HM0 HB1 ⊢
        generalize wr.heap.size = bm at *
        clear hmm hW1 HB
        go_loopw [40] (fun i W => ∃ (k : Nat) (M : List (ByteArray × Value)), k ≤ l.length ∧ i = .int .i64 k ∧ Aside0 (MapOf keyS W bm M) ∧ Aside0 (Met M l k) ∧ Aside0 (∀ i, i < k → twinAt l i = false) ∧ Aside0 (Below w.heap.size w W)) (fun i _ => l.length - (intOf i).toNat)
        case atStart => exact ⟨0, [], by omega, rfl, HM0, ⟨fun x => by simp [mget]⟩, ⟨fun i hi => by omega⟩, HB1⟩
        case round =>
          clear HM0 HB1
          obtain ⟨k, M, hk, rfl, HM, HMet, HT, HB⟩ := hrel
          by_cases hlt : k < l.length
          · have hC2 := Kd.C_below HC.out HB.out
            obtain ⟨ad, rfl, h0, h1⟩ := at_lab hC2 k hlt
            have hltb : (k : Int) < (l.length : Int) := by omega
            by_cases htw : twinAt l k = true
            · have HX := Aside0.mk (show eachLab empty l = 6 by rw [HG.out, if_pos (twins_at hlt htw)])
              have HGet : Aside0 (mget M (rdLab l k).n = some (.bool true)) := ⟨(HMet.out _).trans (if_pos htw)⟩
              go_wp2_with (at_lookup; refine map_lookup keyS rfl (.tmp 44) (.tmp 46) false rfl Tryz.underlying90 Tryz.underlying9 Tryz.zeroValue4 (HM.out.below _ (below_alloc (Below.refl _ _) _)) rfl (rdLab l k).n rfl ?_; simp only [Bool.false_eq_true, if_false, HGet.out, Option.getD_some])
              go_ret
              exact ⟨by rw [HX.out]; rfl, below_alloc HB.out _⟩
            · have htw2 : twinAt l k = false := by simpa using htw
              have HTW := Aside0.mk htw2
              have HGet : Aside0 (mget M (rdLab l k).n = none) := ⟨(HMet.out _).trans (if_neg htw)⟩
              clear htw htw2
              go_wp2_with (first | (at_lookup; refine map_lookup keyS rfl (.tmp 44) (.tmp 46) false rfl Tryz.underlying90 Tryz.underlying9 Tryz.zeroValue4 (HM.out.below _ (below_alloc (Below.refl _ _) _)) rfl (rdLab l k).n rfl ?_; simp only [Bool.false_eq_true, if_false, HGet.out, Option.getD_none]) | (at_mapUpdate; refine map_update keyS rfl (.tmp 48) (.tmp 50) (.const (.bool true)) rfl Tryz.underlying90 Tryz.underlying9 (HM.out.below _ (below_alloc (Below.refl _ _) _)) rfl (rdLab l k).n rfl (.bool true) rfl ?_; intro w5 hm5 hg5; have HM5 := Aside0.mk hm5; have HB5 := Aside0.mk (pw_below_grown (below_alloc HB.out _) (some bm) (by simp; have := HB.out.size; omega) hg5 (fun q hq => by injection hq with hq; omega)); clear hm5 hg5))
              go_roundw
              case rel => exact ⟨k + 1, _, by omega, by go_num, HM5, ⟨HMet.out.next hlt⟩, ⟨fun i hi => by
                rcases Nat.lt_or_ge i k with h | h
                · exact HT.out i h
                · obtain rfl : i = k := by omega
                  exact HTW.out⟩, HB5⟩
              case measure => simp [intOf]; omega
          · obtain rfl : k = l.length := by omega
            have HX := Aside0.mk (show eachLab empty l = 0 by rw [HG.out, twins_none HT.out]; rfl)
            go_wp2
            go_ret
            exact ⟨by rw [HX.out]; rfl, HB.out⟩
end Go.Proofs.YtgmdgaioiifgnaaGreat
